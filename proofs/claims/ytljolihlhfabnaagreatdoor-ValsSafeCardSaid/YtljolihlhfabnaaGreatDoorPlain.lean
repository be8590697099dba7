/-
  THE PLAIN MODEL OF A DISK: files by their names, kept in the names' order; what each call of it makes of it. No program in sight.
-/
import Derived.Maps.OwnSet
namespace Go.Proofs.YtljolihlhfabnaaGreatDoor
open Go Go.Maps Go.WideShapes

abbrev Bs := List UInt8

/-- A file: its bytes, and how many of them are safe. -/
structure FileM where
  has : ByteArray
  safe : Int

/-- A file as data. -/
def fileD (f : FileM) : DataW Unit := .agg [.lit (.string f.has.data.toList), .lit (.int .i64 f.safe)]
/-- A file as a value. -/
def fileV (f : FileM) : Value := .agg #[.string f.has, .int .i64 f.safe]
/-- How a value reads as a file. -/
def fileR (v : Value) : Option (DataW Unit × List MemPlace) :=
  match v with
  | .agg cs => (match cs.toList with
    | [.string s, .int .i64 n] => some (.agg [.lit (.string s.data.toList), .lit (.int .i64 n)], [])
    | _ => none)
  | _ => none
theorem fileR_mk (f : FileM) : fileR (fileV f) = some (fileD f, []) := rfl
theorem bytes_ext {a b : ByteArray} (h : a.data.toList = b.data.toList) : a = b := by
  cases a; cases b; simp only at h; congr; exact Array.toList_inj.1 h
theorem fileD_inj {f g : FileM} (h : fileD f = fileD g) : f = g := by
  obtain ⟨a, i⟩ := f
  obtain ⟨b, j⟩ := g
  simp only [fileD, DataW.agg.injEq, List.cons.injEq, DataW.lit.injEq, Lit.string.injEq, Lit.int.injEq, true_and, and_true] at h
  obtain ⟨h1, h2⟩ := h
  rw [bytes_ext h1, h2]
theorem fileR_inv {v : Value} {y : DataW Unit × List MemPlace} (h : fileR v = some y) : ∃ f, v = fileV f ∧ y = (fileD f, []) := by
  unfold fileR at h
  split at h
  · rename_i cs
    split at h
    · rename_i s n hs
      cases h
      refine ⟨⟨s, n⟩, ?_, rfl⟩
      have : cs = #[.string s, .int .i64 n] := by
        rw [← Array.toList_inj, hs]
      rw [this]; rfl
    · cases h
  · cases h
theorem fileR_at {v : Value} {f : FileM} {ps : List MemPlace} (h : fileR v = some (fileD f, ps)) : v = fileV f := by
  obtain ⟨g, rfl, hg⟩ := fileR_inv h
  simp only [Prod.mk.injEq] at hg
  rw [fileD_inj hg.1]

/-- The files, in the order of their names. -/
abbrev Files := List (Bs × FileM)
def zeroF : FileM := ⟨ByteArray.empty, 0⟩
def hasF (fs : Files) (k : Bs) : Bool := fs.any fun p => p.1 == k
def getF (fs : Files) (k : Bs) : FileM := match fs.find? (fun p => p.1 == k) with | some p => p.2 | none => zeroF
def insF (x : Bs × FileM) : Files → Files
  | [] => [x]
  | y :: r => if bytesBefore x.1 y.1 then x :: y :: r else y :: insF x r
def delF (fs : Files) (k : Bs) : Files := fs.filter fun p => !(p.1 == k)
def putF (fs : Files) (k : Bs) (f : FileM) : Files := insF (k, f) (delF fs k)
/-- The files as a map's datum. -/
def filesD (fs : Files) : DataW Unit := .map (fs.map fun p => (Lit.string p.1, fileD p.2))
theorem filesD_has (fs : Files) (k : Bs) : Maps.has (filesD fs) (.string k) = hasF fs k := by
  simp [filesD, Maps.has, hasF, List.any_map, Function.comp_def, Lit.sameKey]
theorem filesD_at (fs : Files) (k : Bs) : (filesD fs).atKey (.string k) (fileD zeroF) = fileD (getF fs k) := by
  simp only [filesD, DataW.atKey, getF, List.find?_map, Function.comp_def, Lit.sameKey]
  cases fs.find? (fun p => p.1 == k) <;> rfl
theorem filesD_ins (x : Bs × FileM) : ∀ fs : Files, DataW.insert (Lit.string x.1, fileD x.2) (fs.map fun p => (Lit.string p.1, fileD p.2)) = (insF x fs).map fun p => (Lit.string p.1, fileD p.2)
  | [] => rfl
  | y :: r => by
    cases h : bytesBefore x.1 y.1 <;> simp [DataW.insert, insF, Lit.before, h, filesD_ins x r]
theorem filesD_del (fs : Files) (k : Bs) : (filesD fs).del (.string k) = filesD (delF fs k) := by
  simp [filesD, DataW.del, delF, List.filter_map, Function.comp_def, Lit.sameKey]
theorem filesD_put (fs : Files) (k : Bs) (f : FileM) : (filesD fs).put (.string k) (fileD f) = filesD (putF fs k f) := by
  have h := filesD_ins (k, f) (delF fs k)
  have : (fs.map fun p => (Lit.string p.1, fileD p.2)).filter (fun p => !p.1.sameKey (.string k)) = (delF fs k).map fun p => (Lit.string p.1, fileD p.2) := by
    simp [delF, List.filter_map, Function.comp_def, Lit.sameKey]
  simp only [filesD, DataW.put, this]
  rw [h]; rfl
theorem filesD_size (fs : Files) : Maps.size (filesD fs) = fs.length := by simp [filesD, Maps.size]

/-- A disk. -/
structure DiskM where
  room : Int
  used : Int
  files : Files
  fused : Bool
  down : Bool
  left : Int

/-- May a name be? -/
def okByte (c : UInt8) : Bool := (97 ≤ c && c ≤ 122) || (48 ≤ c && c ≤ 57) || c == 46
def mayN (k : Bs) : Bool := !k.isEmpty && decide (k.length ≤ 32) && k.all okByte

/-- The disk takes one call more, or is down. -/
def DiskM.ready (d : DiskM) : Bool × DiskM :=
  if d.fused && d.left == 0 then (false, { d with down := true })
  else if d.fused && !d.down then (true, { d with left := d.left - 1 })
  else (!d.down, d)
def DiskM.set (d : DiskM) (k : Bs) (f : FileM) : DiskM :=
  { d with used := d.used + ((f.has.size : Int) - ((getF d.files k).has.size : Int)), files := putF d.files k f }
def DiskM.drop (d : DiskM) (k : Bs) : DiskM :=
  { d with used := d.used - ((getF d.files k).has.size : Int), files := delF d.files k }
/-- What is known of a file: its error. -/
def DiskM.known (d : DiskM) (k : Bs) : Int := if !mayN k then 20 else if !hasF d.files k then 5 else 0
def DiskM.append (d : DiskM) (k : Bs) (data : ByteArray) : Int × DiskM :=
  if mayN k = false then (20, d)
  else if d.room - d.used < data.size ∨ (!hasF d.files k && decide (64 ≤ d.files.length)) = true then (22, d)
  else if d.ready.1 = false then (21, d.ready.2)
  else (0, d.ready.2.set k ⟨(getF d.files k).has ++ data, (getF d.files k).safe⟩)
def DiskM.cut (d : DiskM) (k : Bs) (n : Int) : Int × DiskM :=
  if d.known k ≠ 0 then (d.known k, d)
  else if n < 0 ∨ ((getF d.files k).has.size : Int) < n then (1, d)
  else if d.ready.1 = false then (21, d.ready.2)
  else (0, d.ready.2.set k ⟨(getF d.files k).has.extract 0 n.toNat, min (getF d.files k).safe n⟩)
def DiskM.sync (d : DiskM) : Int × DiskM :=
  if d.ready.1 = false then (21, d.ready.2)
  else (0, { d.ready.2 with files := d.files.map fun p => (p.1, ⟨p.2.has, p.2.has.size⟩) })
def DiskM.remove (d : DiskM) (k : Bs) : Int × DiskM :=
  if d.known k ≠ 0 then (d.known k, d)
  else if d.ready.1 = false then (21, d.ready.2)
  else (0, d.ready.2.drop k)
end Go.Proofs.YtljolihlhfabnaaGreatDoor
