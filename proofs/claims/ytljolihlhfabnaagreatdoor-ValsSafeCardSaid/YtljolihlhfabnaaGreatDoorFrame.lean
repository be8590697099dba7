/-
  WHAT A CALL LEAVES: all blocks that were there, but for those that it names, are as they were. And the words on memory: a struct's block, a disk.
-/
import Derived.Test.YtljolihlhfabnaaGreatDoorProg
import Derived.Test.YtljolihlhfabnaaGreatDoorPlain
import Derived.WalkKit
import Derived.WalkLawsBesides
import Derived.WalkSpells
import Derived.Maps.RangeWalk
import Derived.Lib.Hide
import Derived.KernelRfl
import Derived.StillTailTactics
import Derived.Maps.AppendAt
import Derived.Lib.AppendStr
import Derived.IntWalk
import Derived.Deep.LoopGhost
import Derived.Deep.DeepCutAuto
import Derived.Deep.QuietTactic
import Derived.BigQuiet
namespace Go.Proofs.YtljolihlhfabnaaGreatDoor
open Go Go.RowKit Go.Maps

/-- w' is w but for the blocks in S and new ones. -/
structure Fr (S : List Nat) (w w' : World) : Prop where
  os : w'.os = w.os
  tape : w'.tape = w.tape
  output : w'.output = w.output
  size : w.heap.size ≤ w'.heap.size
  block : ∀ k, k < w.heap.size → k ∉ S → w'.heap[k]? = w.heap[k]?
theorem Fr.refl (S : List Nat) (w : World) : Fr S w w := ⟨rfl, rfl, rfl, Nat.le_refl _, fun _ _ _ => rfl⟩
theorem Fr.trans {S : List Nat} {a b c : World} (h : Fr S a b) (k : Fr S b c) : Fr S a c :=
  ⟨k.os.trans h.os, k.tape.trans h.tape, k.output.trans h.output, Nat.le_trans h.size k.size, fun i hi hs => (k.block i (Nat.lt_of_lt_of_le hi h.size) hs).trans (h.block i hi hs)⟩
theorem Fr.mono {S T : List Nat} {w w' : World} (h : Fr S w w') (hs : ∀ k ∈ S, k ∈ T) : Fr T w w' :=
  ⟨h.os, h.tape, h.output, h.size, fun k hk hn => h.block k hk (fun e => hn (hs k e))⟩
theorem Fr.drew {S : List Nat} {a w : World} (h : Fr S a w) : Fr S a w.drew := ⟨h.os, h.tape, h.output, h.size, h.block⟩
theorem Fr.drewN {S : List Nat} {a w : World} (h : Fr S a w) (n : Nat) : Fr S a (w.drewN n) := ⟨h.os, h.tape, h.output, h.size, h.block⟩
theorem Fr.alloc {S : List Nat} {a w : World} (h : Fr S a w) (o : Obj) : Fr S a (w.alloc o) :=
  h.trans ⟨rfl, rfl, rfl, by simp, fun k hk _ => Below.heap_alloc _ _ _ hk⟩
theorem Fr.setIn {S : List Nat} {a w : World} (h : Fr S a w) {p : Addr} (hp : p.block ∈ S) (u : Value) : Fr S a (w.setCell p u) :=
  h.trans ⟨rfl, rfl, rfl, by simp [World.setCell], fun k _ hs => Below.heap_setCell _ _ _ _ (fun e => hs (e ▸ hp))⟩
theorem Fr.setNew {S : List Nat} {a w : World} (h : Fr S a w) {p : Addr} (hp : a.heap.size ≤ p.block) (u : Value) : Fr S a (w.setCell p u) :=
  ⟨h.os, h.tape, h.output, by simpa [World.setCell] using h.size, fun k hk hs => by rw [Below.heap_setCell _ _ _ _ (by omega)]; exact h.block k hk hs⟩
theorem Fr.below {S : List Nat} {a w : World} (h : Below a.heap.size a w) : Fr S a w := ⟨h.os, h.tape, h.output, h.size, fun k hk _ => h.block k hk⟩
theorem Fr.toBelow {a w : World} (h : Fr [] a w) : Below a.heap.size a w := ⟨h.os, h.tape, h.output, h.size, fun k hk => h.block k hk (by simp)⟩
theorem Fr.grown {S : List Nat} {a w w' : World} {row : Option Nat} (h : Fr S a w) (g : w.grownBy w' row) (hr : ∀ k, row = some k → k ∈ S ∨ a.heap.size ≤ k) : Fr S a w' :=
  ⟨g.os.trans h.os, g.tape.trans h.tape, g.output.trans h.output, Nat.le_trans h.size g.size, fun k hk hs => by
    rw [g.block k (Nat.lt_of_lt_of_le hk h.size) (fun e => by rcases hr k e.symm with h1 | h1; exact hs h1; omega)]; exact h.block k hk hs⟩
/-- A callee may write into blocks that are new to the caller. -/
theorem Fr.thenNew {S T : List Nat} {a b c : World} (h : Fr S a b) (k : Fr T b c) (ht : ∀ x ∈ T, x ∈ S ∨ a.heap.size ≤ x) : Fr S a c :=
  ⟨k.os.trans h.os, k.tape.trans h.tape, k.output.trans h.output, Nat.le_trans h.size k.size, fun i hi hs => (k.block i (Nat.lt_of_lt_of_le hi h.size) (fun e => by rcases ht i e with h1 | h1; exact hs h1; omega)).trans (h.block i hi hs)⟩
theorem Fr.blk {S : List Nat} {w w' : World} (h : Fr S w w') {k : Nat} {o : Obj} (hk : w.heap[k]? = some o) (hs : k ∉ S) : w'.heap[k]? = some o :=
  (h.block k (Array.getElem?_eq_some_iff.1 hk).1 hs).trans hk
theorem Fr.cell {S : List Nat} {w w' : World} (h : Fr S w w') {p : Addr} (hk : p.block < w.heap.size) (hs : p.block ∉ S) : w'.cell? p = w.cell? p := World.cell?_of_block (w := w) (h.block p.block hk hs)
theorem Fr.frozen {S : List Nat} {w w' : World} (h : Fr S w w') {p : Addr} (hk : p.block < w.heap.size) (hs : p.block ∉ S) : w'.frozen? p = w.frozen? p := World.frozen?_of_block (w := w) (h.block p.block hk hs)

/-- A cell of a block that is known whole. -/
theorem cell_at {w : World} {b : Nat} {cs : Array Value} {t : TypeId} {fz : Nat × Nat} (h : w.heap[b]? = some (.cells cs t fz)) (j : Nat) : w.cell? ⟨b, j, none⟩ = cs[j]? := by
  simp [World.cell?, h]
theorem free_at {w : World} {b : Nat} {cs : Array Value} {t : TypeId} (h : w.heap[b]? = some (.cells cs t (0, 0))) (j : Nat) : w.frozen? ⟨b, j, none⟩ = false := by
  simp [World.frozen?, h]
theorem set_at {w : World} {b : Nat} {cs : Array Value} {t : TypeId} {fz : Nat × Nat} (h : w.heap[b]? = some (.cells cs t fz)) (j : Nat) (v : Value) :
    (w.setCell ⟨b, j, none⟩ v).heap[b]? = some (.cells (cs.setIfInBounds j v) t fz) := by
  simp [World.setCell, Array.getElem?_modify, h]

theorem keyK : Keyed Tryz.prog 9 := string_keyed Tryz.underlying9

/-- Block b is a map of files. -/
def MapAt (w : World) (b : Nat) (fs : Files) : Prop := w.ownsMap Tryz.prog 9 fileR b fs.length (filesD fs)
/-- A disk in memory: its struct's block a, its map's block b. -/
structure DiskAt (w : World) (a b : Nat) (d : DiskM) : Prop where
  blk : w.heap[a]? = some (.cells #[.int .i64 d.room, .int .i64 d.used, .map (some b), .bool d.fused, .bool d.down, .int .i64 d.left] 54 (0, 0))
  map : MapAt w b d.files
/-- A store into a disk's own block. -/
theorem DiskAt.put {w : World} {a b : Nat} {d : DiskM} (h : DiskAt w a b d) (j : Nat) (v : Value) {d' : DiskM} (hf : d'.files = d.files)
    (e : (#[.int .i64 d.room, .int .i64 d.used, .map (some b), .bool d.fused, .bool d.down, .int .i64 d.left] : Array Value).setIfInBounds j v = #[.int .i64 d'.room, .int .i64 d'.used, .map (some b), .bool d'.fused, .bool d'.down, .int .i64 d'.left]) :
    DiskAt (w.setCell ⟨a, j, none⟩ v) a b d' := by
  have hne : a ≠ b := by
    obtain ⟨es, clock, hb, _⟩ := h.map
    intro e
    subst e
    have := h.blk
    rw [hb] at this
    cases this
  refine ⟨by rw [set_at h.blk, e], ?_⟩
  obtain ⟨es, clock, hb, r⟩ := h.map
  rw [hf]
  exact ⟨es, clock, by rw [Below.heap_setCell _ _ _ _ hne.symm]; exact hb, r⟩
theorem tight {w : World} {b n : Nat} {fs : Files} (h : w.ownsMap Tryz.prog 9 fileR b n (filesD fs)) : MapAt w b fs := by
  obtain ⟨es, clock, hb, F, _, hD⟩ := h
  refine ⟨es, clock, hb, F, ?_, hD⟩
  have : Maps.size (filesD fs) = es.size := by rw [hD]; simp [Maps.size, length_sorted]
  rw [filesD_size] at this
  omega
theorem MapAt.fr {S : List Nat} {w w' : World} {b : Nat} {fs : Files} (h : MapAt w b fs) (f : Fr S w w') (hs : b ∉ S) : MapAt w' b fs := by
  obtain ⟨es, clock, hb, r⟩ := h
  exact ⟨es, clock, f.blk hb hs, r⟩
theorem fld_file0 (x y : Value) (w : World) : (Instr.field 70 (.agg #[x, y]) 0).run Tryz.prog w = .ok x w := by kernel_rfl
theorem fld_file1 (x y : Value) (w : World) : (Instr.field 70 (.agg #[x, y]) 1).run Tryz.prog w = .ok y w := by kernel_rfl
attribute [go_sem] fld_file0 fld_file1
theorem zeroFile (w : World) : (zeroValue 70).run Tryz.prog w = .ok (fileV zeroF) w := by kernel_rfl
theorem keyS {s : ByteArray} (hs : s.size ≤ maxLen) : keyOf Tryz.prog 9 (.string s) = some (.string s.data.toList) := WideMaps.keyOf_string_mk Tryz.underlying9 hs
/-- 'files[name]'. -/
theorem MapAt.look {w : World} {b : Nat} {fs : Files} (h : MapAt w b fs) {s : ByteArray} (hs : s.size ≤ maxLen) :
    (Instr.lookup 52 (.map (some b)) (.string s) false).run Tryz.prog w = .ok (fileV (getF fs s.data.toList)) w := by
  obtain ⟨v, ps, hrun, hv⟩ := World.ownsMap.lookup h keyK Tryz.underlying52 (zeroFile w) (zd := fileD zeroF) (zp := []) (fileR_mk zeroF) (keyS hs)
  rw [filesD_at] at hv
  rw [hrun, fileR_at hv]
theorem MapAt.lookOk {w : World} {b : Nat} {fs : Files} (h : MapAt w b fs) {s : ByteArray} (hs : s.size ≤ maxLen) :
    (Instr.lookup 52 (.map (some b)) (.string s) true).run Tryz.prog w = .ok (.tuple #[fileV (getF fs s.data.toList), .bool (hasF fs s.data.toList)]) w := by
  obtain ⟨v, ps, hrun, hv⟩ := World.ownsMap.look_ok h keyK Tryz.underlying52 (zeroFile w) (zd := fileD zeroF) (zp := []) (fileR_mk zeroF) (keyS hs)
  rw [filesD_at] at hv
  rw [filesD_has] at hrun
  rw [hrun, fileR_at hv]
theorem MapAt.len {w : World} {b : Nat} {fs : Files} (h : MapAt w b fs) (ty : TypeId) : (Builtin.len_ #[52] ty #[.map (some b)]).run Tryz.prog w = .ok (.int .i64 fs.length) w := by
  rw [World.ownsMap.len h Tryz.underlying52 ty, filesD_size]
/-- 'files[name] = f'. -/
theorem MapAt.store {w : World} {b : Nat} {fs : Files} (h : MapAt w b fs) (hn : fs.length < maxLen) {s : ByteArray} (hs : s.size ≤ maxLen) (f : FileM) :
    ∃ w', (Instr.mapUpdate 52 (.map (some b)) (.string s) (fileV f)).run Tryz.prog w = .ok () w' ∧ MapAt w' b (putF fs s.data.toList f) ∧ w.grownBy w' (some b) := by
  obtain ⟨w', h1, h2, h3⟩ := World.ownsMap.update h keyK Tryz.underlying52 hn (keyS hs) (fileR_mk f)
  rw [filesD_put] at h2
  exact ⟨w', h1, tight h2, h3⟩
theorem MapAt.drop {w : World} {b : Nat} {fs : Files} (h : MapAt w b fs) {s : ByteArray} (hs : s.size ≤ maxLen) (ty : TypeId) :
    ∃ w', (Builtin.delete_ #[52, 9] ty #[.map (some b), .string s]).run Tryz.prog w = .ok (.tuple #[]) w' ∧ MapAt w' b (delF fs s.data.toList) ∧ w.grownBy w' (some b) := by
  obtain ⟨w', h1, h2, h3⟩ := World.ownsMap.drop h keyK Tryz.underlying52 (keyS hs) ty
  rw [filesD_del] at h2
  exact ⟨w', h1, tight h2, h3.grown⟩
theorem MapAt.alloc {w : World} {b : Nat} {fs : Files} (h : MapAt w b fs) (o : Obj) : MapAt (w.alloc o) b fs := World.ownsMap.alloc h o
theorem MapAt.drewN {w : World} {b : Nat} {fs : Files} (h : MapAt w b fs) (n : Nat) : MapAt (w.drewN n) b fs := h
theorem DiskAt.fr {S : List Nat} {w w' : World} {a b : Nat} {d : DiskM} (h : DiskAt w a b d) (f : Fr S w w') (ha : a ∉ S) (hb : b ∉ S) : DiskAt w' a b d :=
  ⟨f.blk h.blk ha, h.map.fr f hb⟩
theorem DiskAt.ne {w : World} {a b : Nat} {d : DiskM} (h : DiskAt w a b d) : a ≠ b := by
  obtain ⟨es, clock, hb, _⟩ := h.map
  intro e
  subst e
  have := h.blk
  rw [hb] at this
  cases this
theorem DiskAt.lt {w : World} {a b : Nat} {d : DiskM} (h : DiskAt w a b d) : a < w.heap.size ∧ b < w.heap.size := by
  obtain ⟨es, clock, hb, _⟩ := h.map
  exact ⟨(Array.getElem?_eq_some_iff.1 h.blk).1, (Array.getElem?_eq_some_iff.1 hb).1⟩

/-- The map's block alone has turned. -/
theorem DiskAt.turn {w w' : World} {a b : Nat} {d : DiskM} {fs : Files} (h : DiskAt w a b d) (hg : w.grownBy w' (some b)) (hm : MapAt w' b fs) : DiskAt w' a b { d with files := fs } :=
  ⟨(hg.block a h.lt.1 (by simpa using h.ne)).trans h.blk, hm⟩
theorem hpOld {w : World} {k : Nat} {x : Obj} (h : w.heap[k]? = some x) (o : Obj) : (w.alloc o).heap[k]? = some x :=
  (Below.heap_alloc w o k (Array.getElem?_eq_some_iff.1 h).1).trans h
theorem hpNew {w : World} {n : Nat} (h : w.heap.size = n) (o : Obj) : (w.alloc o).heap[n]? = some o := by subst h; exact heap_alloc_new w o
/-- A block of two cells of a world. -/
theorem two_at {w : World} {b : Nat} {x y : Value} {t : TypeId} (h : w.heap[b]? = some (.cells #[x, y] t (0, 0))) :
    w.cell? ⟨b, 0, none⟩ = some x ∧ w.cell? ⟨b, 1, none⟩ = some y ∧ w.frozen? ⟨b, 0, none⟩ = false ∧ w.frozen? ⟨b, 1, none⟩ = false :=
  ⟨cell_at h 0, cell_at h 1, free_at h 0, free_at h 1⟩
theorem three_at {w : World} {b : Nat} {x y z : Value} {t : TypeId} (h : w.heap[b]? = some (.cells #[x, y, z] t (0, 0))) :
    w.cell? ⟨b, 0, none⟩ = some x ∧ w.cell? ⟨b, 1, none⟩ = some y ∧ w.cell? ⟨b, 2, none⟩ = some z ∧ w.frozen? ⟨b, 0, none⟩ = false ∧ w.frozen? ⟨b, 1, none⟩ = false ∧ w.frozen? ⟨b, 2, none⟩ = false :=
  ⟨cell_at h 0, cell_at h 1, cell_at h 2, free_at h 0, free_at h 1, free_at h 2⟩
theorem new_blk {w W : World} {o : Obj} (h : W.heap = (w.alloc o).heap) : W.heap[w.heap.size]? = some o := by rw [h]; exact heap_alloc_new w o
/-! ### regions that draw their order -/
theorem DiskAt.same {w W : World} {a b : Nat} {d : DiskM} (h : DiskAt w a b d) (e : W.heap = w.heap) : DiskAt W a b d := by
  obtain ⟨h1, es, clock, hb, r⟩ := h
  exact ⟨by rw [e]; exact h1, es, clock, by rw [e]; exact hb, r⟩
theorem DiskAt.alloc {w : World} {a b : Nat} {d : DiskM} (h : DiskAt w a b d) (o : Obj) : DiskAt (w.alloc o) a b d := h.fr ((Fr.refl [] w).alloc o) (by simp) (by simp)
/-- All but the last operations read: one walk, in the order of the text, in a world that has the same blocks. -/
theorem reg_tail {P : Program} {id : Nat} {Q : Exit → Act → World → Prop} {a : Act} {w : World} {l : List Oper} (n : Nat) (hm : P.follows .mixedOrders = true) (hB : Region.lexTailB .any l.toArray n = true)
    (h : ∀ W : World, W.heap = w.heap → Fr [] w W → wpStill P l.toArray W (fun a' => wpList P l.toArray Q (l.drop n) a' W) (l.take n) a) : (Code.region id l.toArray true).wp P Q a w :=
  wp_region_still_tail n hm hB (h _ rfl ((Fr.refl [] w).drew))

/-! ### rows of a call's own -/
theorem own_lt {w : World} {base : Nat} {e : TypeId} {size n : Nat} {v : Value} {xs : List Value} (h : w.ownsRow base e size v n xs) (k : Nat) (hk : v.ownBlock = some k) : base ≤ k ∧ k < w.heap.size := by
  rcases h.2 with ⟨rfl, _⟩ | ⟨g, cap, cur, rfl, hb, hh, _⟩
  · simp [Value.ownBlock] at hk
  · have : g = k := by simpa [Value.ownBlock] using hk
    subst this
    exact ⟨hb, (Array.getElem?_eq_some_iff.1 hh).1⟩
/-- A row lies in no block of another type. -/
theorem own_ne {w : World} {base : Nat} {e : TypeId} {size n : Nat} {v : Value} {xs : List Value} (h : w.ownsRow base e size v n xs) {b : Nat} {cs : Array Value} {t : TypeId} {fz : Nat × Nat} (hb : w.heap[b]? = some (.cells cs t fz)) (ht : t ≠ e) : v.ownBlock ≠ some b := by
  intro hk
  rcases h.2 with ⟨rfl, _⟩ | ⟨g, cap, cur, rfl, _, hh, _⟩
  · simp [Value.ownBlock] at hk
  · have : g = b := by simpa [Value.ownBlock] using hk
    subst this
    rw [hh] at hb
    injection hb with hb
    injection hb with _ h2
    exact ht h2.symm
theorem own_fr {S : List Nat} {w w' : World} {base : Nat} {e : TypeId} {size n : Nat} {v : Value} {xs : List Value} (h : w.ownsRow base e size v n xs) (f : Fr S w w') (hs : ∀ k, v.ownBlock = some k → k ∉ S) : w'.ownsRow base e size v n xs := by
  refine ⟨h.1, ?_⟩
  rcases h.2 with hn | ⟨g, cap, cur, rfl, hb, hg, rest⟩
  · exact .inl hn
  · exact .inr ⟨g, cap, cur, rfl, hb, f.blk hg (hs g rfl), rest⟩
theorem own_below {w w' : World} {base : Nat} {e : TypeId} {size n : Nat} {v : Value} {xs : List Value} (h : w.ownsRow base e size v n xs) (f : Fr [] w w') : w'.ownsRow base e size v n xs := own_fr h f (by simp)
theorem cellsNew (w : World) (cs : Array Value) (t : TypeId) (l : List Value) (h : cs.toList = l) : ∀ j u, l[j]? = some u → (w.alloc (.cells cs t)).cell? ⟨w.heap.size, j, none⟩ = some u := by
  intro j u hj
  rw [cell_at (heap_alloc_new w (.cells cs t)), ← hj, ← h]
  simp
theorem cellsNewAt {w : World} {n : Nat} (hn : w.heap.size = n) (cs : Array Value) (t : TypeId) (l : List Value) (h : cs.toList = l) : ∀ j u, l[j]? = some u → (w.alloc (.cells cs t)).cell? ⟨n, j, none⟩ = some u := by
  subst hn; exact cellsNew w cs t l h
theorem leAlloc {w : World} {b : Nat} (h : b ≤ w.heap.size) (o : Obj) : b ≤ (w.alloc o).heap.size := by simp; omega
/-- Appending one element to a row of the call's own. -/
theorem app1 {P : Program} {w : World} {ops : Array Oper} {rest : List Oper} {o : Oper} {a : Act} {Q : Exit → Act → World → Prop} (hgd : o.guard = none) (s x : Operand) (t : TypeId)
    (ho : o.op = .call { callee := .builtin .append, args := #[s, x], argTypes := #[t, t] })
    (base : Nat) (e : TypeId) (z : Value) (size bytes : Nat) (ht : P.underlying t = some (.slice e)) (hI : (P.info? e).map (fun i => (i.zero, i.size, i.bytes)) = some (some z, size, bytes))
    (hzs : z.cells.size = size) (hsz : 0 < size) (hby : bytes ≤ 100)
    (v : Value) (n : Nat) (xs : List Value) (hs : a.eval s = v) (hown : w.ownsRow base e size v n xs)
    (g c : Nat) (news : List Value) (hx : a.eval x = .slice (some ⟨g, 0, none⟩) 1 c) (hl : news.length = size) (hnews : ∀ j u, news[j]? = some u → w.cell? ⟨g, j, none⟩ = some u) (h1 : ∀ u ∈ news, u.oneCell' = true)
    (hn : n ≤ 1000000000) (hbase : base ≤ w.heap.size)
    (h : ∀ v' w', w'.ownsRow base e size v' (n + 1) (xs ++ news) → w.grownBy w' v.ownBlock → (v'.ownBlock = v.ownBlock ∨ v'.ownBlock = some w.heap.size) → wpList P ops Q rest (a.put o.dst v') w') :
    wpList P ops Q (o :: rest) a w := by
  cases hi : P.info? e with
  | none => rw [hi] at hI; cases hI
  | some i =>
    rw [hi] at hI
    simp only [Option.map_some, Option.some.injEq, Prod.mk.injEq] at hI
    obtain ⟨h2, h3, h4⟩ := hI
    refine wpList_append_own_at w hgd s x t ho base e i z size bytes ht hi h2 h3 h4 hzs hsz v n xs hs hown ⟨g, 0, none⟩ 1 c news hx (by omega) (fun j u hj => ?_) h1 (by unfold maxLen; omega) ?_ hbase (fun v' w' a1 a2 _ a4 => h v' w' a1 a2 a4)
    · have : (⟨g, 0, none⟩ : Addr).add j = ⟨g, j, none⟩ := by unfold Addr.add; split <;> simp_all
      rw [this]; exact hnews j u hj
    · calc (n + 1) * bytes ≤ (n + 1) * 100 := Nat.mul_le_mul_left _ hby
        _ ≤ 140737488355328 := by omega
end Go.Proofs.YtljolihlhfabnaaGreatDoor
