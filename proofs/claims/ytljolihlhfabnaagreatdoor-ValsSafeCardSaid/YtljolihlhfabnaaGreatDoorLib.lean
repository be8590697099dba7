/-
  THE LIBRARY's CONTRACTS, in this proof's own words: strings.Trim at the disk's cutset, strings.CutPrefix, strconv.Itoa, strconv.Atoi, slices.Sort of ints, the sorted names of a map of files.
-/
import Derived.Test.YtljolihlhfabnaaGreatDoorLay
import Derived.Test.YtljolihlhfabnaaGreatDoorFrame
namespace Go.Proofs.YtljolihlhfabnaaGreatDoor
open Go Go.RowKit Go.Maps Go.Sort

/-- What the library's own variables hold. -/
structure Env (w : World) : Prop where
  tab : Lib.TabIs Tryz.prog w "internal/strconv.uint64pow10" .u64 Lib.pow10Tab
  syn : ∃ tp p, w.var? Tryz.prog "strconv.ErrSyntax" = some #[.iface tp p]
  rng : ∃ tp p, w.var? Tryz.prog "strconv.ErrRange" = some #[.iface tp p]
theorem gSyn : Tryz.prog.globalNamed "strconv.ErrSyntax" = some 0 := by kernel_rfl
theorem gRng : Tryz.prog.globalNamed "strconv.ErrRange" = some 1 := by kernel_rfl
theorem gTab : Tryz.prog.globalNamed "internal/strconv.uint64pow10" = some 2 := by kernel_rfl
/-- Blocks below this one are the program's variables. -/
abbrev lowB : Nat := max (max 0 1) 2 + 1
theorem var_fr {S : List Nat} {w w' : World} (h : Fr S w w') (hs : ∀ k ∈ S, lowB ≤ k) {n : String} {g : Nat} (hg : Tryz.prog.globalNamed n = some g) (hlt : g < lowB) {v : Array Value} (hv : w.var? Tryz.prog n = some v) : w'.var? Tryz.prog n = some v := by
  simp only [World.var?, hg, Option.bind_some] at hv ⊢
  have hsz : g < w.heap.size := by
    by_cases hx : g < w.heap.size
    · exact hx
    · rw [Array.getElem?_eq_none (by omega)] at hv
      cases hv
  rw [h.block g hsz (fun e => by have := hs g e; omega)]
  exact hv
theorem Env.fr {S : List Nat} {w w' : World} (h : Env w) (f : Fr S w w') (hs : ∀ k ∈ S, lowB ≤ k) : Env w' := by
  obtain ⟨h1, ⟨tp, p, h2⟩, ⟨tp', p', h3⟩⟩ := h
  exact ⟨var_fr f hs gTab (by decide) h1, ⟨tp, p, var_fr f hs gSyn (by decide) h2⟩, ⟨tp', p', var_fr f hs gRng (by decide) h3⟩⟩

theorem var_lt {w : World} {n : String} {g : Nat} (hg : Tryz.prog.globalNamed n = some g) {v : Array Value} (hv : w.var? Tryz.prog n = some v) : g < w.heap.size := by
  simp only [World.var?, hg, Option.bind_some] at hv
  by_cases hx : g < w.heap.size
  · exact hx
  · rw [Array.getElem?_eq_none (by omega)] at hv
    cases hv
theorem Env.low {w : World} (h : Env w) : lowB ≤ w.heap.size := by
  obtain ⟨h1, ⟨_, _, h2⟩, ⟨_, _, h3⟩⟩ := h
  have a1 := var_lt gTab h1
  have a2 := var_lt gSyn h2
  have a3 := var_lt gRng h3
  unfold lowB
  omega

/-- The disk's cutset. -/
def cutset : Bs := [97, 98, 99, 100, 101, 102, 103, 104, 105, 106, 107, 108, 109, 110, 111, 112, 113, 114, 115, 116, 117, 118, 119, 120, 121, 122, 48, 49, 50, 51, 52, 53, 54, 55, 56, 57, 46]
theorem trim_any (s : ByteArray) (w : World) (hs : s.size ≤ maxLen) :
    Calls Tryz.prog 58 #[.string s, .string ⟨#[97, 98, 99, 100, 101, 102, 103, 104, 105, 106, 107, 108, 109, 110, 111, 112, 113, 114, 115, 116, 117, 118, 119, 120, 121, 122, 48, 49, 50, 51, 52, 53, 54, 55, 56, 57, 46]⟩] w
      fun e w' => e = .returned (.string ⟨(Lib.trimS s.data.toList cutset).toArray⟩) ∧ Fr [] w w' :=
  (Any.strings_Trim_laid Tryz.layTrim (by kernel_rfl) s ⟨#[97, 98, 99, 100, 101, 102, 103, 104, 105, 106, 107, 108, 109, 110, 111, 112, 113, 114, 115, 116, 117, 118, 119, 120, 121, 122, 48, 49, 50, 51, 52, 53, 54, 55, 56, 57, 46]⟩ w (by unfold maxLen at hs; omega) (by decide) (ascii_of_all (by decide))).mono fun _ _ h => ⟨h.1, Fr.below h.2⟩
theorem cutPrefix_any (s p : ByteArray) (w : World) :
    Calls Tryz.prog 34 #[.string s, .string p] w fun e w' => e = .returned (.tuple #[.string ⟨(Lib.trimPrefix s.data.toList p.data.toList).toArray⟩, .bool (Lib.hasPrefix s.data.toList p.data.toList)]) ∧ w = w' :=
  (Any.strings_CutPrefix Tryz.layCutPrefix s p w).mono fun _ _ h => ⟨h.1, h.2.symm⟩
theorem itoa_any (n : Int) (h0 : -9223372036854775808 ≤ n) (h1 : n ≤ 9223372036854775807) (w : World) (hE : Env w) :
    Calls Tryz.prog 36 #[.int .i64 n] w fun e w' => e = .returned (.string ⟨(Lib.itoa n).toArray⟩) ∧ Fr [] w w' :=
  (Any.strconv_Itoa Tryz.layItoa n h0 h1 w hE.tab).mono fun e w' h => ⟨h.1, by
    obtain ⟨k, os, rfl⟩ := h.2
    refine ⟨rfl, rfl, rfl, by simp [grow], fun i hi _ => ?_⟩
    simp only [grow, Array.getElem?_append]
    rw [if_pos (show i < (w.drewN k).heap.size from hi)]; rfl⟩
/-- Atoi: the number and whether there is an error. -/
def atoiV (l : Bs) : Int := match Lib.atoiAll l with | .ok v => v | .range => Lib.atoiSat l | _ => 0
def atoiOk (l : Bs) : Bool := match Lib.atoiAll l with | .ok _ => true | _ => false
theorem atoi_any (s : ByteArray) (hs : s.size ≤ 100000) (w : World) (hE : Env w) :
    Calls Tryz.prog 35 #[.string s] w fun e w' => ∃ er, e = .returned (.tuple #[.int .i64 (atoiV s.data.toList), er]) ∧ ((atoiOk s.data.toList = true ∧ er = .nilIface) ∨ (atoiOk s.data.toList = false ∧ ∃ t v, er = .iface t v)) ∧ Fr [] w w' := by
  unfold atoiV atoiOk
  rcases h : Lib.atoiAll s.data.toList with v | _ | _
  · refine (Any.strconv_Atoi_ok Tryz.layAtoi s (by omega) v h w).mono fun e w' hh => ⟨_, hh.1, .inl ⟨rfl, rfl⟩, ?_⟩
    rcases hh.2 with rfl | ⟨t, rfl⟩
    · exact Fr.refl _ _
    · exact Fr.below (Lib.bytesWorld_below _ _ _)
  · obtain ⟨tp, p, hv⟩ := hE.syn
    refine (Any.strconv_Atoi_syntax_var Tryz.layAtoi s (by omega) h tp p w hv).mono fun e w' hh => ?_
    obtain ⟨N, he, _, _, hb⟩ := hh
    exact ⟨_, he, .inr ⟨rfl, _, _, rfl⟩, Fr.below hb⟩
  · obtain ⟨tp, p, hv⟩ := hE.rng
    refine (Any.strconv_Atoi_range_var Tryz.layAtoi s (by omega) h tp p w hv).mono fun e w' hh => ?_
    obtain ⟨N, he, _, _, hb⟩ := hh
    exact ⟨_, he, .inr ⟨rfl, _, _, rfl⟩, Fr.below hb⟩
end Go.Proofs.YtljolihlhfabnaaGreatDoor
