/-
  A MAP OF int TO bool OF THE CALL'S OWN: which numbers are marked.
-/
import Derived.Test.YtljolihlhfabnaaGreatDoorFrame
import Derived.Maps.OwnSet
namespace Go.Proofs.YtljolihlhfabnaaGreatDoor
open Go Go.RowKit Go.Maps

/-- How a value reads as a bool. -/
def boolR (v : Value) : Option (DataW Unit × List MemPlace) :=
  match v with
  | .bool b => some (.lit (.bool b), [])
  | _ => none
theorem boolR_at {v : Value} {b : Bool} {ps : List MemPlace} (h : boolR v = some (.lit (.bool b), ps)) : v = .bool b := by
  unfold boolR at h
  split at h
  · simp at h; rw [h.1]
  · cases h
theorem keyI : Keyed Tryz.prog 3 := int_keyed Tryz.underlying3
theorem keyInt {n : Int} (h0 : -9223372036854775808 ≤ n) (h1 : n ≤ 9223372036854775807) : keyOf Tryz.prog 3 (.int .i64 n) = some (.int .i64 n) :=
  keyOf_int_mk Tryz.underlying3 (WalkArith.wf_i64 ⟨h0, h1⟩)
theorem zeroBool (w : World) : (zeroValue 4).run Tryz.prog w = .ok (.bool false) w := by kernel_rfl
/-- Block g is a map of marks: f says which numbers are marked. -/
def GoneAt (w : World) (g k : Nat) (f : Int → Bool) : Prop :=
  ∃ D, w.ownsMap Tryz.prog 3 boolR g k D ∧ ∀ n : Int, D.atKey (.int .i64 n) (.lit (.bool false)) = .lit (.bool (f n))
theorem GoneAt.made (w : World) : GoneAt (w.alloc (.map #[] 0)) w.heap.size 0 (fun _ => false) :=
  ⟨_, World.ownsMap_made w Tryz.prog 3 boolR, fun _ => rfl⟩
theorem GoneAt.fr {S : List Nat} {w w' : World} {g k : Nat} {f : Int → Bool} (h : GoneAt w g k f) (fr : Fr S w w') (hs : g ∉ S) : GoneAt w' g k f := by
  obtain ⟨D, ⟨es, clock, hb, r⟩, hf⟩ := h
  exact ⟨D, ⟨es, clock, fr.blk hb hs, r⟩, hf⟩
theorem GoneAt.mono {w : World} {g k k' : Nat} {f : Int → Bool} (h : GoneAt w g k f) (hk : k ≤ k') : GoneAt w g k' f := by
  obtain ⟨D, h, hf⟩ := h
  exact ⟨D, h.mono hk, hf⟩
theorem GoneAt.lt {w : World} {g k : Nat} {f : Int → Bool} (h : GoneAt w g k f) : g < w.heap.size := by
  obtain ⟨D, h, _⟩ := h
  exact h.lt
theorem GoneAt.look {w : World} {g k : Nat} {f : Int → Bool} (h : GoneAt w g k f) {n : Int} (h0 : -9223372036854775808 ≤ n) (h1 : n ≤ 9223372036854775807) :
    (Instr.lookup 50 (.map (some g)) (.int .i64 n) false).run Tryz.prog w = .ok (.bool (f n)) w := by
  obtain ⟨D, hD, hf⟩ := h
  obtain ⟨v, ps, hrun, hv⟩ := World.ownsMap.lookup hD keyI Tryz.underlying50 (zeroBool w) (zd := .lit (.bool false)) (zp := []) rfl (keyInt h0 h1)
  rw [hf] at hv
  rw [hrun, boolR_at hv]
theorem GoneAt.mark {w : World} {g k : Nat} {f : Int → Bool} (h : GoneAt w g k f) (hk : k < maxLen) {n : Int} (h0 : -9223372036854775808 ≤ n) (h1 : n ≤ 9223372036854775807) :
    ∃ w', (Instr.mapUpdate 50 (.map (some g)) (.int .i64 n) (.bool true)).run Tryz.prog w = .ok () w' ∧ GoneAt w' g (k + 1) (fun x => f x || x == n) ∧ w.grownBy w' (some g) := by
  obtain ⟨D, hD, hf⟩ := h
  obtain ⟨w', h1, h2, h3⟩ := World.ownsMap.update hD keyI Tryz.underlying50 hk (keyInt h0 h1) (val := .bool true) (d := .lit (.bool true)) (ps := []) rfl
  refine ⟨w', h1, ⟨_, h2, fun x => ?_⟩, h3⟩
  by_cases hx : x = n
  · subst hx
    rw [atKey_put_same hD.isMap (by simp [WideAt.IsKeyLit])]
    simp
  · rw [atKey_put_other (by simpa using hx), hf]
    have : (x == n) = false := by simpa using hx
    simp only [this, Bool.or_false]
end Go.Proofs.YtljolihlhfabnaaGreatDoor
