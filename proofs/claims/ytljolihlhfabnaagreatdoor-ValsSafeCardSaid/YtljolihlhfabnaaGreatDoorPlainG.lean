/-
  WHICH FILES HAVE LOST A VALUE, among the first j that were put.
-/
import Derived.Test.YtljolihlhfabnaaGreatDoorPlainF
namespace Go.Proofs.YtljolihlhfabnaaGreatDoor
open Go Go.RowKit Go.Maps

def lostOf (E : List Ent) (c : Int → Nat) (j : Nat) (n : Int) : Bool :=
  (List.range j).any fun t => match E[t]? with | some e => e.1 == n && !decide (rankE E t n < c n) | none => false
theorem lost_zero (E : List Ent) (c : Int → Nat) (n : Int) : lostOf E c 0 n = false := rfl
theorem lost_succ (E : List Ent) (c : Int → Nat) {j : Nat} (h : j < E.length) (n : Int) : lostOf E c (j + 1) n = (lostOf E c j n || (E[j].1 == n && !decide (rankE E j n < c n))) := by
  unfold lostOf
  rw [List.range_succ, List.any_append]
  simp [List.getElem?_eq_getElem h]
theorem lost_got (E : List Ent) (c : Int → Nat) {j : Nat} (h : j < E.length) (hg : rankE E j E[j].1 < c E[j].1) : lostOf E c j E[j].1 = false := by
  unfold lostOf
  rw [List.any_eq_false]
  intro t ht
  have htj : t < j := by simpa using ht
  rw [List.getElem?_eq_getElem (Nat.lt_trans htj h)]
  have hr := rank_le E E[j].1 (Nat.le_of_lt htj)
  have : rankE E t E[j].1 < c E[j].1 := Nat.lt_of_le_of_lt hr hg
  simp [this]
/-- A value that is got marks nothing; one that is not marks its file. -/
theorem lost_got_succ (E : List Ent) (c : Int → Nat) {j : Nat} (h : j < E.length) (hg : rankE E j E[j].1 < c E[j].1) : lostOf E c (j + 1) = lostOf E c j := by
  funext n
  rw [lost_succ E c h]
  by_cases hn : E[j].1 = n
  · subst hn
    simp [hg]
  · have : (E[j].1 == n) = false := by simpa using hn
    simp [this]
theorem lost_not_succ (E : List Ent) (c : Int → Nat) {j : Nat} (h : j < E.length) (hg : ¬ rankE E j E[j].1 < c E[j].1) : lostOf E c (j + 1) = fun x => lostOf E c j x || x == E[j].1 := by
  funext n
  rw [lost_succ E c h]
  by_cases hn : n = E[j].1
  · subst hn
    simp [hg]
  · have h1 : (E[j].1 == n) = false := by simpa using fun e => hn e.symm
    have h2 : (n == E[j].1) = false := by simpa using hn
    simp [h1, h2]
/-- What a crash and a new Open leave of what was put: of each file a beginning, and all that was sure. -/
theorem safe_plain {d : DiskM} {top : Int} {E : List Ent} {sr : Nat} (hK : Kept d top E) (hS : Sure d E sr) {d1 : DiskM} (hG : d1.Good) (hC : d1.Calm) (m : Bs → Nat)
    (hf : d1.files = updF d.files (fun _ => true) (fun x => tornF (getF d.files x) (m x))) (hm : ∀ x, hasF d.files x = true → (getF d.files x).safe ≤ m x ∧ m x ≤ (getF d.files x).has.size) :
    ∃ c : Int → Nat, (mendAll d1 (numbersF d1.files)).Good ∧ ∀ j (hj : j < E.length), (mendAll d1 (numbersF d1.files)).known (nameB E[j].1) = 0 ∧
      getV (unframe (getF (mendAll d1 (numbersF d1.files)).files (nameB E[j].1)).has.data.toList E[j].2.1) (E[j].2.2.length : Int) = (if rankE E j E[j].1 < c E[j].1 then (E[j].2.2, 0) else ([], 110)) ∧
      (j < sr → rankE E j E[j].1 < c E[j].1) := by
  refine ⟨fun n => cutN (bodiesOf E n) (m (nameB n)), (mendAll_keeps (numbersF d1.files) hG hC (fun n hn => (mem_numbers hn).2.2)).1, fun j hj => ?_⟩
  have hem : E[j] ∈ E := List.getElem_mem hj
  have h1 := torn_bytes hK hG hC m hf (n := E[j].1) ⟨E[j], hem, rfl⟩
  have hn := hK.nums _ hem
  have ht := hK.top0
  refine ⟨h1.2, torn_get hK j hj _ h1.1, fun hs => sure_got hj rfl hs (Int.le_trans (hS.safe _ hn.1 (by omega)) ?_)⟩
  exact (hm _ ((hK.files _).2 ⟨E[j], hem, rfl⟩)).1
end Go.Proofs.YtljolihlhfabnaaGreatDoor
