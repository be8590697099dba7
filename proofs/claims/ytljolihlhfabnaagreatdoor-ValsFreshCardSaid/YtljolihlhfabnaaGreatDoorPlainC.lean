/-
  PLAINLY: a file that is removed takes its own values with it, and no others.
-/
import Derived.Test.YtljolihlhfabnaaGreatDoorPlainB
namespace Go.Proofs.YtljolihlhfabnaaGreatDoor
open Go

theorem remove_eq {d : DiskM} (hc : d.Calm) {k : Bs} (hk : d.known k = 0) : d.remove k = (0, d.drop k) := by
  unfold DiskM.remove
  rw [if_neg (by simpa using hk), hc.ready, if_neg (by simp)]
theorem Kept.remove {d : DiskM} {top : Int} {E : List Ent} (h : Kept d top E) {out : Int} (ho : out ∈ numbersF d.files) :
    (d.remove (nameB out)).1 = 0 ∧ Kept (d.remove (nameB out)).2 top (E.filter fun e => !(e.1 == out)) ∧ (d.remove (nameB out)).2.known (nameB out) ≠ 0 ∧ (d.remove (nameB out)).2.used ≤ d.used ∧
      (d.remove (nameB out)).2.room = d.room ∧ (d.remove (nameB out)).2.files.length ≤ d.files.length := by
  obtain ⟨hb0, hb1, hkn⟩ := mem_numbers ho
  have hG := h.good.remove (nameB out)
  rw [remove_eq h.calm hkn] at hG ⊢
  have hmn := nameB_may out (by omega) (by omega)
  have hff : ∀ n, ofFile (E.filter fun e => !(e.1 == out)) n = if n = out then [] else ofFile E n := by
    intro n
    unfold ofFile
    rw [List.filter_filter]
    by_cases hn : n = out
    · rw [if_pos hn, List.filter_eq_nil_iff]
      intro e _
      simp only [Bool.and_eq_true, beq_iff_eq, Bool.not_eq_true', beq_eq_false_iff_ne, not_and, Decidable.not_not]
      intro h1
      rw [h1, hn]
    · rw [if_neg hn]
      apply List.filter_congr
      intro e _
      by_cases h1 : e.1 = n
      · have : ¬ e.1 = out := fun h2 => hn (h1.symm.trans h2)
        simp [h1, hn]
      · simp [h1]
  have hbo : ∀ n, bodiesOf (E.filter fun e => !(e.1 == out)) n = if n = out then [] else bodiesOf E n := by
    intro n
    unfold bodiesOf
    rw [hff]
    split <;> rfl
  refine ⟨rfl, ⟨hG, ⟨h.calm.fused, h.calm.down⟩, h.top0, fun k => ?_, fun e he => h.nums e (List.mem_filter.1 he).1, fun e he => h.short e (List.mem_filter.1 he).1, fun n hn0 hn1 => ?_, fun n => ?_⟩, ?_, ?_, rfl, delF_length _ _⟩
  · show hasF (delF d.files (nameB out)) k = true ↔ _
    rw [hasF_del]
    simp only [Bool.and_eq_true, Bool.not_eq_true', beq_eq_false_iff_ne, h.files k, List.mem_filter]
    constructor
    · rintro ⟨h1, e, he, rfl⟩
      exact ⟨e, ⟨he, by simpa using fun h2 : e.1 = out => h1 (by rw [h2])⟩, rfl⟩
    · rintro ⟨e, ⟨he, h1⟩, rfl⟩
      have hn := h.nums e he
      have ht := h.top0
      exact ⟨fun h2 => by simp at h1; exact h1 (nameB_inj ⟨hn.1, by omega⟩ ⟨hb0, hb1⟩ h2), e, he, rfl⟩
  · show (getF (delF d.files (nameB out)) (nameB n)).has.data.toList = _
    rw [getF_del, hbo]
    by_cases hn : n = out
    · rw [if_pos (by rw [hn]), if_pos hn]; rfl
    · rw [if_neg (fun e => hn (nameB_inj ⟨hn0, hn1⟩ ⟨hb0, hb1⟩ e)), if_neg hn]
      exact h.bytes n hn0 hn1
  · rw [hff, hbo]
    split
    · rfl
    · exact h.places n
  · show DiskM.known (d.drop (nameB out)) (nameB out) ≠ 0
    unfold DiskM.known
    have : hasF (d.drop (nameB out)).files (nameB out) = false := by
      show hasF (delF d.files (nameB out)) (nameB out) = false
      rw [hasF_del]; simp
    rw [hmn, this]
    simp
  · show d.used - ((getF d.files (nameB out)).has.size : Int) ≤ d.used
    omega
end Go.Proofs.YtljolihlhfabnaaGreatDoor
