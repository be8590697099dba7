/-
  PLAINLY: how many values are sure; what a put and a sync make of that.
-/
import Derived.Test.YtljolihlhfabnaaGreatDoorPlainE
import Derived.Test.YtljolihlhfabnaaGreatDoorCrash
import Derived.Test.YtljolihlhfabnaaGreatDoorLawA
namespace Go.Proofs.YtljolihlhfabnaaGreatDoor
open Go Go.RowKit Go.Maps

/-- The first s entries are safe. -/
structure Sure (d : DiskM) (E : List Ent) (s : Nat) : Prop where
  le : s ≤ E.length
  whole : SafeF d.files
  safe : ∀ n, 1 ≤ n → n ≤ 1048576 → (widthOf (bodiesOf (E.take s) n) : Int) ≤ (getF d.files (nameB n)).safe
theorem getF_safe {fs : Files} (h : SafeF fs) (k : Bs) : 0 ≤ (getF fs k).safe ∧ (getF fs k).safe ≤ (getF fs k).has.size := by
  unfold getF
  split
  · rename_i p hp
    exact h p (List.mem_of_find?_eq_some hp)
  · simp [zeroF]
theorem Sure.put {d : DiskM} {top : Int} {E : List Ent} {s : Nat} (h : Sure d E s) (hK : Kept d top E) (fl at_ : Int) (hfl : 1 ≤ fl ∧ fl ≤ 1048576) (b : Bs) (hr : d.used + (b.length + 8) ≤ d.room) (hf : d.files.length < 64) :
    Sure (d.append (nameB fl) ⟨(frameB b).toArray⟩).2 (E ++ [(fl, at_, b)]) s := by
  have hsz : (⟨(frameB b).toArray⟩ : ByteArray).size = b.length + 8 := by rw [size_mk, frameB_length]
  rw [append_ok hK.calm (nameB_may fl (by omega) (by omega)) (data := ⟨(frameB b).toArray⟩) (by rw [hsz]; omega) hf]
  refine ⟨by have := h.le; simp; omega, ?_, fun n h0 h1 => ?_⟩
  · intro p hp
    have hp : p ∈ putF d.files (nameB fl) ⟨(getF d.files (nameB fl)).has ++ ⟨(frameB b).toArray⟩, (getF d.files (nameB fl)).safe⟩ := hp
    rcases mem_put.1 hp with rfl | ⟨hp, _⟩
    · have := getF_safe h.whole (nameB fl)
      simp only [ByteArray.size_append]
      omega
    · exact h.whole p hp
  · rw [List.take_append_of_le_length h.le]
    show _ ≤ (getF (putF d.files (nameB fl) _) (nameB n)).safe
    rw [getF_put]
    by_cases he : nameB n = nameB fl
    · rw [if_pos he]
      have := h.safe n h0 h1
      rw [he] at this
      exact this
    · rw [if_neg he]
      exact h.safe n h0 h1
theorem Kept.sync {d : DiskM} {top : Int} {E : List Ent} (h : Kept d top E) (hle : (d.files.length : Int) ≤ 64) :
    Kept { d.ready.2 with files := syncF d.files (fun _ => true) } top E ∧ Sure { d.ready.2 with files := syncF d.files (fun _ => true) } E E.length := by
  have hrd : d.ready.2 = d := by rw [h.calm.ready]
  rw [hrd]
  have hget : ∀ k, hasF d.files k = true → getF (syncF d.files (fun _ => true)) k = ⟨(getF d.files k).has, ((getF d.files k).has.size : Int)⟩ := fun k hk => by rw [syncF_get _ _ _ hk]; rfl
  have hgetn : ∀ k, hasF d.files k = false → getF (syncF d.files (fun _ => true)) k = zeroF := fun k hk => getF_no (by rw [syncF_has]; exact hk)
  have hhas : ∀ k, (getF (syncF d.files (fun _ => true)) k).has = (getF d.files k).has := fun k => by
    cases hk : hasF d.files k
    · rw [hgetn k hk, getF_no hk]
    · rw [hget k hk]
  have hsum : sumF (syncF d.files (fun _ => true)) = sumF d.files := by
    unfold sumF syncF
    rw [List.map_map]
    congr 1
  have hG := h.good
  refine ⟨⟨⟨syncF_sorted hG.sorted (fun _ => true), fun k hk => hG.names k (by rw [show namesF (syncF d.files fun _ => true) = namesF d.files from syncF_names _ _] at hk; exact hk), ?_, hG.left, ?_, hG.top, hG.room⟩, ⟨h.calm.fused, h.calm.down⟩, h.top0, fun k => ?_, h.nums, h.short, fun n h0 h1 => ?_, h.places⟩, ⟨Nat.le_refl _, ?_, fun n h0 h1 => ?_⟩⟩
  · show (syncF d.files (fun _ => true)).length ≤ 64
    simp only [syncF, List.length_map]
    exact hG.many
  · show d.used = sumF (syncF d.files (fun _ => true))
    rw [hsum, hG.sum]
  · show hasF (syncF d.files (fun _ => true)) k = true ↔ _
    rw [syncF_has]
    exact h.files k
  · show (getF (syncF d.files (fun _ => true)) (nameB n)).has.data.toList = _
    rw [hhas]
    exact h.bytes n h0 h1
  · intro p hp
    obtain ⟨q, _, rfl⟩ := List.mem_map.1 hp
    simp
  · show _ ≤ (getF (syncF d.files (fun _ => true)) (nameB n)).safe
    rw [List.take_length]
    cases hk : hasF d.files (nameB n)
    · rw [hgetn _ hk]
      have := h.size h0 h1
      rw [getF_no hk] at this
      have : widthOf (bodiesOf E n) = 0 := by rw [← this]; rfl
      rw [this]
      simp [zeroF]
    · rw [hget _ hk, ← h.size h0 h1]
      exact Int.le_refl _
end Go.Proofs.YtljolihlhfabnaaGreatDoor
