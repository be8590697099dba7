/-
  LAYER VALS, PLAINLY: what mending makes of a disk.
-/
import Derived.Test.YtljolihlhfabnaaGreatDoorValsD
namespace Go.Proofs.YtljolihlhfabnaaGreatDoor
open Go

/-- No fuse was set, and the disk is not down. -/
structure DiskM.Calm (d : DiskM) : Prop where
  fused : d.fused = false
  down : d.down = false
theorem DiskM.Calm.ready {d : DiskM} (h : d.Calm) : d.ready = (true, d) := by
  unfold DiskM.ready
  simp [h.fused, h.down]
def mendOne (d : DiskM) (n : Int) : DiskM :=
  if (frames (getF d.files (nameB n)).has.data.toList).2 < (getF d.files (nameB n)).has.size then (d.cut (nameB n) ((frames (getF d.files (nameB n)).has.data.toList).2 : Nat)).2 else d
def mendAll (d : DiskM) (l : List Int) : DiskM := l.foldl mendOne d
theorem cut_ok {d : DiskM} (hc : d.Calm) {k : Bs} (hk : d.known k = 0) {n : Int} (h0 : 0 ≤ n) (h1 : n ≤ (getF d.files k).has.size) :
    d.cut k n = (0, d.set k ⟨(getF d.files k).has.extract 0 n.toNat, min (getF d.files k).safe n⟩) := by
  unfold DiskM.cut
  rw [if_neg (by simpa using hk), if_neg (by omega), hc.ready, if_neg (by simp)]
theorem set_calm {d : DiskM} (hc : d.Calm) (k : Bs) (f : FileM) : (d.set k f).Calm := ⟨hc.fused, hc.down⟩
theorem mendOne_keeps {d : DiskM} (hG : d.Good) (hc : d.Calm) {n : Int} (hk : d.known (nameB n) = 0) : (mendOne d n).Good ∧ (mendOne d n).Calm ∧ ∀ k, hasF (mendOne d n).files k = hasF d.files k := by
  unfold mendOne
  split
  · rename_i h
    refine ⟨hG.cut _ _, ?_, ?_⟩
    · rw [cut_ok hc hk (by omega) (by omega)]; exact set_calm hc _ _
    · intro k
      rw [cut_ok hc hk (by omega) (by omega)]
      show hasF (putF d.files (nameB n) _) k = _
      rw [hasF_put]
      by_cases he : k = nameB n
      · subst he; simp [(known_zero hk).2]
      · simp [he]
  · exact ⟨hG, hc, fun _ => rfl⟩
theorem known_of_has {d d' : DiskM} {k : Bs} (h : hasF d'.files k = hasF d.files k) : d'.known k = d.known k := by
  unfold DiskM.known; rw [h]
theorem mendAll_keeps (l : List Int) : ∀ {d : DiskM}, d.Good → d.Calm → (∀ n ∈ l, d.known (nameB n) = 0) → (mendAll d l).Good ∧ (mendAll d l).Calm ∧ ∀ k, hasF (mendAll d l).files k = hasF d.files k := by
  induction l with
  | nil => intro d hG hc _; exact ⟨hG, hc, fun _ => rfl⟩
  | cons n r ih =>
    intro d hG hc hk
    obtain ⟨h1, h2, h3⟩ := mendOne_keeps hG hc (hk n (by simp))
    obtain ⟨h4, h5, h6⟩ := ih h1 h2 (fun m hm => by rw [known_of_has (h3 _)]; exact hk m (by simp [hm]))
    exact ⟨h4, h5, fun k => (h6 k).trans (h3 k)⟩
theorem mendAll_snoc (d : DiskM) (l : List Int) (n : Int) : mendAll d (l ++ [n]) = mendOne (mendAll d l) n := by simp [mendAll]
end Go.Proofs.YtljolihlhfabnaaGreatDoor
