/-
  PLAINLY: some files are others: what a crash makes of a disk's files.
-/
import Derived.Test.YtljolihlhfabnaaGreatDoorMapSet
namespace Go.Proofs.YtljolihlhfabnaaGreatDoor
open Go Go.RowKit Go.Maps

/-- The files named are others now. -/
def updF (fs : Files) (done : Bs → Bool) (g : Bs → FileM) : Files := fs.map fun p => if done p.1 = true then (p.1, g p.1) else p
theorem updF_names (fs : Files) (done : Bs → Bool) (g : Bs → FileM) : namesF (updF fs done g) = namesF fs := by
  unfold namesF updF
  rw [List.map_map]
  apply List.map_congr_left
  intro p _
  simp only [Function.comp]
  split <;> rfl
theorem updF_sorted {fs : Files} (h : SortedF fs) (done : Bs → Bool) (g : Bs → FileM) : SortedF (updF fs done g) := by
  have h1 : (namesF fs).Pairwise fun a c => bytesBefore a c = true := by unfold namesF; rw [List.pairwise_map]; exact h
  rw [← updF_names fs done g] at h1
  unfold namesF at h1
  rw [List.pairwise_map] at h1
  exact h1
theorem updF_has (fs : Files) (done : Bs → Bool) (g : Bs → FileM) (k : Bs) : hasF (updF fs done g) k = hasF fs k := by
  have h1 : k ∈ namesF (updF fs done g) ↔ k ∈ namesF fs := by rw [updF_names]
  rw [mem_names, mem_names] at h1
  cases hx : hasF (updF fs done g) k <;> cases hy : hasF fs k <;> simp_all
theorem updF_get (fs : Files) (done : Bs → Bool) (g : Bs → FileM) (k : Bs) (hk : hasF fs k = true) : getF (updF fs done g) k = if done k = true then g k else getF fs k := by
  induction fs with
  | nil => simp [hasF] at hk
  | cons p r ih =>
    by_cases hp : p.1 = k
    · subst hp
      by_cases hd : done p.1 = true <;> simp [updF, getF, hd]
    · have hk' : hasF r k = true := by
        simp only [hasF, List.any_cons, Bool.or_eq_true, beq_iff_eq] at hk
        exact hk.resolve_left hp
      have h1 : getF (updF (p :: r) done g) k = getF (updF r done g) k := by
        by_cases hd : done p.1 = true <;> simp [updF, getF, hd, hp]
      have h2 : getF (p :: r) k = getF r k := by simp [getF, hp]
      rw [h1, h2, ih hk']
theorem getF_mem {fs : Files} (h : SortedF fs) {p : Bs × FileM} (hp : p ∈ fs) : getF fs p.1 = p.2 := by
  unfold getF
  induction fs with
  | nil => cases hp
  | cons q r ih =>
    rw [List.find?_cons]
    rcases List.mem_cons.1 hp with rfl | hp'
    · simp
    · have hne := (List.pairwise_cons.1 h.ne).1 p hp'
      have : (q.1 == p.1) = false := by simpa using hne
      rw [this]
      exact ih (List.pairwise_cons.1 h).2 hp'
theorem updF_put {fs : Files} (h : SortedF fs) (done : Bs → Bool) (g : Bs → FileM) {k : Bs} (hk : hasF fs k = true) (f : FileM) : putF (updF fs done g) k f = updF fs (fun x => done x || x == k) (fun x => if x = k then f else g x) := by
  rw [putF_at (updF_sorted h done g) (by rw [updF_has]; exact hk)]
  unfold updF
  rw [List.map_map]
  apply List.map_congr_left
  intro p _
  simp only [Function.comp]
  by_cases he : p.1 = k
  · subst he
    by_cases hd : done p.1 = true <;> simp [hd]
  · by_cases hd : done p.1 = true <;> simp [hd, he]
theorem updF_skip {fs : Files} (h : SortedF fs) (done : Bs → Bool) (g : Bs → FileM) {k : Bs} (hd : done k = false) : updF fs done g = updF fs (fun x => done x || x == k) (fun x => if x = k then getF fs k else g x) := by
  unfold updF
  apply List.map_congr_left
  intro p hp
  by_cases he : p.1 = k
  · subst he
    simp [hd, getF_mem h hp]
  · by_cases hd : done p.1 = true <;> simp [hd, he]
theorem updF_none (fs : Files) (g : Bs → FileM) : updF fs (fun _ => false) g = fs := by simp [updF]
theorem updF_congr {fs : Files} {d1 d2 : Bs → Bool} {g : Bs → FileM} (h : ∀ k, hasF fs k = true → d1 k = d2 k) : updF fs d1 g = updF fs d2 g := by
  unfold updF
  apply List.map_congr_left
  intro p hp
  rw [h p.1 (mem_names.1 (List.mem_map.2 ⟨p, hp, rfl⟩))]
/-- What of a file a crash leaves. -/
def tornF (f : FileM) (m : Nat) : FileM := ⟨f.has.extract 0 m, (m : Int)⟩
theorem tornF_whole {f : FileM} (h : (f.has.size : Int) - f.safe = 0) : tornF f f.has.size = f := by
  obtain ⟨hb, s⟩ := f
  unfold tornF
  simp only at h ⊢
  have : (hb.size : Int) = s := by omega
  rw [this]
  congr 1
  simp
end Go.Proofs.YtljolihlhfabnaaGreatDoor
