/-
  PLAINLY: of frames one behind the other a beginning is read as the first of them.
-/
import Derived.Test.YtljolihlhfabnaaGreatDoorPlainB
namespace Go.Proofs.YtljolihlhfabnaaGreatDoor
open Go

/-- How many values lie whole in the first m bytes. -/
def cutN : List Bs → Nat → Nat
  | [], _ => 0
  | s :: r, m => if 8 + s.length ≤ m then 1 + cutN r (m - (8 + s.length)) else 0
theorem cutN_le : ∀ (l : List Bs) (m : Nat), cutN l m ≤ l.length
  | [], _ => Nat.le_refl _
  | s :: r, m => by
    unfold cutN
    split
    · have := cutN_le r (m - (8 + s.length)); simp only [List.length_cons]; omega
    · exact Nat.zero_le _
theorem cutN_width : ∀ (l : List Bs) (m : Nat), widthOf (l.take (cutN l m)) ≤ m
  | [], _ => by simp [cutN, widthOf]
  | s :: r, m => by
    unfold cutN
    split
    · have := cutN_width r (m - (8 + s.length))
      rw [Nat.add_comm 1, List.take_succ_cons]
      simp only [widthOf, List.map_cons, List.sum_cons] at this ⊢
      omega
    · simp [widthOf]
/-- What lies whole in the first bytes is among the first values. -/
theorem cutN_ge : ∀ (l : List Bs) (m k : Nat), k ≤ l.length → widthOf (l.take k) ≤ m → k ≤ cutN l m
  | _, _, 0, _, _ => Nat.zero_le _
  | [], _, k + 1, h, _ => by simp at h
  | s :: r, m, k + 1, h, hw => by
    rw [List.take_succ_cons] at hw
    simp only [widthOf, List.map_cons, List.sum_cons] at hw
    unfold cutN
    rw [if_pos (by omega)]
    have := cutN_ge r (m - (8 + s.length)) k (by simpa using h) (by simp only [widthOf]; omega)
    omega
theorem unframe_torn (pre s post : Bs) (hs : s.length ≤ 65536) (m : Nat) (hm : m < 8 + s.length) : (unframe (pre ++ (frameB s ++ post).take m) (pre.length : Nat)).ok = false := by
  have hn : (frameB s ++ post).length = s.length + 8 + post.length := by simp [frameB_length]
  have hl : (pre ++ (frameB s ++ post).take m).length = pre.length + m := by rw [List.length_append, List.length_take, hn]; omega
  unfold unframe
  rw [if_neg (by rw [hl]; omega)]
  have hd : (pre ++ (frameB s ++ post).take m).drop ((pre.length : Nat) : Int).toNat = (frameB s ++ post).take m := by simp
  have hr : ((frameB s ++ post).take m).length = m := by rw [List.length_take, hn]; omega
  simp only [hd, hr]
  split
  · simp [UnF.ok]
  · rename_i h4
    have hle : (le s.length 4).length = 4 := le_length 4 _
    have h4' : ((frameB s ++ post).take m).take 4 = le s.length 4 := by
      rw [List.take_take, Nat.min_eq_left (by omega), frameB, List.append_assoc, List.append_assoc, List.take_left' hle]
    have hu : unle (le s.length 4) = s.length := unle_le 4 _ (by omega)
    rw [h4', hu, if_neg (by omega), if_pos (by omega)]
    simp [UnF.ok]
theorem framesFrom_torn : ∀ (l : List Bs) (pre : Bs) (m : Nat), (∀ s ∈ l, s.length ≤ 65536) →
    framesFrom (pre ++ (l.flatMap frameB).take m) pre.length = (l.take (cutN l m), pre.length + widthOf (l.take (cutN l m)))
  | [], pre, m, _ => by
    rw [List.flatMap_nil, List.take_nil, List.append_nil, framesFrom, dif_neg (by rw [unframe_end]; simp)]
    simp [widthOf]
  | s :: r, pre, m, h => by
    have hs := h s (by simp)
    rw [List.flatMap_cons]
    unfold cutN
    split
    · rename_i hm
      have ht : (frameB s ++ r.flatMap frameB).take m = frameB s ++ (r.flatMap frameB).take (m - (8 + s.length)) := by
        rw [List.take_append, List.take_of_length_le (by rw [frameB_length]; omega), frameB_length, Nat.add_comm s.length 8]
      rw [ht]
      have hu := unframe_at pre s ((r.flatMap frameB).take (m - (8 + s.length))) hs
      rw [framesFrom, dif_pos (by rw [hu]; rfl)]
      simp only [hu]
      have ih := framesFrom_torn r (pre ++ frameB s) (m - (8 + s.length)) (fun x hx => h x (by simp [hx]))
      have e : ((pre.length : Int) + 8 + (s.length : Int)).toNat = (pre ++ frameB s).length := by simp [frameB_length]; omega
      rw [e, ← List.append_assoc, ih, Nat.add_comm 1, List.take_succ_cons]
      simp only [widthOf, List.map_cons, List.sum_cons, List.length_append, frameB_length, Prod.mk.injEq, true_and]
      omega
    · rename_i hm
      rw [framesFrom, dif_neg (by rw [unframe_torn pre s (r.flatMap frameB) hs m (by omega)]; simp)]
      simp [widthOf]
theorem frames_torn (l : List Bs) (m : Nat) (h : ∀ s ∈ l, s.length ≤ 65536) : frames ((l.flatMap frameB).take m) = (l.take (cutN l m), widthOf (l.take (cutN l m))) := by
  have := framesFrom_torn l [] m h
  simpa [frames] using this
/-- A file's bytes. -/
def bytesD (d : DiskM) (k : Bs) : Bs := (getF d.files k).has.data.toList
theorem frames_le (b : Bs) : (frames b).2 ≤ b.length := by
  have := (framesFrom_width b 0).2
  show (framesFrom b 0).2 ≤ b.length
  omega
theorem bytes_extract (s : ByteArray) (m : Nat) : (s.extract 0 m).data.toList = s.data.toList.take m := by
  simp
theorem mendOne_get {d : DiskM} (hC : d.Calm) {n : Int} (hk : d.known (nameB n) = 0) (k : Bs) : bytesD (mendOne d n) k = if k = nameB n then (bytesD d k).take (frames (bytesD d k)).2 else bytesD d k := by
  have hsz : (getF d.files (nameB n)).has.size = (bytesD d (nameB n)).length := by simp [bytesD]
  unfold mendOne
  split
  · rename_i h
    rw [cut_ok hC hk (by omega) (by omega)]
    show (getF (putF d.files (nameB n) _) k).has.data.toList = _
    rw [getF_put]
    by_cases he : k = nameB n
    · subst he
      simp only [if_true]
      rw [bytes_extract]
      rfl
    · simp only [if_neg he]
      rfl
  · rename_i h
    by_cases he : k = nameB n
    · subst he
      rw [if_pos rfl]
      have h1 := frames_le (bytesD d (nameB n))
      have h2 : ¬ (frames (bytesD d (nameB n))).2 < (bytesD d (nameB n)).length := by rw [← hsz]; exact h
      rw [List.take_of_length_le (by omega)]
    · rw [if_neg he]
theorem mendAll_get : ∀ (l : List Int) {d : DiskM}, d.Good → d.Calm → l.Nodup → (∀ n ∈ l, (1 ≤ n ∧ n ≤ 1048576) ∧ d.known (nameB n) = 0) → ∀ x, (1 ≤ x ∧ x ≤ 1048576) →
    bytesD (mendAll d l) (nameB x) = if x ∈ l then (bytesD d (nameB x)).take (frames (bytesD d (nameB x))).2 else bytesD d (nameB x)
  | [], d, _, _, _, _, x, _ => by simp [mendAll]
  | n :: r, d, hG, hC, hnd, hk, x, hx => by
    obtain ⟨hb, hkn⟩ := hk n (by simp)
    obtain ⟨h1, h2, h3⟩ := mendOne_keeps hG hC hkn
    rw [List.nodup_cons] at hnd
    have ih := mendAll_get r h1 h2 hnd.2 (fun y hy => ⟨(hk y (by simp [hy])).1, by rw [known_of_has (h3 _)]; exact (hk y (by simp [hy])).2⟩) x hx
    show bytesD (mendAll (mendOne d n) r) (nameB x) = _
    rw [ih, mendOne_get hC hkn]
    by_cases he : x = n
    · subst he
      rw [if_neg hnd.1, if_pos rfl, if_pos (by simp)]
    · rw [if_neg (fun e => he (nameB_inj hx hb e))]
      simp [he]
end Go.Proofs.YtljolihlhfabnaaGreatDoor
