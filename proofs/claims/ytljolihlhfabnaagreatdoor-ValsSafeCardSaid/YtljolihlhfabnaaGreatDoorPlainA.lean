/-
  PLAINLY: a number's text is read as the number; frames one behind the other are read as they were written.
-/
import Derived.Test.YtljolihlhfabnaaGreatDoorValsH
namespace Go.Proofs.YtljolihlhfabnaaGreatDoor
open Go

theorem parse_snoc (l : Bs) (c : UInt8) (hc : 48 ≤ c.toNat ∧ c.toNat ≤ 57) : ∀ (acc v : Nat), Lib.parseUint10 acc l = .ok v → v < 1000000000000 → Lib.parseUint10 acc (l ++ [c]) = .ok (v * 10 + (c.toNat - 48)) := by
  induction l with
  | nil =>
    intro acc v h hv
    simp only [Lib.parseUint10] at h
    injection h with h
    subst h
    simp only [List.nil_append, Lib.parseUint10]
    rw [if_pos hc, if_neg (by omega), if_neg (by omega)]
  | cons a r ih =>
    intro acc v h hv
    simp only [Lib.parseUint10, List.cons_append] at h ⊢
    split at h
    · rename_i ha
      rw [if_pos ha]
      split at h
      · cases h
      · rename_i h1
        rw [if_neg h1]
        split at h
        · cases h
        · rename_i h2
          rw [if_neg h2]
          exact ih _ _ h hv
    · cases h
theorem digit_nat (k : Nat) (h : k < 10) : (UInt8.ofNat (48 + k)).toNat = 48 + k := by
  simp; omega
theorem parse_dec (u : Nat) (hu : u < 1000000000000) : Lib.parseUint10 0 (Lib.decDigits u) = .ok u := by
  induction u using Nat.strongRecOn with
  | _ u ih =>
    rw [Lib.decDigits]
    split
    · rename_i h
      simp only [Lib.parseUint10]
      have := digit_nat u h
      rw [if_pos (by omega), if_neg (by omega), if_neg (by omega), this]
      congr 1
      omega
    · rename_i h
      have hd := digit_nat (u % 10) (Nat.mod_lt _ (by decide))
      rw [parse_snoc _ _ (by omega) 0 _ (ih (u / 10) (by omega) (by omega)) (by omega), hd]
      congr 1
      omega
theorem dec_cons (u : Nat) : ∃ c r, Lib.decDigits u = c :: r ∧ 48 ≤ c.toNat ∧ c.toNat ≤ 57 := by
  induction u using Nat.strongRecOn with
  | _ u ih =>
    rw [Lib.decDigits]
    split
    · rename_i h
      have := digit_nat u h
      exact ⟨_, [], rfl, by omega, by omega⟩
    · obtain ⟨c, r, h1, h2⟩ := ih (u / 10) (by omega)
      exact ⟨c, _, by rw [h1]; rfl, h2⟩
theorem itoa_nat (n : Int) (h : 0 ≤ n) : Lib.itoa n = Lib.decDigits n.toNat := by unfold Lib.itoa; rw [if_neg (by omega)]
theorem atoi_itoa (n : Int) (h0 : 0 ≤ n) (h1 : n < 1000000000000) : Lib.atoiAll (Lib.itoa n) = .ok n := by
  rw [itoa_nat n h0]
  obtain ⟨c, r, hc, h2, h3⟩ := dec_cons n.toNat
  have hp := parse_dec n.toNat (by omega)
  rw [hc] at hp ⊢
  rw [Lib.atoiAll_plain c r (by omega) (by omega)]
  unfold Lib.parseMag
  rw [if_neg (by simp), hp]
  simp only [Lib.signless]
  rw [if_neg (by omega)]
  congr 1
  omega
theorem numOf_name (n : Int) (h0 : 1 ≤ n) (h1 : n ≤ 1048576) : numOf (nameB n) = some n := by
  have hp : Lib.hasPrefix (nameB n) [118, 97, 108, 46] = true := by simp [Lib.hasPrefix, nameB]
  have ht : Lib.trimPrefix (nameB n) [118, 97, 108, 46] = Lib.itoa n := by
    rw [Lib.trimPrefix, if_pos hp]
    simp [nameB]
  have ha := atoi_itoa n (by omega) (by omega)
  have hv : atoiV (Lib.itoa n) = n := by unfold atoiV; rw [ha]
  have ho : atoiOk (Lib.itoa n) = true := by unfold atoiOk; rw [ha]
  unfold numOf
  rw [hp, ht, hv, ho]
  simp [h0, h1]
theorem nameB_inj {m n : Int} (hm : 1 ≤ m ∧ m ≤ 1048576) (hn : 1 ≤ n ∧ n ≤ 1048576) (h : nameB m = nameB n) : m = n := by
  have h1 := numOf_name m hm.1 hm.2
  rw [h, numOf_name n hn.1 hn.2] at h1
  exact (Option.some.inj h1).symm
theorem mem_numbersF {d : DiskM} {n : Int} : n ∈ numbersF d.files ↔ (1 ≤ n ∧ n ≤ 1048576) ∧ hasF d.files (nameB n) = true := by
  constructor
  · intro h
    have h1 := mem_numbers h
    exact ⟨⟨h1.1, h1.2.1⟩, (known_zero h1.2.2).2⟩
  · rintro ⟨⟨h0, h1⟩, h2⟩
    apply (List.mergeSort_perm _ _).mem_iff.2
    exact List.mem_filterMap.2 ⟨nameB n, mem_names.2 h2, numOf_name n h0 h1⟩
theorem numbersF_nodup {fs : Files} (h : SortedF fs) : (numbersF fs).Nodup := by
  apply (List.mergeSort_perm _ _).nodup_iff.2
  have hn : (namesF fs).Nodup := by
    unfold namesF
    rw [List.Nodup, List.pairwise_map]
    exact h.ne
  rw [List.Nodup, List.pairwise_filterMap]
  refine hn.imp ?_
  intro a b hab m hm n hn e
  subst e
  exact hab ((numOf_some hm).1.symm.trans (numOf_some hn).1)

/-! ### frames -/
theorem unframe_at (pre s post : Bs) (hs : s.length ≤ 65536) : unframe (pre ++ (frameB s ++ post)) (pre.length : Nat) = ⟨s, pre.length + 8 + s.length, 0, 0⟩ := by
  have hl : (pre ++ (frameB s ++ post)).length = pre.length + (s.length + 8 + post.length) := by simp [frameB_length]
  unfold unframe
  rw [if_neg (by rw [hl]; omega)]
  have hd : (pre ++ (frameB s ++ post)).drop ((pre.length : Nat) : Int).toNat = frameB s ++ post := by simp
  simp only [hd]
  have hle : (le s.length 4).length = 4 := le_length 4 _
  have h4 : (frameB s ++ post).take 4 = le s.length 4 := by
    rw [frameB, List.append_assoc, List.append_assoc, List.take_left' hle]
  have hu : unle (le s.length 4) = s.length := unle_le 4 _ (by omega)
  have hn : (frameB s ++ post).length = s.length + 8 + post.length := by simp [frameB_length]
  rw [h4, hu, if_neg (by omega), if_neg (by omega), if_neg (by omega)]
  have ht : (frameB s ++ post).take (4 + s.length) = le s.length 4 ++ s := by
    rw [frameB, List.append_assoc, List.take_left' (by simp [hle])]
  have hr : ((frameB s ++ post).drop (4 + s.length)).take 4 = le (sumN (le s.length 4 ++ s)) 4 := by
    rw [frameB, List.append_assoc, List.drop_left' (by simp [hle]), List.take_left' (le_length 4 _)]
  rw [ht, hr, unle_le 4 _ (by have := sumN_lt (le s.length 4 ++ s); omega), if_neg (by simp)]
  have hb : (le s.length 4 ++ s).drop 4 = s := by rw [List.drop_left' hle]
  rw [hb]
  congr 1
  omega
theorem width_frames : ∀ l : List Bs, (l.flatMap frameB).length = widthOf l
  | [] => rfl
  | x :: r => by
    have := width_frames r
    simp only [List.flatMap_cons, List.length_append, frameB_length, widthOf, List.map_cons, List.sum_cons] at this ⊢
    omega
theorem unframe_end (b : Bs) : (unframe b (b.length : Nat)).ok = false := by
  unfold unframe
  rw [if_neg (by omega)]
  simp [UnF.ok]
theorem framesFrom_flat : ∀ (l : List Bs) (pre : Bs), (∀ s ∈ l, s.length ≤ 65536) → framesFrom (pre ++ l.flatMap frameB) pre.length = (l, pre.length + widthOf l)
  | [], pre, _ => by
    rw [List.flatMap_nil, List.append_nil, framesFrom, dif_neg (by rw [unframe_end]; simp)]
    simp [widthOf]
  | s :: r, pre, h => by
    have hu := unframe_at pre s (r.flatMap frameB) (h s (by simp))
    rw [List.flatMap_cons, framesFrom]
    have hok : (unframe (pre ++ (frameB s ++ r.flatMap frameB)) (pre.length : Nat)).ok = true := by rw [hu]; rfl
    rw [dif_pos hok]
    simp only [hu]
    have ih := framesFrom_flat r (pre ++ frameB s) (fun x hx => h x (by simp [hx]))
    have e : ((pre.length : Int) + 8 + (s.length : Int)).toNat = (pre ++ frameB s).length := by simp [frameB_length]; omega
    rw [e, ← List.append_assoc, ih]
    simp only [widthOf, List.map_cons, List.sum_cons, List.length_append, frameB_length, Prod.mk.injEq, true_and]
    omega
theorem frames_flat (l : List Bs) (h : ∀ s ∈ l, s.length ≤ 65536) : frames (l.flatMap frameB) = (l, widthOf l) := by
  have := framesFrom_flat l [] h
  simpa [frames] using this
end Go.Proofs.YtljolihlhfabnaaGreatDoor
