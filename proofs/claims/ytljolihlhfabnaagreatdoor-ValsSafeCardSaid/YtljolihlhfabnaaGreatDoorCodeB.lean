/-
  LAYER CODE: what is read of frames.
-/
import Derived.Test.YtljolihlhfabnaaGreatDoorCodeA
import Derived.Lib.Strings
namespace Go.Proofs.YtljolihlhfabnaaGreatDoor
open Go Go.RowKit Go.Maps

theorem slH (r : ByteArray) (n : Nat) (i : Int) (hi : i = (n : Int)) (h : n ≤ r.size) (W : World) : (Instr.slice 9 (.string r) none (some (.int .i64 i)) none).run Tryz.prog W = .ok (.string (r.extract 0 n)) W := by
  subst hi
  have := run_slice_string_h (P := Tryz.prog) (w := W) (t := 9) (s := r) (Tryz.underlying9) .i64 (n : Int) (by omega) (by omega)
  simpa using this
theorem slLH (r : ByteArray) (m n : Nat) (i j : Int) (hi : i = (m : Int)) (hj : j = (n : Int)) (hmn : m ≤ n) (h : n ≤ r.size) (W : World) : (Instr.slice 9 (.string r) (some (.int .i64 i)) (some (.int .i64 j)) none).run Tryz.prog W = .ok (.string (r.extract m n)) W := by
  subst hi; subst hj
  have := run_slice_string (P := Tryz.prog) (w := W) 9 r .i64 .i64 (m : Int) (n : Int) Tryz.underlying9 (by omega) (by omega) (by omega)
  simpa using this
theorem exSize (s : ByteArray) (k : Nat) : (s.extract k s.size).size = s.size - k := by simp
def unV (u : UnF) : Value := .tuple #[.string ⟨u.body.toArray⟩, .int .i64 u.fin, .agg #[.int .i64 u.at_, .int .i64 u.code]]

set_option maxRecDepth 100000 in
set_option maxHeartbeats 400000 in
theorem un_out (s : ByteArray) (i : Int) (_hs : s.size ≤ 1000000) (h0 : i < 0 ∨ (s.size : Int) < i) (w : World) :
    Calls Tryz.prog 23 #[.string s, .int .i64 i] w fun e w' => e = .returned (unV ⟨[], 0, 0, 1⟩) ∧ Fr [] w w' := by
  by_cases h1 : i < 0
  · go_enter Tryz.func23, Tryz.ntmps23
    go_wp2
    exact bodyPost_ret (v := unV ⟨[], 0, 0, 1⟩) (by simp [results, Tryz.results23, go_sem, unV]) rfl ⟨rfl, (Fr.refl _ _).alloc _⟩
  · have h2 := h0.resolve_left h1
    clear h0
    go_enter Tryz.func23, Tryz.ntmps23
    go_wp2
    exact bodyPost_ret (v := unV ⟨[], 0, 0, 1⟩) (by simp [results, Tryz.results23, go_sem, unV]) rfl ⟨rfl, (Fr.refl _ _).alloc _⟩

section
variable (s : ByteArray) (k u : Nat) (hk : k ≤ s.size)
include hk
set_option maxRecDepth 100000 in
set_option maxHeartbeats 400000 in
theorem un_A (hA : s.size - k < 4) (w : World) :
    Calls Tryz.prog 23 #[.string s, .int .i64 k] w fun e w' => e = .returned (unV ⟨[], 0, k, 11⟩) ∧ Fr [] w w' := by
  go_enter Tryz.func23, Tryz.ntmps23
  go_wp2
  exact bodyPost_ret (v := unV ⟨[], 0, k, 11⟩) (by simp [results, Tryz.results23, go_sem, unV]) rfl ⟨rfl, (Fr.refl _ _).alloc _⟩
variable (hA : ¬ s.size - k < 4) (hc1 : ∀ W, Calls Tryz.prog 38 #[.string ((s.extract k s.size).extract 0 4)] W fun e w' => e = .returned (.int .u32 (u : Nat)) ∧ W = w')
include hA hc1
set_option maxRecDepth 100000 in
set_option maxHeartbeats 400000 in
theorem un_B (hB : 65536 < u) (w : World) :
    Calls Tryz.prog 23 #[.string s, .int .i64 k] w fun e w' => e = .returned (unV ⟨[], 0, k, 2⟩) ∧ Fr [] w w' := by
  go_enter Tryz.func23, Tryz.ntmps23
  go_wp2_with (go_at_call 38; refine (hc1 _).mono ?_; rintro e w1 ⟨rfl, rfl⟩)
  exact bodyPost_ret (v := unV ⟨[], 0, k, 2⟩) (by simp [results, Tryz.results23, go_sem, unV]) rfl ⟨rfl, (Fr.refl _ _).alloc _⟩
variable (hB : ¬ 65536 < u)
include hB
set_option maxRecDepth 100000 in
set_option maxHeartbeats 400000 in
theorem un_C (hC : s.size - k < 4 + u + 4) (w : World) :
    Calls Tryz.prog 23 #[.string s, .int .i64 k] w fun e w' => e = .returned (unV ⟨[], 0, k, 11⟩) ∧ Fr [] w w' := by
  go_enter Tryz.func23, Tryz.ntmps23
  go_wp2_with (go_at_call 38; refine (hc1 _).mono ?_; rintro e w1 ⟨rfl, rfl⟩)
  exact bodyPost_ret (v := unV ⟨[], 0, k, 11⟩) (by simp [results, Tryz.results23, go_sem, unV]) rfl ⟨rfl, (Fr.refl _ _).alloc _⟩
variable (hC : ¬ s.size - k < 4 + u + 4) (m1 m2 : Nat)
  (hc2 : ∀ W, Calls Tryz.prog 39 #[.string ((s.extract k s.size).extract 0 (4 + u))] W fun e w' => e = .returned (.int .u32 (m1 : Nat)) ∧ w' = W)
  (hc3 : ∀ W, Calls Tryz.prog 38 #[.string ((s.extract k s.size).extract (4 + u) (4 + u + 4))] W fun e w' => e = .returned (.int .u32 (m2 : Nat)) ∧ w' = W)
include hC hc2 hc3
set_option maxRecDepth 100000 in
set_option maxHeartbeats 400000 in
theorem un_D (hD : m1 ≠ m2) (w : World) :
    Calls Tryz.prog 23 #[.string s, .int .i64 k] w fun e w' => e = .returned (unV ⟨[], 0, k, 10⟩) ∧ Fr [] w w' := by
  have hb : ((m1 : Int) != (m2 : Int)) = true := by rw [bne_iff_ne]; omega
  go_enter Tryz.func23, Tryz.ntmps23
  go_wp2_with (go_at_call 38; refine (hc1 _).mono ?_; rintro e w1 ⟨rfl, rfl⟩)
  refine reg_tail 10 (by kernel_rfl) (by kernel_rfl) (fun W hW hFW => ?_)
  have z := two_at (new_blk hW)
  simp only [List.take_succ_cons, List.take_zero, List.drop_succ_cons, List.drop_zero]
  clear hW
  have hr := exSize s k
  have s1 := slH (s.extract k s.size) (4 + u) (4 + (u : Int)) (by omega) (by omega) W
  have s2 := slLH (s.extract k s.size) (4 + u) (4 + u + 4) (4 + (u : Int)) (4 + (u : Int) + 4) (by omega) (by omega) (by omega) (by omega) W
  have hwr : IntKind.i64.wrap (4 + (u : Int) + 4) = 4 + (u : Int) + 4 := IntWalk.i64_in _ (by omega)
  clear hr
  repeat (first | still_step | still_call (hc2 _) | still_call (hc3 _))
  refine wpStill_nil ?_
  clear hwr
  go_wp2
  exact bodyPost_ret (v := unV ⟨[], 0, k, 10⟩) (by simp [results, Tryz.results23, go_sem, unV, z]) rfl ⟨rfl, ((((Fr.refl _ _).alloc _).trans hFW).setNew (Nat.le_refl _) _).setNew (Nat.le_refl _) _⟩
set_option maxRecDepth 100000 in
set_option maxHeartbeats 400000 in
theorem un_E (hs2 : s.size ≤ 1000000) (hD : m1 = m2) (w : World) :
    Calls Tryz.prog 23 #[.string s, .int .i64 k] w fun e w' => e = .returned (.tuple #[.string ((s.extract k s.size).extract 4 (4 + u)), .int .i64 ((k : Int) + (4 + (u : Int)) + 4), .agg #[.int .i64 0, .int .i64 0]]) ∧ Fr [] w w' := by
  have hb : ((m1 : Int) != (m2 : Int)) = false := by rw [bne_eq_false_iff_eq]; omega
  have hD := Lib.hid hD
  go_enter Tryz.func23, Tryz.ntmps23
  go_wp2_with (go_at_call 38; refine (hc1 _).mono ?_; rintro e w1 ⟨rfl, rfl⟩)
  refine reg_tail 10 (by kernel_rfl) (by kernel_rfl) (fun W hW hFW => ?_)
  have z := two_at (new_blk hW)
  simp only [List.take_succ_cons, List.take_zero, List.drop_succ_cons, List.drop_zero]
  clear hW
  have hr := exSize s k
  have s1 := slH (s.extract k s.size) (4 + u) (4 + (u : Int)) (by omega) (by omega) W
  have s2 := slLH (s.extract k s.size) (4 + u) (4 + u + 4) (4 + (u : Int)) (4 + (u : Int) + 4) (by omega) (by omega) (by omega) (by omega) W
  have s3 := slLH (s.extract k s.size) 4 (4 + u) 4 (4 + (u : Int)) (by omega) (by omega) (by omega) (by omega) W
  have hwr : IntKind.i64.wrap (4 + (u : Int) + 4) = 4 + (u : Int) + 4 := IntWalk.i64_in _ (by omega)
  clear hr
  repeat (first | still_step | still_call (hc2 _) | still_call (hc3 _))
  refine wpStill_nil ?_
  clear hwr
  go_wp2
  exact bodyPost_ret (v := .tuple #[.string ((s.extract k s.size).extract 4 (4 + u)), .int .i64 ((k : Int) + (4 + (u : Int)) + 4), .agg #[.int .i64 0, .int .i64 0]]) (by simp [results, Tryz.results23, go_sem, z]) rfl ⟨rfl, ((((Fr.refl _ _).alloc _).trans hFW).setNew (Nat.le_refl _) _).setNew (Nat.le_refl _) _⟩
end

theorem ext2 (s : ByteArray) (k a b : Nat) (hb : b ≤ s.size - k) : ((s.extract k s.size).extract a b).data.toList = ((s.data.toList.drop k).drop a).take (b - a) := by
  have hL : s.data.toList.length = s.size := by simp
  rw [Lib.extract_data, Lib.extract_data, List.take_of_length_le (l := s.data.toList.drop k) (by rw [List.length_drop, hL]; exact Nat.le_refl _)]
/-- What Unframe answers. -/
theorem unframe_any (s : ByteArray) (i : Int) (hs : s.size ≤ 1000000) (w : World) :
    Calls Tryz.prog 23 #[.string s, .int .i64 i] w fun e w' => e = .returned (unV (unframe s.data.toList i)) ∧ Fr [] w w' := by
  have hL : s.data.toList.length = s.size := by simp
  by_cases h0 : i < 0 ∨ (s.size : Int) < i
  · have hu : unframe s.data.toList i = ⟨[], 0, 0, 1⟩ := by unfold unframe; rw [if_pos (by rw [hL]; exact h0)]
    rw [hu]
    exact un_out s i hs h0 w
  · obtain ⟨k, rfl⟩ := Int.eq_ofNat_of_zero_le (by omega : 0 ≤ i)
    have hk : k ≤ s.size := by omega
    have hrl : (s.data.toList.drop k).length = s.size - k := by rw [List.length_drop, hL]
    have hu0 : unframe s.data.toList (k : Int) = (if s.size - k < 4 then ⟨[], 0, k, 11⟩
      else if 65536 < unle ((s.data.toList.drop k).take 4) then ⟨[], 0, k, 2⟩
      else if s.size - k < 4 + unle ((s.data.toList.drop k).take 4) + 4 then ⟨[], 0, k, 11⟩
      else if sumN ((s.data.toList.drop k).take (4 + unle ((s.data.toList.drop k).take 4))) ≠ unle (((s.data.toList.drop k).drop (4 + unle ((s.data.toList.drop k).take 4))).take 4) then ⟨[], 0, k, 10⟩
      else ⟨((s.data.toList.drop k).take (4 + unle ((s.data.toList.drop k).take 4))).drop 4, k + (4 + unle ((s.data.toList.drop k).take 4) : Nat) + 4, 0, 0⟩) := by
      rw [unframe, if_neg (by rw [hL]; omega)]
      simp only [Int.toNat_natCast, hrl]
    rw [hu0]
    clear hu0
    by_cases hA : s.size - k < 4
    · rw [if_pos hA]; exact un_A s k hk hA w
    · rw [if_neg hA]
      have e4 := ext2 s k 0 4 (by omega)
      rw [List.drop_zero] at e4
      have hc1 : ∀ W, Calls Tryz.prog 38 #[.string ((s.extract k s.size).extract 0 4)] W fun e w' => e = .returned (.int .u32 (unle ((s.data.toList.drop k).take 4) : Nat)) ∧ W = w' := by
        intro W
        have := unlow_any ((s.extract k s.size).extract 0 4) (by simp; omega) W
        rw [e4] at this
        exact this
      generalize unle ((s.data.toList.drop k).take 4) = u at hc1 ⊢
      by_cases hB : 65536 < u
      · rw [if_pos hB]; exact un_B s k u hk hA hc1 hB w
      · rw [if_neg hB]
        by_cases hC : s.size - k < 4 + u + 4
        · rw [if_pos hC]; exact un_C s k u hk hA hc1 hB hC w
        · rw [if_neg hC]
          have e5 := ext2 s k 0 (4 + u) (by omega)
          rw [List.drop_zero] at e5
          have e6 := ext2 s k (4 + u) (4 + u + 4) (by omega)
          have e7 := ext2 s k 4 (4 + u) (by omega)
          have z5 : 4 + u - 0 = 4 + u := by omega
          have z6 : 4 + u + 4 - (4 + u) = 4 := by omega
          rw [z5] at e5
          rw [z6] at e6
          have hc2 : ∀ W, Calls Tryz.prog 39 #[.string ((s.extract k s.size).extract 0 (4 + u))] W fun e w' => e = .returned (.int .u32 (sumN ((s.data.toList.drop k).take (4 + u)) : Nat)) ∧ w' = W := by
            intro W
            have := sum_any ((s.extract k s.size).extract 0 (4 + u)) (by simp; omega) W
            rw [e5] at this
            exact this.mono fun _ _ h => ⟨h.1, h.2.symm⟩
          have hc3 : ∀ W, Calls Tryz.prog 38 #[.string ((s.extract k s.size).extract (4 + u) (4 + u + 4))] W fun e w' => e = .returned (.int .u32 (unle (((s.data.toList.drop k).drop (4 + u)).take 4) : Nat)) ∧ w' = W := by
            intro W
            have := unlow_any ((s.extract k s.size).extract (4 + u) (4 + u + 4)) (by simp; omega) W
            rw [e6] at this
            exact this.mono fun _ _ h => ⟨h.1, h.2.symm⟩
          by_cases hD : sumN ((s.data.toList.drop k).take (4 + u)) = unle (((s.data.toList.drop k).drop (4 + u)).take 4)
          · rw [if_neg (by simpa using hD)]
            refine (un_E s k u hk hA hc1 hB hC _ _ hc2 hc3 hs hD w).mono fun e w' h => ⟨?_, h.2⟩
            rw [h.1]
            have e8 : (s.extract k s.size).extract 4 (4 + u) = ⟨(((s.data.toList.drop k).take (4 + u)).drop 4).toArray⟩ := by
              apply bytes_ext
              rw [e7, List.drop_take]
            simp only [unV, e8]
            congr 4
          · rw [if_pos hD]
            exact un_D s k u hk hA hc1 hB hC _ _ hc2 hc3 hD w
end Go.Proofs.YtljolihlhfabnaaGreatDoor
