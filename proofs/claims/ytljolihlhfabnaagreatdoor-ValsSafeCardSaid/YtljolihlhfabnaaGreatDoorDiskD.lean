/-
  THE DISK's CALL Cut.
-/
import Derived.Test.YtljolihlhfabnaaGreatDoorDiskC
namespace Go.Proofs.YtljolihlhfabnaaGreatDoor
open Go Go.RowKit Go.Maps

set_option maxRecDepth 100000 in
set_option maxHeartbeats 1000000 in
theorem cut_any (w : World) (a b : Nat) (d : DiskM) (h : DiskAt w a b d) (s : ByteArray) (n : Int) (hs : s.size ≤ maxLen) (hl : 0 ≤ d.left ∧ d.left < 9223372036854775808)
    (hu : 0 ≤ d.used ∧ d.used ≤ 1000000) (hn : d.files.length ≤ 1000000) (hg : (getF d.files s.data.toList).has.size ≤ 1000000) :
    Calls Tryz.prog 31 #[.pointer (some ⟨a, 0, none⟩), .string s, .int .i64 n] w fun e w' =>
      e = .returned (.int .i64 (d.cut s.data.toList n).1) ∧ DiskAt w' a b (d.cut s.data.toList n).2 ∧ Fr [a, b] w w' := by
  have hlt := h.lt
  have H := Lib.hid h
  have hk := known_any w a b d h s hs
  have hr := fun W hD => ready_any W a b d hD hl
  have hdf := ready_same d hu
  clear h
  unfold fileV at hk
  unfold DiskM.cut
  generalize hf : getF d.files s.data.toList = f at hk hg ⊢
  have HFF := Lib.hid hf
  clear hf
  generalize d.known s.data.toList = kn at hk ⊢
  have hr := Lib.hid hr
  by_cases h0 : kn = 0
  · subst h0
    rw [if_neg (by simp)]
    by_cases hb : n < 0 ∨ (f.has.size : Int) < n
    · rw [if_pos hb]
      by_cases h1 : n < 0
      · clear hb
        go_enter Tryz.func31, Tryz.ntmps31
        go_wp2_with (go_at_call 40; refine hk.mono ?_; rintro e w1 ⟨rfl, hF⟩)
        go_ret
        exact ⟨rfl, (H.out.fr hF (by simp) (by simp)).alloc _, (hF.mono (by simp)).alloc _⟩
      · have h2 := hb.resolve_left h1
        clear hb
        go_enter Tryz.func31, Tryz.ntmps31
        go_wp2_with (go_at_call 40; refine hk.mono ?_; rintro e w1 ⟨rfl, hF⟩)
        go_ret
        exact ⟨rfl, (H.out.fr hF (by simp) (by simp)).alloc _, (hF.mono (by simp)).alloc _⟩
    · rw [if_neg hb]
      have h1 : ¬ n < 0 := fun h => hb (.inl h)
      have h2 : ¬ (f.has.size : Int) < n := fun h => hb (.inr h)
      clear hb
      generalize d.ready = rr at hr hdf ⊢
      obtain ⟨rb, d1⟩ := rr
      simp only at hr hdf ⊢
      obtain ⟨hd1, hd2⟩ := hdf
      have hset := fun W hD => set_any W a b d1 hD s ⟨f.has.extract 0 n.toNat, min f.safe n⟩ hs (by rw [hd1]; unfold maxLen; omega) hd2 (by simp; omega) (by rw [hd1, HFF.out]; omega)
      have hset := Lib.hid hset
      unfold fileV at hset
      simp only at hset
      have hd1 := Lib.hid hd1
      cases rb
      · rw [if_pos rfl]
        go_enter Tryz.func31, Tryz.ntmps31
        go_wp2_with (go_at_call 40; refine hk.mono ?_; rintro e w1 ⟨rfl, hF⟩)
        have HF := Lib.hid ((hF.mono (T := [a, b]) (by simp)).alloc (.cells #[.string f.has, .int .i64 f.safe] 70))
        have HD := Lib.hid ((H.out.fr hF (by simp) (by simp)).alloc (.cells #[.string f.has, .int .i64 f.safe] 70))
        clear hF
        refine (hr.out _ HD.out).mono ?_
        rintro e w2 ⟨rfl, hD2, hF2⟩
        go_wp2
        go_ret
        exact ⟨rfl, hD2, HF.out.trans (hF2.mono (by simp))⟩
      · rw [if_neg (by simp)]
        go_enter Tryz.func31, Tryz.ntmps31
        go_wp2_with (go_at_call 40; refine hk.mono ?_; rintro e w1 ⟨rfl, hF⟩)
        have hsz1 := hF.size
        have hfb := hpNew (w := w1) rfl (.cells #[.string f.has, .int .i64 f.safe] 70)
        have HF := Lib.hid ((hF.mono (T := [a, b]) (by simp)).alloc (.cells #[.string f.has, .int .i64 f.safe] 70))
        have HD := Lib.hid ((H.out.fr hF (by simp) (by simp)).alloc (.cells #[.string f.has, .int .i64 f.safe] 70))
        clear hF
        refine (hr.out _ HD.out).mono ?_
        rintro e w2 ⟨rfl, hD2, hF2⟩
        have hfb2 := Lib.hid (hF2.blk hfb (by simp; omega))
        have HF2 := Lib.hid (HF.out.trans (hF2.mono (T := [a, b]) (by simp)))
        have HD2 := Lib.hid hD2
        clear hfb hF2 hD2
        go_wp2_with fail
        refine reg_tail 11 (by kernel_rfl) (by kernel_rfl) (fun W hW hFW => ?_)
        obtain ⟨x0, x1, z0, z1⟩ := two_at (hFW.blk hfb2.out (by simp))
        have HD3 := Lib.hid (HD2.out.fr hFW (by simp) (by simp))
        have HF3 := Lib.hid (HF2.out.trans (hFW.mono (T := [a, b]) (by simp)))
        clear hW hFW
        simp only [List.take_succ_cons, List.take_zero, List.drop_succ_cons, List.drop_zero]
        repeat still_step
        refine wpStill_nil ?_
        go_wp2_with fail
        refine (hset.out _ HD3.out).mono ?_
        rintro e w3 ⟨rfl, hD4, hF4⟩
        go_wp2
        go_ret
        exact ⟨rfl, hD4, HF3.out.trans hF4⟩
  · have h1 : (kn != 0) = true := by simpa using h0
    rw [if_pos h0]
    have h0' := Lib.hid h0
    clear h0
    go_enter Tryz.func31, Tryz.ntmps31
    go_wp2_with (go_at_call 40; refine hk.mono ?_; rintro e w1 ⟨rfl, hF⟩)
    go_ret
    exact ⟨rfl, (H.out.fr hF (by simp) (by simp)).alloc _, (hF.mono (by simp)).alloc _⟩
end Go.Proofs.YtljolihlhfabnaaGreatDoor
