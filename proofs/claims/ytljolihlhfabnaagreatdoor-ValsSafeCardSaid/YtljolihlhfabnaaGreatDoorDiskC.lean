/-
  THE DISK's CALLS: Append, Cut.
-/
import Derived.Test.YtljolihlhfabnaaGreatDoorDiskB
namespace Go.Proofs.YtljolihlhfabnaaGreatDoor
open Go Go.RowKit Go.Maps

/-- The first cells of a disk's block. -/
theorem disk_cells {w : World} {a b : Nat} {d : DiskM} (h : DiskAt w a b d) :
    w.cell? ⟨a, 0, none⟩ = some (.int .i64 d.room) ∧ w.cell? ⟨a, 1, none⟩ = some (.int .i64 d.used) ∧ w.cell? ⟨a, 2, none⟩ = some (.map (some b)) :=
  ⟨cell_at h.blk 0, cell_at h.blk 1, cell_at h.blk 2⟩

set_option maxRecDepth 100000 in
set_option maxHeartbeats 1000000 in
theorem append_any (w : World) (a b : Nat) (d : DiskM) (h : DiskAt w a b d) (s data : ByteArray) (hs : s.size ≤ maxLen) (hdt : data.size ≤ 1000000) (hl : 0 ≤ d.left ∧ d.left < 9223372036854775808)
    (hu : 0 ≤ d.used ∧ d.used ≤ 1000000) (hrm : 0 ≤ d.room ∧ d.room ≤ 1000000) (hn : d.files.length ≤ 1000000) (hg : (getF d.files s.data.toList).has.size + data.size ≤ 1000000) :
    Calls Tryz.prog 33 #[.pointer (some ⟨a, 0, none⟩), .string s, .string data] w fun e w' =>
      e = .returned (.int .i64 (d.append s.data.toList data).1) ∧ DiskAt w' a b (d.append s.data.toList data).2 ∧ Fr [a, b] w w' := by
  have hlt := h.lt
  have H := Lib.hid h
  have hlk := h.map.lookOk hs
  obtain ⟨_, _, c2⟩ := disk_cells h
  clear h
  unfold fileV at hlk
  unfold DiskM.append
  have hdf := ready_same d hu
  have hr := fun W hD => ready_any W a b d hD hl
  generalize hf : getF d.files s.data.toList = f at hlk hg ⊢
  generalize hth : hasF d.files s.data.toList = there at hlk ⊢
  have HFF := Lib.hid hf
  clear hf hth
  have hmay := fun W g c hg hc => mayOne W g c s hs hg hc
  generalize mayN s.data.toList = m at hmay ⊢
  have hr := Lib.hid hr
  cases m
  · rw [if_pos rfl]
    go_enter Tryz.func33, Tryz.ntmps33
    go_wp2_with fail
    refine (hmay _ _ _ (by simp) (by simp [go_sem])).mono ?_
    rintro e w1 ⟨rfl, hF⟩
    have HF := Lib.hid ((((Fr.refl [] w).alloc _).alloc _).trans hF)
    clear hF c2 hlk
    go_wp2
    go_ret
    exact ⟨rfl, H.out.fr HF.out (by simp) (by simp), HF.out.mono (by simp)⟩
  · rw [if_neg (by simp)]
    by_cases hsp : d.room - d.used < data.size ∨ (!there && decide (64 ≤ d.files.length)) = true
    · rw [if_pos hsp]
      have hwr : IntKind.i64.wrap (d.room - d.used) = d.room - d.used := IntWalk.i64_in _ (by omega)
      by_cases h1 : d.room - d.used < data.size
      · have H1 : decide ((data.size : Int) > d.room - d.used) = true := by simpa using h1
        clear hsp
        go_enter Tryz.func33, Tryz.ntmps33
        go_wp2_with fail
        refine (hmay _ _ _ (by simp) (by simp [go_sem])).mono ?_
        rintro e w1 ⟨rfl, hF⟩
        have hF0 : Fr [] w w1 := (((Fr.refl [] w).alloc _).alloc _).trans hF
        clear hF c2 hlk
        go_wp2_with fail
        refine reg_tail 12 (by kernel_rfl) (by kernel_rfl) (fun W hW hFW => ?_)
        have HD : DiskAt W a b d := H.out.fr (hF0.trans hFW) (by simp) (by simp)
        obtain ⟨c0, c1, c2⟩ := disk_cells HD
        have HD := Lib.hid HD
        have HFW := Lib.hid (hF0.trans hFW)
        clear hW hFW hF0
        simp only [List.take_succ_cons, List.take_zero, List.drop_succ_cons, List.drop_zero]
        repeat still_step
        refine wpStill_nil ?_
        go_wp2
        go_ret
        exact ⟨rfl, HD.out, HFW.out.mono (by simp)⟩
      · have h2 : (!there && decide (64 ≤ d.files.length)) = true := hsp.resolve_left h1
        have H1 : decide ((data.size : Int) > d.room - d.used) = false := by simpa using h1
        obtain rfl : there = false := by
          cases there
          · rfl
          · simp at h2
        have h3 : (64 : Int) ≤ (d.files.length : Int) := by simp at h2; omega
        clear hsp
        go_enter Tryz.func33, Tryz.ntmps33
        go_wp2_with fail
        refine (hmay _ _ _ (by simp) (by simp [go_sem])).mono ?_
        rintro e w1 ⟨rfl, hF⟩
        have hF0 : Fr [] w w1 := (((Fr.refl [] w).alloc _).alloc _).trans hF
        clear hF c2 hlk
        go_wp2_with fail
        refine reg_tail 12 (by kernel_rfl) (by kernel_rfl) (fun W hW hFW => ?_)
        have HD : DiskAt W a b d := H.out.fr (hF0.trans hFW) (by simp) (by simp)
        obtain ⟨c0, c1, c2⟩ := disk_cells HD
        have hln := fun ty => HD.map.len ty
        have HD := Lib.hid HD
        have HFW := Lib.hid (hF0.trans hFW)
        clear hW hFW hF0
        simp only [List.take_succ_cons, List.take_zero, List.drop_succ_cons, List.drop_zero]
        repeat still_step
        refine wpStill_nil ?_
        clear hwr H1 h1
        go_wp2
        go_ret
        exact ⟨rfl, HD.out, HFW.out.mono (by simp)⟩
    · rw [if_neg hsp]
      have h1 : ¬ d.room - d.used < data.size := fun h => hsp (.inl h)
      have h2 : (!there && decide (64 ≤ d.files.length)) = false := by
        cases hh : (!there && decide (64 ≤ d.files.length))
        · rfl
        · exact absurd (Or.inr hh) hsp
      have H1 : decide ((data.size : Int) > d.room - d.used) = false := by simpa using h1
      have h1' : (data.size : Int) ≤ d.room - d.used := by omega
      have hwr : IntKind.i64.wrap (d.room - d.used) = d.room - d.used := IntWalk.i64_in _ (by omega)
      have h3 : there = false → ¬ (64 : Int) ≤ (d.files.length : Int) := fun e => by subst e; simp at h2; omega
      have h3 := Lib.hid h3
      clear hsp h1 h2
      generalize d.ready = rr at hr hdf ⊢
      obtain ⟨rb, d1⟩ := rr
      simp only at hr hdf ⊢
      obtain ⟨hd1, hd2⟩ := hdf
      have hset := fun W hD => set_any W a b d1 hD s ⟨f.has ++ data, f.safe⟩ hs (by rw [hd1]; unfold maxLen; omega) hd2 (by simp; omega) (by rw [hd1, HFF.out]; omega)
      have hset := Lib.hid hset
      unfold fileV at hset
      simp only at hset
      have hd1 := Lib.hid hd1
      go_enter Tryz.func33, Tryz.ntmps33
      go_wp2_with fail
      refine (hmay _ _ _ (by simp) (by simp [go_sem])).mono ?_
      rintro e w1 ⟨rfl, hF⟩
      have hF0 : Fr [] w w1 := (((Fr.refl [] w).alloc _).alloc _).trans hF
      have hfb := (hF.blk (hpOld (hpNew (w := w) rfl (.cells #[.string f.has, .int .i64 f.safe] 70)) _) (by simp))
      clear hF c2 hlk
      go_wp2_with fail
      refine reg_tail 12 (by kernel_rfl) (by kernel_rfl) (fun W hW hFW => ?_)
      have HD : DiskAt W a b d := H.out.fr (hF0.trans hFW) (by simp) (by simp)
      obtain ⟨c0, c1, c2⟩ := disk_cells HD
      have hln := fun ty => HD.map.len ty
      have hfb2 := hFW.blk hfb (by simp)
      have HD := Lib.hid HD
      have HFW := Lib.hid (hF0.trans hFW)
      have hfb2 := Lib.hid hfb2
      clear hfb hW hFW hF0
      simp only [List.take_succ_cons, List.take_zero, List.drop_succ_cons, List.drop_zero]
      repeat still_step
      refine wpStill_nil ?_
      clear hwr H1
      cases rb
      · cases there
        · have h4 := h3.out rfl
          go_wp2_with fail
          refine (hr.out _ HD.out).mono ?_
          rintro e w2 ⟨rfl, hD2, hF2⟩
          go_wp2
          go_ret
          exact ⟨rfl, hD2, (HFW.out.mono (by simp)).trans (hF2.mono (by simp))⟩
        · go_wp2_with fail
          refine (hr.out _ HD.out).mono ?_
          rintro e w2 ⟨rfl, hD2, hF2⟩
          go_wp2
          go_ret
          exact ⟨rfl, hD2, (HFW.out.mono (by simp)).trans (hF2.mono (by simp))⟩
      · cases there
        · have h4 := h3.out rfl
          go_wp2_with fail
          refine (hr.out _ HD.out).mono ?_
          rintro e w2 ⟨rfl, hD2, hF2⟩
          obtain ⟨x0, x1, z0, z1⟩ := two_at (hF2.blk hfb2.out (by simp; omega))
          have HD2 := Lib.hid (hD2.fr (S := [w.heap.size]) ((Fr.refl _ w2).setIn (p := ⟨w.heap.size, 0, none⟩) (by simp) (.string (f.has ++ data))) (by simp; omega) (by simp; omega))
          have HF2 := Lib.hid (((HFW.out.mono (T := [a, b]) (by simp)).trans (hF2.mono (T := [a, b]) (by simp))).setNew (p := ⟨w.heap.size, 0, none⟩) (Nat.le_refl _) (.string (f.has ++ data)))
          clear hD2 hF2
          go_wp2_with fail
          refine (hset.out _ HD2.out).mono ?_
          rintro e w3 ⟨rfl, hD3, hF3⟩
          go_wp2
          go_ret
          exact ⟨rfl, hD3, HF2.out.trans hF3⟩
        · go_wp2_with fail
          refine (hr.out _ HD.out).mono ?_
          rintro e w2 ⟨rfl, hD2, hF2⟩
          obtain ⟨x0, x1, z0, z1⟩ := two_at (hF2.blk hfb2.out (by simp; omega))
          have HD2 := Lib.hid (hD2.fr (S := [w.heap.size]) ((Fr.refl _ w2).setIn (p := ⟨w.heap.size, 0, none⟩) (by simp) (.string (f.has ++ data))) (by simp; omega) (by simp; omega))
          have HF2 := Lib.hid (((HFW.out.mono (T := [a, b]) (by simp)).trans (hF2.mono (T := [a, b]) (by simp))).setNew (p := ⟨w.heap.size, 0, none⟩) (Nat.le_refl _) (.string (f.has ++ data)))
          clear hD2 hF2
          go_wp2_with fail
          refine (hset.out _ HD2.out).mono ?_
          rintro e w3 ⟨rfl, hD3, hF3⟩
          go_wp2
          go_ret
          exact ⟨rfl, hD3, HF2.out.trans hF3⟩
end Go.Proofs.YtljolihlhfabnaaGreatDoor
