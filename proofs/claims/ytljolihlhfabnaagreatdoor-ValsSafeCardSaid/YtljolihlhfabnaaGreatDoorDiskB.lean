/-
  THE DISK's CALLS: New, Read, Append, Cut, Remove: each answers and turns the disk as the plain model has it.
-/
import Derived.Test.YtljolihlhfabnaaGreatDoorMay
import Derived.Test.YtljolihlhfabnaaGreatDoorDiskA
namespace Go.Proofs.YtljolihlhfabnaaGreatDoor
open Go Go.RowKit Go.Maps

theorem allMay_one (s : ByteArray) : allMay [s] = mayN s.data.toList := by simp [allMay]
/-- 'may(name)' of one name. -/
theorem mayOne (w : World) (g c : Nat) (s : ByteArray) (hs : s.size ≤ maxLen) (hg : g < w.heap.size) (hc : w.cell? ⟨g, 0, none⟩ = some (.string s)) :
    Calls Tryz.prog 45 #[.slice (some ⟨g, 0, none⟩) 1 c] w fun e w' => e = .returned (.bool (mayN s.data.toList)) ∧ Fr [] w w' := by
  have := may_any w g 0 c [s] (by simp) hg (by simpa using hs) (by
    intro j h
    obtain rfl : j = 0 := by simpa using h
    exact hc)
  rw [allMay_one] at this
  exact this

set_option maxRecDepth 100000 in
set_option maxHeartbeats 400000 in
/-- What 'known' answers: the file, and the error. -/
theorem known_any (w : World) (a b : Nat) (d : DiskM) (h : DiskAt w a b d) (s : ByteArray) (hs : s.size ≤ maxLen) :
    Calls Tryz.prog 40 #[.pointer (some ⟨a, 0, none⟩), .string s] w fun e w' =>
      e = .returned (.tuple #[fileV (getF d.files s.data.toList), .int .i64 (d.known s.data.toList)]) ∧ Fr [] w w' := by
  have hlt := h.lt
  have c2 := cell_at h.blk 2
  simp only [List.getElem?_toArray, List.getElem?_cons_succ, List.getElem?_cons_zero] at c2
  have hlk := (h.map.alloc (.cells #[.string ⟨#[]⟩, .int .i64 0] 70)).lookOk hs
  have H := Lib.hid h
  clear h
  generalize hf : getF d.files s.data.toList = f at hlk ⊢
  generalize ht : hasF d.files s.data.toList = there at hlk
  have HT := Lib.hid ht
  clear hf ht
  unfold fileV at hlk ⊢
  go_enter Tryz.func40, Tryz.ntmps40
  go_wp2_with fail
  refine (mayOne _ _ _ s hs (by simp) (by simp [go_sem])).mono ?_
  rintro e w1 ⟨rfl, hF⟩
  obtain ⟨x0, x1, z0, z1⟩ := two_at (hF.blk (hpOld (hpOld (hpNew (w := w) rfl (.cells #[.string ⟨#[]⟩, .int .i64 0] 70)) _) _) (by simp))
  obtain ⟨y0, y1, _, _⟩ := two_at (hF.blk (hpOld (hpNew (n := w.heap.size + 1) (by simp) (.cells #[.string f.has, .int .i64 f.safe] 70)) _) (by simp))
  have HF : Hid (Fr [] w w1) := ((((Fr.refl [] w).alloc _).alloc _).alloc _).trans hF
  clear hF
  clear hlk c2
  have HT := HT
  go_wp2
  · have hm : (!mayN s.data.toList) = true := by assumption
    refine bodyPost_ret (v := .tuple #[.agg #[.string f.has, .int .i64 f.safe], .int .i64 20]) (by simp [results, Tryz.results40, go_sem, x0, x1]) rfl ⟨?_, ?_⟩
    · simp [DiskM.known, hm]
    · exact (HF.out.setNew (Nat.le_refl _) _).setNew (Nat.le_refl _) _
  · have hm : (!mayN s.data.toList) = false := by assumption
    have ht : (!there) = true := by assumption
    refine bodyPost_ret (v := .tuple #[.agg #[.string f.has, .int .i64 f.safe], .int .i64 5]) (by simp [results, Tryz.results40, go_sem, x0, x1]) rfl ⟨?_, ?_⟩
    · simp [DiskM.known, hm, HT.out, ht]
    · exact (HF.out.setNew (Nat.le_refl _) _).setNew (Nat.le_refl _) _
  · have hm : (!mayN s.data.toList) = false := by assumption
    have ht : (!there) = false := by assumption
    refine bodyPost_ret (v := .tuple #[.agg #[.string f.has, .int .i64 f.safe], .int .i64 0]) (by simp [results, Tryz.results40, go_sem, x0, x1]) rfl ⟨?_, ?_⟩
    · simp [DiskM.known, hm, HT.out, ht]
    · exact (HF.out.setNew (Nat.le_refl _) _).setNew (Nat.le_refl _) _

set_option maxRecDepth 100000 in
set_option maxHeartbeats 400000 in
theorem read_any (w : World) (a b : Nat) (d : DiskM) (h : DiskAt w a b d) (s : ByteArray) (hs : s.size ≤ maxLen) :
    Calls Tryz.prog 29 #[.pointer (some ⟨a, 0, none⟩), .string s] w fun e w' =>
      e = .returned (.tuple #[.string (getF d.files s.data.toList).has, .int .i64 (d.known s.data.toList)]) ∧ Fr [] w w' := by
  have hk := known_any w a b d h s hs
  clear h
  generalize getF d.files s.data.toList = f at hk ⊢
  generalize d.known s.data.toList = n at hk ⊢
  unfold fileV at hk
  go_enter Tryz.func29, Tryz.ntmps29
  go_wp2_with (go_at_call 40; refine hk.mono ?_; rintro e w1 ⟨rfl, hF⟩)
  go_ret2
  exact ⟨rfl, hF.alloc _⟩

set_option maxRecDepth 100000 in
set_option maxHeartbeats 400000 in
theorem new_bad (w : World) (room : Int) (h : room < 0 ∨ 262144 < room) :
    Calls Tryz.prog 6 #[.int .i64 room] w fun e w' => e = .returned (.tuple #[.pointer none, .int .i64 1]) ∧ w = w' := by
  rcases h with h1 | h1
  · go_enter Tryz.func6, Tryz.ntmps6
    go_wp2
    go_ret2
    exact ⟨rfl, rfl⟩
  · have h2 : ¬ room < 0 := by omega
    go_enter Tryz.func6, Tryz.ntmps6
    go_wp2
    go_ret2
    exact ⟨rfl, rfl⟩
set_option maxRecDepth 100000 in
set_option maxHeartbeats 400000 in
theorem new_ok (w : World) (room : Int) (h1 : 0 ≤ room) (h2 : room ≤ 262144) :
    Calls Tryz.prog 6 #[.int .i64 room] w fun e w' => ∃ a b, e = .returned (.tuple #[.pointer (some ⟨a, 0, none⟩), .int .i64 0]) ∧ DiskAt w' a b ⟨room, 0, [], false, false, 0⟩ ∧ w.heap.size ≤ a ∧ w.heap.size ≤ b ∧ Fr [] w w' := by
  have hmm := @run_makeMap Tryz.prog
  go_enter Tryz.func6, Tryz.ntmps6
  go_wp2
  go_ret2
  refine ⟨w.heap.size + 1, w.heap.size, rfl, ⟨hpNew (by simp) _, ?_⟩, by omega, Nat.le_refl _, ((Fr.refl [] w).alloc _).alloc _⟩
  exact World.ownsMap.alloc (World.ownsMap_made w Tryz.prog 9 fileR) _

theorem ready_same (d : DiskM) (hu : 0 ≤ d.used ∧ d.used ≤ 1000000) : d.ready.2.files = d.files ∧ 0 ≤ d.ready.2.used ∧ d.ready.2.used ≤ 1000000 := by
  unfold DiskM.ready
  split
  · exact ⟨rfl, hu⟩
  · split <;> exact ⟨rfl, hu⟩
set_option maxRecDepth 100000 in
set_option maxHeartbeats 400000 in
theorem remove_any (w : World) (a b : Nat) (d : DiskM) (h : DiskAt w a b d) (s : ByteArray) (hs : s.size ≤ maxLen) (hl : 0 ≤ d.left ∧ d.left < 9223372036854775808)
    (hu : 0 ≤ d.used ∧ d.used ≤ 1000000) (hg : (getF d.files s.data.toList).has.size ≤ 1000000) :
    Calls Tryz.prog 24 #[.pointer (some ⟨a, 0, none⟩), .string s] w fun e w' =>
      e = .returned (.int .i64 (d.remove s.data.toList).1) ∧ DiskAt w' a b (d.remove s.data.toList).2 ∧ Fr [a, b] w w' := by
  have hlt := h.lt
  have H := Lib.hid h
  have hk := known_any w a b d h s hs
  clear h
  unfold fileV at hk
  unfold DiskM.remove
  generalize hn : d.known s.data.toList = n at hk ⊢
  by_cases h0 : n = 0
  · subst h0
    rw [if_neg (by simp)]
    have hr := fun W hD => ready_any W a b d hD hl
    have hdf : d.ready.2.files = d.files ∧ 0 ≤ d.ready.2.used ∧ d.ready.2.used ≤ 1000000 := ready_same d hu
    have HN := Lib.hid hn
    clear hn
    generalize d.ready = rr at hr hdf ⊢
    obtain ⟨rb, d1⟩ := rr
    simp only at hr hdf ⊢
    obtain ⟨hd1, hd2⟩ := hdf
    cases rb
    · rw [if_pos rfl]
      go_enter Tryz.func24, Tryz.ntmps24
      go_wp2_with (go_at_call 40; refine hk.mono ?_; rintro e w1 ⟨rfl, hF⟩)
      refine (hr _ ((H.out.fr hF (by simp) (by simp)).alloc _)).mono ?_
      rintro e w2 ⟨rfl, hD, hF2⟩
      have HF := Lib.hid (((hF.mono (T := [a, b]) (by simp)).alloc _).trans (hF2.mono (T := [a, b]) (by simp)))
      have HD := Lib.hid hD
      clear hF hF2 hD
      go_wp2
      go_ret
      exact ⟨rfl, HD.out, HF.out⟩
    · rw [if_neg (by simp)]
      have hdr := fun W hD => drop_any W a b d1 hD s hs hd2 (by rw [hd1]; exact hg)
      have HD1 := Lib.hid hd1
      clear hd1
      go_enter Tryz.func24, Tryz.ntmps24
      go_wp2_with (go_at_call 40; refine hk.mono ?_; rintro e w1 ⟨rfl, hF⟩)
      refine (hr _ ((H.out.fr hF (by simp) (by simp)).alloc _)).mono ?_
      rintro e w2 ⟨rfl, hD, hF2⟩
      have HF := Lib.hid (((hF.mono (T := [a, b]) (by simp)).alloc _).trans (hF2.mono (T := [a, b]) (by simp)))
      have HD := Lib.hid hD
      clear hF hF2 hD
      go_wp2_with fail
      refine (hdr _ HD.out).mono ?_
      rintro e w3 ⟨rfl, hD3, hF3⟩
      go_wp2
      go_ret
      exact ⟨rfl, hD3, HF.out.trans hF3⟩
  · have h1 : (n != 0) = true := by simpa using h0
    rw [if_pos h0]
    have h0' := Lib.hid h0
    clear h0
    go_enter Tryz.func24, Tryz.ntmps24
    go_wp2_with (go_at_call 40; refine hk.mono ?_; rintro e w1 ⟨rfl, hF⟩)
    go_ret
    exact ⟨rfl, (H.out.fr hF (by simp) (by simp)).alloc _, (hF.mono (by simp)).alloc _⟩
end Go.Proofs.YtljolihlhfabnaaGreatDoor
