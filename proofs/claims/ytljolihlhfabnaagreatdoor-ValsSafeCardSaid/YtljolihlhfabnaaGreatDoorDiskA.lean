/-
  THE DISK's OWN HELPERS: ready, set, drop: what each makes of the disk in memory.
-/
import Derived.Test.YtljolihlhfabnaaGreatDoorFrame
import Derived.StillTailTactics
import Derived.Deep.QuietTactic
import Derived.BigQuiet
namespace Go.Proofs.YtljolihlhfabnaaGreatDoor
open Go Go.RowKit Go.Maps

theorem ret_bool {a b : Bool} (h : a = b) : Ending.returned (.bool a) = .returned (.bool b) := by rw [h]

set_option maxRecDepth 100000 in
set_option maxHeartbeats 400000 in
theorem ready_any (w : World) (a b : Nat) (d : DiskM) (h : DiskAt w a b d) (hl : 0 ≤ d.left ∧ d.left < 9223372036854775808) :
    Calls Tryz.prog 26 #[.pointer (some ⟨a, 0, none⟩)] w fun e w' => e = .returned (.bool d.ready.1) ∧ DiskAt w' a b d.ready.2 ∧ Fr [a] w w' := by
  obtain ⟨room, used, files, fused, down, left⟩ := d
  have H := Lib.hid h
  obtain ⟨hb, hm⟩ := h
  simp only at hb hm hl
  have c3 := cell_at hb 3
  have c4 := cell_at hb 4
  have c5 := cell_at hb 5
  have f4 := free_at hb 4
  have f5 := free_at hb 5
  simp only [List.getElem?_toArray, List.getElem?_cons_succ, List.getElem?_cons_zero] at c3 c4 c5
  clear hb hm
  cases fused
  · go_enter Tryz.func26, Tryz.ntmps26
    go_wp2
    go_ret
    exact ⟨ret_bool (by simp [DiskM.ready]), by simpa [DiskM.ready] using H.out, Fr.refl _ _⟩
  · by_cases h0 : left = 0
    · subst h0
      go_enter Tryz.func26, Tryz.ntmps26
      go_wp2
      go_ret
      exact ⟨ret_bool (by simp [DiskM.ready]), by simp [DiskM.ready]; exact H.out.put 4 _ rfl rfl, (Fr.refl _ _).setIn (by simp) _⟩
    · have h1 : (left == 0) = false := by simpa using h0
      cases down
      · go_enter Tryz.func26, Tryz.ntmps26
        go_wp2
        go_ret
        exact ⟨ret_bool (by simp [DiskM.ready, h1]), by simp [DiskM.ready, h1]; exact H.out.put 5 _ rfl rfl, (Fr.refl _ _).setIn (by simp) _⟩
      · go_enter Tryz.func26, Tryz.ntmps26
        go_wp2
        go_ret
        exact ⟨ret_bool (by simp [DiskM.ready, h1]), by simpa [DiskM.ready, h1] using H.out, Fr.refl _ _⟩

set_option maxRecDepth 100000 in
set_option maxHeartbeats 400000 in
theorem set_any (w : World) (a b : Nat) (d : DiskM) (h : DiskAt w a b d) (s : ByteArray) (f : FileM) (hs : s.size ≤ maxLen) (hn : d.files.length < maxLen)
    (hu : 0 ≤ d.used ∧ d.used ≤ 1000000) (hf : f.has.size ≤ 1000000) (hg : (getF d.files s.data.toList).has.size ≤ 1000000) :
    Calls Tryz.prog 28 #[.pointer (some ⟨a, 0, none⟩), .string s, fileV f] w fun e w' => e = .returned (.tuple #[]) ∧ DiskAt w' a b (d.set s.data.toList f) ∧ Fr [a, b] w w' := by
  have hlt := h.lt
  have hne := h.ne
  have hb := h.blk
  have c1 := cell_at hb 1
  have c2 := cell_at hb 2
  have f1 := free_at hb 1
  simp only [List.getElem?_toArray, List.getElem?_cons_succ, List.getElem?_cons_zero] at c1 c2
  have H := Lib.hid h
  clear hb h
  unfold fileV
  go_enter Tryz.func28, Tryz.ntmps28
  go_wp2
  refine reg_tail 19 (by kernel_rfl) (by kernel_rfl) (fun W hW hF => ?_)
  have HW : DiskAt W a b d := (H.out.alloc _).same hW
  have hlk := HW.map.look hs
  unfold fileV at hlk
  have c1' := (cell_at HW.blk 1)
  have c2' := (cell_at HW.blk 2)
  have f1' := (free_at HW.blk 1)
  simp only [List.getElem?_toArray, List.getElem?_cons_succ, List.getElem?_cons_zero] at c1' c2'
  have b0 : W.cell? ⟨w.heap.size, 0, none⟩ = some (.string f.has) := (cell_at (new_blk hW) 0).trans rfl
  have HWe := Lib.hid hW
  clear hW
  have HWh := Lib.hid HW
  clear HW
  simp only [List.take_succ_cons, List.take_zero, List.drop_succ_cons, List.drop_zero]
  repeat still_step
  refine wpStill_nil ?_
  go_wp2
  refine reg_tail 6 (by kernel_rfl) (by kernel_rfl) (fun W2 hW2 hF2 => ?_)
  have HD2 : DiskAt W2 a b { d with used := d.used + ((f.has.size : Int) - ((getF d.files s.data.toList).has.size : Int)) } := (HWh.out.put 1 _ (d' := { d with used := d.used + ((f.has.size : Int) - ((getF d.files s.data.toList).has.size : Int)) }) rfl rfl).same hW2
  have hx : W2.heap[w.heap.size]? = some (.cells #[.string f.has, .int .i64 f.safe] 70) := by
    rw [hW2, Below.heap_setCell _ _ _ _ (by simp; omega)]; exact new_blk HWe.out
  have k0 := (cell_at hx 0)
  have k1 := (cell_at hx 1)
  have c2'' := (cell_at HD2.blk 2)
  simp only [List.getElem?_toArray, List.getElem?_cons_succ, List.getElem?_cons_zero] at k0 k1 c2''
  obtain ⟨w3, hst, hm3, hg3⟩ := HD2.map.store hn hs f
  unfold fileV at hst
  have HE := Lib.hid hW2
  have HD3 := Lib.hid (HD2.turn hg3 hm3)
  have HF3 : Hid (Fr [a, b] w w3) := by
    have h1 : Fr [a, b] w W := ((Fr.refl [a, b] w).alloc _).trans (hF.mono (by simp))
    have h2 := ((h1.setIn (p := ⟨a, 1, none⟩) (by simp) (.int .i64 (d.used + ((f.has.size : Int) - ((getF d.files s.data.toList).has.size : Int)))))).trans (hF2.mono (by simp))
    exact h2.grown hg3 (fun k hk => by cases hk; simp)
  clear hW2 hx HD2 hm3 hg3
  simp only [List.take_succ_cons, List.take_zero, List.drop_succ_cons, List.drop_zero]
  repeat still_step
  refine wpStill_nil ?_
  go_wp2
  go_end0
  exact ⟨rfl, HD3.out, HF3.out⟩

set_option maxRecDepth 100000 in
set_option maxHeartbeats 400000 in
theorem drop_any (w : World) (a b : Nat) (d : DiskM) (h : DiskAt w a b d) (s : ByteArray) (hs : s.size ≤ maxLen)
    (hu : 0 ≤ d.used ∧ d.used ≤ 1000000) (hg : (getF d.files s.data.toList).has.size ≤ 1000000) :
    Calls Tryz.prog 41 #[.pointer (some ⟨a, 0, none⟩), .string s] w fun e w' => e = .returned (.tuple #[]) ∧ DiskAt w' a b (d.drop s.data.toList) ∧ Fr [a, b] w w' := by
  have hne := h.ne
  have H := Lib.hid h
  clear h
  go_enter Tryz.func41, Tryz.ntmps41
  go_wp2
  refine reg_tail 15 (by kernel_rfl) (by kernel_rfl) (fun W hW hF => ?_)
  have HW : DiskAt W a b d := H.out.same hW
  have hlk := HW.map.look hs
  unfold fileV at hlk
  have c1 := (cell_at HW.blk 1)
  have c2 := (cell_at HW.blk 2)
  have f1 := (free_at HW.blk 1)
  simp only [List.getElem?_toArray, List.getElem?_cons_succ, List.getElem?_cons_zero] at c1 c2
  have HWh := Lib.hid HW
  clear HW hW
  simp only [List.take_succ_cons, List.take_zero, List.drop_succ_cons, List.drop_zero]
  repeat still_step
  refine wpStill_nil ?_
  have HP := (HWh.out.put 1 (.int .i64 (d.used - ((getF d.files s.data.toList).has.size : Int))) (d' := { d with used := d.used - ((getF d.files s.data.toList).has.size : Int) }) rfl rfl)
  obtain ⟨w3, hst, hm3, hg3⟩ := HP.map.drop hs 0
  have HD3 := Lib.hid (HP.turn hg3 hm3)
  clear HP
  have HF3 : Hid (Fr [a, b] w w3) := by
    have h1 : Fr [a, b] w W := (hF.mono (by simp))
    exact (h1.setIn (p := ⟨a, 1, none⟩) (by simp) (.int .i64 (d.used - ((getF d.files s.data.toList).has.size : Int)))).grown hg3 (fun k hk => by cases hk; simp)
  clear hm3 hg3
  go_wp2
  go_end0
  exact ⟨rfl, HD3.out, HF3.out⟩
end Go.Proofs.YtljolihlhfabnaaGreatDoor
