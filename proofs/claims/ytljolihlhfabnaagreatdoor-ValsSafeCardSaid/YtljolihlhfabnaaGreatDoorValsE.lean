/-
  LAYER VALS: Put, Remove.
-/
import Derived.Test.YtljolihlhfabnaaGreatDoorValsD
namespace Go.Proofs.YtljolihlhfabnaaGreatDoor
open Go Go.RowKit Go.Maps Go.Sort

set_option maxRecDepth 100000 in
set_option maxHeartbeats 1000000 in
theorem Put_ok (w : World) (hE : Env w) (v a b : Nat) (d : DiskM) (most top : Int) (h : ValsAt w v a b d most top) (hG : d.Good) (s : ByteArray) (hs : s.size ≤ 65536) (ht : 0 ≤ top ∧ top ≤ 1048576) (hm : 0 ≤ most ∧ most ≤ 1000000)
    (hp : (placeOf d most top).1 ≤ 1048576) (ha : (d.append (nameB (placeOf d most top).1) ⟨(frameB s.data.toList).toArray⟩).1 = 0) :
    Calls Tryz.prog 10 #[.pointer (some ⟨v, 0, none⟩), .string s] w fun e w' => e = .returned (.tuple #[.agg #[.int .i64 (placeOf d most top).1, .int .i64 (placeOf d most top).2, .int .i64 s.size], .int .i64 0]) ∧
      ValsAt w' v a b (d.append (nameB (placeOf d most top).1) ⟨(frameB s.data.toList).toArray⟩).2 most (max top (placeOf d most top).1) ∧ Fr [v, a, b] w w' := by
  have hmf : ∀ (fn : Fn) (first cap : Array Value) (w : World), (Instr.makeFunc fn first cap).run Tryz.prog w = .ok (.func fn first cap) w := fun _ _ _ _ => rfl
  have hF0 : Fr [] w ((w.alloc (.cells #[.int .i64 0, .int .i64 0, .int .i64 0] 34)).alloc (.cells #[.int .i64 0] 24)) := ((Fr.refl [] w).alloc _).alloc _
  have hput := put_ok _ (hE.fr hF0 (by simp)) v a b d most top (h.fr hF0 (by simp) (by simp) (by simp)) hG s hs ht hm hp ha
  have hlt := h.lt
  clear h ha hp
  generalize placeOf d most top = pl at hput ⊢
  obtain ⟨fl, at_⟩ := pl
  simp only at hput ⊢
  generalize (d.append (nameB fl) ⟨(frameB s.data.toList).toArray⟩).2 = d2 at hput ⊢
  go_enter_defers Tryz.func10, Tryz.ntmps10
  go_wp2_with fail
  refine hput.mono ?_
  rintro e w1 ⟨rfl, hV, hF⟩
  have hbp := hF.blk (hpOld (hpNew (w := w) rfl (.cells #[.int .i64 0, .int .i64 0, .int .i64 0] 34)) (.cells #[.int .i64 0] 24)) (by simp; omega)
  have hbe := hF.blk (hpNew (w := w.alloc (.cells #[.int .i64 0, .int .i64 0, .int .i64 0] 34)) (n := w.heap.size + 1) (by simp) (.cells #[.int .i64 0] 24)) (by simp; omega)
  obtain ⟨p0, p1, p2, q0, q1, q2⟩ := three_at hbp
  have e0 := (cell_at hbe 0).trans rfl
  have z0 := free_at hbe 0
  have hl1 := (Array.getElem?_eq_some_iff.1 hbp).1
  have hl2 := (Array.getElem?_eq_some_iff.1 hbe).1
  have HV := Lib.hid hV
  have HF := Lib.hid (hF0.mono (T := [v, a, b]) (by simp) |>.trans hF)
  clear hF hV hF0 hput hbp hbe
  go_wp2
  refine leaves_cons (f := 18) (args := #[.pointer (some ⟨w.heap.size + 1, 0, none⟩)]) (by simp) (by simp [go_sem]) ?_
  refine (caught_idle _ _).mono ?_
  rintro e u' w'' ⟨rfl, rfl, rfl⟩
  simp [Leaves, settle, results, Tryz.results10, go_sem, p0, p1, p2, e0]
  constructor
  · exact HV.out.fr (((((Fr.refl [w.heap.size, w.heap.size + 1] w1).setIn (p := ⟨w.heap.size, 0, none⟩) (by simp) _).setIn (p := ⟨w.heap.size, 1, none⟩) (by simp) _).setIn (p := ⟨w.heap.size, 2, none⟩) (by simp) _).setIn (p := ⟨w.heap.size + 1, 0, none⟩) (by simp) _) (by simp; omega) (by simp; omega) (by simp; omega)
  · exact (((HF.out.setNew (p := ⟨w.heap.size, 0, none⟩) (Nat.le_refl _) _).setNew (p := ⟨w.heap.size, 1, none⟩) (Nat.le_refl _) _).setNew (p := ⟨w.heap.size, 2, none⟩) (Nat.le_refl _) _).setNew (p := ⟨w.heap.size + 1, 0, none⟩) (Nat.le_succ _) _

set_option maxRecDepth 100000 in
set_option maxHeartbeats 1000000 in
theorem Remove_ok (w : World) (hE : Env w) (v a b : Nat) (d : DiskM) (most top : Int) (h : ValsAt w v a b d most top) (hG : d.Good) (n : Int) (h1 : 1 ≤ n) (h2 : n ≤ 1048576) (hk : d.known (nameB n) = 0) :
    Calls Tryz.prog 14 #[.pointer (some ⟨v, 0, none⟩), .int .i64 n] w fun e w' => e = .returned (.int .i64 (d.remove (nameB n)).1) ∧ ValsAt w' v a b (d.remove (nameB n)).2 most top ∧ Fr [a, b] w w' := by
  have hmf : ∀ (fn : Fn) (first cap : Array Value) (w : World), (Instr.makeFunc fn first cap).run Tryz.prog w = .ok (.func fn first cap) w := fun _ _ _ _ => rfl
  have hF0 : Fr [] w (w.alloc (.cells #[.int .i64 0] 24)) := (Fr.refl [] w).alloc _
  have hhas := has_ok _ (hE.fr hF0 (by simp)) v a b d most top (h.fr hF0 (by simp) (by simp) (by simp)) n h1 h2 hk
  have hlt := h.lt
  have hne := h.ne
  have hl2 := nameB_length n (by omega) (by omega)
  have hrm := fun W hD => remove_any W a b d hD ⟨(nameB n).toArray⟩ (by rw [size_mk]; unfold maxLen; omega) hG.left (by have := hG.used; have := hG.room; omega) (by have := hG.has (nameB n); have := hG.used; have := hG.room; show (getF d.files (nameB n)).has.size ≤ 1000000; omega)
  have hname : ∀ W, Fr [] w W → Calls Tryz.prog 25 #[.int .i64 n] W fun e W' => e = .returned (.string ⟨(nameB n).toArray⟩) ∧ Fr [] W W' := fun W f =>
    name_any n (by omega) (by omega) W (hE.fr f (by simp))
  have H := Lib.hid h
  simp only at hrm
  clear h hk hl2
  generalize nameB n = nm at hhas hrm hname ⊢
  generalize d.remove nm = r at hrm ⊢
  obtain ⟨er, d2⟩ := r
  simp only at hrm ⊢
  have hlt := Lib.hid hlt
  have hne := Lib.hid hne
  have hlt' := hlt.out
  go_enter_defers Tryz.func14, Tryz.ntmps14
  go_wp2_with fail
  refine hhas.mono ?_
  rintro e w1 ⟨rfl, hF1⟩
  have hbe := hF1.blk (hpNew (w := w) rfl (.cells #[.int .i64 0] 24)) (by simp)
  have HBE := Lib.hid hbe
  have HF1 := Lib.hid (hF0.trans hF1)
  have hl1 := (Array.getElem?_eq_some_iff.1 hbe).1
  clear hF0 hF1 hbe hhas
  go_wp2_with fail
  refine region_quiet_tail (Fr [] w1) 6 (by kernel_rfl) (by kernel_rfl) (Fr.refl [] w1).drew ?_
  have d0 : ∀ W, Fr [] w1 W → W.cell? ⟨v, 0, none⟩ = some (.pointer (some ⟨a, 0, none⟩)) := fun W f => (cell_at ((HF1.out.trans f).blk H.out.blk (by simp)) 0).trans rfl
  have hname2 : ∀ W, Fr [] w1 W → Calls Tryz.prog 25 #[.int .i64 n] W fun e W' => e = .returned (.string ⟨nm.toArray⟩) ∧ Fr [] w1 W' := fun W f => (hname W (HF1.out.trans f)).mono fun _ _ hh => ⟨hh.1, f.trans hh.2⟩
  simp only [List.take_succ_cons, List.take_zero, List.drop_succ_cons, List.drop_zero]
  iterate 6
    refine wpQuiet_step (fun K hK => ?_)
    go_simp
    apply Exists.intro
    refine ⟨fun W hW => ?_, hK _ ?_⟩
    first | rfl | exact ⟨rfl, rfl⟩ | exact hname2 W hW | (simp only [d0 W hW]; first | rfl | exact ⟨rfl, rfl⟩)
    clear hK K
  refine wpQuiet_nil ?_
  intro W3 hW3
  clear d0 hname2
  go_wp2_with fail
  refine (hrm _ (H.out.disk.fr (HF1.out.trans hW3) (by simp) (by simp))).mono ?_
  rintro e w4 ⟨rfl, hD4, hF4⟩
  have hbv : w4.heap[v]? = some (.cells #[.pointer (some ⟨a, 0, none⟩), .int .i64 most, .int .i64 top] 56 (0, 0)) := hF4.blk ((HF1.out.trans hW3).blk H.out.blk (by simp)) (by have := hne.out; simp; omega)
  have hbe := hF4.blk (hW3.blk HBE.out (by simp)) (by have := hlt.out; simp; omega)
  have e0 := (cell_at hbe 0).trans rfl
  have z0 := free_at hbe 0
  have hl4 := (Array.getElem?_eq_some_iff.1 hbe).1
  have HV : Hid (ValsAt w4 v a b d2 most top) := ⟨hbv, hD4⟩
  have HF := Lib.hid ((HF1.out.trans hW3).mono (T := [a, b]) (by simp) |>.trans hF4)
  clear hW3 hF4 hD4 hbv hbe
  go_wp2
  refine leaves_cons (f := 18) (args := #[.pointer (some ⟨w.heap.size, 0, none⟩)]) (by simp) (by simp [go_sem]) ?_
  refine (caught_idle _ _).mono ?_
  rintro e u' w'' ⟨rfl, rfl, rfl⟩
  simp [Leaves, settle, results, Tryz.results14, go_sem, e0]
  constructor
  · exact HV.out.fr ((Fr.refl [w.heap.size] w4).setIn (p := ⟨w.heap.size, 0, none⟩) (by simp) _) (by simp; omega) (by simp; omega) (by simp; omega)
  · exact HF.out.setNew (p := ⟨w.heap.size, 0, none⟩) (Nat.le_refl _) _

set_option maxRecDepth 100000 in
set_option maxHeartbeats 1000000 in
theorem Remove_bad (w : World) (hE : Env w) (v a b : Nat) (d : DiskM) (most top : Int) (h : ValsAt w v a b d most top) (n : Int) (h1 : -9223372036854775808 ≤ n) (h2 : n ≤ 9223372036854775807) (hk : d.known (nameB n) ≠ 0 ∨ n < 1 ∨ 1048576 < n) :
    Calls Tryz.prog 14 #[.pointer (some ⟨v, 0, none⟩), .int .i64 n] w fun e w' => e = .returned (.int .i64 110) ∧ Fr [] w w' := by
  have hmf : ∀ (fn : Fn) (first cap : Array Value) (w : World), (Instr.makeFunc fn first cap).run Tryz.prog w = .ok (.func fn first cap) w := fun _ _ _ _ => rfl
  have hF0 : Fr [] w (w.alloc (.cells #[.int .i64 0] 24)) := (Fr.refl [] w).alloc _
  have hhas := has_bad _ (hE.fr hF0 (by simp)) v a b d most top (h.fr hF0 (by simp) (by simp) (by simp)) n h1 h2 hk
  clear h hk
  go_enter_defers Tryz.func14, Tryz.ntmps14
  go_wp2_with fail
  refine hhas.mono ?_
  rintro e w1 ⟨rfl, hF1⟩
  have hbe := hF1.blk (hpNew (w := w) rfl (.cells #[.int .i64 0] 24)) (by simp)
  have HF1 := Lib.hid (hF0.trans hF1)
  have e0 := (cell_at hbe 0).trans rfl
  have z0 := free_at hbe 0
  have hl1 := (Array.getElem?_eq_some_iff.1 hbe).1
  clear hF0 hF1 hbe hhas
  refine leaves_cons (f := 18) (args := #[.pointer (some ⟨w.heap.size, 0, none⟩)]) (by simp) (by simp [go_sem]) ?_
  refine (caught_panicking _ 0 110 [] _ (by simpa using e0) z0).mono ?_
  rintro e u' w'' ⟨rfl, rfl, rfl⟩
  simp [Leaves, settle, results, Tryz.results14, go_sem, e0]
  exact HF1.out.setNew (p := ⟨w.heap.size, 0, none⟩) (Nat.le_refl _) _
end Go.Proofs.YtljolihlhfabnaaGreatDoor
