/-
  LAYER VALS: Get.
-/
import Derived.Test.YtljolihlhfabnaaGreatDoorValsE
import Derived.Deep.RegionHeld3
namespace Go.Proofs.YtljolihlhfabnaaGreatDoor
open Go Go.RowKit Go.Maps Go.Sort

/-- What Get answers of a file's bytes. -/
def getV (u : UnF) (l : Int) : Bs × Int := if u.at_ = 0 ∧ u.code = 0 ∧ (u.body.length : Int) = l then (u.body, 0) else ([], 110)

set_option maxRecDepth 100000 in
set_option maxHeartbeats 2000000 in
theorem Get_any (w : World) (hE : Env w) (v a b : Nat) (d : DiskM) (most top : Int) (h : ValsAt w v a b d most top) (hG : d.Good) (n i l : Int) (h1 : 1 ≤ n) (h2 : n ≤ 1048576) (hk : d.known (nameB n) = 0) :
    Calls Tryz.prog 13 #[.pointer (some ⟨v, 0, none⟩), .agg #[.int .i64 n, .int .i64 i, .int .i64 l]] w fun e w' =>
      e = .returned (.tuple #[.string ⟨(getV (unframe (getF d.files (nameB n)).has.data.toList i) l).1.toArray⟩, .int .i64 (getV (unframe (getF d.files (nameB n)).has.data.toList i) l).2]) ∧ Fr [] w w' := by
  have hmf : ∀ (fn : Fn) (first cap : Array Value) (w : World), (Instr.makeFunc fn first cap).run Tryz.prog w = .ok (.func fn first cap) w := fun _ _ _ _ => rfl
  have hF0 : Fr [] w ((w.alloc (.cells #[.int .i64 n, .int .i64 i, .int .i64 l] 34)).alloc (.cells #[.int .i64 0] 24)) := ((Fr.refl [] w).alloc _).alloc _
  have hhas : ∀ W, Fr [] w W → Calls Tryz.prog 22 #[.pointer (some ⟨v, 0, none⟩), .int .i64 n] W fun e w' => e = .returned (.string (getF d.files (nameB n)).has) ∧ Fr [] W w' := fun W f =>
    has_ok W (hE.fr f (by simp)) v a b d most top (h.fr f (by simp) (by simp) (by simp)) n h1 h2 hk
  have hun := fun W => unframe_any (getF d.files (nameB n)).has i (by have := hG.has (nameB n); have := hG.used; have := hG.room; omega) W
  clear h hk hE hG h1 h2
  generalize (getF d.files (nameB n)).has = bb at hhas hun ⊢
  generalize unframe bb.data.toList i = u at hun ⊢
  obtain ⟨body, fin, at_, code⟩ := u
  unfold unV at hun
  simp only at hun ⊢
  generalize hgv : getV ⟨body, fin, at_, code⟩ l = gv
  have HGV := Lib.hid hgv
  clear hgv
  go_enter_defers Tryz.func13, Tryz.ntmps13
  go_wp2_with fail
  have b0 := hpOld (hpNew (w := w) rfl (.cells #[.int .i64 n, .int .i64 i, .int .i64 l] 34)) (.cells #[.int .i64 0] 24)
  have b1 := hpNew (w := w.alloc (.cells #[.int .i64 n, .int .i64 i, .int .i64 l] 34)) (n := w.heap.size + 1) (by simp) (.cells #[.int .i64 0] 24)
  generalize hw0 : (w.alloc (.cells #[.int .i64 n, .int .i64 i, .int .i64 l] 34)).alloc (.cells #[.int .i64 0] 24) = w0 at hF0 b0 b1 ⊢
  clear hw0
  have hhas2 : ∀ W, Fr [] w0 W → Calls Tryz.prog 22 #[.pointer (some ⟨v, 0, none⟩), .int .i64 n] W fun e w' => e = .returned (.string bb) ∧ Fr [] W w' := fun W f => hhas W (hF0.trans f)
  have hS : ∀ W, Fr [] w0 W → W.cell? ⟨w.heap.size, 0, none⟩ = some (.int .i64 n) ∧ W.cell? ⟨w.heap.size, 1, none⟩ = some (.int .i64 i) ∧ Fr [] w0 W := fun W f => ⟨(cell_at (f.blk b0 (by simp)) 0).trans rfl, (cell_at (f.blk b0 (by simp)) 1).trans rfl, f⟩
  have hX : ∀ W, (W.cell? ⟨w.heap.size, 0, none⟩ = some (.int .i64 n) ∧ W.cell? ⟨w.heap.size, 1, none⟩ = some (.int .i64 i) ∧ Fr [] w0 W) → Fr [] w0 W := fun W f => f.2.2
  have hset2 : ∀ W q x y, Fr [] w0 W → w0.heap.size ≤ q → Fr [] w0 ((W.setCell ⟨q, 0, none⟩ x).setCell ⟨q, 1, none⟩ y) := fun W q x y f hq => (f.setNew (p := ⟨q, 0, none⟩) hq x).setNew (p := ⟨q, 1, none⟩) hq y
  refine Code.wp_mono (Q := fun e a' W => e = .normal ∧ ∃ q x8 x9 x10 x11 x12 x13 x14 x15 x16 x17 x18, Fr [] w0 W ∧ W.heap[q]? = some (.cells #[.int .i64 at_, .int .i64 code] 65 (0, 0)) ∧
    a' = Act.mk #[.pointer (some ⟨v, 0, none⟩), .agg #[.int .i64 n, .int .i64 i, .int .i64 l], undef, .pointer (some ⟨w.heap.size, 0, none⟩), .string ⟨body.toArray⟩, .pointer (some ⟨w.heap.size + 1, 0, none⟩), .int .i64 fin, .pointer (some ⟨q, 0, none⟩),
        x8, x9, x10, x11, x12, x13, x14, x15, x16, x17, x18, undef, undef, undef, undef, undef, undef, undef, undef, undef, undef, undef] [{ target := .fn (.func 18) #[], args := #[.pointer (some ⟨w.heap.size + 1, 0, none⟩)] }]) ?_ ?_
  · rintro e a' W ⟨rfl, q, x8, x9, x10, x11, x12, x13, x14, x15, x16, x17, x18, hFW, hq, rfl⟩
    obtain ⟨q0, q1, _, _⟩ := two_at hq
    have hbp := hFW.blk b0 (by simp)
    have hbe := hFW.blk b1 (by simp)
    have p2 := (cell_at hbp 2).trans rfl
    have e0 := (cell_at hbe 0).trans rfl
    have z0 := free_at hbe 0
    have hlW := (Array.getElem?_eq_some_iff.1 hbe).1
    have HF := Lib.hid (hF0.trans hFW)
    clear hq hbp hbe hFW hF0 hhas hhas2 hS hX hset2 b0 b1 hun hmf
    by_cases c1 : at_ = 0
    · by_cases c2 : code = 0
      · by_cases c3 : (body.length : Int) = l
        · subst c1 c2 c3
          have hg := HGV.out
          simp [getV] at hg
          subst hg
          clear HGV
          go_wp2
          refine leaves_cons (f := 18) (args := #[.pointer (some ⟨w.heap.size + 1, 0, none⟩)]) (by simp) (by simp [go_sem]) ?_
          refine (caught_idle _ _).mono ?_
          rintro e u' w'' ⟨rfl, rfl, rfl⟩
          simp [Leaves, settle, results, Tryz.results13, go_sem, e0]
          exact HF.out.setNew (p := ⟨w.heap.size + 1, 0, none⟩) (Nat.le_succ _) _
        · subst c1 c2
          have c3' : ((body.length : Int) != l) = true := by simpa using c3
          have hg := HGV.out
          simp [getV, c3] at hg
          subst hg
          clear HGV
          go_wp2
          refine leaves_cons (f := 18) (args := #[.pointer (some ⟨w.heap.size + 1, 0, none⟩)]) (by simp) (by simp [go_sem]) ?_
          refine (caught_idle _ _).mono ?_
          rintro e u' w'' ⟨rfl, rfl, rfl⟩
          simp [Leaves, settle, results, Tryz.results13, go_sem, e0]
          exact HF.out.setNew (p := ⟨w.heap.size + 1, 0, none⟩) (Nat.le_succ _) _
      · have c2' : (code == 0) = false := by simpa using c2
        subst c1
        have hg := HGV.out
        simp [getV, c2] at hg
        subst hg
        clear HGV
        go_wp2
        refine leaves_cons (f := 18) (args := #[.pointer (some ⟨w.heap.size + 1, 0, none⟩)]) (by simp) (by simp [go_sem]) ?_
        refine (caught_idle _ _).mono ?_
        rintro e u' w'' ⟨rfl, rfl, rfl⟩
        simp [Leaves, settle, results, Tryz.results13, go_sem, e0]
        exact HF.out.setNew (p := ⟨w.heap.size + 1, 0, none⟩) (Nat.le_succ _) _
    · have c1' : (at_ == 0) = false := by simpa using c1
      have hg := HGV.out
      simp [getV, c1] at hg
      subst hg
      clear HGV
      go_wp2
      refine leaves_cons (f := 18) (args := #[.pointer (some ⟨w.heap.size + 1, 0, none⟩)]) (by simp) (by simp [go_sem]) ?_
      refine (caught_idle _ _).mono ?_
      rintro e u' w'' ⟨rfl, rfl, rfl⟩
      simp [Leaves, settle, results, Tryz.results13, go_sem, e0]
      exact HF.out.setNew (p := ⟨w.heap.size + 1, 0, none⟩) (Nat.le_succ _) _
  · go_region_held3 (fun W => W.cell? ⟨w.heap.size, 0, none⟩ = some (.int .i64 n) ∧ W.cell? ⟨w.heap.size, 1, none⟩ = some (.int .i64 i) ∧ Fr [] w0 W)
      (first | assumption | exact hS _ (Fr.refl [] w0).drew | exact hS _ (((Fr.refl [] w0).alloc _).drew) | exact hS _ (Fr.trans (hX _ (by assumption)) (by assumption)) | exact hS _ (Fr.alloc (hX _ (by assumption)) _) | exact hS _ (Fr.alloc ((Fr.refl [] w0).drew.trans (hF.trans hF2)) _) | exact hS _ (hset2 _ _ _ _ (hX _ (by assumption)) (Nat.le_refl _)) | exact hS _ (hset2 _ _ _ _ (hX _ (by assumption)) hF.size) | exact hS _ (hset2 _ _ _ _ (hX _ (by assumption)) (Nat.le_trans hF.size hF2.size)) | fail)
      (first | (go_at_call 22; refine (hhas2 _ (hX _ (by assumption))).mono ?_; rintro e w' ⟨rfl, hF⟩; (first | (have hqb := hF.blk (heap_alloc_new _ _) (by simp); have hq := two_at hqb) | skip)) | (go_at_call 23; refine (hun _).mono ?_; rintro e w2 ⟨rfl, hF2⟩; (first | (have hqb2 := hF2.blk (heap_alloc_new _ _) (by simp); have hq2 := two_at hqb2) | (have hqb2 := hF2.blk hqb (by simp); have hq2 := two_at hqb2) | skip)))
    · exact ⟨rfl, _, _, _, _, _, _, _, _, _, _, _, _, hX _ (by assumption), heap_alloc_new _ _, rfl⟩
    · exact ⟨rfl, _, _, _, _, _, _, _, _, _, _, _, _, hX _ (by assumption), set_at (set_at hqb2 0 _) 1 _, rfl⟩
    · exact ⟨rfl, _, _, _, _, _, _, _, _, _, _, _, _, hX _ (by assumption), set_at (set_at hqb2 0 _) 1 _, rfl⟩

set_option maxRecDepth 100000 in
set_option maxHeartbeats 2000000 in
theorem Get_bad (w : World) (hE : Env w) (v a b : Nat) (d : DiskM) (most top : Int) (h : ValsAt w v a b d most top) (n i l : Int) (h1 : -9223372036854775808 ≤ n) (h2 : n ≤ 9223372036854775807) (hk : d.known (nameB n) ≠ 0 ∨ n < 1 ∨ 1048576 < n) :
    Calls Tryz.prog 13 #[.pointer (some ⟨v, 0, none⟩), .agg #[.int .i64 n, .int .i64 i, .int .i64 l]] w fun e w' => e = .returned (.tuple #[.string ⟨#[]⟩, .int .i64 110]) ∧ Fr [] w w' := by
  have hmf : ∀ (fn : Fn) (first cap : Array Value) (w : World), (Instr.makeFunc fn first cap).run Tryz.prog w = .ok (.func fn first cap) w := fun _ _ _ _ => rfl
  have hF0 : Fr [] w ((w.alloc (.cells #[.int .i64 n, .int .i64 i, .int .i64 l] 34)).alloc (.cells #[.int .i64 0] 24)) := ((Fr.refl [] w).alloc _).alloc _
  have hhas : ∀ W, Fr [] w W → Calls Tryz.prog 22 #[.pointer (some ⟨v, 0, none⟩), .int .i64 n] W fun e w' => e = .panicked [{ v := .iface 76 (.int .i64 110), recovered := false }] ∧ Fr [] W w' := fun W f =>
    has_bad W (hE.fr f (by simp)) v a b d most top (h.fr f (by simp) (by simp) (by simp)) n h1 h2 hk
  clear h hk hE h1 h2
  go_enter_defers Tryz.func13, Tryz.ntmps13
  go_wp2_with fail
  have b0 := hpOld (hpNew (w := w) rfl (.cells #[.int .i64 n, .int .i64 i, .int .i64 l] 34)) (.cells #[.int .i64 0] 24)
  have b1 := hpNew (w := w.alloc (.cells #[.int .i64 n, .int .i64 i, .int .i64 l] 34)) (n := w.heap.size + 1) (by simp) (.cells #[.int .i64 0] 24)
  generalize hw0 : (w.alloc (.cells #[.int .i64 n, .int .i64 i, .int .i64 l] 34)).alloc (.cells #[.int .i64 0] 24) = w0 at hF0 b0 b1 ⊢
  clear hw0
  have hhas2 : ∀ W, Fr [] w0 W → Calls Tryz.prog 22 #[.pointer (some ⟨v, 0, none⟩), .int .i64 n] W fun e w' => e = .panicked [{ v := .iface 76 (.int .i64 110), recovered := false }] ∧ Fr [] w0 w' := fun W f => (hhas W (hF0.trans f)).mono fun _ _ hh => ⟨hh.1, f.trans hh.2⟩
  clear hhas
  have hS : ∀ W, Fr [] w0 W → W.cell? ⟨w.heap.size, 0, none⟩ = some (.int .i64 n) ∧ W.cell? ⟨w.heap.size, 1, none⟩ = some (.int .i64 i) ∧ Fr [] w0 W := fun W f => ⟨(cell_at (f.blk b0 (by simp)) 0).trans rfl, (cell_at (f.blk b0 (by simp)) 1).trans rfl, f⟩
  refine Code.wp_mono (Q := fun e a' W => e = .panic [{ v := .iface 76 (.int .i64 110), recovered := false }] ∧ Fr [] w0 W ∧ a'.tmps[4]? = some (.string ⟨#[]⟩) ∧ a'.tmps[5]? = some (.pointer (some ⟨w.heap.size + 1, 0, none⟩)) ∧
    a'.defers = [{ target := .fn (.func 18) #[], args := #[.pointer (some ⟨w.heap.size + 1, 0, none⟩)] }]) ?_ ?_
  · rintro e ⟨tmps, defers⟩ W ⟨rfl, hFW, h4, h5, hd⟩
    simp only at hd h4 h5
    subst hd
    have hbe := hFW.blk b1 (by simp)
    have e0 := (cell_at hbe 0).trans rfl
    have z0 := free_at hbe 0
    have hlW := (Array.getElem?_eq_some_iff.1 hbe).1
    have HF := Lib.hid (hF0.trans hFW)
    clear hbe hFW hF0 hhas2 hS b0 b1 hmf
    simp only [Exit.then]
    refine leaves_cons (f := 18) (args := #[.pointer (some ⟨w.heap.size + 1, 0, none⟩)]) (by simp) (by simp [go_sem]) ?_
    refine (caught_panicking _ 0 110 [] _ (by simpa using e0) z0).mono ?_
    rintro e u' w'' ⟨rfl, rfl, rfl⟩
    simp [Leaves, settle, results, Tryz.results13, go_sem, e0, h4, h5]
    exact HF.out.setNew (p := ⟨w.heap.size + 1, 0, none⟩) (Nat.le_succ _) _
  · refine wp_region_held (S := fun W => W.cell? ⟨w.heap.size, 0, none⟩ = some (.int .i64 n) ∧ W.cell? ⟨w.heap.size, 1, none⟩ = some (.int .i64 i) ∧ Fr [] w0 W) (by kernel_rfl) ?_
    have hp : ∀ (k : Nat) (v : Value), k ≠ 4 → k ≠ 5 → ∀ (c : List PanicEntry) (a : Act) (W : World),
      (Exit.panic c = .panic [{ v := .iface 76 (.int .i64 110), recovered := false }] ∧ Fr [] w0 W ∧ (a.put (some k) v).tmps[4]? = some (.string ⟨#[]⟩) ∧ (a.put (some k) v).tmps[5]? = some (.pointer (some ⟨w.heap.size + 1, 0, none⟩)) ∧
        (a.put (some k) v).defers = [{ target := .fn (.func 18) #[], args := #[.pointer (some ⟨w.heap.size + 1, 0, none⟩)] }]) →
      (Exit.panic c = .panic [{ v := .iface 76 (.int .i64 110), recovered := false }] ∧ Fr [] w0 W ∧ a.tmps[4]? = some (.string ⟨#[]⟩) ∧ a.tmps[5]? = some (.pointer (some ⟨w.heap.size + 1, 0, none⟩)) ∧
        a.defers = [{ target := .fn (.func 18) #[], args := #[.pointer (some ⟨w.heap.size + 1, 0, none⟩)] }]) := by
      intro k v h4 h5 c a W hh
      refine ⟨hh.1, hh.2.1, ?_, ?_, hh.2.2.2.2⟩
      · have := hh.2.2.1
        simpa [Act.put, h4] using this
      · have := hh.2.2.2.1
        simpa [Act.put, h5] using this
    refine wpAnyH_take (fuel := 14) (i := 0) (v := .pointer (some ⟨v, 0, none⟩)) rfl (by kernel_rfl) (by kernel_rfl) (by kernel_rfl) (hp 9 _ (by decide) (by decide)) (.inl ⟨rfl, fun _ _ => rfl⟩) (hS _ (Fr.refl [] w0).drew) ?_
    refine wpAnyH_take (fuel := 13) (i := 1) (v := .pointer (some ⟨w.heap.size, 0, none⟩)) rfl (by kernel_rfl) (by kernel_rfl) (by kernel_rfl) (hp 10 _ (by decide) (by decide)) (.inl ⟨rfl, fun _ _ => rfl⟩) (hS _ (Fr.refl [] w0).drew) ?_
    refine wpAnyH_take (fuel := 12) (i := 4) (v := .pointer (some ⟨w.heap.size, 1, none⟩)) rfl (by kernel_rfl) (by kernel_rfl) (by kernel_rfl) (hp 13 _ (by decide) (by decide)) (.inl ⟨rfl, fun _ _ => rfl⟩) (hS _ (Fr.refl [] w0).drew) ?_
    simp only [Act.put, List.setIfInBounds_toArray, List.set_cons_zero, List.set_cons_succ]
    refine wpAnyH_take (fuel := 11) (i := 2) (v := .int .i64 n) rfl (by kernel_rfl) (by kernel_rfl) (by kernel_rfl) (hp 11 _ (by decide) (by decide)) (.inl ⟨rfl, fun W hW => by simp [go_sem, hW.1]⟩) (hS _ (Fr.refl [] w0).drew) ?_
    refine wpAnyH_take (fuel := 10) (i := 5) (v := .int .i64 i) rfl (by kernel_rfl) (by kernel_rfl) (by kernel_rfl) (hp 14 _ (by decide) (by decide)) (.inl ⟨rfl, fun W hW => by simp [go_sem, hW.2.1]⟩) (hS _ (Fr.refl [] w0).drew) ?_
    simp only [Act.put, List.setIfInBounds_toArray, List.set_cons_zero, List.set_cons_succ]
    change wpAnyH _ _ _ _ _ _ _ (Act.mk #[.pointer (some ⟨v, 0, none⟩), .agg #[.int .i64 n, .int .i64 i, .int .i64 l], undef, .pointer (some ⟨w.heap.size, 0, none⟩), .string ⟨#[]⟩, .pointer (some ⟨w.heap.size + 1, 0, none⟩), undef, undef, undef,
      .pointer (some ⟨v, 0, none⟩), .pointer (some ⟨w.heap.size, 0, none⟩), .int .i64 n, undef, .pointer (some ⟨w.heap.size, 1, none⟩), .int .i64 i, undef, undef, undef, undef, undef, undef, undef, undef, undef, undef, undef, undef, undef, undef, undef]
      [{ target := .fn (.func 18) #[], args := #[.pointer (some ⟨w.heap.size + 1, 0, none⟩)] }]) _
    refine wpAnyH_all (fuel := 9) (rs := [3, 11]) (by kernel_rfl) (by decide) ?_
    intro j hj
    simp only [List.mem_cons, List.not_mem_nil, or_false] at hj
    rcases hj with rfl | rfl
    · unfold wpOp
      simp only [List.getElem?_toArray, List.getElem?_cons_succ, List.getElem?_cons_zero]
      rw [if_pos (by rfl : Region.wanted _ _ = true)]
      refine .inl ?_
      simp only [Oper.wp]
      go_simp
      refine (hhas2 _ (Fr.refl [] w0).drew).mono ?_
      rintro e w' ⟨rfl, hF⟩
      simpa using hF
    · unfold wpOp
      simp only [List.getElem?_toArray, List.getElem?_cons_succ, List.getElem?_cons_zero]
      rw [if_pos (by rfl : Region.wanted _ _ = true)]
      refine .inl ?_
      simp only [Oper.wp]
      go_simp
      refine ⟨hS _ (((Fr.refl [] w0).alloc _).drew), ?_⟩
      refine wpAnyH_all (fuel := 8) (rs := [3]) (by kernel_rfl) (by decide) ?_
      intro j hj
      simp only [List.mem_cons, List.not_mem_nil, or_false] at hj
      subst hj
      unfold wpOp
      simp only [List.getElem?_toArray, List.getElem?_cons_succ, List.getElem?_cons_zero]
      rw [if_pos (by rfl : Region.wanted _ _ = true)]
      refine .inl ?_
      simp only [Oper.wp]
      go_simp
      refine (hhas2 _ (((Fr.refl [] w0).alloc _).drew)).mono ?_
      rintro e w' ⟨rfl, hF⟩
      simpa using hF
end Go.Proofs.YtljolihlhfabnaaGreatDoor
