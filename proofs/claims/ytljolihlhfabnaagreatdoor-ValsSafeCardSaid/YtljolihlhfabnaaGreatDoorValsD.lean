/-
  LAYER VALS: put.
-/
import Derived.Test.YtljolihlhfabnaaGreatDoorValsC
namespace Go.Proofs.YtljolihlhfabnaaGreatDoor
open Go Go.RowKit Go.Maps Go.Sort

theorem dec_ok (n : Nat) : ∀ c ∈ Lib.decDigits n, okByte c = true := by
  induction n using Nat.strongRecOn with
  | _ n ih =>
    rw [Lib.decDigits]
    have hd : ∀ k : Fin 10, okByte (UInt8.ofNat (48 + k.val)) = true := by decide
    split
    · rename_i h
      intro c hc
      obtain rfl : c = UInt8.ofNat (48 + n) := by simpa using hc
      exact hd ⟨n, h⟩
    · rename_i h
      intro c hc
      rcases List.mem_append.1 hc with hc | hc
      · exact ih (n / 10) (by omega) c hc
      · obtain rfl : c = UInt8.ofNat (48 + n % 10) := by simpa using hc
        exact hd ⟨n % 10, Nat.mod_lt _ (by decide)⟩
theorem nameB_may (n : Int) (h0 : 0 ≤ n) (h1 : n ≤ 9223372036854775807) : mayN (nameB n) = true := by
  have hl := nameB_length n (by omega) h1
  have ha : (nameB n).all okByte = true := by
    rw [List.all_eq_true]
    intro c hc
    have hi : Lib.itoa n = Lib.decDigits n.toNat := by unfold Lib.itoa; rw [if_neg (by omega)]
    rw [nameB, hi] at hc
    rcases List.mem_append.1 hc with hc | hc
    · simp only [List.mem_cons, List.not_mem_nil, or_false] at hc
      rcases hc with rfl | rfl | rfl | rfl <;> rfl
    · exact dec_ok _ c hc
  unfold mayN
  rw [ha]
  simp [nameB] at hl ⊢
  omega
theorem numOf_some {s : Bs} {n : Int} (h : numOf s = some n) : nameB n = s ∧ 1 ≤ n ∧ n ≤ 1048576 := by
  unfold numOf at h
  split at h
  · rename_i hp
    split at h
    · split at h
      · split at h
        · split at h
          · rename_i h3 h4 h5
            cases h
            refine ⟨?_, h3, h4⟩
            rw [nameB, h5, Lib.trimPrefix, if_pos hp]
            obtain ⟨r, hr⟩ := List.isPrefixOf_iff_prefix.1 hp
            rw [← hr]
            simp
          · cases h
        · cases h
      · cases h
    · cases h
  · cases h
theorem hasF_of_mem {fs : Files} {k : Bs} (h : k ∈ namesF fs) : hasF fs k = true := by
  simp only [hasF, List.any_eq_true, beq_iff_eq]
  obtain ⟨p, hp, rfl⟩ := List.mem_map.1 h
  exact ⟨p, hp, rfl⟩
theorem mem_numbers {d : DiskM} {n : Int} (h : n ∈ numbersF d.files) : 1 ≤ n ∧ n ≤ 1048576 ∧ d.known (nameB n) = 0 := by
  have h := (List.mergeSort_perm _ _).mem_iff.1 h
  obtain ⟨s, hs, hn⟩ := List.mem_filterMap.1 h
  obtain ⟨h1, h2, h3⟩ := numOf_some hn
  refine ⟨h2, h3, ?_⟩
  unfold DiskM.known
  rw [nameB_may n (by omega) (by omega), h1, hasF_of_mem hs]
  rfl
/-- Where a value comes to lie: its file, its place. -/
def placeOf (d : DiskM) (most top : Int) : Int × Int :=
  match (numbersF d.files).getLast? with
  | none => (top + 1, 0)
  | some n => if ((getF d.files (nameB n)).has.size : Int) < most then (n, ((getF d.files (nameB n)).has.size : Int)) else (top + 1, 0)

set_option maxRecDepth 100000 in
set_option maxHeartbeats 1000000 in
theorem put_ok (w : World) (hE : Env w) (v a b : Nat) (d : DiskM) (most top : Int) (h : ValsAt w v a b d most top) (hG : d.Good) (s : ByteArray) (hs : s.size ≤ 65536) (ht : 0 ≤ top ∧ top ≤ 1048576) (hm : 0 ≤ most ∧ most ≤ 1000000)
    (hp : (placeOf d most top).1 ≤ 1048576) (ha : (d.append (nameB (placeOf d most top).1) ⟨(frameB s.data.toList).toArray⟩).1 = 0) :
    Calls Tryz.prog 19 #[.pointer (some ⟨v, 0, none⟩), .string s] w fun e w' => e = .returned (.agg #[.int .i64 (placeOf d most top).1, .int .i64 (placeOf d most top).2, .int .i64 s.size]) ∧
      ValsAt w' v a b (d.append (nameB (placeOf d most top).1) ⟨(frameB s.data.toList).toArray⟩).2 most (max top (placeOf d most top).1) ∧ Fr [v, a, b] w w' := by
  have hlt := (Array.getElem?_eq_some_iff.1 h.blk).1
  have c1 := cell_at h.blk 1
  have c2 := cell_at h.blk 2
  simp only [List.getElem?_toArray, List.getElem?_cons_succ, List.getElem?_cons_zero] at c1 c2
  have H := Lib.hid h
  clear h
  have hlen : (numbersF d.files).length ≤ 64 := by
    unfold numbersF
    rw [upI_length]
    have := List.length_filterMap_le numOf (namesF d.files)
    have h2 := hG.many
    simp only [namesF, List.length_map] at this ⊢
    omega
  have hF0 : Fr [] w (w.alloc (.cells #[.int .i64 (top + 1), .int .i64 0, .int .i64 s.size] 34)) := (Fr.refl [] w).alloc _
  have hfil := files_any _ (hE.fr hF0 (by simp)) v a b d most top (H.out.fr hF0 (by simp) (by simp) (by simp)) hG
  have hmem := fun n hn => @mem_numbers d n hn
  have hfl0 : 1 ≤ (placeOf d most top).1 := by
    unfold placeOf
    split
    · show 1 ≤ top + 1
      omega
    · rename_i n hn
      have h1 := (hmem n (List.mem_of_getLast? hn)).1
      split
      · exact h1
      · show 1 ≤ top + 1
        omega
  generalize hpl : placeOf d most top = pl at hp ha hfl0 ⊢
  unfold placeOf at hpl
  generalize numbersF d.files = l at hlen hfil hmem hpl
  obtain ⟨fl, at_⟩ := pl
  simp only at hp ha hfl0 ⊢
  have hl2 := nameB_length fl (by omega) (by omega)
  have hfs : (⟨(frameB s.data.toList).toArray⟩ : ByteArray).size = s.size + 8 := by rw [size_mk, frameB_length]; simp
  have hgs : (getF d.files (nameB fl)).has.size ≤ 262144 := by have := hG.has (nameB fl); have := hG.used; have := hG.room; omega
  have hap := fun W hD => append_any W a b d hD ⟨(nameB fl).toArray⟩ ⟨(frameB s.data.toList).toArray⟩ (by rw [size_mk]; unfold maxLen; omega) (by rw [hfs]; omega) hG.left (by have := hG.used; have := hG.room; omega) (by have := hG.room; omega) (by have := hG.many; omega)
    (by rw [hfs]; show (getF d.files (nameB fl)).has.size + (s.size + 8) ≤ 1000000; omega)
  simp only at hap
  have hname : ∀ W, Fr [] w W → Calls Tryz.prog 25 #[.int .i64 fl] W fun e W' => e = .returned (.string ⟨(nameB fl).toArray⟩) ∧ Fr [] W W' := fun W f =>
    name_any fl (by omega) (by omega) W (hE.fr f (by simp))
  generalize nameB fl = nm at hap hname hl2 ha ⊢
  generalize hfb : frameB s.data.toList = fb at hap ha ⊢
  generalize d.append nm ⟨fb.toArray⟩ = r at hap ha ⊢
  have HFB := Lib.hid hfb
  clear hfb hfs hgs hl2
  obtain ⟨er, d2⟩ := r
  simp only at ha hap ⊢
  subst ha
  rcases hgl : l.getLast? with _ | n
  · obtain rfl : l = [] := List.getLast?_eq_none_iff.1 hgl
    have hfl : fl = top + 1 ∧ at_ = 0 := by
      simp only [List.getLast?_nil, Prod.mk.injEq] at hpl
      exact ⟨hpl.1.symm, hpl.2.symm⟩
    clear hpl
    have hap := Lib.hid hap
    have hap := hap.out
    go_enter Tryz.func19, Tryz.ntmps19
    go_wp2_with (go_at_call 11; refine hfil.mono ?_; rintro e w1 ⟨u, rfl, hrow, hF1⟩; obtain ⟨p, cap, rfl, hp0⟩ := row_form hrow)
    have hb1 := hF1.blk (hpNew (w := w) rfl (.cells #[.int .i64 (top + 1), .int .i64 0, .int .i64 s.size] 34)) (by simp)
    rw [← hfl.1, ← hfl.2] at hb1
    have hF := hF0.trans hF1
    have hne := Lib.hid H.out.ne
    have hlw := Lib.hid H.out.lt
    clear hF0 hF1 hrow hfil hfl
    have hV1 : ValsAt w1 v a b d most top := H.out.fr hF (by simp) (by simp) (by simp)
    have hb0 := hV1.blk
    have hdl := hV1.disk.lt
    have hvl := (Array.getElem?_eq_some_iff.1 hV1.blk).1
    have hwl := hF.size
    have HV := Lib.hid hV1
    have HF := Lib.hid hF
    have HB := Lib.hid hb1
    have hpl1 := (Array.getElem?_eq_some_iff.1 hb1).1
    clear hV1 hF hb1 hb0
    refine (frame_ok s hs _).mono ?_
    rintro e w2 ⟨rfl, hF2⟩
    rw [HFB.out]
    obtain ⟨p0, p1, p2, q0, q1, q2⟩ := three_at (hF2.blk HB.out (by simp))
    have HF2 := Lib.hid hF2
    clear hF2
    go_wp2_with (go_at_call 30; refine (must_ok _).mono ?_; rintro e w3 ⟨rfl, rfl⟩)
    refine region_quiet_tail (Fr [] w2) 8 (by kernel_rfl) (by kernel_rfl) (Fr.refl [] w2).drew ?_
    have d0 : ∀ W, Fr [] w2 W → W.cell? ⟨v, 0, none⟩ = some (.pointer (some ⟨a, 0, none⟩)) := fun W f => (cell_at ((HF2.out.trans f).blk HV.out.blk (by simp)) 0).trans rfl
    have d1 : ∀ W, Fr [] w2 W → W.cell? ⟨w.heap.size, 0, none⟩ = some (.int .i64 fl) := fun W f => (cell_at ((HF2.out.trans f).blk HB.out (by simp)) 0).trans rfl
    have hname2 : ∀ W, Fr [] w2 W → Calls Tryz.prog 25 #[.int .i64 fl] W fun e W' => e = .returned (.string ⟨nm.toArray⟩) ∧ Fr [] w2 W' := fun W f => (hname W (HF.out.trans (HF2.out.trans f))).mono fun _ _ hh => ⟨hh.1, f.trans hh.2⟩
    simp only [List.take_succ_cons, List.take_zero, List.drop_succ_cons, List.drop_zero]
    iterate 8
      refine wpQuiet_step (fun K hK => ?_)
      go_simp
      apply Exists.intro
      refine ⟨fun W hW => ?_, hK _ ?_⟩
      first | rfl | exact ⟨rfl, rfl⟩ | exact hname2 W hW | (simp only [d0 W hW]; first | rfl | exact ⟨rfl, rfl⟩) | (simp only [d1 W hW]; first | rfl | exact ⟨rfl, rfl⟩)
      clear hK K
    refine wpQuiet_nil ?_
    intro W3 hW3
    clear d0 d1 hname2 p0 p1 p2 q0 q1 q2
    go_wp2_with fail
    refine (hap _ (HV.out.disk.fr (HF2.out.trans hW3) (by simp) (by simp))).mono ?_
    rintro e w4 ⟨rfl, hD4, hF4⟩
    have hbv : w4.heap[v]? = some (.cells #[.pointer (some ⟨a, 0, none⟩), .int .i64 most, .int .i64 top] 56 (0, 0)) := hF4.blk ((HF2.out.trans hW3).blk HV.out.blk (by simp)) (by have := hne.out; simp; omega)
    have hbp : w4.heap[w.heap.size]? = some (.cells #[.int .i64 fl, .int .i64 at_, .int .i64 s.size] 34 (0, 0)) := hF4.blk ((HF2.out.trans hW3).blk HB.out (by simp)) (by have := hlw.out; simp; omega)
    have HF4 : Hid (Fr [v, a, b] w w4) := (HF.out.trans (HF2.out.trans hW3)).mono (by simp) |>.trans (hF4.mono (by simp))
    have HD4 := Lib.hid hD4
    clear hW3 hF4 hD4
    go_wp2_with (go_at_call 30; refine (must_ok _).mono ?_; rintro e w5 ⟨rfl, rfl⟩)
    refine reg_tail 10 (by kernel_rfl) (by kernel_rfl) (fun W hW hFW => ?_)
    have hbv2 : W.heap[v]? = some (.cells #[.pointer (some ⟨a, 0, none⟩), .int .i64 most, .int .i64 top] 56 (0, 0)) := by rw [hW]; exact hbv
    have hbp2 : W.heap[w.heap.size]? = some (.cells #[.int .i64 fl, .int .i64 at_, .int .i64 s.size] 34 (0, 0)) := by rw [hW]; exact hbp
    obtain ⟨p0, p1, p2, q0, q1, q2⟩ := three_at hbp2
    obtain ⟨v0, v1, v2, x0, x1, x2⟩ := three_at hbv2
    have HW := Lib.hid (HF4.out.trans (hFW.mono (by simp)))
    have HDW := Lib.hid (HD4.out.same hW)
    have HBV := Lib.hid hbv2
    have HBP := Lib.hid hbp2
    have hlp := (Array.getElem?_eq_some_iff.1 hbp2).1
    clear hbv hbp hbv2 hbp2 hW hFW HF4 HD4
    simp only [List.take_succ_cons, List.take_zero, List.drop_succ_cons, List.drop_zero]
    repeat still_step
    refine wpStill_nil ?_
    go_wp2
    have hn3 := hne.out
    have hl3 := hlw.out
    have hpv : v ≠ w.heap.size := by omega
    refine bodyPost_ret (v := .agg #[.int .i64 fl, .int .i64 at_, .int .i64 s.size]) (by simp [results, Tryz.results19, go_sem, p0, p1, p2]) rfl ⟨rfl, ⟨?_, ?_⟩, ?_⟩
    · have k1 := set_at HBV.out 2 (.int .i64 (max top fl))
      have k2 : Fr [w.heap.size] (W.setCell ⟨v, 2, none⟩ (.int .i64 (max top fl))) _ := (((Fr.refl [w.heap.size] _).setIn (p := ⟨w.heap.size, 0, none⟩) (by simp) (.int .i64 fl)).setIn (p := ⟨w.heap.size, 1, none⟩) (by simp) (.int .i64 at_)).setIn (p := ⟨w.heap.size, 2, none⟩) (by simp) (.int .i64 s.size)
      exact k2.blk k1 (by simpa using hpv)
    · exact HDW.out.fr (((((Fr.refl [v, w.heap.size] W).setIn (p := ⟨v, 2, none⟩) (by simp) _).setIn (p := ⟨w.heap.size, 0, none⟩) (by simp) _).setIn (p := ⟨w.heap.size, 1, none⟩) (by simp) _).setIn (p := ⟨w.heap.size, 2, none⟩) (by simp) _) (by simp; omega) (by simp; omega)
    · exact (((HW.out.setIn (p := ⟨v, 2, none⟩) (by simp) _).setNew (p := ⟨w.heap.size, 0, none⟩) (Nat.le_refl _) _).setNew (p := ⟨w.heap.size, 1, none⟩) (Nat.le_refl _) _).setNew (p := ⟨w.heap.size, 2, none⟩) (Nat.le_refl _) _
  · have hnm := hmem n (List.mem_of_getLast? hgl)
    obtain ⟨m, hL⟩ : ∃ m, l.length = m + 1 := ⟨l.length - 1, by
      have : l ≠ [] := by intro e; rw [e] at hgl; cases hgl
      have := List.length_pos_iff.2 this
      omega⟩
    have hlm : (l.map (Value.int .i64))[m]? = some (.int .i64 n) := by
      rw [List.getLast?_eq_getElem?, hL] at hgl
      simp only [Nat.add_sub_cancel] at hgl
      rw [List.getElem?_map, hgl]
      rfl
    rw [hL] at hfil hlen
    simp only [hgl] at hpl
    by_cases hsz : ((getF d.files (nameB n)).has.size : Int) < most
    · have hfl : fl = n ∧ at_ = ((getF d.files (nameB n)).has.size : Int) := by
        rw [if_pos hsz, Prod.mk.injEq] at hpl
        exact ⟨hpl.1.symm, hpl.2.symm⟩
      have hhas : ∀ W, Fr [] w W → Calls Tryz.prog 22 #[.pointer (some ⟨v, 0, none⟩), .int .i64 n] W fun e w' => e = .returned (.string (getF d.files (nameB n)).has) ∧ Fr [] W w' := fun W f =>
        has_ok W (hE.fr f (by simp)) v a b d most top (H.out.fr f (by simp) (by simp) (by simp)) n hnm.1 hnm.2.1 hnm.2.2
      clear hpl hmem hgl
      generalize (getF d.files (nameB n)).has = bb at hsz hfl hhas
      have HFL := Lib.hid hfl
      clear hfl
      go_enter Tryz.func19, Tryz.ntmps19
      go_wp2_with fail
      refine hfil.mono ?_
      rintro e w1 ⟨u, rfl, hrow, hF1⟩
      obtain ⟨p, cap, rfl, hp0⟩ := row_form hrow
      obtain ⟨g, rfl⟩ := hp0 (by omega)
      have hcell := (hrow.cellAt m (by omega)).trans hlm
      have hb0 := hF1.blk (hpNew (w := w) rfl (.cells #[.int .i64 (top + 1), .int .i64 0, .int .i64 s.size] 34)) (by simp)
      have hF := hF0.trans hF1
      have hne := Lib.hid H.out.ne
      have hlw := Lib.hid H.out.lt
      clear hF0 hF1 hrow hfil
      have HF := Lib.hid hF
      have HB := Lib.hid hb0
      have hpl0 := (Array.getElem?_eq_some_iff.1 hb0).1
      clear hF hb0
      go_wp2_with fail
      refine (hhas _ HF.out).mono ?_
      rintro e w1c ⟨rfl, hF2⟩
      have hb0 := hF2.blk HB.out (by simp)
      obtain ⟨p0, p1, p2, q0, q1, q2⟩ := three_at hb0
      have hF3 := HF.out.trans hF2
      have c1' : w1c.cell? ⟨v, 1, none⟩ = some (.int .i64 most) := (cell_at (hF3.blk H.out.blk (by simp)) 1).trans rfl
      have HF3 := Lib.hid hF3
      have HB3 := Lib.hid hb0
      clear hF2 hF3 hb0 hcell
      go_wp2_with fail
      have hb1 := set_at (set_at HB3.out 0 (.int .i64 n)) 1 (.int .i64 (bb.size : Int))
      have hb1 : ((w1c.setCell ⟨w.heap.size, 0, none⟩ (.int .i64 n)).setCell ⟨w.heap.size, 1, none⟩ (.int .i64 (bb.size : Int))).heap[w.heap.size]? = some (.cells #[.int .i64 fl, .int .i64 at_, .int .i64 s.size] 34 (0, 0)) := by
        rw [hb1, HFL.out.1, HFL.out.2]; rfl
      have hF := (HF3.out.setNew (p := ⟨w.heap.size, 0, none⟩) (Nat.le_refl _) (.int .i64 n)).setNew (p := ⟨w.heap.size, 1, none⟩) (Nat.le_refl _) (.int .i64 (bb.size : Int))
      clear p0 p1 p2 q0 q1 q2 c1'
      generalize ((w1c.setCell ⟨w.heap.size, 0, none⟩ (.int .i64 n)).setCell ⟨w.heap.size, 1, none⟩ (.int .i64 (bb.size : Int))) = w1d at hF hb1
      have hV1 : ValsAt w1d v a b d most top := H.out.fr hF (by simp) (by simp) (by simp)
      have hb0 := hV1.blk
      have hdl := hV1.disk.lt
      have hvl := (Array.getElem?_eq_some_iff.1 hV1.blk).1
      have hwl := hF.size
      have HV := Lib.hid hV1
      have HF := Lib.hid hF
      have HB := Lib.hid hb1
      have hpl1 := (Array.getElem?_eq_some_iff.1 hb1).1
      clear hV1 hF hb1 hb0
      refine (frame_ok s hs _).mono ?_
      rintro e w2 ⟨rfl, hF2⟩
      rw [HFB.out]
      obtain ⟨p0, p1, p2, q0, q1, q2⟩ := three_at (hF2.blk HB.out (by simp))
      have HF2 := Lib.hid hF2
      clear hF2
      go_wp2_with (go_at_call 30; refine (must_ok _).mono ?_; rintro e w3 ⟨rfl, rfl⟩)
      refine region_quiet_tail (Fr [] w2) 8 (by kernel_rfl) (by kernel_rfl) (Fr.refl [] w2).drew ?_
      have d0 : ∀ W, Fr [] w2 W → W.cell? ⟨v, 0, none⟩ = some (.pointer (some ⟨a, 0, none⟩)) := fun W f => (cell_at ((HF2.out.trans f).blk HV.out.blk (by simp)) 0).trans rfl
      have d1 : ∀ W, Fr [] w2 W → W.cell? ⟨w.heap.size, 0, none⟩ = some (.int .i64 fl) := fun W f => (cell_at ((HF2.out.trans f).blk HB.out (by simp)) 0).trans rfl
      have hname2 : ∀ W, Fr [] w2 W → Calls Tryz.prog 25 #[.int .i64 fl] W fun e W' => e = .returned (.string ⟨nm.toArray⟩) ∧ Fr [] w2 W' := fun W f => (hname W (HF.out.trans (HF2.out.trans f))).mono fun _ _ hh => ⟨hh.1, f.trans hh.2⟩
      simp only [List.take_succ_cons, List.take_zero, List.drop_succ_cons, List.drop_zero]
      iterate 8
        refine wpQuiet_step (fun K hK => ?_)
        go_simp
        apply Exists.intro
        refine ⟨fun W hW => ?_, hK _ ?_⟩
        first | rfl | exact ⟨rfl, rfl⟩ | exact hname2 W hW | (simp only [d0 W hW]; first | rfl | exact ⟨rfl, rfl⟩) | (simp only [d1 W hW]; first | rfl | exact ⟨rfl, rfl⟩)
        clear hK K
      refine wpQuiet_nil ?_
      intro W3 hW3
      clear d0 d1 hname2 p0 p1 p2 q0 q1 q2
      go_wp2_with fail
      refine (hap _ (HV.out.disk.fr (HF2.out.trans hW3) (by simp) (by simp))).mono ?_
      rintro e w4 ⟨rfl, hD4, hF4⟩
      have hbv : w4.heap[v]? = some (.cells #[.pointer (some ⟨a, 0, none⟩), .int .i64 most, .int .i64 top] 56 (0, 0)) := hF4.blk ((HF2.out.trans hW3).blk HV.out.blk (by simp)) (by have := hne.out; simp; omega)
      have hbp : w4.heap[w.heap.size]? = some (.cells #[.int .i64 fl, .int .i64 at_, .int .i64 s.size] 34 (0, 0)) := hF4.blk ((HF2.out.trans hW3).blk HB.out (by simp)) (by have := hlw.out; simp; omega)
      have HF4 : Hid (Fr [v, a, b] w w4) := (HF.out.trans (HF2.out.trans hW3)).mono (by simp) |>.trans (hF4.mono (by simp))
      have HD4 := Lib.hid hD4
      clear hW3 hF4 hD4
      go_wp2_with (go_at_call 30; refine (must_ok _).mono ?_; rintro e w5 ⟨rfl, rfl⟩)
      refine reg_tail 10 (by kernel_rfl) (by kernel_rfl) (fun W hW hFW => ?_)
      have hbv2 : W.heap[v]? = some (.cells #[.pointer (some ⟨a, 0, none⟩), .int .i64 most, .int .i64 top] 56 (0, 0)) := by rw [hW]; exact hbv
      have hbp2 : W.heap[w.heap.size]? = some (.cells #[.int .i64 fl, .int .i64 at_, .int .i64 s.size] 34 (0, 0)) := by rw [hW]; exact hbp
      obtain ⟨p0, p1, p2, q0, q1, q2⟩ := three_at hbp2
      obtain ⟨v0, v1, v2, x0, x1, x2⟩ := three_at hbv2
      have HW := Lib.hid (HF4.out.trans (hFW.mono (by simp)))
      have HDW := Lib.hid (HD4.out.same hW)
      have HBV := Lib.hid hbv2
      have HBP := Lib.hid hbp2
      have hlp := (Array.getElem?_eq_some_iff.1 hbp2).1
      clear hbv hbp hbv2 hbp2 hW hFW HF4 HD4
      simp only [List.take_succ_cons, List.take_zero, List.drop_succ_cons, List.drop_zero]
      repeat still_step
      refine wpStill_nil ?_
      go_wp2
      have hn3 := hne.out
      have hl3 := hlw.out
      have hpv : v ≠ w.heap.size := by omega
      refine bodyPost_ret (v := .agg #[.int .i64 fl, .int .i64 at_, .int .i64 s.size]) (by simp [results, Tryz.results19, go_sem, p0, p1, p2]) rfl ⟨rfl, ⟨?_, ?_⟩, ?_⟩
      · have k1 := set_at HBV.out 2 (.int .i64 (max top fl))
        have k2 : Fr [w.heap.size] (W.setCell ⟨v, 2, none⟩ (.int .i64 (max top fl))) _ := (((Fr.refl [w.heap.size] _).setIn (p := ⟨w.heap.size, 0, none⟩) (by simp) (.int .i64 fl)).setIn (p := ⟨w.heap.size, 1, none⟩) (by simp) (.int .i64 at_)).setIn (p := ⟨w.heap.size, 2, none⟩) (by simp) (.int .i64 s.size)
        exact k2.blk k1 (by simpa using hpv)
      · exact HDW.out.fr (((((Fr.refl [v, w.heap.size] W).setIn (p := ⟨v, 2, none⟩) (by simp) _).setIn (p := ⟨w.heap.size, 0, none⟩) (by simp) _).setIn (p := ⟨w.heap.size, 1, none⟩) (by simp) _).setIn (p := ⟨w.heap.size, 2, none⟩) (by simp) _) (by simp; omega) (by simp; omega)
      · exact (((HW.out.setIn (p := ⟨v, 2, none⟩) (by simp) _).setNew (p := ⟨w.heap.size, 0, none⟩) (Nat.le_refl _) _).setNew (p := ⟨w.heap.size, 1, none⟩) (Nat.le_refl _) _).setNew (p := ⟨w.heap.size, 2, none⟩) (Nat.le_refl _) _
    · have hfl : fl = top + 1 ∧ at_ = 0 := by
        rw [if_neg hsz, Prod.mk.injEq] at hpl
        exact ⟨hpl.1.symm, hpl.2.symm⟩
      have hhas : ∀ W, Fr [] w W → Calls Tryz.prog 22 #[.pointer (some ⟨v, 0, none⟩), .int .i64 n] W fun e w' => e = .returned (.string (getF d.files (nameB n)).has) ∧ Fr [] W w' := fun W f =>
        has_ok W (hE.fr f (by simp)) v a b d most top (H.out.fr f (by simp) (by simp) (by simp)) n hnm.1 hnm.2.1 hnm.2.2
      clear hpl hmem hgl
      generalize (getF d.files (nameB n)).has = bb at hsz hfl hhas
      have HFL := Lib.hid hfl
      clear hfl
      go_enter Tryz.func19, Tryz.ntmps19
      go_wp2_with fail
      refine hfil.mono ?_
      rintro e w1 ⟨u, rfl, hrow, hF1⟩
      obtain ⟨p, cap, rfl, hp0⟩ := row_form hrow
      obtain ⟨g, rfl⟩ := hp0 (by omega)
      have hcell := (hrow.cellAt m (by omega)).trans hlm
      have hb0 := hF1.blk (hpNew (w := w) rfl (.cells #[.int .i64 (top + 1), .int .i64 0, .int .i64 s.size] 34)) (by simp)
      have hF := hF0.trans hF1
      have hne := Lib.hid H.out.ne
      have hlw := Lib.hid H.out.lt
      clear hF0 hF1 hrow hfil
      have HF := Lib.hid hF
      have HB := Lib.hid hb0
      have hpl0 := (Array.getElem?_eq_some_iff.1 hb0).1
      clear hF hb0
      go_wp2_with fail
      refine (hhas _ HF.out).mono ?_
      rintro e w1c ⟨rfl, hF2⟩
      have hb0 := hF2.blk HB.out (by simp)
      obtain ⟨p0, p1, p2, q0, q1, q2⟩ := three_at hb0
      have hF3 := HF.out.trans hF2
      have c1' : w1c.cell? ⟨v, 1, none⟩ = some (.int .i64 most) := (cell_at (hF3.blk H.out.blk (by simp)) 1).trans rfl
      have HF3 := Lib.hid hF3
      have HB3 := Lib.hid hb0
      clear hF2 hF3 hb0 hcell
      go_wp2_with fail
      have hb1 := HB3.out
      rw [← HFL.out.1, ← HFL.out.2] at hb1
      have hF := HF3.out
      clear p0 p1 p2 q0 q1 q2 c1'
      have hV1 : ValsAt w1c v a b d most top := H.out.fr hF (by simp) (by simp) (by simp)
      have hb0 := hV1.blk
      have hdl := hV1.disk.lt
      have hvl := (Array.getElem?_eq_some_iff.1 hV1.blk).1
      have hwl := hF.size
      have HV := Lib.hid hV1
      have HF := Lib.hid hF
      have HB := Lib.hid hb1
      have hpl1 := (Array.getElem?_eq_some_iff.1 hb1).1
      clear hV1 hF hb1 hb0
      refine (frame_ok s hs _).mono ?_
      rintro e w2 ⟨rfl, hF2⟩
      rw [HFB.out]
      obtain ⟨p0, p1, p2, q0, q1, q2⟩ := three_at (hF2.blk HB.out (by simp))
      have HF2 := Lib.hid hF2
      clear hF2
      go_wp2_with (go_at_call 30; refine (must_ok _).mono ?_; rintro e w3 ⟨rfl, rfl⟩)
      refine region_quiet_tail (Fr [] w2) 8 (by kernel_rfl) (by kernel_rfl) (Fr.refl [] w2).drew ?_
      have d0 : ∀ W, Fr [] w2 W → W.cell? ⟨v, 0, none⟩ = some (.pointer (some ⟨a, 0, none⟩)) := fun W f => (cell_at ((HF2.out.trans f).blk HV.out.blk (by simp)) 0).trans rfl
      have d1 : ∀ W, Fr [] w2 W → W.cell? ⟨w.heap.size, 0, none⟩ = some (.int .i64 fl) := fun W f => (cell_at ((HF2.out.trans f).blk HB.out (by simp)) 0).trans rfl
      have hname2 : ∀ W, Fr [] w2 W → Calls Tryz.prog 25 #[.int .i64 fl] W fun e W' => e = .returned (.string ⟨nm.toArray⟩) ∧ Fr [] w2 W' := fun W f => (hname W (HF.out.trans (HF2.out.trans f))).mono fun _ _ hh => ⟨hh.1, f.trans hh.2⟩
      simp only [List.take_succ_cons, List.take_zero, List.drop_succ_cons, List.drop_zero]
      iterate 8
        refine wpQuiet_step (fun K hK => ?_)
        go_simp
        apply Exists.intro
        refine ⟨fun W hW => ?_, hK _ ?_⟩
        first | rfl | exact ⟨rfl, rfl⟩ | exact hname2 W hW | (simp only [d0 W hW]; first | rfl | exact ⟨rfl, rfl⟩) | (simp only [d1 W hW]; first | rfl | exact ⟨rfl, rfl⟩)
        clear hK K
      refine wpQuiet_nil ?_
      intro W3 hW3
      clear d0 d1 hname2 p0 p1 p2 q0 q1 q2
      go_wp2_with fail
      refine (hap _ (HV.out.disk.fr (HF2.out.trans hW3) (by simp) (by simp))).mono ?_
      rintro e w4 ⟨rfl, hD4, hF4⟩
      have hbv : w4.heap[v]? = some (.cells #[.pointer (some ⟨a, 0, none⟩), .int .i64 most, .int .i64 top] 56 (0, 0)) := hF4.blk ((HF2.out.trans hW3).blk HV.out.blk (by simp)) (by have := hne.out; simp; omega)
      have hbp : w4.heap[w.heap.size]? = some (.cells #[.int .i64 fl, .int .i64 at_, .int .i64 s.size] 34 (0, 0)) := hF4.blk ((HF2.out.trans hW3).blk HB.out (by simp)) (by have := hlw.out; simp; omega)
      have HF4 : Hid (Fr [v, a, b] w w4) := (HF.out.trans (HF2.out.trans hW3)).mono (by simp) |>.trans (hF4.mono (by simp))
      have HD4 := Lib.hid hD4
      clear hW3 hF4 hD4
      go_wp2_with (go_at_call 30; refine (must_ok _).mono ?_; rintro e w5 ⟨rfl, rfl⟩)
      refine reg_tail 10 (by kernel_rfl) (by kernel_rfl) (fun W hW hFW => ?_)
      have hbv2 : W.heap[v]? = some (.cells #[.pointer (some ⟨a, 0, none⟩), .int .i64 most, .int .i64 top] 56 (0, 0)) := by rw [hW]; exact hbv
      have hbp2 : W.heap[w.heap.size]? = some (.cells #[.int .i64 fl, .int .i64 at_, .int .i64 s.size] 34 (0, 0)) := by rw [hW]; exact hbp
      obtain ⟨p0, p1, p2, q0, q1, q2⟩ := three_at hbp2
      obtain ⟨v0, v1, v2, x0, x1, x2⟩ := three_at hbv2
      have HW := Lib.hid (HF4.out.trans (hFW.mono (by simp)))
      have HDW := Lib.hid (HD4.out.same hW)
      have HBV := Lib.hid hbv2
      have HBP := Lib.hid hbp2
      have hlp := (Array.getElem?_eq_some_iff.1 hbp2).1
      clear hbv hbp hbv2 hbp2 hW hFW HF4 HD4
      simp only [List.take_succ_cons, List.take_zero, List.drop_succ_cons, List.drop_zero]
      repeat still_step
      refine wpStill_nil ?_
      go_wp2
      have hn3 := hne.out
      have hl3 := hlw.out
      have hpv : v ≠ w.heap.size := by omega
      refine bodyPost_ret (v := .agg #[.int .i64 fl, .int .i64 at_, .int .i64 s.size]) (by simp [results, Tryz.results19, go_sem, p0, p1, p2]) rfl ⟨rfl, ⟨?_, ?_⟩, ?_⟩
      · have k1 := set_at HBV.out 2 (.int .i64 (max top fl))
        have k2 : Fr [w.heap.size] (W.setCell ⟨v, 2, none⟩ (.int .i64 (max top fl))) _ := (((Fr.refl [w.heap.size] _).setIn (p := ⟨w.heap.size, 0, none⟩) (by simp) (.int .i64 fl)).setIn (p := ⟨w.heap.size, 1, none⟩) (by simp) (.int .i64 at_)).setIn (p := ⟨w.heap.size, 2, none⟩) (by simp) (.int .i64 s.size)
        exact k2.blk k1 (by simpa using hpv)
      · exact HDW.out.fr (((((Fr.refl [v, w.heap.size] W).setIn (p := ⟨v, 2, none⟩) (by simp) _).setIn (p := ⟨w.heap.size, 0, none⟩) (by simp) _).setIn (p := ⟨w.heap.size, 1, none⟩) (by simp) _).setIn (p := ⟨w.heap.size, 2, none⟩) (by simp) _) (by simp; omega) (by simp; omega)
      · exact (((HW.out.setIn (p := ⟨v, 2, none⟩) (by simp) _).setNew (p := ⟨w.heap.size, 0, none⟩) (Nat.le_refl _) _).setNew (p := ⟨w.heap.size, 1, none⟩) (Nat.le_refl _) _).setNew (p := ⟨w.heap.size, 2, none⟩) (Nat.le_refl _) _
end Go.Proofs.YtljolihlhfabnaaGreatDoor
