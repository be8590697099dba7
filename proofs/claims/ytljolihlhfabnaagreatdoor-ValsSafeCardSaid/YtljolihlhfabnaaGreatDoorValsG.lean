/-
  LAYER VALS: mend.
-/
import Derived.Test.YtljolihlhfabnaaGreatDoorValsE
import Derived.Test.YtljolihlhfabnaaGreatDoorValsP
namespace Go.Proofs.YtljolihlhfabnaaGreatDoor
open Go Go.RowKit Go.Maps Go.Sort

/-- The number that stands last, or else. -/
def lastOr (top : Int) (l : List Int) : Int := l.getLast?.getD top
theorem lastOr_snoc (top : Int) (l : List Int) (n : Int) : lastOr top (l ++ [n]) = n := by simp [lastOr]
set_option maxRecDepth 100000 in
set_option maxHeartbeats 2000000 in
theorem mend_ok (w : World) (hE : Env w) (v a b : Nat) (d : DiskM) (most top : Int) (h : ValsAt w v a b d most top) (hlow : lowB ≤ v ∧ lowB ≤ a ∧ lowB ≤ b) (hG : d.Good) (hC : d.Calm) :
    Calls Tryz.prog 17 #[.pointer (some ⟨v, 0, none⟩)] w fun e w' => e = .returned (.int .i64 0) ∧
      ValsAt w' v a b (mendAll d (numbersF d.files)) most (lastOr top (numbersF d.files)) ∧ Fr [v, a, b] w w' := by
  have hmf : ∀ (fn : Fn) (first cap : Array Value) (w : World), (Instr.makeFunc fn first cap).run Tryz.prog w = .ok (.func fn first cap) w := fun _ _ _ _ => rfl
  have hF0 : Fr [] w (w.alloc (.cells #[.int .i64 0] 24)) := (Fr.refl [] w).alloc _
  have hN := numbers_any _ (hE.fr hF0 (by simp)) a b d (h.disk.fr hF0 (by simp) (by simp)) hG.sorted (by have := hG.many; omega) (fun k hk => by have := mayN_length (hG.names k hk); omega)
  have hmem := fun n hn => @mem_numbers d n hn
  have hlen : (numbersF d.files).length ≤ 64 := by
    unfold numbersF
    rw [upI_length]
    have := List.length_filterMap_le numOf (namesF d.files)
    have h2 := hG.many
    simp only [namesF, List.length_map] at this ⊢
    omega
  have hvlt := h.lt
  have hne := Lib.hid h.ne
  have c0 := (cell_at h.blk 0).trans rfl
  have H := Lib.hid h
  clear h
  generalize numbersF d.files = l at hN hmem hlen ⊢
  have HMEM := Lib.hid hmem
  clear hmem
  go_enter_defers Tryz.func17, Tryz.ntmps17
  go_wp2_with fail
  refine hN.mono ?_
  rintro e w1 ⟨v0, rfl, hrow, hF1⟩
  obtain ⟨p, cap, rfl, hp⟩ := row_form hrow
  have hbe := hF1.blk (hpNew (w := w) rfl (.cells #[.int .i64 0] 24)) (by simp)
  have HROW := Lib.hid hrow
  have HP := Lib.hid hp
  have HF1 := Lib.hid (hF0.trans hF1)
  have HBE := Lib.hid hbe
  clear hrow hp hF1 hF0 hN hbe c0
  go_wp2_with fail
  go_loopw [15] (fun i wr => ∃ (k : Nat), i = .int .i64 k ∧ k ≤ l.length ∧ ValsAt wr v a b (mendAll d (l.take k)) most (lastOr top (l.take k)) ∧ Fr [v, a, b] w1 wr) (fun i _ => l.length - (intOf i).toNat)
  case atStart => exact ⟨0, rfl, Nat.zero_le _, by simpa [mendAll, lastOr] using H.out.fr HF1.out (by simp) (by simp) (by simp), Fr.refl _ _⟩
  case round =>
    obtain ⟨k, rfl, hk, hV, hF⟩ := hrel
    have hkl := mendAll_keeps (l.take k) hG hC (fun n hn => (HMEM.out n (List.mem_of_mem_take hn)).2.2)
    by_cases hlt : k < l.length
    · obtain ⟨g, rfl⟩ := HP.out (by omega)
      have hnum := HMEM.out l[k] (List.getElem_mem hlt)
      have hkn : (mendAll d (l.take k)).known (nameB l[k]) = 0 := by rw [known_of_has (hkl.2.2 _)]; exact hnum.2.2
      have hcell : wr.cell? ⟨g, k, none⟩ = some (.int .i64 l[k]) := by
        have ho := own_lt HROW.out g rfl
        have hgl : g ∉ [v, a, b] := by
          have := ho.1
          simp only [World.alloc, Array.size_push] at this
          simp
          omega
        rw [hF.cell ho.2 hgl, HROW.out.cellAt k (by omega)]
        simp [hlt]
      have hnx : mendAll d (l.take (k + 1)) = mendOne (mendAll d (l.take k)) l[k] := by rw [List.take_succ_eq_append_getElem hlt, mendAll_snoc]
      have hlx : lastOr top (l.take (k + 1)) = l[k] := by rw [List.take_succ_eq_append_getElem hlt, lastOr_snoc]
      have HNX := Lib.hid (And.intro hnx hlx)
      clear hnx hlx
      obtain ⟨hGD, hCD, _⟩ := hkl
      generalize mendAll d (l.take k) = D at hV hkn HNX hGD hCD
      generalize lastOr top (l.take k) = T at hV
      generalize l[k] = n at hcell hnum hkn HNX
      obtain ⟨hn1, hn2, _⟩ := hnum
      have hb0 := hV.blk
      obtain ⟨v0, v1, v2, x0, x1, x2⟩ := three_at hb0
      have hlv := hV.lt
      have hV6 : ValsAt (wr.setCell ⟨v, 2, none⟩ (.int .i64 n)) v a b D most n := ⟨by rw [set_at hb0 2]; rfl, hV.disk.fr ((Fr.refl [v] wr).setIn (p := ⟨v, 2, none⟩) (by simp) _) (by have := hne.out; simp; omega) (by have := hne.out; simp; omega)⟩
      have hF6 : Fr [v, a, b] w1 (wr.setCell ⟨v, 2, none⟩ (.int .i64 n)) := hF.setIn (p := ⟨v, 2, none⟩) (by simp) _
      have HV6 := Lib.hid hV6
      have HF6 := Lib.hid hF6
      have hl2 := nameB_length n (by omega) (by omega)
      have hbs : (getF D.files (nameB n)).has.size ≤ 262144 := by have := hGD.has (nameB n); have := hGD.used; have := hGD.room; omega
      clear hV6 hF6 hV hF hb0
      go_wp2_with fail
      generalize (wr.setCell ⟨v, 2, none⟩ (.int .i64 n)) = W6 at HV6 HF6 ⊢
      clear v0 v1 v2 x0 x1 x2 hcell hlv
      have hEW : ∀ W, Fr [] W6 W → Env W := fun W f => hE.fr ((HF1.out.mono (T := [v, a, b]) (by simp)).trans (HF6.out.trans (f.mono (by simp)))) (by simp; omega)
      have hname : ∀ W, Fr [] W6 W → Calls Tryz.prog 25 #[.int .i64 n] W fun e W' => e = .returned (.string ⟨(nameB n).toArray⟩) ∧ Fr [] W W' := fun W f => name_any n (by omega) (by omega) W (hEW W f)
      have hread : ∀ W, Fr [] W6 W → Calls Tryz.prog 29 #[.pointer (some ⟨a, 0, none⟩), .string ⟨(nameB n).toArray⟩] W fun e W' => e = .returned (.tuple #[.string (getF D.files (nameB n)).has, .int .i64 0]) ∧ Fr [] W W' := fun W f =>
        (read_any W a b D (HV6.out.disk.fr f (by simp) (by simp)) ⟨(nameB n).toArray⟩ (by rw [size_mk]; unfold maxLen; omega)).mono fun _ _ hh => ⟨by rw [hh.1]; simp only [hkn], hh.2⟩
      have hcut : ∀ W, Fr [] W6 W → ∀ m : Nat, m ≤ (getF D.files (nameB n)).has.size → Calls Tryz.prog 31 #[.pointer (some ⟨a, 0, none⟩), .string ⟨(nameB n).toArray⟩, .int .i64 m] W fun e W' => e = .returned (.int .i64 0) ∧ DiskAt W' a b (D.cut (nameB n) m).2 ∧ Fr [a, b] W W' := fun W f m hm =>
        (cut_any W a b D (HV6.out.disk.fr f (by simp) (by simp)) ⟨(nameB n).toArray⟩ m (by rw [size_mk]; unfold maxLen; omega) hGD.left (by have := hGD.used; have := hGD.room; omega) (by have := hGD.many; omega) (by show (getF D.files (nameB n)).has.size ≤ 1000000; omega)).mono fun _ _ hh => ⟨by rw [hh.1]; simp only [cut_ok hCD hkn (Int.natCast_nonneg m) (by omega)], hh.2⟩
      have hone : mendOne D n = if (frames (getF D.files (nameB n)).has.data.toList).2 < (getF D.files (nameB n)).has.size then (D.cut (nameB n) ((frames (getF D.files (nameB n)).has.data.toList).2 : Nat)).2 else D := rfl
      rw [hone] at HNX
      have hfrm := fun W => frames_any (getF D.files (nameB n)).has (by omega) W
      clear hone hl2
      generalize (getF D.files (nameB n)).has = bb at hread hcut hfrm HNX hbs
      generalize nameB n = nm at hname hread hcut hkn HNX
      generalize (frames bb.data.toList).2 = m at hfrm HNX
      generalize (frames bb.data.toList).1 = bodies at hfrm
      have d0 : ∀ W, Fr [] W6 W → W.cell? ⟨v, 0, none⟩ = some (.pointer (some ⟨a, 0, none⟩)) := fun W f => (cell_at (f.blk HV6.out.blk (by simp)) 0).trans rfl
      refine wp_region_quiet (C := Fr [] W6) (by kernel_rfl) (by kernel_rfl) (Fr.refl [] W6).drew ?_
      have hname6 : ∀ W, Fr [] W6 W → Calls Tryz.prog 25 #[.int .i64 n] W fun e W' => e = .returned (.string ⟨nm.toArray⟩) ∧ Fr [] W6 W' := fun W f => (hname W f).mono fun _ _ hh => ⟨hh.1, f.trans hh.2⟩
      have hread6 : ∀ W, Fr [] W6 W → Calls Tryz.prog 29 #[.pointer (some ⟨a, 0, none⟩), .string ⟨nm.toArray⟩] W fun e W' => e = .returned (.tuple #[.string bb, .int .i64 0]) ∧ Fr [] W6 W' := fun W f => (hread W f).mono fun _ _ hh => ⟨hh.1, f.trans hh.2⟩
      iterate 12
        refine wpQuiet_step (fun K hK => ?_)
        go_simp
        apply Exists.intro
        refine ⟨fun W hW => ?_, hK _ ?_⟩
        first | rfl | exact ⟨rfl, rfl⟩ | exact hname6 W hW | exact hread6 W hW | (simp only [d0 W hW]; first | rfl | exact ⟨rfl, rfl⟩)
        clear hK K
      refine wpQuiet_nil ?_
      intro W7 hW7
      clear hread hread6 hname6
      go_wp2_with fail
      refine (hfrm W7).mono ?_
      rintro e W8 ⟨fv, rfl, _, hF8⟩
      have hF68 := hW7.trans hF8
      clear hW7 hF8 hfrm
      by_cases hm : m < bb.size
      · rw [if_pos hm] at HNX
        have hm' : (m : Int) < (bb.size : Int) := by omega
        go_wp2_with fail
        have d8 : ∀ W, Fr [] W8 W → W.cell? ⟨v, 0, none⟩ = some (.pointer (some ⟨a, 0, none⟩)) := fun W f => d0 W (hF68.trans f)
        have hname8 : ∀ W, Fr [] W8 W → Calls Tryz.prog 25 #[.int .i64 n] W fun e W' => e = .returned (.string ⟨nm.toArray⟩) ∧ Fr [] W8 W' := fun W f => (hname W (hF68.trans f)).mono fun _ _ hh => ⟨hh.1, f.trans hh.2⟩
        refine region_quiet_tail (Fr [] W8) 7 (by kernel_rfl) (by kernel_rfl) (Fr.refl [] W8).drew ?_
        simp only [List.take_succ_cons, List.take_zero, List.drop_succ_cons, List.drop_zero]
        iterate 7
          refine wpQuiet_step (fun K hK => ?_)
          go_simp
          apply Exists.intro
          refine ⟨fun W hW => ?_, hK _ ?_⟩
          first | rfl | exact ⟨rfl, rfl⟩ | exact hname8 W hW | (simp only [d8 W hW]; first | rfl | exact ⟨rfl, rfl⟩)
          clear hK K
        refine wpQuiet_nil ?_
        intro W9 hW9
        clear d8 hname8
        go_wp2_with fail
        refine (hcut W9 (hF68.trans hW9) m (by omega)).mono ?_
        rintro e W10 ⟨rfl, hD10, hF10⟩
        have hbv : W10.heap[v]? = some (.cells #[.pointer (some ⟨a, 0, none⟩), .int .i64 most, .int .i64 n] 56 (0, 0)) := hF10.blk ((hF68.trans hW9).blk HV6.out.blk (by simp)) (by have := hne.out; simp; omega)
        have HF10 : Hid (Fr [v, a, b] w1 W10) := HF6.out.trans ((hF68.trans hW9).mono (T := [v, a, b]) (by simp) |>.trans (hF10.mono (by simp)))
        have HV10 : Hid (ValsAt W10 v a b (D.cut nm m).2 most n) := ⟨hbv, hD10⟩
        clear hcut hname d0 hF68 hW9 hF10 hD10 hbv
        go_wp2_with (go_at_call 30; refine (must_ok _).mono ?_; rintro e w5 ⟨rfl, rfl⟩)
        exact ⟨⟨k + 1, by simp, by omega, by rw [HNX.out.1, HNX.out.2]; exact HV10.out, HF10.out⟩, by simp [intOf]; omega⟩
      · rw [if_neg hm] at HNX
        have hm' : ¬ (m : Int) < (bb.size : Int) := by omega
        have HF8 : Hid (Fr [v, a, b] w1 W8) := HF6.out.trans (hF68.mono (by simp))
        have HV8 : Hid (ValsAt W8 v a b D most n) := HV6.out.fr hF68 (by simp) (by simp) (by simp)
        clear hcut hname d0 hF68
        go_wp2
        exact ⟨⟨k + 1, by simp, by omega, by rw [HNX.out.1, HNX.out.2]; exact HV8.out, HF8.out⟩, by simp [intOf]; omega⟩
    · obtain rfl : k = l.length := by omega
      rw [List.take_length] at hV
      have e0 : wr.cell? ⟨w.heap.size, 0, none⟩ = some (.int .i64 0) := (cell_at (hF.blk HBE.out (by have := hvlt; simp; omega)) 0).trans rfl
      have z0 : wr.frozen? ⟨w.heap.size, 0, none⟩ = false := free_at (hF.blk HBE.out (by have := hvlt; simp; omega)) 0
      have hlW : w.heap.size < wr.heap.size := (Array.getElem?_eq_some_iff.1 (hF.blk HBE.out (by have := hvlt; simp; omega))).1
      have HV := Lib.hid hV
      have HF := Lib.hid (HF1.out.mono (T := [v, a, b]) (by simp) |>.trans hF)
      clear hV hF hkl
      go_wp2
      refine leaves_cons (f := 18) (args := #[.pointer (some ⟨w.heap.size, 0, none⟩)]) (by simp) (by simp [go_sem]) ?_
      refine (caught_idle _ _).mono ?_
      rintro e u' w'' ⟨rfl, rfl, rfl⟩
      simp [Leaves, settle, results, Tryz.results17, go_sem, e0]
      constructor
      · exact HV.out.fr ((Fr.refl [w.heap.size] wr).setIn (p := ⟨w.heap.size, 0, none⟩) (by simp) _) (by simp; omega) (by simp; omega) (by simp; omega)
      · exact HF.out.setNew (p := ⟨w.heap.size, 0, none⟩) (Nat.le_refl _) _
end Go.Proofs.YtljolihlhfabnaaGreatDoor
