/-
  THE LAW ValsFresh: the walk.
-/
import Derived.Test.YtljolihlhfabnaaGreatDoorLawB
import Derived.Test.YtljolihlhfabnaaGreatDoorPlainC
import Derived.Deep.RegionHeld3
namespace Go.Proofs.YtljolihlhfabnaaGreatDoor
open Go Go.RowKit Go.Maps Go.Sort

set_option maxRecDepth 100000 in
set_option maxHeartbeats 4000000 in
theorem fresh_any (w : World) (hE : Env w) (hB : lowB ≤ w.heap.size) (m : Int) (hm : -9223372036854775808 ≤ m ∧ m ≤ 9223372036854775807) (p : Option Addr) (n cap : Nat) (hn : n ≤ maxLen) (ss : Nat → ByteArray) (hT : TextsAt w p n ss) (gone : Int) (hgone : -9223372036854775808 ≤ gone ∧ gone ≤ 9223372036854775807) :
    Calls Tryz.prog 4 #[.int .i64 m, .slice p n cap, .int .i64 gone] w fun e w' => e = .returned (.bool true) ∧ Fr [] w w' := by
  have hnew := new_ok w 262144 (by decide) (by decide)
  have hK0 := fresh_kept (room := 262144) (by decide)
  go_enter Tryz.func4, Tryz.ntmps4
  go_wp2_with fail
  refine hnew.mono ?_
  rintro e w1 ⟨a, b, rfl, hD, ha, hb, hF1⟩
  have hwk := works_ok w1 (hE.fr hF1 (by simp)) (by have := hF1.size; omega)
  go_wp2_with fail
  refine hwk.mono ?_
  rintro e w2 ⟨rfl, hF2⟩
  have hF02 := hF1.trans hF2
  have hD2 := hD.fr hF2 (by simp) (by simp)
  have ham := among_any m 60 hm (by decide) w2
  clear hF1 hF2 hD hwk hnew
  go_wp2_with fail
  refine ham.mono ?_
  rintro e w2' ⟨r, rfl, hr0, hr1, rfl⟩
  have hopen := Open_ok w2 (hE.fr hF02 (by simp)) a b (freshD 262144) (1 + r) hD2 (by omega) hK0.good hK0.calm (by omega)
  rw [(open_fresh 262144).1, (open_fresh 262144).2] at hopen
  clear hD2 ham
  go_wp2_with fail
  refine hopen.mono ?_
  rintro e w3 ⟨v, rfl, hv, hV, hF3⟩
  have hs2 := hF02.size
  have hF03 := hF02.thenNew hF3 (by simp; omega)
  have hvl := Lib.hid hV.lt
  have HF3 := Lib.hid hF03
  have HE3 := Lib.hid (hE.fr hF03 (by simp))
  have HV := Lib.hid hV
  have HT := Lib.hid hT
  have HP := Lib.hid (show lowB ≤ v ∧ lowB ≤ a ∧ lowB ≤ b ∧ w.heap.size ≤ v ∧ w.heap.size ≤ a ∧ w.heap.size ≤ b by omega)
  clear hF02 hF3 hF03 hV hopen hT hv ha hb hs2
  go_wp2_with fail
  go_loopw [10, 11, 12] (fun uA uH i wr => ∃ (k : Nat) (E : List Ent) (d : DiskM) (top : Int), i = .int .i64 k ∧ k ≤ 40 ∧ k ≤ n ∧ E.length ≤ k ∧ Kept d top E ∧ top ≤ E.length ∧ d.used ≤ 508 * E.length ∧ d.room = 262144 ∧ d.files.length ≤ E.length ∧
      ValsAt wr v a b d (1 + r) top ∧ wr.ownsRow w3.heap.size 34 3 uA E.length (placeCells (E.map placeE)) ∧ wr.ownsRow w3.heap.size 9 1 uH E.length (bodyCells E) ∧ Fr [v, a, b] w3 wr) (fun _ _ i _ => 40 - (intOf i).toNat)
  case atStart => exact ⟨0, [], _, 0, rfl, by omega, by omega, Nat.le_refl _, hK0, by simp, by simp [freshD], rfl, by simp [freshD], HV.out, World.ownsRow_nil _ _ _ _, World.ownsRow_nil _ _ _ _, Fr.refl _ _⟩
  case round =>
    obtain ⟨k, E, d, top, rfl, hk40, hkn, hEk, hK, hte, hused, hroom, hfl, hV, hA, hH, hF⟩ := hrel
    by_cases hgo : k < n ∧ k < 40
    · obtain ⟨hk1, hk2⟩ := hgo
      obtain ⟨q, rfl, hqb, hqc, hqs⟩ := HT.out k hk1
      have hqc' : wr.cell? (q.add k) = some (.string (ss k)) := by
        rw [hF.cell (p := q.add k) (by rw [add_block]; have := HF3.out.size; omega) (by rw [add_block]; have := HP.out; simp; omega), HF3.out.cell (p := q.add k) (by rw [add_block]; exact hqb) (by simp)]
        exact hqc
      have hEr : Env wr := HE3.out.fr hF (by have := HP.out; simp; omega)
      have hput := Put_kept wr hEr v a b d (1 + r) top hV E hK (ss k)
      have HV1 := Lib.hid hV
      have HK := Lib.hid hK
      have HA := Lib.hid hA
      have HH := Lib.hid hH
      have HF := Lib.hid hF
      have HN := Lib.hid (And.intro hte (And.intro hused (And.intro hroom hfl)))
      clear hV hK hA hH hF hEr hte hused hroom hfl
      by_cases hlong : (500 : Int) < (ss k).size
      · clear hput
        go_wp2_with fail
        have hN := HN.out
        exact ⟨⟨k + 1, E, d, top, by simp, by omega, by omega, by omega, HK.out, hN.1, hN.2.1, hN.2.2.1, hN.2.2.2, HV1.out, HA.out, HH.out, HF.out⟩, by simp [intOf]; omega⟩
      · have hput := hput (by omega) (by have := HN.out; omega) (by omega) (by have := HN.out; omega) (by have := HN.out; omega)
        have hput := Lib.hid hput
        go_wp2_with fail
        refine hput.out.mono ?_
        rintro e w4 ⟨d4, fl, at_, rfl, hpl, htp, hV4, hK4, hu4, hr4, hf4, hF4⟩
        have hfresh := fun e he => HK.out.fresh (1 + r) ((ss k).size : Int) e he
        rw [← hpl] at hfresh
        have hvl' := hvl.out
        have hA4 := own_fr HA.out hF4 (fun j hj => by have := (own_lt HA.out j hj).1; simp; omega)
        have hH4 := own_fr HH.out hF4 (fun j hj => by have := (own_lt HH.out j hj).1; simp; omega)
        have hF34 := HF.out.trans hF4
        have hqc4 : w4.cell? (q.add k) = some (.string (ss k)) := by
          rw [hF4.cell (p := q.add k) (by rw [add_block]; have := HF3.out.size; have := HF.out.size; omega) (by rw [add_block]; have := HP.out; simp; omega)]
          exact hqc'
        have hbp := hpNew (w := w4) rfl (.cells #[.int .i64 fl, .int .i64 at_, .int .i64 (ss k).size] 34)
        have hA5 := hA4.alloc (.cells #[.int .i64 fl, .int .i64 at_, .int .i64 (ss k).size] 34)
        have hH5 := hH4.alloc (.cells #[.int .i64 fl, .int .i64 at_, .int .i64 (ss k).size] 34)
        have hV5 := hV4.fr ((Fr.refl [] w4).alloc (.cells #[.int .i64 fl, .int .i64 at_, .int .i64 (ss k).size] 34)) (by simp) (by simp) (by simp)
        have hF5 := hF34.alloc (.cells #[.int .i64 fl, .int .i64 at_, .int .i64 (ss k).size] 34)
        have hqc5 : (w4.alloc (.cells #[.int .i64 fl, .int .i64 at_, .int .i64 (ss k).size] 34)).cell? (q.add k) = some (.string (ss k)) := by
          rw [((Fr.refl [] w4).alloc _).cell (p := q.add k) (by rw [add_block]; have := HF3.out.size; have := HF.out.size; have := hF4.size; omega) (by simp)]
          exact hqc4
        obtain ⟨pA, capA, rfl, hpA⟩ := row_form hA5
        have HPA := Lib.hid hpA
        have HFR := Lib.hid hfresh
        have hgA : ∀ j, (Value.slice pA E.length capA).ownBlock = some j → j < w4.heap.size := fun j hj => (own_lt hA4 j hj).2
        have HGA := Lib.hid hgA
        have HGH := Lib.hid (show ∀ j, u11.ownBlock = some j → j < w4.heap.size from fun j hj => (own_lt hH4 j hj).2)
        have hs34 := hF34.size
        clear hA4 hH4 hV4 hF34 hqc4 hqc' hF4 hpA hfresh hput HV1 HF HA HH hgA hvl'
        go_wp2_with fail
        generalize hw5 : w4.alloc (.cells #[.int .i64 fl, .int .i64 at_, .int .i64 (ss k).size] 34) = w5 at hbp hA5 hH5 hV5 hF5 hqc5 ⊢
        generalize hpb : w4.heap.size = pb at hbp HGA HGH ⊢
        have hpbw : pb < w5.heap.size := (Array.getElem?_eq_some_iff.1 hbp).1
        have hb35 : w3.heap.size ≤ pb := by rw [← hpb]; exact hs34
        clear hs34
        have HBP := Lib.hid hbp
        have HA5 := Lib.hid hA5
        have HH5 := Lib.hid hH5
        have HV5 := Lib.hid hV5
        have HF5 := Lib.hid hF5
        have HQ5 := Lib.hid hqc5
        clear hw5 hpb hbp hA5 hH5 hV5 hF5 hqc5
        have hA6 := own_below HA5.out (Fr.refl [] w5)
        have hH6 := own_below HH5.out (Fr.refl [] w5)
        have hV6 := HV5.out.fr (Fr.refl [] w5) (by simp) (by simp) (by simp)
        have hF36 := HF5.out.trans ((Fr.refl [v, a, b] w5))
        have hbp6 := (Fr.refl [] w5).blk HBP.out (by simp)
        have hs56 := (Fr.refl [] w5).size
        have hqc6 : w5.cell? (q.add k) = some (.string (ss k)) := by
          rw [(Fr.refl [] w5).cell (p := q.add k) (by rw [add_block]; have := HF3.out.size; have := HF5.out.size; omega) (by simp)]
          exact HQ5.out
        have hSn : ∀ j ∈ (Value.slice pA E.length capA).ownBlock.toList ++ u11.ownBlock.toList, w3.heap.size ≤ j ∧ j < pb := by
          intro j hj
          rcases List.mem_append.1 hj with hj | hj
          · have hj := Option.mem_toList.1 hj
            exact ⟨(own_lt HA5.out j hj).1, HGA.out j hj⟩
          · have hj := Option.mem_toList.1 hj
            exact ⟨(own_lt HH5.out j hj).1, HGH.out j hj⟩
        have hSA : ∀ j, (Value.slice pA E.length capA).ownBlock = some j → j ∈ (Value.slice pA E.length capA).ownBlock.toList ++ u11.ownBlock.toList ∨ w5.heap.size ≤ j := fun j hj => .inl (List.mem_append.2 (.inl (Option.mem_toList.2 hj)))
        have hSH : ∀ j, u11.ownBlock = some j → j ∈ (Value.slice pA E.length capA).ownBlock.toList ++ u11.ownBlock.toList ∨ w5.heap.size ≤ j := fun j hj => .inl (List.mem_append.2 (.inr (Option.mem_toList.2 hj)))
        have hw3l := HF3.out.size
        have hb3 : w3.heap.size ≤ w5.heap.size := by omega
        generalize (Value.slice pA E.length capA).ownBlock.toList ++ u11.ownBlock.toList = SB at hSn hSA hSH
        have hS : ∀ W, Fr SB w5 W → W.cell? ⟨pb, 0, none⟩ = some (.int .i64 fl) ∧ W.cell? ⟨pb, 1, none⟩ = some (.int .i64 at_) ∧ W.cell? ⟨pb, 2, none⟩ = some (.int .i64 (ss k).size) ∧ W.cell? (q.add k) = some (.string (ss k)) ∧ Fr SB w5 W := fun W f => by
          have hx : pb ∉ SB := fun hh => by have := hSn _ hh; omega
          have h3 := f.blk hbp6 hx
          exact ⟨(cell_at h3 0).trans rfl, (cell_at h3 1).trans rfl, (cell_at h3 2).trans rfl, (f.cell (p := q.add k) (by rw [add_block]; omega) (by rw [add_block]; intro hh; have := hSn _ hh; omega)).trans hqc6, f⟩
        have hX : ∀ W, (W.cell? ⟨pb, 0, none⟩ = some (.int .i64 fl) ∧ W.cell? ⟨pb, 1, none⟩ = some (.int .i64 at_) ∧ W.cell? ⟨pb, 2, none⟩ = some (.int .i64 (ss k).size) ∧ W.cell? (q.add k) = some (.string (ss k)) ∧ Fr SB w5 W) → Fr SB w5 W := fun W f => f.2.2.2.2
        have hHA := rows_apart hH6 hA6 (by decide)
        have HPBR := Lib.hid (show pb < w5.heap.size by omega)
        clear hs56 hw3l
        refine abs_act (fun A hA => ?_)
        have a8 : A.eval (.tmp 10) = .slice pA E.length capA := by rw [hA]; rfl
        have a9 : A.eval (.tmp 11) = u11 := by rw [hA]; rfl
        have a11 : A.eval (.tmp 13) = .pointer (some ⟨pb, 0, none⟩) := by rw [hA]; rfl
        have a1 : A.eval (.tmp 1) = .slice (some q) n cap := by rw [hA]; rfl
        have a10 : A.eval (.tmp 12) = .int .i64 k := by rw [hA]; rfl
        have asz : A.tmps.size = 160 := by rw [hA]; rfl
        refine wp_region_held (S := fun W => W.cell? ⟨pb, 0, none⟩ = some (.int .i64 fl) ∧ W.cell? ⟨pb, 1, none⟩ = some (.int .i64 at_) ∧ W.cell? ⟨pb, 2, none⟩ = some (.int .i64 (ss k).size) ∧ W.cell? (q.add k) = some (.string (ss k)) ∧ Fr SB w5 W) (by kernel_rfl) ?_
        have hSd := hS _ (Fr.refl SB w5).drew
        refine take_d (fuel := 12) (i := 0) (v := .slice pA E.length capA) (some 78) rfl rfl (by kernel_rfl) (by kernel_rfl) (by kernel_rfl) (fun _ _ _ h => h) (yield_move _ rfl rfl a8) hSd ?_
        refine take_d (fuel := 11) (i := 1) (v := .agg #[.int .i64 fl, .int .i64 at_, .int .i64 (ss k).size]) (some 79) rfl rfl (by kernel_rfl) (by kernel_rfl) (by kernel_rfl) (fun _ _ _ h => h) (yield_load _ _ ⟨pb, 0, none⟩ rfl rfl (by simp [eval_put_ne, a11]) (fun W hW => ?_)) hSd ?_
        · obtain ⟨c0, c1, c2, _⟩ := hW
          simp [go_sem, c0, c1, c2]
        refine take_d (fuel := 10) (i := 4) (v := u11) (some 82) rfl rfl (by kernel_rfl) (by kernel_rfl) (by kernel_rfl) (fun _ _ _ h => h) (yield_move _ rfl rfl (by simp [eval_put_ne, a9])) hSd ?_
        refine take_d (fuel := 9) (i := 5) (v := .slice (some q) n cap) (some 83) rfl rfl (by kernel_rfl) (by kernel_rfl) (by kernel_rfl) (fun _ _ _ h => h) (yield_move _ rfl rfl (by simp [eval_put_ne, a1])) hSd ?_
        refine take_d (fuel := 8) (i := 6) (v := .int .i64 k) (some 84) rfl rfl (by kernel_rfl) (by kernel_rfl) (by kernel_rfl) (fun _ _ _ h => h) (yield_move _ rfl rfl (by simp [eval_put_ne, a10])) hSd ?_
        refine take_d (fuel := 7) (i := 7) (v := .pointer (some (q.add k))) (some 85) rfl rfl (by kernel_rfl) (by kernel_rfl) (by kernel_rfl) (fun _ _ _ h => h) (yield_index _ _ _ (.slice (some q) n cap) (.int .i64 k) rfl rfl (by simp [eval_put_ne, eval_put_eq, size_put, asz]) (by simp [eval_put_ne, eval_put_eq, size_put, asz]) (fun W hW => ?_)) hSd ?_
        · clear hW
          simp [go_sem]
          intro hle
          omega
        refine take_d (fuel := 6) (i := 8) (v := .string (ss k)) (some 86) rfl rfl (by kernel_rfl) (by kernel_rfl) (by kernel_rfl) (fun _ _ _ h => h) (yield_load _ _ (q.add k) rfl rfl (by simp [eval_put_ne, eval_put_eq, size_put, asz]) (fun W hW => ?_)) hSd ?_
        · obtain ⟨_, _, _, c3, _⟩ := hW
          simp [go_sem, c3]
        have hrel : ∀ W2 vA vH, W2.ownsRow w3.heap.size 34 3 vA (E.length + 1) (placeCells (E.map placeE) ++ [.int .i64 fl, .int .i64 at_, .int .i64 (ss k).size]) → W2.ownsRow w3.heap.size 9 1 vH (E.length + 1) (bodyCells E ++ [.string (ss k)]) → Fr SB w5 W2 →
            ∃ (k' : Nat) (E' : List Ent) (d' : DiskM) (top' : Int), Value.int .i64 ((k : Int) + 1) = .int .i64 k' ∧ k' ≤ 40 ∧ k' ≤ n ∧ E'.length ≤ k' ∧ Kept d' top' E' ∧ top' ≤ E'.length ∧ d'.used ≤ 508 * E'.length ∧ d'.room = 262144 ∧ d'.files.length ≤ E'.length ∧
              ValsAt W2 v a b d' (1 + r) top' ∧ W2.ownsRow w3.heap.size 34 3 vA E'.length (placeCells (E'.map placeE)) ∧ W2.ownsRow w3.heap.size 9 1 vH E'.length (bodyCells E') ∧ Fr [v, a, b] w3 W2 := by
          intro W2 vA vH h1 h2 h3
          have hNN := HN.out
          have hvv := hvl.out
          refine ⟨k + 1, E ++ [(fl, at_, (ss k).data.toList)], d4, max top fl, by simp, by omega, by omega, by simp; omega, hK4, by simp; omega, by simp; omega, by omega, by simp; omega, hV6.fr h3 (fun hh => by have := hSn _ hh; omega) (fun hh => by have := hSn _ hh; omega) (fun hh => by have := hSn _ hh; omega), ?_, ?_, hF36.thenNew h3 (fun x hx => .inr (hSn x hx).1)⟩
          · rw [placesE_snoc, List.length_append]; simpa using h1
          · rw [bodyCells_snoc, List.length_append]; simpa [encStr] using h2
        have HREL := Lib.hid hrel
        clear hrel hV6 hF36
        refine wpAnyH_all (fuel := 5) (rs := [2, 9]) (by kernel_rfl) (by decide) ?_
        intro j hj
        simp only [List.mem_cons, List.not_mem_nil, or_false] at hj
        rcases hj with rfl | rfl
        · refine step_op rfl rfl (op_build _ _ (some 80) rfl rfl (.agg #[.int .i64 fl, .int .i64 at_, .int .i64 (ss k).size]) (.slice (some ⟨w5.heap.size, 0, none⟩) 1 1) (w5.drew.alloc (.cells #[.int .i64 fl, .int .i64 at_, .int .i64 (ss k).size] 34)) (by simp [eval_put_ne, eval_put_eq, size_put, asz]) (by simp [go_sem]) ⟨hS _ ((Fr.refl SB w5).drew.alloc _), ?_⟩)
          refine wpAnyH_all (fuel := 4) (rs := [3, 9]) (by kernel_rfl) (by decide) ?_
          intro j hj
          simp only [List.mem_cons, List.not_mem_nil, or_false] at hj
          rcases hj with rfl | rfl
          · refine step_op rfl rfl (opApp1 rfl (some 81) rfl _ _ 32 rfl w3.heap.size 34 (.agg #[.int .i64 0, .int .i64 0, .int .i64 0]) 3 24 Tryz.underlying32 infoPlace rfl (by decide) (by decide) (.slice pA E.length capA) E.length (placeCells (E.map placeE)) (by simp [eval_put_ne, eval_put_eq, size_put, asz]) (own_below hA6 ((Fr.refl [] w5).drew.alloc _)) (w5.heap.size) 1 [.int .i64 fl, .int .i64 at_, .int .i64 (ss k).size] (by simp [eval_put_ne, eval_put_eq, size_put, asz]) rfl (newsAt (hpNew (w := w5.drew) rfl _) rfl) (by simp [Value.oneCell']) (by omega) (leAlloc hb3 _) ?_)
            intro vA W1 hA1 hgA1
            have hC1 : Fr SB w5 W1 := ((Fr.refl SB w5).drew.alloc _).grown hgA1 hSA
            have hH1 := World.ownsRow.kept (own_below hH6 ((Fr.refl [] w5).drew.alloc _)) hgA1 hHA
            refine ⟨hS _ hC1, ?_⟩
            refine wpAnyH_all (fuel := 3) (rs := [9]) (by kernel_rfl) (by decide) ?_
            intro j hj
            obtain rfl := List.mem_singleton.1 hj
            refine step_op rfl rfl (op_build _ _ (some 87) rfl rfl (.string (ss k)) (.slice (some ⟨W1.heap.size, 0, none⟩) 1 1) (W1.alloc (.cells #[.string (ss k)] 9)) (by simp [eval_put_ne, eval_put_eq, size_put, asz]) (by simp [go_sem]) ⟨hS _ (hC1.alloc _), ?_⟩)
            refine wpAnyH_all (fuel := 2) (rs := [10]) (by kernel_rfl) (by decide) ?_
            intro j hj
            obtain rfl := List.mem_singleton.1 hj
            refine step_op rfl rfl (opApp1 rfl (some 88) rfl _ _ 22 rfl w3.heap.size 9 (.string ⟨#[]⟩) 1 16 Tryz.underlying22 infoStr rfl (by decide) (by decide) u11 E.length (bodyCells E) (by simp [eval_put_ne, eval_put_eq, size_put, asz]) (hH1.alloc _) (W1.heap.size) 1 [.string (ss k)] (by simp [eval_put_ne, eval_put_eq, size_put, asz]) rfl (newsAt (hpNew rfl _) rfl) (by simp [Value.oneCell']) (by omega) (leAlloc (Nat.le_trans hb3 hC1.size) _) ?_)
            intro vH W2 hH2 hgH2
            have hC2 : Fr SB w5 W2 := (hC1.alloc _).grown hgH2 hSH
            have hA2 := World.ownsRow.kept (hA1.alloc _) hgH2 (rows_apart hA1 hH1 (by decide))
            refine ⟨hS _ hC2, ?_⟩
            refine take_d (fuel := 1) (i := 11) (v := vA) (some 10) rfl rfl (by kernel_rfl) (by kernel_rfl) (by kernel_rfl) (fun _ _ _ h => h) (yield_assign _ rfl rfl (by simp [eval_put_ne, eval_put_eq, size_put, asz])) (hS _ hC2) ?_
            refine take_d (fuel := 0) (i := 12) (v := vH) (some 11) rfl rfl (by kernel_rfl) (by kernel_rfl) (by kernel_rfl) (fun _ _ _ h => h) (yield_assign _ rfl rfl (by simp [eval_put_ne, eval_put_eq, size_put, asz])) (hS _ hC2) ?_
            refine wpAnyH_done (by kernel_rfl) ?_ _
            have hr2 := HREL.out W2 vA vH hA2 hH2 hC2
            have HR2 := Lib.hid hr2
            subst hA
            simp only [Act.put, List.setIfInBounds_toArray, List.set_cons_zero, List.set_cons_succ]
            clear hr2 hSd hC1 hC2 hA1 hA2 hH1 hH2 hgA1 hgH2 hA6 hH6 hS hX hHA a8 a9 a11 a1 a10 asz
            go_wp2
            go_roundw
            case rel => exact HR2.out
            case measure => simp [intOf]; omega
          · refine step_op rfl rfl (op_build _ _ (some 87) rfl rfl (.string (ss k)) (.slice (some ⟨w5.heap.size + 1, 0, none⟩) 1 1) ((w5.drew.alloc (.cells #[.int .i64 fl, .int .i64 at_, .int .i64 (ss k).size] 34)).alloc (.cells #[.string (ss k)] 9)) (by simp [eval_put_ne, eval_put_eq, size_put, asz]) (by simp [go_sem]) ⟨hS _ (((Fr.refl SB w5).drew.alloc _).alloc _), ?_⟩)
            refine wpAnyH_all (fuel := 3) (rs := [3]) (by kernel_rfl) (by decide) ?_
            intro j hj
            obtain rfl := List.mem_singleton.1 hj
            refine step_op rfl rfl (opApp1 rfl (some 81) rfl _ _ 32 rfl w3.heap.size 34 (.agg #[.int .i64 0, .int .i64 0, .int .i64 0]) 3 24 Tryz.underlying32 infoPlace rfl (by decide) (by decide) (.slice pA E.length capA) E.length (placeCells (E.map placeE)) (by simp [eval_put_ne, eval_put_eq, size_put, asz]) (own_below hA6 (((Fr.refl [] w5).drew.alloc _).alloc _)) (w5.heap.size) 1 [.int .i64 fl, .int .i64 at_, .int .i64 (ss k).size] (by simp [eval_put_ne, eval_put_eq, size_put, asz]) rfl (newsAt (hpOld (hpNew (w := w5.drew) rfl _) _) rfl) (by simp [Value.oneCell']) (by omega) (leAlloc (leAlloc hb3 _) _) ?_)
            intro vA W1 hA1 hgA1
            have hC1 : Fr SB w5 W1 := (((Fr.refl SB w5).drew.alloc _).alloc _).grown hgA1 hSA
            have hH1 := World.ownsRow.kept (own_below hH6 (((Fr.refl [] w5).drew.alloc _).alloc _)) hgA1 hHA
            have hbS := (hgA1.block (w5.heap.size + 1) (by rw [szDAA]; omega) (fun e => by have := HGA.out _ e.symm; have := HPBR.out; omega)).trans (hpNew (w := (w5.drew.alloc (.cells #[.int .i64 fl, .int .i64 at_, .int .i64 (ss k).size] 34))) (n := w5.heap.size + 1) (szDA _ _) (.cells #[.string (ss k)] 9))
            refine ⟨hS _ hC1, ?_⟩
            refine wpAnyH_all (fuel := 2) (rs := [10]) (by kernel_rfl) (by decide) ?_
            intro j hj
            obtain rfl := List.mem_singleton.1 hj
            refine step_op rfl rfl (opApp1 rfl (some 88) rfl _ _ 22 rfl w3.heap.size 9 (.string ⟨#[]⟩) 1 16 Tryz.underlying22 infoStr rfl (by decide) (by decide) u11 E.length (bodyCells E) (by simp [eval_put_ne, eval_put_eq, size_put, asz]) (hH1) (w5.heap.size + 1) 1 [.string (ss k)] (by simp [eval_put_ne, eval_put_eq, size_put, asz]) rfl (newsAt (hbS) rfl) (by simp [Value.oneCell']) (by omega) (Nat.le_trans hb3 hC1.size) ?_)
            intro vH W2 hH2 hgH2
            have hC2 : Fr SB w5 W2 := (hC1).grown hgH2 hSH
            have hA2 := World.ownsRow.kept (hA1) hgH2 (rows_apart hA1 hH1 (by decide))
            refine ⟨hS _ hC2, ?_⟩
            refine take_d (fuel := 1) (i := 11) (v := vA) (some 10) rfl rfl (by kernel_rfl) (by kernel_rfl) (by kernel_rfl) (fun _ _ _ h => h) (yield_assign _ rfl rfl (by simp [eval_put_ne, eval_put_eq, size_put, asz])) (hS _ hC2) ?_
            refine take_d (fuel := 0) (i := 12) (v := vH) (some 11) rfl rfl (by kernel_rfl) (by kernel_rfl) (by kernel_rfl) (fun _ _ _ h => h) (yield_assign _ rfl rfl (by simp [eval_put_ne, eval_put_eq, size_put, asz])) (hS _ hC2) ?_
            refine wpAnyH_done (by kernel_rfl) ?_ _
            have hr2 := HREL.out W2 vA vH hA2 hH2 hC2
            have HR2 := Lib.hid hr2
            subst hA
            simp only [Act.put, List.setIfInBounds_toArray, List.set_cons_zero, List.set_cons_succ]
            clear hr2 hSd hC1 hC2 hA1 hA2 hH1 hH2 hgA1 hgH2 hA6 hH6 hS hX hHA a8 a9 a11 a1 a10 asz
            go_wp2
            go_roundw
            case rel => exact HR2.out
            case measure => simp [intOf]; omega
        · refine step_op rfl rfl (op_build _ _ (some 87) rfl rfl (.string (ss k)) (.slice (some ⟨w5.heap.size, 0, none⟩) 1 1) (w5.drew.alloc (.cells #[.string (ss k)] 9)) (by simp [eval_put_ne, eval_put_eq, size_put, asz]) (by simp [go_sem]) ⟨hS _ ((Fr.refl SB w5).drew.alloc _), ?_⟩)
          refine wpAnyH_all (fuel := 4) (rs := [2]) (by kernel_rfl) (by decide) ?_
          intro j hj
          obtain rfl := List.mem_singleton.1 hj
          refine step_op rfl rfl (op_build _ _ (some 80) rfl rfl (.agg #[.int .i64 fl, .int .i64 at_, .int .i64 (ss k).size]) (.slice (some ⟨w5.heap.size + 1, 0, none⟩) 1 1) ((w5.drew.alloc (.cells #[.string (ss k)] 9)).alloc (.cells #[.int .i64 fl, .int .i64 at_, .int .i64 (ss k).size] 34)) (by simp [eval_put_ne, eval_put_eq, size_put, asz]) (by simp [go_sem]) ⟨hS _ (((Fr.refl SB w5).drew.alloc _).alloc _), ?_⟩)
          refine wpAnyH_all (fuel := 3) (rs := [3]) (by kernel_rfl) (by decide) ?_
          intro j hj
          obtain rfl := List.mem_singleton.1 hj
          refine step_op rfl rfl (opApp1 rfl (some 81) rfl _ _ 32 rfl w3.heap.size 34 (.agg #[.int .i64 0, .int .i64 0, .int .i64 0]) 3 24 Tryz.underlying32 infoPlace rfl (by decide) (by decide) (.slice pA E.length capA) E.length (placeCells (E.map placeE)) (by simp [eval_put_ne, eval_put_eq, size_put, asz]) (own_below hA6 (((Fr.refl [] w5).drew.alloc _).alloc _)) (w5.heap.size + 1) 1 [.int .i64 fl, .int .i64 at_, .int .i64 (ss k).size] (by simp [eval_put_ne, eval_put_eq, size_put, asz]) rfl (newsAt (hpNew (w := (w5.drew.alloc (.cells #[.string (ss k)] 9))) (n := w5.heap.size + 1) (szDA _ _) _) rfl) (by simp [Value.oneCell']) (by omega) (leAlloc (leAlloc hb3 _) _) ?_)
          intro vA W1 hA1 hgA1
          have hC1 : Fr SB w5 W1 := (((Fr.refl SB w5).drew.alloc _).alloc _).grown hgA1 hSA
          have hH1 := World.ownsRow.kept (own_below hH6 (((Fr.refl [] w5).drew.alloc _).alloc _)) hgA1 hHA
          have hbS := (hgA1.block (w5.heap.size) (by rw [szDAA]; omega) (fun e => by have := HGA.out _ e.symm; have := HPBR.out; omega)).trans (hpOld (hpNew (w := w5.drew) rfl (.cells #[.string (ss k)] 9)) _)
          refine ⟨hS _ hC1, ?_⟩
          refine wpAnyH_all (fuel := 2) (rs := [10]) (by kernel_rfl) (by decide) ?_
          intro j hj
          obtain rfl := List.mem_singleton.1 hj
          refine step_op rfl rfl (opApp1 rfl (some 88) rfl _ _ 22 rfl w3.heap.size 9 (.string ⟨#[]⟩) 1 16 Tryz.underlying22 infoStr rfl (by decide) (by decide) u11 E.length (bodyCells E) (by simp [eval_put_ne, eval_put_eq, size_put, asz]) (hH1) (w5.heap.size) 1 [.string (ss k)] (by simp [eval_put_ne, eval_put_eq, size_put, asz]) rfl (newsAt (hbS) rfl) (by simp [Value.oneCell']) (by omega) (Nat.le_trans hb3 hC1.size) ?_)
          intro vH W2 hH2 hgH2
          have hC2 : Fr SB w5 W2 := (hC1).grown hgH2 hSH
          have hA2 := World.ownsRow.kept (hA1) hgH2 (rows_apart hA1 hH1 (by decide))
          refine ⟨hS _ hC2, ?_⟩
          refine take_d (fuel := 1) (i := 11) (v := vA) (some 10) rfl rfl (by kernel_rfl) (by kernel_rfl) (by kernel_rfl) (fun _ _ _ h => h) (yield_assign _ rfl rfl (by simp [eval_put_ne, eval_put_eq, size_put, asz])) (hS _ hC2) ?_
          refine take_d (fuel := 0) (i := 12) (v := vH) (some 11) rfl rfl (by kernel_rfl) (by kernel_rfl) (by kernel_rfl) (fun _ _ _ h => h) (yield_assign _ rfl rfl (by simp [eval_put_ne, eval_put_eq, size_put, asz])) (hS _ hC2) ?_
          refine wpAnyH_done (by kernel_rfl) ?_ _
          have hr2 := HREL.out W2 vA vH hA2 hH2 hC2
          have HR2 := Lib.hid hr2
          subst hA
          simp only [Act.put, List.setIfInBounds_toArray, List.set_cons_zero, List.set_cons_succ]
          clear hr2 hSd hC1 hC2 hA1 hA2 hH1 hH2 hgA1 hgH2 hA6 hH6 hS hX hHA a8 a9 a11 a1 a10 asz
          go_wp2
          go_roundw
          case rel => exact HR2.out
          case measure => simp [intOf]; omega
    · have hEr : Env wr := HE3.out.fr hF (by have := HP.out; simp; omega)
      have hfil := files_any wr hEr v a b d (1 + r) top hV hK.good
      have hE40 : E.length ≤ 40 := by omega
      have hgo' : ¬ ((k : Int) < n ∧ (k : Int) < 40) := by omega
      have HGO := Lib.hid hgo'
      have HV1 := Lib.hid hV
      have HK := Lib.hid hK
      have HA := Lib.hid hA
      have HH := Lib.hid hH
      have HF := Lib.hid hF
      have HER := Lib.hid hEr
      have HNN := Lib.hid (And.intro hte (And.intro hused (And.intro hroom hfl)))
      clear hV hK hA hH hF hEr hte hused hroom hfl hgo'
      have hexit : (k : Int) < n → ¬ (k : Int) < 40 := fun h1 h2 => HGO.out ⟨h1, h2⟩
      by_cases hkn1 : (k : Int) < n
      · have hk40' := hexit hkn1
        clear hexit hgo
        go_wp2_with fail
        refine hfil.mono ?_
        rintro e w5 ⟨uN, rfl, hN5, hF5⟩
        obtain ⟨pN, capN, rfl, hpN⟩ := row_form hN5
        have HPN := Lib.hid hpN
        have HN5 := Lib.hid hN5
        have hA5 := own_below HA.out hF5
        have hH5 := own_below HH.out hF5
        obtain ⟨pA, capA, rfl, hpA⟩ := row_form hA5
        obtain ⟨pH, capH, rfl, hpH⟩ := row_form hH5
        have HPA := Lib.hid hpA
        have HPH := Lib.hid hpH
        have HA5 := Lib.hid hA5
        have HH5 := Lib.hid hH5
        have HV5 := Lib.hid (HV1.out.fr hF5 (by simp) (by simp) (by simp))
        have HF5 := Lib.hid (HF.out.trans (hF5.mono (by simp)))
        have HE5 := Lib.hid (HER.out.fr hF5 (by simp))
        have hLm := fun x h => @Kept.remove d top E HK.out x h
        have hmemN := fun x h => @mem_numbers d x h
        have hmem2 := fun x => @Kept.mem d top E HK.out x
        have hL64 : (numbersF d.files).length ≤ 64 := by
          have h1 := List.length_filterMap_le numOf (namesF d.files)
          have h2 := HK.out.good.many
          unfold numbersF
          rw [upI_length]
          simp only [namesF, List.length_map] at h1 ⊢
          omega
        clear hpN hN5 hA5 hH5 hF5 hpA hpH hfil HV1 HA HH HF HER
        generalize numbersF d.files = L at HPN HN5 hLm hmemN hmem2 hL64 ⊢
        by_cases hL0 : L.length = 0
        · have HLM := Lib.hid hLm
          have HMN := Lib.hid hmemN
          have HM2 := Lib.hid hmem2
          clear hLm hmemN hmem2
          go_wp2
          go_ret
          exact ⟨rfl, HF3.out.thenNew HF5.out (by have := HP.out; simp; omega)⟩
        · have ham := among_any gone (L.length : Int) hgone (by omega) w5
          have HLM := Lib.hid hLm
          have HMN := Lib.hid hmemN
          have HM2 := Lib.hid hmem2
          clear hLm hmemN hmem2
          go_wp2_with fail
          refine ham.mono ?_
          rintro e w5' ⟨r2, rfl, hr20, hr21, rfl⟩
          obtain ⟨t, rfl⟩ := Int.eq_ofNat_of_zero_le hr20
          have htl : t < L.length := by omega
          obtain ⟨gN, rfl⟩ := HPN.out (by omega)
          have kN := (HN5.out.cellAt t (by omega))
          rw [List.getElem?_map, List.getElem?_eq_getElem htl] at kN
          simp only [Option.map_some] at kN
          have hLt := List.getElem_mem htl
          have hmm := HMN.out _ hLt
          obtain ⟨hc0, hK2, hk2, hu2, hr2, hf2⟩ := HLM.out _ hLt
          obtain ⟨e0, he0, he01⟩ := (HM2.out _).1 hLt
          have hot := (HK.out.nums e0 he0).2
          rw [he01] at hot
          have hrm := Remove_ok w5 HE5.out v a b d (1 + r) top HV5.out HK.out.good L[t] hmm.1 hmm.2.1 hmm.2.2
          rw [hc0] at hrm
          generalize L[t] = out at kN hmm hc0 hK2 hk2 hu2 hr2 hf2 hot hrm he01
          generalize (d.remove (nameB out)).2 = d2 at hc0 hK2 hk2 hu2 hr2 hf2 hrm
          have HK2 := Lib.hid hK2
          have HN2 := Lib.hid (And.intro hk2 (And.intro hu2 (And.intro hr2 hf2)))
          clear hc0 hK2 hk2 hu2 hr2 hf2 ham hLt he01 he0
          go_wp2_with fail
          refine hrm.mono ?_
          rintro e w6 ⟨rfl, hV6, hF6⟩
          have hE6 : Env w6 := HE5.out.fr hF6 (by have := HP.out; simp; omega)
          have hrb := Remove_bad w6 hE6 v a b d2 (1 + r) top hV6 out (by omega) (by omega) (.inl HN2.out.1)
          have HV6 := Lib.hid hV6
          have HE6 := Lib.hid hE6
          have hA6 := own_fr HA5.out hF6 (fun j hj => by have := (own_lt HA5.out j hj).1; have := hvl.out; simp; omega)
          have hH6 := own_fr HH5.out hF6 (fun j hj => by have := (own_lt HH5.out j hj).1; have := hvl.out; simp; omega)
          have HA6 := Lib.hid hA6
          have HH6 := Lib.hid hH6
          have HF6 := Lib.hid (HF5.out.trans (hF6.mono (T := [v, a, b]) (by simp)))
          clear hV6 hE6 hA6 hH6 hF6 hrm kN
          go_wp2_with fail
          refine hrb.mono ?_
          rintro e w7 ⟨rfl, hF7⟩
          have HV7 := Lib.hid (HV6.out.fr hF7 (by simp) (by simp) (by simp))
          have HE7 := Lib.hid (HE6.out.fr hF7 (by simp))
          have HA7 := Lib.hid (own_below HA6.out hF7)
          have HH7 := Lib.hid (own_below HH6.out hF7)
          have HF7 := Lib.hid (HF6.out.trans (hF7.mono (T := [v, a, b]) (by simp)))
          clear hF7 hrb
          go_wp2_with fail
          go_loopw [113] (fun i wr4 => ∃ j : Nat, i = .int .i64 j ∧ j ≤ E.length ∧ Fr [] w7 wr4) (fun i _ => E.length - (intOf i).toNat)
          case atStart => exact ⟨0, rfl, Nat.zero_le _, Fr.refl _ _⟩
          case round =>
            obtain ⟨j, rfl, hj, hF8⟩ := hrel
            by_cases hjl : j < E.length
            · obtain ⟨gA, rfl⟩ := HPA.out (by omega)
              obtain ⟨gH, rfl⟩ := HPH.out (by omega)
              have hem : E[j] ∈ E := List.getElem_mem hjl
              have hcs := placeCells_at (E.map placeE) j (by simpa using hjl)
              rw [Nat.mul_comm 3 j] at hcs
              have hA8 := own_below HA7.out hF8
              have k0 := (hA8.cellAt (j * 3) (by omega)).trans hcs.1
              have k1 := (hA8.cellAt (j * 3 + 1) (by omega)).trans hcs.2.1
              have k2 := (hA8.cellAt (j * 3 + 2) (by omega)).trans hcs.2.2
              have hbc : (bodyCells E)[j]? = some (.string ⟨E[j].2.2.toArray⟩) := by simp [bodyCells, encStr, hjl]
              simp only [List.getElem_map, placeE] at k0 k1 k2
              have hnm := HK.out.nums _ hem
              have htp := HK.out.top0
              by_cases hxo : E[j].1 = out
              · have hget := fun W (f : Fr [] w7 W) => Get_bad W (HE7.out.fr f (by simp)) v a b d2 (1 + r) top (HV7.out.fr f (by simp) (by simp) (by simp)) E[j].1 E[j].2.1 (E[j].2.2.length : Int) (by omega) (by omega) (.inl (by rw [hxo]; exact HN2.out.1))
                clear hem hcs hA8 htp
                generalize E[j] = en at k0 k1 k2 hbc hnm hget hxo
                obtain ⟨x, y, bd⟩ := en
                simp only at k0 k1 k2 hbc hnm hget hxo
                subst hxo
                have HBC := Lib.hid hbc
                have HF8 := Lib.hid hF8
                clear hbc hF8
                go_wp2_with fail
                refine (hget _ (HF8.out.alloc _)).mono ?_
                rintro e w9 ⟨rfl, hF9⟩
                obtain ⟨p0, p1, p2, q0, q1, q2⟩ := three_at (hF9.blk (hpNew rfl (.cells #[.int .i64 x, .int .i64 y, .int .i64 bd.length] 34)) (by simp))
                have HF9 := Lib.hid ((HF8.out.alloc (.cells #[.int .i64 x, .int .i64 y, .int .i64 bd.length] 34)).trans hF9)
                clear hF9 k0 k1 k2 hget
                go_wp2
                exact ⟨⟨j + 1, by simp, by omega, HF9.out⟩, by simp [intOf]; omega⟩
              · have hem2 : E[j] ∈ E.filter (fun e => !(e.1 == out)) := List.mem_filter.2 ⟨hem, by simpa using hxo⟩
                have hget := fun W (f : Fr [] w7 W) => Get_any W (HE7.out.fr f (by simp)) v a b d2 (1 + r) top (HV7.out.fr f (by simp) (by simp) (by simp)) HK2.out.good E[j].1 E[j].2.1 (E[j].2.2.length : Int) (by omega) (by omega) (HK2.out.known hem2)
                rw [HK2.out.got hem2] at hget
                clear hem hcs hA8 htp hem2
                simp only at hget
                generalize E[j] = en at k0 k1 k2 hbc hnm hget hxo
                obtain ⟨x, y, bd⟩ := en
                simp only at k0 k1 k2 hbc hnm hget hxo
                have HBC := Lib.hid hbc
                have HF8 := Lib.hid hF8
                clear hbc hF8
                go_wp2_with fail
                refine (hget _ (HF8.out.alloc _)).mono ?_
                rintro e w9 ⟨rfl, hF9⟩
                obtain ⟨p0, p1, p2, q0, q1, q2⟩ := three_at (hF9.blk (hpNew rfl (.cells #[.int .i64 x, .int .i64 y, .int .i64 bd.length] 34)) (by simp))
                have hF79 := (HF8.out.alloc (.cells #[.int .i64 x, .int .i64 y, .int .i64 bd.length] 34)).trans hF9
                have hxb : (x != out) = true := by simpa using hxo
                have hh9 := ((own_below HH7.out hF79).cellAt j (by omega)).trans HBC.out
                have HF9 := Lib.hid hF79
                clear hF9 hF79 k0 k1 k2 hget
                go_wp2
                exact ⟨⟨j + 1, by simp, by omega, HF9.out⟩, by simp [intOf]; omega⟩
            · have hjE : j = E.length := by omega
              subst hjE
              have HF8 := Lib.hid hF8
              clear hF8
              go_wp2_with fail
              go_loopw [144] (fun i wr4 => ∃ (j : Nat) (E3 : List Ent) (d3 : DiskM) (top3 : Int), i = .int .i64 j ∧ j ≤ 3 ∧ Kept d3 top3 E3 ∧ (∀ e ∈ E3, e.1 ≠ out) ∧ out ≤ top3 ∧ top3 ≤ 40 + j ∧ d3.used ≤ 20320 + 12 * j ∧ d3.room = 262144 ∧ d3.files.length ≤ 40 + j ∧
                  ValsAt wr4 v a b d3 (1 + r) top3 ∧ Fr [v, a, b] w3 wr4) (fun i _ => 3 - (intOf i).toNat)
              case atStart => exact ⟨0, _, d2, top, rfl, by omega, HK2.out, fun e he => by simpa using (List.mem_filter.1 he).2, hot, by have := HNN.out; omega, by have := HNN.out; have := HN2.out; omega, by have := HNN.out; have := HN2.out; omega, by have := HNN.out; have := HN2.out; omega, HV7.out.fr HF8.out (by simp) (by simp) (by simp), HF7.out.trans (HF8.out.mono (by simp))⟩
              case round =>
                obtain ⟨j, E3, d3, top3, rfl, hj3, hK3, hne3, ho3, ht3, hu3, hr3, hf3, hV3, hF9⟩ := hrel
                have hplace := hK3.place (1 + r)
                have hmem3 := fun x => @Kept.mem d3 top3 E3 hK3 x
                have hEr3 : Env wr := HE3.out.fr hF9 (by have := HP.out; simp; omega)
                by_cases hjl : j < 3
                · have hput := Put_kept wr hEr3 v a b d3 (1 + r) top3 hV3 E3 hK3 ⟨#[109, 111, 114, 101]⟩ (by decide) (by omega) (by omega) (by rw [hr3]; show d3.used + ((4 : Nat) + 8) ≤ 262144; omega) (by omega)
                  have HN3 := Lib.hid (And.intro hne3 (And.intro ho3 (And.intro ht3 (And.intro hu3 (And.intro hr3 hf3)))))
                  have HPL := Lib.hid (And.intro hplace hmem3)
                  have HF9 := Lib.hid hF9
                  clear hne3 ho3 ht3 hu3 hr3 hf3 hplace hmem3 hF9 hV3 hK3 hEr3
                  go_wp2_with fail
                  refine hput.mono ?_
                  rintro e w10 ⟨d4, fl, at_, rfl, hpl, htp, hV4, hK4, hu4, hr4, hf4, hF10⟩
                  have hfo : ¬ fl = out := by
                    intro hh
                    have h1 := HPL.out.1.2.2.2
                    have h2 := congrArg Prod.fst hpl
                    simp only at h2
                    rw [← h2] at h1
                    rcases h1 with h1 | h1
                    · have := HN3.out.2.1; omega
                    · obtain ⟨e1, he1, he2⟩ := (HPL.out.2 _).1 h1
                      exact HN3.out.1 e1 he1 (he2.trans hh)
                  have hs4 : (⟨#[109, 111, 114, 101]⟩ : ByteArray).size = 4 := rfl
                  rw [hs4] at hu4
                  have HK4 := Lib.hid hK4
                  have HV4 := Lib.hid (hV4.fr ((Fr.refl [] w10).alloc (.cells #[.int .i64 fl, .int .i64 at_, .int .i64 4] 34)) (by simp) (by simp) (by simp))
                  have HF10 := Lib.hid ((HF9.out.trans hF10).alloc (.cells #[.int .i64 fl, .int .i64 at_, .int .i64 4] 34))
                  have HN4 := Lib.hid (And.intro hpl (And.intro htp (And.intro hu4 (And.intro hr4 hf4))))
                  clear hK4 hV4 hF10 hpl htp hu4 hr4 hf4 hput hs4
                  go_wp2
                  have hx3 := HN3.out
                  have hx4 := HN4.out
                  refine ⟨⟨j + 1, _, d4, max top3 fl, by simp, by omega, HK4.out, ?_, by omega, by omega, by omega, by omega, by omega, HV4.out, HF10.out⟩, by simp [intOf]; omega⟩
                  intro e he
                  rcases List.mem_append.1 he with he | he
                  · exact hx3.1 e he
                  · obtain rfl := List.mem_singleton.1 he
                    exact hfo
                · have HF9 := Lib.hid hF9
                  clear hplace hmem3 hF9 hV3 hK3 hEr3 hne3 ho3 ht3 hu3 hr3 hf3
                  go_wp2
                  go_ret
                  exact ⟨rfl, HF3.out.thenNew HF9.out (by have := HP.out; simp; omega)⟩
      · clear hexit hgo
        go_wp2_with fail
        refine hfil.mono ?_
        rintro e w5 ⟨uN, rfl, hN5, hF5⟩
        obtain ⟨pN, capN, rfl, hpN⟩ := row_form hN5
        have HPN := Lib.hid hpN
        have HN5 := Lib.hid hN5
        have hA5 := own_below HA.out hF5
        have hH5 := own_below HH.out hF5
        obtain ⟨pA, capA, rfl, hpA⟩ := row_form hA5
        obtain ⟨pH, capH, rfl, hpH⟩ := row_form hH5
        have HPA := Lib.hid hpA
        have HPH := Lib.hid hpH
        have HA5 := Lib.hid hA5
        have HH5 := Lib.hid hH5
        have HV5 := Lib.hid (HV1.out.fr hF5 (by simp) (by simp) (by simp))
        have HF5 := Lib.hid (HF.out.trans (hF5.mono (by simp)))
        have HE5 := Lib.hid (HER.out.fr hF5 (by simp))
        have hLm := fun x h => @Kept.remove d top E HK.out x h
        have hmemN := fun x h => @mem_numbers d x h
        have hmem2 := fun x => @Kept.mem d top E HK.out x
        have hL64 : (numbersF d.files).length ≤ 64 := by
          have h1 := List.length_filterMap_le numOf (namesF d.files)
          have h2 := HK.out.good.many
          unfold numbersF
          rw [upI_length]
          simp only [namesF, List.length_map] at h1 ⊢
          omega
        clear hpN hN5 hA5 hH5 hF5 hpA hpH hfil HV1 HA HH HF HER
        generalize numbersF d.files = L at HPN HN5 hLm hmemN hmem2 hL64 ⊢
        by_cases hL0 : L.length = 0
        · have HLM := Lib.hid hLm
          have HMN := Lib.hid hmemN
          have HM2 := Lib.hid hmem2
          clear hLm hmemN hmem2
          go_wp2
          go_ret
          exact ⟨rfl, HF3.out.thenNew HF5.out (by have := HP.out; simp; omega)⟩
        · have ham := among_any gone (L.length : Int) hgone (by omega) w5
          have HLM := Lib.hid hLm
          have HMN := Lib.hid hmemN
          have HM2 := Lib.hid hmem2
          clear hLm hmemN hmem2
          go_wp2_with fail
          refine ham.mono ?_
          rintro e w5' ⟨r2, rfl, hr20, hr21, rfl⟩
          obtain ⟨t, rfl⟩ := Int.eq_ofNat_of_zero_le hr20
          have htl : t < L.length := by omega
          obtain ⟨gN, rfl⟩ := HPN.out (by omega)
          have kN := (HN5.out.cellAt t (by omega))
          rw [List.getElem?_map, List.getElem?_eq_getElem htl] at kN
          simp only [Option.map_some] at kN
          have hLt := List.getElem_mem htl
          have hmm := HMN.out _ hLt
          obtain ⟨hc0, hK2, hk2, hu2, hr2, hf2⟩ := HLM.out _ hLt
          obtain ⟨e0, he0, he01⟩ := (HM2.out _).1 hLt
          have hot := (HK.out.nums e0 he0).2
          rw [he01] at hot
          have hrm := Remove_ok w5 HE5.out v a b d (1 + r) top HV5.out HK.out.good L[t] hmm.1 hmm.2.1 hmm.2.2
          rw [hc0] at hrm
          generalize L[t] = out at kN hmm hc0 hK2 hk2 hu2 hr2 hf2 hot hrm he01
          generalize (d.remove (nameB out)).2 = d2 at hc0 hK2 hk2 hu2 hr2 hf2 hrm
          have HK2 := Lib.hid hK2
          have HN2 := Lib.hid (And.intro hk2 (And.intro hu2 (And.intro hr2 hf2)))
          clear hc0 hK2 hk2 hu2 hr2 hf2 ham hLt he01 he0
          go_wp2_with fail
          refine hrm.mono ?_
          rintro e w6 ⟨rfl, hV6, hF6⟩
          have hE6 : Env w6 := HE5.out.fr hF6 (by have := HP.out; simp; omega)
          have hrb := Remove_bad w6 hE6 v a b d2 (1 + r) top hV6 out (by omega) (by omega) (.inl HN2.out.1)
          have HV6 := Lib.hid hV6
          have HE6 := Lib.hid hE6
          have hA6 := own_fr HA5.out hF6 (fun j hj => by have := (own_lt HA5.out j hj).1; have := hvl.out; simp; omega)
          have hH6 := own_fr HH5.out hF6 (fun j hj => by have := (own_lt HH5.out j hj).1; have := hvl.out; simp; omega)
          have HA6 := Lib.hid hA6
          have HH6 := Lib.hid hH6
          have HF6 := Lib.hid (HF5.out.trans (hF6.mono (T := [v, a, b]) (by simp)))
          clear hV6 hE6 hA6 hH6 hF6 hrm kN
          go_wp2_with fail
          refine hrb.mono ?_
          rintro e w7 ⟨rfl, hF7⟩
          have HV7 := Lib.hid (HV6.out.fr hF7 (by simp) (by simp) (by simp))
          have HE7 := Lib.hid (HE6.out.fr hF7 (by simp))
          have HA7 := Lib.hid (own_below HA6.out hF7)
          have HH7 := Lib.hid (own_below HH6.out hF7)
          have HF7 := Lib.hid (HF6.out.trans (hF7.mono (T := [v, a, b]) (by simp)))
          clear hF7 hrb
          go_wp2_with fail
          go_loopw [113] (fun i wr4 => ∃ j : Nat, i = .int .i64 j ∧ j ≤ E.length ∧ Fr [] w7 wr4) (fun i _ => E.length - (intOf i).toNat)
          case atStart => exact ⟨0, rfl, Nat.zero_le _, Fr.refl _ _⟩
          case round =>
            obtain ⟨j, rfl, hj, hF8⟩ := hrel
            by_cases hjl : j < E.length
            · obtain ⟨gA, rfl⟩ := HPA.out (by omega)
              obtain ⟨gH, rfl⟩ := HPH.out (by omega)
              have hem : E[j] ∈ E := List.getElem_mem hjl
              have hcs := placeCells_at (E.map placeE) j (by simpa using hjl)
              rw [Nat.mul_comm 3 j] at hcs
              have hA8 := own_below HA7.out hF8
              have k0 := (hA8.cellAt (j * 3) (by omega)).trans hcs.1
              have k1 := (hA8.cellAt (j * 3 + 1) (by omega)).trans hcs.2.1
              have k2 := (hA8.cellAt (j * 3 + 2) (by omega)).trans hcs.2.2
              have hbc : (bodyCells E)[j]? = some (.string ⟨E[j].2.2.toArray⟩) := by simp [bodyCells, encStr, hjl]
              simp only [List.getElem_map, placeE] at k0 k1 k2
              have hnm := HK.out.nums _ hem
              have htp := HK.out.top0
              by_cases hxo : E[j].1 = out
              · have hget := fun W (f : Fr [] w7 W) => Get_bad W (HE7.out.fr f (by simp)) v a b d2 (1 + r) top (HV7.out.fr f (by simp) (by simp) (by simp)) E[j].1 E[j].2.1 (E[j].2.2.length : Int) (by omega) (by omega) (.inl (by rw [hxo]; exact HN2.out.1))
                clear hem hcs hA8 htp
                generalize E[j] = en at k0 k1 k2 hbc hnm hget hxo
                obtain ⟨x, y, bd⟩ := en
                simp only at k0 k1 k2 hbc hnm hget hxo
                subst hxo
                have HBC := Lib.hid hbc
                have HF8 := Lib.hid hF8
                clear hbc hF8
                go_wp2_with fail
                refine (hget _ (HF8.out.alloc _)).mono ?_
                rintro e w9 ⟨rfl, hF9⟩
                obtain ⟨p0, p1, p2, q0, q1, q2⟩ := three_at (hF9.blk (hpNew rfl (.cells #[.int .i64 x, .int .i64 y, .int .i64 bd.length] 34)) (by simp))
                have HF9 := Lib.hid ((HF8.out.alloc (.cells #[.int .i64 x, .int .i64 y, .int .i64 bd.length] 34)).trans hF9)
                clear hF9 k0 k1 k2 hget
                go_wp2
                exact ⟨⟨j + 1, by simp, by omega, HF9.out⟩, by simp [intOf]; omega⟩
              · have hem2 : E[j] ∈ E.filter (fun e => !(e.1 == out)) := List.mem_filter.2 ⟨hem, by simpa using hxo⟩
                have hget := fun W (f : Fr [] w7 W) => Get_any W (HE7.out.fr f (by simp)) v a b d2 (1 + r) top (HV7.out.fr f (by simp) (by simp) (by simp)) HK2.out.good E[j].1 E[j].2.1 (E[j].2.2.length : Int) (by omega) (by omega) (HK2.out.known hem2)
                rw [HK2.out.got hem2] at hget
                clear hem hcs hA8 htp hem2
                simp only at hget
                generalize E[j] = en at k0 k1 k2 hbc hnm hget hxo
                obtain ⟨x, y, bd⟩ := en
                simp only at k0 k1 k2 hbc hnm hget hxo
                have HBC := Lib.hid hbc
                have HF8 := Lib.hid hF8
                clear hbc hF8
                go_wp2_with fail
                refine (hget _ (HF8.out.alloc _)).mono ?_
                rintro e w9 ⟨rfl, hF9⟩
                obtain ⟨p0, p1, p2, q0, q1, q2⟩ := three_at (hF9.blk (hpNew rfl (.cells #[.int .i64 x, .int .i64 y, .int .i64 bd.length] 34)) (by simp))
                have hF79 := (HF8.out.alloc (.cells #[.int .i64 x, .int .i64 y, .int .i64 bd.length] 34)).trans hF9
                have hxb : (x != out) = true := by simpa using hxo
                have hh9 := ((own_below HH7.out hF79).cellAt j (by omega)).trans HBC.out
                have HF9 := Lib.hid hF79
                clear hF9 hF79 k0 k1 k2 hget
                go_wp2
                exact ⟨⟨j + 1, by simp, by omega, HF9.out⟩, by simp [intOf]; omega⟩
            · have hjE : j = E.length := by omega
              subst hjE
              have HF8 := Lib.hid hF8
              clear hF8
              go_wp2_with fail
              go_loopw [144] (fun i wr4 => ∃ (j : Nat) (E3 : List Ent) (d3 : DiskM) (top3 : Int), i = .int .i64 j ∧ j ≤ 3 ∧ Kept d3 top3 E3 ∧ (∀ e ∈ E3, e.1 ≠ out) ∧ out ≤ top3 ∧ top3 ≤ 40 + j ∧ d3.used ≤ 20320 + 12 * j ∧ d3.room = 262144 ∧ d3.files.length ≤ 40 + j ∧
                  ValsAt wr4 v a b d3 (1 + r) top3 ∧ Fr [v, a, b] w3 wr4) (fun i _ => 3 - (intOf i).toNat)
              case atStart => exact ⟨0, _, d2, top, rfl, by omega, HK2.out, fun e he => by simpa using (List.mem_filter.1 he).2, hot, by have := HNN.out; omega, by have := HNN.out; have := HN2.out; omega, by have := HNN.out; have := HN2.out; omega, by have := HNN.out; have := HN2.out; omega, HV7.out.fr HF8.out (by simp) (by simp) (by simp), HF7.out.trans (HF8.out.mono (by simp))⟩
              case round =>
                obtain ⟨j, E3, d3, top3, rfl, hj3, hK3, hne3, ho3, ht3, hu3, hr3, hf3, hV3, hF9⟩ := hrel
                have hplace := hK3.place (1 + r)
                have hmem3 := fun x => @Kept.mem d3 top3 E3 hK3 x
                have hEr3 : Env wr := HE3.out.fr hF9 (by have := HP.out; simp; omega)
                by_cases hjl : j < 3
                · have hput := Put_kept wr hEr3 v a b d3 (1 + r) top3 hV3 E3 hK3 ⟨#[109, 111, 114, 101]⟩ (by decide) (by omega) (by omega) (by rw [hr3]; show d3.used + ((4 : Nat) + 8) ≤ 262144; omega) (by omega)
                  have HN3 := Lib.hid (And.intro hne3 (And.intro ho3 (And.intro ht3 (And.intro hu3 (And.intro hr3 hf3)))))
                  have HPL := Lib.hid (And.intro hplace hmem3)
                  have HF9 := Lib.hid hF9
                  clear hne3 ho3 ht3 hu3 hr3 hf3 hplace hmem3 hF9 hV3 hK3 hEr3
                  go_wp2_with fail
                  refine hput.mono ?_
                  rintro e w10 ⟨d4, fl, at_, rfl, hpl, htp, hV4, hK4, hu4, hr4, hf4, hF10⟩
                  have hfo : ¬ fl = out := by
                    intro hh
                    have h1 := HPL.out.1.2.2.2
                    have h2 := congrArg Prod.fst hpl
                    simp only at h2
                    rw [← h2] at h1
                    rcases h1 with h1 | h1
                    · have := HN3.out.2.1; omega
                    · obtain ⟨e1, he1, he2⟩ := (HPL.out.2 _).1 h1
                      exact HN3.out.1 e1 he1 (he2.trans hh)
                  have hs4 : (⟨#[109, 111, 114, 101]⟩ : ByteArray).size = 4 := rfl
                  rw [hs4] at hu4
                  have HK4 := Lib.hid hK4
                  have HV4 := Lib.hid (hV4.fr ((Fr.refl [] w10).alloc (.cells #[.int .i64 fl, .int .i64 at_, .int .i64 4] 34)) (by simp) (by simp) (by simp))
                  have HF10 := Lib.hid ((HF9.out.trans hF10).alloc (.cells #[.int .i64 fl, .int .i64 at_, .int .i64 4] 34))
                  have HN4 := Lib.hid (And.intro hpl (And.intro htp (And.intro hu4 (And.intro hr4 hf4))))
                  clear hK4 hV4 hF10 hpl htp hu4 hr4 hf4 hput hs4
                  go_wp2
                  have hx3 := HN3.out
                  have hx4 := HN4.out
                  refine ⟨⟨j + 1, _, d4, max top3 fl, by simp, by omega, HK4.out, ?_, by omega, by omega, by omega, by omega, by omega, HV4.out, HF10.out⟩, by simp [intOf]; omega⟩
                  intro e he
                  rcases List.mem_append.1 he with he | he
                  · exact hx3.1 e he
                  · obtain rfl := List.mem_singleton.1 he
                    exact hfo
                · have HF9 := Lib.hid hF9
                  clear hplace hmem3 hF9 hV3 hK3 hEr3 hne3 ho3 ht3 hu3 hr3 hf3
                  go_wp2
                  go_ret
                  exact ⟨rfl, HF3.out.thenNew HF9.out (by have := HP.out; simp; omega)⟩
end Go.Proofs.YtljolihlhfabnaaGreatDoor
