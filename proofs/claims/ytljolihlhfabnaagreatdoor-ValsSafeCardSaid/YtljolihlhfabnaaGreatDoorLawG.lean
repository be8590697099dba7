/-
  THE LAW ValsSafe: the walk.
-/
import Derived.Test.YtljolihlhfabnaaGreatDoorLawE
import Derived.Test.YtljolihlhfabnaaGreatDoorGone
import Derived.Test.YtljolihlhfabnaaGreatDoorPlainG
import Derived.Deep.RegionHeld3
namespace Go.Proofs.YtljolihlhfabnaaGreatDoor
open Go Go.RowKit Go.Maps Go.Sort

set_option maxRecDepth 100000 in
set_option maxHeartbeats 4000000 in
theorem safe_any (w : World) (hE : Env w) (hB : lowB ≤ w.heap.size) (m : Int) (hm : -9223372036854775808 ≤ m ∧ m ≤ 9223372036854775807) (p : Option Addr) (n cap : Nat) (hn : n ≤ maxLen) (ss : Nat → ByteArray) (hT : TextsAt w p n ss)
    (sy : Int) (hsy : -9223372036854775808 ≤ sy ∧ sy ≤ 9223372036854775807) (pd : Option Addr) (nd cd : Nat) (hnd : nd ≤ cd ∧ cd ≤ maxLen) (zs : Nat → Int) (hz : IntsIn w [] pd nd zs) :
    Calls Tryz.prog 5 #[.int .i64 m, .slice p n cap, .agg #[.int .i64 sy, .slice pd nd cd]] w fun e w' => e = .returned (.bool true) ∧ Fr [] w w' := by
  have hF0 : Fr [] w (w.alloc (.cells #[.int .i64 sy, .slice pd nd cd] 47)) := (Fr.refl [] w).alloc _
  have hnew := new_ok (w.alloc (.cells #[.int .i64 sy, .slice pd nd cd] 47)) 262144 (by decide) (by decide)
  have hK0 := fresh_kept (room := 262144) (by decide)
  go_enter Tryz.func5, Tryz.ntmps5
  go_wp2_with fail
  refine hnew.mono ?_
  rintro e w1 ⟨a, b, rfl, hD, ha, hb, hF1⟩
  have ha' : w.heap.size ≤ a := by have := hF0.size; omega
  have hb' : w.heap.size ≤ b := by have := hF0.size; omega
  have hbx := hF1.blk (hpNew (w := w) rfl (.cells #[.int .i64 sy, .slice pd nd cd] 47)) (by simp)
  have hxa : w.heap.size < a ∧ w.heap.size < b := by simp at ha hb; omega
  have hF01 := hF0.trans hF1
  have hwk := works_ok w1 (hE.fr hF01 (by simp)) (by have := hF01.size; omega)
  clear hF0 hF1 hnew ha hb
  go_wp2_with fail
  refine hwk.mono ?_
  rintro e w2 ⟨rfl, hF2⟩
  have hF02 := hF01.trans hF2
  have hD2 := hD.fr hF2 (by simp) (by simp)
  have hbx2 := hF2.blk hbx (by simp)
  have ham := among_any m 200 hm (by decide) w2
  clear hF01 hF2 hD hwk hbx
  go_wp2_with fail
  refine ham.mono ?_
  rintro e w2' ⟨r, rfl, hr0, hr1, rfl⟩
  have hopen := Open_ok w2 (hE.fr hF02 (by simp)) a b (freshD 262144) (1 + r) hD2 (by omega) hK0.good hK0.calm (by omega)
  rw [(open_fresh 262144).1, (open_fresh 262144).2] at hopen
  clear hD2 ham
  go_wp2_with fail
  refine hopen.mono ?_
  rintro e w3 ⟨v, rfl, hv, hV, hF3⟩
  have hs2 := hF02.size
  have hF03 := hF02.thenNew hF3 (by simp; omega)
  have hvl := Lib.hid hV.lt
  have hbx3 := hF3.blk hbx2 (by simp; omega)
  obtain ⟨x0, x1, z0, z1⟩ := two_at hbx3
  have HBX := Lib.hid hbx3
  have HF3 := Lib.hid hF03
  have HE3 := Lib.hid (hE.fr hF03 (by simp))
  have HV := Lib.hid hV
  have HT := Lib.hid hT
  have HP := Lib.hid (show lowB ≤ v ∧ lowB ≤ a ∧ lowB ≤ b ∧ w.heap.size < v ∧ w.heap.size < a ∧ w.heap.size < b by have := (Array.getElem?_eq_some_iff.1 hbx2).1; omega)
  have hmany : ¬ ((4096 : Int) < nd) ∨ (4096 : Int) < nd := by omega
  clear hF02 hF3 hF03 hV hopen hT hv ha' hb' hs2 hbx3 hbx2 hxa
  rcases hmany with hmany | hmany
  · clear x0 x1 z0 z1
    have hS0 : Sure (freshD 262144) [] 0 := ⟨Nat.le_refl _, fun p hp => by simp [freshD] at hp, fun n _ _ => by simp [bodiesOf, ofFile, widthOf, freshD, getF, zeroF]⟩
    obtain ⟨x0, x1, z0, z1⟩ := two_at HBX.out
    go_wp2_with fail
    clear x0 x1 z0 z1
    go_loopw [10, 11, 12, 13] (fun uA uH uS i wr => ∃ (k : Nat) (E : List Ent) (d : DiskM) (top : Int) (sr : Nat), i = .int .i64 k ∧ k ≤ 40 ∧ k ≤ n ∧ E.length ≤ k ∧ uS = .int .i64 sr ∧ Sure d E sr ∧ Kept d top E ∧ top ≤ E.length ∧ d.used ≤ 1008 * E.length ∧ d.room = 262144 ∧ d.files.length ≤ E.length ∧
        ValsAt wr v a b d (1 + r) top ∧ wr.ownsRow w3.heap.size 34 3 uA E.length (placeCells (E.map placeE)) ∧ wr.ownsRow w3.heap.size 9 1 uH E.length (bodyCells E) ∧ Fr [v, a, b] w3 wr) (fun _ _ _ i _ => 40 - (intOf i).toNat)
    case atStart => exact ⟨0, [], _, 0, 0, rfl, by omega, by omega, Nat.le_refl _, rfl, hS0, hK0, by simp, by simp [freshD], rfl, by simp [freshD], HV.out, World.ownsRow_nil _ _ _ _, World.ownsRow_nil _ _ _ _, Fr.refl _ _⟩
    case round =>
      obtain ⟨k, E, d, top, sr, rfl, hk40, hkn, hEk, rfl, hSu, hK, hte, hused, hroom, hfl, hV, hA, hH, hF⟩ := hrel
      by_cases hgo : k < n ∧ k < 40
      · obtain ⟨hk1, hk2⟩ := hgo
        obtain ⟨q, rfl, hqb, hqc, hqs⟩ := HT.out k hk1
        have hqc' : wr.cell? (q.add k) = some (.string (ss k)) := by
          rw [hF.cell (p := q.add k) (by rw [add_block]; have := HF3.out.size; omega) (by rw [add_block]; have := HP.out; simp; omega), HF3.out.cell (p := q.add k) (by rw [add_block]; exact hqb) (by simp)]
          exact hqc
        have hEr : Env wr := HE3.out.fr hF (by have := HP.out; simp; omega)
        have hput := Put_sure wr hEr v a b d (1 + r) top hV E hK sr hSu (ss k)
        have HV1 := Lib.hid hV
        have HK := Lib.hid hK
        have HA := Lib.hid hA
        have HH := Lib.hid hH
        have HF := Lib.hid hF
        have HN := Lib.hid (And.intro hte (And.intro hused (And.intro hroom hfl)))
        have HSU := Lib.hid hSu
        clear hV hK hA hH hF hEr hte hused hroom hfl hSu
        by_cases hlong : (1000 : Int) < (ss k).size
        · clear hput
          go_wp2_with fail
          have hN := HN.out
          exact ⟨⟨k + 1, E, d, top, sr, by simp, by omega, by omega, by omega, rfl, HSU.out, HK.out, hN.1, hN.2.1, hN.2.2.1, hN.2.2.2, HV1.out, HA.out, HH.out, HF.out⟩, by simp [intOf]; omega⟩
        · have hput := hput (by omega) (by have := HN.out; omega) (by omega) (by have := HN.out; omega) (by have := HN.out; omega)
          have hput := Lib.hid hput
          go_wp2_with fail
          refine hput.out.mono ?_
          rintro e w4 ⟨d4, fl, at_, rfl, hpl, htp, hV4, hK4, hS4, hu4, hr4, hf4, hF4⟩
          have hfresh := fun e he => HK.out.fresh (1 + r) ((ss k).size : Int) e he
          rw [← hpl] at hfresh
          have hvl' := hvl.out
          have hA4 := own_fr HA.out hF4 (fun j hj => by have := (own_lt HA.out j hj).1; simp; omega)
          have hH4 := own_fr HH.out hF4 (fun j hj => by have := (own_lt HH.out j hj).1; simp; omega)
          have hF34 := HF.out.trans hF4
          have hqc4 : w4.cell? (q.add k) = some (.string (ss k)) := by
            rw [hF4.cell (p := q.add k) (by rw [add_block]; have := HF3.out.size; have := HF.out.size; omega) (by rw [add_block]; have := HP.out; simp; omega)]
            exact hqc'
          have hbp := hpNew (w := w4) rfl (.cells #[.int .i64 fl, .int .i64 at_, .int .i64 (ss k).size] 34)
          have hA5 := hA4.alloc (.cells #[.int .i64 fl, .int .i64 at_, .int .i64 (ss k).size] 34)
          have hH5 := hH4.alloc (.cells #[.int .i64 fl, .int .i64 at_, .int .i64 (ss k).size] 34)
          have hV5 := hV4.fr ((Fr.refl [] w4).alloc (.cells #[.int .i64 fl, .int .i64 at_, .int .i64 (ss k).size] 34)) (by simp) (by simp) (by simp)
          have hF5 := hF34.alloc (.cells #[.int .i64 fl, .int .i64 at_, .int .i64 (ss k).size] 34)
          have hqc5 : (w4.alloc (.cells #[.int .i64 fl, .int .i64 at_, .int .i64 (ss k).size] 34)).cell? (q.add k) = some (.string (ss k)) := by
            rw [((Fr.refl [] w4).alloc _).cell (p := q.add k) (by rw [add_block]; have := HF3.out.size; have := HF.out.size; have := hF4.size; omega) (by simp)]
            exact hqc4
          obtain ⟨pA, capA, rfl, hpA⟩ := row_form hA5
          have HPA := Lib.hid hpA
          have HFR := Lib.hid hfresh
          have hgA : ∀ j, (Value.slice pA E.length capA).ownBlock = some j → j < w4.heap.size := fun j hj => (own_lt hA4 j hj).2
          have HGA := Lib.hid hgA
          have HGH := Lib.hid (show ∀ j, u11.ownBlock = some j → j < w4.heap.size from fun j hj => (own_lt hH4 j hj).2)
          have hs34 := hF34.size
          clear hA4 hH4 hV4 hF34 hqc4 hqc' hF4 hpA hfresh hput HV1 HF HA HH hgA hvl'
          go_wp2_with fail
          generalize hw5 : w4.alloc (.cells #[.int .i64 fl, .int .i64 at_, .int .i64 (ss k).size] 34) = w5 at hbp hA5 hH5 hV5 hF5 hqc5 ⊢
          generalize hpb : w4.heap.size = pb at hbp HGA HGH ⊢
          have hpbw : pb < w5.heap.size := (Array.getElem?_eq_some_iff.1 hbp).1
          have hb35 : w3.heap.size ≤ pb := by rw [← hpb]; exact hs34
          clear hs34
          have HBP := Lib.hid hbp
          have HA5 := Lib.hid hA5
          have HH5 := Lib.hid hH5
          have HV5 := Lib.hid hV5
          have HF5 := Lib.hid hF5
          have HQ5 := Lib.hid hqc5
          clear hw5 hpb hbp hA5 hH5 hV5 hF5 hqc5
          have hA6 := own_below HA5.out (Fr.refl [] w5)
          have hH6 := own_below HH5.out (Fr.refl [] w5)
          have hV6 := HV5.out.fr (Fr.refl [] w5) (by simp) (by simp) (by simp)
          have hF36 := HF5.out.trans ((Fr.refl [v, a, b] w5))
          have hbp6 := (Fr.refl [] w5).blk HBP.out (by simp)
          have hs56 := (Fr.refl [] w5).size
          have hqc6 : w5.cell? (q.add k) = some (.string (ss k)) := by
            rw [(Fr.refl [] w5).cell (p := q.add k) (by rw [add_block]; have := HF3.out.size; have := HF5.out.size; omega) (by simp)]
            exact HQ5.out
          have hSn : ∀ j ∈ (Value.slice pA E.length capA).ownBlock.toList ++ u11.ownBlock.toList, w3.heap.size ≤ j ∧ j < pb := by
            intro j hj
            rcases List.mem_append.1 hj with hj | hj
            · have hj := Option.mem_toList.1 hj
              exact ⟨(own_lt HA5.out j hj).1, HGA.out j hj⟩
            · have hj := Option.mem_toList.1 hj
              exact ⟨(own_lt HH5.out j hj).1, HGH.out j hj⟩
          have hSA : ∀ j, (Value.slice pA E.length capA).ownBlock = some j → j ∈ (Value.slice pA E.length capA).ownBlock.toList ++ u11.ownBlock.toList ∨ w5.heap.size ≤ j := fun j hj => .inl (List.mem_append.2 (.inl (Option.mem_toList.2 hj)))
          have hSH : ∀ j, u11.ownBlock = some j → j ∈ (Value.slice pA E.length capA).ownBlock.toList ++ u11.ownBlock.toList ∨ w5.heap.size ≤ j := fun j hj => .inl (List.mem_append.2 (.inr (Option.mem_toList.2 hj)))
          have hw3l := HF3.out.size
          have hb3 : w3.heap.size ≤ w5.heap.size := by omega
          generalize (Value.slice pA E.length capA).ownBlock.toList ++ u11.ownBlock.toList = SB at hSn hSA hSH
          have hS : ∀ W, Fr SB w5 W → W.cell? ⟨pb, 0, none⟩ = some (.int .i64 fl) ∧ W.cell? ⟨pb, 1, none⟩ = some (.int .i64 at_) ∧ W.cell? ⟨pb, 2, none⟩ = some (.int .i64 (ss k).size) ∧ W.cell? (q.add k) = some (.string (ss k)) ∧ Fr SB w5 W := fun W f => by
            have hx : pb ∉ SB := fun hh => by have := hSn _ hh; omega
            have h3 := f.blk hbp6 hx
            exact ⟨(cell_at h3 0).trans rfl, (cell_at h3 1).trans rfl, (cell_at h3 2).trans rfl, (f.cell (p := q.add k) (by rw [add_block]; omega) (by rw [add_block]; intro hh; have := hSn _ hh; omega)).trans hqc6, f⟩
          have hX : ∀ W, (W.cell? ⟨pb, 0, none⟩ = some (.int .i64 fl) ∧ W.cell? ⟨pb, 1, none⟩ = some (.int .i64 at_) ∧ W.cell? ⟨pb, 2, none⟩ = some (.int .i64 (ss k).size) ∧ W.cell? (q.add k) = some (.string (ss k)) ∧ Fr SB w5 W) → Fr SB w5 W := fun W f => f.2.2.2.2
          have hHA := rows_apart hH6 hA6 (by decide)
          have HPBR := Lib.hid (show pb < w5.heap.size by omega)
          clear hs56 hw3l
          refine abs_act (fun A hA => ?_)
          have a8 : A.eval (.tmp 10) = .slice pA E.length capA := by rw [hA]; rfl
          have a9 : A.eval (.tmp 11) = u11 := by rw [hA]; rfl
          have a11 : A.eval (.tmp 14) = .pointer (some ⟨pb, 0, none⟩) := by rw [hA]; rfl
          have a1 : A.eval (.tmp 1) = .slice (some q) n cap := by rw [hA]; rfl
          have a10 : A.eval (.tmp 13) = .int .i64 k := by rw [hA]; rfl
          have asz : A.tmps.size = 164 := by rw [hA]; rfl
          have HK4 := Lib.hid hK4
          have HS4 := Lib.hid hS4
          have HV6 := Lib.hid hV6
          have HF36 := Lib.hid hF36
          have HN4 := Lib.hid (And.intro htp (And.intro hu4 (And.intro hr4 hf4)))
          have HPL := Lib.hid hpl
          clear hV6 hF36 hK4 hS4 htp hu4 hr4 hf4 hpl
          refine Code.wp_mono (Q := fun e a' W2 => e = .normal ∧ ∃ vA vH x y, W2.ownsRow w3.heap.size 34 3 vA (E.length + 1) (placeCells (E.map placeE) ++ [.int .i64 fl, .int .i64 at_, .int .i64 (ss k).size]) ∧ W2.ownsRow w3.heap.size 9 1 vH (E.length + 1) (bodyCells E ++ [.string (ss k)]) ∧ Fr SB w5 W2 ∧
            a' = ((((((((((((A.put (some 80) (.slice pA E.length capA)).put (some 81) (.agg #[.int .i64 fl, .int .i64 at_, .int .i64 (ss k).size])).put (some 84) u11).put (some 85) (.slice (some q) n cap)).put (some 86) (.int .i64 k)).put (some 87) (.pointer (some (q.add k)))).put (some 88) (.string (ss k))).put (some 82) x).put (some 83) vA).put (some 89) y).put (some 90) vH).put (some 10) vA).put (some 11) vH) ?_ ?_
          · rintro e a' W2 ⟨rfl, vA, vH, x, y, hA2, hH2, hC2, rfl⟩
            obtain ⟨pA2, capA2, rfl, hpA2⟩ := row_form hA2
            have hV7 := HV6.out.fr hC2 (fun hh => by have := hSn _ hh; have := hvl.out; omega) (fun hh => by have := hSn _ hh; have := hvl.out; omega) (fun hh => by have := hSn _ hh; have := hvl.out; omega)
            have hF37 := HF36.out.thenNew hC2 (fun x hx => .inr (hSn x hx).1)
            obtain ⟨x0, x1, z0, z1⟩ := two_at (hF37.blk HBX.out (by have := HP.out; simp; omega))
            have hA7 : W2.ownsRow w3.heap.size 34 3 (.slice pA2 (E.length + 1) capA2) (E ++ [(fl, at_, (ss k).data.toList)]).length (placeCells ((E ++ [(fl, at_, (ss k).data.toList)]).map placeE)) := by
              rw [placesE_snoc, List.length_append]; simpa using hA2
            have hH7 : W2.ownsRow w3.heap.size 9 1 vH (E ++ [(fl, at_, (ss k).data.toList)]).length (bodyCells (E ++ [(fl, at_, (ss k).data.toList)])) := by
              rw [bodyCells_snoc, List.length_append]; simpa [encStr] using hH2
            have HA7 := Lib.hid hA7
            have HH7 := Lib.hid hH7
            have HV7 := Lib.hid hV7
            have HF37 := Lib.hid hF37
            have HPA2 := Lib.hid hpA2
            have ham := among_any sy 40 hsy (by decide) W2
            subst hA
            simp only [Act.put, List.setIfInBounds_toArray, List.set_cons_zero, List.set_cons_succ]
            clear hA2 hH2 hC2 hpA2 hV7 hF37 hA7 hH7 hA6 hH6 hS hX hHA a8 a9 a11 a1 a10 asz hSn hSA hSH
            go_wp2_with fail
            refine ham.mono ?_
            rintro e W2' ⟨r2, rfl, hr20, hr21, rfl⟩
            have hEl : (E ++ [(fl, at_, (ss k).data.toList)]).length = E.length + 1 := by simp
            by_cases hkr : (k : Int) ≤ r2
            · have hKs := HK4.out.sync (by have := HN4.out; have := HN.out; omega)
              have hsy2 := sync_any W2 a b d4 HV7.out.disk HK4.out.good (by rw [HK4.out.calm.ready])
              have hne := HV7.out.ne
              have hu7 : ({ d4.ready.2 with files := syncF d4.files (fun _ => true) } : DiskM).used = d4.used ∧ ({ d4.ready.2 with files := syncF d4.files (fun _ => true) } : DiskM).room = d4.room ∧ ({ d4.ready.2 with files := syncF d4.files (fun _ => true) } : DiskM).files.length = d4.files.length := by
                rw [HK4.out.calm.ready]; exact ⟨rfl, rfl, by simp [syncF]⟩
              generalize ({ d4.ready.2 with files := syncF d4.files (fun _ => true) } : DiskM) = d5 at hKs hsy2 hu7
              have HU7 := Lib.hid hu7
              have HKS := Lib.hid hKs
              have HEL := Lib.hid hEl
              clear hu7 hKs hEl
              go_wp2_with fail
              refine hsy2.mono ?_
              rintro e w6 ⟨rfl, hD6, hF6⟩
              have hV8 : ValsAt w6 v a b d5 (1 + r) (max top fl) := ⟨hF6.blk HV7.out.blk (by simp; exact ⟨hne.1, hne.2.1⟩), hD6⟩
              have hA8 := own_fr HA7.out hF6 (fun j hj => by have := (own_lt HA7.out j hj).1; have := hvl.out; simp; omega)
              have hH8 := own_fr HH7.out hF6 (fun j hj => by have := (own_lt HH7.out j hj).1; have := hvl.out; simp; omega)
              have HV8 := Lib.hid hV8
              have HA8 := Lib.hid hA8
              have HH8 := Lib.hid hH8
              have HF8 := Lib.hid (HF37.out.trans (hF6.mono (T := [v, a, b]) (by simp)))
              clear hV8 hA8 hH8 hD6 hF6 hne
              go_wp2_with fail
              have h4 := HN4.out
              have h7 := HU7.out
              have h1 := HN.out
              have hEl := HEL.out
              refine ⟨⟨k + 1, E ++ [(fl, at_, (ss k).data.toList)], d5, max top fl, E.length + 1, by simp, by omega, by omega, by omega, by simp, by rw [← hEl]; exact HKS.out.2, HKS.out.1, by omega, by omega, by omega, by omega, HV8.out, HA8.out, HH8.out, HF8.out⟩, by simp [intOf]; omega⟩
            · have HEL := Lib.hid hEl
              clear hEl
              go_wp2_with fail
              have h4 := HN4.out
              have h1 := HN.out
              have hEl := HEL.out
              refine ⟨⟨k + 1, E ++ [(fl, at_, (ss k).data.toList)], d4, max top fl, sr, by simp, by omega, by omega, by omega, rfl, HS4.out, HK4.out, by omega, by omega, by omega, by omega, HV7.out, HA7.out, HH7.out, HF37.out⟩, by simp [intOf]; omega⟩
          · refine wp_region_held (S := fun W => W.cell? ⟨pb, 0, none⟩ = some (.int .i64 fl) ∧ W.cell? ⟨pb, 1, none⟩ = some (.int .i64 at_) ∧ W.cell? ⟨pb, 2, none⟩ = some (.int .i64 (ss k).size) ∧ W.cell? (q.add k) = some (.string (ss k)) ∧ Fr SB w5 W) (by kernel_rfl) ?_
            have hSd := hS _ (Fr.refl SB w5).drew
            refine take_d (fuel := 12) (i := 0) (v := .slice pA E.length capA) (some 80) rfl rfl (by kernel_rfl) (by kernel_rfl) (by kernel_rfl) (fun _ _ _ h => by cases h.1) (yield_move _ rfl rfl a8) hSd ?_
            refine take_d (fuel := 11) (i := 1) (v := .agg #[.int .i64 fl, .int .i64 at_, .int .i64 (ss k).size]) (some 81) rfl rfl (by kernel_rfl) (by kernel_rfl) (by kernel_rfl) (fun _ _ _ h => by cases h.1) (yield_load _ _ ⟨pb, 0, none⟩ rfl rfl (by simp [eval_put_ne, a11]) (fun W hW => ?_)) hSd ?_
            · obtain ⟨c0, c1, c2, _⟩ := hW
              simp [go_sem, c0, c1, c2]
            refine take_d (fuel := 10) (i := 4) (v := u11) (some 84) rfl rfl (by kernel_rfl) (by kernel_rfl) (by kernel_rfl) (fun _ _ _ h => by cases h.1) (yield_move _ rfl rfl (by simp [eval_put_ne, a9])) hSd ?_
            refine take_d (fuel := 9) (i := 5) (v := .slice (some q) n cap) (some 85) rfl rfl (by kernel_rfl) (by kernel_rfl) (by kernel_rfl) (fun _ _ _ h => by cases h.1) (yield_move _ rfl rfl (by simp [eval_put_ne, a1])) hSd ?_
            refine take_d (fuel := 8) (i := 6) (v := .int .i64 k) (some 86) rfl rfl (by kernel_rfl) (by kernel_rfl) (by kernel_rfl) (fun _ _ _ h => by cases h.1) (yield_move _ rfl rfl (by simp [eval_put_ne, a10])) hSd ?_
            refine take_d (fuel := 7) (i := 7) (v := .pointer (some (q.add k))) (some 87) rfl rfl (by kernel_rfl) (by kernel_rfl) (by kernel_rfl) (fun _ _ _ h => by cases h.1) (yield_index _ _ _ (.slice (some q) n cap) (.int .i64 k) rfl rfl (by simp [eval_put_ne, eval_put_eq, size_put, asz]) (by simp [eval_put_ne, eval_put_eq, size_put, asz]) (fun W hW => ?_)) hSd ?_
            · clear hW
              simp [go_sem]
              intro hle
              omega
            refine take_d (fuel := 6) (i := 8) (v := .string (ss k)) (some 88) rfl rfl (by kernel_rfl) (by kernel_rfl) (by kernel_rfl) (fun _ _ _ h => by cases h.1) (yield_load _ _ (q.add k) rfl rfl (by simp [eval_put_ne, eval_put_eq, size_put, asz]) (fun W hW => ?_)) hSd ?_
            · obtain ⟨_, _, _, c3, _⟩ := hW
              simp [go_sem, c3]
            refine wpAnyH_all (fuel := 5) (rs := [2, 9]) (by kernel_rfl) (by decide) ?_
            intro j hj
            simp only [List.mem_cons, List.not_mem_nil, or_false] at hj
            rcases hj with rfl | rfl
            · refine step_op rfl rfl (op_build _ _ (some 82) rfl rfl (.agg #[.int .i64 fl, .int .i64 at_, .int .i64 (ss k).size]) (.slice (some ⟨w5.heap.size, 0, none⟩) 1 1) (w5.drew.alloc (.cells #[.int .i64 fl, .int .i64 at_, .int .i64 (ss k).size] 34)) (by simp [eval_put_ne, eval_put_eq, size_put, asz]) (by simp [go_sem]) ⟨hS _ ((Fr.refl SB w5).drew.alloc _), ?_⟩)
              refine wpAnyH_all (fuel := 4) (rs := [3, 9]) (by kernel_rfl) (by decide) ?_
              intro j hj
              simp only [List.mem_cons, List.not_mem_nil, or_false] at hj
              rcases hj with rfl | rfl
              · refine step_op rfl rfl (opApp1 rfl (some 83) rfl _ _ 32 rfl w3.heap.size 34 (.agg #[.int .i64 0, .int .i64 0, .int .i64 0]) 3 24 Tryz.underlying32 infoPlace rfl (by decide) (by decide) (.slice pA E.length capA) E.length (placeCells (E.map placeE)) (by simp [eval_put_ne, eval_put_eq, size_put, asz]) (own_below hA6 ((Fr.refl [] w5).drew.alloc _)) (w5.heap.size) 1 [.int .i64 fl, .int .i64 at_, .int .i64 (ss k).size] (by simp [eval_put_ne, eval_put_eq, size_put, asz]) rfl (newsAt (hpNew (w := w5.drew) rfl _) rfl) (by simp [Value.oneCell']) (by omega) (leAlloc hb3 _) ?_)
                intro vA W1 hA1 hgA1
                have hC1 : Fr SB w5 W1 := ((Fr.refl SB w5).drew.alloc _).grown hgA1 hSA
                have hH1 := World.ownsRow.kept (own_below hH6 ((Fr.refl [] w5).drew.alloc _)) hgA1 hHA
                refine ⟨hS _ hC1, ?_⟩
                refine wpAnyH_all (fuel := 3) (rs := [9]) (by kernel_rfl) (by decide) ?_
                intro j hj
                obtain rfl := List.mem_singleton.1 hj
                refine step_op rfl rfl (op_build _ _ (some 89) rfl rfl (.string (ss k)) (.slice (some ⟨W1.heap.size, 0, none⟩) 1 1) (W1.alloc (.cells #[.string (ss k)] 9)) (by simp [eval_put_ne, eval_put_eq, size_put, asz]) (by simp [go_sem]) ⟨hS _ (hC1.alloc _), ?_⟩)
                refine wpAnyH_all (fuel := 2) (rs := [10]) (by kernel_rfl) (by decide) ?_
                intro j hj
                obtain rfl := List.mem_singleton.1 hj
                refine step_op rfl rfl (opApp1 rfl (some 90) rfl _ _ 22 rfl w3.heap.size 9 (.string ⟨#[]⟩) 1 16 Tryz.underlying22 infoStr rfl (by decide) (by decide) u11 E.length (bodyCells E) (by simp [eval_put_ne, eval_put_eq, size_put, asz]) (hH1.alloc _) (W1.heap.size) 1 [.string (ss k)] (by simp [eval_put_ne, eval_put_eq, size_put, asz]) rfl (newsAt (hpNew rfl _) rfl) (by simp [Value.oneCell']) (by omega) (leAlloc (Nat.le_trans hb3 hC1.size) _) ?_)
                intro vH W2 hH2 hgH2
                have hC2 : Fr SB w5 W2 := (hC1.alloc _).grown hgH2 hSH
                have hA2 := World.ownsRow.kept (hA1.alloc _) hgH2 (rows_apart hA1 hH1 (by decide))
                refine ⟨hS _ hC2, ?_⟩
                refine take_d (fuel := 1) (i := 11) (v := vA) (some 10) rfl rfl (by kernel_rfl) (by kernel_rfl) (by kernel_rfl) (fun _ _ _ h => by cases h.1) (yield_assign _ rfl rfl (by simp [eval_put_ne, eval_put_eq, size_put, asz])) (hS _ hC2) ?_
                refine take_d (fuel := 0) (i := 12) (v := vH) (some 11) rfl rfl (by kernel_rfl) (by kernel_rfl) (by kernel_rfl) (fun _ _ _ h => by cases h.1) (yield_assign _ rfl rfl (by simp [eval_put_ne, eval_put_eq, size_put, asz])) (hS _ hC2) ?_
                refine wpAnyH_done (by kernel_rfl) ?_ _
                exact ⟨rfl, vA, vH, .slice (some ⟨w5.heap.size, 0, none⟩) 1 1, .slice (some ⟨W1.heap.size, 0, none⟩) 1 1, hA2, hH2, hC2, rfl⟩
              · refine step_op rfl rfl (op_build _ _ (some 89) rfl rfl (.string (ss k)) (.slice (some ⟨w5.heap.size + 1, 0, none⟩) 1 1) ((w5.drew.alloc (.cells #[.int .i64 fl, .int .i64 at_, .int .i64 (ss k).size] 34)).alloc (.cells #[.string (ss k)] 9)) (by simp [eval_put_ne, eval_put_eq, size_put, asz]) (by simp [go_sem]) ⟨hS _ (((Fr.refl SB w5).drew.alloc _).alloc _), ?_⟩)
                refine wpAnyH_all (fuel := 3) (rs := [3]) (by kernel_rfl) (by decide) ?_
                intro j hj
                obtain rfl := List.mem_singleton.1 hj
                refine step_op rfl rfl (opApp1 rfl (some 83) rfl _ _ 32 rfl w3.heap.size 34 (.agg #[.int .i64 0, .int .i64 0, .int .i64 0]) 3 24 Tryz.underlying32 infoPlace rfl (by decide) (by decide) (.slice pA E.length capA) E.length (placeCells (E.map placeE)) (by simp [eval_put_ne, eval_put_eq, size_put, asz]) (own_below hA6 (((Fr.refl [] w5).drew.alloc _).alloc _)) (w5.heap.size) 1 [.int .i64 fl, .int .i64 at_, .int .i64 (ss k).size] (by simp [eval_put_ne, eval_put_eq, size_put, asz]) rfl (newsAt (hpOld (hpNew (w := w5.drew) rfl _) _) rfl) (by simp [Value.oneCell']) (by omega) (leAlloc (leAlloc hb3 _) _) ?_)
                intro vA W1 hA1 hgA1
                have hC1 : Fr SB w5 W1 := (((Fr.refl SB w5).drew.alloc _).alloc _).grown hgA1 hSA
                have hH1 := World.ownsRow.kept (own_below hH6 (((Fr.refl [] w5).drew.alloc _).alloc _)) hgA1 hHA
                have hbS := (hgA1.block (w5.heap.size + 1) (by rw [szDAA]; omega) (fun e => by have := HGA.out _ e.symm; have := HPBR.out; omega)).trans (hpNew (w := (w5.drew.alloc (.cells #[.int .i64 fl, .int .i64 at_, .int .i64 (ss k).size] 34))) (n := w5.heap.size + 1) (szDA _ _) (.cells #[.string (ss k)] 9))
                refine ⟨hS _ hC1, ?_⟩
                refine wpAnyH_all (fuel := 2) (rs := [10]) (by kernel_rfl) (by decide) ?_
                intro j hj
                obtain rfl := List.mem_singleton.1 hj
                refine step_op rfl rfl (opApp1 rfl (some 90) rfl _ _ 22 rfl w3.heap.size 9 (.string ⟨#[]⟩) 1 16 Tryz.underlying22 infoStr rfl (by decide) (by decide) u11 E.length (bodyCells E) (by simp [eval_put_ne, eval_put_eq, size_put, asz]) (hH1) (w5.heap.size + 1) 1 [.string (ss k)] (by simp [eval_put_ne, eval_put_eq, size_put, asz]) rfl (newsAt (hbS) rfl) (by simp [Value.oneCell']) (by omega) (Nat.le_trans hb3 hC1.size) ?_)
                intro vH W2 hH2 hgH2
                have hC2 : Fr SB w5 W2 := (hC1).grown hgH2 hSH
                have hA2 := World.ownsRow.kept (hA1) hgH2 (rows_apart hA1 hH1 (by decide))
                refine ⟨hS _ hC2, ?_⟩
                refine take_d (fuel := 1) (i := 11) (v := vA) (some 10) rfl rfl (by kernel_rfl) (by kernel_rfl) (by kernel_rfl) (fun _ _ _ h => by cases h.1) (yield_assign _ rfl rfl (by simp [eval_put_ne, eval_put_eq, size_put, asz])) (hS _ hC2) ?_
                refine take_d (fuel := 0) (i := 12) (v := vH) (some 11) rfl rfl (by kernel_rfl) (by kernel_rfl) (by kernel_rfl) (fun _ _ _ h => by cases h.1) (yield_assign _ rfl rfl (by simp [eval_put_ne, eval_put_eq, size_put, asz])) (hS _ hC2) ?_
                refine wpAnyH_done (by kernel_rfl) ?_ _
                exact ⟨rfl, vA, vH, .slice (some ⟨w5.heap.size, 0, none⟩) 1 1, .slice (some ⟨w5.heap.size + 1, 0, none⟩) 1 1, hA2, hH2, hC2, by rw [put_comm _ 89 83 _ _ (by decide)]⟩
            · refine step_op rfl rfl (op_build _ _ (some 89) rfl rfl (.string (ss k)) (.slice (some ⟨w5.heap.size, 0, none⟩) 1 1) (w5.drew.alloc (.cells #[.string (ss k)] 9)) (by simp [eval_put_ne, eval_put_eq, size_put, asz]) (by simp [go_sem]) ⟨hS _ ((Fr.refl SB w5).drew.alloc _), ?_⟩)
              refine wpAnyH_all (fuel := 4) (rs := [2]) (by kernel_rfl) (by decide) ?_
              intro j hj
              obtain rfl := List.mem_singleton.1 hj
              refine step_op rfl rfl (op_build _ _ (some 82) rfl rfl (.agg #[.int .i64 fl, .int .i64 at_, .int .i64 (ss k).size]) (.slice (some ⟨w5.heap.size + 1, 0, none⟩) 1 1) ((w5.drew.alloc (.cells #[.string (ss k)] 9)).alloc (.cells #[.int .i64 fl, .int .i64 at_, .int .i64 (ss k).size] 34)) (by simp [eval_put_ne, eval_put_eq, size_put, asz]) (by simp [go_sem]) ⟨hS _ (((Fr.refl SB w5).drew.alloc _).alloc _), ?_⟩)
              refine wpAnyH_all (fuel := 3) (rs := [3]) (by kernel_rfl) (by decide) ?_
              intro j hj
              obtain rfl := List.mem_singleton.1 hj
              refine step_op rfl rfl (opApp1 rfl (some 83) rfl _ _ 32 rfl w3.heap.size 34 (.agg #[.int .i64 0, .int .i64 0, .int .i64 0]) 3 24 Tryz.underlying32 infoPlace rfl (by decide) (by decide) (.slice pA E.length capA) E.length (placeCells (E.map placeE)) (by simp [eval_put_ne, eval_put_eq, size_put, asz]) (own_below hA6 (((Fr.refl [] w5).drew.alloc _).alloc _)) (w5.heap.size + 1) 1 [.int .i64 fl, .int .i64 at_, .int .i64 (ss k).size] (by simp [eval_put_ne, eval_put_eq, size_put, asz]) rfl (newsAt (hpNew (w := (w5.drew.alloc (.cells #[.string (ss k)] 9))) (n := w5.heap.size + 1) (szDA _ _) _) rfl) (by simp [Value.oneCell']) (by omega) (leAlloc (leAlloc hb3 _) _) ?_)
              intro vA W1 hA1 hgA1
              have hC1 : Fr SB w5 W1 := (((Fr.refl SB w5).drew.alloc _).alloc _).grown hgA1 hSA
              have hH1 := World.ownsRow.kept (own_below hH6 (((Fr.refl [] w5).drew.alloc _).alloc _)) hgA1 hHA
              have hbS := (hgA1.block (w5.heap.size) (by rw [szDAA]; omega) (fun e => by have := HGA.out _ e.symm; have := HPBR.out; omega)).trans (hpOld (hpNew (w := w5.drew) rfl (.cells #[.string (ss k)] 9)) _)
              refine ⟨hS _ hC1, ?_⟩
              refine wpAnyH_all (fuel := 2) (rs := [10]) (by kernel_rfl) (by decide) ?_
              intro j hj
              obtain rfl := List.mem_singleton.1 hj
              refine step_op rfl rfl (opApp1 rfl (some 90) rfl _ _ 22 rfl w3.heap.size 9 (.string ⟨#[]⟩) 1 16 Tryz.underlying22 infoStr rfl (by decide) (by decide) u11 E.length (bodyCells E) (by simp [eval_put_ne, eval_put_eq, size_put, asz]) (hH1) (w5.heap.size) 1 [.string (ss k)] (by simp [eval_put_ne, eval_put_eq, size_put, asz]) rfl (newsAt (hbS) rfl) (by simp [Value.oneCell']) (by omega) (Nat.le_trans hb3 hC1.size) ?_)
              intro vH W2 hH2 hgH2
              have hC2 : Fr SB w5 W2 := (hC1).grown hgH2 hSH
              have hA2 := World.ownsRow.kept (hA1) hgH2 (rows_apart hA1 hH1 (by decide))
              refine ⟨hS _ hC2, ?_⟩
              refine take_d (fuel := 1) (i := 11) (v := vA) (some 10) rfl rfl (by kernel_rfl) (by kernel_rfl) (by kernel_rfl) (fun _ _ _ h => by cases h.1) (yield_assign _ rfl rfl (by simp [eval_put_ne, eval_put_eq, size_put, asz])) (hS _ hC2) ?_
              refine take_d (fuel := 0) (i := 12) (v := vH) (some 11) rfl rfl (by kernel_rfl) (by kernel_rfl) (by kernel_rfl) (fun _ _ _ h => by cases h.1) (yield_assign _ rfl rfl (by simp [eval_put_ne, eval_put_eq, size_put, asz])) (hS _ hC2) ?_
              refine wpAnyH_done (by kernel_rfl) ?_ _
              exact ⟨rfl, vA, vH, .slice (some ⟨w5.heap.size + 1, 0, none⟩) 1 1, .slice (some ⟨w5.heap.size, 0, none⟩) 1 1, hA2, hH2, hC2, by rw [put_comm _ 89 82 _ _ (by decide), put_comm _ 89 83 _ _ (by decide)]⟩
      · have hEr : Env wr := HE3.out.fr hF (by have := HP.out; simp; omega)
        have hcr := crash_any wr a b d hV.disk hK.good hSu.whole pd nd cd (by omega) hnd.1 zs (ints_to hz HF3.out hF HP.out.2.2.2)
        obtain ⟨pA, capA, rfl, hpA⟩ := row_form hA
        obtain ⟨pH, capH, rfl, hpH⟩ := row_form hH
        obtain ⟨x0, x1, z0, z1⟩ := two_at (hF.blk HBX.out (by have := HP.out; simp; omega))
        have hE40 : E.length ≤ 40 := by omega
        have hgo' : ¬ ((k : Int) < n ∧ (k : Int) < 40) := by omega
        have HGO := Lib.hid hgo'
        have HPA := Lib.hid hpA
        have HPH := Lib.hid hpH
        have HV1 := Lib.hid hV
        have HK := Lib.hid hK
        have HS1 := Lib.hid hSu
        have HA := Lib.hid hA
        have HH := Lib.hid hH
        have HF := Lib.hid hF
        have HER := Lib.hid hEr
        have HZ := Lib.hid hz
        clear hV hK hA hH hF hEr hte hused hroom hfl hgo' hpA hpH hSu hz
        have hexit : (k : Int) < n → ¬ (k : Int) < 40 := fun h1 h2 => HGO.out ⟨h1, h2⟩
        by_cases hkn1 : (k : Int) < n
        · have hk40' := hexit hkn1
          clear hexit hgo
          go_wp2_with fail
          refine hcr.mono ?_
          rintro e w5 ⟨d1, mm, rfl, hD5, hG5, hC5, hr5, hf5, hm5, hF5⟩
          have hE5 : Env w5 := HER.out.fr hF5 (by have := HP.out; simp; omega)
          have hopen := fun (r2 : Int) (h : 0 ≤ r2 ∧ r2 < 200) => Open_ok w5 hE5 a b d1 (1 + r2) hD5 (by have := HP.out; omega) hG5 hC5 (by omega)
          obtain ⟨c, hOG, hpl⟩ := safe_plain HK.out HS1.out hG5 hC5 mm hf5 hm5
          have ham2 := among_any m 200 hm (by decide) w5
          generalize mendAll d1 (numbersF d1.files) = dO at hopen hOG hpl
          generalize lastOr 0 (numbersF d1.files) = tO at hopen
          have HOG := Lib.hid hOG
          have HPL := Lib.hid hpl
          have HOP := Lib.hid hopen
          have HE5 := Lib.hid hE5
          have HA5 := Lib.hid (own_fr HA.out hF5 (fun j hj => by have := (own_lt HA.out j hj).1; have := hvl.out; simp; omega))
          have HH5 := Lib.hid (own_fr HH.out hF5 (fun j hj => by have := (own_lt HH.out j hj).1; have := hvl.out; simp; omega))
          have HF5 := Lib.hid (HF.out.trans (hF5.mono (T := [v, a, b]) (by simp)))
          clear hOG hpl hopen hE5 hF5 hr5 hf5 hm5 hD5 hG5 hC5 hcr HV1 HA HH HF HER x0 x1 z0 z1
          go_wp2_with fail
          refine ham2.mono ?_
          rintro e w5' ⟨r2, rfl, hr20, hr21, rfl⟩
          have hopen := HOP.out r2 ⟨hr20, hr21⟩
          have hmm := @run_makeMap Tryz.prog
          go_wp2_with fail
          refine hopen.mono ?_
          rintro e w6 ⟨v2, rfl, hv2, hV6, hF6⟩
          have hs6 := HF5.out.size
          have hs65 := hF6.size
          have hlt6 := hV6.lt
          have hVO := hV6.fr ((Fr.refl [] w6).alloc (.map #[] 0)) (by simp) (by simp) (by simp)
          have hEO := (HE5.out.fr hF6 (by have := HP.out; simp; omega)).fr ((Fr.refl [] w6).alloc (.map #[] 0)) (by simp)
          have hAO := (own_fr HA5.out hF6 (fun j hj => by have := (own_lt HA5.out j hj).1; have := hvl.out; simp; omega))
          have hHO := (own_fr HH5.out hF6 (fun j hj => by have := (own_lt HH5.out j hj).1; have := hvl.out; simp; omega))
          have HAL := Lib.hid (show ∀ j, (Value.slice pA E.length capA).ownBlock = some j → j < w6.heap.size from fun j hj => (own_lt hAO j hj).2)
          have HHL := Lib.hid (show ∀ j, (Value.slice pH E.length capH).ownBlock = some j → j < w6.heap.size from fun j hj => (own_lt hHO j hj).2)
          have HAO := Lib.hid (own_below hAO ((Fr.refl [] w6).alloc (.map #[] 0)))
          have HHO := Lib.hid (own_below hHO ((Fr.refl [] w6).alloc (.map #[] 0)))
          have HVO := Lib.hid hVO
          have HEO := Lib.hid hEO
          have HFO := Lib.hid (((HF5.out.trans (hF6.mono (T := [v, a, b]) (by simp))).alloc (.map #[] 0)))
          have hG0 := GoneAt.made w6
          have HLW := Lib.hid (show v2 < w6.heap.size ∧ a < w6.heap.size ∧ b < w6.heap.size ∧ lowB ≤ w6.heap.size ∧ w3.heap.size ≤ w6.heap.size from by have := HP.out; omega)
          clear hVO hEO hAO hHO hV6 hF6 hopen hs6 hs65 hlt6 hv2
          go_wp2_with fail
          have HM := Lib.hid hmm
          clear hmm
          generalize hgm : w6.heap.size = gm at HAL HHL HLW hG0 ⊢
          generalize w6.alloc (.map #[] 0) = w7 at HAO HHO HVO HEO HFO hG0 ⊢
          clear hgm
          go_loopw [122] (fun i wr4 => ∃ j : Nat, i = .int .i64 j ∧ j ≤ E.length ∧ GoneAt wr4 gm j (lostOf E c j) ∧ Fr [gm] w7 wr4) (fun i _ => E.length - (intOf i).toNat)
          case atStart => exact ⟨0, rfl, Nat.zero_le _, hG0, Fr.refl _ _⟩
          case round =>
            obtain ⟨j, rfl, hj, hG8, hF8⟩ := hrel
            by_cases hjl : j < E.length
            · obtain ⟨gA, rfl⟩ := HPA.out (by omega)
              obtain ⟨gH, rfl⟩ := HPH.out (by omega)
              have hem : E[j] ∈ E := List.getElem_mem hjl
              have hcs := placeCells_at (E.map placeE) j (by simpa using hjl)
              rw [Nat.mul_comm 3 j] at hcs
              have hA8 := own_fr HAO.out hF8 (fun j hj => by have := HAL.out j hj; simp; omega)
              have k0 := (hA8.cellAt (j * 3) (by omega)).trans hcs.1
              have k1 := (hA8.cellAt (j * 3 + 1) (by omega)).trans hcs.2.1
              have k2 := (hA8.cellAt (j * 3 + 2) (by omega)).trans hcs.2.2
              have hbc : (bodyCells E)[j]? = some (.string ⟨E[j].2.2.toArray⟩) := by simp [bodyCells, encStr, hjl]
              simp only [List.getElem_map, placeE] at k0 k1 k2
              have hnm : 1 ≤ E[j].1 ∧ E[j].1 ≤ 1048576 := by
                have h1 := HK.out.nums _ hem
                have h2 := HK.out.top0
                omega
              have hpj := HPL.out j hjl
              have hget := fun W (f : Fr [gm] w7 W) => Get_any W (HEO.out.fr f (by have := HLW.out; simp; omega)) v2 a b dO (1 + r2) tO (HVO.out.fr f (by have := HLW.out; simp; omega) (by have := HLW.out; simp; omega) (by have := HLW.out; simp; omega)) HOG.out E[j].1 E[j].2.1 (E[j].2.2.length : Int) (by omega) (by omega) hpj.1
              rw [hpj.2.1] at hget
              have hgs := hpj.2.2
              by_cases hgot : rankE E j E[j].1 < c E[j].1
              · have hl0 := lost_got E c hjl hgot
                have hls := lost_got_succ E c hjl hgot
                rw [if_pos hgot] at hget
                clear hem hcs hA8 hpj hgot hgs
                simp only at hget
                generalize E[j] = en at k0 k1 k2 hbc hnm hget hl0
                obtain ⟨x, y, bd⟩ := en
                simp only at k0 k1 k2 hbc hnm hget hl0
                have HBC := Lib.hid hbc
                have HF8 := Lib.hid hF8
                have HG8 := Lib.hid hG8
                have HL0 := Lib.hid hl0
                have HLS := Lib.hid hls
                clear hbc hF8 hG8 hl0 hls
                by_cases hsr : (j : Int) < sr
                all_goals
                  go_wp2_with fail
                  refine (hget _ (HF8.out.alloc _)).mono ?_
                  rintro e w9 ⟨rfl, hF9⟩
                  obtain ⟨p0, p1, p2, q0, q1, q2⟩ := three_at (hF9.blk (hpNew rfl (.cells #[.int .i64 x, .int .i64 y, .int .i64 bd.length] 34)) (by simp))
                  have hF79 := (HF8.out.alloc (.cells #[.int .i64 x, .int .i64 y, .int .i64 bd.length] 34)).trans (hF9.mono (by simp))
                  have hh9 := ((own_fr HHO.out hF79 (fun j hj => by have := HHL.out j hj; simp; omega)).cellAt j (by omega)).trans HBC.out
                  have hG9 := (HG8.out.fr ((Fr.refl [] wr).alloc (.cells #[.int .i64 x, .int .i64 y, .int .i64 bd.length] 34)) (by simp)).fr hF9 (by simp)
                  have hlk := hG9.look (n := x) (by omega) (by omega)
                  rw [HL0.out] at hlk
                  have HF9 := Lib.hid hF79
                  have HG9 := Lib.hid hG9
                  clear hF9 hF79 k0 k1 k2 hget hG9
                  go_wp2
                  exact ⟨⟨j + 1, by simp, by omega, by rw [HLS.out]; exact HG9.out.mono (Nat.le_succ j), HF9.out⟩, by simp [intOf]; omega⟩
              · have hsr : ¬ (j : Int) < sr := fun hh => hgot (hgs (by omega))
                have hls := lost_not_succ E c hjl hgot
                rw [if_neg hgot] at hget
                clear hem hcs hA8 hpj hgot hgs
                simp only at hget
                generalize E[j] = en at k0 k1 k2 hbc hnm hget hls
                obtain ⟨x, y, bd⟩ := en
                simp only at k0 k1 k2 hbc hnm hget hls
                have HF8 := Lib.hid hF8
                have HG8 := Lib.hid hG8
                have HLS := Lib.hid hls
                clear hbc hF8 hG8 hls
                go_wp2_with fail
                refine (hget _ (HF8.out.alloc _)).mono ?_
                rintro e w9 ⟨rfl, hF9⟩
                obtain ⟨p0, p1, p2, q0, q1, q2⟩ := three_at (hF9.blk (hpNew rfl (.cells #[.int .i64 x, .int .i64 y, .int .i64 bd.length] 34)) (by simp))
                have hF79 := (HF8.out.alloc (.cells #[.int .i64 x, .int .i64 y, .int .i64 bd.length] 34)).trans (hF9.mono (by simp))
                have hG9 := (HG8.out.fr ((Fr.refl [] wr).alloc (.cells #[.int .i64 x, .int .i64 y, .int .i64 bd.length] 34)) (by simp)).fr hF9 (by simp)
                obtain ⟨w10, hst, hG10, hg10⟩ := hG9.mark (by unfold maxLen; omega) (n := x) (by omega) (by omega)
                have HF9 := Lib.hid (hF79.grown hg10 (fun k hk => by cases hk; simp))
                have HG9 := Lib.hid hG10
                clear hF9 hF79 k0 k1 k2 hget hG9 hG10 hg10
                go_wp2
                exact ⟨⟨j + 1, by simp, by omega, by rw [HLS.out]; exact HG9.out, HF9.out⟩, by simp [intOf]; omega⟩
            · have hjE : j = E.length := by omega
              subst hjE
              have HF8 := Lib.hid hF8
              clear hF8 hG8
              go_wp2
              go_ret
              exact ⟨rfl, HF3.out.thenNew (HFO.out.thenNew HF8.out (by have := HLW.out; simp; omega)) (by have := HP.out; simp; omega)⟩
        · clear hexit hgo
          go_wp2_with fail
          refine hcr.mono ?_
          rintro e w5 ⟨d1, mm, rfl, hD5, hG5, hC5, hr5, hf5, hm5, hF5⟩
          have hE5 : Env w5 := HER.out.fr hF5 (by have := HP.out; simp; omega)
          have hopen := fun (r2 : Int) (h : 0 ≤ r2 ∧ r2 < 200) => Open_ok w5 hE5 a b d1 (1 + r2) hD5 (by have := HP.out; omega) hG5 hC5 (by omega)
          obtain ⟨c, hOG, hpl⟩ := safe_plain HK.out HS1.out hG5 hC5 mm hf5 hm5
          have ham2 := among_any m 200 hm (by decide) w5
          generalize mendAll d1 (numbersF d1.files) = dO at hopen hOG hpl
          generalize lastOr 0 (numbersF d1.files) = tO at hopen
          have HOG := Lib.hid hOG
          have HPL := Lib.hid hpl
          have HOP := Lib.hid hopen
          have HE5 := Lib.hid hE5
          have HA5 := Lib.hid (own_fr HA.out hF5 (fun j hj => by have := (own_lt HA.out j hj).1; have := hvl.out; simp; omega))
          have HH5 := Lib.hid (own_fr HH.out hF5 (fun j hj => by have := (own_lt HH.out j hj).1; have := hvl.out; simp; omega))
          have HF5 := Lib.hid (HF.out.trans (hF5.mono (T := [v, a, b]) (by simp)))
          clear hOG hpl hopen hE5 hF5 hr5 hf5 hm5 hD5 hG5 hC5 hcr HV1 HA HH HF HER x0 x1 z0 z1
          go_wp2_with fail
          refine ham2.mono ?_
          rintro e w5' ⟨r2, rfl, hr20, hr21, rfl⟩
          have hopen := HOP.out r2 ⟨hr20, hr21⟩
          have hmm := @run_makeMap Tryz.prog
          go_wp2_with fail
          refine hopen.mono ?_
          rintro e w6 ⟨v2, rfl, hv2, hV6, hF6⟩
          have hs6 := HF5.out.size
          have hs65 := hF6.size
          have hlt6 := hV6.lt
          have hVO := hV6.fr ((Fr.refl [] w6).alloc (.map #[] 0)) (by simp) (by simp) (by simp)
          have hEO := (HE5.out.fr hF6 (by have := HP.out; simp; omega)).fr ((Fr.refl [] w6).alloc (.map #[] 0)) (by simp)
          have hAO := (own_fr HA5.out hF6 (fun j hj => by have := (own_lt HA5.out j hj).1; have := hvl.out; simp; omega))
          have hHO := (own_fr HH5.out hF6 (fun j hj => by have := (own_lt HH5.out j hj).1; have := hvl.out; simp; omega))
          have HAL := Lib.hid (show ∀ j, (Value.slice pA E.length capA).ownBlock = some j → j < w6.heap.size from fun j hj => (own_lt hAO j hj).2)
          have HHL := Lib.hid (show ∀ j, (Value.slice pH E.length capH).ownBlock = some j → j < w6.heap.size from fun j hj => (own_lt hHO j hj).2)
          have HAO := Lib.hid (own_below hAO ((Fr.refl [] w6).alloc (.map #[] 0)))
          have HHO := Lib.hid (own_below hHO ((Fr.refl [] w6).alloc (.map #[] 0)))
          have HVO := Lib.hid hVO
          have HEO := Lib.hid hEO
          have HFO := Lib.hid (((HF5.out.trans (hF6.mono (T := [v, a, b]) (by simp))).alloc (.map #[] 0)))
          have hG0 := GoneAt.made w6
          have HLW := Lib.hid (show v2 < w6.heap.size ∧ a < w6.heap.size ∧ b < w6.heap.size ∧ lowB ≤ w6.heap.size ∧ w3.heap.size ≤ w6.heap.size from by have := HP.out; omega)
          clear hVO hEO hAO hHO hV6 hF6 hopen hs6 hs65 hlt6 hv2
          go_wp2_with fail
          have HM := Lib.hid hmm
          clear hmm
          generalize hgm : w6.heap.size = gm at HAL HHL HLW hG0 ⊢
          generalize w6.alloc (.map #[] 0) = w7 at HAO HHO HVO HEO HFO hG0 ⊢
          clear hgm
          go_loopw [122] (fun i wr4 => ∃ j : Nat, i = .int .i64 j ∧ j ≤ E.length ∧ GoneAt wr4 gm j (lostOf E c j) ∧ Fr [gm] w7 wr4) (fun i _ => E.length - (intOf i).toNat)
          case atStart => exact ⟨0, rfl, Nat.zero_le _, hG0, Fr.refl _ _⟩
          case round =>
            obtain ⟨j, rfl, hj, hG8, hF8⟩ := hrel
            by_cases hjl : j < E.length
            · obtain ⟨gA, rfl⟩ := HPA.out (by omega)
              obtain ⟨gH, rfl⟩ := HPH.out (by omega)
              have hem : E[j] ∈ E := List.getElem_mem hjl
              have hcs := placeCells_at (E.map placeE) j (by simpa using hjl)
              rw [Nat.mul_comm 3 j] at hcs
              have hA8 := own_fr HAO.out hF8 (fun j hj => by have := HAL.out j hj; simp; omega)
              have k0 := (hA8.cellAt (j * 3) (by omega)).trans hcs.1
              have k1 := (hA8.cellAt (j * 3 + 1) (by omega)).trans hcs.2.1
              have k2 := (hA8.cellAt (j * 3 + 2) (by omega)).trans hcs.2.2
              have hbc : (bodyCells E)[j]? = some (.string ⟨E[j].2.2.toArray⟩) := by simp [bodyCells, encStr, hjl]
              simp only [List.getElem_map, placeE] at k0 k1 k2
              have hnm : 1 ≤ E[j].1 ∧ E[j].1 ≤ 1048576 := by
                have h1 := HK.out.nums _ hem
                have h2 := HK.out.top0
                omega
              have hpj := HPL.out j hjl
              have hget := fun W (f : Fr [gm] w7 W) => Get_any W (HEO.out.fr f (by have := HLW.out; simp; omega)) v2 a b dO (1 + r2) tO (HVO.out.fr f (by have := HLW.out; simp; omega) (by have := HLW.out; simp; omega) (by have := HLW.out; simp; omega)) HOG.out E[j].1 E[j].2.1 (E[j].2.2.length : Int) (by omega) (by omega) hpj.1
              rw [hpj.2.1] at hget
              have hgs := hpj.2.2
              by_cases hgot : rankE E j E[j].1 < c E[j].1
              · have hl0 := lost_got E c hjl hgot
                have hls := lost_got_succ E c hjl hgot
                rw [if_pos hgot] at hget
                clear hem hcs hA8 hpj hgot hgs
                simp only at hget
                generalize E[j] = en at k0 k1 k2 hbc hnm hget hl0
                obtain ⟨x, y, bd⟩ := en
                simp only at k0 k1 k2 hbc hnm hget hl0
                have HBC := Lib.hid hbc
                have HF8 := Lib.hid hF8
                have HG8 := Lib.hid hG8
                have HL0 := Lib.hid hl0
                have HLS := Lib.hid hls
                clear hbc hF8 hG8 hl0 hls
                by_cases hsr : (j : Int) < sr
                all_goals
                  go_wp2_with fail
                  refine (hget _ (HF8.out.alloc _)).mono ?_
                  rintro e w9 ⟨rfl, hF9⟩
                  obtain ⟨p0, p1, p2, q0, q1, q2⟩ := three_at (hF9.blk (hpNew rfl (.cells #[.int .i64 x, .int .i64 y, .int .i64 bd.length] 34)) (by simp))
                  have hF79 := (HF8.out.alloc (.cells #[.int .i64 x, .int .i64 y, .int .i64 bd.length] 34)).trans (hF9.mono (by simp))
                  have hh9 := ((own_fr HHO.out hF79 (fun j hj => by have := HHL.out j hj; simp; omega)).cellAt j (by omega)).trans HBC.out
                  have hG9 := (HG8.out.fr ((Fr.refl [] wr).alloc (.cells #[.int .i64 x, .int .i64 y, .int .i64 bd.length] 34)) (by simp)).fr hF9 (by simp)
                  have hlk := hG9.look (n := x) (by omega) (by omega)
                  rw [HL0.out] at hlk
                  have HF9 := Lib.hid hF79
                  have HG9 := Lib.hid hG9
                  clear hF9 hF79 k0 k1 k2 hget hG9
                  go_wp2
                  exact ⟨⟨j + 1, by simp, by omega, by rw [HLS.out]; exact HG9.out.mono (Nat.le_succ j), HF9.out⟩, by simp [intOf]; omega⟩
              · have hsr : ¬ (j : Int) < sr := fun hh => hgot (hgs (by omega))
                have hls := lost_not_succ E c hjl hgot
                rw [if_neg hgot] at hget
                clear hem hcs hA8 hpj hgot hgs
                simp only at hget
                generalize E[j] = en at k0 k1 k2 hbc hnm hget hls
                obtain ⟨x, y, bd⟩ := en
                simp only at k0 k1 k2 hbc hnm hget hls
                have HF8 := Lib.hid hF8
                have HG8 := Lib.hid hG8
                have HLS := Lib.hid hls
                clear hbc hF8 hG8 hls
                go_wp2_with fail
                refine (hget _ (HF8.out.alloc _)).mono ?_
                rintro e w9 ⟨rfl, hF9⟩
                obtain ⟨p0, p1, p2, q0, q1, q2⟩ := three_at (hF9.blk (hpNew rfl (.cells #[.int .i64 x, .int .i64 y, .int .i64 bd.length] 34)) (by simp))
                have hF79 := (HF8.out.alloc (.cells #[.int .i64 x, .int .i64 y, .int .i64 bd.length] 34)).trans (hF9.mono (by simp))
                have hG9 := (HG8.out.fr ((Fr.refl [] wr).alloc (.cells #[.int .i64 x, .int .i64 y, .int .i64 bd.length] 34)) (by simp)).fr hF9 (by simp)
                obtain ⟨w10, hst, hG10, hg10⟩ := hG9.mark (by unfold maxLen; omega) (n := x) (by omega) (by omega)
                have HF9 := Lib.hid (hF79.grown hg10 (fun k hk => by cases hk; simp))
                have HG9 := Lib.hid hG10
                clear hF9 hF79 k0 k1 k2 hget hG9 hG10 hg10
                go_wp2
                exact ⟨⟨j + 1, by simp, by omega, by rw [HLS.out]; exact HG9.out, HF9.out⟩, by simp [intOf]; omega⟩
            · have hjE : j = E.length := by omega
              subst hjE
              have HF8 := Lib.hid hF8
              clear hF8 hG8
              go_wp2
              go_ret
              exact ⟨rfl, HF3.out.thenNew (HFO.out.thenNew HF8.out (by have := HLW.out; simp; omega)) (by have := HP.out; simp; omega)⟩
  · go_wp2
    go_ret
    exact ⟨rfl, HF3.out⟩
end Go.Proofs.YtljolihlhfabnaaGreatDoor
