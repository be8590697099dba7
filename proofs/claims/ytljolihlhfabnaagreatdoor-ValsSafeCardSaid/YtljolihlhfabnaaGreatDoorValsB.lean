/-
  LAYER VALS: numbers.
-/
import Derived.Test.YtljolihlhfabnaaGreatDoorValsA
import Derived.Test.YtljolihlhfabnaaGreatDoorNames
import Derived.Sort.OwnSortedInts
import Derived.Lib.AtoiAllCases
namespace Go.Proofs.YtljolihlhfabnaaGreatDoor
open Go Go.RowKit Go.Maps Go.Sort

theorem row_form {w : World} {base : Nat} {e : TypeId} {size n : Nat} {v : Value} {xs : List Value} (h : w.ownsRow base e size v n xs) : ∃ p cap, v = .slice p n cap ∧ (0 < n → ∃ g, p = some ⟨g, 0, none⟩) := by
  rcases h.2 with ⟨rfl, h0⟩ | ⟨g, cap, cur, rfl, _⟩
  · exact ⟨none, 0, by rw [h0], fun h1 => by omega⟩
  · exact ⟨_, cap, rfl, fun _ => ⟨g, rfl⟩⟩
theorem infoInt : (Tryz.prog.info? 3).map (fun i => (i.zero, i.size, i.bytes)) = some (some (.int .i64 0), 1, 8) := by kernel_rfl
def upI (zs : List Int) : List Int := zs.mergeSort fun x y => decide (x ≤ y)
theorem upI_length (zs : List Int) : (upI zs).length = zs.length := by simp [upI, List.length_mergeSort]
/-- slices.Sort of a row of the caller's own. -/
theorem sortInt_any (w : World) (base : Nat) (v : Value) (zs : List Int) (h : w.ownsRow base 3 1 v zs.length (zs.map (Value.int .i64))) (hz : zs.length ≤ 1000000) :
    Calls Tryz.prog 37 #[v] w fun e w' => e = .returned (.tuple #[]) ∧ w'.ownsRow base 3 1 v (upI zs).length ((upI zs).map (Value.int .i64)) ∧ w.grownBy w' v.ownBlock := by
  rcases h.2 with ⟨rfl, h0⟩ | ⟨g, cap, cur, rfl, hb, hg, h1, h2, h3, h4⟩
  · obtain rfl : zs = [] := List.eq_nil_of_length_eq_zero h0
    refine (Any.slices_Sort_int_none Tryz.laySortInt none 0 w).mono ?_
    rintro e w' ⟨rfl, rfl⟩
    exact ⟨rfl, by simpa [upI] using h, rfl, rfl, rfl, Nat.le_refl _, fun _ _ _ => rfl⟩
  · have hbl : g < w.heap.size := (Array.getElem?_eq_some_iff.1 hg).1
    rw [Nat.mul_one] at h4
    refine (Any.slices_Sort_int Tryz.laySortInt g 0 cap zs w (holds_of_blockI hg h4) hbl (by omega)).mono ?_
    rintro e w' ⟨rfl, n, os, rfl⟩
    refine ⟨rfl, ?_, grownBy_sortedI _⟩
    have := ownsRow_sortedI (w := w) (base := base) (n := n) (os := os) (ss := zs) (ts := upI zs) (upI_length zs) hb hg h1 h2 (by omega)
    rw [upI_length]
    exact this

/-- A file's number, if its name is one of a file of values. -/
def numOf (s : Bs) : Option Int :=
  if Lib.hasPrefix s [118, 97, 108, 46] then
    if atoiOk (Lib.trimPrefix s [118, 97, 108, 46]) then
      if 1 ≤ atoiV (Lib.trimPrefix s [118, 97, 108, 46]) then
        if atoiV (Lib.trimPrefix s [118, 97, 108, 46]) ≤ 1048576 then
          if Lib.itoa (atoiV (Lib.trimPrefix s [118, 97, 108, 46])) = Lib.trimPrefix s [118, 97, 108, 46] then some (atoiV (Lib.trimPrefix s [118, 97, 108, 46])) else none
        else none
      else none
    else none
  else none
def numbersF (fs : Files) : List Int := upI ((namesF fs).filterMap numOf)
theorem numOf_trim (s : Bs) (h : s.length ≤ 100000) : (Lib.trimPrefix s [118, 97, 108, 46]).length ≤ 100000 := by
  unfold Lib.trimPrefix
  split
  · simp; omega
  · exact h
theorem atoiV_bounds (l : Bs) : -9223372036854775808 ≤ atoiV l ∧ atoiV l ≤ 9223372036854775807 := by
  unfold atoiV
  rcases h : Lib.atoiAll l with v | _ | _
  · exact Lib.atoiAll_bounds h
  · simp
  · exact Lib.atoiSat_bounds l

set_option maxRecDepth 100000 in
set_option maxHeartbeats 2000000 in
theorem numbers_any (w : World) (hE : Env w) (a b : Nat) (d : DiskM) (h : DiskAt w a b d) (hs : SortedF d.files) (hn : d.files.length ≤ 1000000) (hnm : ∀ k ∈ namesF d.files, k.length ≤ 100000) :
    Calls Tryz.prog 20 #[.pointer (some ⟨a, 0, none⟩)] w fun e w' => ∃ v, e = .returned v ∧ w'.ownsRow w.heap.size 3 1 v (numbersF d.files).length ((numbersF d.files).map (Value.int .i64)) ∧ Fr [] w w' := by
  have hN := names_any w a b d h hs hn
  clear h hs
  have hlen : (namesF d.files).length = d.files.length := by simp [namesF]
  unfold numbersF
  generalize hnn : d.files.length = N at hN hn hlen
  clear hnn
  generalize namesF d.files = names at hN hnm hlen ⊢
  have HNM := Lib.hid hnm
  clear hnm
  subst hlen
  go_enter Tryz.func20, Tryz.ntmps20
  go_wp2_with fail
  refine hN.mono ?_
  rintro e w1 ⟨v0, rfl, hrow, hF1⟩
  obtain ⟨p, cap, rfl, hp⟩ := row_form hrow
  have HROW := Lib.hid hrow
  have HP := Lib.hid hp
  clear hrow hp
  have hE1 : Env w1 := hE.fr hF1 (by simp)
  have HE1 := Lib.hid hE1
  have HF1 := Lib.hid hF1
  clear hE hE1 hF1 hN
  go_wp2
  go_loopw [3, 13] (fun v i wr => ∃ (k : Nat) (zs : List Int), i = .int .i64 k ∧ k ≤ names.length ∧ zs.length ≤ k ∧ names.filterMap numOf = zs ++ (names.drop k).filterMap numOf ∧
      wr.ownsRow w1.heap.size 3 1 v zs.length (zs.map (Value.int .i64)) ∧ Fr [] w1 wr) (fun _ i _ => names.length - (intOf i).toNat)
  case atStart => exact ⟨0, [], rfl, Nat.zero_le _, Nat.le_refl _, by simp, World.ownsRow_nil _ _ _ _, Fr.refl _ _⟩
  case round =>
    obtain ⟨k, zs, rfl, hk, hzk, hfm, hown, hF⟩ := hrel
    have HB : w1.heap.size ≤ wr.heap.size := hF.size
    by_cases hlt : k < names.length
    · obtain ⟨g, rfl⟩ := HP.out (by omega)
      have hcell : wr.cell? ⟨g, k, none⟩ = some (.string ⟨names[k].toArray⟩) := by
        rw [hF.cell (own_lt HROW.out g rfl).2 (by simp), HROW.out.cellAt k (by omega)]
        simp [encStr, hlt]
      have hdr : (names.drop k).filterMap numOf = (match numOf names[k] with | some n => [n] | none => []) ++ (names.drop (k + 1)).filterMap numOf := by
        rw [List.drop_eq_getElem_cons hlt, List.filterMap_cons]
        cases numOf names[k] <;> rfl
      have hsz : names[k].length ≤ 100000 := HNM.out _ (List.getElem_mem hlt)
      rw [hdr] at hfm
      clear hdr
      have hcut := cutPrefix_any ⟨names[k].toArray⟩ ⟨#[118, 97, 108, 46]⟩ wr
      have htl := numOf_trim _ hsz
      have hnum : numOf names[k] = numOf names[k] := rfl
      conv at hnum => rhs; unfold numOf
      simp only at hcut
      clear hsz
      generalize names[k] = s at hcell hfm hcut htl hnum
      generalize Lib.hasPrefix s [118, 97, 108, 46] = ok at hcut hnum
      generalize Lib.trimPrefix s [118, 97, 108, 46] = rest at hcut hnum htl
      have hat := atoi_any ⟨rest.toArray⟩ (by simpa [size_mk] using htl) wr (HE1.out.fr hF (by simp))
      have hbd := atoiV_bounds rest
      simp only at hat
      generalize atoiV rest = n at hat hnum hbd
      have hit := fun W hEW => itoa_any n hbd.1 hbd.2 W hEW
      have HEr := Lib.hid (HE1.out.fr hF (by simp))
      generalize Lib.itoa n = txt at hit hnum
      have HFM := Lib.hid hfm
      have HOWN := Lib.hid hown
      have HF := Lib.hid hF
      clear hfm hown hF
      have hok : (atoiOk rest = true ∧ Calls Tryz.prog 35 #[.string ⟨rest.toArray⟩] wr fun e w' => e = .returned (.tuple #[.int .i64 n, .nilIface]) ∧ Fr [] wr w') ∨
          (atoiOk rest = false ∧ Calls Tryz.prog 35 #[.string ⟨rest.toArray⟩] wr fun e w' => ∃ t v, e = .returned (.tuple #[.int .i64 n, .iface t v]) ∧ Fr [] wr w') := by
        cases hq : atoiOk rest
        · refine .inr ⟨rfl, hat.mono ?_⟩
          rintro e w' ⟨er, rfl, h | ⟨_, t, v, rfl⟩, hF⟩
          · rw [hq] at h; cases h.1
          · exact ⟨t, v, rfl, hF⟩
        · refine .inl ⟨rfl, hat.mono ?_⟩
          rintro e w' ⟨er, rfl, ⟨_, rfl⟩ | h, hF⟩
          · exact ⟨rfl, hF⟩
          · rw [hq] at h; cases h.1
      clear hat
      generalize atoiOk rest = aok at hok hnum
      rcases hok with ⟨rfl, hat⟩ | ⟨rfl, hat⟩
      · rw [if_pos rfl] at hnum
        cases ok
        · have HNO := Lib.hid (show numOf s = none by rw [hnum]; simp)
          clear hnum hit
          go_wp2_with (first | (go_at_call 34; refine hcut.mono ?_; rintro e w2 ⟨rfl, rfl⟩) | (go_at_call 35; refine hat.mono ?_; rintro e w2 ⟨rfl, hF2⟩))
          exact ⟨⟨k + 1, zs, by simp, by omega, by omega, by rw [HFM.out, HNO.out]; rfl, own_below HOWN.out hF2, HF.out.trans hF2⟩, by simp [intOf]; omega⟩
        rw [if_pos rfl] at hnum
        by_cases h3 : 1 ≤ n
        rotate_left
        · have HNO := Lib.hid (show numOf s = none by rw [hnum, if_neg h3])
          clear hnum hit
          go_wp2_with (first | (go_at_call 34; refine hcut.mono ?_; rintro e w2 ⟨rfl, rfl⟩) | (go_at_call 35; refine hat.mono ?_; rintro e w2 ⟨rfl, hF2⟩))
          exact ⟨⟨k + 1, zs, by simp, by omega, by omega, by rw [HFM.out, HNO.out]; rfl, own_below HOWN.out hF2, HF.out.trans hF2⟩, by simp [intOf]; omega⟩
        rw [if_pos h3] at hnum
        by_cases h4 : n ≤ 1048576
        rotate_left
        · have HNO := Lib.hid (show numOf s = none by rw [hnum, if_neg h4])
          clear hnum hit
          go_wp2_with (first | (go_at_call 34; refine hcut.mono ?_; rintro e w2 ⟨rfl, rfl⟩) | (go_at_call 35; refine hat.mono ?_; rintro e w2 ⟨rfl, hF2⟩))
          exact ⟨⟨k + 1, zs, by simp, by omega, by omega, by rw [HFM.out, HNO.out]; rfl, own_below HOWN.out hF2, HF.out.trans hF2⟩, by simp [intOf]; omega⟩
        rw [if_pos h4] at hnum
        have hit2 : Calls Tryz.prog 35 #[.string ⟨rest.toArray⟩] wr (fun e w' => e = .returned (.tuple #[.int .i64 n, .nilIface]) ∧ Fr [] wr w' ∧ Env w') := hat.mono fun e w' hh => ⟨hh.1, hh.2, HEr.out.fr hh.2 (by simp)⟩
        clear hat
        by_cases h5 : txt = rest
        rotate_left
        · have HNO := Lib.hid (show numOf s = none by rw [hnum, if_neg h5])
          have h5' : (txt == rest) = false := by simpa using h5
          clear hnum
          go_wp2_with (first | (go_at_call 34; refine hcut.mono ?_; rintro e w2 ⟨rfl, rfl⟩) | (go_at_call 35; refine hit2.mono ?_; rintro e w2 ⟨rfl, hF2, hE2⟩) | (go_at_call 36; refine (hit _ hE2).mono ?_; rintro e w3 ⟨rfl, hF3⟩))
          exact ⟨⟨k + 1, zs, by simp, by omega, by omega, by rw [HFM.out, HNO.out]; rfl, own_below HOWN.out (hF2.trans hF3), HF.out.trans (hF2.trans hF3)⟩, by simp [intOf]; omega⟩
        · have HNO := Lib.hid (show numOf s = some n by rw [hnum, if_pos h5])
          clear hnum
          subst h5
          have hzl : zs.length ≤ 1000000 := by omega
          go_wp2_with (first | (go_at_call 34; refine hcut.mono ?_; rintro e w2 ⟨rfl, rfl⟩) | (go_at_call 35; refine hit2.mono ?_; rintro e w2 ⟨rfl, hF2, hE2⟩) | (go_at_call 36; refine (hit _ hE2).mono ?_; rintro e w3 ⟨rfl, hF3⟩) |
            (at_builtin; refine Hid.out ?_))
          refine Lib.hid ?_
          refine app1 rfl _ _ 37 rfl w1.heap.size 3 (.int .i64 0) 1 8 Tryz.underlying37 infoInt rfl (by decide) (by decide) u3 zs.length (zs.map (Value.int .i64)) rfl ((own_below HOWN.out (hF2.trans hF3)).alloc _) w3.heap.size 1 [.int .i64 n] rfl rfl (cellsNewAt rfl _ _ _ rfl) (by simp [Value.oneCell']) (by omega) (leAlloc (Nat.le_trans HB (hF2.trans hF3).size) _) ?_
          intro v' w4 hown4 hg4 hloc
          refine Hid.out ?_
          have HW := Lib.hid hown4
          have HF4 := Lib.hid (((HF.out.trans (hF2.trans hF3)).alloc (.cells #[.int .i64 n] 3)).grown hg4 (fun j hj => .inr (own_lt HOWN.out j hj).1))
          clear hown4 hg4 hloc hF2 hF3
          refine Lib.hid ?_
          go_wp2
          exact ⟨⟨k + 1, zs ++ [n], by simp, by omega, by simp; omega, by rw [HFM.out, HNO.out]; simp, by simpa using HW.out, HF4.out⟩, by simp [intOf]; omega⟩
      · have HNO : numOf s = none := by rw [hnum]; simp
        have HNO := Lib.hid HNO
        clear hnum hit
        cases ok
        · go_wp2_with (first | (go_at_call 34; refine hcut.mono ?_; rintro e w2 ⟨rfl, rfl⟩) | (go_at_call 35; refine hat.mono ?_; rintro e w2 ⟨t, v, rfl, hF2⟩))
          exact ⟨⟨k + 1, zs, by simp, by omega, by omega, by rw [HFM.out, HNO.out]; rfl, own_below HOWN.out hF2, HF.out.trans hF2⟩, by simp [intOf]; omega⟩
        · go_wp2_with (first | (go_at_call 34; refine hcut.mono ?_; rintro e w2 ⟨rfl, rfl⟩) | (go_at_call 35; refine hat.mono ?_; rintro e w2 ⟨t, v, rfl, hF2⟩))
          exact ⟨⟨k + 1, zs, by simp, by omega, by omega, by rw [HFM.out, HNO.out]; rfl, own_below HOWN.out hF2, HF.out.trans hF2⟩, by simp [intOf]; omega⟩
    · obtain rfl : k = names.length := by omega
      have hz : names.filterMap numOf = zs := by rw [hfm]; simp
      have hsort := sortInt_any wr _ u3 zs hown (by omega)
      have HZ := Lib.hid hz
      clear hfm
      have HF := Lib.hid hF
      clear hF hz
      go_wp2_with (go_at_call 37; refine hsort.mono ?_; rintro e w2 ⟨rfl, h2, hg2⟩)
      go_ret
      refine ⟨u3, rfl, ?_, HF1.out.trans (HF.out.grown hg2 (fun j hj => .inr (own_lt hown j hj).1))⟩
      rw [HZ.out]
      exact ownsRow_base_a h2 HF1.out.size
end Go.Proofs.YtljolihlhfabnaaGreatDoor
