/-
  LAYER CODE: frames one behind the other.
-/
import Derived.Test.YtljolihlhfabnaaGreatDoorCodeB
import Derived.Sort.EncStr
namespace Go.Proofs.YtljolihlhfabnaaGreatDoor
open Go Go.RowKit Go.Maps Go.Sort

theorem infoStr : (Tryz.prog.info? 9).map (fun i => (i.zero, i.size, i.bytes)) = some (some (.string ⟨#[]⟩), 1, 16) := by kernel_rfl
set_option maxRecDepth 100000 in
set_option maxHeartbeats 1000000 in
theorem frames_any (s : ByteArray) (hs : s.size ≤ 1000000) (w : World) :
    Calls Tryz.prog 21 #[.string s] w fun e w' => ∃ v, e = .returned (.tuple #[v, .int .i64 (frames s.data.toList).2]) ∧
      w'.ownsRow w.heap.size 9 1 v (frames s.data.toList).1.length ((frames s.data.toList).1.map encStr) ∧ Fr [] w w' := by
  have hL : s.data.toList.length = s.size := by simp
  have HL := Lib.hid hL
  clear hL
  go_enter Tryz.func21, Tryz.ntmps21
  go_wp2
  go_loopw [2, 3] (fun v i wr => ∃ (k : Nat) (acc : List Bs), i = .int .i64 k ∧ k ≤ s.size ∧ acc.length ≤ k ∧ frames s.data.toList = (acc ++ (framesFrom s.data.toList k).1, (framesFrom s.data.toList k).2) ∧
      wr.ownsRow w.heap.size 9 1 v acc.length (acc.map encStr) ∧ Fr [] w wr) (fun _ i _ => s.size - (intOf i).toNat)
  case atStart => exact ⟨0, [], rfl, Nat.zero_le _, Nat.le_refl _, by simp [frames], World.ownsRow_nil _ _ _ _, Fr.refl _ _⟩
  case round =>
    obtain ⟨k, acc, rfl, hk, hak, hfr, hown, hF⟩ := hrel
    have HFR := Lib.hid hfr
    clear hfr
    have hun := unframe_any s k hs wr
    have hst : framesFrom s.data.toList k = framesFrom s.data.toList k := rfl
    have hfin := @unframe_fin s.data.toList k
    rw [HL.out] at hfin
    have hno : (unframe s.data.toList k).ok = false → framesFrom s.data.toList k = ([], k) := fun h => by rw [framesFrom, dif_neg (by rw [h]; simp)]
    have hyes : (unframe s.data.toList k).ok = true → framesFrom s.data.toList k = ((unframe s.data.toList k).body :: (framesFrom s.data.toList (unframe s.data.toList k).fin.toNat).1, (framesFrom s.data.toList (unframe s.data.toList k).fin.toNat).2) := fun h => by rw [framesFrom, dif_pos h]
    clear hst
    generalize unframe s.data.toList k = u at hun hfin hno hyes
    obtain ⟨body, fin, at_, code⟩ := u
    simp only [UnF.ok, unV] at hun hfin hno hyes
    have HNO := Lib.hid hno
    have HYES := Lib.hid hyes
    clear hno hyes
    have hlast : (at_ == 0 && code == 0) = false → (frames s.data.toList).2 = k ∧ (frames s.data.toList).1 = acc := by
      intro h
      rw [HFR.out, HNO.out h]
      simp
    have HLA := Lib.hid hlast
    clear hlast
    by_cases h1 : at_ = 0
    · subst h1
      by_cases h2 : code = 0
      · subst h2
        obtain ⟨hf1, hf2, hf3⟩ := hfin rfl
        obtain ⟨fn, rfl⟩ := Int.eq_ofNat_of_zero_le (by omega : 0 ≤ fin)
        clear hfin
        have hB : w.heap.size ≤ wr.heap.size := hF.size
        go_wp2_with (first | (go_at_call 23; refine hun.mono ?_; rintro e w1 ⟨rfl, hF1⟩) | (at_builtin; refine app1 rfl _ _ 22 rfl w.heap.size 9 (.string ⟨#[]⟩) 1 16 Tryz.underlying22 infoStr rfl (by decide) (by decide) u2 _ _ rfl (((own_below hown hF1).alloc _).alloc _) (w1.heap.size + 1) 1 [.string ⟨body.toArray⟩] rfl rfl (cellsNewAt (by simp) _ _ _ rfl) (by simp [Value.oneCell']) (by omega) (leAlloc (leAlloc (Nat.le_trans hB hF1.size) _) _) ?_; intro v' w2 hown2 hg2 hloc; refine Hid.out ?_))
        have HW := Lib.hid hown2
        have HF2 := Lib.hid (((hF.trans hF1).alloc (.cells #[.int .i64 0, .int .i64 0] 65)).alloc (.cells #[.string ⟨body.toArray⟩] 9) |>.grown hg2 (fun j hj => .inr (own_lt hown j hj).1))
        clear hown hown2 hg2 hloc hF hF1 hun
        refine Lib.hid ?_
        go_wp2
        go_roundw
        case rel => exact ⟨fn, acc ++ [body], rfl, by omega, by simp; omega, by rw [HFR.out, HYES.out rfl]; simp, by simpa [encStr] using HW.out, HF2.out⟩
        case measure => simp [intOf]; omega
      · have h3 : (code == 0) = false := by simpa using h2
        have H2 := Lib.hid h2
        clear h2
        go_wp2_with (go_at_call 23; refine hun.mono ?_; rintro e w1 ⟨rfl, hF1⟩)
        go_ret2
        obtain ⟨e1, e2⟩ := HLA.out (by simp [h3])
        rw [e1, e2]
        exact ⟨u2, rfl, (own_below hown hF1).alloc _, (hF.trans hF1).alloc _⟩
    · have h3 : (at_ == 0) = false := by simpa using h1
      have H1 := Lib.hid h1
      clear h1
      go_wp2_with (go_at_call 23; refine hun.mono ?_; rintro e w1 ⟨rfl, hF1⟩)
      go_ret2
      obtain ⟨e1, e2⟩ := HLA.out (by simp [h3])
      rw [e1, e2]
      exact ⟨u2, rfl, (own_below hown hF1).alloc _, (hF.trans hF1).alloc _⟩
end Go.Proofs.YtljolihlhfabnaaGreatDoor
