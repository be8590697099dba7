/-
  LAYER CODE: numbers as bytes, the sum, a frame: what the program's functions answer.
-/
import Derived.Test.YtljolihlhfabnaaGreatDoorCodeP
import Derived.Test.YtljolihlhfabnaaGreatDoorFrame
import Derived.Laws.BitsAllLaws
namespace Go.Proofs.YtljolihlhfabnaaGreatDoor
open Go Go.RowKit Go.Maps

def u8s (l : Bs) : List Value := l.map fun b => .int .u8 b.toNat
theorem u8s_append (a b : Bs) : u8s (a ++ b) = u8s a ++ u8s b := by simp [u8s]
theorem infoU8 : (Tryz.prog.info? 5).map (fun i => (i.zero, i.size, i.bytes)) = some (some (.int .u8 0), 1, 1) := by kernel_rfl

set_option maxRecDepth 100000 in
set_option maxHeartbeats 1000000 in
theorem onto_any (w : World) (base : Nat) (v0 : Value) (n0 : Nat) (xs : Bs) (n many : Nat) (hown : w.ownsRow base 5 1 v0 n0 (u8s xs)) (hbase : base ≤ w.heap.size) (_hn : n < 4294967296) (hm : many ≤ 1000) (hn0 : n0 ≤ 1000000) :
    Calls Tryz.prog 55 #[.agg #[.int .u32 n, .int .i64 many], v0] w fun e w' => ∃ v', e = .returned v' ∧ w'.ownsRow base 5 1 v' (n0 + many) (u8s (xs ++ le n many)) ∧ Below base w w' := by
  go_enter Tryz.func55, Tryz.ntmps55
  go_wp2
  go_loopw [1, 7] (fun v i wr => ∃ k : Nat, k ≤ many ∧ i = .int .i64 k ∧ wr.ownsRow base 5 1 v (n0 + k) (u8s (xs ++ le n k)) ∧ Below base w wr ∧ w.heap.size < wr.heap.size ∧
      wr.heap[w.heap.size]? = some (.cells #[.int .u32 (n / 256 ^ k : Nat), .int .i64 many] 105 (0, 0))) (fun _ i _ => many - (intOf i).toNat)
  case atStart => exact ⟨0, Nat.zero_le _, rfl, by simpa [le] using hown.alloc _, (Below.refl _ _).alloc hbase _, by simp, by simpa using hpNew (w := w) rfl _⟩
  case round =>
    obtain ⟨k, hk, rfl, hown1, hbel, hsz, hbox⟩ := hrel
    obtain ⟨x0, x1, z0, z1⟩ := two_at hbox
    by_cases hlt : k < many
    · have HB := Lib.hid hbox
      clear hbox
      have hq : n / 256 ^ k ≤ n := Nat.div_le_self _ _
      generalize hqq : n / 256 ^ k = q at x0 hq
      have HQ := Lib.hid hqq
      clear hqq
      have hb1 := Nat.le_trans hbase (Nat.le_of_lt hsz)
      go_wp2_with (at_builtin; refine app1 rfl _ _ 94 rfl base 5 (.int .u8 0) 1 1 Tryz.underlying94 infoU8 rfl (by decide) (by decide) u1 _ _ rfl (hown1.alloc _) wr.heap.size 1 [.int .u8 (q % 256)] rfl rfl (cellsNew _ _ _ _ rfl) (by simp [Value.oneCell']) (by omega) (leAlloc hb1 _) ?_; intro v' w1 hown2 hg2 hloc; refine Hid.out ?_)
      have hg3 := (World.grownBy_alloc wr (.cells #[.int .u8 (q % 256)] 5) u1.ownBlock).trans hg2
      have hbx := (hg3.block w.heap.size hsz (own_ne hown1 HB.out (by decide)).symm).trans HB.out
      rw [HQ.out] at hbx
      obtain ⟨y0, y1, z0, z1⟩ := two_at hbx
      have hbel2 := hbel.grown hg3 hb1 (fun j hj => (own_lt hown1 j hj).1)
      have hsz2 := Nat.lt_of_lt_of_le hsz hg3.size
      have HW := Lib.hid hown2
      have HX := Lib.hid hbx
      clear hown1 hown2 hg2 hg3 hloc hbx x0 x1
      refine Lib.hid ?_
      go_wp2
      go_roundw
      case rel =>
        refine ⟨k + 1, by omega, by go_num, ?_, hbel2.setCell hbase _, by simpa using hsz2, ?_⟩
        · have := ownsRow_setCell_other HW.out (a := ⟨w.heap.size, 0, none⟩) (own_ne HW.out HX.out (by decide)) (.int .u32 (q / 256))
          rw [le_snoc, ← List.append_assoc, u8s_append (xs ++ le n k), HQ.out]
          have e : u8s [UInt8.ofNat (q % 256)] = [.int .u8 ((q : Int) % 256)] := by simp [u8s]
          rw [e]
          exact this
        · rw [set_at HX.out, Nat.pow_succ, ← Nat.div_div_eq_div_mul, HQ.out]
          rfl
      case measure => simp [intOf]; omega
    · go_wp2
      obtain rfl : k = many := by omega
      go_ret
      exact ⟨u1, rfl, hown1, hbel⟩

set_option maxRecDepth 100000 in
set_option maxHeartbeats 400000 in
theorem low_any (w : World) (base : Nat) (v0 : Value) (n0 : Nat) (xs : Bs) (n many : Nat) (hown : w.ownsRow base 5 1 v0 n0 (u8s xs)) (hbase : base ≤ w.heap.size) (hn : n < 4294967296) (hm : many ≤ 1000) (hn0 : n0 ≤ 1000000) :
    Calls Tryz.prog 44 #[v0, .int .u32 n, .int .i64 many] w fun e w' => ∃ v', e = .returned v' ∧ w'.ownsRow base 5 1 v' (n0 + many) (u8s (xs ++ le n many)) ∧ Below base w w' := by
  have hc := onto_any w base v0 n0 xs n many hown hbase hn hm hn0
  clear hown
  go_enter Tryz.func44, Tryz.ntmps44
  go_wp2_with (go_at_call 55; refine hc.mono ?_; rintro e w1 ⟨v', rfl, h1, h2⟩)
  go_ret
  exact ⟨v', rfl, h1, h2⟩

theorem or8 (u c : Nat) (hu : u < 16777216) (hc : c < 256) : bits .or .u32 ((u : Int) * 256) (c : Int) = ((c + 256 * u : Nat) : Int) := by
  have e1 : (u : Int) * 256 = ((u * 2 ^ 8 : Nat) : Int) := by omega
  rw [e1, u32_or_nat _ _ (by omega) (by omega), ← Nat.shiftLeft_eq, ← Nat.shiftLeft_add_eq_or_of_lt (by omega), Nat.shiftLeft_eq]
  omega
theorem or16 (u c : Nat) (hu : u < 65536) (hc : c < 65536) : bits .or .u32 ((u : Int) * 65536) (c : Int) = ((u * 65536 + c : Nat) : Int) := by
  have e1 : (u : Int) * 65536 = ((u * 2 ^ 16 : Nat) : Int) := by omega
  rw [e1, u32_or_nat _ _ (by omega) (by omega), ← Nat.shiftLeft_eq, ← Nat.shiftLeft_add_eq_or_of_lt (by omega), Nat.shiftLeft_eq]
theorem ret_u32 {a b : Int} (h : a = b) : Ending.returned (.int .u32 a) = .returned (.int .u32 b) := by rw [h]
set_option maxRecDepth 100000 in
set_option maxHeartbeats 1000000 in
theorem unlow_any (s : ByteArray) (hs : s.size ≤ 4) (w : World) :
    Calls Tryz.prog 38 #[.string s] w fun e w' => e = .returned (.int .u32 (unle s.data.toList : Nat)) ∧ w = w' := by
  have hm : s.size = s.data.toList.length := by simp
  have HM := Lib.hid hm
  clear hm
  go_enter Tryz.func38, Tryz.ntmps38
  go_wp2
  go_loop [2, 3] (fun n i => ∃ k : Nat, k ≤ s.size ∧ i = .int .i64 ((k : Int) - 1) ∧ n = .int .u32 (unle (s.data.toList.drop k) : Nat)) (fun _ i => (intOf i + 1).toNat)
  case atStart => exact ⟨s.size, Nat.le_refl _, rfl, by rw [List.drop_of_length_le (by rw [← HM.out]; exact Nat.le_refl _)]; rfl⟩
  case round =>
    obtain ⟨k, hk, rfl, rfl⟩ := hrel
    cases k with
    | zero =>
      go_wp2
      go_ret
      exact ⟨rfl, rfl⟩
    | succ k =>
      have hk2 : k < s.size := by omega
      have hul := unle_lt (s.data.toList.drop (k + 1))
      have hlen : (s.data.toList.drop (k + 1)).length ≤ 3 := by rw [List.length_drop, ← HM.out]; omega
      have hu2 : unle (s.data.toList.drop (k + 1)) < 16777216 := Nat.lt_of_lt_of_le hul (by
        calc 256 ^ (s.data.toList.drop (k + 1)).length ≤ 256 ^ 3 := Nat.pow_le_pow_right (by decide) hlen
          _ = 16777216 := by decide)
      have hd : unle (s.data.toList.drop k) = s[k].toNat + 256 * unle (s.data.toList.drop (k + 1)) := by
        rw [List.drop_eq_getElem_cons (by rw [← HM.out]; exact hk2)]; rfl
      have HD := Lib.hid hd
      clear hd hul hlen
      generalize unle (s.data.toList.drop (k + 1)) = u at hu2 HD
      have hb := s[k].toNat_lt
      go_wp2
      refine ⟨⟨k, by omega, rfl, ?_⟩, by simp [intOf]⟩
      rw [HD.out, or8 _ _ hu2 hb]

set_option maxRecDepth 100000 in
set_option maxHeartbeats 1000000 in
theorem sum_any (s : ByteArray) (hs : s.size ≤ 1000000) (w : World) :
    Calls Tryz.prog 39 #[.string s] w fun e w' => e = .returned (.int .u32 (sumN s.data.toList : Nat)) ∧ w = w' := by
  have hm : s.size = s.data.toList.length := by simp
  have HM := Lib.hid hm
  clear hm
  go_enter Tryz.func39, Tryz.ntmps39
  go_wp2
  go_loop [3, 4, 5, 8] (fun x y _ i => ∃ k : Nat, k ≤ s.size ∧ i = .int .i64 k ∧ x = .int .u32 (sumXY (s.data.toList.take k)).1 ∧ y = .int .u32 (sumXY (s.data.toList.take k)).2) (fun _ _ _ i => s.size - (intOf i).toNat)
  case atStart => exact ⟨0, Nat.zero_le _, rfl, rfl, rfl⟩
  case round =>
    obtain ⟨k, hk, rfl, rfl, rfl⟩ := hrel
    have hl := sumXY_lt (s.data.toList.take k)
    by_cases hlt : k < s.size
    · have hsn : sumXY (s.data.toList.take (k + 1)) = (((sumXY (s.data.toList.take k)).1 + s[k].toNat) % 65521, ((sumXY (s.data.toList.take k)).2 + ((sumXY (s.data.toList.take k)).1 + s[k].toNat) % 65521) % 65521) := by
        rw [List.take_succ_eq_append_getElem (by rw [← HM.out]; exact hlt), sumXY_snoc]; rfl
      have HS := Lib.hid hsn
      clear hsn
      generalize sumXY (s.data.toList.take k) = p at hl HS
      obtain ⟨x, y⟩ := p
      simp only at hl HS
      have hb := s[k].toNat_lt
      go_wp2
      refine ⟨⟨k + 1, by omega, by go_num, ?_, ?_⟩, by simp [intOf]; omega⟩
      · rw [HS.out]; simp
      · rw [HS.out]; simp
    · go_wp2
      go_ret
      have hk3 : k = s.size := by omega
      refine ⟨ret_u32 ?_, rfl⟩
      have e : s.data.toList.take k = s.data.toList := List.take_of_length_le (by rw [← HM.out]; omega)
      rw [e] at hl ⊢
      exact or16 _ _ (by omega) (by omega)

theorem low4_any (w : World) (base : Nat) (v0 : Value) (n0 : Nat) (xs : Bs) (n : Nat) (hown : w.ownsRow base 5 1 v0 n0 (u8s xs)) (hbase : base ≤ w.heap.size) (hn : n < 4294967296) (hn0 : n0 ≤ 1000000) :
    Calls Tryz.prog 44 #[v0, .int .u32 n, .int .i64 4] w fun e w' => ∃ v', e = .returned v' ∧ w'.ownsRow base 5 1 v' (n0 + 4) (u8s (xs ++ le n 4)) ∧ Below base w w' :=
  low_any w base v0 n0 xs n 4 hown hbase hn (by decide) hn0
theorem own_conv {w : World} {base : Nat} {v : Value} {n : Nat} {l : Bs} (h : w.ownsRow base 5 1 v n (u8s l)) : (convert 94 9 v).run Tryz.prog w = .ok (.string ⟨l.toArray⟩) w := by
  have hl : l.length = n := by have := h.1; simpa [u8s] using this
  rcases h.2 with ⟨rfl, rfl⟩ | ⟨g, cap, cur, rfl, _⟩
  · obtain rfl : l = [] := List.eq_nil_of_length_eq_zero hl
    exact run_convert_bytes_nil w 94 5 Tryz.underlying94 Tryz.underlying5 0 0 9 Tryz.underlying9
  · subst hl
    refine run_convert_bytes_back w 94 9 5 ⟨g, 0, none⟩ cap l Tryz.underlying94 Tryz.underlying5 Tryz.underlying9 (fun j hj => ?_)
    exact h.cells (g := g) rfl j _ (by simp [u8s, hj])
theorem strCells_u8s (s : ByteArray) : Lib.strCells s = u8s s.data.toList := rfl

set_option maxRecDepth 100000 in
set_option maxHeartbeats 1000000 in
theorem frame_ok (s : ByteArray) (hs : s.size ≤ 65536) (w : World) :
    Calls Tryz.prog 32 #[.string s] w fun e w' => e = .returned (.tuple #[.string ⟨(frameB s.data.toList).toArray⟩, .int .i64 0]) ∧ Fr [] w w' := by
  have hm : s.size = s.data.toList.length := by simp
  have HM := Lib.hid hm
  clear hm
  obtain ⟨i0, hi, hz0, hz1, hz2⟩ := info_parts infoU8
  have hc1 := low4_any w w.heap.size (.slice none 0 0) 0 [] s.size (World.ownsRow_nil _ _ _ _) (Nat.le_refl _) (by omega) (by omega)
  go_enter Tryz.func32, Tryz.ntmps32
  go_wp2_with fail
  refine hc1.mono ?_
  rintro e w1 ⟨v1, rfl, h1, hb1⟩
  simp only [List.nil_append, Nat.zero_add] at h1
  go_wp2_with (at_builtin; refine Lib.wpList_append_own_string _ rfl _ _ 94 9 rfl w.heap.size 5 i0 Tryz.underlying94 Tryz.underlying9 hi hz0 hz1 hz2 v1 4 _ rfl h1 s rfl (by unfold maxLen; omega) (by omega) hb1.size ?_; intro v2 w2 h2 hg2 _; refine Hid.out ?_)
  rw [strCells_u8s, ← u8s_append] at h2
  have hb2 := hb1.grown hg2 hb1.size (fun j hj => (own_lt h1 j hj).1)
  have hcv := own_conv h2
  have H2 := Lib.hid h2
  clear h1 hg2 h2
  refine Lib.hid ?_
  have hb2s := hb2.size
  go_wp2_with fail
  refine (sum_any ⟨(le s.size 4 ++ s.data.toList).toArray⟩ (by rw [size_mk, List.length_append, le_length, ← HM.out]; omega) w2).mono ?_
  rintro e w3 ⟨rfl, rfl⟩
  go_wp2_with fail
  refine (low4_any w2 w.heap.size v2 (4 + s.size) (le s.size 4 ++ s.data.toList) (sumN (le s.size 4 ++ s.data.toList)) H2.out hb2s (sumN_lt _) (by omega)).mono ?_
  rintro e w4 ⟨v3, rfl, h3, hb3⟩
  have hcv3 := own_conv h3
  clear h3 hcv
  go_wp2
  go_ret2
  refine ⟨?_, Fr.below (hb2.trans hb3)⟩
  simp only [frameB, ← HM.out]
  rfl

set_option maxRecDepth 100000 in
set_option maxHeartbeats 400000 in
theorem frame_long (s : ByteArray) (hs : 65536 < s.size) (w : World) :
    Calls Tryz.prog 32 #[.string s] w fun e w' => e = .returned (.tuple #[.string ⟨#[]⟩, .int .i64 2]) ∧ Fr [] w w' := by
  have h1 : (65536 : Int) < s.size := by omega
  go_enter Tryz.func32, Tryz.ntmps32
  go_wp2
  go_ret2
  exact ⟨rfl, Fr.refl _ _⟩
end Go.Proofs.YtljolihlhfabnaaGreatDoor
