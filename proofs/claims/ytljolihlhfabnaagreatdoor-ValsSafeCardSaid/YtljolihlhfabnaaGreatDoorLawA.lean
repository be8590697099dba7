/-
  THE LAWS ON VALS: among, works.
-/
import Derived.Test.YtljolihlhfabnaaGreatDoorPlainB
namespace Go.Proofs.YtljolihlhfabnaaGreatDoor
open Go Go.RowKit Go.Maps Go.Sort

set_option maxRecDepth 100000 in
theorem among_any (x n : Int) (hx : -9223372036854775808 ≤ x ∧ x ≤ 9223372036854775807) (hn : 1 ≤ n ∧ n ≤ 100000) (w : World) :
    Calls Tryz.prog 9 #[.int .i64 x, .int .i64 n] w fun e w' => ∃ r, e = .returned (.int .i64 r) ∧ 0 ≤ r ∧ r < n ∧ w = w' := by
  have h1 := Int.tmod_lt_of_pos x (by omega : 0 < n)
  have h2 : -n < x.tmod n := by have := Int.lt_tmod_of_pos x (by omega : 0 < n); omega
  have hz : ¬ n = 0 := by omega
  have hz' : ¬ n = -1 := by omega
  have h3 := Int.tmod_lt_of_pos (x.tmod n + n) (by omega : 0 < n)
  have h4 := Int.tmod_nonneg n (by omega : 0 ≤ x.tmod n + n)
  go_enter Tryz.func9, Tryz.ntmps9
  go_wp2
  go_ret
  have h5 := Int.emod_nonneg (x.tmod n + n) hz
  have h6 := Int.emod_lt_of_pos (x.tmod n + n) (by omega : 0 < n)
  exact ⟨_, rfl, h5, h6, rfl⟩

theorem getV_other {u : UnF} {l l' : Int} {b : Bs} (h : getV u l = (b, 0)) (hne : l ≠ l') : getV u l' = ([], 110) := by
  unfold getV at h ⊢
  split at h
  · rename_i hc
    rw [if_neg]
    rintro ⟨_, _, h3⟩
    exact hne (hc.2.2.symm.trans h3)
  · simp at h
theorem numbersF_nil : numbersF [] = [] := by simp [numbersF, upI, namesF]
/-- A disk that is new. -/
def freshD (room : Int) : DiskM := ⟨room, 0, [], false, false, 0⟩
theorem fresh_good {room : Int} (h : 0 ≤ room ∧ room ≤ 262144) : (freshD room).Good := ⟨List.Pairwise.nil, fun k hk => by simp [freshD, namesF] at hk, by simp [freshD], by simp [freshD], rfl, h.1, h⟩
theorem fresh_calm (room : Int) : (freshD room).Calm := ⟨rfl, rfl⟩
theorem fresh_kept {room : Int} (h : 0 ≤ room ∧ room ≤ 262144) : Kept (freshD room) 0 [] := Kept.nil (fresh_good h) (fresh_calm room) rfl
theorem open_fresh (room : Int) : mendAll (freshD room) (numbersF (freshD room).files) = freshD room ∧ lastOr 0 (numbersF (freshD room).files) = 0 := by
  rw [show (freshD room).files = [] from rfl, numbersF_nil]
  exact ⟨rfl, rfl⟩
theorem Put_kept (w : World) (hE : Env w) (v a b : Nat) (d : DiskM) (most top : Int) (h : ValsAt w v a b d most top) (E : List Ent) (hK : Kept d top E) (s : ByteArray) (hs : s.size ≤ 65536) (ht : top < 1048576) (hm : 0 ≤ most ∧ most ≤ 1000000)
    (hr : d.used + (s.size + 8) ≤ d.room) (hf : d.files.length < 64) :
    Calls Tryz.prog 10 #[.pointer (some ⟨v, 0, none⟩), .string s] w fun e w' => ∃ d' fl at_, e = .returned (.tuple #[.agg #[.int .i64 fl, .int .i64 at_, .int .i64 s.size], .int .i64 0]) ∧ (fl, at_) = placeOf d most top ∧ max top fl ≤ top + 1 ∧
      ValsAt w' v a b d' most (max top fl) ∧ Kept d' (max top fl) (E ++ [(fl, at_, s.data.toList)]) ∧ d'.used = d.used + (s.size + 8) ∧ d'.room = d.room ∧ d'.files.length ≤ d.files.length + 1 ∧ Fr [v, a, b] w w' := by
  have hsz : s.data.toList.length = s.size := by simp
  obtain ⟨h1, h2, h3, h4, h5⟩ := hK.put most s.data.toList (by omega) ht (by omega) hf
  obtain ⟨p1, p2, p3, p4⟩ := hK.place most
  refine (Put_ok w hE v a b d most top h hK.good s hs hK.top0 hm (by omega) h1).mono ?_
  rintro e w' ⟨rfl, hV, hF⟩
  exact ⟨_, _, _, rfl, rfl, by omega, hV, h2, by rw [h3]; omega, h4, h5, hF⟩

set_option maxRecDepth 100000 in
set_option maxHeartbeats 1000000 in
theorem works_ok (w : World) (hE : Env w) (hB : lowB ≤ w.heap.size) : Calls Tryz.prog 7 #[] w fun e w' => e = .returned (.bool true) ∧ Fr [] w w' := by
  have hK0 := fresh_kept (room := 1000) (by decide)
  have hnew := new_ok w 1000 (by decide) (by decide)
  have hp0 : placeOf (freshD 1000) 1 0 = (1, 0) := by
    unfold placeOf
    rw [show (freshD 1000).files = [] from rfl, numbersF_nil]
    rfl
  go_enter Tryz.func7, Tryz.ntmps7
  go_wp2_with fail
  refine hnew.mono ?_
  rintro e w1 ⟨a, b, rfl, hD, ha, hb, hF1⟩
  have hE1 := hE.fr hF1 (by simp)
  have hopen := Open_ok w1 hE1 a b (freshD 1000) 1 hD (by omega) hK0.good hK0.calm (by decide)
  rw [(open_fresh 1000).1, (open_fresh 1000).2] at hopen
  clear hnew hD
  have HF1 := Lib.hid hF1
  have HE1 := Lib.hid hE1
  clear hF1 hE1
  go_wp2_with fail
  refine hopen.mono ?_
  rintro e w2 ⟨v, rfl, hv, hV, hF2⟩
  have hs1 := HF1.out.size
  have hF02 := HF1.out.thenNew hF2 (by simp; omega)
  have hput := Put_kept w2 (hE.fr hF02 (by simp)) v a b _ 1 0 hV [] hK0 ⟨#[97, 98]⟩ (by decide) (by decide) (by decide) (by decide) (by decide)
  have HF2 := Lib.hid hF02
  clear hF02 hF2 hV hopen
  go_wp2_with fail
  refine hput.mono ?_
  rintro e w3 ⟨d1, fl, at_, rfl, hpl, -, hV, hK1, hu1, hr1, hf1, hF3⟩
  rw [hp0] at hpl
  obtain ⟨rfl, rfl⟩ := Prod.mk.inj hpl
  have hF03 := HF2.out.thenNew hF3 (by simp; omega)
  have hm1 : max (0 : Int) 1 = 1 := rfl
  rw [hm1] at hV hK1
  have hp1 : placeOf d1 1 1 = (2, 0) := by
    unfold placeOf
    split
    · rfl
    · rename_i n hn
      obtain ⟨e, he, rfl⟩ := hK1.mem.1 (List.mem_of_getLast? hn)
      obtain rfl : e = (1, 0, [97, 98]) := by simpa using he
      rw [hK1.size (n := 1) (by decide) (by decide)]
      rw [if_neg (by decide)]
      rfl
  have hs2 : (⟨#[97, 98]⟩ : ByteArray).size = 2 := rfl
  rw [hs2] at hu1
  have hu1 : d1.used = 10 := hu1
  have hr1 : d1.room = 1000 := hr1
  have hf1 : d1.files.length ≤ 1 := hf1
  have hput2 := Put_kept (w3.alloc (.cells #[.int .i64 1, .int .i64 0, .int .i64 2] 34)) (hE.fr (hF03.alloc _) (by simp)) v a b d1 1 1 (hV.fr ((Fr.refl [] w3).alloc _) (by simp) (by simp) (by simp)) _ hK1 ⟨#[99]⟩ (by decide) (by decide) (by decide) (by rw [hu1, hr1]; decide) (by omega)
  have hvl := hV.lt
  have HF3 := Lib.hid hF03
  clear hF03 hF3 hV hput hpl hm1
  clear hu1 hr1 hf1
  go_wp2_with fail
  refine hput2.mono ?_
  rintro e w4 ⟨d2, fl, at_, rfl, hpl, -, hV, hK2, hu2, hr2, hf2, hF4⟩
  rw [hp1] at hpl
  obtain ⟨rfl, rfl⟩ := Prod.mk.inj hpl
  have hm2 : max (1 : Int) 2 = 2 := rfl
  rw [hm2] at hV hK2
  have hpa := hF4.blk (hpNew (w := w3) rfl (.cells #[.int .i64 1, .int .i64 0, .int .i64 2] 34)) (by simp; omega)
  have hF04 := (HF3.out.alloc (.cells #[.int .i64 1, .int .i64 0, .int .i64 2] 34)).thenNew hF4 (by simp; omega)
  clear hu2 hr2 hf2 hput2 hpl hm2 hp1 hvl hF4
  have hla := (Array.getElem?_eq_some_iff.1 hpa).1
  have hpb := hpNew (w := w4) rfl (.cells #[.int .i64 2, .int .i64 0, .int .i64 1] 34)
  have hpa2 := hpOld hpa (.cells #[.int .i64 2, .int .i64 0, .int .i64 1] 34)
  have hmem : ((1, 0, [97, 98]) : Ent) ∈ [] ++ [((1, 0, (⟨#[97, 98]⟩ : ByteArray).data.toList) : Ent)] ++ [((2, 0, (⟨#[99]⟩ : ByteArray).data.toList) : Ent)] := by simp
  have hg1 := hK2.got hmem
  have hk1 := hK2.known hmem
  have hget := fun W (f : Fr [] (w4.alloc (.cells #[.int .i64 2, .int .i64 0, .int .i64 1] 34)) W) l => Get_any W (hE.fr ((hF04.alloc _).trans f) (by simp)) v a b d2 1 2 ((hV.fr ((Fr.refl [] w4).alloc _) (by simp) (by simp) (by simp)).fr f (by simp) (by simp) (by simp)) hK2.good 1 0 l (by decide) (by decide) hk1
  have hg2 : getV (unframe (getF d2.files (nameB 1)).has.data.toList 0) 2 = ([97, 98], 0) := hg1
  have hg3 := getV_other (l' := 3) hg2 (by decide)
  have hget1 := fun W f => hget W f 2
  have hget2 := fun W f => hget W f 3
  rw [hg2] at hget1
  rw [hg3] at hget2
  have HF4 := Lib.hid (hF04.alloc (.cells #[.int .i64 2, .int .i64 0, .int .i64 1] 34))
  obtain ⟨p0, p1, p2, q0, q1, q2⟩ := three_at hpa2
  have HPA := Lib.hid hpa2
  have HPB := Lib.hid hpb
  clear hF04 hpa hpa2 hpb hg1 hg2 hg3 hmem hK2 hget hK1 hV hK0
  go_wp2_with fail
  refine (hget1 _ (Fr.refl _ _)).mono ?_
  rintro e w5 ⟨rfl, hF5⟩
  have HF5 := Lib.hid hF5
  clear hF5 p0 p1 p2 q0 q1 q2
  go_wp2_with fail
  refine (hget2 _ HF5.out).mono ?_
  rintro e w6 ⟨rfl, hF6⟩
  obtain ⟨p0, p1, p2, q0, q1, q2⟩ := three_at ((HF5.out.trans hF6).blk HPA.out (by simp))
  obtain ⟨r0, r1, r2, s0, s1, s2⟩ := three_at ((HF5.out.trans hF6).blk HPB.out (by simp))
  have HF6 := Lib.hid (HF4.out.trans (HF5.out.trans hF6))
  clear hF6 hget1 hget2
  go_wp2
  go_ret
  exact ⟨rfl, HF6.out⟩
end Go.Proofs.YtljolihlhfabnaaGreatDoor
