/-
  THE DISK's CALLS: Crash: the names stay; of each file what is safe stays, and a beginning of the rest.
-/
import Derived.Test.YtljolihlhfabnaaGreatDoorDiskE
import Derived.Test.YtljolihlhfabnaaGreatDoorCrashP
import Derived.Test.YtljolihlhfabnaaGreatDoorValsP
namespace Go.Proofs.YtljolihlhfabnaaGreatDoor
open Go Go.RowKit Go.Maps Go.Sort

/-- A slice of numbers that lies in none of these blocks. -/
def IntsIn (w : World) (S : List Nat) (p : Option Addr) (n : Nat) (zs : Nat → Int) : Prop :=
  ∀ i, i < n → ∃ g off, p = some ⟨g, off, none⟩ ∧ g < w.heap.size ∧ g ∉ S ∧ w.cell? ⟨g, off + i, none⟩ = some (.int .i64 (zs i)) ∧ -9223372036854775808 ≤ zs i ∧ zs i ≤ 9223372036854775807
theorem IntsIn.fr {w w' : World} {S : List Nat} {p : Option Addr} {n : Nat} {zs : Nat → Int} (h : IntsIn w S p n zs) (f : Fr S w w') : IntsIn w' S p n zs := by
  intro i hi
  obtain ⟨g, off, h1, h2, h3, h4, h5⟩ := h i hi
  exact ⟨g, off, h1, Nat.lt_of_lt_of_le h2 f.size, h3, (f.cell (p := ⟨g, off + i, none⟩) h2 h3).trans h4, h5⟩
/-- A disk's files, each whole and no longer than it is. -/
def SafeF (fs : Files) : Prop := ∀ p ∈ fs, 0 ≤ p.2.safe ∧ p.2.safe ≤ p.2.has.size

theorem take_contains {l : List Bs} {k : Nat} (h : k < l.length) (x : Bs) : (l.take (k + 1)).contains x = ((l.take k).contains x || x == l[k]) := by
  rw [List.take_succ_eq_append_getElem h, List.contains_append]
  by_cases hx : x = l[k] <;> simp [hx]
theorem take_not {l : List Bs} (hnd : l.Nodup) {k : Nat} (h : k < l.length) : (l.take k).contains l[k] = false := by
  rw [← Bool.not_eq_true, List.contains_iff_mem]
  intro hm
  obtain ⟨i, hi, he⟩ := List.getElem_of_mem hm
  rw [List.getElem_take] at he
  have hi' : i < k := by simp at hi; omega
  exact List.pairwise_iff_getElem.1 hnd i k (by omega) h hi' he
/-- What is so behind the first k files. -/
structure CrashK (d dk : DiskM) (names : List Bs) (k : Nat) (m : Bs → Nat) : Prop where
  good : dk.Good
  calm : dk.Calm
  room : dk.room = d.room
  files : dk.files = updF d.files (fun x => (names.take k).contains x) (fun x => tornF (getF d.files x) (m x))
  between : ∀ x, hasF d.files x = true → (names.take k).contains x = true → (getF d.files x).safe ≤ m x ∧ m x ≤ (getF d.files x).has.size
theorem CrashK.skip {d dk : DiskM} {k : Nat} {m : Bs → Nat} (h : CrashK d dk (namesF d.files) k m) (hs : SortedF d.files) (hk : k < (namesF d.files).length)
    (ht : ((getF d.files (namesF d.files)[k]).has.size : Int) - (getF d.files (namesF d.files)[k]).safe = 0) :
    CrashK d dk (namesF d.files) (k + 1) (fun x => if x = (namesF d.files)[k] then (getF d.files (namesF d.files)[k]).has.size else m x) := by
  have hnd : (namesF d.files).Nodup := by
    unfold namesF
    rw [List.Nodup, List.pairwise_map]
    exact hs.ne
  have hno := take_not hnd hk
  refine ⟨h.good, h.calm, h.room, ?_, fun x hx hd => ?_⟩
  · rw [h.files, updF_skip hs _ _ hno]
    unfold updF
    apply List.map_congr_left
    intro p _
    simp only [take_contains hk]
    by_cases he : p.1 = (namesF d.files)[k]
    · rw [he]
      simp only [if_true, tornF_whole ht]
    · simp only [if_neg he]
  · rw [take_contains hk] at hd
    by_cases he : x = (namesF d.files)[k]
    · subst he
      simp only [if_true]
      omega
    · simp only [if_neg he]
      exact h.between x hx (by simpa [he] using hd)
theorem CrashK.step {d dk : DiskM} {k : Nat} {m : Bs → Nat} (h : CrashK d dk (namesF d.files) k m) (hG : d.Good) (hk : k < (namesF d.files).length) (mv : Nat)
    (h1 : (getF d.files (namesF d.files)[k]).safe ≤ mv) (h2 : mv ≤ (getF d.files (namesF d.files)[k]).has.size) :
    CrashK d (dk.set (namesF d.files)[k] (tornF (getF d.files (namesF d.files)[k]) mv)) (namesF d.files) (k + 1) (fun x => if x = (namesF d.files)[k] then mv else m x) := by
  have hs := hG.sorted
  have hnd : (namesF d.files).Nodup := by
    unfold namesF
    rw [List.Nodup, List.pairwise_map]
    exact hs.ne
  have hno := take_not hnd hk
  have hhas : hasF d.files (namesF d.files)[k] = true := mem_names.1 (List.getElem_mem hk)
  have hmay := hG.names _ (List.getElem_mem hk)
  have hget : getF dk.files (namesF d.files)[k] = getF d.files (namesF d.files)[k] := by
    rw [h.files, updF_get _ _ _ _ hhas]
    simp only [hno, Bool.false_eq_true, if_false]
  refine ⟨h.good.set hmay _ ?_ (.inl (by rw [h.files, updF_has]; exact hhas)), set_calm h.calm _ _, h.room, ?_, fun x hx hd => ?_⟩
  · rw [hget]
    have hu := h.good.used
    have hsz : ((tornF (getF d.files (namesF d.files)[k]) mv).has.size : Int) ≤ (getF d.files (namesF d.files)[k]).has.size := by
      unfold tornF
      simp only [ByteArray.size_extract]
      omega
    omega
  · show putF dk.files _ _ = _
    rw [h.files, updF_put hs _ _ hhas]
    unfold updF
    apply List.map_congr_left
    intro p _
    simp only [take_contains hk]
    by_cases he : p.1 = (namesF d.files)[k]
    · rw [he]
      simp only [if_true]
    · simp only [if_neg he]
  · rw [take_contains hk] at hd
    by_cases he : x = (namesF d.files)[k]
    · subst he
      simp only [if_true]
      exact ⟨h1, h2⟩
    · simp only [if_neg he]
      exact h.between x hx (by simpa [he] using hd)

set_option maxRecDepth 100000 in
set_option maxHeartbeats 2000000 in
theorem crash_any (w : World) (a b : Nat) (d : DiskM) (h : DiskAt w a b d) (hG : d.Good) (hS : SafeF d.files) (p : Option Addr) (n c : Nat) (hn : n ≤ 4096) (hnc : n ≤ c) (zs : Nat → Int) (hz : IntsIn w [a, b] p n zs) :
    Calls Tryz.prog 16 #[.pointer (some ⟨a, 0, none⟩), .slice p n c] w fun e w' => ∃ (d' : DiskM) (m : Bs → Nat), e = .returned (.int .i64 0) ∧ DiskAt w' a b d' ∧ d'.Good ∧ d'.Calm ∧ d'.room = d.room ∧
      d'.files = updF d.files (fun _ => true) (fun x => tornF (getF d.files x) (m x)) ∧ (∀ x, hasF d.files x = true → (getF d.files x).safe ≤ m x ∧ m x ≤ (getF d.files x).has.size) ∧ Fr [a, b] w w' := by
  have hlt := h.lt
  have hne := Lib.hid h.ne
  obtain ⟨c0, c1, c2⟩ := disk_cells h
  have c3 := (cell_at h.blk 3).trans rfl
  have c4 := (cell_at h.blk 4).trans rfl
  have c5 := (cell_at h.blk 5).trans rfl
  have f3 := free_at h.blk 3
  have f4 := free_at h.blk 4
  have f5 := free_at h.blk 5
  have H := Lib.hid h
  clear h
  go_enter Tryz.func16, Tryz.ntmps16
  go_wp2_with fail
  have hD0 : DiskAt (((w.setCell ⟨a, 3, none⟩ (.bool false)).setCell ⟨a, 4, none⟩ (.bool false)).setCell ⟨a, 5, none⟩ (.int .i64 0)) a b { d with fused := false, down := false, left := 0 } :=
    ((H.out.put 3 (.bool false) (d' := { d with fused := false }) rfl rfl).put 4 (.bool false) (d' := { d with fused := false, down := false }) rfl rfl).put 5 (.int .i64 0) (d' := { d with fused := false, down := false, left := 0 }) rfl rfl
  have hF0 : Fr [a, b] w (((w.setCell ⟨a, 3, none⟩ (.bool false)).setCell ⟨a, 4, none⟩ (.bool false)).setCell ⟨a, 5, none⟩ (.int .i64 0)) :=
    (((Fr.refl [a, b] w).setIn (p := ⟨a, 3, none⟩) (by simp) _).setIn (p := ⟨a, 4, none⟩) (by simp) _).setIn (p := ⟨a, 5, none⟩) (by simp) _
  have hG0 : ({ d with fused := false, down := false, left := 0 } : DiskM).Good := ⟨hG.sorted, hG.names, hG.many, by simp, hG.sum, hG.top, hG.room⟩
  have hC0 : ({ d with fused := false, down := false, left := 0 } : DiskM).Calm := ⟨rfl, rfl⟩
  refine (names_any _ a b _ hD0 hG.sorted (by have := hG.many; show d.files.length ≤ 1000000; omega)).mono ?_
  rintro e w2 ⟨v0, rfl, hrow, hF2⟩
  simp only at hrow
  obtain ⟨p2, cap2, rfl, hp2⟩ := row_form hrow
  have HROW := Lib.hid hrow
  have HP2 := Lib.hid hp2
  have HD2 := Lib.hid (hD0.fr hF2 (by simp) (by simp))
  have HF2 := Lib.hid (hF0.trans (hF2.mono (by simp)))
  have HZ2 := Lib.hid ((hz.fr hF0).fr (hF2.mono (T := [a, b]) (by simp)))
  have hsl : ∀ j, p2 = some ⟨j, 0, none⟩ → a < j ∧ b < j := fun j hj => by
    subst hj
    have := (own_lt hrow j rfl).1
    simp at this
    omega
  have HSL := Lib.hid hsl
  clear hrow hp2 hD0 hF2 hF0 c0 c1 c2 c3 c4 c5 f3 f4 f5 hz hsl
  go_wp2_with fail
  go_loopw [1, 25] (fun u i wr => ∃ (k : Nat) (dk : DiskM) (m : Bs → Nat) (p' : Option Addr) (n' c' : Nat) (zs' : Nat → Int), i = .int .i64 k ∧ k ≤ d.files.length ∧ u = .slice p' n' c' ∧ n' ≤ 4096 ∧ n' ≤ c' ∧ IntsIn wr [a, b] p' n' zs' ∧
      DiskAt wr a b dk ∧ CrashK d dk (namesF d.files) k m ∧ Fr [a, b] w2 wr) (fun _ i _ => d.files.length - (intOf i).toNat)
  case atStart =>
    refine ⟨0, _, fun _ => 0, p, n, c, zs, rfl, Nat.zero_le _, rfl, hn, hnc, HZ2.out, HD2.out, ⟨hG0, hC0, rfl, ?_, fun x _ hx => by simp at hx⟩, Fr.refl _ _⟩
    simp [updF]
  case round =>
    obtain ⟨k, dk, m, p', n', c', zs', rfl, hk, rfl, hn', hnc', hz', hD, hCK, hF⟩ := hrel
    have hmany := hG.many
    by_cases hlt2 : k < d.files.length
    · obtain ⟨g2, rfl⟩ := HP2.out (by omega)
      have hnl : (namesF d.files).length = d.files.length := by simp [namesF]
      have hkl : k < (namesF d.files).length := by omega
      have hab := HSL.out g2 rfl
      have hcell : wr.cell? ⟨g2, k, none⟩ = some (.string ⟨(namesF d.files)[k].toArray⟩) := by
        rw [hF.cell (own_lt HROW.out g2 rfl).2 (by simp; omega), HROW.out.cellAt k (by omega)]
        simp [encStr, hkl]
      have hmem := List.getElem_mem hkl
      have hhas : hasF d.files (namesF d.files)[k] = true := mem_names.1 hmem
      have hml := mayN_length (hG.names _ hmem)
      have hnd : (namesF d.files).Nodup := by
        unfold namesF
        rw [List.Nodup, List.pairwise_map]
        exact hG.sorted.ne
      have hget : getF dk.files (namesF d.files)[k] = getF d.files (namesF d.files)[k] := by
        rw [hCK.files, updF_get _ _ _ _ hhas]
        simp only [take_not hnd hkl, Bool.false_eq_true, if_false]
      have hsf : 0 ≤ (getF d.files (namesF d.files)[k]).safe ∧ (getF d.files (namesF d.files)[k]).safe ≤ (getF d.files (namesF d.files)[k]).has.size := by
        obtain ⟨q, hq, hqk⟩ := List.mem_map.1 hmem
        rw [← hqk, getF_mem hG.sorted hq]
        exact hS q hq
      have hbs : (getF d.files (namesF d.files)[k]).has.size ≤ 262144 := by have := hG.has (namesF d.files)[k]; have := hG.used; have := hG.room; omega
      have hskip := fun ht => hCK.skip hG.sorted hkl ht
      have hstep := fun mv h1 h2 => hCK.step hG hkl mv h1 h2
      have hlk := hD.map.look (s := ⟨(namesF d.files)[k].toArray⟩) (by rw [size_mk]; unfold maxLen; omega)
      have hlk : (Instr.lookup 52 (.map (some b)) (.string ⟨(namesF d.files)[k].toArray⟩) false).run Tryz.prog wr = .ok (fileV (getF d.files (namesF d.files)[k])) wr := by rw [hlk, hget]
      have hset := fun W (hW : DiskAt W a b dk) (mv : Nat) (hmv : mv ≤ (getF d.files (namesF d.files)[k]).has.size) => set_any W a b dk hW ⟨(namesF d.files)[k].toArray⟩ (tornF (getF d.files (namesF d.files)[k]) mv) (by rw [size_mk]; unfold maxLen; omega)
        (by have := hCK.good.many; unfold maxLen; omega) (by have := hCK.good.used; have := hCK.good.room; omega) (by unfold tornF; simp; omega) (by show (getF dk.files (namesF d.files)[k]).has.size ≤ 1000000; rw [hget]; omega)
      simp only at hset
      obtain ⟨_, _, c2⟩ := disk_cells hD
      clear hget hnd hmem hhas hml hnl
      generalize (namesF d.files)[k] = nm at hcell hsf hbs hskip hstep hlk hset
      generalize getF d.files nm = f at hsf hbs hskip hstep hlk hset
      obtain ⟨hb, sf⟩ := f
      simp only at hsf hbs hskip hstep hset
      unfold fileV at hlk
      simp only at hlk
      have hwr : IntKind.i64.wrap ((hb.size : Int) - sf) = (hb.size : Int) - sf := IntWalk.i64_in _ (by omega)
      have HSK := Lib.hid hskip
      have HST := Lib.hid hstep
      have HSET := Lib.hid hset
      have HD := Lib.hid hD
      have HF := Lib.hid hF
      have HZ := Lib.hid hz'
      clear hskip hstep hset hD hF hz' hCK
      by_cases ht : (hb.size : Int) - sf = 0
      · go_wp2
        exact ⟨⟨k + 1, dk, _, p', n', c', zs', by simp, by omega, rfl, hn', hnc', HZ.out.fr ((Fr.refl [a, b] wr).alloc _), HD.out.alloc _, HSK.out ht, HF.out.alloc _⟩, by simp [intOf]; omega⟩
      · by_cases hn0 : n' = 0
        · subst hn0
          obtain ⟨mv, rfl⟩ := Int.eq_ofNat_of_zero_le hsf.1
          have hslc := fun W => slH hb mv (mv : Int) rfl (by omega) W
          have hw1 : IntKind.i64.wrap (mv : Int) = (mv : Int) := IntWalk.i64_in _ (by omega)
          have hw0 : IntKind.i64.wrap ((mv : Int) + 0) = (mv : Int) := by rw [Int.add_zero]; exact hw1
          go_wp2_with fail
          refine reg_tail 14 (by kernel_rfl) (by kernel_rfl) (fun W hW hFW => ?_)
          obtain ⟨x0, x1, z0, z1⟩ := two_at (show W.heap[wr.heap.size]? = some (.cells #[.string hb, .int .i64 mv] 70 (0, 0)) from new_blk hW)
          have hFW2 : Fr [a, b] wr W := ((Fr.refl [a, b] wr).alloc _).trans (hFW.mono (by simp))
          have HDW := Lib.hid (HD.out.fr (((Fr.refl [] wr).alloc _).trans hFW) (by simp) (by simp))
          have HFW := Lib.hid hFW2
          clear hW hFW hFW2 hlk hcell
          simp only [List.take_succ_cons, List.take_zero, List.drop_succ_cons, List.drop_zero]
          repeat still_step
          refine wpStill_nil ?_
          go_wp2_with fail
          refine (HSET.out W HDW.out mv (by omega)).mono ?_
          rintro e w5 ⟨rfl, hD5, hF5⟩
          have HD5 := Lib.hid hD5
          have HF5 := Lib.hid (HFW.out.trans hF5)
          clear hD5 hF5
          go_wp2
          exact ⟨⟨k + 1, _, _, p', 0, c', zs', by simp, by omega, rfl, by omega, by omega, fun i hi => by omega, HD5.out, HST.out mv (by omega) (by omega), HF.out.trans HF5.out⟩, by simp [intOf]; omega⟩
        · obtain ⟨g, off, rfl, hgl, hgS, hc0, hz0, hz1⟩ := HZ.out 0 (by omega)
          simp only [Nat.add_zero] at hc0
          have hgt : (0 : Int) < n' := by omega
          have ht1 : ¬ ((hb.size : Int) - sf + 1 = 0) := by omega
          have ht2 : ¬ ((hb.size : Int) - sf + 1 = -1) := by omega
          have hw2 : IntKind.i64.wrap ((hb.size : Int) - sf + 1) = (hb.size : Int) - sf + 1 := IntWalk.i64_in _ (by omega)
          generalize zs' 0 = z at hc0 hz0 hz1
          have hk0 : 0 ≤ (max 0 z).tmod ((hb.size : Int) - sf + 1) := Int.tmod_nonneg _ (by omega)
          have hk1 : (max 0 z).tmod ((hb.size : Int) - sf + 1) < (hb.size : Int) - sf + 1 := Int.tmod_lt_of_pos _ (by omega)
          by_cases hc1 : c' = 1
          · subst hc1
            obtain rfl : n' = 1 := by omega
            have hem : (max 0 z).tmod ((hb.size : Int) - sf + 1) = max 0 z % ((hb.size : Int) - sf + 1) := Int.tmod_eq_emod_of_nonneg (by omega)
            rw [hem] at hk0 hk1
            obtain ⟨mv, hmv⟩ := Int.eq_ofNat_of_zero_le (show 0 ≤ sf + max 0 z % ((hb.size : Int) - sf + 1) by omega)
            have hslc := fun W => slH hb mv (sf + max 0 z % ((hb.size : Int) - sf + 1)) hmv (by omega) W
            have hw3 : IntKind.i64.wrap (sf + max 0 z % ((hb.size : Int) - sf + 1)) = sf + max 0 z % ((hb.size : Int) - sf + 1) := IntWalk.i64_in _ (by omega)
            have hset2 := fun W hW => HSET.out W hW mv (by omega)
            have hst2 := HST.out mv (by omega) (by omega)
            have hmv2 : (mv : Int) = sf + max 0 z % ((hb.size : Int) - sf + 1) := hmv.symm
            unfold fileV tornF at hset2
            simp only [hmv2] at hset2
            unfold tornF at hst2
            simp only [hmv2] at hst2
            have HST2 := Lib.hid hst2
            clear hst2 hmv2 hmv hem
            go_wp2_with fail
            refine reg_tail 14 (by kernel_rfl) (by kernel_rfl) (fun W hW hFW => ?_)
            obtain ⟨x0, x1, z0, z1⟩ := two_at (show W.heap[wr.heap.size]? = some (.cells #[.string hb, .int .i64 sf] 70 (0, 0)) from new_blk hW)
            have hFW2 : Fr [a, b] wr W := ((Fr.refl [a, b] wr).alloc _).trans (hFW.mono (by simp))
            have HDW := Lib.hid (HD.out.fr (((Fr.refl [] wr).alloc _).trans hFW) (by simp) (by simp))
            have HFW := Lib.hid hFW2
            clear hW hFW hFW2 hlk hcell hc0
            simp only [List.take_succ_cons, List.take_zero, List.drop_succ_cons, List.drop_zero]
            repeat still_step
            refine wpStill_nil ?_
            go_wp2_with fail
            refine (hset2 W HDW.out).mono ?_
            rintro e w5 ⟨rfl, hD5, hF5⟩
            have HD5 := Lib.hid hD5
            have HF5 := Lib.hid (HFW.out.trans hF5)
            clear hD5 hF5 hset2
            go_wp2
            exact ⟨⟨k + 1, _, _, _, _, _, zs', by simp, by omega, rfl, by omega, by omega, fun i hi => by omega, HD5.out, HST2.out, HF.out.trans HF5.out⟩, by simp [intOf]; omega⟩
          · have hc2 : ¬ c' - 1 = 0 := by omega
            have hem : (max 0 z).tmod ((hb.size : Int) - sf + 1) = max 0 z % ((hb.size : Int) - sf + 1) := Int.tmod_eq_emod_of_nonneg (by omega)
            rw [hem] at hk0 hk1
            obtain ⟨mv, hmv⟩ := Int.eq_ofNat_of_zero_le (show 0 ≤ sf + max 0 z % ((hb.size : Int) - sf + 1) by omega)
            have hslc := fun W => slH hb mv (sf + max 0 z % ((hb.size : Int) - sf + 1)) hmv (by omega) W
            have hw3 : IntKind.i64.wrap (sf + max 0 z % ((hb.size : Int) - sf + 1)) = sf + max 0 z % ((hb.size : Int) - sf + 1) := IntWalk.i64_in _ (by omega)
            have hset2 := fun W hW => HSET.out W hW mv (by omega)
            have hst2 := HST.out mv (by omega) (by omega)
            have hmv2 : (mv : Int) = sf + max 0 z % ((hb.size : Int) - sf + 1) := hmv.symm
            unfold fileV tornF at hset2
            simp only [hmv2] at hset2
            unfold tornF at hst2
            simp only [hmv2] at hst2
            have HST2 := Lib.hid hst2
            clear hst2 hmv2 hmv hem
            go_wp2_with fail
            refine reg_tail 14 (by kernel_rfl) (by kernel_rfl) (fun W hW hFW => ?_)
            obtain ⟨x0, x1, z0, z1⟩ := two_at (show W.heap[wr.heap.size]? = some (.cells #[.string hb, .int .i64 sf] 70 (0, 0)) from new_blk hW)
            have hFW2 : Fr [a, b] wr W := ((Fr.refl [a, b] wr).alloc _).trans (hFW.mono (by simp))
            have HDW := Lib.hid (HD.out.fr (((Fr.refl [] wr).alloc _).trans hFW) (by simp) (by simp))
            have HFW := Lib.hid hFW2
            clear hW hFW hFW2 hlk hcell hc0
            simp only [List.take_succ_cons, List.take_zero, List.drop_succ_cons, List.drop_zero]
            repeat still_step
            refine wpStill_nil ?_
            go_wp2_with fail
            refine (hset2 W HDW.out).mono ?_
            rintro e w5 ⟨rfl, hD5, hF5⟩
            have HD5 := Lib.hid hD5
            have HF5 := Lib.hid (HFW.out.trans hF5)
            clear hD5 hF5 hset2
            go_wp2
            refine ⟨⟨k + 1, _, _, _, _, _, fun i => zs' (i + 1), by simp, by omega, rfl, by omega, by omega, fun i hi => ?_, HD5.out, HST2.out, HF.out.trans HF5.out⟩, by simp [intOf]; omega⟩
            obtain ⟨g', off', he, hl', hs', hc', hz'⟩ := HZ.out (i + 1) (by omega)
            simp only [Option.some.injEq, Addr.mk.injEq, and_true] at he
            obtain ⟨rfl, rfl⟩ := he
            refine ⟨g, off + 1, rfl, Nat.lt_of_lt_of_le hl' HF5.out.size, hs', ?_, hz'⟩
            rw [HF5.out.cell (p := ⟨g, off + 1 + i, none⟩) hl' hs', show off + 1 + i = off + (i + 1) by omega]
            exact hc'
    · have hkE : k = d.files.length := by omega
      have HD := Lib.hid hD
      have HCK := Lib.hid hCK
      have HF := Lib.hid hF
      clear hD hCK hF hz'
      go_wp2
      go_ret
      have hall : ∀ x, hasF d.files x = true → ((namesF d.files).take k).contains x = true := fun x hx => by
        rw [hkE, List.take_of_length_le (by simp [namesF]), List.contains_iff_mem]
        exact mem_names.2 hx
      refine ⟨dk, m, rfl, HD.out, HCK.out.good, HCK.out.calm, HCK.out.room, ?_, fun x hx => HCK.out.between x hx (hall x hx), HF2.out.trans HF.out⟩
      rw [HCK.out.files]
      exact updF_congr fun x hx => by rw [hall x hx]
end Go.Proofs.YtljolihlhfabnaaGreatDoor
