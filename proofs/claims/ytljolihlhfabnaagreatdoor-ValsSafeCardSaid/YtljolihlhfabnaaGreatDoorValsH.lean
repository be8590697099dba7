/-
  LAYER VALS: Open, Places.
-/
import Derived.Test.YtljolihlhfabnaaGreatDoorValsG
namespace Go.Proofs.YtljolihlhfabnaaGreatDoor
open Go Go.RowKit Go.Maps Go.Sort

set_option maxRecDepth 100000 in
set_option maxHeartbeats 1000000 in
theorem Open_ok (w : World) (hE : Env w) (a b : Nat) (d : DiskM) (most : Int) (h : DiskAt w a b d) (hlow : lowB ≤ a ∧ lowB ≤ b) (hG : d.Good) (hC : d.Calm) (hm : 1 ≤ most ∧ most ≤ 65536) :
    Calls Tryz.prog 8 #[.pointer (some ⟨a, 0, none⟩), .int .i64 most] w fun e w' => ∃ v, e = .returned (.tuple #[.pointer (some ⟨v, 0, none⟩), .int .i64 0]) ∧ w.heap.size ≤ v ∧
      ValsAt w' v a b (mendAll d (numbersF d.files)) most (lastOr 0 (numbersF d.files)) ∧ Fr [a, b] w w' := by
  have hlt := h.lt
  have hF0 : Fr [] w (w.alloc (.cells #[.pointer (some ⟨a, 0, none⟩), .int .i64 most, .int .i64 0] 56)) := (Fr.refl [] w).alloc _
  have hV0 : ValsAt (w.alloc (.cells #[.pointer (some ⟨a, 0, none⟩), .int .i64 most, .int .i64 0] 56)) w.heap.size a b d most 0 := ⟨hpNew rfl _, h.fr hF0 (by simp) (by simp)⟩
  have hmd := mend_ok _ (hE.fr hF0 (by simp)) w.heap.size a b d most 0 hV0 (by omega) hG hC
  clear h hV0
  generalize mendAll d (numbersF d.files) = d2 at hmd ⊢
  generalize lastOr 0 (numbersF d.files) = top at hmd ⊢
  go_enter Tryz.func8, Tryz.ntmps8
  go_wp2_with (go_at_call 17; refine hmd.mono ?_; rintro e w1 ⟨rfl, hV, hF⟩)
  go_ret2
  refine ⟨w.heap.size, rfl, Nat.le_refl _, hV, ?_⟩
  exact ⟨hF.os, hF.tape, hF.output, Nat.le_trans hF0.size hF.size, fun k hk hs => by
    rw [hF.block k (Nat.lt_of_lt_of_le hk hF0.size) (by simp at hs ⊢; omega)]; exact hF0.block k hk (by simp)⟩

/-- Places of values one behind the other. -/
def placesOf (n : Int) : Nat → List Bs → List (Int × Int × Int)
  | _, [] => []
  | at_, s :: r => (n, (at_ : Int), (s.length : Int)) :: placesOf n (at_ + (8 + s.length)) r
def placeCells (l : List (Int × Int × Int)) : List Value := l.flatMap fun p => [.int .i64 p.1, .int .i64 p.2.1, .int .i64 p.2.2]
def widthOf (l : List Bs) : Nat := (l.map fun s => 8 + s.length).sum
theorem placesOf_snoc (n : Int) (s : Bs) : ∀ (l : List Bs) (k : Nat), placesOf n k (l ++ [s]) = placesOf n k l ++ [(n, ((k + widthOf l : Nat) : Int), (s.length : Int))]
  | [], k => by simp [placesOf, widthOf]
  | x :: r, k => by
    have : k + (8 + x.length) + widthOf r = k + widthOf (x :: r) := by simp [widthOf]; omega
    simp only [List.cons_append, placesOf, placesOf_snoc n s r, this]
theorem widthOf_snoc (l : List Bs) (s : Bs) : widthOf (l ++ [s]) = widthOf l + (8 + s.length) := by simp [widthOf]
theorem widthOf_take (l : List Bs) (k : Nat) : widthOf (l.take k) ≤ widthOf l := by
  have : widthOf (l.take k) + widthOf (l.drop k) = widthOf l := by
    unfold widthOf
    rw [← List.sum_append, ← List.map_append, List.take_append_drop]
  omega
theorem len_le_width : ∀ l : List Bs, l.length ≤ widthOf l
  | [] => by simp
  | x :: r => by
    have := len_le_width r
    simp only [widthOf, List.map_cons, List.sum_cons, List.length_cons] at this ⊢
    omega
theorem placeCells_snoc (l : List (Int × Int × Int)) (p : Int × Int × Int) : placeCells (l ++ [p]) = placeCells l ++ [.int .i64 p.1, .int .i64 p.2.1, .int .i64 p.2.2] := by simp [placeCells]
theorem placesOf_length (n : Int) : ∀ (l : List Bs) (k : Nat), (placesOf n k l).length = l.length
  | [], _ => rfl
  | x :: r, k => by simp [placesOf, placesOf_length n r]
theorem infoPlace : (Tryz.prog.info? 34).map (fun i => (i.zero, i.size, i.bytes)) = some (some (.agg #[.int .i64 0, .int .i64 0, .int .i64 0]), 3, 24) := by kernel_rfl
theorem framesFrom_width (b : Bs) (k : Nat) : widthOf (framesFrom b k).1 + k = (framesFrom b k).2 ∧ ((framesFrom b k).2 ≤ b.length ∨ (framesFrom b k).2 = k) := by
  induction k using framesFrom.induct b with
  | case1 k h _ ih =>
    rw [framesFrom, dif_pos h]
    have hf := unframe_fin h
    have hb : (unframe b k).fin = k + 8 + (unframe b k).body.length := by
      revert h
      unfold unframe UnF.ok
      simp only
      split
      · simp
      · rename_i h1
        split
        · simp
        · split
          · simp
          · split
            · simp
            · rename_i h4
              split
              · simp
              · intro _
                simp only [Int.toNat_natCast, List.length_drop, List.length_take] at h4 ⊢
                omega
    obtain ⟨ih1, ih2⟩ := ih
    simp only [widthOf, List.map_cons, List.sum_cons] at ih1 ⊢
    omega
  | case2 k h =>
    rw [framesFrom, dif_neg h]
    simp [widthOf]

set_option maxRecDepth 100000 in
set_option maxHeartbeats 2000000 in
theorem Places_ok (w : World) (hE : Env w) (v a b : Nat) (d : DiskM) (most top : Int) (h : ValsAt w v a b d most top) (hG : d.Good) (n : Int) (h1 : 1 ≤ n) (h2 : n ≤ 1048576) (hk : d.known (nameB n) = 0) :
    Calls Tryz.prog 12 #[.pointer (some ⟨v, 0, none⟩), .int .i64 n] w fun e w' => ∃ u, e = .returned (.tuple #[u, .int .i64 0]) ∧
      w'.ownsRow w.heap.size 34 3 u (placesOf n 0 (frames (getF d.files (nameB n)).has.data.toList).1).length (placeCells (placesOf n 0 (frames (getF d.files (nameB n)).has.data.toList).1)) ∧ Fr [] w w' := by
  have hmf : ∀ (fn : Fn) (first cap : Array Value) (w : World), (Instr.makeFunc fn first cap).run Tryz.prog w = .ok (.func fn first cap) w := fun _ _ _ _ => rfl
  have hF0 : Fr [] w (w.alloc (.cells #[.int .i64 0] 24)) := (Fr.refl [] w).alloc _
  have hhas := has_ok _ (hE.fr hF0 (by simp)) v a b d most top (h.fr hF0 (by simp) (by simp) (by simp)) n h1 h2 hk
  have hbs : (getF d.files (nameB n)).has.size ≤ 262144 := by have := hG.has (nameB n); have := hG.used; have := hG.room; omega
  have hfrm := fun W => frames_any (getF d.files (nameB n)).has (by omega) W
  have hwd := framesFrom_width (getF d.files (nameB n)).has.data.toList 0
  rw [show framesFrom (getF d.files (nameB n)).has.data.toList 0 = frames (getF d.files (nameB n)).has.data.toList from rfl] at hwd
  clear h hk
  generalize (getF d.files (nameB n)).has = bb at hhas hfrm hwd hbs ⊢
  have hw3 : widthOf (frames bb.data.toList).1 ≤ 262144 := by
    have : bb.data.toList.length = bb.size := by simp
    omega
  clear hwd hbs
  generalize (frames bb.data.toList).2 = m at hfrm
  generalize (frames bb.data.toList).1 = bodies at hfrm hw3 ⊢
  have hbl := len_le_width bodies
  go_enter_defers Tryz.func12, Tryz.ntmps12
  go_wp2_with fail
  refine hhas.mono ?_
  rintro e w1 ⟨rfl, hF1⟩
  have hbe := hF1.blk (hpNew (w := w) rfl (.cells #[.int .i64 0] 24)) (by simp)
  have HBE := Lib.hid hbe
  have HF1 := Lib.hid (hF0.trans hF1)
  clear hbe hF1 hF0 hhas
  go_wp2_with fail
  refine (hfrm w1).mono ?_
  rintro e w2 ⟨fv, rfl, hrow, hF2⟩
  obtain ⟨p, cap, rfl, hp⟩ := row_form hrow
  have HROW := Lib.hid hrow
  have HP := Lib.hid hp
  have HF2 := Lib.hid (HF1.out.trans hF2)
  have HBE2 := Lib.hid (hF2.blk HBE.out (by simp))
  clear hrow hp hF2 hfrm HBE
  go_wp2_with fail
  go_loopw [4, 8, 20] (fun u at_ i wr => ∃ (k : Nat), i = .int .i64 k ∧ k ≤ bodies.length ∧ at_ = .int .i64 (widthOf (bodies.take k) : Nat) ∧
      wr.ownsRow w2.heap.size 34 3 u (placesOf n 0 (bodies.take k)).length (placeCells (placesOf n 0 (bodies.take k))) ∧ Fr [] w2 wr) (fun _ _ i _ => bodies.length - (intOf i).toNat)
  case atStart => exact ⟨0, rfl, Nat.zero_le _, by simp [widthOf], World.ownsRow_nil _ _ _ _, Fr.refl _ _⟩
  case round =>
    obtain ⟨k, rfl, hk, rfl, hown, hF⟩ := hrel
    have HB : w2.heap.size ≤ wr.heap.size := hF.size
    by_cases hlt : k < bodies.length
    · obtain ⟨g, rfl⟩ := HP.out (by omega)
      have hcell : wr.cell? ⟨g, k, none⟩ = some (.string ⟨bodies[k].toArray⟩) := by
        rw [hF.cell (own_lt HROW.out g rfl).2 (by simp), HROW.out.cellAt k (by omega)]
        simp [encStr, hlt]
      have htk : bodies.take (k + 1) = bodies.take k ++ [bodies[k]] := List.take_succ_eq_append_getElem hlt
      have hw4 := widthOf_take bodies (k + 1)
      have hpn : placesOf n 0 (bodies.take (k + 1)) = placesOf n 0 (bodies.take k) ++ [(n, (widthOf (bodies.take k) : Int), (bodies[k].length : Int))] := by rw [htk, placesOf_snoc]; simp
      have hwn : widthOf (bodies.take (k + 1)) = widthOf (bodies.take k) + (8 + bodies[k].length) := by rw [htk, widthOf_snoc]
      rw [hwn] at hw4
      have hpl : (placesOf n 0 (bodies.take k)).length ≤ 1000000 := by
        rw [placesOf_length]
        have := len_le_width (bodies.take k)
        omega
      have HPN := Lib.hid (And.intro hpn hwn)
      have HOWN := Lib.hid hown
      have HF := Lib.hid hF
      clear htk hpn hwn hown hF
      generalize bodies[k] = s at hcell hw4 HPN
      generalize placesOf n 0 (bodies.take k) = acc at HPN HOWN hpl
      generalize widthOf (bodies.take k) = wd at HPN hw4
      go_wp2_with (at_builtin; refine app1 rfl _ _ 32 rfl w2.heap.size 34 (.agg #[.int .i64 0, .int .i64 0, .int .i64 0]) 3 24 Tryz.underlying32 infoPlace rfl (by decide) (by decide) u4 acc.length (placeCells acc) rfl (HOWN.out.alloc _) wr.heap.size 1 [.int .i64 n, .int .i64 wd, .int .i64 s.length] rfl rfl (cellsNewAt rfl _ _ _ rfl) (by simp [Value.oneCell']) (by omega) (leAlloc HB _) ?_; intro v' w4 hown4 hg4 hloc; refine Hid.out ?_)
      have HW := Lib.hid hown4
      have HF4 := Lib.hid ((HF.out.alloc (.cells #[.int .i64 n, .int .i64 wd, .int .i64 s.length] 34)).grown hg4 (fun j hj => .inr (own_lt HOWN.out j hj).1))
      clear hown4 hg4 hloc
      refine Lib.hid ?_
      go_wp2
      exact ⟨⟨k + 1, by simp, by omega, by rw [HPN.out.2]; simp, by rw [HPN.out.1, placeCells_snoc, List.length_append]; exact HW.out, HF4.out⟩, by simp [intOf]; omega⟩
    · obtain rfl : k = bodies.length := by omega
      rw [List.take_length] at hown
      have hbe := hF.blk HBE2.out (by simp)
      have e0 : wr.cell? ⟨w.heap.size, 0, none⟩ = some (.int .i64 0) := (cell_at hbe 0).trans rfl
      have z0 := free_at hbe 0
      have hlW := (Array.getElem?_eq_some_iff.1 hbe).1
      have HOWN := Lib.hid hown
      have hb2 := HF2.out.size
      have HF := Lib.hid (HF2.out.trans hF)
      have hl0 := (Array.getElem?_eq_some_iff.1 HBE2.out).1
      clear hown hF hbe
      go_wp2
      refine leaves_cons (f := 18) (args := #[.pointer (some ⟨w.heap.size, 0, none⟩)]) (by simp) (by simp [go_sem]) ?_
      refine (caught_idle _ _).mono ?_
      rintro e u' w'' ⟨rfl, rfl, rfl⟩
      simp [Leaves, settle, results, Tryz.results12, go_sem, e0]
      refine ⟨?_, HF.out.setNew (p := ⟨w.heap.size, 0, none⟩) (Nat.le_refl _) _⟩
      have := HOWN.out
      refine own_fr (ownsRow_base_a this hb2) ((Fr.refl [w.heap.size] wr).setIn (p := ⟨w.heap.size, 0, none⟩) (by simp) _) (fun j hj => ?_)
      have := (own_lt this j hj).1
      simp
      omega
end Go.Proofs.YtljolihlhfabnaaGreatDoor
