/-
  THE NAMES OF A DISK's FILES, in order.
-/
import Derived.Test.YtljolihlhfabnaaGreatDoorDiskB
import Derived.Sort.OwnSorted
namespace Go.Proofs.YtljolihlhfabnaaGreatDoor
open Go Go.RowKit Go.Maps Go.Sort Go.Shelf

theorem sorts_at (m : Nat) : AnyZ.SortsIn Tryz.prog Tryz.laySorted_ren Fence.wide m :=
  ⟨fun blk off cap ss W hH hblk hsz => callsIn_wide.2 (AnyM.slices_Sort_string Tryz.laySortStr blk off cap ss W hH hblk hsz),
   fun p cap W => callsIn_wide.2 (AnyM.slices_Sort_string_none Tryz.laySortStr p cap W)⟩
theorem keys_any (mb : Option Nat) (W : World) : Calls Tryz.prog 43 #[.map mb] W fun e w' => e = .returned (.func (.func 54) #[] #[.pointer (some ⟨W.heap.size, 0, none⟩)]) ∧ w' = W.alloc (.cells #[.map mb] 52) :=
  callsIn_wide.1 (AnyZ.keys_in Tryz.layKeys Fence.wide 5 trivial rfl mb W)
set_option maxHeartbeats 1000000 in
theorem sortedKeys_any (b nn : Nat) (D0 : DataW Unit) (R : Value → Option (DataW Unit × List MemPlace)) (w : World) (hown : w.ownsMap Tryz.prog 9 R b nn D0) (hmax : Maps.size D0 ≤ maxLen) (hbytes : Maps.size D0 * 16 ≤ 140737488355328) :
    Calls Tryz.prog 42 #[.func (.func 54) #[] #[.pointer (some ⟨w.heap.size, 0, none⟩)]] (w.alloc (.cells #[.map (some b)] 52)) fun e w' => ∃ (v : Value) (ss : List (List UInt8)), e = .returned v ∧ ss.Perm (strKeys D0) ∧
      w'.ownsRow (w.alloc (.cells #[.map (some b)] 52)).heap.size 9 1 v ss.length ((ss.mergeSort (fun x y => decide (x ≤ y))).map encStr) ∧ (v = .slice none 0 0 ↔ ss = []) ∧ Below (w.alloc (.cells #[.map (some b)] 52)).heap.size (w.alloc (.cells #[.map (some b)] 52)) w' := by
  have hbl := hown.lt
  have hseq : SeqGives Fence.wide 2 Tryz.prog 54 #[.pointer (some ⟨w.heap.size, 0, none⟩)] encStr (fun ss => ss.Perm (strKeys D0)) (Maps.size D0) (w.alloc (.cells #[.map (some b)] 52)) :=
    AnyZ.keys_gives (ρ := Tryz.layKeys_ren) { Tryz.layKeys with } Fence.wide _ trivial rfl (by omega) w.heap.size b nn D0 _ (by simp) (by simp) (by
      obtain ⟨es, clock, hb, Ft, hs, hD⟩ := hown
      exact ⟨es, clock, (Below.heap_alloc _ _ b hbl).trans hb, Ft, hs, hD⟩)
  exact callsIn_wide.1 (AnyZ.sorted_in Tryz.laySorted Fence.wide 5 trivial trivial trivial trivial rfl (by omega) (sorts_at _) (enters_of Tryz.func53 (by kernel_rfl) rfl) 54 #[.pointer (some ⟨w.heap.size, 0, none⟩)] trivial (enters_of Tryz.func54 (by kernel_rfl) rfl) _ _ hmax hbytes _ hseq)

theorem before_lt : ∀ a b : Bs, bytesBefore a b = true ↔ a < b
  | [], [] => by simp [bytesBefore]
  | [], y :: s => by simp [bytesBefore]
  | x :: r, [] => by simp [bytesBefore]
  | x :: r, y :: s => by
    simp only [bytesBefore, Bool.or_eq_true, decide_eq_true_eq, Bool.and_eq_true, beq_iff_eq, before_lt r s, List.cons_lt_cons_iff]
/-- The files stand in the order of their names. -/
def SortedF (fs : Files) : Prop := fs.Pairwise fun p q => bytesBefore p.1 q.1 = true
def namesF (fs : Files) : List Bs := fs.map (·.1)
theorem strKeys_files (fs : Files) : strKeys (filesD fs) = namesF fs := by
  simp [filesD, strKeys, namesF, strOf, Function.comp_def]
theorem sort_names {fs : Files} (h : SortedF fs) {ss : List Bs} (hp : ss.Perm (namesF fs)) : ss.mergeSort (fun x y => decide (x ≤ y)) = namesF fs := by
  have h1 : (ss.mergeSort (fun x y => decide (x ≤ y))).Pairwise (fun x y => x ≤ y) := by
    have := List.pairwise_mergeSort (le := fun x y : Bs => decide (x ≤ y)) (fun a b c hab hbc => by
      simp only [decide_eq_true_eq] at *
      exact List.le_trans hab hbc) (fun a b => by
      simp only [Bool.or_eq_true, decide_eq_true_eq]
      exact List.le_total a b) ss
    exact this.imp (by simp)
  have h2 : (namesF fs).Pairwise (fun x y => x ≤ y) := by
    unfold namesF
    rw [List.pairwise_map]
    exact h.imp (fun hb => List.le_of_lt ((before_lt _ _).1 hb))
  exact List.Perm.eq_of_pairwise (fun a b _ _ hab hba => List.le_antisymm hab hba) h1 h2 ((List.mergeSort_perm _ _).trans hp)

set_option maxRecDepth 100000 in
set_option maxHeartbeats 400000 in
theorem names_any (w : World) (a b : Nat) (d : DiskM) (h : DiskAt w a b d) (hs : SortedF d.files) (hn : d.files.length ≤ 1000000) :
    Calls Tryz.prog 27 #[.pointer (some ⟨a, 0, none⟩)] w fun e w' => ∃ v, e = .returned v ∧ w'.ownsRow w.heap.size 9 1 v d.files.length ((namesF d.files).map encStr) ∧ Fr [] w w' := by
  have c2 := (cell_at h.blk 2)
  simp only [List.getElem?_toArray, List.getElem?_cons_succ, List.getElem?_cons_zero] at c2
  have hk := keys_any (some b) w
  have hsz : Maps.size (filesD d.files) = d.files.length := filesD_size _
  have hS := sortedKeys_any b d.files.length (filesD d.files) fileR w h.map (by rw [hsz]; unfold maxLen; omega) (by rw [hsz]; omega)
  rw [strKeys_files] at hS
  clear h hsz
  have HS := Lib.hid hs
  clear hs
  go_enter Tryz.func27, Tryz.ntmps27
  go_wp2_with (first | (go_at_call 43; refine hk.mono ?_; rintro e w' ⟨rfl, rfl⟩) | (go_at_call 42; refine hS.mono ?_; rintro e w' ⟨v, ss, rfl, hP, hrow, hnil, hb⟩))
  go_ret
  have hl : ss.length = d.files.length := by rw [hP.length_eq]; simp [namesF]
  rw [sort_names HS.out hP, hl] at hrow
  exact ⟨v, rfl, ownsRow_base_a hrow (by simp), ((Fr.refl [] w).alloc _).trans (Fr.below hb)⟩
end Go.Proofs.YtljolihlhfabnaaGreatDoor
