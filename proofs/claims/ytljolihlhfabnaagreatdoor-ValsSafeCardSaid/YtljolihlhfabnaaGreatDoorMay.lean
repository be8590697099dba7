/-
  MAY A NAME BE: the closure, the search, the question.
-/
import Derived.Test.YtljolihlhfabnaaGreatDoorLib
namespace Go.Proofs.YtljolihlhfabnaaGreatDoor
open Go Go.RowKit Go.Maps

theorem okByte_cutset (c : UInt8) : cutset.contains c = okByte c := by
  have h : ∀ n : Fin 256, cutset.contains (UInt8.ofNat n.val) = okByte (UInt8.ofNat n.val) := by decide +kernel
  have := h ⟨c.toNat, c.toNat_lt⟩
  simpa using this
theorem dropWhile_nil {α : Type} (p : α → Bool) : ∀ l : List α, (l.dropWhile p = []) ↔ l.all p = true
  | [] => by simp
  | x :: r => by
    rw [List.dropWhile_cons]
    cases h : p x <;> simp [h, dropWhile_nil p r]
theorem trimS_nil (l : Bs) : (Lib.trimS l cutset = []) ↔ l.all okByte = true := by
  have e : (fun c => cutset.contains c) = okByte := funext okByte_cutset
  unfold Lib.trimS Lib.trimLeftS Lib.trimRightS
  rw [e, dropWhile_nil]
  constructor
  · intro h
    have h1 : l.reverse.dropWhile okByte = [] := by
      cases hd : l.reverse.dropWhile okByte with
      | nil => rfl
      | cons x r =>
        exfalso
        have hx : okByte x = false := by
          have := List.head_dropWhile_not okByte (l := l.reverse) (by rw [hd]; simp)
          simpa [hd] using this
        rw [hd] at h
        have := List.all_eq_true.1 h x (by simp)
        rw [hx] at this
        cases this
    have h2 := (dropWhile_nil okByte _).1 h1
    simpa using h2
  · intro h
    have h1 : l.reverse.dropWhile okByte = [] := (dropWhile_nil okByte _).2 (by simpa using h)
    rw [h1]; rfl

theorem ret_bool' {a b : Bool} (h : a = b) : Ending.returned (.bool a) = .returned (.bool b) := by rw [h]
set_option maxHeartbeats 400000 in
theorem may1_any (s : ByteArray) (w : World) (hs : s.size ≤ maxLen) :
    Calls Tryz.prog 57 #[.string s] w fun e w' => e = .returned (.bool (!mayN s.data.toList)) ∧ Fr [] w w' := by
  have hm : s.size = s.data.toList.length := by simp
  have hs' := hs
  unfold maxLen at hs
  by_cases h0 : s.data.toList = []
  · have h1 : s.toList.isEmpty = true := by rw [ByteArray.toList_eq, h0]; rfl
    have hr : mayN s.data.toList = false := by rw [h0]; rfl
    have HR := Lib.hid hr
    clear h0 hm hr hs'
    go_enter Tryz.func57, Tryz.ntmps57
    go_wp2
    go_ret
    exact ⟨ret_bool' (by rw [HR.out]; rfl), Fr.refl _ _⟩
  · have h1 : s.toList.isEmpty = false := by rw [ByteArray.toList_eq]; simpa using h0
    by_cases h2 : 32 < s.size
    · have hr : mayN s.data.toList = false := by unfold mayN; rw [← hm]; simp; omega
      have HR := Lib.hid hr
      have H2 : decide ((32 : Int) < (s.size : Int)) = true := by simp; omega
      clear h0 hm hr hs'
      go_enter Tryz.func57, Tryz.ntmps57
      go_wp2
      go_ret
      exact ⟨ret_bool' (by rw [HR.out]; rfl), Fr.refl _ _⟩
    · have H2 : decide ((32 : Int) < (s.size : Int)) = false := by simp; omega
      have hr : mayN s.data.toList = s.data.toList.all okByte := by
        have e1 : (!s.data.toList.isEmpty) = true := by simpa using h0
        have e2 : decide (s.data.toList.length ≤ 32) = true := by rw [← hm]; simp; omega
        rw [mayN, e1, e2]; rfl
      have HR := Lib.hid hr
      have hT : (Lib.trimS s.data.toList cutset).isEmpty = s.data.toList.all okByte := by
        have := trimS_nil s.data.toList
        rw [Bool.eq_iff_iff, List.isEmpty_iff]; exact this
      have hc := trim_any s w hs'
      clear h0 hm hr hs'
      generalize hx : Lib.trimS s.data.toList cutset = x at hc hT
      have HT := Lib.hid hT
      clear hx hT
      cases x with
      | nil =>
        go_enter Tryz.func57, Tryz.ntmps57
        go_wp2_with (go_at_call 58; refine hc.mono ?_; rintro e w' ⟨rfl, hF⟩)
        go_ret
        exact ⟨ret_bool' (by rw [HR.out, ← HT.out]; rfl), hF⟩
      | cons a r =>
        go_enter Tryz.func57, Tryz.ntmps57
        go_wp2_with (go_at_call 58; refine hc.mono ?_; rintro e w' ⟨rfl, hF⟩)
        go_ret
        exact ⟨ret_bool' (by rw [HR.out, ← HT.out]; rfl), hF⟩

/-- The strings of a slice, each in its cell. -/
def StrsAt (w : World) (A : Option Addr) (ss : List ByteArray) : Prop := ss.length ≤ 1000000 ∧ ∀ j (h : j < ss.length), ∃ ad, A = some ad ∧ w.cell? (ad.add j) = some (.string ss[j])
def allMay (ss : List ByteArray) : Bool := ss.all fun s => mayN s.data.toList
set_option maxHeartbeats 400000 in
theorem indexMay (w : World) (g off c : Nat) (ss : List ByteArray) (hn : ss.length ≤ 1000000) (hg : g < w.heap.size) (hs : ∀ s ∈ ss, s.size ≤ maxLen)
    (hc : ∀ j (h : j < ss.length), w.cell? ⟨g, off + j, none⟩ = some (.string ss[j])) :
    Calls Tryz.prog 79 #[.slice (some ⟨g, off, none⟩) ss.length c, .func (.func 57) #[] #[]] w fun e w' => (∃ i : Int, e = .returned (.int .i64 i) ∧ (0 ≤ i ↔ allMay ss = false)) ∧ Fr [] w w' := by
  go_enter Tryz.func79, Tryz.ntmps79
  go_wp2
  go_loopw [5, 8] (fun _ i wr => ∃ k : Nat, k ≤ ss.length ∧ i = .int .i64 k ∧ (∀ j (h : j < k), ∀ h2 : j < ss.length, mayN ss[j].data.toList = true) ∧ Fr [] w wr) (fun _ i _ => ss.length - (intOf i).toNat)
  case atStart => exact ⟨0, Nat.zero_le _, rfl, fun j h => by omega, Fr.refl _ _⟩
  case round =>
    obtain ⟨k, hk, rfl, hall, hF⟩ := hrel
    have HA := Lib.hid hall
    clear hall
    by_cases hlt : k < ss.length
    · have hcell : wr.cell? ⟨g, off + k, none⟩ = some (.string ss[k]) := (hF.cell (p := ⟨g, off + k, none⟩) hg (by simp)).trans (hc k hlt)
      have hsz := hs _ (List.getElem_mem hlt)
      cases hm : mayN ss[k].data.toList
      · have hcall := may1_any ss[k] wr hsz
        rw [hm] at hcall
        have HM := Lib.hid hm
        clear hm
        generalize hx : ss[k] = x at hcell hcall hsz
        have HX := Lib.hid hx
        clear hx
        go_wp2_with (go_at_call 57; refine hcall.mono ?_; rintro e w1 ⟨rfl, hF1⟩)
        go_ret
        exact ⟨⟨k, rfl, by
          constructor
          · intro _
            unfold allMay
            rw [List.all_eq_false]
            exact ⟨ss[k], List.getElem_mem hlt, by rw [HM.out]; simp⟩
          · intro _; omega⟩, hF.trans hF1⟩
      · have hcall := may1_any ss[k] wr hsz
        rw [hm] at hcall
        have HM := Lib.hid hm
        clear hm
        generalize hx : ss[k] = x at hcell hcall hsz
        have HX := Lib.hid hx
        clear hx
        go_wp2_with (go_at_call 57; refine hcall.mono ?_; rintro e w1 ⟨rfl, hF1⟩)
        go_roundw
        case rel => exact ⟨k + 1, by omega, by go_num, fun j hj h2 => by
          by_cases e : j = k
          · subst e; exact HM.out
          · exact HA.out j (by omega) h2, hF.trans hF1⟩
        case measure => simp [intOf]; omega
    · go_wp2
      go_ret
      exact ⟨⟨-1, rfl, by
        constructor
        · intro h; omega
        · intro h
          unfold allMay at h
          rw [List.all_eq_false] at h
          obtain ⟨x, hx, hm⟩ := h
          obtain ⟨j, hj, rfl⟩ := List.getElem_of_mem hx
          exact absurd (HA.out j (by omega) hj) hm⟩, hF⟩

theorem containsMay (w : World) (g off c : Nat) (ss : List ByteArray) (hn : ss.length ≤ 1000000) (hg : g < w.heap.size) (hs : ∀ s ∈ ss, s.size ≤ maxLen)
    (hc : ∀ j (h : j < ss.length), w.cell? ⟨g, off + j, none⟩ = some (.string ss[j])) :
    Calls Tryz.prog 56 #[.slice (some ⟨g, off, none⟩) ss.length c, .func (.func 57) #[] #[]] w fun e w' => e = .returned (.bool (!allMay ss)) ∧ Fr [] w w' := by
  have hi := indexMay w g off c ss hn hg hs hc
  clear hc hs
  go_enter Tryz.func56, Tryz.ntmps56
  go_wp2_with (go_at_call 79; refine hi.mono ?_; rintro e w1 ⟨⟨i, rfl, hiff⟩, hF1⟩)
  go_ret
  exact ⟨rfl, hF1⟩

theorem may_any (w : World) (g off c : Nat) (ss : List ByteArray) (hn : ss.length ≤ 1000000) (hg : g < w.heap.size) (hs : ∀ s ∈ ss, s.size ≤ maxLen)
    (hc : ∀ j (h : j < ss.length), w.cell? ⟨g, off + j, none⟩ = some (.string ss[j])) :
    Calls Tryz.prog 45 #[.slice (some ⟨g, off, none⟩) ss.length c] w fun e w' => e = .returned (.bool (allMay ss)) ∧ Fr [] w w' := by
  have hi := containsMay w g off c ss hn hg hs hc
  clear hc hs
  go_enter Tryz.func45, Tryz.ntmps45
  go_wp2_with (go_at_call 56; refine hi.mono ?_; rintro e w1 ⟨rfl, hF1⟩)
  go_ret
  exact ⟨ret_bool' (by simp), hF1⟩
end Go.Proofs.YtljolihlhfabnaaGreatDoor
