/-
  LAYER VALS: must, caught, name.
-/
import Derived.Test.YtljolihlhfabnaaGreatDoorDiskD
import Derived.Test.YtljolihlhfabnaaGreatDoorCodeC
import Derived.Test.YtljolihlhfabnaaGreatDoorQTail
import Derived.Recover
import Derived.Lib.ItoaLen
import Derived.Tactics2
namespace Go.Proofs.YtljolihlhfabnaaGreatDoor
open Go Go.RowKit Go.Maps

theorem must_ok (w : World) : Calls Tryz.prog 30 #[.int .i64 0] w fun e w' => e = .returned (.tuple #[]) ∧ w = w' := by
  go_enter Tryz.func30, Tryz.ntmps30
  go_wp2
  go_end0
  exact ⟨rfl, rfl⟩
theorem must_bad (n : Int) (h : n ≠ 0) (w : World) : Calls Tryz.prog 30 #[.int .i64 n] w fun e w' => e = .panicked [{ v := .iface 76 (.int .i64 n), recovered := false }] ∧ w = w' := by
  have h1 : (n != 0) = true := by simpa using h
  go_enter Tryz.func30, Tryz.ntmps30
  go_wp2
  exact ⟨rfl, rfl, rfl⟩
theorem caught_panicking (p : Addr) (x n : Int) (older : List PanicEntry) (w : World) (hc : w.cell? p = some (.int .i64 x)) (hz : w.frozen? p = false) :
    CallsD Tryz.prog 18 #[.pointer (some p)] (.panicking ({ v := .iface 76 (.int .i64 n), recovered := false } :: older)) w fun e u' w' =>
      e = .returned (.tuple #[]) ∧ u' = .panicking ({ v := .iface 76 (.int .i64 n), recovered := true } :: older) ∧ w' = w.setCell p (.int .i64 n) := by
  have hta : ∀ w, (Instr.typeAssert (.iface 76 (.int .i64 n)) 20 76 false).run Tryz.prog w = .ok (.int .i64 n) w := by intro w; kernel_rfl
  refine callsD_of_wpS Tryz.func18 rfl fun c₀ cs hu => ?_
  apply wpS_seq
  apply wpS_region
  simp [wpOpsS, go_sem, recoverD, hu, Tryz.ntmps18, Exit.thenS, Array.replicate]
  apply wpS_seq
  apply wpS_region
  simp [wpOpsS, go_sem, recoverD, hu, Tryz.ntmps18, Exit.thenS]
  refine wpS_cond (t := true) (by simp [Act.eval, Array.replicate]) ?_
  simp only [if_true]
  apply wpS_region
  simp [wpOpsS, go_sem, hta, hc, hz, bodyPostS, results, Tryz.results18]
theorem caught_idle (p : Addr) (w : World) :
    CallsD Tryz.prog 18 #[.pointer (some p)] .returning w fun e u' w' => e = .returned (.tuple #[]) ∧ u' = .returning ∧ w' = w := by
  refine callsD_of_wpS Tryz.func18 rfl fun c₀ cs hu => ?_
  apply wpS_seq
  apply wpS_region
  simp [wpOpsS, go_sem, recoverD, hu, Tryz.ntmps18, Exit.thenS, Array.replicate]
  apply wpS_seq
  apply wpS_region
  simp [wpOpsS, go_sem, recoverD, hu, Tryz.ntmps18, Exit.thenS]
  refine wpS_cond (t := false) (by simp [Act.eval, Array.replicate]) ?_
  simp only [Bool.false_eq_true, if_false]
  refine wpS_of_wp (wp_skip ?_)
  cases c₀
  simp_all [bodyPostS, results, Tryz.results18]

/-- A file's name. -/
def nameB (n : Int) : Bs := [118, 97, 108, 46] ++ Lib.itoa n
theorem name_any (n : Int) (h0 : -9223372036854775808 ≤ n) (h1 : n ≤ 9223372036854775807) (w : World) (hE : Env w) :
    Calls Tryz.prog 25 #[.int .i64 n] w fun e w' => e = .returned (.string ⟨(nameB n).toArray⟩) ∧ Fr [] w w' := by
  have hi := itoa_any n h0 h1 w hE
  have hlen := Lib.itoa_length_le n h0 h1
  go_enter Tryz.func25, Tryz.ntmps25
  go_wp2_with (go_at_call 36; refine hi.mono ?_; rintro e w1 ⟨rfl, hF⟩)
  go_ret
  exact ⟨rfl, hF⟩
end Go.Proofs.YtljolihlhfabnaaGreatDoor
