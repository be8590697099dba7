/-
  LAYER VALS: the files of values in memory; has, Files.
-/
import Derived.Test.YtljolihlhfabnaaGreatDoorValsB
import Derived.Test.YtljolihlhfabnaaGreatDoorDiskP
namespace Go.Proofs.YtljolihlhfabnaaGreatDoor
open Go Go.RowKit Go.Maps Go.Sort

/-- Files of values in memory: the struct's block v. -/
structure ValsAt (w : World) (v a b : Nat) (d : DiskM) (most top : Int) : Prop where
  blk : w.heap[v]? = some (.cells #[.pointer (some ⟨a, 0, none⟩), .int .i64 most, .int .i64 top] 56 (0, 0))
  disk : DiskAt w a b d
theorem ValsAt.fr {S : List Nat} {w w' : World} {v a b : Nat} {d : DiskM} {most top : Int} (h : ValsAt w v a b d most top) (f : Fr S w w') (hv : v ∉ S) (ha : a ∉ S) (hb : b ∉ S) : ValsAt w' v a b d most top :=
  ⟨f.blk h.blk hv, h.disk.fr f ha hb⟩
theorem ValsAt.ne {w : World} {v a b : Nat} {d : DiskM} {most top : Int} (h : ValsAt w v a b d most top) : v ≠ a ∧ v ≠ b ∧ a ≠ b := by
  refine ⟨?_, ?_, h.disk.ne⟩
  · intro e
    subst e
    have := h.blk
    rw [h.disk.blk] at this
    injection this with this
    injection this with h1 _
    have := congrArg Array.size h1
    simp at this
  · intro e
    subst e
    obtain ⟨es, clock, hb, _⟩ := h.disk.map
    have := h.blk
    rw [hb] at this
    cases this
theorem ValsAt.lt {w : World} {v a b : Nat} {d : DiskM} {most top : Int} (h : ValsAt w v a b d most top) : v < w.heap.size ∧ a < w.heap.size ∧ b < w.heap.size :=
  ⟨(Array.getElem?_eq_some_iff.1 h.blk).1, h.disk.lt⟩
theorem nameB_length (n : Int) (h0 : -9223372036854775808 ≤ n) (h1 : n ≤ 9223372036854775807) : (nameB n).length ≤ 25 := by
  have := Lib.itoa_length_le n h0 h1
  simp [nameB]; omega

set_option maxRecDepth 100000 in
set_option maxHeartbeats 400000 in
theorem files_any (w : World) (hE : Env w) (v a b : Nat) (d : DiskM) (most top : Int) (h : ValsAt w v a b d most top) (hG : d.Good) :
    Calls Tryz.prog 11 #[.pointer (some ⟨v, 0, none⟩)] w fun e w' => ∃ u, e = .returned u ∧ w'.ownsRow w.heap.size 3 1 u (numbersF d.files).length ((numbersF d.files).map (Value.int .i64)) ∧ Fr [] w w' := by
  have hN := numbers_any w hE a b d h.disk hG.sorted (by have := hG.many; omega) (fun k hk => by have := mayN_length (hG.names k hk); omega)
  have c0 := cell_at h.blk 0
  simp only [List.getElem?_toArray, List.getElem?_cons_succ, List.getElem?_cons_zero] at c0
  clear h
  go_enter Tryz.func11, Tryz.ntmps11
  go_wp2_with (go_at_call 20; refine hN.mono ?_; rintro e w1 ⟨u, rfl, hrow, hF1⟩)
  go_ret
  exact ⟨u, rfl, hrow, hF1⟩

set_option maxRecDepth 100000 in
set_option maxHeartbeats 400000 in
theorem has_ok (w : World) (hE : Env w) (v a b : Nat) (d : DiskM) (most top : Int) (h : ValsAt w v a b d most top) (n : Int) (h1 : 1 ≤ n) (h2 : n ≤ 1048576) (hk : d.known (nameB n) = 0) :
    Calls Tryz.prog 22 #[.pointer (some ⟨v, 0, none⟩), .int .i64 n] w fun e w' => e = .returned (.string (getF d.files (nameB n)).has) ∧ Fr [] w w' := by
  have hname : ∀ W, Fr [] w W → Calls Tryz.prog 25 #[.int .i64 n] W fun e W' => e = .returned (.string ⟨(nameB n).toArray⟩) ∧ Fr [] w W' := fun W f =>
    (name_any n (by omega) (by omega) W (hE.fr f (by simp))).mono fun _ _ hh => ⟨hh.1, f.trans hh.2⟩
  have hl := nameB_length n (by omega) (by omega)
  have hread : ∀ W, Fr [] w W → Calls Tryz.prog 29 #[.pointer (some ⟨a, 0, none⟩), .string ⟨(nameB n).toArray⟩] W fun e W' => e = .returned (.tuple #[.string (getF d.files (nameB n)).has, .int .i64 0]) ∧ Fr [] w W' := fun W f =>
    (read_any W a b d (h.disk.fr f (by simp) (by simp)) ⟨(nameB n).toArray⟩ (by rw [size_mk]; unfold maxLen; omega)).mono fun _ _ hh => ⟨by rw [hh.1]; simp only [hk], f.trans hh.2⟩
  have c0 : ∀ W, Fr [] w W → W.cell? ⟨v, 0, none⟩ = some (.pointer (some ⟨a, 0, none⟩)) := fun W f => (cell_at (f.blk h.blk (by simp)) 0).trans rfl
  clear hl h hk
  generalize getF d.files (nameB n) = f at hread ⊢
  generalize nameB n = nm at hname hread
  go_enter Tryz.func22, Tryz.ntmps22
  go_wp2_with fail
  refine wp_region_quiet (C := Fr [] w) (by kernel_rfl) (by kernel_rfl) (Fr.refl [] w).drew ?_
  iterate 12
    refine wpQuiet_step (fun K hK => ?_)
    go_simp
    apply Exists.intro
    refine ⟨fun W hW => ?_, hK _ ?_⟩
    first | rfl | exact ⟨rfl, rfl⟩ | exact hname W hW | exact hread W hW | (simp only [c0 W hW]; first | rfl | exact ⟨rfl, rfl⟩)
    clear hK K
  refine wpQuiet_nil ?_
  intro W hW
  go_wp2
  go_ret
  exact ⟨rfl, hW⟩

set_option maxRecDepth 100000 in
set_option maxHeartbeats 400000 in
theorem has_bad (w : World) (hE : Env w) (v a b : Nat) (d : DiskM) (most top : Int) (h : ValsAt w v a b d most top) (n : Int) (h1 : -9223372036854775808 ≤ n) (h2 : n ≤ 9223372036854775807) (hk : d.known (nameB n) ≠ 0 ∨ n < 1 ∨ 1048576 < n) :
    Calls Tryz.prog 22 #[.pointer (some ⟨v, 0, none⟩), .int .i64 n] w fun e w' => e = .panicked [{ v := .iface 76 (.int .i64 110), recovered := false }] ∧ Fr [] w w' := by
  have hname : ∀ W, Fr [] w W → Calls Tryz.prog 25 #[.int .i64 n] W fun e W' => e = .returned (.string ⟨(nameB n).toArray⟩) ∧ Fr [] w W' := fun W f =>
    (name_any n (by omega) (by omega) W (hE.fr f (by simp))).mono fun _ _ hh => ⟨hh.1, f.trans hh.2⟩
  have hl := nameB_length n (by omega) (by omega)
  have hread : ∀ W, Fr [] w W → Calls Tryz.prog 29 #[.pointer (some ⟨a, 0, none⟩), .string ⟨(nameB n).toArray⟩] W fun e W' => e = .returned (.tuple #[.string (getF d.files (nameB n)).has, .int .i64 (d.known (nameB n))]) ∧ Fr [] w W' := fun W f =>
    (read_any W a b d (h.disk.fr f (by simp) (by simp)) ⟨(nameB n).toArray⟩ (by rw [size_mk]; unfold maxLen; omega)).mono fun _ _ hh => ⟨hh.1, f.trans hh.2⟩
  have c0 : ∀ W, Fr [] w W → W.cell? ⟨v, 0, none⟩ = some (.pointer (some ⟨a, 0, none⟩)) := fun W f => (cell_at (f.blk h.blk (by simp)) 0).trans rfl
  have hmust := must_bad 110 (by decide)
  clear hl h
  generalize getF d.files (nameB n) = f at hread
  generalize d.known (nameB n) = er at hread hk
  generalize nameB n = nm at hname hread
  by_cases hz : er = 0
  · subst hz
    have hk := hk.resolve_left (by simp)
    by_cases h3 : n < 1
    · clear hk
      go_enter Tryz.func22, Tryz.ntmps22
      go_wp2_with fail
      refine wp_region_quiet (C := Fr [] w) (by kernel_rfl) (by kernel_rfl) (Fr.refl [] w).drew ?_
      iterate 12
        refine wpQuiet_step (fun K hK => ?_)
        go_simp
        apply Exists.intro
        refine ⟨fun W hW => ?_, hK _ ?_⟩
        first | rfl | exact ⟨rfl, rfl⟩ | exact hname W hW | exact hread W hW | (simp only [c0 W hW]; first | rfl | exact ⟨rfl, rfl⟩)
        clear hK K
      refine wpQuiet_nil ?_
      intro W hW
      go_wp2_with (go_at_call 30; refine (hmust _).mono ?_; rintro e w1 ⟨rfl, rfl⟩)
      exact ⟨rfl, rfl, hW⟩
    · have h4 : 1048576 < n := by omega
      clear hk
      go_enter Tryz.func22, Tryz.ntmps22
      go_wp2_with fail
      refine wp_region_quiet (C := Fr [] w) (by kernel_rfl) (by kernel_rfl) (Fr.refl [] w).drew ?_
      iterate 12
        refine wpQuiet_step (fun K hK => ?_)
        go_simp
        apply Exists.intro
        refine ⟨fun W hW => ?_, hK _ ?_⟩
        first | rfl | exact ⟨rfl, rfl⟩ | exact hname W hW | exact hread W hW | (simp only [c0 W hW]; first | rfl | exact ⟨rfl, rfl⟩)
        clear hK K
      refine wpQuiet_nil ?_
      intro W hW
      go_wp2_with (go_at_call 30; refine (hmust _).mono ?_; rintro e w1 ⟨rfl, rfl⟩)
      exact ⟨rfl, rfl, hW⟩
  · have hz' : (er != 0) = true := by simpa using hz
    clear hk hz
    go_enter Tryz.func22, Tryz.ntmps22
    go_wp2_with fail
    refine wp_region_quiet (C := Fr [] w) (by kernel_rfl) (by kernel_rfl) (Fr.refl [] w).drew ?_
    iterate 12
      refine wpQuiet_step (fun K hK => ?_)
      go_simp
      apply Exists.intro
      refine ⟨fun W hW => ?_, hK _ ?_⟩
      first | rfl | exact ⟨rfl, rfl⟩ | exact hname W hW | exact hread W hW | (simp only [c0 W hW]; first | rfl | exact ⟨rfl, rfl⟩)
      clear hK K
    refine wpQuiet_nil ?_
    intro W hW
    go_wp2_with (go_at_call 30; refine (hmust _).mono ?_; rintro e w1 ⟨rfl, rfl⟩)
    exact ⟨rfl, rfl, hW⟩
end Go.Proofs.YtljolihlhfabnaaGreatDoor
