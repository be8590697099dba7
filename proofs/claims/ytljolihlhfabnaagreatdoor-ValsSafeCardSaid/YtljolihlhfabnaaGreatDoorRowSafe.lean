/-
  ValsSafe: the row and the card: behind a crash, whatever is drawn, each value that was put ahead of a sync is got; of each file a beginning is there.
-/
import Derived.Test.YtljolihlhfabnaaGreatDoorLawG
import Derived.Test.YtljolihlhfabnaaGreatDoorRowA
import Derived.Lib.SmallJoins
import Derived.ChangeSlices
namespace Go.Proofs.YtljolihlhfabnaaGreatDoor
open Go Go.RowKit Go.Maps Go.Sort Go.ChangeShapes Go.WideShapes Go.ChangeAt

theorem cellsInt : Tryz.prog.cellsOf 3 = 1 := by kernel_rfl
theorem draws_of {H : Type} {enc : TypeId × Value → H} {W : World} {v : Value} {fuel : Nat} {x : DataW H × List MemPlace} (hf : DataW.trod enc Tryz.prog W 0 (fun _ => true) true fuel 37 [v] = some x)
    (hlt : ∀ y ∈ x.2, y.block < W.heap.size) : ∃ (pd : Option Addr) (nd cd : Nat) (zs : Nat → Int), v = .slice pd nd cd ∧ (nd ≤ cd ∧ cd ≤ maxLen) ∧ IntsIn W [] pd nd zs := by
  rcases open_ints Tryz.underlying37 Tryz.underlying3 cellsInt hf with ⟨hcs, hx⟩ | ⟨a, len, cap, zs, hcs, _, hl, hmx, hz, hx, hcell, hws⟩
  · simp at hcs
    subst hcs
    exact ⟨none, 0, 0, fun _ => 0, rfl, ⟨by omega, by unfold maxLen; omega⟩, fun i hi => by omega⟩
  · simp at hcs
    subst hcs
    subst hx
    simp only [if_true] at hz
    refine ⟨some a, len, cap, fun i => zs.getD i 0, rfl, ⟨hl, hmx⟩, fun i hi => ?_⟩
    obtain ⟨b, off, spot⟩ := a
    have hspot : spot = none := by simpa [Addr.add] using World.cell?_spot (hcell 0 (by omega))
    subst hspot
    have hi' : i < zs.length := by omega
    have hb := i64_bounds (hws _ (List.getElem_mem hi'))
    refine ⟨b, off, rfl, hlt (.cell b off) (MemPlace.mem_row.2 ⟨0, by omega, by simp⟩), by simp, by
      have h := hcell i (by omega)
      have e : (⟨b, off, none⟩ : Addr).add i = ⟨b, off + i, none⟩ := by unfold Addr.add; split <;> simp_all
      rw [e] at h
      exact h, ?_, ?_⟩ <;> simp only [List.getD, List.getElem?_eq_getElem hi', Option.getD_some] <;> omega

set_option maxRecDepth 100000 in
theorem safe_lifted (os : Os) (started : os.Started) (H : Type) (enc : TypeId × Value → H) :
    ReturnsInHanded {} Tryz.checked os 5 .any (fun w args => (Rows.valsSafeSpec.pre enc Tryz.prog Tryz.f5 [] false w args ∧ laidMetH Tryz.prog laidV w) ∧ sizedMet enc Tryz.prog Tryz.f5 (OpenSpec.ofChange Rows.valsSafeSpec) false w args)
      (Rows.valsSafeSpec.post enc Tryz.prog Tryz.f5 false true false false) := by
  refine returnsInHanded_of_change_and (C := Tryz.checked) (X := fun w _ => laidMetH Tryz.prog laidV w) (fun _ _ _ hh h => h.of_heap hh) ownK started (by kernel_rfl) Tryz.func5
    (ChangeSpec.witness_shaped (enc := enc) (C := Tryz.checked) (os := os) (X := fun w _ => laidMetH Tryz.prog laidV w) false (World.laidAll Tryz.prog os laidV) #[.int .i64 0, .slice none 0 0, .agg #[.int .i64 0, .slice none 0 0]] 8 (World.laidAll_os _ _ _)
      (World.shaped_of_ZipB (by kernel_rfl) (by kernel_rfl)) (by kernel_rfl) (by kernel_rfl) (by kernel_rfl)
      (by rw [MakeChecks.laidMetH_plain _ _ _ (by kernel_rfl)]; exact laidMet_laidAll _ (by kernel_rfl) (by kernel_rfl))) ?_
  intro W base args ds gs before hval0 hW _ hsz0 hL _
  have hval : ∀ (j : Nat) t v, Tryz.f5.params[j]? = some t → args[j]? = some v → Value.okWide Tryz.prog W .any base t v := hval0
  have hW' := hW
  obtain ⟨p, q, hA0, hV, rfl, _, _⟩ := hW
  have hA : DataW.TrodAll enc Tryz.prog W 0 (fun _ => true) true Tryz.f5.params.toList args.toList ds p := hA0
  rw [Tryz.params5] at hA hval
  obtain ⟨v0, v1, v2, d0, d1, d2, p0, p1, p2, rfl, rfl, rfl, h0, h1, h2⟩ := trodAll_three hA
  obtain ⟨rfl, rfl⟩ := trodVars_none hV
  obtain ⟨m, rfl, rfl, rfl, wm⟩ := open_int Tryz.underlying3 (hval 0 3 v0 rfl rfl) h0
  obtain ⟨a0, len, cap, rfl⟩ := okWide_slice Tryz.underlying22 (hval 1 22 v1 rfl rfl)
  have h1k := h1
  have h2k := h2
  obtain ⟨x0, x1, y0, y1, fuel2, rfl, rfl, rfl, g0, g1⟩ := Joins.open_agg2 Tryz.underlying47 (by kernel_rfl) (by kernel_rfl) (hval 2 47 v2 rfl rfl) h2
  obtain ⟨fuel, hf⟩ := h1
  clear hA0 hval0
  simp only [List.append_nil] at hW'
  have hlt1 : ∀ x ∈ p1, x.block < W.heap.size := fun x hx => hW'.lt x (by simp [hx])
  have hlt2 : ∀ x ∈ y0.2 ++ y1.2, x.block < W.heap.size := fun x hx => hW'.lt x (by
    simp only [List.mem_append] at hx
    simp only [List.mem_append, List.nil_append]
    exact .inr hx)
  have hE := env_of_laid hL
  obtain ⟨ss, hT, hlen⟩ := texts_of hf hlt1
  obtain ⟨sy, hsy, hy0, wsy⟩ := DataW.trod_int Tryz.underlying3 g0
  obtain rfl : x0 = .int .i64 sy := by simpa using hsy
  obtain ⟨pd, nd, cd, zs, rfl, hnd, hz⟩ := draws_of g1 (fun y hy => hlt2 y (by simp [hy]))
  refine (safe_any W hE hE.low m (i64_bounds wm) a0 len cap hlen ss hT sy (i64_bounds wsy) pd nd cd hnd zs hz).mono fun e W' ⟨he, hF⟩ => ?_
  subst he
  refine ⟨_, rfl, _, _, _, [], [] ++ (p1 ++ (y0.2 ++ y1.2)), [], hW', ?_, ?_, rfl, hF.toBelow.frame _, fun h => by cases h⟩
  · exact trodAll_mk1 (shut_bool Tryz.underlying4 true)
  · exact trodAll_mk3 (shut_int Tryz.underlying3 wm) (Below.trod laidOutK (by kernel_rfl) (of_decide_eq_true (by kernel_rfl)) h1k hF.toBelow hlt1) (Below.trod laidOutK (by kernel_rfl) (of_decide_eq_true (by kernel_rfl)) h2k hF.toBelow hlt2)

theorem safe_holds : Rows.ValsSafeSaid :=
  OpenClaim.holds_of_wide 5 Tryz.f5 rfl rfl rfl rfl rfl rfl rfl ⟨rfl, rfl, rfl, rfl, rfl⟩ rfl rfl rfl rfl rfl (by kernel_rfl) Tryz.func5 (by kernel_rfl)
    (of_decide_eq_true (by kernel_rfl)) (by unfold Func.isWrapper; first | (rw [if_pos (by decide +kernel)]; kernel_rfl) | (rw [if_neg (by decide +kernel)]; exact ⟨rfl, rfl⟩))
    (fun os started H enc _ => safe_lifted os started H enc)
theorem safe_card : Rows.ValsSafeCardSaid :=
  Claim7.holds_tied_plain_at .later [] [.data, .data, .data, .data, .sentinel, .sentinel, .pinned] true (true, "576f17bba627f19e9f3719ec82f3f6066e82512ff65fe4187db1086c278d6f17") true
    safe_holds (fun _ h => by cases h) (by kernel_rfl) (fun _ h => by cases h) valsSafe_row_tie rfl ⟨rfl, rfl⟩ (by kernel_rfl) rfl
    (fun f fn hf hfn => by
      obtain rfl : f = 5 := Option.some.inj ((show Tryz.prog.funcNamed "skylark/skylarklaw11.ValsSafe" = some 5 by kernel_rfl).symm.trans hf) |>.symm
      obtain rfl : fn = Tryz.f5 := (Option.some.inj (Tryz.func5.symm.trans hfn)).symm
      exact ⟨by kernel_rfl, fun j t ht => by
        rw [Tryz.params5] at ht
        have hm : t ∈ [3, 22, 47] := by simpa using Array.mem_of_getElem? ht
        have hall : ([3, 22, 47].all fun u => !Tryz.prog.wantsStandIn u) = true := by kernel_rfl
        exact (show Tryz.prog.wantsStandIn t = false by simpa using List.all_eq_true.1 hall t hm)⟩)
    (by kernel_rfl)
#print axioms safe_card
end Go.Proofs.YtljolihlhfabnaaGreatDoor
