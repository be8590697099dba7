/-
  THE DISK's CALLS: Sync.
-/
import Derived.Test.YtljolihlhfabnaaGreatDoorDiskD
import Derived.Test.YtljolihlhfabnaaGreatDoorMapSet
namespace Go.Proofs.YtljolihlhfabnaaGreatDoor
open Go Go.RowKit Go.Maps

theorem key_string_inv {key : Value} {kl : Lit} (h : keyOf Tryz.prog 9 key = some kl) : ∃ s : ByteArray, key = .string s := by
  cases key <;> simp [keyOf, Tryz.underlying9, mapKey] at h
  exact ⟨_, rfl⟩
theorem key_string_at {s : ByteArray} {kl : Lit} (h : keyOf Tryz.prog 9 (.string s) = some kl) : kl = .string s.data.toList ∧ s.size ≤ maxLen := by
  simp [keyOf, Tryz.underlying9, mapKey] at h
  obtain ⟨h1, h2⟩ := h
  exact ⟨by simpa using h2.symm, by simpa using h1⟩
theorem syncF_all_no {fs : Files} {done : Bs → Bool} (h : ∀ p ∈ fs, done p.1 = false) : syncF fs done = fs := by
  unfold syncF
  conv => rhs; rw [← List.map_id fs]
  apply List.map_congr_left
  intro p hp
  simp [h p hp]
theorem syncF_congr {fs : Files} {d1 d2 : Bs → Bool} (h : ∀ k, d1 k = d2 k) : syncF fs d1 = syncF fs d2 := by
  rw [funext h]

set_option maxRecDepth 100000 in
set_option maxHeartbeats 2000000 in
theorem sync_any (w : World) (a b : Nat) (d : DiskM) (h : DiskAt w a b d) (hG : d.Good) (hr : d.ready.1 = true) :
    Calls Tryz.prog 15 #[.pointer (some ⟨a, 0, none⟩)] w fun e w' => e = .returned (.int .i64 0) ∧ DiskAt w' a b { d.ready.2 with files := syncF d.files (fun _ => true) } ∧ Fr [a, b] w w' := by
  have hrd := ready_any w a b d h hG.left
  have hk := ready_keeps d
  have hlt := h.lt
  rw [hr] at hrd
  have hs := hG.sorted
  have hmn := hG.many
  clear h hr
  generalize d.ready.2 = d1 at hrd hk ⊢
  obtain ⟨hk1, hk2, hk3⟩ := hk
  rw [← hk1] at hs hmn ⊢
  clear hk2 hk3 hk1 hG
  go_enter Tryz.func15, Tryz.ntmps15
  go_wp2_with fail
  refine hrd.mono ?_
  rintro e w1 ⟨rfl, hD1, hF1⟩
  obtain ⟨c0, c1, c2⟩ := disk_cells hD1
  have hown := hD1.map
  unfold MapAt at hown
  have HD1 := Lib.hid hD1
  have HF1 := Lib.hid hF1
  clear hD1 hF1 hrd
  go_wp2_with (at_range; refine wpList_range_own _ rfl _ 52 rfl 9 70 keyK Tryz.underlying52 fileR b d1.files.length (filesD d1.files) rfl hown ?_; intro w2 hrg2 hg2 hs2)
  go_frame
  have hsz : Maps.size (filesD d1.files) = d1.files.length := filesD_size _
  have hne := Lib.hid HD1.out.ne
  have HG2 := Lib.hid hg2
  have HRG := Lib.hid hrg2
  clear hg2 hrg2 hown
  generalize hr0 : w1.heap.size = rI at HRG hs2 ⊢
  have hra : a < rI ∧ b < rI := by rw [← hr0]; exact HD1.out.lt
  go_loopw [13] (fun _ wr => ∃ left cnt, wr.ranges Tryz.prog 9 fileR b rI d1.files.length (filesD (syncF d1.files (fun x => !left (.string x)))) left cnt ∧ (∀ x, left (.string x) = true → hasF d1.files x = true) ∧ w2.heap.size ≤ wr.heap.size ∧
      wr.heap[a]? = w1.heap[a]? ∧ Fr [a, b] w wr) (fun _ wr => wr.rangeLeft b rI)
  case atStart =>
    refine ⟨Maps.has (filesD d1.files), Maps.size (filesD d1.files), ?_, fun x hx => ?_, Nat.le_refl _, HG2.out.block a HD1.out.lt.1 (by simp), HF1.out.mono (by simp) |>.grown HG2.out (fun k hk => by cases hk)⟩
    · have : syncF d1.files (fun x => !(has (filesD d1.files)) (.string x)) = d1.files := syncF_all_no (fun p hp => by
        rw [filesD_has]
        have : hasF d1.files p.1 = true := mem_names.1 (List.mem_map.2 ⟨p, hp, rfl⟩)
        simp [this])
      rw [this]
      exact HRG.out
    · rw [filesD_has] at hx
      exact hx
  case round =>
    obtain ⟨left, cnt, hrg, hlh, hsw, hba, hF⟩ := hrel
    have HL := Lib.hid hlh
    have HBA := Lib.hid hba
    have HF := Lib.hid hF
    clear hlh hba hF
    go_wp2_with (at_next; refine wpList_next_ranges _ rfl _ rfl 9 keyK fileR (fun s : ByteArray => Value.string s) fileV (fun _ _ hk => key_string_inv hk) (fun _ _ hv => by obtain ⟨f, rfl, _⟩ := fileR_inv hv; exact ⟨f, rfl⟩) b rI _ _ _ _ rfl hrg ?_ ?_; refine Hid.out ?_; rotate_left; refine Hid.out ?_)
    · refine Lib.hid ?_
      intro x c kl y1 y2 w' cnt' hkey hlk hv hat hrg1 hlt1 hg1 hs1 hen
      obtain ⟨rfl, hxs⟩ := key_string_at hkey
      have hhas := HL.out _ hlk
      have hc : getF d1.files x.data.toList = c := by
        rw [fileR_mk] at hv
        have h1 := hat (fileD zeroF)
        rw [filesD_at] at h1
        have h2 := (Prod.mk.inj (Option.some.inj hv)).1
        have h3 := fileD_inj (h1.trans h2.symm)
        rw [syncF_get _ _ _ hhas] at h3
        simpa [hlk] using h3
      have hba' : w'.heap[a]? = w1.heap[a]? := (hg1.block a (by omega) (by simp; omega)).trans HBA.out
      have hF1' := HF.out.grown hg1 (fun k hk => by cases hk; right; have := HF1.out.size; omega)
      have HWL : Hid (w'.heap.size = wr.heap.size) := hs1
      have HAT := Lib.hid hc
      have HR1 := Lib.hid hrg1
      have HLT := Lib.hid hlt1
      have HBA' := Lib.hid hba'
      have HF' := Lib.hid hF1'
      have HKEY := Lib.hid hkey
      have HHAS := Lib.hid hhas
      have HRG0 := Lib.hid hrg
      clear hs1 hv hat hrg1 hlt1 hg1 hc hba' hF1' hkey hhas hrg hlk
      obtain ⟨hb, sf⟩ := c
      unfold fileV at hen
      simp only at hen
      unfold fileV
      go_wp2_with fail
      refine reg_tail 11 (by kernel_rfl) (by kernel_rfl) (fun W hW hFW => ?_)
      have hAW : W.heap[a]? = some (.cells #[.int .i64 d1.room, .int .i64 d1.used, .map (some b), .bool d1.fused, .bool d1.down, .int .i64 d1.left] 54 (0, 0)) := by
        rw [hW, (World.grownBy_alloc w' _ none).block a (by have := HWL.out; omega) (by simp)]
        exact HBA'.out.trans HD1.out.blk
      have hXW : W.heap[w'.heap.size]? = some (.cells #[.string hb, .int .i64 sf] 70 (0, 0)) := new_blk hW
      have hRW : W.ranges Tryz.prog 9 fileR b rI d1.files.length (filesD (syncF d1.files fun x => !left (.string x))) (fun z => left z && !z.sameKey (.string x.data.toList)) cnt' := by
        have h1 := HR1.out.alloc (.cells #[.string hb, .int .i64 sf] 70)
        unfold World.ranges at h1 ⊢
        rw [hW]
        exact h1
      have hFW2 := (HF'.out.alloc (.cells #[.string hb, .int .i64 sf] 70)).trans (hFW.mono (by simp))
      obtain ⟨w3, hst, hrg3, hg3⟩ := World.ranges.store hRW keyK Tryz.underlying52 (by unfold maxLen; omega) HKEY.out (by rw [filesD_has, syncF_has]; exact HHAS.out) (fileR_mk ⟨hb, (hb.size : Int)⟩)
      rw [filesD_put] at hrg3
      have hstep := syncF_step hs (fun x => !left (.string x)) HHAS.out
      rw [HAT.out] at hstep
      simp only at hstep
      rw [hstep, syncF_congr (d2 := fun y => !(left (.string y) && !(Lit.string y).sameKey (.string x.data.toList))) (fun y => by simp [Lit.sameKey])] at hrg3
      unfold fileV at hst
      simp only at hst
      have c2' := (cell_at hAW 2).trans rfl
      have b0 := (cell_at hXW 0).trans rfl
      have hle := HRG0.out.left_eq
      have hle3 := hrg3.left_eq
      have HR3 := Lib.hid hrg3
      have HG3 := Lib.hid hg3
      have HFW2 := Lib.hid hFW2
      have HAW := Lib.hid hAW
      have HLE := Lib.hid (And.intro hle hle3)
      have hWs : W.heap.size = w'.heap.size + 1 := by rw [hW]; simp
      have HWs := Lib.hid hWs
      clear hW hFW hAW hXW hRW hFW2 hrg3 hg3 hstep hle hle3 hWs
      simp only [List.take_succ_cons, List.take_zero, List.drop_succ_cons, List.drop_zero]
      repeat still_step
      refine wpStill_nil ?_
      go_wp2
      go_roundw
      case rel => exact ⟨fun z => left z && !z.sameKey (.string x.data.toList), cnt', HR3.out, fun y hy => HL.out y (by simp only [Bool.and_eq_true] at hy; exact hy.1), by have := HG3.out.size; have := HWs.out; have := HWL.out; omega, by rw [HG3.out.block a (by have := HWs.out; have := HWL.out; omega) (by have := hne.out; simp; omega)]; rw [HAW.out]; exact HD1.out.blk.symm, HFW2.out.grown HG3.out (fun k hk => by cases hk; left; simp)⟩
      case measure => rw [HLE.out.1, HLE.out.2]; exact HLT.out
    · refine Lib.hid ?_
      intro hc0 hl0
      have hmap := tight hrg.owns
      rw [syncF_congr (d2 := fun _ => true) (fun k => by rw [hl0]; rfl)] at hmap
      have hab : wr.heap[a]? = some (.cells #[.int .i64 d1.room, .int .i64 d1.used, .map (some b), .bool d1.fused, .bool d1.down, .int .i64 d1.left] 54 (0, 0)) := HBA.out.trans HD1.out.blk
      have HMAP := Lib.hid hmap
      have HAB := Lib.hid hab
      clear hrg hl0 hmap hab
      go_wp2
      go_ret
      exact ⟨rfl, ⟨HAB.out, HMAP.out⟩, HF.out⟩
end Go.Proofs.YtljolihlhfabnaaGreatDoor
