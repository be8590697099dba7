/-
  PLAINLY: what is got behind a crash and a mending.
-/
import Derived.Test.YtljolihlhfabnaaGreatDoorPlainD
import Derived.Test.YtljolihlhfabnaaGreatDoorCrashP
namespace Go.Proofs.YtljolihlhfabnaaGreatDoor
open Go

/-- The bytes of a file behind a crash, mended: its first values. -/
theorem torn_bytes {d d1 : DiskM} {top : Int} {E : List Ent} (h : Kept d top E) (hG : d1.Good) (hC : d1.Calm) (m : Bs → Nat)
    (hf : d1.files = updF d.files (fun _ => true) (fun x => tornF (getF d.files x) (m x))) {n : Int} (hn : ∃ e ∈ E, e.1 = n) :
    bytesD (mendAll d1 (numbersF d1.files)) (nameB n) = ((bodiesOf E n).take (cutN (bodiesOf E n) (m (nameB n)))).flatMap frameB ∧ (mendAll d1 (numbersF d1.files)).known (nameB n) = 0 := by
  obtain ⟨e, he, rfl⟩ := hn
  have hnm := h.nums e he
  have ht := h.top0
  have hb : 1 ≤ e.1 ∧ e.1 ≤ 1048576 := by omega
  have hhas : hasF d.files (nameB e.1) = true := (h.files _).2 ⟨e, he, rfl⟩
  have hhas1 : hasF d1.files (nameB e.1) = true := by rw [hf, updF_has]; exact hhas
  have hin : e.1 ∈ numbersF d1.files := mem_numbersF.2 ⟨hb, hhas1⟩
  have hkk := mendAll_keeps (numbersF d1.files) hG hC (fun x hx => (mem_numbers hx).2.2)
  refine ⟨?_, ?_⟩
  · rw [mendAll_get _ hG hC (numbersF_nodup hG.sorted) (fun x hx => ⟨⟨(mem_numbers hx).1, (mem_numbers hx).2.1⟩, (mem_numbers hx).2.2⟩) e.1 hb, if_pos hin]
    have hby : bytesD d1 (nameB e.1) = ((bodiesOf E e.1).flatMap frameB).take (m (nameB e.1)) := by
      unfold bytesD
      rw [hf, updF_get _ _ _ _ hhas]
      simp only [if_true, tornF, bytes_extract]
      rw [h.bytes e.1 hb.1 hb.2]
    rw [hby, frames_torn _ _ (h.shortOf e.1)]
    simp only
    rw [List.take_take, Nat.min_eq_left (cutN_width _ _)]
    conv => lhs; rw [← List.take_append_drop (cutN (bodiesOf E e.1) (m (nameB e.1))) (bodiesOf E e.1), List.flatMap_append]
    rw [List.take_left' ?_]
    rw [List.take_append_drop, width_frames]
  · have := hkk.2.2 (nameB e.1)
    unfold DiskM.known
    rw [nameB_may e.1 (by omega) (by omega), this, hhas1]
    rfl
/-- Which of its file's values number i is. -/
def rankE (E : List Ent) (i : Nat) (n : Int) : Nat := (ofFile (E.take i) n).length
theorem ofFile_rank (E : List Ent) (i : Nat) (hi : i < E.length) : (ofFile E E[i].1)[rankE E i E[i].1]? = some E[i] := by
  have hE : E = E.take i ++ E[i] :: E.drop (i + 1) := by rw [← List.drop_eq_getElem_cons hi, List.take_append_drop]
  have h0 : ∀ (A : List Ent) (e : Ent) (B : List Ent), ofFile (A ++ e :: B) e.1 = ofFile A e.1 ++ (e :: ofFile B e.1) := fun A e B => by
    unfold ofFile
    rw [List.filter_append, List.filter_cons_of_pos (by simp)]
  have h1 := h0 (E.take i) E[i] (E.drop (i + 1))
  rw [← hE] at h1
  rw [h1, rankE, List.getElem?_append_right (Nat.le_refl _), Nat.sub_self]
  rfl
theorem unframe_past (b : Bs) (at_ : Nat) (h : b.length ≤ at_) : (unframe b (at_ : Nat)).code ≠ 0 := by
  unfold unframe
  split
  · simp
  · have hz : (b.drop ((at_ : Nat) : Int).toNat).length = 0 := by rw [List.length_drop]; omega
    simp only
    rw [if_pos (by omega)]
    simp
theorem width_mono (l : List Bs) {j t : Nat} (h : j ≤ t) : widthOf (l.take j) ≤ widthOf (l.take t) := by
  have := widthOf_take (l.take t) j
  rwa [List.take_take, Nat.min_eq_left h] at this
theorem torn_get {d : DiskM} {top : Int} {E : List Ent} (h : Kept d top E) (i : Nat) (hi : i < E.length) (j : Nat) {b : Bs} (hb : b = ((bodiesOf E E[i].1).take j).flatMap frameB) :
    getV (unframe b E[i].2.1) (E[i].2.2.length : Int) = if rankE E i E[i].1 < j then (E[i].2.2, 0) else ([], 110) := by
  have hr := ofFile_rank E i hi
  have hlt : rankE E i E[i].1 < (ofFile E E[i].1).length := (List.getElem?_eq_some_iff.1 hr).1
  have hlen : (bodiesOf E E[i].1).length = (ofFile E E[i].1).length := by simp [bodiesOf]
  have hbd : (bodiesOf E E[i].1)[rankE E i E[i].1]? = some E[i].2.2 := by unfold bodiesOf; rw [List.getElem?_map, hr]; rfl
  have hbd2 : (bodiesOf E E[i].1)[rankE E i E[i].1]'(by omega) = E[i].2.2 := by
    rw [List.getElem?_eq_getElem (by omega)] at hbd
    exact Option.some.inj hbd
  have hp := placesOf_get E[i].1 (bodiesOf E E[i].1) 0 (rankE E i E[i].1) (by omega)
  rw [← h.places, List.getElem?_map, hr, hbd2] at hp
  simp only [Option.map_some, placeE, Option.some.injEq, Prod.mk.injEq, true_and, and_true, Nat.zero_add] at hp
  have hsh := h.short _ (List.getElem_mem hi)
  clear hbd2 hr
  generalize rankE E i E[i].1 = t at hlt hbd hp ⊢
  generalize bodiesOf E E[i].1 = l at hb hlen hbd hp
  obtain ⟨htl, hbd2⟩ := List.getElem?_eq_some_iff.1 hbd
  rw [hp, hb]
  by_cases htj : t < j
  · rw [if_pos htj]
    have hl : (l.take j).flatMap frameB = (l.take t).flatMap frameB ++ (frameB E[i].2.2 ++ ((l.take j).drop (t + 1)).flatMap frameB) := by
      have h1 : l.take j = l.take t ++ (E[i].2.2 :: (l.take j).drop (t + 1)) := by
        have h2 : t < (l.take j).length := by rw [List.length_take]; omega
        have h3 : (l.take j)[t] = E[i].2.2 := by rw [List.getElem_take, hbd2]
        rw [← h3, ← List.drop_eq_getElem_cons h2]
        have h4 : l.take t = (l.take j).take t := by rw [List.take_take, Nat.min_eq_left (by omega)]
        rw [h4, List.take_append_drop]
      conv => lhs; rw [h1, List.flatMap_append, List.flatMap_cons]
    rw [hl, ← width_frames (l.take t), unframe_at _ _ _ hsh]
    simp [getV]
  · rw [if_neg htj]
    have hc := unframe_past ((l.take j).flatMap frameB) (widthOf (l.take t)) (by rw [width_frames]; exact width_mono l (by omega))
    unfold getV
    rw [if_neg (fun hh => hc hh.2.1)]
/-- The first values of a file, by the first entries. -/
theorem bodies_take (E : List Ent) (s : Nat) (n : Int) : bodiesOf (E.take s) n = (bodiesOf E n).take (rankE E s n) := by
  unfold bodiesOf rankE
  rw [← List.map_take]
  congr 1
  have : ofFile E n = ofFile (E.take s) n ++ ofFile (E.drop s) n := by
    unfold ofFile
    rw [← List.filter_append, List.take_append_drop]
  rw [this, List.take_left]
theorem rank_le (E : List Ent) (n : Int) {i s : Nat} (h : i ≤ s) : rankE E i n ≤ rankE E s n := by
  unfold rankE ofFile
  have : E.take i = (E.take s).take i := by rw [List.take_take, Nat.min_eq_left h]
  rw [this]
  exact (List.Sublist.filter _ (List.take_sublist _ _)).length_le
theorem rank_lt (E : List Ent) {i s : Nat} (hi : i < E.length) (h : i < s) : rankE E i E[i].1 < rankE E s E[i].1 := by
  have h1 : rankE E (i + 1) E[i].1 = rankE E i E[i].1 + 1 := by
    unfold rankE
    rw [List.take_succ_eq_append_getElem hi, ofFile_snoc, if_pos rfl]
    simp
  have := rank_le E E[i].1 (show i + 1 ≤ s by omega)
  omega
/-- What was sure is there. -/
theorem sure_got {E : List Ent} {n : Int} {s i m : Nat} (hi : i < E.length) (hn : E[i].1 = n) (his : i < s)
    (hsafe : (widthOf (bodiesOf (E.take s) n) : Int) ≤ m) : rankE E i n < cutN (bodiesOf E n) m := by
  subst hn
  rw [bodies_take] at hsafe
  have h1 := rank_lt E hi his
  have hle : rankE E s E[i].1 ≤ (bodiesOf E E[i].1).length := by
    have := congrArg List.length (bodies_take E s E[i].1)
    rw [List.length_take] at this
    have h2 : (bodiesOf (E.take s) E[i].1).length = rankE E s E[i].1 := by simp [bodiesOf, rankE]
    omega
  have := cutN_ge (bodiesOf E E[i].1) m (rankE E s E[i].1) hle (by omega)
  omega
end Go.Proofs.YtljolihlhfabnaaGreatDoor
