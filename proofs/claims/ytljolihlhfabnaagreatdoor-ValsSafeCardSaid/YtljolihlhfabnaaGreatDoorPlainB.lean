/-
  PLAINLY: what was put is kept: each value at its place.
-/
import Derived.Test.YtljolihlhfabnaaGreatDoorPlainA
import Derived.Test.YtljolihlhfabnaaGreatDoorValsF
namespace Go.Proofs.YtljolihlhfabnaaGreatDoor
open Go

/-- What was put: the file, the place in it, the value. -/
abbrev Ent := Int × Int × Bs
def placeE (e : Ent) : Int × Int × Int := (e.1, e.2.1, (e.2.2.length : Int))
def ofFile (E : List Ent) (n : Int) : List Ent := E.filter fun e => e.1 == n
def bodiesOf (E : List Ent) (n : Int) : List Bs := (ofFile E n).map (·.2.2)
structure Kept (d : DiskM) (top : Int) (E : List Ent) : Prop where
  good : d.Good
  calm : d.Calm
  top0 : 0 ≤ top ∧ top ≤ 1048576
  files : ∀ k, hasF d.files k = true ↔ ∃ e ∈ E, k = nameB e.1
  nums : ∀ e ∈ E, 1 ≤ e.1 ∧ e.1 ≤ top
  short : ∀ e ∈ E, e.2.2.length ≤ 65536
  bytes : ∀ n, 1 ≤ n → n ≤ 1048576 → (getF d.files (nameB n)).has.data.toList = (bodiesOf E n).flatMap frameB
  places : ∀ n, (ofFile E n).map placeE = placesOf n 0 (bodiesOf E n)
theorem ofFile_snoc (E : List Ent) (e : Ent) (n : Int) : ofFile (E ++ [e]) n = ofFile E n ++ if e.1 = n then [e] else [] := by
  unfold ofFile
  rw [List.filter_append]
  by_cases h : e.1 = n <;> simp [h]
theorem bodiesOf_snoc (E : List Ent) (e : Ent) (n : Int) : bodiesOf (E ++ [e]) n = bodiesOf E n ++ if e.1 = n then [e.2.2] else [] := by
  unfold bodiesOf
  rw [ofFile_snoc]
  by_cases h : e.1 = n <;> simp [h]
theorem Kept.size {d : DiskM} {top : Int} {E : List Ent} (h : Kept d top E) {n : Int} (h0 : 1 ≤ n) (h1 : n ≤ 1048576) : (getF d.files (nameB n)).has.size = widthOf (bodiesOf E n) := by
  rw [← width_frames, ← h.bytes n h0 h1]
  simp
theorem Kept.mem {d : DiskM} {top : Int} {E : List Ent} (h : Kept d top E) {n : Int} : n ∈ numbersF d.files ↔ ∃ e ∈ E, e.1 = n := by
  rw [mem_numbersF]
  constructor
  · rintro ⟨hn, hf⟩
    obtain ⟨e, he, hk⟩ := (h.files _).1 hf
    have := h.nums e he
    have ht := h.top0
    exact ⟨e, he, (nameB_inj hn ⟨by omega, by omega⟩ hk).symm⟩
  · rintro ⟨e, he, rfl⟩
    have := h.nums e he
    have ht := h.top0
    exact ⟨⟨by omega, by omega⟩, (h.files _).2 ⟨e, he, rfl⟩⟩
theorem Kept.place {d : DiskM} {top : Int} {E : List Ent} (h : Kept d top E) (most : Int) :
    1 ≤ (placeOf d most top).1 ∧ (placeOf d most top).1 ≤ top + 1 ∧ (placeOf d most top).2 = (widthOf (bodiesOf E (placeOf d most top).1) : Nat) ∧
      ((placeOf d most top).1 = top + 1 ∨ (placeOf d most top).1 ∈ numbersF d.files) := by
  have hnew : bodiesOf E (top + 1) = [] := by
    unfold bodiesOf ofFile
    rw [List.filter_eq_nil_iff.2 (fun e he => ?_)]
    · rfl
    · have := h.nums e he
      simp
      omega
  have ht := h.top0
  unfold placeOf
  split
  · simp only [hnew]
    exact ⟨by omega, by omega, rfl, .inl trivial⟩
  · rename_i n hn
    have hm := List.mem_of_getLast? hn
    obtain ⟨e, he, rfl⟩ := h.mem.1 hm
    have := h.nums e he
    split
    · exact ⟨by simp only; omega, by simp only; omega, by simp only [h.size (n := e.1) (by omega) (by omega)], .inr hm⟩
    · simp only [hnew]
      exact ⟨by omega, by omega, rfl, .inl trivial⟩
theorem append_ok {d : DiskM} (hc : d.Calm) {k : Bs} (hk : mayN k = true) {data : ByteArray} (hr : d.used + data.size ≤ d.room) (hf : d.files.length < 64) :
    d.append k data = (0, d.set k ⟨(getF d.files k).has ++ data, (getF d.files k).safe⟩) := by
  unfold DiskM.append
  rw [if_neg (by simp [hk]), if_neg, hc.ready, if_neg (by simp)]
  rintro (h | h)
  · omega
  · simp at h; omega
theorem Kept.put {d : DiskM} {top : Int} {E : List Ent} (h : Kept d top E) (most : Int) (s : Bs) (hs : s.length ≤ 65536) (ht : top < 1048576) (hr : d.used + (s.length + 8) ≤ d.room) (hf : d.files.length < 64) :
    (d.append (nameB (placeOf d most top).1) ⟨(frameB s).toArray⟩).1 = 0 ∧
      Kept (d.append (nameB (placeOf d most top).1) ⟨(frameB s).toArray⟩).2 (max top (placeOf d most top).1) (E ++ [((placeOf d most top).1, (placeOf d most top).2, s)]) ∧
      (d.append (nameB (placeOf d most top).1) ⟨(frameB s).toArray⟩).2.used = d.used + (s.length + 8) ∧ (d.append (nameB (placeOf d most top).1) ⟨(frameB s).toArray⟩).2.room = d.room ∧
      (d.append (nameB (placeOf d most top).1) ⟨(frameB s).toArray⟩).2.files.length ≤ d.files.length + 1 := by
  have hG := (h.good.append (nameB (placeOf d most top).1) ⟨(frameB s).toArray⟩)
  obtain ⟨h1, h2, h3, -⟩ := h.place most
  have htop := h.top0
  generalize placeOf d most top = pl at h1 h2 h3 hG ⊢
  obtain ⟨fl, at_⟩ := pl
  simp only at h1 h2 h3 hG ⊢
  have hsz : (⟨(frameB s).toArray⟩ : ByteArray).size = s.length + 8 := by rw [size_mk, frameB_length]
  have hap := append_ok h.calm (nameB_may fl (by omega) (by omega)) (data := ⟨(frameB s).toArray⟩) (by rw [hsz]; omega) hf
  rw [hap] at hG ⊢
  refine ⟨rfl, ?_, ?_, rfl, ?_⟩
  · refine ⟨hG, set_calm h.calm _ _, by omega, fun k => ?_, ?_, ?_, fun n hn0 hn1 => ?_, fun n => ?_⟩
    · show hasF (putF d.files (nameB fl) _) k = true ↔ _
      rw [hasF_put]
      simp only [Bool.or_eq_true, beq_iff_eq, h.files k, List.mem_append, List.mem_singleton]
      constructor
      · rintro (rfl | ⟨e, he, rfl⟩)
        · exact ⟨_, .inr rfl, rfl⟩
        · exact ⟨e, .inl he, rfl⟩
      · rintro ⟨e, he | rfl, rfl⟩
        · exact .inr ⟨e, he, rfl⟩
        · exact .inl rfl
    · intro e he
      rcases List.mem_append.1 he with he | he
      · have := h.nums e he; omega
      · obtain rfl := List.mem_singleton.1 he
        simp only
        omega
    · intro e he
      rcases List.mem_append.1 he with he | he
      · exact h.short e he
      · obtain rfl := List.mem_singleton.1 he
        exact hs
    · show (getF (putF d.files (nameB fl) _) (nameB n)).has.data.toList = _
      rw [getF_put, bodiesOf_snoc]
      by_cases hn : n = fl
      · subst hn
        rw [if_pos rfl, if_pos rfl, List.flatMap_append, ← h.bytes n hn0 hn1]
        simp [ByteArray.data_append]
      · rw [if_neg (fun e => hn (nameB_inj ⟨hn0, hn1⟩ ⟨h1, by omega⟩ e)), if_neg (fun e => hn e.symm), List.append_nil]
        exact h.bytes n hn0 hn1
    · rw [bodiesOf_snoc, ofFile_snoc]
      by_cases hn : fl = n
      · subst hn
        rw [if_pos rfl, if_pos rfl, List.map_append, placesOf_snoc, h.places fl]
        simp only [List.map_cons, List.map_nil, placeE, Nat.zero_add, h3]
      · rw [if_neg hn, if_neg hn, List.append_nil, List.append_nil]
        exact h.places n
  · show d.used + ((((getF d.files (nameB fl)).has ++ (⟨(frameB s).toArray⟩ : ByteArray)).size : Int) - ((getF d.files (nameB fl)).has.size : Int)) = _
    rw [ByteArray.size_append, hsz]
    omega
  · show (putF d.files (nameB fl) _).length ≤ _
    have := putF_length d.files (nameB fl) ⟨(getF d.files (nameB fl)).has ++ ⟨(frameB s).toArray⟩, (getF d.files (nameB fl)).safe⟩
    split at this <;> omega
theorem Kept.known {d : DiskM} {top : Int} {E : List Ent} (h : Kept d top E) {e : Ent} (he : e ∈ E) : d.known (nameB e.1) = 0 := by
  have := h.nums e he
  have ht := h.top0
  unfold DiskM.known
  rw [nameB_may e.1 (by omega) (by omega), (h.files _).2 ⟨e, he, rfl⟩]
  rfl
theorem Kept.shortOf {d : DiskM} {top : Int} {E : List Ent} (h : Kept d top E) (n : Int) : ∀ s ∈ bodiesOf E n, s.length ≤ 65536 := by
  intro s hs
  obtain ⟨e, he, rfl⟩ := List.mem_map.1 hs
  exact h.short e (List.mem_filter.1 he).1
theorem Kept.frames {d : DiskM} {top : Int} {E : List Ent} (h : Kept d top E) {n : Int} (h0 : 1 ≤ n) (h1 : n ≤ 1048576) : frames (getF d.files (nameB n)).has.data.toList = (bodiesOf E n, widthOf (bodiesOf E n)) := by
  rw [h.bytes n h0 h1]
  exact frames_flat _ (h.shortOf n)
/-- The place of a value among those of its file. -/
theorem placesOf_get (n : Int) : ∀ (l : List Bs) (k j : Nat) (hj : j < l.length), (placesOf n k l)[j]? = some (n, ((k + widthOf (l.take j) : Nat) : Int), (l[j].length : Int))
  | [], _, _, h => by simp at h
  | x :: r, k, 0, _ => by simp [placesOf, widthOf]
  | x :: r, k, j + 1, h => by
    have := placesOf_get n r (k + (8 + x.length)) j (by simpa using h)
    simp only [placesOf, List.getElem?_cons_succ, this, List.getElem_cons_succ, List.take_succ_cons, widthOf, List.map_cons, List.sum_cons]
    congr 4
    omega
theorem Kept.got {d : DiskM} {top : Int} {E : List Ent} (h : Kept d top E) {e : Ent} (he : e ∈ E) : getV (unframe (getF d.files (nameB e.1)).has.data.toList e.2.1) e.2.2.length = (e.2.2, 0) := by
  have hn := h.nums e he
  have ht := h.top0
  have hmem : e ∈ ofFile E e.1 := List.mem_filter.2 ⟨he, by simp⟩
  obtain ⟨j, hj, hje⟩ := List.getElem_of_mem hmem
  have hlen : (bodiesOf E e.1).length = (ofFile E e.1).length := by simp [bodiesOf]
  have hb : (bodiesOf E e.1)[j]'(by omega) = e.2.2 := by simp [bodiesOf, hje]
  have hp := placesOf_get e.1 (bodiesOf E e.1) 0 j (by omega)
  rw [← h.places e.1, List.getElem?_map, List.getElem?_eq_getElem hj, hje, hb] at hp
  simp only [Option.map_some, placeE, Option.some.injEq, Prod.mk.injEq, true_and, and_true, Nat.zero_add] at hp
  have hsplit : (bodiesOf E e.1).flatMap frameB = ((bodiesOf E e.1).take j).flatMap frameB ++ (frameB e.2.2 ++ ((bodiesOf E e.1).drop (j + 1)).flatMap frameB) := by
    rw [← List.flatMap_cons, ← List.flatMap_append, ← hb, ← List.drop_eq_getElem_cons, List.take_append_drop]
  have hw := width_frames ((bodiesOf E e.1).take j)
  rw [h.bytes e.1 hn.1 (by omega), hsplit, hp, ← hw, unframe_at _ _ _ (h.short e he)]
  simp [getV]
theorem Kept.count {d : DiskM} {top : Int} {E : List Ent} (h : Kept d top E) : ((numbersF d.files).map fun n => (placesOf n 0 (bodiesOf E n)).length).sum = E.length := by
  have hmem : ∀ e ∈ E, e.1 ∈ numbersF d.files := fun e he => h.mem.2 ⟨e, he, rfl⟩
  have hnd := numbersF_nodup h.good.sorted
  have : ∀ n, (placesOf n 0 (bodiesOf E n)).length = (ofFile E n).length := fun n => by rw [← h.places n]; simp
  simp only [this]
  clear this h
  generalize numbersF d.files = L at hmem hnd
  induction E with
  | nil =>
    simp only [ofFile, List.filter_nil, List.length_nil]
    clear hmem hnd
    induction L with
    | nil => rfl
    | cons a t ih => simpa using ih
  | cons e r ih =>
    have ih := ih (fun x hx => hmem x (by simp [hx]))
    have he := hmem e (by simp)
    have hone : ∀ n, (ofFile (e :: r) n).length = (if e.1 = n then 1 else 0) + (ofFile r n).length := fun n => by
      unfold ofFile
      by_cases hh : e.1 = n
      · simp [hh]; omega
      · simp [hh]
    simp only [hone, List.length_cons]
    have hsum : ∀ (L : List Int) (f g : Int → Nat), (L.map fun n => f n + g n).sum = (L.map f).sum + (L.map g).sum := fun L f g => by
      induction L with
      | nil => rfl
      | cons a t iht => simp only [List.map_cons, List.sum_cons, iht]; omega
    have hcnt : ∀ (L : List Int), L.Nodup → e.1 ∈ L → (L.map fun n => if e.1 = n then 1 else 0).sum = 1 := fun L => by
      induction L with
      | nil => intro _ hx; cases hx
      | cons a t iht =>
        intro hnd hx
        rw [List.nodup_cons] at hnd
        simp only [List.map_cons, List.sum_cons]
        by_cases ha : e.1 = a
        · have : (t.map fun n => if e.1 = n then 1 else 0).sum = 0 := by
            have hz : ∀ n ∈ t, (if e.1 = n then 1 else 0) = 0 := fun n hn => if_neg (fun e' => hnd.1 (by rw [← ha, e']; exact hn))
            rw [List.map_congr_left hz]
            clear iht hnd hx hz
            induction t with
            | nil => rfl
            | cons a t ih => simpa using ih
          rw [if_pos ha, this]
        · rw [if_neg ha, iht hnd.2 (by rcases List.mem_cons.1 hx with h | h; exact absurd h ha; exact h)]
    rw [hsum, hcnt L hnd he, ih]
    omega
/-- A new place is none of those before it. -/
theorem Kept.fresh {d : DiskM} {top : Int} {E : List Ent} (h : Kept d top E) (most : Int) (k : Int) : ∀ e ∈ E, placeE e ≠ ((placeOf d most top).1, (placeOf d most top).2, k) := by
  intro e he heq
  obtain ⟨h1, h2, h3, -⟩ := h.place most
  have hn := h.nums e he
  have ht := h.top0
  have hmem : e ∈ ofFile E e.1 := List.mem_filter.2 ⟨he, by simp⟩
  obtain ⟨j, hj, hje⟩ := List.getElem_of_mem hmem
  have hlen : (bodiesOf E e.1).length = (ofFile E e.1).length := by simp [bodiesOf]
  have hp := placesOf_get e.1 (bodiesOf E e.1) 0 j (by omega)
  rw [← h.places e.1, List.getElem?_map, List.getElem?_eq_getElem hj, hje] at hp
  simp only [Option.map_some, placeE, Option.some.injEq, Prod.mk.injEq, true_and, Nat.zero_add] at hp
  simp only [placeE, Prod.mk.injEq] at heq
  have hw : widthOf (bodiesOf E e.1) = widthOf ((bodiesOf E e.1).take j) + widthOf ((bodiesOf E e.1).drop j) := by
    unfold widthOf
    rw [← List.sum_append, ← List.map_append, List.take_append_drop]
  have hd := len_le_width ((bodiesOf E e.1).drop j)
  rw [List.length_drop] at hd
  rw [← heq.1] at h3
  omega
theorem Kept.nil {d : DiskM} (hG : d.Good) (hC : d.Calm) (hf : d.files = []) : Kept d 0 [] := by
  refine ⟨hG, hC, by omega, fun k => by rw [hf]; simp [hasF], ?_, ?_, fun n _ _ => by rw [hf]; rfl, fun n => rfl⟩
  · intro e he
    simp at he
  · intro e he
    simp at he
end Go.Proofs.YtljolihlhfabnaaGreatDoor
