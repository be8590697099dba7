/-
  THE PLAIN DISK's LAWS: what a file is behind each call; that the disk stays good.
-/
import Derived.Test.YtljolihlhfabnaaGreatDoorNames
namespace Go.Proofs.YtljolihlhfabnaaGreatDoor
open Go Go.RowKit Go.Maps

theorem before_irrefl (a : Bs) : bytesBefore a a = false := by
  cases h : bytesBefore a a
  · rfl
  · exact absurd ((before_lt a a).1 h) (List.lt_irrefl a)
theorem before_trans {a b c : Bs} (h : bytesBefore a b = true) (k : bytesBefore b c = true) : bytesBefore a c = true :=
  (before_lt _ _).2 (List.lt_trans ((before_lt _ _).1 h) ((before_lt _ _).1 k))
theorem before_of_not {a b : Bs} (h : bytesBefore a b = false) (hne : a ≠ b) : bytesBefore b a = true := by
  apply (before_lt _ _).2
  have h1 : ¬ a < b := fun hh => by rw [(before_lt _ _).2 hh] at h; cases h
  have h2 : b ≤ a := List.not_lt.1 h1
  by_cases h3 : b < a
  · exact h3
  · exact absurd (List.le_antisymm (List.not_lt.1 h3) h2) hne
theorem SortedF.ne {fs : Files} (h : SortedF fs) : fs.Pairwise fun p q => p.1 ≠ q.1 :=
  h.imp fun {a b} hab e => by rw [e, before_irrefl] at hab; cases hab

theorem mem_insF (x p : Bs × FileM) : ∀ fs : Files, p ∈ insF x fs ↔ p = x ∨ p ∈ fs
  | [] => by simp [insF]
  | y :: r => by
    unfold insF
    split
    · simp
    · simp only [List.mem_cons, mem_insF x p r]
      constructor
      · rintro (h | h | h) <;> simp [h]
      · rintro (h | h | h) <;> simp [h]
theorem insF_sorted (x : Bs × FileM) : ∀ fs : Files, (∀ p ∈ fs, p.1 ≠ x.1) → SortedF fs → SortedF (insF x fs)
  | [], _, _ => by simp [insF, SortedF]
  | y :: r, hn, h => by
    unfold SortedF at h ⊢
    rw [List.pairwise_cons] at h
    unfold insF
    split
    · rename_i hb
      refine List.pairwise_cons.2 ⟨fun q hq => ?_, List.pairwise_cons.2 h⟩
      rcases List.mem_cons.1 hq with rfl | hq
      · exact hb
      · exact before_trans hb (h.1 q hq)
    · rename_i hb
      refine List.pairwise_cons.2 ⟨fun q hq => ?_, insF_sorted x r (fun p hp => hn p (by simp [hp])) h.2⟩
      rcases (mem_insF x q r).1 hq with rfl | hq
      · exact before_of_not (by simpa using hb) (fun e => hn y (by simp) e.symm)
      · exact h.1 q hq
theorem delF_sorted {fs : Files} (h : SortedF fs) (k : Bs) : SortedF (delF fs k) := h.filter _
theorem delF_ne (fs : Files) (k : Bs) : ∀ p ∈ delF fs k, p.1 ≠ k := by
  intro p hp
  have := (List.mem_filter.1 hp).2
  simpa using this
theorem putF_sorted {fs : Files} (h : SortedF fs) (k : Bs) (f : FileM) : SortedF (putF fs k f) := insF_sorted (k, f) _ (delF_ne fs k) (delF_sorted h k)
theorem mem_names {fs : Files} {k : Bs} : k ∈ namesF fs ↔ hasF fs k = true := by
  simp [namesF, hasF]
theorem mem_put {fs : Files} {k : Bs} {f : FileM} {p : Bs × FileM} : p ∈ putF fs k f ↔ p = (k, f) ∨ (p ∈ fs ∧ p.1 ≠ k) := by
  rw [putF, mem_insF, delF, List.mem_filter]
  simp
theorem names_put {fs : Files} {k k' : Bs} {f : FileM} : k' ∈ namesF (putF fs k f) ↔ k' = k ∨ k' ∈ namesF fs := by
  simp only [namesF, List.mem_map]
  constructor
  · rintro ⟨p, hp, rfl⟩
    rcases mem_put.1 hp with rfl | ⟨hp, _⟩
    · exact .inl rfl
    · exact .inr ⟨p, hp, rfl⟩
  · rintro (rfl | ⟨p, hp, rfl⟩)
    · exact ⟨_, mem_put.2 (.inl rfl), rfl⟩
    · by_cases h : p.1 = k
      · exact ⟨(k, f), mem_put.2 (.inl rfl), h.symm⟩
      · exact ⟨p, mem_put.2 (.inr ⟨hp, h⟩), rfl⟩
theorem names_del {fs : Files} {k k' : Bs} : k' ∈ namesF (delF fs k) ↔ k' ≠ k ∧ k' ∈ namesF fs := by
  simp only [namesF, List.mem_map, delF, List.mem_filter]
  constructor
  · rintro ⟨p, ⟨hp, h⟩, rfl⟩
    exact ⟨by simpa using h, p, hp, rfl⟩
  · rintro ⟨h, p, hp, rfl⟩
    exact ⟨p, ⟨hp, by simpa using h⟩, rfl⟩
theorem find_insF (x : Bs × FileM) (k : Bs) : ∀ fs : Files, (∀ p ∈ fs, p.1 ≠ x.1) → (insF x fs).find? (fun p => p.1 == k) = if x.1 = k then some x else fs.find? (fun p => p.1 == k)
  | [], _ => by
    simp only [insF, List.find?_cons, List.find?_nil]
    by_cases h : x.1 = k
    · simp [h]
    · have h' : (x.1 == k) = false := by simpa using h
      simp [h, h']
  | y :: r, hn => by
    have ih := find_insF x k r (fun p hp => hn p (by simp [hp]))
    unfold insF
    split
    · rw [List.find?_cons]
      by_cases h : x.1 = k
      · simp [h]
      · have h' : (x.1 == k) = false := by simpa using h
        simp [h, h']
    · rw [List.find?_cons, ih]
      by_cases h : x.1 = k
      · have : (y.1 == k) = false := by simpa using fun e => hn y (by simp) (e.trans h.symm)
        simp [h, this]
      · simp only [h, if_false, List.find?_cons]
theorem find_delF (fs : Files) (k k' : Bs) : (delF fs k).find? (fun p => p.1 == k') = if k = k' then none else fs.find? (fun p => p.1 == k') := by
  unfold delF
  by_cases h : k = k'
  · rw [if_pos h, List.find?_eq_none]
    intro p hp
    have := (List.mem_filter.1 hp).2
    rw [← h]; simpa using this
  · rw [if_neg h, List.find?_filter]
    congr
    funext p
    by_cases h2 : p.1 = k'
    · have : ¬ p.1 = k := fun e => h (e.symm.trans h2)
      simp [h2]
      exact fun e => h e.symm
    · simp [h2]
theorem getF_put (fs : Files) (k k' : Bs) (f : FileM) : getF (putF fs k f) k' = if k' = k then f else getF fs k' := by
  unfold getF putF
  rw [find_insF (k, f) k' _ (delF_ne fs k), find_delF]
  by_cases h : k' = k
  · subst h; simp
  · have h' : ¬ k = k' := fun e => h e.symm
    simp [h, h']
theorem hasF_put (fs : Files) (k k' : Bs) (f : FileM) : hasF (putF fs k f) k' = (k' == k || hasF fs k') := by
  have h1 := @names_put fs k k' f
  rw [mem_names, mem_names] at h1
  cases hx : hasF (putF fs k f) k' <;> cases hy : hasF fs k' <;> simp_all
theorem getF_del (fs : Files) (k k' : Bs) : getF (delF fs k) k' = if k' = k then zeroF else getF fs k' := by
  unfold getF
  rw [find_delF]
  by_cases h : k' = k
  · subst h; simp
  · have h' : ¬ k = k' := fun e => h e.symm
    simp [h, h']
theorem hasF_del (fs : Files) (k k' : Bs) : hasF (delF fs k) k' = (!(k' == k) && hasF fs k') := by
  have h1 := @names_del fs k k'
  rw [mem_names, mem_names] at h1
  cases hx : hasF (delF fs k) k' <;> cases hy : hasF fs k' <;> simp_all
theorem getF_no {fs : Files} {k : Bs} (h : hasF fs k = false) : getF fs k = zeroF := by
  unfold getF
  have : fs.find? (fun p => p.1 == k) = none := by
    rw [List.find?_eq_none]
    intro p hp
    have := h
    simp only [hasF, List.any_eq_false] at this
    exact this p hp
  rw [this]

theorem insF_length (x : Bs × FileM) : ∀ fs : Files, (insF x fs).length = fs.length + 1
  | [] => rfl
  | y :: r => by
    unfold insF
    split
    · simp
    · simp [insF_length x r]
theorem delF_length (fs : Files) (k : Bs) : (delF fs k).length ≤ fs.length := List.length_filter_le _ _
theorem delF_length_lt {fs : Files} {k : Bs} (h : hasF fs k = true) : (delF fs k).length < fs.length := by
  unfold delF
  rw [List.length_filter_lt_length_iff_exists]
  simp only [hasF, List.any_eq_true] at h
  obtain ⟨p, hp, hk⟩ := h
  exact ⟨p, hp, by simpa using hk⟩
theorem putF_length (fs : Files) (k : Bs) (f : FileM) : (putF fs k f).length ≤ fs.length + (if hasF fs k = true then 0 else 1) := by
  rw [putF, insF_length]
  split
  · rename_i h
    have := delF_length_lt h
    omega
  · have := delF_length fs k
    omega
/-- How many bytes all files have. -/
def sumF (fs : Files) : Int := (fs.map fun p => (p.2.has.size : Int)).sum
theorem sumF_ins (x : Bs × FileM) : ∀ fs : Files, sumF (insF x fs) = x.2.has.size + sumF fs
  | [] => by simp [insF, sumF]
  | y :: r => by
    unfold insF
    split
    · simp [sumF]
    · have := sumF_ins x r
      simp only [sumF, List.map_cons, List.sum_cons] at this ⊢
      omega
theorem sumF_nonneg : ∀ fs : Files, 0 ≤ sumF fs
  | [] => by simp [sumF]
  | y :: r => by have := sumF_nonneg r; simp only [sumF, List.map_cons, List.sum_cons] at this ⊢; omega
theorem sumF_del : ∀ (fs : Files) (k : Bs), SortedF fs → sumF (delF fs k) = sumF fs - (getF fs k).has.size
  | [], k, _ => by simp [delF, sumF, getF, zeroF]
  | y :: r, k, h => by
    have h' := List.pairwise_cons.1 h.ne
    have ih := sumF_del r k (List.pairwise_cons.1 h).2
    by_cases hk : y.1 = k
    · have hd : delF (y :: r) k = r := by
        unfold delF
        rw [List.filter_cons_of_neg (by simp [hk]), List.filter_eq_self]
        intro p hp
        have := h'.1 p hp
        rw [hk] at this
        simpa using fun e => this e.symm
      have hg : getF (y :: r) k = y.2 := by simp [getF, List.find?_cons, hk]
      rw [hd, hg]
      simp only [sumF, List.map_cons, List.sum_cons]
      omega
    · have hd : delF (y :: r) k = y :: delF r k := by
        unfold delF
        rw [List.filter_cons_of_pos (by simp [hk])]
      have hg : getF (y :: r) k = getF r k := by simp [getF, List.find?_cons, hk]
      rw [hd, hg]
      simp only [sumF, List.map_cons, List.sum_cons] at ih ⊢
      omega
theorem sumF_put {fs : Files} (h : SortedF fs) (k : Bs) (f : FileM) : sumF (putF fs k f) = sumF fs - (getF fs k).has.size + f.has.size := by
  rw [putF, sumF_ins, sumF_del fs k h]
  simp only
  omega

/-- What may be known of a disk at any time. -/
structure DiskM.Good (d : DiskM) : Prop where
  sorted : SortedF d.files
  names : ∀ k ∈ namesF d.files, mayN k = true
  many : d.files.length ≤ 64
  left : 0 ≤ d.left ∧ d.left < 9223372036854775808
  sum : d.used = sumF d.files
  top : d.used ≤ d.room
  room : 0 ≤ d.room ∧ d.room ≤ 262144
theorem DiskM.Good.used {d : DiskM} (h : d.Good) : 0 ≤ d.used ∧ d.used ≤ d.room := ⟨by rw [h.sum]; exact sumF_nonneg _, h.top⟩
theorem DiskM.Good.has {d : DiskM} (h : d.Good) (k : Bs) : ((getF d.files k).has.size : Int) ≤ d.used := by
  have h1 := sumF_del d.files k h.sorted
  have h2 := sumF_nonneg (delF d.files k)
  rw [h.sum]
  omega
theorem mayN_length {k : Bs} (h : mayN k = true) : k.length ≤ 32 := by
  unfold mayN at h
  simp only [Bool.and_eq_true, decide_eq_true_eq] at h
  exact h.1.2
theorem ready_keeps (d : DiskM) : d.ready.2.files = d.files ∧ d.ready.2.used = d.used ∧ d.ready.2.room = d.room := by
  unfold DiskM.ready
  split
  · exact ⟨rfl, rfl, rfl⟩
  · split <;> exact ⟨rfl, rfl, rfl⟩
theorem DiskM.Good.ready {d : DiskM} (h : d.Good) : d.ready.2.Good := by
  have hk := ready_keeps d
  refine ⟨by rw [hk.1]; exact h.sorted, by rw [hk.1]; exact h.names, by rw [hk.1]; exact h.many, ?_, by rw [hk.1, hk.2.1]; exact h.sum, by rw [hk.2.1, hk.2.2]; exact h.top, by rw [hk.2.2]; exact h.room⟩
  have hl := h.left
  unfold DiskM.ready
  split
  · exact hl
  · rename_i h1
    split
    · rename_i h2
      simp only [Bool.and_eq_true, beq_iff_eq] at h1 h2
      have : d.left ≠ 0 := fun e => h1 ⟨h2.1, e⟩
      simp only
      omega
    · exact hl
theorem DiskM.Good.set {d : DiskM} (h : d.Good) {k : Bs} (hk : mayN k = true) (f : FileM) (hs : d.used - (getF d.files k).has.size + f.has.size ≤ d.room) (hm : hasF d.files k = true ∨ d.files.length < 64) : (d.set k f).Good := by
  refine ⟨putF_sorted h.sorted k f, fun k' hk' => ?_, ?_, h.left, ?_, ?_, h.room⟩
  · rcases names_put.1 hk' with rfl | hk'
    · exact hk
    · exact h.names k' hk'
  · have := putF_length d.files k f
    have hmn := h.many
    show (putF d.files k f).length ≤ 64
    rcases hm with hm | hm
    · rw [if_pos hm] at this; omega
    · split at this <;> omega
  · show d.used + ((f.has.size : Int) - ((getF d.files k).has.size : Int)) = sumF (putF d.files k f)
    rw [sumF_put h.sorted, h.sum]; omega
  · show d.used + ((f.has.size : Int) - ((getF d.files k).has.size : Int)) ≤ d.room
    omega
theorem DiskM.Good.append {d : DiskM} (h : d.Good) (k : Bs) (data : ByteArray) : (d.append k data).2.Good := by
  unfold DiskM.append
  split
  · exact h
  · rename_i h1
    split
    · exact h
    · rename_i h2
      split
      · exact h.ready
      · have hk := ready_keeps d
        refine h.ready.set (by simpa using h1) _ ?_ ?_
        · rw [hk.1, hk.2.1, hk.2.2]
          simp only [not_or, Int.not_lt] at h2
          simp only [ByteArray.size_append]
          omega
        · rw [hk.1]
          simp only [not_or, Bool.not_eq_true] at h2
          cases hx : hasF d.files k
          · right
            have := h2.2
            simp [hx] at this
            exact this
          · exact .inl rfl
theorem known_zero {d : DiskM} {k : Bs} (h : d.known k = 0) : mayN k = true ∧ hasF d.files k = true := by
  unfold DiskM.known at h
  cases h1 : mayN k <;> cases h2 : hasF d.files k <;> simp_all
theorem DiskM.Good.cut {d : DiskM} (h : d.Good) (k : Bs) (n : Int) : (d.cut k n).2.Good := by
  unfold DiskM.cut
  split
  · exact h
  · rename_i h1
    split
    · exact h
    · rename_i h2
      split
      · exact h.ready
      · obtain ⟨hk1, hk2⟩ := known_zero (Decidable.not_not.1 h1)
        have hk := ready_keeps d
        refine h.ready.set hk1 _ ?_ (.inl (by rw [hk.1]; exact hk2))
        rw [hk.1, hk.2.1, hk.2.2]
        have := h.used
        simp only [not_or, Int.not_lt] at h2
        simp only [ByteArray.size_extract]
        omega
theorem DiskM.Good.remove {d : DiskM} (h : d.Good) (k : Bs) : (d.remove k).2.Good := by
  unfold DiskM.remove
  split
  · exact h
  · split
    · exact h.ready
    · have hr := h.ready
      have hd := sumF_del d.ready.2.files k hr.sorted
      refine ⟨delF_sorted hr.sorted k, fun k' hk' => hr.names k' (names_del.1 hk').2, ?_, hr.left, ?_, ?_, hr.room⟩
      · have := delF_length d.ready.2.files k
        have := hr.many
        show (delF d.ready.2.files k).length ≤ 64
        omega
      · show d.ready.2.used - ((getF d.ready.2.files k).has.size : Int) = sumF (delF d.ready.2.files k)
        rw [hd, hr.sum]
      · show d.ready.2.used - ((getF d.ready.2.files k).has.size : Int) ≤ d.ready.2.room
        have := hr.used
        omega
end Go.Proofs.YtljolihlhfabnaaGreatDoor
