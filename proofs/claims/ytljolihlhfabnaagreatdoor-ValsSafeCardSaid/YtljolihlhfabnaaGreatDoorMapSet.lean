/-
  A STORE AT A KEY THAT IS THERE, while a map is ranged over: the entry keeps its stamp, so what is still to come is as it was. And the plain files behind a store at a name that is there.
-/
import Derived.Test.YtljolihlhfabnaaGreatDoorDiskP
import Derived.Maps.RangeWalk
namespace Go
open Go.ChangeMaps Go.MapKept Go.WideShapes
open Go.WideElems (Fit rd rg pl rd_key rd_val rg_of other_key rd_mk)
open Go.Maps (Keyed)

section
variable {H : Type} {P : Program} {k : TypeId} {R : Value → Option (DataW H × List MemPlace)} {w : World} {b r n : Nat} {D : DataW H} {left : Lit → Bool} {cnt : Nat}

theorem heap_of_setBlock {w : World} {b : Nat} {o o' : Obj} {es : Array MapEntry} {clock : Nat} (hb : w.heap[b]? = some (.map es clock)) (h : setBlock w b o = setBlock w b o') : o = o' := by
  have h1 := heap_setBlock_same hb o
  rw [h, heap_setBlock_same hb o'] at h1
  exact (Option.some.inj h1).symm

theorem World.ranges.store {t e : TypeId} (h : w.ranges P k R b r n D left cnt) (K : Keyed P k) (ht : P.underlying t = some (.map k e)) (hn : n < maxLen) {key val : Value} {kl : Lit} {d : DataW H} {ps : List MemPlace}
    (hkey : keyOf P k key = some kl) (hhas : Maps.has D kl = true) (hv : R val = some (d, ps)) :
    ∃ w', (Instr.mapUpdate t (.map (some b)) key val).run P w = .ok () w' ∧ w'.ranges P k R b r n (D.put kl d) left cnt ∧ w.grownBy w' (some b) := by
  have hne := h.ne
  obtain ⟨es, clock, since, seen, c0, hb, F, hs, rfl, hr, hold, rfl, hl1, hl2, hsc, hsk⟩ := h
  obtain ⟨es', clock', hrun, F', hput, _⟩ := Maps.fit_store (R' := R) K ht hb F (Nat.lt_of_le_of_lt hs hn) (fun _ _ _ _ hz => hz) hkey hv
  rcases K.find w hkey es.toList F.keys with ⟨h1, h2⟩ | ⟨j, e0, h1, h2, h3⟩
  · exfalso
    obtain ⟨p, hp, hpk⟩ := List.any_eq_true.1 hhas
    obtain ⟨x, hx, rfl⟩ := List.mem_map.1 (mem_sorted.1 hp)
    obtain ⟨y, hy⟩ := F.reads x hx
    have e1 := WideAt.sameKey_eq hpk
    rw [rg_of hy] at e1
    exact h2 x hx (K.inj (e1 ▸ rd_key hy) hkey)
  · have hj : es[j]? = some e0 := by simpa using h2
    have hjl : j < es.toList.length := (List.getElem?_eq_some_iff.1 h2).1
    have hrun2 : (Instr.mapUpdate t (.map (some b)) key val).run P w = .ok () (setBlock w b (.map (es.modify j (fun e' => { e' with key := key, val := val })) clock)) := by
      simp [Instr.mapUpdate, run_underlying ht, MapKept.run_getObj_map hb, K.check w false hkey, h1, hj, h3, K.stays w hkey, MapKept.run_setObj_map _ hb, Result.andThen, setBlock]
    have hsame := heap_of_setBlock hb (Result.ok.inj (hrun.symm.trans hrun2)).2
    injection hsame with he hc
    subst he hc
    have hlist : (es.modify j (fun e' => { e' with key := key, val := val })).toList = es.toList.set j { e0 with key := key, val := val } := by rw [Array.toList_modify, modify_eq_set _ _ _ _ h2]
    have hborn : (es.modify j (fun e' => { e' with key := key, val := val })).toList.map MapEntry.born = es.toList.map MapEntry.born := by
      rw [hlist, List.map_set]
      apply List.ext_getElem?
      intro i
      rw [List.getElem?_set]
      split
      · rename_i hij
        subst hij
        simp only [List.length_map, List.getElem?_map, h2, Option.map_some]
        rw [if_pos hjl]
      · rfl
    have hnew : (rg P k R { e0 with key := key, val := val }).1 = (rg P k R e0).1 := by
      obtain ⟨y, hy⟩ := F.reads e0 (List.mem_of_getElem? h2)
      rw [rg_of hy, rg_of (rd_mk (born := e0.born) hkey hv)]
      have := rd_key hy
      rw [h3, hkey] at this
      exact Option.some.inj this
    have who : ∀ x ∈ es.toList.set j { e0 with key := key, val := val }, x = { e0 with key := key, val := val } ∨ x ∈ es.toList := by
      intro x hx
      rcases List.mem_or_eq_of_mem_set hx with hx | hx
      · exact .inr hx
      · exact .inl hx
    refine ⟨_, hrun, ⟨_, _, since, seen, c0, heap_setBlock_same hb _, F', by simpa using hs, by rw [DataW.put_eq, hput], (heap_setBlock_other hb _ hne).trans hr, ?_, ?_, ?_, ?_, hsc, hsk⟩, ⟨rfl, rfl, rfl, by simp [setBlock], fun i _ hi => heap_setBlock_other hb _ (fun e => hi (by rw [e]))⟩⟩
    · intro x hx
      have h4 : x.born ∈ es.toList.map MapEntry.born := by rw [← hborn]; exact List.mem_map.2 ⟨x, hx, rfl⟩
      obtain ⟨z, hz, hzb⟩ := List.mem_map.1 h4
      rw [← hzb]
      exact hold z hz
    · have e1 : ∀ a : Array MapEntry, (leftOf a seen).size = ((a.toList.map MapEntry.born).filter fun m => !seen.contains m).length := fun a => by
        unfold leftOf
        rw [← Array.length_toList, Array.toList_filter, List.filter_map, List.length_map]
        rfl
      rw [e1, e1, hborn]
    · intro x hx
      rw [hlist] at hx
      rcases who x hx with rfl | hx
      · rw [hnew, hl1 e0 (List.mem_of_getElem? h2)]
      · exact hl1 x hx
    · intro kl' hkl'
      obtain ⟨x, hx, rfl⟩ := hl2 kl' hkl'
      obtain ⟨i, hi, ex⟩ := List.getElem_of_mem hx
      rw [hlist]
      by_cases hij : j = i
      · subst hij
        have : x = e0 := by
          rw [List.getElem?_eq_getElem hi, ex] at h2
          exact Option.some.inj h2
        subst this
        exact ⟨_, List.mem_set hi _, hnew⟩
      · refine ⟨x, ?_, rfl⟩
        rw [← ex]
        have hi2 : i < (es.toList.set j { e0 with key := key, val := val }).length := by simpa using hi
        have := List.getElem_mem hi2
        rwa [List.getElem_set_ne hij] at this
end
end Go
namespace Go.Proofs.YtljolihlhfabnaaGreatDoor
open Go Go.RowKit Go.Maps

/-- A store at a name that is there. -/
theorem putF_at {fs : Files} (h : SortedF fs) {k : Bs} (hk : hasF fs k = true) (f : FileM) : putF fs k f = fs.map fun p => if p.1 = k then (k, f) else p := by
  have hmem : ∀ p, p ∈ putF fs k f ↔ p ∈ fs.map fun p => if p.1 = k then (k, f) else p := by
    intro p
    rw [mem_put, List.mem_map]
    constructor
    · rintro (rfl | ⟨hp, hne⟩)
      · obtain ⟨q, hq, hqk⟩ := List.mem_map.1 (mem_names.2 hk)
        exact ⟨q, hq, by rw [if_pos hqk]⟩
      · exact ⟨p, hp, by rw [if_neg hne]⟩
    · rintro ⟨q, hq, rfl⟩
      by_cases hqk : q.1 = k
      · rw [if_pos hqk]; exact .inl rfl
      · rw [if_neg hqk]; exact .inr ⟨hq, hqk⟩
  have hs2 : SortedF (fs.map fun p => if p.1 = k then (k, f) else p) := by
    unfold SortedF
    rw [List.pairwise_map]
    refine h.imp ?_
    intro p q hpq
    have e1 : ∀ x : Bs × FileM, (if x.1 = k then (k, f) else x).1 = x.1 := fun x => by by_cases hx : x.1 = k <;> simp [hx]
    rw [e1, e1]
    exact hpq
  have hs1 := putF_sorted h k f
  have nd : ∀ {l : Files}, SortedF l → l.Nodup := fun hl => hl.ne.imp (fun hne e => hne (by rw [e]))
  have hperm := (List.perm_ext_iff_of_nodup (nd hs1) (nd hs2)).2 hmem
  refine List.Perm.eq_of_pairwise (le := fun p q => bytesBefore p.1 q.1 = true) (fun a c _ _ hac hca => ?_) (show List.Pairwise (fun p q : Bs × FileM => bytesBefore p.1 q.1 = true) _ from hs1) (show List.Pairwise (fun p q : Bs × FileM => bytesBefore p.1 q.1 = true) _ from hs2) hperm
  have := before_trans hac hca
  rw [before_irrefl] at this
  cases this
/-- Some files made safe. -/
def syncF (fs : Files) (done : Bs → Bool) : Files := fs.map fun p => if done p.1 = true then (p.1, ⟨p.2.has, (p.2.has.size : Int)⟩) else p
theorem syncF_names (fs : Files) (done : Bs → Bool) : namesF (syncF fs done) = namesF fs := by
  unfold namesF syncF
  rw [List.map_map]
  apply List.map_congr_left
  intro p _
  simp only [Function.comp]
  split <;> rfl
theorem syncF_sorted {fs : Files} (h : SortedF fs) (done : Bs → Bool) : SortedF (syncF fs done) := by
  have h1 : (namesF fs).Pairwise fun a c => bytesBefore a c = true := by unfold namesF; rw [List.pairwise_map]; exact h
  rw [← syncF_names fs done] at h1
  unfold namesF at h1
  rw [List.pairwise_map] at h1
  exact h1
theorem syncF_has (fs : Files) (done : Bs → Bool) (k : Bs) : hasF (syncF fs done) k = hasF fs k := by
  have h1 : k ∈ namesF (syncF fs done) ↔ k ∈ namesF fs := by rw [syncF_names]
  rw [mem_names, mem_names] at h1
  cases hx : hasF (syncF fs done) k <;> cases hy : hasF fs k <;> simp_all
theorem syncF_get (fs : Files) (done : Bs → Bool) (k : Bs) (hk : hasF fs k = true) : getF (syncF fs done) k = if done k = true then ⟨(getF fs k).has, ((getF fs k).has.size : Int)⟩ else getF fs k := by
  induction fs with
  | nil => simp [hasF] at hk
  | cons p r ih =>
    by_cases hp : p.1 = k
    · subst hp
      by_cases hd : done p.1 = true <;> simp [syncF, getF, List.find?_cons, hd]
    · have hk' : hasF r k = true := by
        simp only [hasF, List.any_cons, Bool.or_eq_true, beq_iff_eq] at hk
        exact hk.resolve_left hp
      have h1 : getF (syncF (p :: r) done) k = getF (syncF r done) k := by
        by_cases hd : done p.1 = true <;> simp [syncF, getF, List.find?_cons, hd, hp]
      have h2 : getF (p :: r) k = getF r k := by simp [getF, List.find?_cons, hp]
      rw [h1, h2, ih hk']
/-- One file more made safe. -/
theorem syncF_step {fs : Files} (h : SortedF fs) (done : Bs → Bool) {k : Bs} (hk : hasF fs k = true) : putF (syncF fs done) k ⟨(getF fs k).has, ((getF fs k).has.size : Int)⟩ = syncF fs (fun x => done x || x == k) := by
  rw [putF_at (syncF_sorted h done) (by rw [syncF_has]; exact hk)]
  unfold syncF
  rw [List.map_map]
  apply List.map_congr_left
  intro p hp
  have hg : p.1 = k → getF fs k = p.2 := by
    intro e
    subst e
    unfold getF
    clear hk
    induction fs with
    | nil => cases hp
    | cons q r ih =>
      rw [List.find?_cons]
      rcases List.mem_cons.1 hp with rfl | hp'
      · simp
      · have hne := (List.pairwise_cons.1 h.ne).1 p hp'
        have : (q.1 == p.1) = false := by simpa using hne
        rw [this]
        exact ih (List.pairwise_cons.1 h).2 hp'
  simp only [Function.comp]
  by_cases he : p.1 = k
  · have hg' := hg he
    subst he
    rw [hg']
    by_cases hd : done p.1 = true <;> simp [hd]
  · by_cases hd : done p.1 = true <;> simp [hd, he]
theorem syncF_none (fs : Files) : syncF fs (fun _ => false) = fs := by simp [syncF]
end Go.Proofs.YtljolihlhfabnaaGreatDoor
