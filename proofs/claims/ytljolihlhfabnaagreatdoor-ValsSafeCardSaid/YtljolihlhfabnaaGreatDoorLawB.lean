/-
  THE LAWS ON VALS: what their walks share: rows of places and of values, appended to side by side.
-/
import Derived.Test.YtljolihlhfabnaaGreatDoorLawA
import Derived.Deep.AppendLies
import Derived.SliceStrings
namespace Go.Proofs.YtljolihlhfabnaaGreatDoor
open Go Go.RowKit Go.Maps Go.Sort

/-- An append of one element, at a step of a region that draws. -/
theorem stepApp1 {P : Program} {w : World} {ops : Array Oper} {o : Oper} {a : Act} {K : Act → World → Prop} {Q : Exit → Act → World → Prop} {E : Prop} (hgd : o.guard = none) (s x : Operand) (t : TypeId)
    (ho : o.op = .call { callee := .builtin .append, args := #[s, x], argTypes := #[t, t] })
    (base : Nat) (e : TypeId) (z : Value) (size bytes : Nat) (ht : P.underlying t = some (.slice e)) (hI : (P.info? e).map (fun i => (i.zero, i.size, i.bytes)) = some (some z, size, bytes))
    (hzs : z.cells.size = size) (hsz : 0 < size) (hby : bytes ≤ 100)
    (v : Value) (n : Nat) (xs : List Value) (hs : a.eval s = v) (hown : w.ownsRow base e size v n xs)
    (g c : Nat) (news : List Value) (hx : a.eval x = .slice (some ⟨g, 0, none⟩) 1 c) (hl : news.length = size) (hnews : ∀ j u, news[j]? = some u → w.cell? ⟨g, j, none⟩ = some u) (h1 : ∀ u ∈ news, u.oneCell' = true)
    (hn : n ≤ 1000000000) (hbase : base ≤ w.heap.size)
    (h : ∀ v' w', w'.ownsRow base e size v' (n + 1) (xs ++ news) → w.grownBy w' v.ownBlock → K (a.put o.dst v') w') :
    if Region.wanted o (yielded ops a.tmps) = true then Oper.wp P o a w K Q else E := by
  cases hi : P.info? e with
  | none => rw [hi] at hI; cases hI
  | some i =>
    rw [hi] at hI
    simp only [Option.map_some, Option.some.injEq, Prod.mk.injEq] at hI
    obtain ⟨h2, h3, h4⟩ := hI
    refine step_append_lies w hgd s x t ho base e i z size bytes ht hi h2 h3 h4 hzs hsz v n xs hs hown ⟨g, 0, none⟩ 1 c news hx (by omega) (fun j u hj => ?_) h1 (by omega) (by unfold maxLen; omega) ?_ hbase _ rfl (fun g' cap' w' a1 a2 _ _ => h _ w' a1 a2)
    · have : (⟨g, 0, none⟩ : Addr).add j = ⟨g, j, none⟩ := by unfold Addr.add; split <;> simp_all
      rw [this]; exact hnews j u hj
    · calc (n + 1) * bytes ≤ (n + 1) * 100 := Nat.mul_le_mul_left _ hby
        _ ≤ 140737488355328 := by omega
/-- Two rows of unlike elements lie in two blocks. -/
theorem rows_apart {w : World} {b1 b2 : Nat} {e1 e2 : TypeId} {s1 s2 n1 n2 : Nat} {v1 v2 : Value} {x1 x2 : List Value} (h1 : w.ownsRow b1 e1 s1 v1 n1 x1) (h2 : w.ownsRow b2 e2 s2 v2 n2 x2) (he : e1 ≠ e2) : v1.ownBlock = none ∨ v1.ownBlock ≠ v2.ownBlock := by
  rcases h1.2 with ⟨rfl, _⟩ | ⟨g, cap, cur, rfl, _, hg, _⟩
  · exact .inl rfl
  · right
    intro hh
    exact own_ne h2 hg he hh.symm
def bodyCells (E : List Ent) : List Value := E.map fun e => encStr e.2.2
theorem bodyCells_snoc (E : List Ent) (e : Ent) : bodyCells (E ++ [e]) = bodyCells E ++ [encStr e.2.2] := by simp [bodyCells]
theorem placesE_snoc (E : List Ent) (e : Ent) : placeCells ((E ++ [e]).map placeE) = placeCells (E.map placeE) ++ [.int .i64 e.1, .int .i64 e.2.1, .int .i64 e.2.2.length] := by
  rw [List.map_append, List.map_singleton, placeCells_snoc]
  rfl
theorem placeCells_at (l : List (Int × Int × Int)) (k : Nat) (h : k < l.length) : (placeCells l)[3 * k]? = some (.int .i64 l[k].1) ∧ (placeCells l)[3 * k + 1]? = some (.int .i64 l[k].2.1) ∧ (placeCells l)[3 * k + 2]? = some (.int .i64 l[k].2.2) := by
  induction l generalizing k with
  | nil => simp at h
  | cons p r ih =>
    cases k with
    | zero => exact ⟨rfl, rfl, rfl⟩
    | succ k =>
      have := ih k (by simpa using h)
      have e : placeCells (p :: r) = [.int .i64 p.1, .int .i64 p.2.1, .int .i64 p.2.2] ++ placeCells r := by simp [placeCells]
      rw [e]
      refine ⟨?_, ?_, ?_⟩
      · rw [List.getElem?_append_right (by simp; omega)]
        simpa [show 3 * (k + 1) - 3 = 3 * k by omega] using this.1
      · rw [List.getElem?_append_right (by simp; omega)]
        simpa [show 3 * (k + 1) + 1 - 3 = 3 * k + 1 by omega] using this.2.1
      · rw [List.getElem?_append_right (by simp; omega)]
        simpa [show 3 * (k + 1) + 2 - 3 = 3 * k + 2 by omega] using this.2.2
theorem newsAt {w : World} {g : Nat} {cs : Array Value} {t : TypeId} {fz : Nat × Nat} {l : List Value} (hb : w.heap[g]? = some (.cells cs t fz)) (h : cs.toList = l) : ∀ j u, l[j]? = some u → w.cell? ⟨g, j, none⟩ = some u := by
  intro j u hj
  rw [cell_at hb, ← hj, ← h]
  simp
theorem szDA (w : World) (o : Obj) : (w.drew.alloc o).heap.size = w.heap.size + 1 := by
  have h : w.drew.heap = w.heap := rfl
  simp [World.alloc, h]
theorem szDAA (w : World) (o o' : Obj) : ((w.drew.alloc o).alloc o').heap.size = w.heap.size + 2 := by
  have h : w.drew.heap = w.heap := rfl
  simp [World.alloc, h]
theorem add_block (q : Addr) (k : Nat) : (q.add k).block = q.block := by unfold Addr.add; split <;> rfl
/-! ### a region in a large frame: the frame as a letter -/
theorem abs_act {P : Program} {id : Nat} {ops : Array Oper} {b : Bool} {Q : Exit → Act → World → Prop} {a : Act} {w : World} (h : ∀ A, A = a → (Code.region id ops b).wp P Q A w) : (Code.region id ops b).wp P Q a w := h a rfl
theorem eval_put_ne (a : Act) (d s : Nat) (v : Value) (h : d ≠ s) : (a.put (some d) v).eval (.tmp s) = a.eval (.tmp s) := by
  simp [Act.put, Act.eval, h]
theorem eval_put_eq (a : Act) (s : Nat) (v : Value) (h : s < a.tmps.size) : (a.put (some s) v).eval (.tmp s) = v := by
  simp [Act.put, Act.eval, h]
theorem size_put (a : Act) (d : Option Nat) (v : Value) : (a.put d v).tmps.size = a.tmps.size := by
  cases d <;> simp [Act.put]
theorem yield_move {P : Program} {ops : Array Oper} {S : World → Prop} {o : Oper} {a : Act} {v : Value} (x : Operand) (hg : o.guard = none) (ho : o.op = .move x) (hv : a.eval x = v) : YieldsIf P ops S o v a :=
  .inl ⟨by simp [Region.wanted, hg], fun W _ => by unfold execOp; rw [ho, ← hv]; rfl⟩
theorem yield_assign {P : Program} {ops : Array Oper} {S : World → Prop} {o : Oper} {a : Act} {v : Value} (x : Operand) (hg : o.guard = none) (ho : o.op = .assign x) (hv : a.eval x = v) : YieldsIf P ops S o v a :=
  .inl ⟨by simp [Region.wanted, hg], fun W _ => by unfold execOp; rw [ho, ← hv]; rfl⟩
theorem take_d {P : Program} {md : Region.Mode} {ops : Array Oper} {Q : Exit → Act → World → Prop} {S : World → Prop} {i : Nat} {oi : Oper} {v : Value} {fuel : Nat} {listed : Array Bool} {a : Act} {w : World} (d : Option Nat) (hi : ops[i]? = some oi) (hd : oi.dst = d)
    (hs : Region.noSelect ops = true) (hf : Region.free md ops listed i = true) (hr : (Region.ready md ops listed).contains i = true)
    (hQ : ∀ c a w, Q (.panic c) (a.put d v) w → Q (.panic c) a w) (hy : YieldsIf P ops S oi v a) (hS : S w)
    (h : wpAnyH P md ops Q S fuel (listed.setIfInBounds i true) (a.put d v) w) : wpAnyH P md ops Q S (fuel + 1) listed a w := by
  subst hd
  exact wpAnyH_take hi hs hf hr hQ hy hS h
theorem yield_load {P : Program} {ops : Array Oper} {S : World → Prop} {o : Oper} {a : Act} {v : Value} (ty : TypeId) (x : Operand) (p : Addr) (hg : o.guard = none) (ho : o.op = .load ty x) (hx : a.eval x = .pointer (some p))
    (hl : ∀ W, S W → (Instr.loadAt ty (.pointer (some p))).run P W = .ok v W) : YieldsIf P ops S o v a :=
  .inl ⟨by simp [Region.wanted, hg], fun W hW => by unfold execOp; rw [ho]; simp only [hx]; simp [Sem.run_bind, hl W hW]⟩
theorem yield_index {P : Program} {ops : Array Oper} {S : World → Prop} {o : Oper} {a : Act} {v : Value} (ty : TypeId) (x y : Operand) (u k : Value) (hg : o.guard = none) (ho : o.op = .indexAddr ty x y) (hx : a.eval x = u) (hy : a.eval y = k)
    (hl : ∀ W, S W → (Instr.indexAt ty u k).run P W = .ok v W) : YieldsIf P ops S o v a :=
  .inl ⟨by simp [Region.wanted, hg], fun W hW => by unfold execOp; rw [ho]; simp only [hx, hy]; simp [Sem.run_bind, hl W hW]⟩
/-- The operation that comes up is carried out. -/
theorem step_op {P : Program} {ops : Array Oper} {Q : Exit → Act → World → Prop} {i : Nat} {o : Oper} {K : Act → World → Prop} {a : Act} {w : World} (hi : ops[i]? = some o) (hg : o.guard = none) (h : o.wp P a w K Q) : wpOp P ops Q i K a w := by
  unfold wpOp
  simp only [hi]
  rw [if_pos (by simp [Region.wanted, hg])]
  exact .inl h
theorem op_build {P : Program} {o : Oper} {a : Act} {K : Act → World → Prop} {Q : Exit → Act → World → Prop} {w : World} (ty : TypeId) (x : Operand) (d : Option Nat) (hd : o.dst = d) (ho : o.op = .buildSlice ty 1 #[(0, x)]) (u v : Value) (w' : World) (hx : a.eval x = u)
    (hr : (Instr.buildSlice ty 1 #[(0, u)]).run P w = .ok v w') (h : K (a.put d v) w') : o.wp P a w K Q := by
  unfold Oper.wp execOp
  rw [ho]
  simp only [List.map_toArray, List.map_cons, List.map_nil, hx]
  simp [Sem.run_bind, hr, Oper.upon, hd, h]
/-- An append of one element, at the operation. -/
theorem opApp1 {P : Program} {w : World} {o : Oper} {a : Act} {K : Act → World → Prop} {Q : Exit → Act → World → Prop} (hgd : o.guard = none) (d : Option Nat) (hd : o.dst = d) (s x : Operand) (t : TypeId)
    (ho : o.op = .call { callee := .builtin .append, args := #[s, x], argTypes := #[t, t] })
    (base : Nat) (e : TypeId) (z : Value) (size bytes : Nat) (ht : P.underlying t = some (.slice e)) (hI : (P.info? e).map (fun i => (i.zero, i.size, i.bytes)) = some (some z, size, bytes))
    (hzs : z.cells.size = size) (hsz : 0 < size) (hby : bytes ≤ 100)
    (v : Value) (n : Nat) (xs : List Value) (hs : a.eval s = v) (hown : w.ownsRow base e size v n xs)
    (g c : Nat) (news : List Value) (hx : a.eval x = .slice (some ⟨g, 0, none⟩) 1 c) (hl : news.length = size) (hnews : ∀ j u, news[j]? = some u → w.cell? ⟨g, j, none⟩ = some u) (h1 : ∀ u ∈ news, u.oneCell' = true)
    (hn : n ≤ 1000000000) (hbase : base ≤ w.heap.size)
    (h : ∀ v' w', w'.ownsRow base e size v' (n + 1) (xs ++ news) → w.grownBy w' v.ownBlock → K (a.put d v') w') : Oper.wp P o a w K Q := by
  subst hd
  have := stepApp1 (ops := #[]) (E := True) (Q := Q) hgd s x t ho base e z size bytes ht hI hzs hsz hby v n xs hs hown g c news hx hl hnews h1 hn hbase h
  rwa [if_pos (by simp [Region.wanted, hgd])] at this
theorem sum_take (f : Int → Nat) (l : List Int) (j : Nat) : ((l.take j).map f).sum ≤ (l.map f).sum := by
  have : ((l.take j).map f).sum + ((l.drop j).map f).sum = (l.map f).sum := by
    rw [← List.sum_append, ← List.map_append, List.take_append_drop]
  omega
def sumTake (f : Int → Nat) (l : List Int) (j : Nat) : Nat := ((l.take j).map f).sum
theorem sumTake_succ (f : Int → Nat) (l : List Int) (j : Nat) (h : j < l.length) : sumTake f l (j + 1) = sumTake f l j + f l[j] := by
  unfold sumTake
  rw [List.take_succ_eq_append_getElem h, List.map_append, List.sum_append]
  simp
/-- The input: a slice of texts. -/
def TextsAt (w : World) (p : Option Addr) (n : Nat) (ss : Nat → ByteArray) : Prop :=
  ∀ i, i < n → ∃ a, p = some a ∧ a.block < w.heap.size ∧ w.cell? (a.add i) = some (.string (ss i)) ∧ (ss i).size ≤ maxLen
end Go.Proofs.YtljolihlhfabnaaGreatDoor
