/-
  THE LAW ValsSafe: a put, with what is sure of it.
-/
import Derived.Test.YtljolihlhfabnaaGreatDoorPlainF
import Derived.Test.YtljolihlhfabnaaGreatDoorLawB
namespace Go.Proofs.YtljolihlhfabnaaGreatDoor
open Go Go.RowKit Go.Maps Go.Sort

theorem Put_sure (w : World) (hE : Env w) (v a b : Nat) (d : DiskM) (most top : Int) (h : ValsAt w v a b d most top) (E : List Ent) (hK : Kept d top E) (sr : Nat) (hS : Sure d E sr) (s : ByteArray) (hs : s.size ≤ 65536) (ht : top < 1048576) (hm : 0 ≤ most ∧ most ≤ 1000000)
    (hr : d.used + (s.size + 8) ≤ d.room) (hf : d.files.length < 64) :
    Calls Tryz.prog 10 #[.pointer (some ⟨v, 0, none⟩), .string s] w fun e w' => ∃ d' fl at_, e = .returned (.tuple #[.agg #[.int .i64 fl, .int .i64 at_, .int .i64 s.size], .int .i64 0]) ∧ (fl, at_) = placeOf d most top ∧ max top fl ≤ top + 1 ∧
      ValsAt w' v a b d' most (max top fl) ∧ Kept d' (max top fl) (E ++ [(fl, at_, s.data.toList)]) ∧ Sure d' (E ++ [(fl, at_, s.data.toList)]) sr ∧ d'.used = d.used + (s.size + 8) ∧ d'.room = d.room ∧ d'.files.length ≤ d.files.length + 1 ∧ Fr [v, a, b] w w' := by
  have hsz : s.data.toList.length = s.size := by simp
  obtain ⟨h1, h2, h3, h4, h5⟩ := hK.put most s.data.toList (by omega) ht (by omega) hf
  obtain ⟨p1, p2, p3, p4⟩ := hK.place most
  have h6 := hS.put hK (placeOf d most top).1 (placeOf d most top).2 (by omega) s.data.toList (by omega) hf
  refine (Put_ok w hE v a b d most top h hK.good s hs hK.top0 hm (by omega) h1).mono ?_
  rintro e w' ⟨rfl, hV, hF⟩
  exact ⟨_, _, _, rfl, rfl, by omega, hV, h2, h6, by rw [h3]; omega, h4, h5, hF⟩
theorem put_comm (a : Act) (i j : Nat) (u v : Value) (h : i ≠ j) : (a.put (some i) u).put (some j) v = (a.put (some j) v).put (some i) u := by
  simp only [Act.put]
  rw [Array.setIfInBounds_comm _ _ h]
theorem ints_to {w w3 wr : World} {v a b : Nat} {p : Option Addr} {n : Nat} {zs : Nat → Int} (h : IntsIn w [] p n zs) (f : Fr [] w w3) (g : Fr [v, a, b] w3 wr) (hp : w.heap.size < v ∧ w.heap.size < a ∧ w.heap.size < b) : IntsIn wr [a, b] p n zs := by
  intro i hi
  obtain ⟨k, off, h1, h2, h3, h4, h5⟩ := h i hi
  have hs := f.size
  exact ⟨k, off, h1, by have := g.size; omega, by simp; omega, (g.cell (p := ⟨k, off + i, none⟩) (by simp; omega) (by simp; omega)).trans ((f.cell (p := ⟨k, off + i, none⟩) h2 (by simp)).trans h4), h5⟩
end Go.Proofs.YtljolihlhfabnaaGreatDoor
