/-
  FRAMES AND SUMS, plainly: numbers as bytes, lowest first; the sum; what a frame is, and what is read of one. No program in sight.
-/
import Derived.Test.YtljolihlhfabnaaGreatDoorPlain
namespace Go.Proofs.YtljolihlhfabnaaGreatDoor
open Go

theorem size_mk (l : Bs) : (⟨l.toArray⟩ : ByteArray).size = l.length := by simp [ByteArray.size]
theorem mk_data (s : ByteArray) : (⟨s.data.toList.toArray⟩ : ByteArray) = s := by simp
/-- k bytes of n, the lowest first. -/
def le (n : Nat) : Nat → Bs
  | 0 => []
  | k + 1 => UInt8.ofNat (n % 256) :: le (n / 256) k
def unle : Bs → Nat
  | [] => 0
  | c :: r => c.toNat + 256 * unle r
theorem le_length : ∀ (k n : Nat), (le n k).length = k
  | 0, _ => rfl
  | k + 1, n => by simp [le, le_length k]
theorem le_snoc : ∀ (k n : Nat), le n (k + 1) = le n k ++ [UInt8.ofNat (n / 256 ^ k % 256)]
  | 0, n => by simp [le]
  | k + 1, n => by
    have h := le_snoc k (n / 256)
    have e : n / 256 / 256 ^ k = n / 256 ^ (k + 1) := by rw [Nat.div_div_eq_div_mul, Nat.pow_succ, Nat.mul_comm]
    rw [show le n (k + 1 + 1) = UInt8.ofNat (n % 256) :: le (n / 256) (k + 1) from rfl, h, e]
    rfl
theorem unle_le : ∀ (k n : Nat), n < 256 ^ k → unle (le n k) = n
  | 0, n, h => by simp at h; subst h; rfl
  | k + 1, n, h => by
    have h1 : n / 256 < 256 ^ k := by rw [Nat.pow_succ] at h; omega
    have h2 : (UInt8.ofNat (n % 256)).toNat = n % 256 := by simp
    show (UInt8.ofNat (n % 256)).toNat + 256 * unle (le (n / 256) k) = n
    rw [unle_le k _ h1, h2]; omega
theorem unle_lt : ∀ l : Bs, unle l < 256 ^ l.length
  | [] => by simp [unle]
  | c :: r => by
    have := unle_lt r
    have hc := c.toNat_lt
    simp only [unle, List.length_cons, Nat.pow_succ]
    omega
/-- The sum's two numbers. -/
def sumXY (l : Bs) : Nat × Nat := l.foldl (fun p c => ((p.1 + c.toNat) % 65521, (p.2 + (p.1 + c.toNat) % 65521) % 65521)) (1, 0)
theorem sumXY_lt (l : Bs) : (sumXY l).1 < 65521 ∧ (sumXY l).2 < 65521 := by
  unfold sumXY
  suffices h : ∀ (l : Bs) (p : Nat × Nat), p.1 < 65521 ∧ p.2 < 65521 → (l.foldl (fun p c => ((p.1 + c.toNat) % 65521, (p.2 + (p.1 + c.toNat) % 65521) % 65521)) p).1 < 65521 ∧ (l.foldl (fun p c => ((p.1 + c.toNat) % 65521, (p.2 + (p.1 + c.toNat) % 65521) % 65521)) p).2 < 65521 from h l (1, 0) (by decide)
  intro l
  induction l with
  | nil => intro p h; exact h
  | cons c r ih => intro p _; exact ih _ ⟨Nat.mod_lt _ (by decide), Nat.mod_lt _ (by decide)⟩
theorem sumXY_snoc (l : Bs) (c : UInt8) : sumXY (l ++ [c]) = (((sumXY l).1 + c.toNat) % 65521, ((sumXY l).2 + ((sumXY l).1 + c.toNat) % 65521) % 65521) := by
  simp [sumXY, List.foldl_append]
def sumN (l : Bs) : Nat := (sumXY l).2 * 65536 + (sumXY l).1
theorem sumN_lt (l : Bs) : sumN l < 4294967296 := by
  have := sumXY_lt l
  unfold sumN; omega
/-- A frame. -/
def frameB (b : Bs) : Bs := le b.length 4 ++ b ++ le (sumN (le b.length 4 ++ b)) 4
theorem frameB_length (b : Bs) : (frameB b).length = b.length + 8 := by simp [frameB, le_length]; omega
/-- What is read at a place: the body, the end, the fault's place, the fault. -/
structure UnF where
  body : Bs
  fin : Int
  at_ : Int
  code : Int
def unframe (b : Bs) (at_ : Int) : UnF :=
  if at_ < 0 ∨ (b.length : Int) < at_ then ⟨[], 0, 0, 1⟩
  else
    let rest := b.drop at_.toNat
    if rest.length < 4 then ⟨[], 0, at_, 11⟩
    else if 65536 < unle (rest.take 4) then ⟨[], 0, at_, 2⟩
    else if rest.length < 4 + unle (rest.take 4) + 4 then ⟨[], 0, at_, 11⟩
    else if sumN (rest.take (4 + unle (rest.take 4))) ≠ unle ((rest.drop (4 + unle (rest.take 4))).take 4) then ⟨[], 0, at_, 10⟩
    else ⟨(rest.take (4 + unle (rest.take 4))).drop 4, at_ + (4 + unle (rest.take 4) : Nat) + 4, 0, 0⟩
/-- Is it whole? -/
def UnF.ok (u : UnF) : Bool := u.at_ == 0 && u.code == 0
theorem unframe_fin {b : Bs} {at_ : Int} (h : (unframe b at_).ok = true) : 0 ≤ at_ ∧ at_ + 8 ≤ (unframe b at_).fin ∧ (unframe b at_).fin ≤ b.length := by
  revert h
  unfold unframe UnF.ok
  simp only
  split
  · simp
  · rename_i h1
    split
    · simp
    · split
      · simp
      · split
        · simp
        · rename_i h4
          split
          · simp
          · intro _
            have hl : (b.drop at_.toNat).length = b.length - at_.toNat := List.length_drop
            rw [hl] at h4
            refine ⟨by omega, by simp only; omega, by simp only; omega⟩
/-- The bodies of frames one behind the other, from a place on, and where they end. -/
def framesFrom (b : Bs) (at_ : Nat) : List Bs × Nat :=
  if h : (unframe b at_).ok = true then
    have : b.length - (unframe b at_).fin.toNat < b.length - at_ := by have := unframe_fin h; omega
    let r := framesFrom b (unframe b at_).fin.toNat
    ((unframe b at_).body :: r.1, r.2)
  else ([], at_)
termination_by b.length - at_
def frames (b : Bs) : List Bs × Nat := framesFrom b 0
theorem framesFrom_fin (b : Bs) (at_ : Nat) : at_ ≤ (framesFrom b at_).2 := by
  induction at_ using framesFrom.induct b with
  | case1 at_ h _ ih =>
    rw [framesFrom, dif_pos h]
    have := unframe_fin h
    simp only
    omega
  | case2 at_ h => rw [framesFrom, dif_neg h]; exact Nat.le_refl _
end Go.Proofs.YtljolihlhfabnaaGreatDoor
