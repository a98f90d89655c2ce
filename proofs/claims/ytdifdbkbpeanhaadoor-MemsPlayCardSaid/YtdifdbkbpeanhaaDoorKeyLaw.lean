/- The plain law of keys: facts in bytes. No program. -/
import Derived.Test.YtdifdbkbpeanhaaDoorMg1
set_option linter.unusedSimpArgs false
set_option linter.unusedVariables false
namespace Herb
open Go
/-- One of a number's bytes, turned: the i-th of m, the highest one first. -/
def tb (n m i : Nat) : UInt8 := UInt8.ofNat (255 - n / 2 ^ (8 * (m - 1 - i)) % 256)
/-- A number in m bytes. -/
def be (n m : Nat) : List UInt8 := (List.range m).map (tb n m)
theorem be_length (n m : Nat) : (be n m).length = m := by simp [be]
/-- A tail, in which k of the m bytes from f on are laid. -/
def laidB (T : List UInt8) (f m n k : Nat) : List UInt8 := (List.range k).foldl (fun T i => T.set (f + i) (tb n m i)) T
theorem laidB_zero (T : List UInt8) (f m n : Nat) : laidB T f m n 0 = T := rfl
theorem laidB_succ (T : List UInt8) (f m n k : Nat) : laidB T f m n (k + 1) = (laidB T f m n k).set (f + k) (tb n m k) := by
  unfold laidB
  rw [List.range_succ, List.foldl_append]
  rfl
theorem laidB_length (T : List UInt8) (f m n : Nat) : ∀ k, (laidB T f m n k).length = T.length
  | 0 => rfl
  | k + 1 => by rw [laidB_succ, List.length_set, laidB_length T f m n k]
/-- A key's bytes: behind each 0 a 1; two noughts are the end. -/
def escB (l : List UInt8) : List UInt8 := l.flatMap fun c => if c = 0 then [0, 1] else [c]
def esc (l : List UInt8) : List UInt8 := escB l ++ [0, 0]
theorem escB_nil : escB [] = [] := rfl
theorem escB_snoc (l : List UInt8) (c : UInt8) : escB (l ++ [c]) = escB l ++ if c = 0 then [0, 1] else [c] := by simp [escB]
theorem escB_cons (c : UInt8) (l : List UInt8) : escB (c :: l) = (if c = 0 then [0, 1] else [c]) ++ escB l := by simp [escB]
theorem escB_length (l : List UInt8) : (escB l).length ≤ 2 * l.length := by
  induction l with
  | nil => simp [escB]
  | cons c l ih =>
    rw [escB_cons, List.length_append, List.length_cons]
    split <;> simp <;> omega
theorem esc_length (l : List UInt8) : (esc l).length ≤ 2 * l.length + 2 := by
  have := escB_length l
  simp [esc]
  omega
/-- What stands behind a fact's key. -/
def tailL (va se ki : Nat) : List UInt8 := be va 4 ++ be se 8 ++ [UInt8.ofNat ki]
theorem tailL_length (va se ki : Nat) : (tailL va se ki).length = 13 := by simp [tailL, be]
theorem tailL_laid (va se ki : Nat) : (laidB (laidB (List.replicate 13 0) 0 4 va 4) 4 8 se 8).set 12 (UInt8.ofNat ki) = tailL va se ki := by
  simp [laidB, tailL, be, List.range_succ, List.replicate_succ]
/-- A number out of such bytes. -/
def num (l : List UInt8) : Nat := l.foldl (fun n c => 256 * n + (255 - c.toNat)) 0
theorem num_snoc (l : List UInt8) (c : UInt8) : num (l ++ [c]) = 256 * num l + (255 - c.toNat) := by simp [num]
theorem num_from : ∀ (l : List UInt8) (n : Nat), l.foldl (fun n c => 256 * n + (255 - c.toNat)) n < (n + 1) * 256 ^ l.length
  | [], n => by simp
  | c :: l, n => by
    have h := num_from l (256 * n + (255 - c.toNat))
    rw [List.foldl_cons, List.length_cons, Nat.pow_succ, Nat.mul_comm (256 ^ l.length) 256, ← Nat.mul_assoc]
    exact Nat.lt_of_lt_of_le h (Nat.mul_le_mul_right _ (by omega))
theorem num_lt (l : List UInt8) : num l < 256 ^ l.length := by
  have := num_from l 0
  simpa [num] using this
/-- A key's bytes back: 0, the key, what stands behind; or an error's number. -/
def unA : List UInt8 → List UInt8 → Nat × List UInt8 × List UInt8
  | _, [] => (5, [], [])
  | _, [_] => (5, [], [])
  | acc, c :: d :: r => if c = 0 then (if d = 0 then (0, acc, r) else if d = 1 then unA (acc ++ [0]) r else (4, [], [])) else unA (acc ++ [c]) (d :: r)
theorem unA_ne (acc : List UInt8) (c : UInt8) (r : List UInt8) (h : c ≠ 0) : unA acc (c :: r) = unA (acc ++ [c]) r := by
  cases r with
  | nil => simp [unA]
  | cons d r => rw [unA, if_neg h]
theorem unA_end (acc : List UInt8) (r : List UInt8) : unA acc (0 :: 0 :: r) = (0, acc, r) := by rw [unA, if_pos rfl, if_pos rfl]
theorem unA_one (acc : List UInt8) (r : List UInt8) : unA acc (0 :: 1 :: r) = unA (acc ++ [0]) r := by rw [unA, if_pos rfl, if_neg (by decide), if_pos rfl]
theorem unA_bad (acc : List UInt8) (d : UInt8) (r : List UInt8) (h0 : d ≠ 0) (h1 : d ≠ 1) : unA acc (0 :: d :: r) = (4, [], []) := by rw [unA, if_pos rfl, if_neg h0, if_neg h1]
/-- The fact that bytes are: an error's number, the key, the time, the commit, the kind. -/
def getP (l : List UInt8) : Nat × List UInt8 × Nat × Nat × Nat :=
  if (unA [] l).1 ≠ 0 then ((unA [] l).1, [], 0, 0, 0)
  else if (unA [] l).2.1.length < 1 ∨ 32 < (unA [] l).2.1.length then (4, [], 0, 0, 0)
  else if (unA [] l).2.2.length < 13 then (5, [], 0, 0, 0)
  else if 13 < (unA [] l).2.2.length then (4, [], 0, 0, 0)
  else if 0 < num (((unA [] l).2.2.drop 4).take 8) ∧ ((unA [] l).2.2.getD 12 0).toNat ≤ 1 then (0, (unA [] l).2.1, num ((unA [] l).2.2.take 4), num (((unA [] l).2.2.drop 4).take 8), ((unA [] l).2.2.getD 12 0).toNat)
  else (4, [], 0, 0, 0)
end Herb
