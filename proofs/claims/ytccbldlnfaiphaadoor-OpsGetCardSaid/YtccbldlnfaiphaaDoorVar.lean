/- The plain law of varints on natural numbers and lists of bytes: no program in sight. 'gs' are a number's sevens of bits, 'enc' its bytes. -/
import Derived.KernelRfl
set_option linter.unusedSimpArgs false
set_option linter.unusedVariables false
namespace Herb

/-- A number's sevens of bits, the lowest first, and whether others follow. -/
def gs (n : Nat) : List (Fin 128 × Bool) :=
  (⟨n % 128, Nat.mod_lt _ (by omega)⟩, decide (128 ≤ n)) :: if h : n < 128 then [] else gs (n / 128)
termination_by n
decreasing_by omega
theorem gs_lt {n : Nat} (h : n < 128) : gs n = [(⟨n % 128, Nat.mod_lt _ (by omega)⟩, false)] := by
  rw [gs, dif_pos h, decide_eq_false (by omega)]
theorem gs_ge {n : Nat} (h : 128 ≤ n) : gs n = (⟨n % 128, Nat.mod_lt _ (by omega)⟩, true) :: gs (n / 128) := by
  rw [gs, dif_neg (by omega), decide_eq_true h]
theorem gs_len : ∀ (k n : Nat), n < 128 ^ (k + 1) → (gs n).length ≤ k + 1
  | 0, n, h => by rw [gs_lt (by omega)]; simp
  | k + 1, n, h => by
    by_cases h1 : n < 128
    · rw [gs_lt h1]; simp
    · rw [gs_ge (by omega), List.length_cons]
      have := gs_len k (n / 128) (by rw [Nat.div_lt_iff_lt_mul (by omega)]; rw [Nat.pow_succ] at h; exact h)
      omega
theorem gs_pos (n : Nat) : 1 ≤ (gs n).length := by rw [gs]; simp
theorem gs_len64 {n : Nat} (h : n < 18446744073709551616) : (gs n).length ≤ 10 := gs_len 9 n (Nat.lt_of_lt_of_le h (by decide))

/-- One byte of it. -/
def low (x : Fin 128 × Bool) : UInt8 := UInt8.ofNat (if x.2 then x.1.val + 128 else x.1.val)
def enc (n : Nat) : List UInt8 := (gs n).map low
theorem enc_lt {n : Nat} (h : n < 128) : enc n = [UInt8.ofNat n] := by
  rw [enc, gs_lt h]; simp [low, Nat.mod_eq_of_lt h]
theorem enc_ge {n : Nat} (h : 128 ≤ n) : enc n = UInt8.ofNat (n % 128 + 128) :: enc (n / 128) := by
  rw [enc, gs_ge h]; simp [low, enc]
theorem enc_pos (n : Nat) : 1 ≤ (enc n).length := by rw [enc, List.length_map]; exact gs_pos n
theorem enc_len64 {n : Nat} (h : n < 18446744073709551616) : (enc n).length ≤ 10 := by rw [enc, List.length_map]; exact gs_len64 h
theorem low_nat (x : Fin 128 × Bool) : (low x).toNat = if x.2 then x.1.val + 128 else x.1.val := by
  have := x.1.isLt
  rw [low, UInt8.toNat_ofNat', Nat.mod_eq_of_lt]
  split <;> omega

/-- What bytes begin with, from the i-th on, n read so far: the number, how many bytes, the error (0: none; 4: a form that may not be; 5: too short). -/
def decF : Nat → Nat → List UInt8 → Nat × Nat × Nat
  | _, _, [] => (0, 0, 5)
  | i, n, c :: l =>
    if (0 < i ∧ c.toNat = 0) ∨ (i = 9 ∧ 1 < c.toNat) then (0, 0, 4)
    else if c.toNat < 128 then (n + c.toNat % 128 * 128 ^ i, i + 1, 0)
    else decF (i + 1) (n + c.toNat % 128 * 128 ^ i) l
def dec (l : List UInt8) : Nat × Nat × Nat := decF 0 0 l
end Herb
