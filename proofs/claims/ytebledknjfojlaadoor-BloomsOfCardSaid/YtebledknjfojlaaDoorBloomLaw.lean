/- The plain law of filters: which bits are set. No program. -/
import Derived.Test.YtebledknjfojlaaDoorPlacesLaw
set_option linter.unusedSimpArgs false
set_option linter.unusedVariables false
namespace Herb
/-- Is the p-th bit of a text set? -/
def bitAt (l : List UInt8) (p : Nat) : Bool := (l.getD (p / 8) 0).toNat / 2 ^ (p % 8) % 2 == 1
/-- May the key be in the filter? -/
def hasP (l kl : List UInt8) : Bool := if l.length < 9 ∨ (l.getD (l.length - 1) 0).toNat ≠ 6 then true else (places (more 0 kl) (8 * (l.length - 1))).all (bitAt l)
theorem bitAt_test (l : List UInt8) (p : Nat) : bitAt l p = (l.getD (p / 8) 0).toNat.testBit (p % 8) := by
  unfold bitAt
  rw [Nat.testBit_eq_decide_div_mod_eq]
  rfl
/-- One bit more. -/
def setBit (l : List UInt8) (p : Nat) : List UInt8 := l.set (p / 8) (l.getD (p / 8) 0 ||| UInt8.ofNat (2 ^ (p % 8)))
theorem setBit_length (l : List UInt8) (p : Nat) : (setBit l p).length = l.length := by simp [setBit]
theorem pow_lt256 (p : Nat) : 2 ^ (p % 8) < 256 := by
  have h : p % 8 < 8 := Nat.mod_lt _ (by omega)
  have : 2 ^ (p % 8) < 2 ^ 8 := Nat.pow_lt_pow_right (by omega) h
  omega
theorem bitAt_setBit (l : List UInt8) (p q : Nat) (hp : p / 8 < l.length) : bitAt (setBit l p) q = (bitAt l q || decide (p = q)) := by
  rw [bitAt_test, bitAt_test]
  unfold setBit
  by_cases h : p / 8 = q / 8
  · have e : (l.set (p / 8) (l.getD (p / 8) 0 ||| UInt8.ofNat (2 ^ (p % 8)))).getD (q / 8) 0 = (l.getD (q / 8) 0 ||| UInt8.ofNat (2 ^ (p % 8))) := by
      rw [← h]
      simp [List.getD, hp]
    rw [e, UInt8.toNat_or, Nat.testBit_or, UInt8.toNat_ofNat', Nat.mod_eq_of_lt (pow_lt256 p), Nat.testBit_two_pow]
    congr 1
    exact decide_eq_decide.2 (by omega)
  · have e : (l.set (p / 8) (l.getD (p / 8) 0 ||| UInt8.ofNat (2 ^ (p % 8)))).getD (q / 8) 0 = l.getD (q / 8) 0 := by
      simp [List.getD, List.getElem?_set, h]
    rw [e, decide_eq_false (by omega), Bool.or_false]
theorem bitAt_foldl (ps : List Nat) : ∀ (l : List UInt8) (q : Nat), (∀ p ∈ ps, p / 8 < l.length) → bitAt (ps.foldl setBit l) q = (bitAt l q || ps.contains q) := by
  induction ps with
  | nil => intro l q _; simp
  | cons p ps ih =>
    intro l q h
    rw [List.foldl_cons, ih _ q (fun r hr => by rw [setBit_length]; exact h r (List.mem_cons_of_mem _ hr)), bitAt_setBit l p q (h p List.mem_cons_self), Bool.or_assoc]
    congr 1
    rw [List.contains_cons]
    congr 1
    by_cases hpq : p = q
    · subst hpq; simp
    · rw [decide_eq_false hpq]
      exact (beq_eq_false_iff_ne.2 (fun h => hpq h.symm)).symm
theorem foldl_length (ps : List Nat) : ∀ (l : List UInt8), (ps.foldl setBit l).length = l.length := by
  induction ps with
  | nil => intro l; rfl
  | cons p ps ih => intro l; rw [List.foldl_cons, ih, setBit_length]
end Herb
