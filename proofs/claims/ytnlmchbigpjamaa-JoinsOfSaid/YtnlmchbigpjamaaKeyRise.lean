/- Of any three facts no order goes round: the plain law. -/
import Derived.Test.YtnlmchbigpjamaaKeyCmp
set_option linter.unusedSimpArgs false
set_option linter.unusedVariables false
namespace Herb
open Go Go.RowKit
/-- Three comparisons that do not go round. -/
def R3 (x y z : Int) : Prop := ((-1 ≤ x ∧ x ≤ 1) ∧ (-1 ≤ y ∧ y ≤ 1) ∧ (-1 ≤ z ∧ z ≤ 1)) ∧ (x ≤ 0 → y ≤ 0 → z = min x y) ∧ (0 ≤ x → 0 ≤ y → z = max x y)
def orI (x y : Int) : Int := if x = 0 then y else x
theorem R3_or {x y z x' y' z' : Int} (h : R3 x y z) (h' : R3 x' y' z') : R3 (orI x x') (orI y y') (orI z z') := by
  unfold R3 orI at *
  split <;> split <;> split <;> omega
theorem R3_zero : R3 0 0 0 := by unfold R3; omega
theorem orL_cons (x : Int) (xs : List Int) : orL (x :: xs) = orI x (orL xs) := by
  unfold orI
  split
  · rename_i h; rw [h, orL_0]
  · rename_i h; rw [orL_ne h]
theorem cmpI_R3 (a b c : Int) : R3 (cmpI a b) (cmpI b c) (cmpI a c) := by
  unfold R3 cmpI
  repeat' split
  all_goals omega
theorem cmpS_R3 (a b c : ByteArray) : R3 (cmpS a b) (cmpS b c) (cmpS a c) := by
  unfold R3
  rcases str_tri a b with h1 | rfl | h1
  · rcases str_tri b c with h2 | rfl | h2
    · rw [cmpS_lt h1, cmpS_lt h2, cmpS_lt (less_trans h1 h2)]; omega
    · rw [cmpS_lt h1, cmpS_eq]; omega
    · rw [cmpS_lt h1, cmpS_gt h2]
      rcases str_tri a c with h3 | rfl | h3
      · rw [cmpS_lt h3]; omega
      · rw [cmpS_eq]; omega
      · rw [cmpS_gt h3]; omega
  · rw [cmpS_eq]
    rcases str_tri a c with h3 | rfl | h3
    · rw [cmpS_lt h3]; omega
    · rw [cmpS_eq]; omega
    · rw [cmpS_gt h3]; omega
  · rcases str_tri b c with h2 | rfl | h2
    · rw [cmpS_gt h1, cmpS_lt h2]
      rcases str_tri a c with h3 | rfl | h3
      · rw [cmpS_lt h3]; omega
      · rw [cmpS_eq]; omega
      · rw [cmpS_gt h3]; omega
    · rw [cmpS_gt h1, cmpS_eq]; omega
    · rw [cmpS_gt h1, cmpS_gt h2, cmpS_gt (less_trans h2 h1)]; omega
theorem R3_flip {x y z : Int} (h : R3 x y z) : R3 y x z := by unfold R3 at *; omega
theorem cmpF_R3 (k k' k'' : ByteArray) (va va' va'' se se' se'' ki ki' ki'' : Int) :
    R3 (cmpF k k' va va' se se' ki ki') (cmpF k' k'' va' va'' se' se'' ki' ki'') (cmpF k k'' va va'' se se'' ki ki'') := by
  unfold cmpF
  simp only [orL_cons]
  exact R3_or (cmpS_R3 _ _ _) (R3_or (R3_flip (cmpI_R3 _ _ _)) (R3_or (R3_flip (cmpI_R3 _ _ _)) (R3_or (cmpI_R3 _ _ _) R3_zero)))
theorem cmpF_self (k : ByteArray) (va se ki : Int) : cmpF k k va va se se ki ki = 0 := by
  unfold cmpF
  rw [cmpS_eq, cmpI_eq, cmpI_eq, cmpI_eq]
  rfl
end Herb
