/- The order of texts, byte by byte. No program. -/
import Derived.Below
import Derived.Laws.Strings
set_option linter.unusedSimpArgs false
set_option linter.unusedVariables false
namespace Herb
open Go
/-- One text stands ahead of another. -/
abbrev less (a b : List UInt8) : Bool := Op.bytesLess a b
theorem less_cons_eq (x : UInt8) (a b : List UInt8) : less (x :: a) (x :: b) = less a b := by simp [less, Op.bytesLess]
theorem less_cons_lt {x y : UInt8} (h : x < y) (a b : List UInt8) : less (x :: a) (y :: b) = true := by simp [less, Op.bytesLess, h]
theorem less_cons_gt {x y : UInt8} (h : y < x) (a b : List UInt8) : less (x :: a) (y :: b) = false := by
  have h1 : ¬ x < y := fun h2 => by rw [UInt8.lt_iff_toNat_lt] at h h2; omega
  have h2 : (x == y) = false := beq_eq_false_iff_ne.2 (fun e => by subst e; rw [UInt8.lt_iff_toNat_lt] at h; omega)
  simp [less, Op.bytesLess, h1, h2]
theorem less_nil (a : List UInt8) : less a [] = false := by cases a <;> rfl
theorem nil_less (y : UInt8) (b : List UInt8) : less [] (y :: b) = true := rfl
theorem u8_tri (x y : UInt8) : x < y ∨ x = y ∨ y < x := by
  rw [UInt8.lt_iff_toNat_lt, UInt8.lt_iff_toNat_lt, ← UInt8.toNat_inj]
  omega
theorem less_irrefl : ∀ a : List UInt8, less a a = false
  | [] => rfl
  | x :: a => by rw [less_cons_eq]; exact less_irrefl a
theorem less_asymm : ∀ {a b : List UInt8}, less a b = true → less b a = false
  | _, [], h => by rw [less_nil] at h; cases h
  | [], y :: b, _ => less_nil _
  | x :: a, y :: b, h => by
    rcases u8_tri x y with h1 | rfl | h1
    · exact less_cons_gt h1 _ _
    · rw [less_cons_eq] at h ⊢
      exact less_asymm h
    · rw [less_cons_gt h1] at h; cases h
theorem less_total : ∀ {a b : List UInt8}, less a b = false → less b a = false → a = b
  | [], [], _, _ => rfl
  | x :: a, [], _, h => by cases h
  | [], y :: b, h, _ => by cases h
  | x :: a, y :: b, h, h' => by
    rcases u8_tri x y with h1 | rfl | h1
    · rw [less_cons_lt h1] at h; cases h
    · rw [less_cons_eq] at h h'
      rw [less_total h h']
    · rw [less_cons_lt h1] at h'; cases h'
theorem less_trans : ∀ {a b c : List UInt8}, less a b = true → less b c = true → less a c = true
  | _, [], _, h, _ => by rw [less_nil] at h; cases h
  | _, _ :: _, [], _, h => by cases h
  | [], _ :: _, _ :: _, _, _ => rfl
  | x :: a, y :: b, z :: c, h, h' => by
    rcases u8_tri x y with h1 | rfl | h1
    · rcases u8_tri y z with h2 | rfl | h2
      · exact less_cons_lt (by rw [UInt8.lt_iff_toNat_lt] at *; omega) _ _
      · exact less_cons_lt h1 _ _
      · rw [less_cons_gt h2] at h'; cases h'
    · rcases u8_tri x z with h2 | rfl | h2
      · exact less_cons_lt h2 _ _
      · rw [less_cons_eq] at h h' ⊢
        exact less_trans h h'
      · rw [less_cons_gt h2] at h'; cases h'
    · rw [less_cons_gt h1] at h; cases h
theorem less_append : ∀ (p a b : List UInt8), less (p ++ a) (p ++ b) = less a b
  | [], _, _ => rfl
  | x :: p, a, b => by rw [List.cons_append, List.cons_append, less_cons_eq, less_append p a b]
/-- Of the same length: the first part decides, unless it is the same. -/
theorem less_same : ∀ {a b : List UInt8} (c d : List UInt8), a.length = b.length → a ≠ b → less (a ++ c) (b ++ d) = less a b
  | [], [], _, _, _, h => absurd rfl h
  | [], _ :: _, _, _, h, _ => by simp at h
  | _ :: _, [], _, _, h, _ => by simp at h
  | x :: a, y :: b, c, d, hl, hne => by
    rcases u8_tri x y with h1 | rfl | h1
    · rw [List.cons_append, List.cons_append, less_cons_lt h1, less_cons_lt h1]
    · rw [List.cons_append, List.cons_append, less_cons_eq, less_cons_eq, less_same c d (by simpa using hl) (fun e => hne (by rw [e]))]
    · rw [List.cons_append, List.cons_append, less_cons_gt h1, less_cons_gt h1]
theorem ba_toList (s : ByteArray) : s.toList = s.data.toList := by
  simp [ByteArray.toList_eq]
theorem ba_ext {a b : ByteArray} (h : a.data.toList = b.data.toList) : a = b := by
  cases a; cases b
  congr 1
  exact Array.toList_inj.1 h
end Herb
