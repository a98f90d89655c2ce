/- Bytes stand in the order in which their facts do: the plain law. -/
import Derived.Test.YtdifdbkbpeanhaaDoorMg4
import Derived.Test.YtdifdbkbpeanhaaDoorKeyLives
set_option linter.unusedSimpArgs false
set_option linter.unusedVariables false
namespace Herb
open Go Go.RowKit
/-- Two beginnings that decide as x says, and hand on at 0. -/
def Pre (p q : List UInt8) (x : Int) : Prop := ∀ s t : List UInt8, ordL (p ++ s) (q ++ t) = orI x (ordL s t)
theorem ordL_lt {a b : List UInt8} (h : less a b = true) : ordL a b = -1 := by unfold ordL; rw [if_pos h]
theorem ordL_gt {a b : List UInt8} (h : less b a = true) : ordL a b = 1 := by
  unfold ordL
  rw [if_neg (by rw [less_asymm h]; simp), if_pos h]
theorem ordL_self (a : List UInt8) : ordL a a = 0 := by unfold ordL; rw [less_irrefl]; simp
theorem ordL_append (p a b : List UInt8) : ordL (p ++ a) (p ++ b) = ordL a b := by unfold ordL; rw [less_append, less_append]
theorem orI_0 (y : Int) : orI 0 y = y := rfl
theorem orI_1 (y : Int) : orI 1 y = 1 := rfl
theorem orI_m (y : Int) : orI (-1) y = -1 := rfl
theorem orI_assoc (x y z : Int) : orI (orI x y) z = orI x (orI y z) := by unfold orI; split <;> rfl
theorem Pre.same (p : List UInt8) : Pre p p 0 := fun s t => by rw [ordL_append, orI_0]
theorem Pre.app {p q p' q' : List UInt8} {x x' : Int} (h : Pre p q x) (h' : Pre p' q' x') : Pre (p ++ p') (q ++ q') (orI x x') := fun s t => by
  rw [List.append_assoc, List.append_assoc, h, h', orI_assoc]
theorem Pre.one (c d : UInt8) : Pre [c] [d] (cmpI (c.toNat : Int) (d.toNat : Int)) := fun s t => by
  show ordL (c :: s) (d :: t) = _
  rcases u8_tri c d with h | rfl | h
  · rw [ordL_lt (less_cons_lt h _ _), cmpI_lt (by rw [UInt8.lt_iff_toNat_lt] at h; omega), orI_m]
  · rw [cmpI_eq, orI_0]; exact ordL_append [c] s t
  · rw [ordL_gt (less_cons_lt h _ _), cmpI_gt (by rw [UInt8.lt_iff_toNat_lt] at h; omega), orI_1]
theorem be_cons (n m : Nat) : be n (m + 1) = tb n (m + 1) 0 :: be n m := by
  unfold be
  rw [List.range_succ_eq_map, List.map_cons, List.map_map]
  congr 1
  apply List.map_congr_left
  intro i _
  show tb n (m + 1) (i + 1) = tb n m i
  unfold tb
  rw [show m + 1 - 1 - (i + 1) = m - 1 - i by omega]
theorem pow_256 (m : Nat) : 2 ^ (8 * m) = 256 ^ m := by rw [Nat.pow_mul]
theorem tb_top (n m : Nat) : ((tb n (m + 1) 0).toNat : Int) = 255 - ((n / 256 ^ m % 256 : Nat) : Int) := by
  unfold tb
  rw [show m + 1 - 1 - 0 = m by omega, pow_256]
  have hd := Nat.mod_lt (n / 256 ^ m) (show 256 > 0 by omega)
  generalize n / 256 ^ m % 256 = d at *
  rw [UInt8.toNat_ofNat']
  omega
theorem cmpI_mix {P q q' r r' : Nat} (hr : r < P) (hr' : r' < P) : cmpI ((r + P * q : Nat) : Int) ((r' + P * q' : Nat) : Int) = orI (cmpI (q : Int) (q' : Int)) (cmpI (r : Int) (r' : Int)) := by
  rcases Nat.lt_trichotomy q q' with h | rfl | h
  · have h2 : P * q + P ≤ P * q' := by rw [← Nat.mul_succ]; exact Nat.mul_le_mul_left _ h
    rw [cmpI_lt (by omega), cmpI_lt (by omega), orI_m]
  · rw [cmpI_eq, orI_0]
    unfold cmpI
    generalize P * q = z
    split <;> split <;> (try split) <;> (try split) <;> omega
  · have h2 : P * q' + P ≤ P * q := by rw [← Nat.mul_succ]; exact Nat.mul_le_mul_left _ h
    rw [cmpI_gt (by omega), cmpI_gt (by omega), orI_1]
theorem cmpI_turn (a b : Nat) (ha : a < 256) (hb : b < 256) : cmpI (255 - (a : Int)) (255 - (b : Int)) = cmpI (b : Int) (a : Int) := by
  unfold cmpI
  split <;> split <;> (try split) <;> (try split) <;> omega
/-- Numbers in bytes: greater ones stand ahead. -/
theorem Pre.be (n n' : Nat) : ∀ m, Pre (be n m) (be n' m) (cmpI ((n' % 256 ^ m : Nat) : Int) ((n % 256 ^ m : Nat) : Int))
  | 0 => by
    have h := Pre.same []
    simp only [Nat.pow_zero, Nat.mod_one]
    exact h
  | m + 1 => by
    have h := Pre.app (Pre.one (tb n (m + 1) 0) (tb n' (m + 1) 0)) (Pre.be n n' m)
    rw [tb_top, tb_top, cmpI_turn _ _ (Nat.mod_lt _ (by omega)) (Nat.mod_lt _ (by omega))] at h
    rw [be_cons, be_cons, Nat.pow_succ, Nat.mod_mul, Nat.mod_mul]
    have hp : 0 < 256 ^ m := Nat.pow_pos (by omega)
    rw [cmpI_mix (Nat.mod_lt _ hp) (Nat.mod_lt _ hp)]
    exact h
theorem Pre.be' {n n' m : Nat} (h : n < 256 ^ m) (h' : n' < 256 ^ m) : Pre (Herb.be n m) (Herb.be n' m) (cmpI (n' : Int) (n : Int)) := by
  have := Pre.be n n' m
  rwa [Nat.mod_eq_of_lt h, Nat.mod_eq_of_lt h'] at this
theorem esc_cons (c : UInt8) (l : List UInt8) : esc (c :: l) = (if c = 0 then [0, 1] else [c]) ++ esc l := by
  unfold esc
  rw [escB_cons, List.append_assoc]
theorem pos_of_ne {c : UInt8} (h : c ≠ 0) : 0 < c := by
  rcases u8_tri 0 c with h1 | h1 | h1
  · exact h1
  · exact absurd h1.symm h
  · rw [UInt8.lt_iff_toNat_lt] at h1
    exact absurd h1 (by simp)
theorem esc_nil_lt (d : UInt8) (b s t : List UInt8) : less (esc [] ++ s) (esc (d :: b) ++ t) = true := by
  rw [esc_cons]
  show less (0 :: 0 :: s) _ = true
  split
  · show less (0 :: 0 :: s) (0 :: 1 :: _) = true
    rw [less_cons_eq]
    exact less_cons_lt (by decide) _ _
  · rename_i h
    exact less_cons_lt (pos_of_ne h) _ _
theorem esc_cons_lt {c d : UInt8} (h : c < d) (a b s t : List UInt8) : less (esc (c :: a) ++ s) (esc (d :: b) ++ t) = true := by
  rw [esc_cons, esc_cons]
  have hd : d ≠ 0 := fun e => by rw [e, UInt8.lt_iff_toNat_lt] at h; simp at h
  rw [if_neg hd]
  split
  · exact less_cons_lt (pos_of_ne hd) _ _
  · exact less_cons_lt h _ _
/-- Keys in bytes stand as the keys do. -/
theorem Pre.esc : ∀ (a b : List UInt8), Pre (Herb.esc a) (Herb.esc b) (ordL a b)
  | [], [] => by rw [ordL_self]; exact Pre.same _
  | [], d :: b => fun s t => by rw [ordL_lt (esc_nil_lt d b s t), ordL_lt (nil_less d b), orI_m]
  | c :: a, [] => fun s t => by rw [ordL_gt (esc_nil_lt c a t s), ordL_gt (nil_less c a), orI_1]
  | c :: a, d :: b => by
    rcases u8_tri c d with h | rfl | h
    · intro s t
      rw [ordL_lt (esc_cons_lt h a b s t), ordL_lt (less_cons_lt h a b), orI_m]
    · have h := Pre.app (Pre.same (if c = 0 then [0, 1] else [c])) (Pre.esc a b)
      rw [← esc_cons, ← esc_cons, orI_0] at h
      rw [show ordL (c :: a) (c :: b) = ordL a b from ordL_append [c] a b]
      exact h
    · intro s t
      rw [ordL_gt (esc_cons_lt h b a t s), ordL_gt (less_cons_lt h b a), orI_1]
theorem cmpS_ord (k k' : ByteArray) : cmpS k k' = ordL k.data.toList k'.data.toList := by
  rw [← ba_toList, ← ba_toList]
  rcases str_tri k k' with h | rfl | h
  · rw [cmpS_lt h, ordL_lt h]
  · rw [cmpS_eq, ordL_self]
  · rw [cmpS_gt h, ordL_gt h]
theorem ki_nat {ki : Nat} (h : ki < 256) : (UInt8.ofNat ki).toNat = ki := by rw [UInt8.toNat_ofNat', Nat.mod_eq_of_lt h]
/-- The stage's theorem: bytes stand in the order in which their facts do. -/
theorem ordL_put (k k' : ByteArray) {va va' se se' ki ki' : Nat} (h1 : va < 4294967296) (h1' : va' < 4294967296) (h2 : se < 18446744073709551616) (h2' : se' < 18446744073709551616) (h3 : ki < 256) (h3' : ki' < 256) :
    ordL (putL k va se ki) (putL k' va' se' ki') = cmpF k k' va va' se se' ki ki' := by
  have h := Pre.app (Pre.esc k.data.toList k'.data.toList) (Pre.app (Pre.app (Pre.be' (m := 4) h1 h1') (Pre.be' (m := 8) h2 h2')) (Pre.one (UInt8.ofNat ki) (UInt8.ofNat ki')))
  have h := h [] []
  rw [List.append_nil, List.append_nil, ordL_self, ki_nat h3, ki_nat h3', ← cmpS_ord] at h
  unfold putL tailL cmpF
  rw [h]
  simp only [orL_cons, orI_assoc]
  rfl
theorem cmpF_anti (k k' : ByteArray) (va va' se se' ki ki' : Int) : cmpF k' k va' va se' se ki' ki = - cmpF k k' va va' se se' ki ki' := by
  have h := cmpF_R3 k k' k va va' va se se' se ki ki' ki
  rw [cmpF_self] at h
  generalize cmpF k k' va va' se se' ki ki' = x at *
  generalize cmpF k' k va' va se' se ki' ki = y at *
  unfold R3 at h
  omega
theorem cmpI_zero {a b : Int} (h : cmpI a b = 0) : a = b := by
  rcases Int.lt_trichotomy a b with h' | h' | h'
  · rw [cmpI_lt h'] at h; omega
  · exact h'
  · rw [cmpI_gt h'] at h; omega
theorem cmpS_zero {a b : ByteArray} (h : cmpS a b = 0) : a = b := by
  rcases str_tri a b with h' | h' | h'
  · rw [cmpS_lt h'] at h; omega
  · exact h'
  · rw [cmpS_gt h'] at h; omega
theorem orI_zero {x y : Int} (h : orI x y = 0) : x = 0 ∧ y = 0 := by
  unfold orI at h
  split at h <;> omega
theorem cmpF_zero (k k' : ByteArray) (va va' se se' ki ki' : Int) (h : cmpF k k' va va' se se' ki ki' = 0) : k = k' ∧ va = va' ∧ se = se' ∧ ki = ki' := by
  unfold cmpF at h
  simp only [orL_cons] at h
  obtain ⟨a1, h⟩ := orI_zero h
  obtain ⟨a2, h⟩ := orI_zero h
  obtain ⟨a3, h⟩ := orI_zero h
  obtain ⟨a4, h⟩ := orI_zero h
  exact ⟨cmpS_zero a1, (cmpI_zero a2).symm, (cmpI_zero a3).symm, cmpI_zero a4⟩
theorem cmpF_bounds (k k' : ByteArray) (va va' se se' ki ki' : Int) : -1 ≤ cmpF k k' va va' se se' ki ki' ∧ cmpF k k' va va' se se' ki ki' ≤ 1 := (cmpF_R3 k k' k' va va' va' se se' se' ki ki' ki').1.1
theorem cons_nil (c : UInt8) (l : List UInt8) : ordL (c :: l) [] = 1 := ordL_gt (nil_less c l)
/-- Where a key's facts begin. -/
theorem ordL_seek (k k' : ByteArray) {va va' se ki : Nat} (h1 : va < 4294967296) (h1' : va' < 4294967296) :
    ordL (putL k va se ki) (seekL k' va') = orI (cmpS k k') (orI (cmpI va' va) 1) := by
  have h := Pre.app (Pre.esc k.data.toList k'.data.toList) (Pre.be' (m := 4) h1 h1')
  have h := h (Herb.be se 8 ++ [UInt8.ofNat ki]) []
  have e : ordL (Herb.be se 8 ++ [UInt8.ofNat ki]) [] = 1 := by rw [be_cons]; exact cons_nil _ _
  rw [List.append_nil, e, ← cmpS_ord] at h
  unfold putL tailL seekL
  rw [List.append_assoc (Herb.be va 4), ← List.append_assoc, h]
  rw [orI_assoc]
end Herb
