/- What is put is got: the plain law of keys. No program. -/
import Derived.Test.YtelppijpmjoblaaKeyOrd
set_option linter.unusedSimpArgs false
set_option linter.unusedVariables false
namespace Herb
open Go Go.RowKit
theorem unA_esc : ∀ (a acc r : List UInt8), unA acc (esc a ++ r) = (0, acc ++ a, r)
  | [], acc, r => by rw [List.append_nil]; exact unA_end acc r
  | c :: a, acc, r => by
    rw [esc_cons, List.append_assoc]
    by_cases h : c = 0
    · rw [if_pos h, h]
      show unA acc (0 :: 1 :: (esc a ++ r)) = _
      rw [unA_one, unA_esc a, List.append_assoc]
      rfl
    · rw [if_neg h]
      show unA acc (c :: (esc a ++ r)) = _
      rw [unA_ne _ _ _ h, unA_esc a, List.append_assoc]
      rfl
theorem unA_back (acc l K r : List UInt8) (h : unA acc l = (0, K, r)) : ∃ a, K = acc ++ a ∧ l = esc a ++ r := by
  fun_induction unA acc l with
  | case1 => cases h
  | case2 => cases h
  | case3 acc r' => 
    injection h with _ h
    injection h with h1 h2
    subst h1 h2
    exact ⟨[], by simp, rfl⟩
  | case4 acc r' _ ih =>
    obtain ⟨a, h1, h2⟩ := ih h
    refine ⟨0 :: a, by rw [h1]; simp, ?_⟩
    rw [esc_cons, if_pos rfl, h2]
    rfl
  | case5 => cases h
  | case6 acc c d r' hne ih =>
    obtain ⟨a, h1, h2⟩ := ih h
    refine ⟨c :: a, by rw [h1]; simp, ?_⟩
    rw [esc_cons, if_neg hne, h2]
    rfl
theorem unA_err (acc l : List UInt8) : (unA acc l).1 = 0 ∨ (unA acc l).1 = 4 ∨ (unA acc l).1 = 5 := by
  fun_induction unA acc l with
  | case1 => simp
  | case2 => simp
  | case3 => simp
  | case4 acc r' _ ih => exact ih
  | case5 => simp
  | case6 acc c d r' hne ih => exact ih
/-- Bytes that are refused leave nothing. -/
theorem getP_err (l : List UInt8) (e va se ki : Nat) (K : List UInt8) (h : getP l = (e, K, va, se, ki)) (he : e ≠ 0) : (e = 4 ∨ e = 5) ∧ K = [] ∧ va = 0 ∧ se = 0 ∧ ki = 0 := by
  have hu := unA_err [] l
  unfold getP at h
  split at h
  · cases h; refine ⟨by omega, rfl, rfl, rfl, rfl⟩
  · split at h
    · cases h; exact ⟨.inl rfl, rfl, rfl, rfl, rfl⟩
    · split at h
      · cases h; exact ⟨.inr rfl, rfl, rfl, rfl, rfl⟩
      · split at h
        · cases h; exact ⟨.inl rfl, rfl, rfl, rfl, rfl⟩
        · split at h
          · cases h; exact absurd rfl he
          · cases h; exact ⟨.inl rfl, rfl, rfl, rfl, rfl⟩
theorem num_acc : ∀ (l : List UInt8) (n : Nat), l.foldl (fun n c => 256 * n + (255 - c.toNat)) n = n * 256 ^ l.length + num l
  | [], n => by simp [num]
  | c :: l, n => by
    unfold num
    rw [List.foldl_cons, List.foldl_cons, num_acc l, num_acc l (256 * 0 + _), List.length_cons, Nat.pow_succ, ← Nat.add_assoc]
    congr 1
    rw [Nat.add_mul, Nat.mul_zero, Nat.zero_add]
    congr 1
    rw [Nat.mul_comm 256 n, Nat.mul_assoc, Nat.mul_comm 256]
theorem num_cons (c : UInt8) (l : List UInt8) : num (c :: l) = (255 - c.toNat) * 256 ^ l.length + num l := by
  have := num_acc l (256 * 0 + (255 - c.toNat))
  rw [Nat.mul_zero, Nat.zero_add] at this
  rw [← this]
  simp [num]
theorem num_be (n : Nat) : ∀ m, num (be n m) = n % 256 ^ m
  | 0 => by simp [be, num, Nat.mod_one]
  | m + 1 => by
    have h := tb_top n m
    have hlt := Nat.mod_lt (n / 256 ^ m) (show 256 > 0 by omega)
    rw [be_cons, num_cons, be_length, num_be n m, Nat.pow_succ, Nat.mod_mul]
    have e : 255 - (tb n (m + 1) 0).toNat = n / 256 ^ m % 256 := by omega
    rw [e, Nat.mul_comm, Nat.add_comm]
theorem be_add (n a : Nat) : ∀ m, be (a * 256 ^ m + n) m = be n m
  | 0 => rfl
  | m + 1 => by
    rw [be_cons, be_cons]
    have e : a * 256 ^ (m + 1) + n = n + (a * 256) * 256 ^ m := by rw [Nat.pow_succ, Nat.mul_comm (256 ^ m), Nat.mul_assoc, Nat.add_comm]
    have hp : 0 < 256 ^ m := Nat.pow_pos (by omega)
    congr 1
    · unfold tb
      rw [show m + 1 - 1 - 0 = m by omega, pow_256, e, Nat.add_mul_div_right _ _ hp, Nat.add_mul_mod_self_right]
    · rw [e, Nat.add_comm]
      exact be_add n (a * 256) m
theorem be_num : ∀ l : List UInt8, be (num l) l.length = l
  | [] => rfl
  | c :: l => by
    rw [List.length_cons, be_cons, num_cons, be_add, be_num l]
    congr 1
    have hp : 0 < 256 ^ l.length := Nat.pow_pos (by omega)
    have h := tb_top ((255 - c.toNat) * 256 ^ l.length + num l) l.length
    rw [Nat.add_comm, Nat.add_mul_div_right _ _ hp, Nat.div_eq_of_lt (num_lt l), Nat.zero_add, Nat.mod_eq_of_lt (by omega)] at h
    rw [Nat.add_comm] at h
    apply UInt8.toNat_inj.1
    have := c.toNat_lt
    omega
theorem tailL_drop (va se ki : Nat) : (tailL va se ki).drop 4 = be se 8 ++ [UInt8.ofNat ki] := by
  unfold tailL
  rw [List.append_assoc, List.drop_append_of_le_length (by rw [be_length]; omega), List.drop_of_length_le (by rw [be_length]; omega), List.nil_append]
theorem mayB_iff (k : ByteArray) (se ki : Nat) : mayB k se ki = true ↔ (1 ≤ k.data.toList.length ∧ k.data.toList.length ≤ 32 ∧ 0 < se ∧ ki ≤ 1) := by
  have h : k.data.toList.length = k.size := rfl
  unfold mayB
  rw [h]
  simp
  omega
/-- The bytes of a fact, and what stands behind its key. -/
theorem getP_esc (a r : List UInt8) : getP (esc a ++ r) = if a.length < 1 ∨ 32 < a.length then (4, [], 0, 0, 0) else if r.length < 13 then (5, [], 0, 0, 0) else if 13 < r.length then (4, [], 0, 0, 0)
    else if 0 < num ((r.drop 4).take 8) ∧ (r.getD 12 0).toNat ≤ 1 then (0, a, num (r.take 4), num ((r.drop 4).take 8), (r.getD 12 0).toNat) else (4, [], 0, 0, 0) := by
  unfold getP
  rw [unA_esc a [] r, List.nil_append, if_neg (by simp)]
theorem getP_put (k : ByteArray) (va se ki : Nat) (h1 : va < 4294967296) (h2 : se < 18446744073709551616) (hm : mayB k se ki = true) : getP (putL k va se ki) = (0, k.data.toList, va, se, ki) := by
  obtain ⟨m1, m2, m3, m4⟩ := (mayB_iff k se ki).1 hm
  unfold putL
  have e1 : (tailL va se ki).getD 12 0 = UInt8.ofNat ki := by simp [tailL, be, List.range_succ]
  have e2 : num (((tailL va se ki).drop 4).take 8) = se := by
    rw [tailL_drop, List.take_append_of_le_length (by rw [be_length]; omega), List.take_of_length_le (by rw [be_length]; omega), num_be]
    exact Nat.mod_eq_of_lt h2
  have e3 : num ((tailL va se ki).take 4) = va := by
    rw [tailL_take, num_be]
    exact Nat.mod_eq_of_lt h1
  rw [getP_esc, if_neg (by omega), tailL_length, if_neg (by omega), if_neg (by omega), e1, e2, e3, ki_nat (by omega), if_pos ⟨m3, m4⟩]
theorem getP_less (k : ByteArray) (va se ki : Nat) (hm : mayB k se ki = true) : getP ((putL k va se ki).take ((putL k va se ki).length - 1)) = (5, [], 0, 0, 0) := by
  obtain ⟨m1, m2, m3, m4⟩ := (mayB_iff k se ki).1 hm
  have hl : (putL k va se ki).length = (esc k.data.toList).length + 13 := by unfold putL; rw [List.length_append, tailL_length]
  rw [hl, show (esc k.data.toList).length + 13 - 1 = (esc k.data.toList).length + 12 by omega]
  unfold putL
  rw [List.take_length_add_append, getP_esc, if_neg (by omega), if_pos (by rw [List.length_take, tailL_length]; omega)]
theorem getP_more (k : ByteArray) (va se ki : Nat) (c : UInt8) (hm : mayB k se ki = true) : getP (putL k va se ki ++ [c]) = (4, [], 0, 0, 0) := by
  obtain ⟨m1, m2, m3, m4⟩ := (mayB_iff k se ki).1 hm
  unfold putL
  rw [List.append_assoc, getP_esc, if_neg (by omega), List.length_append, tailL_length, if_neg (by simp), if_pos (by simp)]
/-- What is got is put as the same bytes. -/
theorem getP_back (l K : List UInt8) (va se ki : Nat) (h : getP l = (0, K, va, se, ki)) : mayB ⟨K.toArray⟩ se ki = true ∧ putL ⟨K.toArray⟩ va se ki = l ∧ va < 4294967296 ∧ se < 18446744073709551616 ∧ ki < 256 := by
  obtain ⟨⟨e0, K0, r⟩, hu⟩ : ∃ R, unA [] l = R := ⟨_, rfl⟩
  unfold getP at h
  rw [hu] at h
  simp only at h
  split at h
  · rename_i hne; injection h with h _; exact absurd h hne
  · rename_i h0
    have he0 : e0 = 0 := by omega
    subst he0
    obtain ⟨a, hK, hl⟩ := unA_back _ _ _ _ hu
    rw [List.nil_append] at hK
    subst hK
    split at h
    · cases h
    · split at h
      · cases h
      · split at h
        · cases h
        · split at h
          · rename_i q1 q2 q3 q4
            injection h with _ h
            injection h with e1 h
            injection h with e2 h
            injection h with e3 e4
            subst e1
            have hr13 : r.length = 13 := by omega
            have l4 : (r.take 4).length = 4 := by rw [List.length_take]; omega
            have l8 : ((r.drop 4).take 8).length = 8 := by rw [List.length_take, List.length_drop]; omega
            have b1 := num_lt (r.take 4)
            have b2 := num_lt ((r.drop 4).take 8)
            rw [l4, e2] at b1
            rw [l8, e3] at b2
            refine ⟨?_, ?_, by simpa using b1, by simpa using b2, by omega⟩
            · rw [mayB_iff]
              exact ⟨by show 1 ≤ K0.length; omega, by show K0.length ≤ 32; omega, by omega, by omega⟩
            · rw [hl]
              unfold putL tailL
              congr 1
              have c1 := be_num (r.take 4)
              have c2 := be_num ((r.drop 4).take 8)
              rw [l4, e2] at c1
              rw [l8, e3] at c2
              have c3 : [UInt8.ofNat ki] = (r.drop 4).drop 8 := by
                rw [List.drop_drop]
                have hd : r.drop 12 = [r.getD 12 0] := by
                  rw [List.drop_eq_getElem_cons (by omega), List.drop_of_length_le (by omega)]
                  simp [List.getD, show 12 < r.length by omega]
                rw [hd, ← e4]
                simp
              rw [c1, c2, c3, List.append_assoc, List.take_append_drop, List.take_append_drop]
          · cases h
end Herb
