/- The plain law of varints, on: what is put is got, and of what is got the same bytes are put. -/
import Derived.Test.YtccbldlnfaiphaaDoorVar
set_option linter.unusedSimpArgs false
set_option linter.unusedVariables false
namespace Herb

theorem pow_succ128 (k : Nat) : 128 ^ (k + 1) = 128 * 128 ^ k := by rw [Nat.pow_succ, Nat.mul_comm]
theorem nat_of_lt {n : Nat} (h : n < 256) : (UInt8.ofNat n).toNat = n := by rw [UInt8.toNat_ofNat', Nat.mod_eq_of_lt h]

/-- What is put is got. -/
theorem decF_enc (rest : List UInt8) : ∀ (m k acc : Nat), (k = 0 ∨ m ≠ 0) → m * 128 ^ k < 18446744073709551616 →
    decF k acc (enc m ++ rest) = (acc + m * 128 ^ k, k + (enc m).length, 0) := by
  intro m
  induction m using Nat.strongRecOn with
  | _ m ih =>
    intro k acc h0 hlt
    by_cases h : m < 128
    · rw [enc_lt h]
      simp only [List.cons_append, List.nil_append, decF, nat_of_lt (show m < 256 by omega)]
      rw [if_neg, if_pos h, Nat.mod_eq_of_lt h]
      · rfl
      · rintro (⟨a, b⟩ | ⟨rfl, b⟩)
        · omega
        · have : (128 : Nat) ^ 9 = 9223372036854775808 := by rfl
          rw [this] at hlt
          omega
    · have hd : m / 128 < m := by omega
      have hp : 1 ≤ 128 ^ k := Nat.pow_pos (by omega)
      have e1 : m / 128 * 128 ^ (k + 1) = (128 * (m / 128)) * 128 ^ k := by rw [pow_succ128, Nat.mul_comm 128 (m / 128), Nat.mul_assoc]
      have e2 : m * 128 ^ k = m % 128 * 128 ^ k + (128 * (m / 128)) * 128 ^ k := by
        rw [← Nat.add_mul]
        congr 1
        omega
      rw [enc_ge (by omega)]
      simp only [List.cons_append, decF, nat_of_lt (show m % 128 + 128 < 256 by omega)]
      rw [if_neg, if_neg (by omega), ih (m / 128) hd (k + 1) _ (.inr (by omega)) (by omega), List.length_cons]
      · rw [show (m % 128 + 128) % 128 = m % 128 by omega, e1]
        congr 1
        · omega
        · congr 1
          omega
      · rintro (⟨a, b⟩ | ⟨rfl, b⟩)
        · omega
        · have : (128 : Nat) ^ 9 = 9223372036854775808 := by rfl
          rw [this] at hlt
          omega
theorem dec_enc (m : Nat) (hm : m < 18446744073709551616) (rest : List UInt8) : dec (enc m ++ rest) = (m, (enc m).length, 0) := by
  have := decF_enc rest m 0 0 (.inl rfl) (by omega)
  simpa [dec] using this

/-- Without its last byte it ends too soon. -/
theorem decF_short : ∀ (m k acc : Nat), m * 128 ^ k < 18446744073709551616 → decF k acc (enc m).dropLast = (0, 0, 5) := by
  intro m
  induction m using Nat.strongRecOn with
  | _ m ih =>
    intro k acc hlt
    by_cases h : m < 128
    · rw [enc_lt h]
      rfl
    · have hd : m / 128 < m := by omega
      have e1 : m / 128 * 128 ^ (k + 1) = (128 * (m / 128)) * 128 ^ k := by rw [pow_succ128, Nat.mul_comm 128 (m / 128), Nat.mul_assoc]
      have e2 : m * 128 ^ k = m % 128 * 128 ^ k + (128 * (m / 128)) * 128 ^ k := by
        rw [← Nat.add_mul]
        congr 1
        omega
      have hne : enc (m / 128) ≠ [] := by
        intro he
        have := enc_pos (m / 128)
        rw [he] at this
        simp at this
      rw [enc_ge (by omega), List.dropLast_cons_of_ne_nil hne]
      simp only [decF, nat_of_lt (show m % 128 + 128 < 256 by omega)]
      rw [if_neg, if_neg (by omega), ih (m / 128) hd (k + 1) _ (by omega)]
      rintro (⟨a, b⟩ | ⟨rfl, b⟩)
      · omega
      · have : (128 : Nat) ^ 9 = 9223372036854775808 := by rfl
        rw [this] at hlt
        omega
theorem dec_short (m : Nat) (hm : m < 18446744073709551616) : dec (enc m).dropLast = (0, 0, 5) := decF_short m 0 0 (by omega)

/-- What bytes begin with, by cases. -/
theorem decF_cases : ∀ (l : List UInt8) (k acc : Nat), k ≤ 9 → acc < 128 ^ k →
    (∃ m, decF k acc l = (acc + m * 128 ^ k, k + (enc m).length, 0) ∧ (k = 0 ∨ m ≠ 0) ∧ acc + m * 128 ^ k < 18446744073709551616 ∧ ∃ rest, l = enc m ++ rest) ∨ decF k acc l = (0, 0, 4) ∨ decF k acc l = (0, 0, 5)
  | [], k, acc, hk, ha => .inr (.inr rfl)
  | c :: l, k, acc, hk, ha => by
    have hc := c.toNat_lt
    rw [decF]
    by_cases h1 : (0 < k ∧ c.toNat = 0) ∨ (k = 9 ∧ 1 < c.toNat)
    · rw [if_pos h1]; exact .inr (.inl rfl)
    · rw [if_neg h1]
      have h9 : (128 : Nat) ^ 9 = 9223372036854775808 := by rfl
      have h8 : k ≤ 8 → 128 ^ k ≤ 72057594037927936 := fun h => Nat.le_trans (Nat.pow_le_pow_right (by omega) h) (by decide)
      by_cases h2 : c.toNat < 128
      · rw [if_pos h2, Nat.mod_eq_of_lt h2]
        refine .inl ⟨c.toNat, ?_, by omega, ?_, l, ?_⟩
        · rw [enc_lt h2]; rfl
        · rcases Nat.lt_or_ge k 9 with h | h
          · have := Nat.mul_le_mul_left c.toNat (h8 (by omega))
            have := h8 (by omega)
            omega
          · obtain rfl : k = 9 := by omega
            have hc1 : c.toNat ≤ 1 := by omega
            have := Nat.mul_le_mul_right (128 ^ 9) hc1
            omega
        · rw [enc_lt h2]; simp
      · rw [if_neg h2]
        have hk8 : k ≤ 8 := by omega
        have hp := h8 hk8
        have h3 : c.toNat % 128 * 128 ^ k ≤ 127 * 128 ^ k := Nat.mul_le_mul_right _ (by omega)
        rcases decF_cases l (k + 1) (acc + c.toNat % 128 * 128 ^ k) (by omega) (by rw [pow_succ128]; omega) with ⟨m, e, hm0, hlt, rest, hl⟩ | e | e
        · have hm : m ≠ 0 := by omega
          have e1 : (c.toNat % 128 + 128 * m) * 128 ^ k = c.toNat % 128 * 128 ^ k + m * 128 ^ (k + 1) := by rw [Nat.add_mul, pow_succ128, Nat.mul_comm 128 m, Nat.mul_assoc]
          have e2 : enc (c.toNat % 128 + 128 * m) = c :: enc m := by
            rw [enc_ge (by omega), show (c.toNat % 128 + 128 * m) / 128 = m by omega, show (c.toNat % 128 + 128 * m) % 128 + 128 = c.toNat by omega]
            simp
          refine .inl ⟨c.toNat % 128 + 128 * m, ?_, by omega, by omega, rest, ?_⟩
          · rw [e, e1, e2, List.length_cons]
            congr 1
            · omega
            · congr 1
              omega
          · rw [e2, hl]; rfl
        · exact .inr (.inl e)
        · exact .inr (.inr e)
theorem dec_cases (l : List UInt8) : (∃ m, dec l = (m, (enc m).length, 0) ∧ m < 18446744073709551616 ∧ ∃ rest, l = enc m ++ rest) ∨ dec l = (0, 0, 4) ∨ dec l = (0, 0, 5) := by
  rcases decF_cases l 0 0 (by omega) (by omega) with ⟨m, e, _, hlt, rest, hl⟩ | e | e
  · refine .inl ⟨m, ?_, by omega, rest, hl⟩
    simpa [dec] using e
  · exact .inr (.inl e)
  · exact .inr (.inr e)

/-- The text that bytes begin with. -/
def decT (l : List UInt8) : List UInt8 × Nat × Nat :=
  if (dec l).2.2 ≠ 0 then ([], 0, (dec l).2.2)
  else if l.length - (dec l).2.1 < (dec l).1 then ([], 0, 5)
  else ((l.drop (dec l).2.1).take (dec l).1, (dec l).2.1 + (dec l).1, 0)
theorem decT_enc (s rest : List UInt8) (hs : s.length < 18446744073709551616) : decT (enc s.length ++ s ++ rest) = (s, (enc s.length).length + s.length, 0) := by
  unfold decT
  rw [List.append_assoc, dec_enc _ hs]
  simp
theorem decT_short (s : List UInt8) (hs : s.length < 18446744073709551616) : (decT (enc s.length ++ s).dropLast).2.2 = 5 := by
  unfold decT
  rcases List.eq_nil_or_concat s with rfl | ⟨t, c, e⟩
  · simp only [List.length_nil, List.append_nil]
    rw [dec_short 0 (by omega)]
    simp
  · have e : s = t ++ [c] := by simpa using e
    have e2 : (enc s.length ++ s).dropLast = enc s.length ++ t := by
      generalize s.length = n
      rw [e, ← List.append_assoc, List.dropLast_concat]
    have hl : s.length = t.length + 1 := by rw [e]; simp
    rw [e2, dec_enc _ hs]
    simp only [List.length_append]
    rw [if_neg (by simp), if_pos (by omega)]
theorem decT_cases (l : List UInt8) : (∃ s, decT l = (s, (enc s.length).length + s.length, 0) ∧ s.length < 18446744073709551616 ∧ dec l = (s.length, (enc s.length).length, 0) ∧ ∃ rest, l = enc s.length ++ s ++ rest)
    ∨ (decT l = ([], 0, 4) ∧ dec l = (0, 0, 4)) ∨ (decT l = ([], 0, 5) ∧ (dec l = (0, 0, 5) ∨ (dec l).2.2 = 0)) := by
  rcases dec_cases l with ⟨m, e, hm, rest, hl⟩ | e | e
  · by_cases h : l.length - (enc m).length < m
    · exact .inr (.inr ⟨by unfold decT; rw [e]; simp [h], .inr (by rw [e])⟩)
    · have hlen : (rest.take m).length = m := by rw [List.length_take]; rw [hl, List.length_append] at h; omega
      refine .inl ⟨rest.take m, ?_, by omega, by rw [hlen, e], rest.drop m, by rw [hlen, List.append_assoc, List.take_append_drop, hl]⟩
      unfold decT
      rw [e, hlen]
      simp only [ne_eq, not_true, if_false, if_neg h]
      rw [hl]
      simp
  · exact .inr (.inl ⟨by unfold decT; rw [e]; simp, e⟩)
  · exact .inr (.inr ⟨by unfold decT; rw [e]; simp, .inl e⟩)
end Herb
