/- Whole numbers below 2^53 as words of double precision: sums, differences and products of them, and the way back to an integer, are exact. No program. -/
import Derived.Laws.FloatArith
set_option linter.unusedSimpArgs false
set_option linter.unusedVariables false
namespace Herb
open Ieee

/-- 'm * 2 ^ e' is the whole number n. -/
def Sc (m : Nat) (e : Int) (n : Nat) : Prop := ∃ E : Nat, 0 ≤ e + E ∧ m * 2 ^ (e + E).toNat = n * 2 ^ E
theorem Sc.more {m n E : Nat} {e : Int} (h0 : 0 ≤ e + E) (h : m * 2 ^ (e + E).toNat = n * 2 ^ E) (d : Nat) : m * 2 ^ (e + (E + d : Nat)).toNat = n * 2 ^ (E + d) := by
  rw [show (e + ((E + d : Nat) : Int)).toNat = (e + E).toNat + d by omega, Nat.pow_add, Nat.pow_add, ← Nat.mul_assoc, h, Nat.mul_assoc]
theorem Sc.less {m n E : Nat} {e : Int} {d : Nat} (h0 : 0 ≤ e + E) (h : m * 2 ^ (e + (E + d : Nat)).toNat = n * 2 ^ (E + d)) : m * 2 ^ (e + E).toNat = n * 2 ^ E := by
  rw [show (e + ((E + d : Nat) : Int)).toNat = (e + E).toNat + d by omega, Nat.pow_add, Nat.pow_add, ← Nat.mul_assoc, ← Nat.mul_assoc] at h
  exact Nat.eq_of_mul_eq_mul_right (Nat.two_pow_pos d) h
theorem Sc.all {m n : Nat} {e : Int} (h : Sc m e n) (E : Nat) (h0 : 0 ≤ e + E) : m * 2 ^ (e + E).toNat = n * 2 ^ E := by
  obtain ⟨F, f0, hf⟩ := h
  rcases Nat.le_total F E with h | h
  · have := Sc.more f0 hf (E - F)
    rwa [show F + (E - F) = E by omega] at this
  · refine Sc.less (d := F - E) h0 ?_
    rwa [show E + (F - E) = F by omega]
/-- A datum stands for the whole number v. -/
def Val (d : Datum) (v : Int) : Prop := ∃ s m e n, d = .number s m e ∧ Sc m e n ∧ v = (if s then -(n : Int) else (n : Int))
/-- A word of double precision stands for v. -/
def Word (b : Nat) (v : Int) : Prop := Val (double.read b) v

theorem pow_ne (a : Nat) : (2 : Nat) ^ a ≠ 0 := by have := Nat.two_pow_pos a; omega
theorem log2_mul_pow (m a : Nat) (h : m ≠ 0) : (m * 2 ^ a).log2 = m.log2 + a := by
  have h1 : m * 2 ^ a ≠ 0 := Nat.mul_ne_zero h (pow_ne a)
  have h2 : m.log2 + a ≤ (m * 2 ^ a).log2 := (Nat.le_log2 h1).2 (by rw [Nat.pow_add]; exact Nat.mul_le_mul_right _ (Nat.log2_self_le h))
  have h3 : (m * 2 ^ a).log2 < m.log2 + a + 1 := (Nat.log2_lt h1).2 (by rw [show m.log2 + a + 1 = (m.log2 + 1) + a by omega, Nat.pow_add]; exact Nat.mul_lt_mul_of_pos_right Nat.lt_log2_self (Nat.two_pow_pos a))
  omega
theorem Sc.zero (e : Int) : Sc 0 e 0 := ⟨e.natAbs, by omega, by simp⟩

theorem read_word (s : Bool) (r : Nat) (h : r < 2 ^ 63) : double.word s r / 2 ^ 63 % 2 = (if s then 1 else 0) ∧ double.word s r % 2 ^ 63 = r := by
  have hw : double.signWeight = 2 ^ 63 := by rfl
  unfold Format.word
  rw [hw]
  cases s
  · simp only [Bool.false_eq_true, if_false]
    omega
  · simp only [if_true]
    omega

theorem cut_even (s : Bool) (q d : Nat) (h : d ≤ (q * 2 ^ d).log2 + 2) : Toward.even.cut s (q * 2 ^ d) d = q := by
  unfold Toward.cut
  rw [Nat.min_eq_left h, Nat.one_shiftLeft]
  simp only [Nat.mul_div_cancel _ (Nat.two_pow_pos d), Nat.mul_mod_left]
  have := Nat.two_pow_pos d
  simp
theorem cut_zero (s : Bool) (q d : Nat) (h : d ≤ (q * 2 ^ d).log2 + 2) : Toward.zero.cut s (q * 2 ^ d) d = q := by
  unfold Toward.cut
  rw [Nat.min_eq_left h, Nat.one_shiftLeft]
  simp only [Nat.mul_div_cancel _ (Nat.two_pow_pos d)]
  rfl
theorem sign_back (s : Bool) : ((if s then 1 else 0 : Nat) == 1) = s := by cases s <;> rfl
theorem rung_back (k q : Nat) (hk : k ≤ 52) (h1 : 4503599627370496 ≤ q) (h2 : q < 9007199254740992) :
    4503599627370496 + ((k + 1022) * 4503599627370496 + q) % 4503599627370496 = q ∧ (-1074 : Int) + (((((k + 1022) * 4503599627370496 + q) / 4503599627370496 - 1 : Nat)) : Int) = (k : Int) - 52
    ∧ ¬ (k + 1022) * 4503599627370496 + q < 4503599627370496 ∧ (k + 1022) * 4503599627370496 + q < 2047 * 4503599627370496 ∧ (k + 1022) * 4503599627370496 + q < 9223372036854775808 := by omega

theorem write_val {d : Datum} {v : Int} (h : Val d v) (hv : v.natAbs < 2 ^ 53) : Word (double.write d) v := by
  obtain ⟨s, m, e, n, rfl, hsc, rfl⟩ := h
  have hn : n < 2 ^ 53 := by cases s <;> simp at hv <;> omega
  have hsw : double.signWeight = 2 ^ 63 := by rfl
  have hbin : double.binade = 2 ^ 52 := by rfl
  have hinf : double.infRung = 2047 * 2 ^ 52 := by rfl
  have hlp : double.leastPlace = -1074 := by rfl
  have hfb : double.fractionBits = 52 := by rfl
  unfold Word Format.write
  simp only
  unfold Format.nearest
  by_cases hm : m = 0
  · subst hm
    have hn0 : n = 0 := by
      obtain ⟨E, h0, h⟩ := hsc
      rw [Nat.zero_mul] at h
      have := Nat.two_pow_pos E
      rcases Nat.eq_zero_or_pos n with h1 | h1
      · exact h1
      · have := Nat.mul_pos h1 this; omega
    rw [if_pos rfl]
    obtain ⟨h1, h2⟩ := read_word s 0 (by omega)
    refine ⟨s, 0, -1074, 0, ?_, Sc.zero _, by rw [hn0]⟩
    unfold Format.read
    rw [hsw, h1, h2, hbin, if_pos (by omega), hlp]
    cases s <;> rfl
  · rw [if_neg hm]
    have hn0 : n ≠ 0 := by
      rintro rfl
      obtain ⟨E, h0, h⟩ := hsc
      rw [Nat.zero_mul] at h
      exact Nat.mul_ne_zero hm (pow_ne _) h
    have hlog : (m.log2 : Int) + e = (n.log2 : Int) := by
      obtain ⟨E, h0, h⟩ := hsc
      have := congrArg Nat.log2 h
      rw [log2_mul_pow _ _ hm, log2_mul_pow _ _ hn0] at this
      omega
    have hk : n.log2 ≤ 52 := by
      have := (Nat.log2_lt hn0).2 hn
      omega
    obtain ⟨k, hk'⟩ : ∃ k, n.log2 = k := ⟨_, rfl⟩
    rw [hk'] at hlog hk
    have hlast : max (e + (m.log2 : Int) - (double.fractionBits : Int)) double.leastPlace = (k : Int) - 52 := by
      rw [hfb, hlp]; omega
    simp only [hlast]
    rw [hlp]
    have hkept : Toward.even.cut s (m <<< (e - ((k : Int) - 52)).toNat) (((k : Int) - 52) - e).toNat = n * 2 ^ (52 - k) := by
      by_cases hle : (k : Int) - 52 ≤ e
      · have e1 : ((k : Int) - 52 - e).toNat = 0 := by omega
        have hs := hsc.all 52 (by omega)
        have e2 : m <<< (e - ((k : Int) - 52)).toNat = n * 2 ^ (52 - k) := by
          rw [Nat.shiftLeft_eq]
          have hp : m * 2 ^ (e - ((k : Int) - 52)).toNat * 2 ^ k = n * 2 ^ (52 - k) * 2 ^ k := by
            rw [Nat.mul_assoc, Nat.mul_assoc, ← Nat.pow_add, ← Nat.pow_add, show (e - ((k : Int) - 52)).toNat + k = (e + (52 : Nat)).toNat by omega, show 52 - k + k = 52 by omega]
            exact hs
          exact Nat.eq_of_mul_eq_mul_right (Nat.two_pow_pos k) hp
        rw [e1, e2]
        unfold Toward.cut
        simp [Nat.mod_one]
      · have e1 : (e - ((k : Int) - 52)).toNat = 0 := by omega
        obtain ⟨d, hd⟩ : ∃ d : Nat, ((k : Int) - 52 - e).toNat = d := ⟨_, rfl⟩
        have hs := hsc.all (52 - k + d) (by omega)
        have e3 : (e + ((52 - k + d : Nat) : Int)).toNat = 0 := by omega
        rw [e3, Nat.pow_zero, Nat.mul_one, Nat.pow_add, ← Nat.mul_assoc] at hs
        have hdm : d ≤ m.log2 + 2 := by omega
        rw [e1, hd, Nat.shiftLeft_zero, hs]
        exact cut_even s _ d (by rw [← hs]; exact hdm)
    rw [hkept]
    have hb1 : 2 ^ 52 ≤ n * 2 ^ (52 - k) ∧ n * 2 ^ (52 - k) < 2 ^ 53 := by
      have h1 : 2 ^ k ≤ n := by rw [← hk']; exact Nat.log2_self_le hn0
      have h2 : n < 2 ^ (k + 1) := by rw [← hk']; exact Nat.lt_log2_self
      constructor
      · calc 2 ^ 52 = 2 ^ k * 2 ^ (52 - k) := by rw [← Nat.pow_add]; congr 1; omega
          _ ≤ _ := Nat.mul_le_mul_right _ h1
      · calc n * 2 ^ (52 - k) < 2 ^ (k + 1) * 2 ^ (52 - k) := Nat.mul_lt_mul_of_pos_right h2 (Nat.two_pow_pos _)
          _ = 2 ^ 53 := by rw [← Nat.pow_add]; congr 1; omega
    obtain ⟨q, hq⟩ : ∃ q, n * 2 ^ (52 - k) = q := ⟨_, rfl⟩
    rw [hq] at hb1 ⊢
    have p52 : (2 : Nat) ^ 52 = 4503599627370496 := by decide
    have p53 : (2 : Nat) ^ 53 = 9007199254740992 := by decide
    have p63 : (2 : Nat) ^ 63 = 9223372036854775808 := by decide
    rw [p52, p53] at hb1
    obtain ⟨r1, r2, r3, r4, r5⟩ := rung_back k q hk hb1.1 hb1.2
    have hto : ((k : Int) - 52 - -1074).toNat = k + 1022 := by omega
    rw [hto, hbin, hinf, p52, Nat.min_eq_left (Nat.le_of_lt r4)]
    obtain ⟨h1, h2⟩ := read_word s ((k + 1022) * 4503599627370496 + q) (by rw [p63]; exact r5)
    refine ⟨s, q, (k : Int) - 52, n, ?_, ⟨52, by omega, ?_⟩, rfl⟩
    · unfold Format.read
      rw [hsw, h1, h2, hbin, hinf, hlp, sign_back]
      simp only [p52]
      rw [if_neg r3, if_pos r4, r1, r2]
    · rw [← hq, Nat.mul_assoc, ← Nat.pow_add]
      congr 2
      omega

theorem sig (s : Bool) (m up : Nat) : signed s m up = if s then -((m * 2 ^ up : Nat) : Int) else ((m * 2 ^ up : Nat) : Int) := by
  unfold signed
  rw [Nat.shiftLeft_eq]
theorem product_val {a b : Datum} {u v : Int} (ha : Val a u) (hb : Val b v) : ∃ d, a.product b = some d ∧ Val d (u * v) := by
  obtain ⟨s, m, e, n, rfl, h1, rfl⟩ := ha
  obtain ⟨s', m', e', n', rfl, h2, rfl⟩ := hb
  refine ⟨_, rfl, s ^^ s', m * m', e + e', n * n', rfl, ?_, ?_⟩
  · obtain ⟨E, f0, hE⟩ := h1
    obtain ⟨F, g0, hF⟩ := h2
    refine ⟨E + F, by omega, ?_⟩
    rw [show (e + e' + ((E + F : Nat) : Int)).toNat = (e + E).toNat + (e' + F).toNat by omega, Nat.pow_add, Nat.pow_add]
    calc m * m' * (2 ^ (e + E).toNat * 2 ^ (e' + F).toNat) = (m * 2 ^ (e + E).toNat) * (m' * 2 ^ (e' + F).toNat) := by ac_rfl
      _ = (n * 2 ^ E) * (n' * 2 ^ F) := by rw [hE, hF]
      _ = _ := by ac_rfl
  · cases s <;> cases s' <;> simp [Int.neg_mul, Int.mul_neg]
theorem opposite_val {a : Datum} {u : Int} (ha : Val a u) : Val a.opposite (-u) := by
  obtain ⟨s, m, e, n, rfl, h1, rfl⟩ := ha
  exact ⟨!s, m, e, n, rfl, h1, by cases s <;> simp⟩
theorem sum_val {a b : Datum} {u v : Int} (ha : Val a u) (hb : Val b v) : ∃ d, a.sum b = some d ∧ Val d (u + v) := by
  obtain ⟨s, m, e, n, rfl, h1, rfl⟩ := ha
  obtain ⟨s', m', e', n', rfl, h2, rfl⟩ := hb
  obtain ⟨g, hg⟩ : ∃ g, min e e' = g := ⟨_, rfl⟩
  obtain ⟨t, ht⟩ : ∃ t, signed s m (e - g).toNat + signed s' m' (e' - g).toNat = t := ⟨_, rfl⟩
  have hsum : Datum.sum (.number s m e) (.number s' m' e') = some (.number (if t = 0 then s && s' else decide (t < 0)) t.natAbs g) := by
    simp only [Datum.sum, hg, ht]
  have hE : 0 ≤ g + (g.natAbs : Int) := by omega
  have a1 := h1.all g.natAbs (by omega)
  have a2 := h2.all g.natAbs (by omega)
  have key : t * 2 ^ (g + (g.natAbs : Int)).toNat = ((if s then -(n : Int) else (n : Int)) + (if s' then -(n' : Int) else (n' : Int))) * 2 ^ g.natAbs := by
    rw [← ht, Int.add_mul, Int.add_mul, sig, sig]
    have b1 : ((m * 2 ^ (e - g).toNat : Nat) : Int) * 2 ^ (g + (g.natAbs : Int)).toNat = (n : Int) * 2 ^ g.natAbs := by
      have : m * 2 ^ (e - g).toNat * 2 ^ (g + (g.natAbs : Int)).toNat = n * 2 ^ g.natAbs := by
        rw [Nat.mul_assoc, ← Nat.pow_add, show (e - g).toNat + (g + (g.natAbs : Int)).toNat = (e + (g.natAbs : Int)).toNat by omega]
        exact a1
      exact_mod_cast this
    have b2 : ((m' * 2 ^ (e' - g).toNat : Nat) : Int) * 2 ^ (g + (g.natAbs : Int)).toNat = (n' : Int) * 2 ^ g.natAbs := by
      have : m' * 2 ^ (e' - g).toNat * 2 ^ (g + (g.natAbs : Int)).toNat = n' * 2 ^ g.natAbs := by
        rw [Nat.mul_assoc, ← Nat.pow_add, show (e' - g).toNat + (g + (g.natAbs : Int)).toNat = (e' + (g.natAbs : Int)).toNat by omega]
        exact a2
      exact_mod_cast this
    cases s <;> cases s' <;> simp only [Bool.false_eq_true, if_false, if_true, Int.neg_mul, b1, b2]
  obtain ⟨r, hr⟩ : ∃ r, (if s then -(n : Int) else (n : Int)) + (if s' then -(n' : Int) else (n' : Int)) = r := ⟨_, rfl⟩
  rw [hr] at key ⊢
  have hp1 : (0 : Int) < 2 ^ (g + (g.natAbs : Int)).toNat := Int.pow_pos (by omega)
  have hp2 : (0 : Int) < 2 ^ g.natAbs := Int.pow_pos (by omega)
  refine ⟨_, hsum, _, _, _, r.natAbs, rfl, ⟨g.natAbs, hE, ?_⟩, ?_⟩
  · have := congrArg Int.natAbs key
    rw [Int.natAbs_mul, Int.natAbs_mul, Int.natAbs_pow, Int.natAbs_pow] at this
    exact this
  · by_cases h0 : t = 0
    · have hr0 : r = 0 := by
        rw [h0, Int.zero_mul] at key
        rcases Int.mul_eq_zero.1 key.symm with h | h
        · exact h
        · omega
      subst hr0
      simp
    · rw [if_neg h0]
      by_cases hn : t < 0
      · have : t * 2 ^ (g + (g.natAbs : Int)).toNat < 0 := Int.mul_neg_of_neg_of_pos hn hp1
        rw [key] at this
        have hrn : r < 0 := by
          rcases Int.lt_or_le r 0 with h | h
          · exact h
          · have := Int.mul_nonneg h (Int.le_of_lt hp2); omega
        simp only [hn, decide_true, if_true]
        omega
      · have : 0 ≤ t * 2 ^ (g + (g.natAbs : Int)).toNat := Int.mul_nonneg (by omega) (Int.le_of_lt hp1)
        rw [key] at this
        have hrn : 0 ≤ r := by
          rcases Int.lt_or_le r 0 with h | h
          · have := Int.mul_neg_of_neg_of_pos h hp2; omega
          · exact h
        simp only [hn, decide_false, Bool.false_eq_true, if_false]
        omega
theorem toInt_val {a : Datum} {u : Int} (ha : Val a u) : a.toInt .zero = some u := by
  obtain ⟨s, m, e, n, rfl, h1, rfl⟩ := ha
  have hc : Toward.zero.cut s (m <<< e.toNat) (-e).toNat = n := by
    rcases Int.lt_or_le e 0 with he | he
    · obtain ⟨d, hd⟩ : ∃ d : Nat, (-e).toNat = d := ⟨_, rfl⟩
      have hs := h1.all d (by omega)
      rw [show (e + (d : Int)).toNat = 0 by omega, Nat.pow_zero, Nat.mul_one] at hs
      rw [show e.toNat = 0 by omega, Nat.shiftLeft_zero, hd]
      by_cases hn : n = 0
      · subst hn
        rw [Nat.zero_mul] at hs
        subst hs
        unfold Toward.cut
        simp
      · have hl := log2_mul_pow n d hn
        rw [hs]
        exact cut_zero s n d (by omega)
    · have hs := h1.all 0 (by omega)
      rw [show (e + ((0 : Nat) : Int)).toNat = e.toNat by omega, Nat.pow_zero, Nat.mul_one] at hs
      rw [show (-e).toNat = 0 by omega, Nat.shiftLeft_eq, hs]
      unfold Toward.cut
      simp
  unfold Datum.toInt Datum.integral
  simp only [hc]
  rw [sig]
  simp

/-! ### words -/
theorem Word.add {x y : Nat} {u v : Int} (hx : Word x u) (hy : Word y v) (h : (u + v).natAbs < 2 ^ 53) : ∃ z, Go.floatBits .add .f64 x y = some z ∧ Word z (u + v) := by
  obtain ⟨d, e, hd⟩ := sum_val hx hy
  refine ⟨double.write d, ?_, write_val hd h⟩
  show ((double.read x).sum (double.read y)).map double.write = _
  rw [e]; rfl
theorem Word.sub {x y : Nat} {u v : Int} (hx : Word x u) (hy : Word y v) (h : (u - v).natAbs < 2 ^ 53) : ∃ z, Go.floatBits .sub .f64 x y = some z ∧ Word z (u - v) := by
  obtain ⟨d, e, hd⟩ := sum_val hx (opposite_val hy)
  rw [← Int.sub_eq_add_neg] at hd
  refine ⟨double.write d, ?_, write_val hd h⟩
  show ((double.read x).sum (double.read y).opposite).map double.write = _
  rw [e]; rfl
theorem Word.mul {x y : Nat} {u v : Int} (hx : Word x u) (hy : Word y v) (h : (u * v).natAbs < 2 ^ 53) : ∃ z, Go.floatBits .mul .f64 x y = some z ∧ Word z (u * v) := by
  obtain ⟨d, e, hd⟩ := product_val hx hy
  refine ⟨double.write d, ?_, write_val hd h⟩
  show ((double.read x).product (double.read y)).map double.write = _
  rw [e]; rfl
theorem Word.ofInt (n : Int) (h : n.natAbs < 2 ^ 53) : Word (Go.floatOfInt .f64 n) n := by
  refine write_val (d := .number (decide (n < 0)) n.natAbs 0) ⟨_, _, _, n.natAbs, rfl, ⟨0, by omega, by simp⟩, ?_⟩ h
  by_cases hn : n < 0 <;> simp [hn] <;> omega
theorem Word.toInt {x : Nat} {u : Int} (hx : Word x u) (h : u.natAbs < 2 ^ 53) : Go.floatToIntVal .f64 x .i64 = some u := by
  unfold Go.floatToIntVal
  have e : ((Go.FloatKind.f64).decode x).toInt .zero = some u := toInt_val hx
  rw [e]
  have h1 : Go.IntKind.min .i64 = -9223372036854775808 := by rfl
  have h2 : Go.IntKind.max .i64 = 9223372036854775807 := by rfl
  simp only [h1, h2]
  rw [if_pos (by omega)]
end Herb
