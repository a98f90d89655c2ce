/- The plain law of CRC-32C on natural numbers: no program in sight. 'stp' is one bit's step of the register, 'rep n' is n of them, 'feed' a text's way through the register byte by byte. -/
import Derived.KernelRfl
set_option linter.unusedSimpArgs false
set_option linter.unusedVariables false
namespace Herb

/-- One bit's step. -/
def stp (x : Nat) : Nat := x / 2 ^^^ (if x % 2 = 1 then 2197175160 else 0)
def rep : Nat → Nat → Nat
  | 0, x => x
  | n + 1, x => stp (rep n x)

theorem rep_add (a b x : Nat) : rep (a + b) x = rep a (rep b x) := by
  induction a with
  | zero => simp [rep]
  | succ a ih => rw [show a + 1 + b = (a + b) + 1 by omega]; simp [rep, ih]
theorem rep_succ' (n x : Nat) : rep (n + 1) x = rep n (stp x) := by rw [rep_add]; rfl

theorem xor_div2 (a b : Nat) : (a ^^^ b) / 2 = a / 2 ^^^ b / 2 := by
  have h := Nat.shiftRight_xor_distrib (a := a) (b := b) (i := 1)
  simpa [Nat.shiftRight_eq_div_pow] using h
theorem xor_mod2 (a b : Nat) : (a ^^^ b) % 2 = (a % 2 + b % 2) % 2 := by
  have h : (a ^^^ b).testBit 0 = ((a.testBit 0) ^^ (b.testBit 0)) := Nat.testBit_xor a b 0
  simp only [Nat.testBit_zero] at h
  rcases Nat.mod_two_eq_zero_or_one a with ha | ha <;> rcases Nat.mod_two_eq_zero_or_one b with hb | hb <;> rcases Nat.mod_two_eq_zero_or_one (a ^^^ b) with hc | hc <;> simp [ha, hb, hc] at h ⊢

theorem stp_xor (a b : Nat) : stp (a ^^^ b) = stp a ^^^ stp b := by
  unfold stp
  rw [xor_div2, xor_mod2]
  rcases Nat.mod_two_eq_zero_or_one a with ha | ha <;> rcases Nat.mod_two_eq_zero_or_one b with hb | hb <;> simp only [ha, hb]
  · simp
  · simp [Nat.xor_assoc]
  · simp only [Nat.reduceAdd, Nat.reduceMod, if_true, if_neg (show ¬ (0 = 1) by omega), Nat.xor_zero]
    rw [Nat.xor_assoc, Nat.xor_comm (b / 2), ← Nat.xor_assoc]
  · simp only [Nat.reduceAdd, Nat.reduceMod, if_true, if_neg (show ¬ (0 = 1) by omega), Nat.xor_zero]
    rw [show ∀ x y p : Nat, (x ^^^ p) ^^^ (y ^^^ p) = x ^^^ y from fun x y p => by
      rw [Nat.xor_assoc, Nat.xor_comm p, Nat.xor_assoc, Nat.xor_self, Nat.xor_zero]]
theorem rep_xor (n a b : Nat) : rep n (a ^^^ b) = rep n a ^^^ rep n b := by
  induction n with
  | zero => rfl
  | succ n ih => simp only [rep, ih, stp_xor]
theorem stp_zero : stp 0 = 0 := by decide
theorem rep_zero (n : Nat) : rep n 0 = 0 := by
  induction n with
  | zero => rfl
  | succ n ih => simp only [rep, ih, stp_zero]
theorem stp_even (x : Nat) : stp (2 * x) = x := by
  unfold stp; rw [if_neg (by omega)]; simp
theorem rep_shift (n x : Nat) : rep n (x * 2 ^ n) = x := by
  induction n generalizing x with
  | zero => simp [rep]
  | succ n ih => rw [rep_succ', show x * 2 ^ (n + 1) = 2 * (x * 2 ^ n) by rw [Nat.pow_succ]; ac_rfl, stp_even, ih]

theorem stp_lt {x : Nat} (h : x < 4294967296) : stp x < 4294967296 := by
  unfold stp
  have h1 : x / 2 < 2 ^ 32 := by omega
  split
  · exact Nat.xor_lt_two_pow h1 (by omega)
  · simpa using h1
theorem rep_lt {x : Nat} (n : Nat) (h : x < 4294967296) : rep n x < 4294967296 := by
  induction n with
  | zero => exact h
  | succ n ih => exact stp_lt ih
theorem xor_eq_zero {a b : Nat} (h : a ^^^ b = 0) : a = b := by
  have h2 : (a ^^^ b) ^^^ b = 0 ^^^ b := by rw [h]
  rwa [Nat.xor_assoc, Nat.xor_self, Nat.xor_zero, Nat.zero_xor] at h2
theorem stp_inj0 {x : Nat} (h : x < 4294967296) (h0 : stp x = 0) : x = 0 := by
  unfold stp at h0
  by_cases hx : x % 2 = 1
  · rw [if_pos hx] at h0
    have := xor_eq_zero h0
    omega
  · rw [if_neg hx, Nat.xor_zero] at h0
    omega
theorem rep_inj0 {x : Nat} (n : Nat) (h : x < 4294967296) (h0 : rep n x = 0) : x = 0 := by
  induction n with
  | zero => exact h0
  | succ n ih => exact ih (stp_inj0 (rep_lt n h) h0)

/-- A byte's way through the register; a text's. -/
def feed1 (x : Nat) (c : UInt8) : Nat := rep 8 (x ^^^ c.toNat)
def feed (x : Nat) (l : List UInt8) : Nat := l.foldl feed1 x
/-- A text as one number, its first byte the lowest. -/
def val : List UInt8 → Nat
  | [] => 0
  | c :: l => c.toNat ^^^ (val l * 2 ^ 8)

theorem feed_nil (x : Nat) : feed x [] = x := rfl
theorem feed_cons (x : Nat) (c : UInt8) (l : List UInt8) : feed x (c :: l) = feed (feed1 x c) l := rfl
theorem feed_append (x : Nat) (a b : List UInt8) : feed x (a ++ b) = feed (feed x a) b := by simp [feed, List.foldl_append]
theorem feed_snoc (x : Nat) (a : List UInt8) (c : UInt8) : feed x (a ++ [c]) = feed1 (feed x a) c := by rw [feed_append]; rfl
theorem feed1_lt {x : Nat} (h : x < 4294967296) (c : UInt8) : feed1 x c < 4294967296 :=
  rep_lt 8 (Nat.xor_lt_two_pow (n := 32) h (by have := c.toNat_lt; omega))
theorem feed_lt {x : Nat} (h : x < 4294967296) (l : List UInt8) : feed x l < 4294967296 := by
  induction l generalizing x with
  | nil => exact h
  | cons c l ih => exact ih (feed1_lt h c)
theorem feed_val (x : Nat) (l : List UInt8) : feed x l = rep (8 * l.length) (x ^^^ val l) := by
  induction l generalizing x with
  | nil => simp [feed, val, rep]
  | cons c l ih =>
    rw [feed_cons, ih, List.length_cons, show 8 * (l.length + 1) = 8 * l.length + 8 by omega, rep_add, val]
    congr 1
    rw [← Nat.xor_assoc, rep_xor 8, rep_shift]
    rfl

/-- The program's step by its table. -/
theorem feed1_table (x : Nat) (c : UInt8) : x / 256 ^^^ rep 8 ((x ^^^ c.toNat) % 256) = feed1 x c := by
  unfold feed1
  have hc : c.toNat < 256 := c.toNat_lt
  have h : x ^^^ c.toNat = ((x / 256) * 2 ^ 8) ^^^ ((x ^^^ c.toNat) % 256) := by
    have h1 : (x ^^^ c.toNat) / 256 = x / 256 := by
      have h := Nat.shiftRight_xor_distrib (a := x) (b := c.toNat) (i := 8)
      simp only [Nat.shiftRight_eq_div_pow] at h
      rw [show (256 : Nat) = 2 ^ 8 from rfl, h, Nat.div_eq_of_lt (a := c.toNat) (by omega), Nat.xor_zero]
    have h2 := Nat.div_add_mod (x ^^^ c.toNat) 256
    rw [h1] at h2
    have h3 : (x ^^^ c.toNat) % 256 < 2 ^ 8 := Nat.mod_lt _ (by omega)
    have h4 := Nat.two_pow_add_eq_or_of_lt h3 (x / 256)
    have h5 : (2 ^ 8 * (x / 256)) &&& ((x ^^^ c.toNat) % 256) = 0 := by
      apply Nat.eq_of_testBit_eq
      intro i
      simp only [Nat.testBit_and, Nat.zero_testBit, Nat.testBit_two_pow_mul]
      by_cases hi : i ≥ 8
      · simp [Nat.testBit_lt_two_pow (Nat.lt_of_lt_of_le h3 (Nat.pow_le_pow_right (by omega) hi))]
      · simp [hi]
    have h6 : (2 ^ 8 * (x / 256)) ^^^ ((x ^^^ c.toNat) % 256) = (2 ^ 8 * (x / 256)) ||| ((x ^^^ c.toNat) % 256) := by
      apply Nat.eq_of_testBit_eq
      intro i
      have := congrArg (fun n => n.testBit i) h5
      simp only [Nat.testBit_and, Nat.zero_testBit] at this
      simp only [Nat.testBit_xor, Nat.testBit_or]
      revert this
      cases (2 ^ 8 * (x / 256)).testBit i <;> cases ((x ^^^ c.toNat) % 256).testBit i <;> simp
    rw [Nat.mul_comm (x / 256), h6, ← h4]
    omega
  conv => rhs; rw [h, rep_xor, rep_shift]

/-- The sum's More: the register turned before and behind. -/
def inv32 (x : Nat) : Nat := 4294967295 - x
def more (s : Nat) (l : List UInt8) : Nat := inv32 (feed (inv32 s) l)
theorem inv32_lt (x : Nat) : inv32 x < 4294967296 := by unfold inv32; omega
theorem inv32_inv32 {x : Nat} (h : x < 4294967296) : inv32 (inv32 x) = x := by unfold inv32; omega
theorem more_lt (s : Nat) (l : List UInt8) : more s l < 4294967296 := inv32_lt _
theorem more_nil {s : Nat} (h : s < 4294967296) : more s [] = s := inv32_inv32 h
theorem more_append (s : Nat) (a b : List UInt8) : more s (a ++ b) = more (more s a) b := by
  unfold more
  rw [inv32_inv32 (feed_lt (inv32_lt s) a), feed_append]

end Herb
