/- Bytes of which bits within 32 next to one another were turned, one at least, have another sum: for every input, no condition. -/
import Derived.Test.YtpafkfnkhhbfkaaSumsLives
import Derived.Test.YtpafkfnkhhbfkaaLift
import Derived.Test.YtpafkfnkhhbfkaaApp
import Derived.Test.YtpafkfnkhhbfkaaExt
import Derived.StillTailTactics
import Derived.WalkLawsBesides
import Derived.Lib.SmallJoins
set_option linter.unusedSimpArgs false
set_option linter.unusedVariables false
namespace Go.Proofs.Ytpafkfnkhhbfkaa.lawSumsBurst
open Go Go.RowKit Herb Go.ChangeShapes Go.WideShapes Go.ChangeAt

theorem val_set : ∀ (l : List UInt8) (j : Nat) (h : j < l.length) (x : UInt8), val (l.set j (l[j] ^^^ x)) = val l ^^^ (x.toNat * 2 ^ (8 * j))
  | c :: l, 0, _, x => by
    simp only [List.set_cons_zero, List.getElem_cons_zero, val, UInt8.toNat_xor, Nat.mul_zero, Nat.pow_zero, Nat.mul_one]
    ac_rfl
  | c :: l, j + 1, h, x => by
    have ih := val_set l j (by simpa using h) x
    simp only [List.set_cons_succ, List.getElem_cons_succ, val]
    rw [ih, ← Nat.shiftLeft_eq, ← Nat.shiftLeft_eq (a := val l), Nat.shiftLeft_xor_distrib, Nat.shiftLeft_eq (a := x.toNat * 2 ^ (8 * j)), Nat.mul_assoc, ← Nat.pow_add, show 8 * j + 8 = 8 * (j + 1) by omega]
    ac_rfl
/-- One byte turned at bit k of the text. -/
def turn (l : List UInt8) (k : Nat) : List UInt8 := l.set (k / 8) (l.getD (k / 8) 0 ^^^ UInt8.ofNat (2 ^ (k % 8)))
theorem pow8 (k : Nat) : 2 ^ (k % 8) < 256 := by
  have h : k % 8 < 8 := Nat.mod_lt _ (by omega)
  have : 2 ^ (k % 8) < 2 ^ 8 := Nat.pow_lt_pow_right (by omega) h
  omega
theorem toNat_pow8 (k : Nat) : (UInt8.ofNat (2 ^ (k % 8))).toNat = 2 ^ (k % 8) := by
  rw [UInt8.toNat_ofNat', Nat.mod_eq_of_lt (pow8 k)]
theorem turn_length (l : List UInt8) (k : Nat) : (turn l k).length = l.length := by simp [turn]
theorem val_turn (l : List UInt8) (k : Nat) (h : k < 8 * l.length) : val (turn l k) = val l ^^^ 2 ^ k := by
  have hk : k / 8 < l.length := by omega
  unfold turn
  have e : l.getD (k / 8) 0 = l[k / 8] := by simp [List.getD, hk]
  rw [e, val_set l (k / 8) hk, toNat_pow8 k, ← Nat.pow_add, show k % 8 + 8 * (k / 8) = k by omega]
/-- The bits of n from the f-th place on, i of them. -/
def turns (l : List UInt8) (f n : Nat) : Nat → List UInt8
  | 0 => l
  | i + 1 => if n / 2 ^ i % 2 = 1 then turn (turns l f n i) (f + i) else turns l f n i
theorem turns_succ (l : List UInt8) (f n i : Nat) (h : n / 2 ^ i % 2 = 1) : turns l f n (i + 1) = turn (turns l f n i) (f + i) := by
  show (if _ then _ else _) = _
  rw [if_pos h]
theorem turns_length (l : List UInt8) (f n i : Nat) : (turns l f n i).length = l.length := by
  induction i with
  | zero => rfl
  | succ i ih => unfold turns; split <;> simp [turn_length, ih]
theorem low_succ (n i : Nat) : n % 2 ^ (i + 1) = n % 2 ^ i ^^^ (if n / 2 ^ i % 2 = 1 then 2 ^ i else 0) := by
  apply Nat.eq_of_testBit_eq
  intro j
  rw [Nat.testBit_xor, Nat.testBit_mod_two_pow, Nat.testBit_mod_two_pow]
  have hb : n.testBit i = decide (n / 2 ^ i % 2 = 1) := by
    rw [Nat.testBit_eq_decide_div_mod_eq]
  by_cases h1 : n / 2 ^ i % 2 = 1
  · rw [if_pos h1, Nat.testBit_two_pow]
    rcases Nat.lt_trichotomy j i with h | h | h
    · simp [h, show j < i + 1 by omega, show ¬ i = j by omega]
    · subst h; simp [hb, h1]
    · simp [show ¬ j < i by omega, show ¬ j < i + 1 by omega, show ¬ i = j by omega]
  · rw [if_neg h1, Nat.zero_testBit]
    rcases Nat.lt_trichotomy j i with h | h | h
    · simp [h, show j < i + 1 by omega]
    · subst h; simp [hb, h1]
    · simp [show ¬ j < i by omega, show ¬ j < i + 1 by omega]
theorem val_turns (l : List UInt8) (f n i : Nat) (h : f + i ≤ 8 * l.length) : val (turns l f n i) = val l ^^^ (n % 2 ^ i) * 2 ^ f := by
  induction i with
  | zero => simp [turns, Nat.mod_one]
  | succ i ih =>
    have ih := ih (by omega)
    unfold turns
    rw [low_succ]
    by_cases h1 : n / 2 ^ i % 2 = 1
    · rw [if_pos h1, if_pos h1, val_turn _ _ (by rw [turns_length]; omega), ih, ← Nat.shiftLeft_eq (a := n % 2 ^ i ^^^ 2 ^ i), Nat.shiftLeft_xor_distrib, Nat.shiftLeft_eq, Nat.shiftLeft_eq, ← Nat.pow_add, Nat.add_comm i f]
      ac_rfl
    · rw [if_neg h1, if_neg h1, Nat.xor_zero, ih]
theorem burst (l : List UInt8) (f n : Nat) (hn : n < 4294967296) (h0 : n ≠ 0) (h : f + 32 ≤ 8 * l.length) : more 0 (turns l f n 32) ≠ more 0 l := by
  intro he
  unfold more at he
  have h1 : feed (inv32 0) (turns l f n 32) = feed (inv32 0) l := by
    have a := feed_lt (inv32_lt 0) (turns l f n 32)
    have b := feed_lt (inv32_lt 0) l
    rw [← inv32_inv32 a, he, inv32_inv32 b]
  rw [feed_val, feed_val, turns_length, val_turns l f n 32 h, ← Nat.xor_assoc, rep_xor] at h1
  have h2 : rep (8 * l.length) (n % 2 ^ 32 * 2 ^ f) = 0 := by
    have := congrArg (rep (8 * l.length) (inv32 0 ^^^ val l) ^^^ ·) h1
    simp only [← Nat.xor_assoc, Nat.xor_self, Nat.zero_xor] at this
    exact this
  rw [Nat.mod_eq_of_lt (by omega), show 8 * l.length = (8 * l.length - f) + f by omega, rep_add, rep_shift] at h2
  exact h0 (rep_inj0 _ hn h2)

theorem and_one (n k : Nat) (hn : n < 4294967296) : bits .and .u32 ((n : Int) / 2 ^ k) 1 = ((n / 2 ^ k % 2 : Nat) : Int) := by
  have h := u32_and_nat (n / 2 ^ k) 1 (Nat.lt_of_le_of_lt (Nat.div_le_self _ _) hn) (by omega)
  rw [Nat.and_one_is_mod] at h
  rw [← h]
  congr 1

theorem turn_bits (x : UInt8) (k : Nat) : bits .xor .u8 (x.toNat : Int) (2 ^ (k % 8) % 256) = ((x ^^^ UInt8.ofNat (2 ^ (k % 8))).toNat : Int) := by
  have hp := pow8 k
  have e : ((2 : Int) ^ (k % 8) % 256) = ((2 ^ (k % 8) : Nat) : Int) := by
    have e1 : ((2 : Int) ^ (k % 8)) = ((2 ^ (k % 8) : Nat) : Int) := by simp
    rw [e1]
    generalize 2 ^ (k % 8) = p at hp ⊢
    omega
  rw [e, u8_xor_nat _ _ x.toNat_lt hp, UInt8.toNat_xor, toNat_pow8]
theorem bvs_turn (t : List UInt8) (k : Nat) (h : k / 8 < t.length) : (bvs t).set (k / 8) (.int .u8 ((t[k / 8] ^^^ UInt8.ofNat (2 ^ (k % 8))).toNat : Int)) = bvs (turn t k) := by
  unfold turn bvs
  have e : t.getD (k / 8) 0 = t[k / 8] := by simp [List.getD, h]
  rw [e, List.map_set]
  rfl

set_option maxHeartbeats 1600000 in
theorem walk (w : World) (A : Option Addr) (c : Nat) (l : List UInt8) (hl : l.length ≤ 140737488355328) (hb : Bs w A l) (a : Nat) (ha : a < 65536) (n : Nat) (hn : n < 4294967296) :
    Calls Try.prog 5 #[.slice A l.length c, .int .u16 (a : Int), .int .u32 (n : Int)] w fun e w' => e = .returned (.bool true) ∧ Below w.heap.size w w' := by
  go_enter Try.func5, Try.ntmps5
  by_cases h1 : l.length < 4
  · go_wp2_with fail
    refine (lives_any w).mono ?_
    rintro e w1 ⟨rfl, hb1⟩
    go_wp2
    go_ret
    exact ⟨rfl, hb1⟩
  · by_cases h2 : 100000 < l.length
    · go_wp2_with fail
      refine (lives_any w).mono ?_
      rintro e w1 ⟨rfl, hb1⟩
      go_wp2
      go_ret
      exact ⟨rfl, hb1⟩
    · by_cases h3 : n = 0
      · subst h3
        go_wp2_with fail
        refine (lives_any w).mono ?_
        rintro e w1 ⟨rfl, hb1⟩
        go_wp2
        go_ret
        exact ⟨rfl, hb1⟩
      · have h3' : ((n : Int) == 0) = false := by simp; omega
        obtain ⟨f, hf, hfl⟩ : ∃ f : Nat, (a : Int) % (8 * (l.length : Int) - 31) = (f : Int) ∧ f + 32 ≤ 8 * l.length :=
          ⟨((a : Int) % (8 * (l.length : Int) - 31)).toNat, by have := Int.emod_nonneg (a : Int) (show 8 * (l.length : Int) - 31 ≠ 0 by omega); omega, by
            have h5 := Int.emod_lt_of_pos (a : Int) (show 0 < 8 * (l.length : Int) - 31 by omega)
            have h6 := Int.emod_nonneg (a : Int) (show 8 * (l.length : Int) - 31 ≠ 0 by omega)
            omega⟩
        go_wp2_with (at_builtin; refine wpList_app w rfl (.const (.slice none 0 0)) (.tmp 31) rfl Try.underlying22 info_u8 rfl (by omega) (World.ownsRow_nil w w.heap.size _ _) rfl A l.length c hb rfl (bvs_one l) (by unfold maxLen; omega) (by omega) (Nat.le_refl _) ?_; intro v1 w1 hown1 hgrow1 hlie1)
        have b1 : Below w.heap.size w w1 := (Below.refl _ _).grown hgrow1 (Nat.le_refl _) (fun j hj => by simp [Value.ownBlock] at hj)
        rw [Nat.zero_add, List.nil_append] at hown1
        obtain ⟨g, cap, hv⟩ := Go.Joins.ownsRow_form hown1 (by omega)
        clear hgrow1 hlie1 hf h3'
        subst hv
        go_loopw [9] (fun i wr => ∃ k : Nat, k ≤ 32 ∧ i = .int .i64 k ∧ wr.ownsRow w.heap.size 5 1 (.slice (some ⟨g, 0, none⟩) l.length cap) l.length (bvs (turns l f n k)) ∧ Below w.heap.size w wr) (fun i _ => 32 - (intOf i).toNat)
        case atStart => exact ⟨0, by omega, rfl, hown1, b1⟩
        case round =>
          obtain ⟨k, hk, rfl, hown, hbel⟩ := hrel
          by_cases hlt : k < 32
          · by_cases hbit : n / 2 ^ k % 2 = 1
            · have hb1 := and_one n k hn
              rw [hbit] at hb1
              have hq : (f + k) / 8 < l.length := by omega
              have hq' : ((f : Int) + (k : Int)) / 8 < (l.length : Int) := by omega
              have hln : (f + k) / 8 < (turns l f n k).length := by rw [turns_length]; exact hq
              have hcell := hown.cellAt ((f + k) / 8) (by omega)
              have hfz := hown.frozenAt ((f + k) / 8)
              rw [bvs_get hln] at hcell
              unfold bv at hcell
              obtain ⟨z, hz, htb⟩ : ∃ z : UInt8, Hid (z = (turns l f n k)[(f + k) / 8]'hln ^^^ UInt8.ofNat (2 ^ ((f + k) % 8))) ∧ bits .xor .u8 ((((turns l f n k)[(f + k) / 8]'hln).toNat : Nat) : Int) (2 ^ ((f + k) % 8) % 256) = (z.toNat : Int) := ⟨_, Lib.hid rfl, turn_bits _ _⟩
              have hst := Lib.hid (hown.stored ((f + k) / 8) (.int .u8 (z.toNat : Int)))
              have hsz := (hown.lt g rfl).1
              go_wp2
              go_region
              have hst := hst.out
              rw [hz.out, bvs_turn _ _ hln, ← turns_succ l f n k hbit, ← hz.out] at hst
              have hown2 := hst.1.drew
              have hbel2 := (hbel.grown hst.2 hbel.size (fun j hj => by cases hj; exact hsz)).drew
              clear hst htb hcell hfz hown hbel
              go_wp2
              go_roundw
              case rel => exact ⟨k + 1, by omega, by go_num, hown2, hbel2⟩
              case measure => simp [intOf]; omega
            · have hb1 := and_one n k hn
              rw [show n / 2 ^ k % 2 = 0 by omega] at hb1
              go_wp2
              go_roundw
              case rel => exact ⟨k + 1, by omega, by go_num, by unfold turns; rw [if_neg hbit]; exact hown, hbel⟩
              case measure => simp [intOf]; omega
          · obtain rfl : k = 32 := by omega
            have hne := burst l f n hn h3 hfl
            have hne' : (((more 0 (turns l f n 32) : Nat) : Int) != ((more 0 l : Nat) : Int)) = true := by
              rw [bne_iff_ne]; omega
            go_wp2_with fail
            refine (of_at wr (some ⟨g, 0, none⟩) l.length cap (turns l f n 32) (turns_length _ _ _ _) (by omega) (Bs.of_own hown).2).mono ?_
            rintro e w2 ⟨rfl, hb2⟩
            have b2 := hbel.trans (hb2.mono hbel.size)
            go_wp2_with fail
            refine (of_any w2 A c l (by omega) (hb.below b2)).mono ?_
            rintro e w3 ⟨rfl, hb3⟩
            have b3 := b2.trans (hb3.mono b2.size)
            go_wp2_with fail
            refine (lives_any w3).mono ?_
            rintro e w4 ⟨rfl, hb4⟩
            have b4 := b3.trans (hb4.mono b3.size)
            go_wp2
            go_ret
            exact ⟨rfl, b4⟩

/-! ### from the walk to the statement (by tail.py) -/
set_option maxRecDepth 100000 in
theorem lifted (os : Os) (started : os.Started) (H : Type) (enc : TypeId × Value → H) :
    ReturnsInHanded {} Try.checked os 5 .any (Rows.sumsBurstSpec.pre6 enc Try.prog Try.f5 Rows.sumsBurstRow.domain false) (Rows.sumsBurstSpec.post enc Try.prog Try.f5 false true false false) := by
  refine lifted_of (C := Try.checked) (tb := 4) (n := 3) (by kernel_rfl) started (by kernel_rfl) Try.func5 (by kernel_rfl) (by kernel_rfl) rfl (by kernel_rfl) Try.underlying4 (by kernel_rfl)
    (fun ds hd => by match ds, hd with | [d1, d2, d3], _ => exact ⟨rfl, rfl, rfl⟩)
    (ChangeSpec.witness6 (enc := enc) (C := Try.checked) false ⟨#[], #[.slice none 0 0, .int .u16 0, .int .u32 0], []⟩ 8 (by kernel_rfl) (by kernel_rfl) (by kernel_rfl) (by kernel_rfl)) ?_
  intro W base args ds before hval hA hsz
  rw [Try.params5] at hA hval hsz
  obtain ⟨v0, vs0, d0, ds0, p0, q0, rfl, rfl, rfl, h0, r0⟩ := trodAll_cons hA
  obtain ⟨v1, vs1, d1, ds1, p1, q1, rfl, rfl, rfl, h1, r1⟩ := trodAll_cons r0
  obtain ⟨v2, vs2, d2, ds2, p2, q2, rfl, rfl, rfl, h2, r2⟩ := trodAll_cons r1
  obtain ⟨rfl, rfl, rfl⟩ := trodAll_nil r2
  obtain ⟨A0, c0, l0, rfl, hb0, hlc0, _, hcap0⟩ := open_bytes Try.underlying22 Try.underlying5 (by kernel_rfl) (by kernel_rfl) (hval 0 _ _ rfl rfl) h0
  have hc0 := hcap0 hsz 0 rfl rfl
  obtain ⟨x1, rfl, hx1⟩ := open_u16 Try.underlying31 (hval 1 _ _ rfl rfl) h1
  obtain ⟨x2, rfl, hx2⟩ := open_u32 Try.underlying23 (hval 2 _ _ rfl rfl) h2
  exact walk W A0 c0 l0 (by have := reachBytes_lt; omega) hb0 x1 hx1 x2 hx2

theorem over : Rows.sumsBurstRow.holds Try.pinned (OpenSpec.ofChange Rows.sumsBurstSpec) :=
  OpenClaim.holds_of_wide 5 Try.f5 rfl rfl rfl rfl rfl rfl rfl ⟨rfl, rfl, rfl, rfl, rfl⟩ rfl rfl rfl rfl rfl (by kernel_rfl) Try.func5 (by kernel_rfl)
    (of_decide_eq_true (by kernel_rfl)) (by unfold Func.isWrapper; first | (rw [if_pos (by decide +kernel)]; kernel_rfl) | (rw [if_neg (by decide +kernel)]; exact ⟨rfl, rfl⟩))
    (fun os started H enc _ => lifted os started H enc)

theorem proved : Rows.SumsBurstSaid := over
end Go.Proofs.Ytpafkfnkhhbfkaa.lawSumsBurst
