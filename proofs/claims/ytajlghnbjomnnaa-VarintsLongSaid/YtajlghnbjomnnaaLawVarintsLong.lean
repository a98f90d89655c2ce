/- A number has a byte for each seven bits, one at least; a greater one no fewer; so many sevens of bits more are so many bytes more: for every input, no condition. -/
import Derived.Test.YtajlghnbjomnnaaVarLives
import Derived.Test.YtajlghnbjomnnaaLift
set_option linter.unusedSimpArgs false
set_option linter.unusedVariables false
namespace Go.Proofs.Ytajlghnbjomnnaa.lawVarintsLong
open Go Go.RowKit Herb Go.ChangeShapes Go.WideShapes Go.ChangeAt

/-- How many bits a number has. -/
def bl (n : Nat) : Nat := if h : n = 0 then 0 else bl (n / 2) + 1
termination_by n
decreasing_by omega
theorem bl_zero : bl 0 = 0 := by rw [bl]; simp
theorem bl_pos {n : Nat} (h : n ≠ 0) : bl n = bl (n / 2) + 1 := by rw [bl, dif_neg h]
theorem bl_le : ∀ (k n : Nat), n < 2 ^ k → bl n ≤ k
  | 0, n, h => by rw [show n = 0 by simp at h; exact h, bl_zero]; omega
  | k + 1, n, h => by
    by_cases h0 : n = 0
    · rw [h0, bl_zero]; omega
    · rw [bl_pos h0]
      have := bl_le k (n / 2) (by rw [Nat.pow_succ] at h; omega)
      omega
theorem bl_seven {n : Nat} (h : 128 ≤ n) : bl n = bl (n / 128) + 7 := by
  rw [bl_pos (by omega), bl_pos (n := n / 2) (by omega), bl_pos (n := n / 2 / 2) (by omega), bl_pos (n := n / 2 / 2 / 2) (by omega), bl_pos (n := n / 2 / 2 / 2 / 2) (by omega),
    bl_pos (n := n / 2 / 2 / 2 / 2 / 2) (by omega), bl_pos (n := n / 2 / 2 / 2 / 2 / 2 / 2) (by omega), show n / 2 / 2 / 2 / 2 / 2 / 2 / 2 = n / 128 by omega]
theorem enc_bl (n : Nat) : (enc n).length = max 1 ((bl n + 6) / 7) := by
  induction n using Nat.strongRecOn with
  | _ n ih =>
    by_cases h : n < 128
    · have := bl_le 7 n h
      rw [enc_lt h, List.length_singleton]
      omega
    · have h1 := bl_pos (n := n / 128) (by omega)
      rw [enc_ge (by omega), List.length_cons, ih (n / 128) (by omega), bl_seven (n := n) (by omega)]
      omega
theorem enc_mono : ∀ (a b : Nat), a ≤ b → (enc a).length ≤ (enc b).length := by
  intro a
  induction a using Nat.strongRecOn with
  | _ a ih =>
    intro b hab
    by_cases h : a < 128
    · rw [enc_lt h, List.length_singleton]; exact enc_pos b
    · rw [enc_ge (n := a) (by omega), enc_ge (n := b) (by omega), List.length_cons, List.length_cons]
      have := ih (a / 128) (by omega) (b / 128) (by omega)
      omega
theorem enc_more {a : Nat} (h : a ≠ 0) : (enc (a * 128)).length = (enc a).length + 1 := by
  rw [enc_ge (by omega), List.length_cons, show a * 128 / 128 = a by omega]

theorem put_len (w : World) (m : Nat) (hm : m < 18446744073709551616) (k : Nat) (hk : (enc m).length = k) :
    Calls Try.prog 15 #[.slice none 0 0, .int .u64 m] w fun e w' => ∃ g, e = .returned (.slice (some ⟨g, 0, none⟩) k k) ∧ Below w.heap.size w w' := by
  refine (put_at w none 0 0 [] rfl (by omega) (by omega) (Bs.nil_ _ _) m hm (enc m) rfl k hk).mono ?_
  rintro _ w' ⟨g, rfl, _, b⟩
  exact ⟨g, rfl, b⟩

set_option maxRecDepth 100000 in
set_option maxHeartbeats 1600000 in
theorem walk (w : World) (a : Nat) (ha : a < 18446744073709551616) (b : Nat) (hb : b < 18446744073709551616) :
    Calls Try.prog 6 #[.int .u64 (a : Int), .int .u64 (b : Int)] w fun e w' => e = .returned (.bool true) ∧ Below w.heap.size w w' := by
  obtain ⟨lo, hlo, hlo'⟩ : ∃ lo : Nat, min (a : Int) (b : Int) = (lo : Int) ∧ lo = min a b := ⟨min a b, by omega, rfl⟩
  obtain ⟨hi, hhi, hhi'⟩ : ∃ hi : Nat, max (a : Int) (b : Int) = (hi : Int) ∧ hi = max a b := ⟨max a b, by omega, rfl⟩
  have hmin := fun w => run_min2 (P := Try.prog) #[25, 25] 25 .u64 a b w
  have hmax := fun w => run_max2 (P := Try.prog) #[25, 25] 25 .u64 a b w
  rw [hlo] at hmin
  rw [hhi] at hmax
  obtain ⟨x, hx⟩ : ∃ x, (enc lo).length = x := ⟨_, rfl⟩
  obtain ⟨y, hy⟩ : ∃ y, (enc hi).length = y := ⟨_, rfl⟩
  have hxy : x ≤ y := by rw [← hx, ← hy]; exact enc_mono _ _ (by omega)
  have hyl : y ≤ 10 := by rw [← hy]; exact enc_len64 (by omega)
  have hyb : Hid (y = max 1 ((bl hi + 6) / 7)) := Lib.hid (by rw [← hy]; exact enc_bl hi)
  have hhl : hi < 18446744073709551616 := by omega
  have hbl : bl hi ≤ 64 := bl_le 64 hi hhl
  have p1 := fun w => put_len w lo (by omega) x hx
  have p2 := fun w => put_len w hi hhl y hy
  replace p1 := Lib.hid p1
  replace p2 := Lib.hid p2
  clear hlo hhi hlo' hhi' hx hy
  go_enter Try.func6, Try.ntmps6
  go_wp2_with fail
  refine (p1.out _).mono ?_
  rintro _ w1 ⟨g1, rfl, b1⟩
  go_wp2_with fail
  refine (p2.out _).mono ?_
  rintro _ w2 ⟨g2, rfl, b2⟩
  have c2 := b1.trans (b2.mono b1.size)
  clear b1 b2 p1 p2
  go_wp2_with fail
  clear hmin hmax
  go_loop [7, 8] (fun i n => ∃ k m : Nat, i = .int .i64 (k : Int) ∧ n = .int .u64 (m : Int) ∧ m < 18446744073709551616 ∧ k + bl m = bl hi) (fun _ n => (intOf n).toNat)
  case atStart => exact ⟨0, hi, rfl, rfl, hhl, by omega⟩
  case round =>
    obtain ⟨k, m, rfl, rfl, hm, hkm⟩ := hrel
    by_cases h0 : 0 < m
    · have hbm := bl_pos (n := m) (by omega)
      rw [hbm] at hkm
      clear hbm
      obtain ⟨m2, hm2⟩ : ∃ m2, m / 2 = m2 := ⟨_, rfl⟩
      have hmi : (m : Int) / 2 = (m2 : Int) := by omega
      have hmlt : m2 < m := by omega
      rw [hm2] at hkm
      clear hm2
      go_wp2
      go_round
      case rel => exact ⟨k + 1, m2, by go_num, rfl, by omega, by omega⟩
      case measure => simp [intOf]; omega
    · obtain rfl : m = 0 := by omega
      rw [bl_zero] at hkm
      rw [← hkm] at hyb hbl
      have hmx : max (1 : Int) (((k : Int) + 6) / 7) = (y : Int) := by have := hyb.out; omega
      have hmax2 := fun w => run_max2 (P := Try.prog) #[3, 3] 3 .i64 1 (((k : Int) + 6) / 7) w
      rw [hmx] at hmax2
      clear hkm hyb hmx
      by_cases h1 : a = 0 ∨ 144115188075855872 ≤ a
      · have h1' : ((a : Int) / 144115188075855872 != 0 || (a : Int) == 0) = true := by
          rw [Bool.or_eq_true, bne_iff_ne, beq_iff_eq]; omega
        go_wp2_with fail
        all_goals
          refine (lives_any w2).mono ?_
          rintro _ w3 ⟨rfl, b3⟩
          go_wp2
          go_ret
          exact ⟨rfl, c2.trans (b3.mono c2.size)⟩
      · obtain ⟨z, hz⟩ : ∃ z, (enc a).length = z := ⟨_, rfl⟩
        have hzl : z ≤ 10 := by rw [← hz]; exact enc_len64 ha
        have p3 := fun w => put_len w (a * 128) (by omega) (z + 1) (by rw [enc_more (by omega), hz])
        have p4 := fun w => put_len w a ha z hz
        replace p3 := Lib.hid p3
        replace p4 := Lib.hid p4
        clear hz
        have h1' : ((a : Int) / 144115188075855872 != 0 || (a : Int) == 0) = false := by
          rw [Bool.or_eq_false_iff, bne_eq_false_iff_eq, beq_eq_false_iff_ne]; omega
        go_wp2_with fail
        refine (p3.out _).mono ?_
        rintro _ w3 ⟨g3, rfl, b3⟩
        go_wp2_with fail
        refine (p4.out _).mono ?_
        rintro _ w4 ⟨g4, rfl, b4⟩
        go_wp2_with fail
        refine (lives_any w4).mono ?_
        rintro _ w5 ⟨rfl, b5⟩
        go_wp2
        go_ret
        have c3 := c2.trans (b3.mono c2.size)
        have c4 := c3.trans (b4.mono c3.size)
        exact ⟨rfl, c4.trans (b5.mono c4.size)⟩

/-! ### from the walk to the statement (by tail.py) -/
set_option maxRecDepth 100000 in
theorem lifted (os : Os) (started : os.Started) (H : Type) (enc : TypeId × Value → H) :
    ReturnsInHanded {} Try.checked os 6 .any (Rows.varintsLongSpec.pre6 enc Try.prog Try.f6 Rows.varintsLongRow.domain false) (Rows.varintsLongSpec.post enc Try.prog Try.f6 false true false false) := by
  refine lifted_of (C := Try.checked) (tb := 4) (n := 2) (by kernel_rfl) started (by kernel_rfl) Try.func6 (by kernel_rfl) (by kernel_rfl) rfl (by kernel_rfl) Try.underlying4 (by kernel_rfl)
    (fun ds hd => by match ds, hd with | [d1, d2], _ => exact ⟨rfl, rfl, rfl⟩)
    (ChangeSpec.witness6 (enc := enc) (C := Try.checked) false ⟨#[], #[.int .u64 0, .int .u64 0], []⟩ 8 (by kernel_rfl) (by kernel_rfl) (by kernel_rfl) (by kernel_rfl)) ?_
  intro W base args ds before hval hA hsz
  rw [Try.params6] at hA hval hsz
  obtain ⟨v0, vs0, d0, ds0, p0, q0, rfl, rfl, rfl, h0, r0⟩ := trodAll_cons hA
  obtain ⟨v1, vs1, d1, ds1, p1, q1, rfl, rfl, rfl, h1, r1⟩ := trodAll_cons r0
  obtain ⟨rfl, rfl, rfl⟩ := trodAll_nil r1
  obtain ⟨x0, rfl, hx0⟩ := open_u64 Try.underlying25 (hval 0 _ _ rfl rfl) h0
  obtain ⟨x1, rfl, hx1⟩ := open_u64 Try.underlying25 (hval 1 _ _ rfl rfl) h1
  exact walk W x0 hx0 x1 hx1

theorem over : Rows.varintsLongRow.holds Try.pinned (OpenSpec.ofChange Rows.varintsLongSpec) :=
  OpenClaim.holds_of_wide 6 Try.f6 rfl rfl rfl rfl rfl rfl rfl ⟨rfl, rfl, rfl, rfl, rfl⟩ rfl rfl rfl rfl rfl (by kernel_rfl) Try.func6 (by kernel_rfl)
    (of_decide_eq_true (by kernel_rfl)) (by unfold Func.isWrapper; first | (rw [if_pos (by decide +kernel)]; kernel_rfl) | (rw [if_neg (by decide +kernel)]; exact ⟨rfl, rfl⟩))
    (fun os started H enc _ => lifted os started H enc)

theorem proved : Rows.VarintsLongSaid := over
end Go.Proofs.Ytajlghnbjomnnaa.lawVarintsLong
