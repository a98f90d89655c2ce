/- The lowest seven bits of a number are those of its first byte; what is behind that is the number without them, if there are others: for every input, no condition. -/
import Derived.Test.YtajlghnbjomnnaaVarLives
import Derived.Test.YtajlghnbjomnnaaSameB
import Derived.Test.YtajlghnbjomnnaaLift
import Derived.Deep.RegionWith
set_option linter.unusedSimpArgs false
set_option linter.unusedVariables false
namespace Go.Proofs.Ytajlghnbjomnnaa.lawVarintsSeven
open Go Go.RowKit Herb Go.ChangeShapes Go.WideShapes Go.ChangeAt

theorem and8 (x : Nat) (h : x < 256) : bits .and .u8 (x : Int) 127 = ((x % 128 : Nat) : Int) := by
  have e := u8_and_nat x 127 h (by omega)
  rw [show (127 : Nat) = 2 ^ 7 - 1 by rfl, Nat.and_two_pow_sub_one_eq_mod] at e
  exact e
theorem and64 (x : Nat) (h : x < 18446744073709551616) : bits .and .u64 (x : Int) 127 = ((x % 128 : Nat) : Int) := by
  have e := u64_and_nat x 127 h (by omega)
  rw [show (127 : Nat) = 2 ^ 7 - 1 by rfl, Nat.and_two_pow_sub_one_eq_mod] at e
  exact e

set_option maxRecDepth 100000 in
set_option maxHeartbeats 1600000 in
theorem walk (w : World) (v : Nat) (hv : v < 18446744073709551616) :
    Calls Try.prog 7 #[.int .u64 (v : Int)] w fun e w' => e = .returned (.bool true) ∧ Below w.heap.size w w' := by
  go_enter Try.func7, Try.ntmps7
  obtain ⟨d, hd⟩ : ∃ d, v % 128 = d := ⟨_, rfl⟩
  have hd1 : d < 128 := by omega
  by_cases h : v < 128
  · have ha := and64 v hv
    have ha8 := and8 v (by omega)
    rw [hd] at ha ha8
    go_wp2_with fail
    refine (put_at w none 0 0 [] rfl (by omega) (by omega) (Bs.nil_ _ _) v hv [UInt8.ofNat v] (by rw [enc_lt h]; rfl) 1 rfl).mono ?_
    rintro _ w1 ⟨g, rfl, hs, b1⟩
    obtain ⟨_, _, e, hg, hc⟩ := hs.at_ (k := 0) (by simp)
    cases e
    have hc0 := hc 0 (by simp)
    have e0 : (UInt8.ofNat v).toNat = v := by rw [UInt8.toNat_ofNat', Nat.mod_eq_of_lt (by omega)]
    simp only [List.getElem_cons_zero, e0] at hc0
    clear hc hs e0 hd
    go_wp2_with fail
    refine (lives_any w1).mono ?_
    rintro _ w2 ⟨rfl, b2⟩
    go_wp2
    go_ret
    exact ⟨rfl, b1.trans (b2.mono b1.size)⟩
  · obtain ⟨y, hy⟩ : ∃ y, v / 128 = y := ⟨_, rfl⟩
    have hyi : (v : Int) / 128 = (y : Int) := by omega
    obtain ⟨k, hk⟩ : ∃ k, (enc y).length = k := ⟨_, rfl⟩
    have hk1 : 1 ≤ k ∧ k ≤ 10 := by rw [← hk]; exact ⟨enc_pos y, enc_len64 (by omega)⟩
    have ha := and64 v hv
    have ha8 := and8 (d + 128) (by omega)
    rw [show (d + 128) % 128 = d by omega] at ha8
    rw [hd] at ha
    have p1 := put_at w none 0 0 [] rfl (by omega) (by omega) (Bs.nil_ _ _) v hv (UInt8.ofNat (d + 128) :: enc y) (by rw [enc_ge (by omega), hd, hy]; rfl) (k + 1) (by rw [List.length_cons, hk])
    have p2 := fun w1 => put_at w1 none 0 0 [] rfl (by omega) (by omega) (Bs.nil_ _ _) y (by omega) (enc y) rfl k hk
    obtain ⟨x0, hx0⟩ : ∃ x0, d + 128 = x0 := ⟨_, rfl⟩
    have hx1 : 127 < x0 ∧ x0 < 256 := by omega
    rw [hx0] at ha8 p1
    have t1 : decide ((127 : Int) < (x0 : Int)) = true := decide_eq_true (by omega)
    have t2 : decide ((127 : Int) < (v : Int)) = true := decide_eq_true (by omega)
    replace hx0 := Lib.hid hx0
    replace hk := Lib.hid hk
    replace hd := Lib.hid hd
    replace hy := Lib.hid hy
    replace p2 := Lib.hid p2
    go_wp2_with fail
    refine p1.mono ?_
    clear p1
    rintro _ w1 ⟨g, rfl, hs, b1⟩
    obtain ⟨_, _, e, hg, hc⟩ := hs.at_ (k := 0) (by simp)
    cases e
    have hc0 := hc 0 (by simp)
    have e0 : (UInt8.ofNat x0).toNat = x0 := by rw [UInt8.toNat_ofNat', Nat.mod_eq_of_lt (by omega)]
    simp only [List.getElem_cons_zero, e0] at hc0
    have ht := hs.cut (k := 1) (m := k) (by rw [List.length_cons, hk.out]; omega)
    simp only [Nat.zero_add, List.drop_succ_cons, List.drop_zero] at ht
    rw [List.take_of_length_le (by rw [hk.out]; omega)] at ht
    clear hc hs e0
    go_wp2_with fail
    go_region_with (first
      | (go_at_call 15; refine (p2.out _).mono ?_; rintro _ w2 ⟨g2, rfl, hs2, b2⟩)
      | (go_at_call 17; refine (sameBytes_yes _ _ _ k _ _ (enc y) hk.out (by omega) (ht.drew.below b2) hs2).mono ?_; rintro _ w3 ⟨rfl, b3⟩)
      | (go_at_call 8; refine (lives_any _).mono ?_; rintro _ w4 ⟨rfl, b4⟩))
    all_goals
      go_wp2
      go_ret
      have c2 := b1.drew.trans (b2.mono b1.size)
      have c3 := c2.trans (b3.mono c2.size)
      exact ⟨rfl, c3.trans (b4.mono c3.size)⟩

/-! ### from the walk to the statement (by tail.py) -/
set_option maxRecDepth 100000 in
theorem lifted (os : Os) (started : os.Started) (H : Type) (enc : TypeId × Value → H) :
    ReturnsInHanded {} Try.checked os 7 .any (Rows.varintsSevenSpec.pre6 enc Try.prog Try.f7 Rows.varintsSevenRow.domain false) (Rows.varintsSevenSpec.post enc Try.prog Try.f7 false true false false) := by
  refine lifted_of (C := Try.checked) (tb := 4) (n := 1) (by kernel_rfl) started (by kernel_rfl) Try.func7 (by kernel_rfl) (by kernel_rfl) rfl (by kernel_rfl) Try.underlying4 (by kernel_rfl)
    (fun ds hd => by match ds, hd with | [d1], _ => exact ⟨rfl, rfl, rfl⟩)
    (ChangeSpec.witness6 (enc := enc) (C := Try.checked) false ⟨#[], #[.int .u64 0], []⟩ 8 (by kernel_rfl) (by kernel_rfl) (by kernel_rfl) (by kernel_rfl)) ?_
  intro W base args ds before hval hA hsz
  rw [Try.params7] at hA hval hsz
  obtain ⟨v0, vs0, d0, ds0, p0, q0, rfl, rfl, rfl, h0, r0⟩ := trodAll_cons hA
  obtain ⟨rfl, rfl, rfl⟩ := trodAll_nil r0
  obtain ⟨x0, rfl, hx0⟩ := open_u64 Try.underlying25 (hval 0 _ _ rfl rfl) h0
  exact walk W x0 hx0

theorem over : Rows.varintsSevenRow.holds Try.pinned (OpenSpec.ofChange Rows.varintsSevenSpec) :=
  OpenClaim.holds_of_wide 7 Try.f7 rfl rfl rfl rfl rfl rfl rfl ⟨rfl, rfl, rfl, rfl, rfl⟩ rfl rfl rfl rfl rfl (by kernel_rfl) Try.func7 (by kernel_rfl)
    (of_decide_eq_true (by kernel_rfl)) (by unfold Func.isWrapper; first | (rw [if_pos (by decide +kernel)]; kernel_rfl) | (rw [if_neg (by decide +kernel)]; exact ⟨rfl, rfl⟩))
    (fun os started H enc _ => lifted os started H enc)

theorem proved : Rows.VarintsSevenSaid := over
end Go.Proofs.Ytajlghnbjomnnaa.lawVarintsSeven
