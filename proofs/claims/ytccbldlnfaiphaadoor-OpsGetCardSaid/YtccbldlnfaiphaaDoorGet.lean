/- Walks of varints.Get, varints.GetText and of the document's. -/
import Derived.Test.YtccbldlnfaiphaaDoorTwinB
import Derived.Test.YtccbldlnfaiphaaDoorVar
import Derived.Handy
import Derived.Laws.Bits64
set_option linter.unusedSimpArgs false
set_option linter.unusedVariables false
namespace Herb
open Go
theorem decF_step (k acc : Nat) (l : List UInt8) (h : k < l.length) : decF k acc (l.drop k) =
    if (0 < k ∧ (l[k]).toNat = 0) ∨ (k = 9 ∧ 1 < (l[k]).toNat) then (0, 0, 4)
    else if (l[k]).toNat < 128 then (acc + (l[k]).toNat % 128 * 128 ^ k, k + 1, 0)
    else decF (k + 1) (acc + (l[k]).toNat % 128 * 128 ^ k) (l.drop (k + 1)) := by
  rw [List.drop_eq_getElem_cons h, decF]
theorem seven (x : Nat) (h : x < 256) : bits .andNot .u8 (x : Int) 128 = ((x % 128 : Nat) : Int) := by
  have e := u8_andNot_nat x 128 h (by omega)
  rw [show (255 - 128 : Nat) = 2 ^ 7 - 1 by rfl, Nat.and_two_pow_sub_one_eq_mod] at e
  exact e
theorem or_pow (acc d k : Nat) (hacc : acc < 2 ^ (7 * k)) (hd : acc + d * 2 ^ (7 * k) < 18446744073709551616) : bits .or .u64 (acc : Int) ((d * 2 ^ (7 * k) : Nat) : Int) = ((acc + d * 2 ^ (7 * k) : Nat) : Int) := by
  have e := u64_or_nat acc (d * 2 ^ (7 * k)) (by omega) (by omega)
  rw [e, Nat.or_comm, Nat.mul_comm d, ← Nat.two_pow_add_eq_or_of_lt hacc, Nat.add_comm]
theorem pow128 (k : Nat) : 128 ^ k = 2 ^ (7 * k) := by rw [Nat.pow_mul]
theorem or_small (acc d k : Nat) (hacc : acc < 2 ^ (7 * k)) (hd : d < 128) (hk : k < 9) : bits .or .u64 (acc : Int) (IntKind.u64.wrap ((d : Int) * 2 ^ (7 * k))) = ((acc + d * 128 ^ k : Nat) : Int) ∧ acc + d * 128 ^ k < 2 ^ (7 * (k + 1)) := by
  have e1 : (2 : Nat) ^ (7 * (k + 1)) = 128 * 2 ^ (7 * k) := by rw [Nat.mul_add, Nat.pow_add, Nat.mul_comm]
  have e2 : (2 : Nat) ^ (7 * (k + 1)) ≤ 2 ^ 63 := Nat.pow_le_pow_right (by omega) (by omega)
  have e3 : acc + d * 2 ^ (7 * k) < 128 * 2 ^ (7 * k) := by
    have : d * 2 ^ (7 * k) ≤ 127 * 2 ^ (7 * k) := Nat.mul_le_mul_right _ (by omega)
    omega
  have e4 := or_pow acc d k hacc (by omega)
  have e5 : (d : Int) * 2 ^ (7 * k) = ((d * 2 ^ (7 * k) : Nat) : Int) := by simp
  rw [pow128, e1]
  refine ⟨?_, e3⟩
  rw [e5, ← e4]
  congr 1
  generalize d * 2 ^ (7 * k) = z at *
  rw [IntKind.wrap_u64]
  omega
end Herb
namespace Go.Proofs.YtccbldlnfaiphaaDoor
open Go Go.RowKit Herb

set_option maxRecDepth 100000 in
theorem get_any (w : World) (A : Option Addr) (n c : Nat) (l : List UInt8) (hln : l.length = n) (hn : n ≤ 140737488355328) (hb : Bs w A l) :
    Calls Tryd.prog 61 #[.slice A n c] w fun e w' => e = .returned (.tuple #[.int .u64 ((dec l).1 : Int), .int .i64 ((dec l).2.1 : Int), .int .i64 ((dec l).2.2 : Int)]) ∧ w = w' := by
  subst hln
  go_enter Tryd.func61, Tryd.ntmps61
  go_wp2
  go_loop [2, 9] (fun s i => ∃ k acc : Nat, s = .int .u64 (acc : Int) ∧ i = .int .i64 (k : Int) ∧ k ≤ l.length ∧ k ≤ 9 ∧ acc < 2 ^ (7 * k) ∧ Hid (dec l = decF k acc (l.drop k))) (fun _ i => l.length - (intOf i).toNat)
  case atStart => exact ⟨0, 0, rfl, rfl, by omega, by omega, by simp, Lib.hid (by simp [dec])⟩
  case round =>
    obtain ⟨k, acc, rfl, rfl, hk, hk9, hacc, hdec⟩ := hrel
    by_cases hlt : k < l.length
    · obtain ⟨b, off, rfl, q, hc⟩ := hb.at_ hlt
      have hck := hc k hlt
      have hst := hdec.out.trans (decF_step k acc l hlt)
      have hcl := (l[k]).toNat_lt
      generalize (l[k]).toNat = x at hck hst hcl
      clear hc hdec
      have hsv := seven x (by omega)
      obtain ⟨d, hd⟩ : ∃ d, x % 128 = d := ⟨_, rfl⟩
      rw [hd] at hsv hst
      by_cases h1 : 0 < k ∧ x = 0
      · obtain ⟨h1, rfl⟩ := h1
        rw [if_pos (.inl ⟨h1, rfl⟩)] at hst
        replace hst := Lib.hid hst
        go_wp2
        go_returns
        exact ⟨by rw [hst.out]; rfl, rfl⟩
      · have h1' : (decide ((0 : Int) < (k : Int)) && ((x : Int) == 0)) = false := by
          simp; omega
        by_cases h9 : k = 9
        · subst h9
          by_cases hx : x = 1
          · subst hx
            obtain rfl : d = 1 := by omega
            rw [if_neg (by omega), if_pos (by omega)] at hst
            have hsv : bits .andNot .u8 1 128 = 1 := hsv
            replace hst := Lib.hid hst
            have hor := or_pow acc 1 9 hacc (by omega)
            rw [show (1 * 2 ^ (7 * 9) : Nat) = 9223372036854775808 by rfl] at hor
            replace hor : bits .or .u64 (acc : Int) 9223372036854775808 = ((acc + 9223372036854775808 : Nat) : Int) := hor
            go_wp2
            go_returns
            rw [show (1 * 128 ^ 9 : Nat) = 9223372036854775808 by rfl] at hst
            exact ⟨by rw [hst.out]; rfl, rfl⟩
          · rw [if_pos (by omega)] at hst
            replace hst := Lib.hid hst
            go_wp2
            go_returns
            exact ⟨by rw [hst.out]; rfl, rfl⟩
        · have h9' : ((k : Int) == 9) = false := by simp; omega
          have hor0 := or_small acc d k hacc (by omega) (by omega)
          rw [← hd] at hor0
          by_cases hx : x < 128
          · rw [if_neg (by omega), if_pos (by omega)] at hst
            replace hst := Lib.hid hst
            obtain ⟨y, hy⟩ : ∃ y, acc + d * 128 ^ k = y := ⟨_, rfl⟩
            rw [hd, hy] at hor0
            rw [hy] at hst
            have hor := hor0.1
            clear hor0 hy
            go_wp2
            all_goals
              go_returns
              exact ⟨by rw [hst.out]; rfl, rfl⟩
          · rw [if_neg (by omega), if_neg (by omega)] at hst
            replace hst := Lib.hid hst
            obtain ⟨y, hy⟩ : ∃ y, acc + d * 128 ^ k = y := ⟨_, rfl⟩
            rw [hd, hy] at hor0
            rw [hy] at hst
            obtain ⟨hor, hlt2⟩ := hor0
            clear hy
            go_wp2
            all_goals
              go_round
              case rel => exact ⟨k + 1, y, rfl, by go_num, by omega, by omega, hlt2, hst⟩
              case measure => simp [intOf]; omega
    · go_wp2
      go_returns
      have hst := hdec.out
      rw [List.drop_eq_nil_of_le (by omega), decF] at hst
      exact ⟨by rw [hst]; rfl, rfl⟩
end Go.Proofs.YtccbldlnfaiphaaDoor
