/- Walks of the reference of sums: each function's contract. -/
import Derived.Test.YtnjihcjijicgpaaDoorSums
set_option linter.unusedSimpArgs false
set_option linter.unusedVariables false
namespace Go.Proofs.YtnjihcjijicgpaaDoor
open Go Go.RowKit Herb

theorem wide_byte (x : Nat) (hx : x < 4294967296) (c : UInt8) : bits .xor .u32 (x : Int) ((c.toNat : Int) % 4294967296) = ((x ^^^ c.toNat : Nat) : Int) := by
  rw [show ((c.toNat : Int) % 4294967296) = (c.toNat : Int) by have := c.toNat_lt; omega]
  exact u32_xor_nat x c.toNat hx (by have := c.toNat_lt; omega)
theorem half_one (x : Nat) (hx : x < 4294967296) (h : x % 2 = 1) : bits .xor .u32 ((x : Int) / 2) 2197175160 = ((stp x : Nat) : Int) := by
  unfold stp
  rw [if_pos h]
  have := u32_xor_nat (x / 2) 2197175160 (by omega) (by omega)
  rw [← this, Int.natCast_ediv]
  rfl
theorem half_zero (x : Nat) (h : ¬ x % 2 = 1) : ((x : Int) / 2) = ((stp x : Nat) : Int) := by
  unfold stp
  rw [if_neg h, Nat.xor_zero, Int.natCast_ediv]
  rfl

set_option maxHeartbeats 800000 in
theorem refMore_any (w : World) (s : Nat) (hs : s < 4294967296) (A : Option Addr) (c : Nat) (l : List UInt8) (hl : l.length ≤ 9223372036854775807) (hb : Bs w A l) :
    Calls Tryd.prog 38 #[.int .u32 (s : Int), .slice A l.length c] w fun e w' => e = .returned (.int .u32 ((more s l : Nat) : Int)) ∧ w = w' := by
  have hinv := inv_bits s hs
  go_enter Tryd.func38, Tryd.ntmps38
  go_wp2
  go_loop [5, 6] (fun x i => ∃ k : Nat, k ≤ l.length ∧ i = .int .i64 k ∧ x = .int .u32 (feed (inv32 s) (l.take k) : Nat)) (fun _ i => l.length - (intOf i).toNat)
  case atStart => exact ⟨0, by omega, rfl, rfl⟩
  case round =>
    obtain ⟨k, hk, rfl, rfl⟩ := hrel
    have hX := feed_lt (inv32_lt s) (l.take k)
    by_cases hlt : k < l.length
    · obtain ⟨b, off, rfl, hblt, hc⟩ := hb.at_ hlt
      have hck := hc k hlt
      have hwb := wide_byte _ hX l[k]
      go_wp2
      have hY : feed (inv32 s) (l.take k) ^^^ l[k].toNat < 4294967296 := Nat.xor_lt_two_pow (n := 32) hX (by have := l[k].toNat_lt; omega)
      generalize hy : feed (inv32 s) (l.take k) ^^^ l[k].toNat = y at *
      go_loop [5, 7] (fun x j => ∃ i : Nat, i ≤ 8 ∧ j = .int .i64 i ∧ x = .int .u32 (rep i y : Nat)) (fun _ i => 8 - (intOf i).toNat)
      case atStart => exact ⟨0, by omega, rfl, rfl⟩
      case round =>
        obtain ⟨i, hi, rfl, rfl⟩ := hrel
        have hr := rep_lt i hY
        by_cases hlt2 : i < 8
        · by_cases hodd : rep i y % 2 = 1
          · have h1 := half_one _ hr hodd
            have hodd' : ((rep i y : Nat) : Int) % 2 = 1 := by omega
            go_wp2
            go_round
            case rel => exact ⟨i + 1, by omega, by go_num, rfl⟩
            case measure => simp [intOf]; omega
          · have h1 := half_zero _ hodd
            have hodd' : ((((rep i y : Nat) : Int) % 2) == 1) = false := by simp; omega
            go_wp2
            go_round
            case rel => exact ⟨i + 1, by omega, by go_num, rfl⟩
            case measure => simp [intOf]; omega
        · obtain rfl : i = 8 := by omega
          go_wp2
          go_round
          case rel => exact ⟨k + 1, by omega, by go_num, by rw [List.take_succ_eq_append_getElem hlt, feed_snoc, feed1, hy]⟩
          case measure => simp [intOf]; omega
    · obtain rfl : k = l.length := by omega
      rw [List.take_length] at *
      have hinv2 := inv_bits _ hX
      go_wp2
      go_ret
      exact ⟨rfl, rfl⟩

set_option maxHeartbeats 400000 in
theorem refOf_any (w : World) (A : Option Addr) (c : Nat) (l : List UInt8) (hl : l.length ≤ 9223372036854775807) (hb : Bs w A l) :
    Calls Tryd.prog 32 #[.slice A l.length c] w fun e w' => e = .returned (.int .u32 ((more 0 l : Nat) : Int)) ∧ w = w' := by
  go_enter Tryd.func32, Tryd.ntmps32
  go_wp2_with fail
  refine (refMore_any w 0 (by omega) A c l hl hb).mono ?_
  rintro e w1 ⟨rfl, rfl⟩
  go_wp2
  go_ret
  exact ⟨rfl, rfl⟩
end Go.Proofs.YtnjihcjijicgpaaDoor
