/- The walk of the document's Get. -/
import Derived.Test.YtccbldlnfaiphaaDoorGet
set_option linter.unusedSimpArgs false
set_option linter.unusedVariables false
namespace Go.Proofs.YtccbldlnfaiphaaDoor
open Go Go.RowKit Herb

set_option maxRecDepth 100000 in
theorem refGet_any (w : World) (A : Option Addr) (n c : Nat) (l : List UInt8) (hln : l.length = n) (hn : n ≤ 140737488355328) (hb : Bs w A l) :
    Calls Tryd.prog 69 #[.slice A n c] w fun e w' => e = .returned (.tuple #[.int .u64 ((dec l).1 : Int), .int .i64 ((dec l).2.1 : Int), .int .i64 ((dec l).2.2 : Int)]) ∧ w = w' := by
  subst hln
  go_enter Tryd.func69, Tryd.ntmps69
  go_wp2
  go_loop [5, 6, 7] (fun s p i => ∃ k acc pl : Nat, s = .int .u64 (acc : Int) ∧ p = .int .u64 (pl : Int) ∧ i = .int .i64 (k : Int) ∧ k ≤ l.length ∧ k ≤ 9 ∧ Hid (pl = 128 ^ k) ∧ acc < pl ∧ 0 < pl ∧ Hid (dec l = decF k acc (l.drop k))) (fun _ _ i => l.length - (intOf i).toNat)
  case atStart => exact ⟨0, 0, 1, rfl, rfl, rfl, by omega, by omega, Lib.hid (by simp), by simp, by omega, Lib.hid (by simp [dec])⟩
  case round =>
    obtain ⟨k, acc, pl, rfl, rfl, rfl, hk, hk9, hpl, hacc, hp0, hdec⟩ := hrel
    by_cases hlt : k < l.length
    · obtain ⟨b, off, rfl, q, hc⟩ := hb.at_ hlt
      have hck := hc k hlt
      have hst := hdec.out.trans (decF_step k acc l hlt)
      have hcl := (l[k]).toNat_lt
      generalize (l[k]).toNat = x at hck hst hcl
      clear hc hdec
      obtain ⟨d, hd⟩ : ∃ d, x % 128 = d := ⟨_, rfl⟩
      have hmod : (x : Int) % 128 = (d : Int) := by omega
      rw [hd, ← hpl.out] at hst
      by_cases h1 : 0 < k ∧ x = 0
      · obtain ⟨h1, rfl⟩ := h1
        rw [if_pos (.inl ⟨h1, rfl⟩)] at hst
        replace hst := Lib.hid hst
        clear hmod hd
        go_wp2
        go_returns
        exact ⟨by rw [hst.out]; rfl, rfl⟩
      · have h1' : (decide ((0 : Int) < (k : Int)) && ((x : Int) == 0)) = false := by
          simp; omega
        by_cases h9 : k = 9
        · subst h9
          have hpl9 : pl = 9223372036854775808 := hpl.out.trans (by rfl)
          subst hpl9
          by_cases hx : x = 1
          · subst hx
            obtain rfl : d = 1 := by omega
            rw [if_neg (by omega), if_pos (by omega)] at hst
            replace hst := Lib.hid hst
            clear hpl hmod
            go_wp2
            go_returns
            exact ⟨by rw [hst.out]; rfl, rfl⟩
          · rw [if_pos (by omega)] at hst
            replace hst := Lib.hid hst
            go_wp2
            go_returns
            exact ⟨by rw [hst.out]; rfl, rfl⟩
        · have h9' : ((k : Int) == 9) = false := by simp; omega
          have hple : pl ≤ 128 ^ 8 := by rw [hpl.out]; exact Nat.pow_le_pow_right (by omega) (by omega)
          have hpl1 : 128 * pl = 128 ^ (k + 1) := by rw [hpl.out, Nat.pow_succ, Nat.mul_comm]
          have hz1 : d * pl ≤ 127 * pl := Nat.mul_le_mul_right _ (by omega)
          obtain ⟨z, hz⟩ : ∃ z : Nat, d * pl = z := ⟨_, rfl⟩
          have hzi : (d : Int) * (pl : Int) = (z : Int) := by rw [← hz]; simp
          rw [hz] at hst hz1
          clear hz hpl
          rw [show (128 ^ 8 : Nat) = 72057594037927936 by rfl] at hple
          by_cases hx : x < 128
          · rw [if_neg (by omega), if_pos (by omega)] at hst
            replace hst := Lib.hid hst
            clear hpl1
            go_wp2
            all_goals
              go_returns
              exact ⟨by rw [hst.out]; rfl, rfl⟩
          · rw [if_neg (by omega), if_neg (by omega)] at hst
            replace hst := Lib.hid hst
            replace hpl1 := Lib.hid hpl1
            go_wp2
            all_goals
              go_round
              case rel => exact ⟨k + 1, acc + z, 128 * pl, by go_num, by go_num, by go_num, by omega, by omega, hpl1, by omega, by omega, hst⟩
              case measure => simp [intOf]; omega
    · go_wp2
      go_returns
      have hst := hdec.out
      rw [List.drop_eq_nil_of_le (by omega), decF] at hst
      exact ⟨by rw [hst]; rfl, rfl⟩
end Go.Proofs.YtccbldlnfaiphaaDoor
