/- The walk of great. -/
import Derived.Test.YtebledknjfojlaaDoorRows
import Derived.Test.YtebledknjfojlaaDoorStrs
import Derived.Handy
import Derived.Lib.Hide
set_option linter.unusedSimpArgs false
set_option linter.unusedVariables false
namespace Go.Proofs.YtebledknjfojlaaDoor
open Go Go.RowKit Herb
set_option maxRecDepth 100000 in
theorem great_any (w : World) (A : Option Addr) (n c : Nat) (ks : List ByteArray) (hn : ks.length = n) (hl : n ≤ 140737488355328) (hs : ∀ s ∈ ks, s.size ≤ 140737488355328) (hb : Ss w A ks) :
    Calls Tryd.prog 4 #[.slice A n c] w fun e w' => ∃ t : Nat, e = .returned (.bool (decide ((100000 : Int) < (t : Int)))) ∧ w = w' ∧ Hid (t ≤ 100000 → bulk ks ≤ 100000) := by
  subst hn
  replace hs := Lib.hid hs
  go_enter Tryd.func4, Tryd.ntmps4
  go_wp2
  go_loop [3, 4] (fun t i => ∃ k b : Nat, t = .int .i64 (b : Int) ∧ i = .int .i64 (k : Int) ∧ k ≤ ks.length ∧ b ≤ 140737489355328 ∧ Hid (b = bulk (ks.take k))) (fun _ i => ks.length - (intOf i).toNat)
  case atStart => exact ⟨0, 0, rfl, rfl, by omega, by omega, Lib.hid (by simp [bulk])⟩
  case round =>
    obtain ⟨k, b, rfl, rfl, hk, hb2, hbk⟩ := hrel
    by_cases hlt : k < ks.length
    · have hd0 : decide ((k : Int) < (ks.length : Int)) = true := decide_eq_true (by omega)
      by_cases hb3 : b < 200000
      · obtain ⟨bb, off, rfl, hq, hc⟩ := hb.at_ hlt
        have hsz := hs.out _ (List.getElem_mem hlt)
        have hnx := bulk_snoc ks k hlt
        rw [← hbk.out] at hnx
        generalize ks[k] = s at hc hsz hnx
        obtain ⟨z, hz⟩ : ∃ z, s.size = z := ⟨_, rfl⟩
        rw [hz] at hsz hnx
        replace hnx := Lib.hid hnx
        have hd1 : decide ((b : Int) < 200000) = true := decide_eq_true (by omega)
        replace hb3 := Lib.hid hb3
        go_wp2
        go_round
        case rel => exact ⟨k + 1, b + (z + 1), by go_num, by go_num, by omega, by have := hb3.out; omega, Lib.hid hnx.out.symm⟩
        case measure => simp [intOf]; omega
      · have hd1 : decide ((b : Int) < 200000) = false := decide_eq_false (by omega)
        replace hb3 := Lib.hid hb3
        go_wp2
        go_ret
        exact ⟨b, rfl, rfl, Lib.hid fun h => by have := hb3.out; omega⟩
    · obtain rfl : k = ks.length := by omega
      rw [List.take_length] at hbk
      go_wp2
      go_ret
      exact ⟨b, rfl, rfl, Lib.hid fun h => by have := hbk.out; omega⟩
end Go.Proofs.YtebledknjfojlaaDoor
