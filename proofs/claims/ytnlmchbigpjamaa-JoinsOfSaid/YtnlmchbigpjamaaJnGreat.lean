/- The walk of great. -/
import Derived.Test.YtnlmchbigpjamaaJnMany
import Derived.Handy
import Derived.Lib.Hide
set_option linter.unusedSimpArgs false
set_option linter.unusedVariables false
namespace Herb.Jn
open Go Herb
theorem total_snoc (R : List (List Ft)) (x : List Ft) : total (R ++ [x]) = total R + x.length := by simp [total]
end Herb.Jn
namespace Go.Proofs.Ytnlmchbigpjamaa
open Go Go.RowKit Go.Shelf Herb Herb.Jn
set_option maxRecDepth 100000 in
set_option maxHeartbeats 1600000 in
theorem great_any (w : World) (A : Option Addr) (n c : Nat) (ls : List Sl) (hn : ls.length = n) (hl : n ≤ 140737488355328) (hs : ∀ x ∈ ls, x.fs.length ≤ 140737488355328) (hR : Rows_ w A ls) :
    Calls Try.prog 7 #[.slice A n c] w fun e w' => ∃ t : Nat, e = .returned (.bool (decide ((1000 : Int) < (t : Int)))) ∧ w = w' ∧ Hid (t ≤ 1000 → n + total (ls.map Sl.fs) ≤ 1000) := by
  replace hn := Lib.hid hn
  have hrow : Rd w 1 A n (ls.map slV) := by have := hR.row; rwa [hn.out] at this
  clear hR
  replace hs := Lib.hid hs
  go_enter Try.func7, Try.ntmps7
  go_wp2
  go_loop [3, 4] (fun t i => ∃ k b : Nat, t = .int .i64 (b : Int) ∧ i = .int .i64 (k : Int) ∧ k ≤ n ∧ b ≤ 140737489355328 + n ∧ Hid (b = n + total ((ls.take k).map Sl.fs))) (fun _ i => n - (intOf i).toNat)
  case atStart => exact ⟨0, n, rfl, rfl, by omega, by omega, Lib.hid (by simp [total])⟩
  case round =>
    obtain ⟨k, b, rfl, rfl, hk, hb2, hbk⟩ := hrel
    by_cases hlt : k < n
    · have hd0 : decide ((k : Int) < (n : Int)) = true := decide_eq_true (by omega)
      by_cases hb3 : b < 3000
      · have hkl : k < ls.length := by rw [hn.out]; exact hlt
        obtain ⟨bb, off, rfl, hq, hc⟩ := hrow.at_ hlt
        have h0 := hc k (slV ls[k]) (by rw [List.getElem?_map, List.getElem?_eq_getElem hkl]; rfl)
        have hsz := hs.out _ (List.getElem_mem hkl)
        have hnx : total ((ls.take (k + 1)).map Sl.fs) = total ((ls.take k).map Sl.fs) + ls[k].fs.length := by
          rw [List.take_succ_eq_append_getElem hkl, List.map_append]
          exact total_snoc _ _
        generalize ls[k] = s at h0 hsz hnx
        obtain ⟨sA, sf, sc⟩ := s
        simp only [slV] at h0 hsz hnx
        obtain ⟨z, hz⟩ : ∃ z, sf.length = z := ⟨_, rfl⟩
        rw [hz] at hsz hnx h0
        have hbk2 : b + z = n + total ((ls.take (k + 1)).map Sl.fs) := by rw [hnx, hbk.out]; omega
        replace hbk2 := Lib.hid hbk2
        have hd1 : decide ((b : Int) < 3000) = true := decide_eq_true (by omega)
        replace hb3 := Lib.hid hb3
        clear hnx hc
        go_wp2
        go_round
        case rel => exact ⟨k + 1, b + z, by go_num, by go_num, by omega, by have := hb3.out; omega, hbk2⟩
        case measure => simp [intOf]; omega
      · have hd1 : decide ((b : Int) < 3000) = false := decide_eq_false (by omega)
        replace hb3 := Lib.hid hb3
        go_wp2
        go_ret
        exact ⟨b, rfl, rfl, Lib.hid fun h => by have := hb3.out; omega⟩
    · obtain rfl : k = n := by omega
      have htk : ls.take k = ls := List.take_of_length_le (by rw [hn.out]; omega)
      rw [htk] at hbk
      have hd0 : decide ((k : Int) < (k : Int)) = false := decide_eq_false (by omega)
      go_wp2
      go_ret
      exact ⟨b, rfl, rfl, Lib.hid fun h => by have := hbk.out; omega⟩
end Go.Proofs.Ytnlmchbigpjamaa
