/- The walk of the document's Has. -/
import Derived.Test.YtebledknjfojlaaRefPlaces
import Derived.Test.YtebledknjfojlaaHas
set_option linter.unusedSimpArgs false
set_option linter.unusedVariables false
namespace Go.Proofs.Ytebledknjfojlaa
open Go Go.RowKit Herb

set_option maxRecDepth 100000 in
set_option maxHeartbeats 1600000 in
theorem refHas_any (w : World) (A : Option Addr) (n c : Nat) (l : List UInt8) (hln : l.length = n) (hn : n ≤ 10000000) (hb : Bs w A l) (key : ByteArray) (kl : List UInt8) (hkl : key.data.toList = kl) (kn : Nat) (hkn : key.size = kn) (hk : kn ≤ 140737488355328) :
    Calls Try.prog 10 #[.slice A n c, .string key] w fun e w' => e = .returned (.bool (hasP l kl)) ∧ Below w.heap.size w w' := by
  obtain ⟨H, hH⟩ : ∃ H, hasP l kl = H := ⟨_, rfl⟩
  rw [hH]
  replace hln := Lib.hid hln
  go_enter Try.func10, Try.ntmps10
  by_cases h9 : n < 9
  · have hf : H = true := by rw [← hH]; unfold hasP; rw [if_pos (.inl (by rw [hln.out]; exact h9))]
    subst hf
    go_wp2
    go_ret
    exact ⟨rfl, Below.refl _ _⟩
  · obtain ⟨N, hN⟩ : ∃ N, n = N + 1 := ⟨n - 1, by omega⟩
    subst hN
    obtain ⟨b, off, rfl, hblt, hcells⟩ := hb.at_ (k := N) (by rw [hln.out]; omega)
    have hcN := hcells N (by rw [hln.out]; omega)
    have hlast : l.getD (l.length - 1) 0 = l[N]'(by rw [hln.out]; omega) := by
      have e : l.length - 1 = N := by rw [hln.out]; omega
      rw [e]
      simp [List.getD, show N < l.length by rw [hln.out]; omega]
    have hx := (l[N]'(by rw [hln.out]; omega)).toNat_lt
    obtain ⟨x, hxe⟩ : ∃ x, (l[N]'(by rw [hln.out]; omega)).toNat = x := ⟨_, rfl⟩
    rw [hxe] at hcN hx
    by_cases h6 : x = 6
    · subst h6
      obtain ⟨M, hM⟩ : ∃ M, 8 * N = M := ⟨_, rfl⟩
      have hM0 : 0 < M := by omega
      have hMi : 8 * ((N : Int) + 1) - 8 = (M : Int) := by omega
      have hMN : M ≤ 80000000 := by omega
      replace hM := Lib.hid hM
      obtain ⟨s, hs⟩ : ∃ s, more 0 kl = s := ⟨_, rfl⟩
      have hH2 : Hid (H = (places s M).all (bitAt l)) := Lib.hid (by
        rw [← hM.out, ← hs, ← hH]
        unfold hasP
        rw [if_neg (by rw [hlast, hxe, hln.out]; omega), hln.out]
        rfl)
      have pr := refPlaces_any w M hM0 (by omega) key kl hkl kn hkn hk
      rw [hs] at pr
      replace hs := Lib.hid hs
      clear hH hlast hxe hcells
      go_wp2_with fail
      refine pr.mono ?_
      clear pr
      rintro _ w1 ⟨v, rfl, hown, hb1⟩
      obtain ⟨A6, c6, rfl⟩ := own_slice hown
      have hrd := Rd.of_own hown
      clear hown hcN
      go_wp2_with fail
      go_loopw [6] (fun i wr => ∃ k : Nat, k ≤ 6 ∧ i = .int .i64 (k : Int) ∧ ((places s M).take k).all (bitAt l) = true ∧ Below w.heap.size w wr ∧ Rd wr 1 A6 6 (nvs (places s M))) (fun i _ => 6 - (intOf i).toNat)
      case atStart => exact ⟨0, by omega, rfl, rfl, hb1, hrd⟩
      case round =>
        obtain ⟨k, hk6, rfl, hall, hbel, hrdr⟩ := hrel
        by_cases hlt : k < 6
        · obtain ⟨b6, off6, rfl, hq6, hc6⟩ := hrdr.at_ hlt
          have hck := hc6 k (.int .i64 (place s M k : Int)) (by simp [nvs, places, hlt])
          have hpl := place_lt s M k hM0
          have htake : (places s M).take (k + 1) = (places s M).take k ++ [place s M k] := by
            rw [List.take_succ_eq_append_getElem (by simp [places]; exact hlt)]
            simp [places]
          have hH3 : bitAt l (place s M k) = false → H = false := fun hbf => by
            rw [hH2.out]
            have : place s M k ∈ places s M := by unfold places; exact List.mem_map.2 ⟨k, List.mem_range.2 hlt, rfl⟩
            exact Bool.eq_false_iff.2 fun ht => by
              have := List.all_eq_true.1 ht _ this
              rw [hbf] at this
              cases this
          generalize place s M k = x at *
          have hM' := hM.out
          have hx8 : x / 8 < N := by omega
          obtain ⟨_, _, e, hq, hcs⟩ := (hb.below hbel).at_ (k := x / 8) (by rw [hln.out]; omega)
          cases e
          have hcx := hcs (x / 8) (by rw [hln.out]; omega)
          have hgd : l.getD (x / 8) 0 = l[x / 8]'(by rw [hln.out]; omega) := by simp [List.getD, show x / 8 < l.length by rw [hln.out]; omega]
          have hyl := (l[x / 8]'(by rw [hln.out]; omega)).toNat_lt
          have hbit : bitAt l x = ((l[x / 8]'(by rw [hln.out]; omega)).toNat / 2 ^ (x % 8) % 2 == 1) := by unfold bitAt; rw [hgd]
          generalize (l[x / 8]'(by rw [hln.out]; omega)).toNat = y at hcx hyl hbit
          have hki : (k : Int) < 6 := by omega
          have hxi : (x : Int) / 8 < (N : Int) + 1 := by omega
          have hmod : ((y : Int) / 2 ^ (x % 8)).tmod 2 = ((y / 2 ^ (x % 8) % 2 : Nat) : Int) := by
            rw [Int.tmod_eq_emod_of_nonneg (Int.ediv_nonneg (by omega) (Int.le_of_lt (Int.pow_pos (by omega))))]
            simp
          clear hcs hgd hM' hc6
          replace htake := Lib.hid htake
          replace hH3 := Lib.hid hH3
          replace hH2 := Lib.hid hH2.out
          rcases Nat.mod_two_eq_zero_or_one (y / 2 ^ (x % 8)) with h2 | h2
          · rw [h2] at hmod hbit
            have hHf := hH3.out hbit
            subst hHf
            go_wp2
            go_quiet (fail)
            go_wp2
            go_ret
            exact ⟨rfl, below_drewN hbel _⟩
          · rw [h2] at hmod hbit
            go_wp2
            go_quiet (fail)
            go_wp2
            go_roundw
            case rel => exact ⟨k + 1, by omega, by go_num, by rw [htake.out, List.all_append, hall]; simp [hbit], below_drewN hbel _, hrdr.drewN _⟩
            case measure => simp [intOf]; omega
        · obtain rfl : k = 6 := by omega
          rw [List.take_of_length_le (by simp [places]), ← hH2.out] at hall
          subst hall
          go_wp2
          go_ret
          exact ⟨rfl, hbel⟩
    · have hf : H = true := by rw [← hH]; unfold hasP; rw [if_pos (.inr (by rw [hlast, hxe]; exact h6))]
      subst hf
      have hne : ((x : Int) != 6) = true := by simp; omega
      clear hH hlast hxe
      go_wp2
      go_ret
      exact ⟨rfl, Below.refl _ _⟩
end Go.Proofs.Ytebledknjfojlaa
