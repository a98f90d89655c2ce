/- Walks of the statements' helpers of layer 11: lives, set. -/
import Derived.Test.YtebledknjfojlaaOf
import Derived.Test.YtebledknjfojlaaStr
set_option linter.unusedSimpArgs false
set_option linter.unusedVariables false
namespace Go.Proofs.Ytebledknjfojlaa
open Go Go.RowKit Herb

theorem bloomOf_at (w : World) (A : Option Addr) (n c : Nat) (ks : List ByteArray) (hn : ks.length = n) (hl : n ≤ 100000) (hs : ∀ s ∈ ks, s.size ≤ 140737488355328) (hb : Ss w A ks) (m : Nat) (hm : room n + 1 = m) (z : List UInt8) (hz : ofP ks = z) :
    Calls Try.prog 13 #[.slice A n c] w fun e w' => ∃ g, e = .returned (.slice (some ⟨g, 0, none⟩) m m) ∧ Bs w' (some ⟨g, 0, none⟩) z ∧ Below w.heap.size w w' := by
  refine (of_keys w A n c ks hn hl hs hb).mono ?_
  rintro _ w' ⟨g, rfl, hk, _, hb⟩
  subst hm
  subst hz
  refine ⟨g, rfl, hk.rd (by rw [bvs_length, ofP_length, hn]; omega) (fun j u hu => ?_), hb⟩
  simpa using hu
theorem Ss.nil_ (w : World) (A : Option Addr) : Ss w A [] := Rd.nil_ w 1 A
theorem Ss.one (w : World) (e : TypeId) (s : ByteArray) : Ss (w.alloc (.cells #[.string s] e)) (some ⟨w.heap.size, 0, none⟩) [s] := Rd.one w e (.string s)

set_option maxHeartbeats 1600000 in
theorem lives_any (w : World) : Calls Try.prog 7 #[] w fun e w' => e = .returned (.bool true) ∧ Below w.heap.size w w' := by
  have kstr := fun (w : World) (A : Option Addr) (l : List UInt8) (h : Bs w A l) (n : Nat) (hn : l.length = n) (c : Nat) => run_str (P := Try.prog) h 22 9 5 Try.underlying22 Try.underlying5 Try.underlying9 n c hn
  have hmk := fun w => make_one (P := Try.prog) Try.underlying22 info_u8 rfl 9 9 (by omega) (by omega) (by omega) w
  have z0 : ofP [] = [0, 0, 0, 0, 0, 0, 0, 0, 6] := by decide +kernel
  have z1 : ofP [ByteArray.mk #[]] = [1, 0, 0, 0, 0, 0, 0, 0, 6] := by decide +kernel
  have e0 : hasP [0, 0, 0, 0, 0, 0, 0, 0, 6] [97] = false := by decide +kernel
  have e1 : hasP [6] [97] = true := by decide +kernel
  have e2 : hasP [0, 0, 0, 0, 0, 0, 0, 0, 0] [97] = true := by decide +kernel
  replace z0 := Lib.hid z0
  replace z1 := Lib.hid z1
  have c0 := fun (w : World) A (hb : Bs w A [0, 0, 0, 0, 0, 0, 0, 0, 6]) => has_any w A 9 9 [0, 0, 0, 0, 0, 0, 0, 0, 6] rfl (by omega) hb ⟨#[97]⟩ [97] rfl 1 rfl (by omega)
  have c1 := fun (w : World) A (hb : Bs w A [6]) => has_any w A 1 1 [6] rfl (by omega) hb ⟨#[97]⟩ [97] rfl 1 rfl (by omega)
  have c2 := fun (w : World) A (hb : Bs w A [0, 0, 0, 0, 0, 0, 0, 0, 0]) => has_any w A 9 9 [0, 0, 0, 0, 0, 0, 0, 0, 0] rfl (by omega) hb ⟨#[97]⟩ [97] rfl 1 rfl (by omega)
  simp only [e0, e1, e2] at c0 c1 c2
  clear e0 e1 e2
  replace c0 := Lib.hid c0
  replace c1 := Lib.hid c1
  replace c2 := Lib.hid c2
  replace kstr := Lib.hid kstr
  go_enter Try.func7, Try.ntmps7
  go_wp2_with fail
  refine (bloomOf_at w none 0 0 [] rfl (by omega) (fun s h => by cases h) (Ss.nil_ _ _) 9 rfl _ z0.out).mono ?_
  rintro _ w1 ⟨g1, rfl, hs1, b1⟩
  have k1 := kstr.out w1 _ _ hs1 9 rfl 9
  go_wp2_with fail
  refine (c0.out w1 _ hs1).mono ?_
  rintro _ w2 ⟨rfl, b2⟩
  clear k1 hs1
  replace b2 := b1.trans (b2.mono b1.size)
  have h3 := Ss.one w2 9 ⟨#[]⟩
  have b3 := b2.alloc b2.size (.cells #[.string ⟨#[]⟩] 9)
  have hp := bloomOf_at _ _ 1 1 [ByteArray.mk #[]] rfl (by omega) (fun s h => by rw [List.mem_singleton.1 h]; decide) h3 9 rfl _ z1.out
  clear h3
  go_wp2_with fail
  refine hp.mono ?_
  clear hp
  rintro _ w4 ⟨g4, rfl, hs4, b4⟩
  replace b4 := b3.trans (b4.mono b3.size)
  have k4 := kstr.out w4 _ _ hs4 9 rfl 9
  have h5 := Bs.new w4 5 [6] (0, 0)
  have b5 := b4.alloc b4.size (.cells (bvs [6]).toArray 5)
  have hp := c1.out _ _ h5
  clear h5
  go_wp2_with fail
  refine hp.mono ?_
  clear hp k4 hs4
  rintro _ w6 ⟨rfl, b6⟩
  replace b6 := b5.trans (b6.mono b5.size)
  have h7 := Bs.new w6 5 [0, 0, 0, 0, 0, 0, 0, 0, 0] (0, 0)
  have b7 := b6.alloc b6.size (.cells (bvs [0, 0, 0, 0, 0, 0, 0, 0, 0]).toArray 5)
  have hp := c2.out _ _ h7
  clear h7
  go_wp2_with fail
  refine hp.mono ?_
  clear hp
  rintro _ w8 ⟨rfl, b8⟩
  go_wp2
  go_ret
  exact ⟨rfl, b7.trans (b8.mono b7.size)⟩

/-- The rest of a byte's bits. -/
theorem pop_step (c f : Nat) : popF (f + 1) c = c % 2 + popF f (c / 2) := rfl
theorem popF_zero : ∀ f, popF f 0 = 0
  | 0 => rfl
  | f + 1 => by rw [pop_step, popF_zero f]
theorem pops_snoc (l : List UInt8) (k : Nat) (h : k < l.length) : pops (l.take (k + 1)) = pops (l.take k) + pop l[k] := by
  rw [List.take_succ_eq_append_getElem h, pops_append, pops_cons]
  simp [pops]
set_option maxHeartbeats 1600000 in
theorem set_any (w : World) (A : Option Addr) (n c : Nat) (l : List UInt8) (hln : l.length = n) (hn : n ≤ 1000000000) (hb : Bs w A l) :
    Calls Try.prog 14 #[.slice A n c] w fun e w' => e = .returned (.int .i64 ((pops l : Nat) : Int)) ∧ w = w' := by
  replace hln := Lib.hid hln
  go_enter Try.func14, Try.ntmps14
  go_wp2
  go_loop [3, 4] (fun t i => ∃ k b : Nat, t = .int .i64 (b : Int) ∧ i = .int .i64 (k : Int) ∧ k ≤ n ∧ b ≤ 8 * k ∧ Hid (b = pops (l.take k))) (fun _ i => n - (intOf i).toNat)
  case atStart => exact ⟨0, 0, rfl, rfl, by omega, by omega, Lib.hid (by simp [pops])⟩
  case round =>
    obtain ⟨k, b, rfl, rfl, hk, hb2, hbk⟩ := hrel
    by_cases hlt : k < n
    · obtain ⟨bb, off, rfl, hq, hc⟩ := hb.at_ (k := k) (by rw [hln.out]; exact hlt)
      have hck := hc k (by rw [hln.out]; exact hlt)
      have hnx := pops_snoc l k (by rw [hln.out]; exact hlt)
      rw [← hbk.out] at hnx
      obtain ⟨y, hy⟩ : ∃ y, (l[k]'(by rw [hln.out]; exact hlt)).toNat = y := ⟨_, rfl⟩
      have hp8 := pop_le (l[k]'(by rw [hln.out]; exact hlt))
      have hyl : y < 256 := by rw [← hy]; exact (l[k]'(by rw [hln.out]; exact hlt)).toNat_lt
      have hpy : pop (l[k]'(by rw [hln.out]; exact hlt)) = popF 8 y := by unfold pop; rw [hy]
      rw [hpy] at hnx hp8
      rw [hy] at hck
      clear hc hpy
      replace hy := Lib.hid hy
      replace hnx := Lib.hid hnx
      go_wp2
      go_loop [3, 5] (fun t c => ∃ f x d : Nat, t = .int .i64 ((b + d : Nat) : Int) ∧ c = .int .u8 (x : Int) ∧ x < 2 ^ f ∧ f ≤ 8 ∧ d + popF f x ≤ 8 ∧ Hid (d + popF f x = popF 8 y)) (fun _ c => (intOf c).toNat)
      case atStart => exact ⟨8, y, 0, by simp, rfl, hyl, by omega, by omega, Lib.hid (by omega)⟩
      case round =>
        obtain ⟨f, x, d, rfl, rfl, hx, hf, hd8, hd⟩ := hrel
        by_cases hx0 : 0 < x
        · obtain ⟨f, rfl⟩ : ∃ g, f = g + 1 := ⟨f - 1, by
            have : f ≠ 0 := fun h => by subst h; simp at hx; omega
            omega⟩
          have hx256 : x < 256 := by
            have : 2 ^ (f + 1) ≤ 2 ^ 8 := Nat.pow_le_pow_right (by omega) hf
            omega
          have hst := pop_step x f
          have hlow : bits .and .u8 (x : Int) 1 = ((x % 2 : Nat) : Int) := by
            have h := u8_and_nat x 1 hx256 (by omega)
            rw [Nat.and_one_is_mod] at h
            exact h
          have hx2 : x / 2 < 2 ^ f := by rw [Nat.pow_succ] at hx; omega
          obtain ⟨r, hr⟩ : ∃ r, x % 2 = r := ⟨_, rfl⟩
          obtain ⟨q, hq2⟩ : ∃ q, x / 2 = q := ⟨_, rfl⟩
          have hqi : (x : Int) / 2 = (q : Int) := by omega
          have hqx : q < x := by omega
          have hr1 : r ≤ 1 := by omega
          rw [hr] at hlow hst
          rw [hq2] at hst hx2
          have hd' := hd.out
          rw [hst] at hd' hd8
          replace hd' := Lib.hid hd'
          replace hst := Lib.hid hst
          replace hx := Lib.hid hx
          replace hx2 := Lib.hid hx2
          replace hr := Lib.hid hr
          replace hq2 := Lib.hid hq2
          go_wp2
          go_round
          case rel => exact ⟨f, q, d + r, by go_num, by go_num, hx2.out, by omega, by omega, Lib.hid (by have := hd'.out; omega)⟩
          case measure => simp [intOf]; omega
        · obtain rfl : x = 0 := by omega
          have hd' := hd.out
          rw [popF_zero] at hd'
          replace hd' := Lib.hid hd'
          replace hx := Lib.hid hx
          go_wp2
          go_round
          case rel => exact ⟨k + 1, b + d, rfl, by go_num, by omega, by have := hd'.out; omega, Lib.hid (by have := hd'.out; have := hnx.out; omega)⟩
          case measure => simp [intOf]; omega
    · obtain rfl : k = n := by omega
      rw [List.take_of_length_le (by rw [hln.out]; omega)] at hbk
      go_wp2
      go_ret
      exact ⟨by rw [hbk.out]; rfl, rfl⟩
end Go.Proofs.Ytebledknjfojlaa
