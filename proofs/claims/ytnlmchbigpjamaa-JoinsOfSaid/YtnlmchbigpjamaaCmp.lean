/- Walks of package cmp's Compare, Or at the instances that the keys use. -/
import Derived.Test.YtnlmchbigpjamaaRows
import Derived.Test.YtnlmchbigpjamaaBase
import Derived.Handy
import Derived.Lib.Hide
import Derived.WalkLawsBesides
set_option linter.unusedSimpArgs false
set_option linter.unusedVariables false
namespace Herb
open Go Go.RowKit
def cmpI (a b : Int) : Int := if a < b then -1 else if b < a then 1 else 0
/-- Texts, byte by byte. -/
def cmpS (a b : ByteArray) : Int := if Op.bytesLess a.toList b.toList then -1 else if a.toList == b.toList then 0 else 1
def orL : List Int → Int
  | [] => 0
  | x :: xs => if x = 0 then orL xs else x
def ivs (xs : List Int) : List Value := xs.map fun x => .int .i64 x
theorem ivs_length (xs : List Int) : (ivs xs).length = xs.length := by simp [ivs]
end Herb
namespace Go.Proofs.Ytnlmchbigpjamaa
open Go Go.RowKit Herb

theorem nan_int (w : World) (x : Int) : Calls Try.prog 63 #[.int .i64 x] w fun e w' => e = .returned (.bool false) ∧ w = w' := by
  go_enter Try.func63, Try.ntmps63
  go_wp2
  go_ret
  exact ⟨rfl, rfl⟩
theorem nan_u32 (w : World) (x : Int) : Calls Try.prog 41 #[.int .u32 x] w fun e w' => e = .returned (.bool false) ∧ w = w' := by
  go_enter Try.func41, Try.ntmps41
  go_wp2
  go_ret
  exact ⟨rfl, rfl⟩
theorem nan_u64 (w : World) (x : Int) : Calls Try.prog 42 #[.int .u64 x] w fun e w' => e = .returned (.bool false) ∧ w = w' := by
  go_enter Try.func42, Try.ntmps42
  go_wp2
  go_ret
  exact ⟨rfl, rfl⟩
theorem nan_kind (w : World) (x : Int) : Calls Try.prog 39 #[.int .u8 x] w fun e w' => e = .returned (.bool false) ∧ w = w' := by
  go_enter Try.func39, Try.ntmps39
  go_wp2
  go_ret
  exact ⟨rfl, rfl⟩
theorem nan_str (w : World) (x : ByteArray) : Calls Try.prog 36 #[.string x] w fun e w' => e = .returned (.bool false) ∧ w = w' := by
  go_enter Try.func36, Try.ntmps36
  go_wp2
  go_ret
  exact ⟨rfl, rfl⟩

theorem compare_int (w : World) (a b : Int) : Calls Try.prog 62 #[.int .i64 a, .int .i64 b] w fun e w' => e = .returned (.int .i64 (cmpI a b)) ∧ w = w' := by
  go_enter Try.func62, Try.ntmps62
  go_wp2_with (go_at_call 63; refine (nan_int _ _).mono ?_; rintro _ _ ⟨rfl, rfl⟩)
  all_goals
    go_ret
    refine ⟨?_, rfl⟩
    unfold cmpI
    first | rw [if_pos (by assumption)]; rfl | rw [if_neg (by omega), if_pos (by omega)]; rfl | rw [if_neg (by omega), if_neg (by omega)]; rfl
theorem compare_u32 (w : World) (a b : Int) : Calls Try.prog 37 #[.int .u32 a, .int .u32 b] w fun e w' => e = .returned (.int .i64 (cmpI a b)) ∧ w = w' := by
  go_enter Try.func37, Try.ntmps37
  go_wp2_with (go_at_call 41; refine (nan_u32 _ _).mono ?_; rintro _ _ ⟨rfl, rfl⟩)
  all_goals
    go_ret
    refine ⟨?_, rfl⟩
    unfold cmpI
    first | rw [if_pos (by assumption)]; rfl | rw [if_neg (by omega), if_pos (by omega)]; rfl | rw [if_neg (by omega), if_neg (by omega)]; rfl
theorem compare_u64 (w : World) (a b : Int) : Calls Try.prog 38 #[.int .u64 a, .int .u64 b] w fun e w' => e = .returned (.int .i64 (cmpI a b)) ∧ w = w' := by
  go_enter Try.func38, Try.ntmps38
  go_wp2_with (go_at_call 42; refine (nan_u64 _ _).mono ?_; rintro _ _ ⟨rfl, rfl⟩)
  all_goals
    go_ret
    refine ⟨?_, rfl⟩
    unfold cmpI
    first | rw [if_pos (by assumption)]; rfl | rw [if_neg (by omega), if_pos (by omega)]; rfl | rw [if_neg (by omega), if_neg (by omega)]; rfl
theorem compare_kind (w : World) (a b : Int) : Calls Try.prog 31 #[.int .u8 a, .int .u8 b] w fun e w' => e = .returned (.int .i64 (cmpI a b)) ∧ w = w' := by
  go_enter Try.func31, Try.ntmps31
  go_wp2_with (go_at_call 39; refine (nan_kind _ _).mono ?_; rintro _ _ ⟨rfl, rfl⟩)
  all_goals
    go_ret
    refine ⟨?_, rfl⟩
    unfold cmpI
    first | rw [if_pos (by assumption)]; rfl | rw [if_neg (by omega), if_pos (by omega)]; rfl | rw [if_neg (by omega), if_neg (by omega)]; rfl
theorem compare_str (w : World) (a b : ByteArray) : Calls Try.prog 28 #[.string a, .string b] w fun e w' => e = .returned (.int .i64 (cmpS a b)) ∧ w = w' := by
  go_enter Try.func28, Try.ntmps28
  go_wp2_with (go_at_call 36; refine (nan_str _ _).mono ?_; rintro _ _ ⟨rfl, rfl⟩)
  · go_ret
    refine ⟨?_, rfl⟩
    unfold cmpS
    rw [if_pos (by assumption)]
    rfl
  · have h1 : Op.bytesLess a.toList b.toList = false := by assumption
    have h2 : (!a.toList == b.toList) = true := by assumption
    go_ret
    refine ⟨?_, rfl⟩
    unfold cmpS
    rw [if_neg (by rw [h1]; simp), if_neg (by simpa using h2)]
    rfl
  · have h1 : Op.bytesLess a.toList b.toList = false := by assumption
    have h2 : (!a.toList == b.toList) = false := by assumption
    go_ret
    refine ⟨?_, rfl⟩
    unfold cmpS
    rw [if_neg (by rw [h1]; simp), if_pos (by simpa using h2)]
    rfl
theorem fall_u32 (w : World) (a b : Int) : Calls Try.prog 29 #[.int .u32 a, .int .u32 b] w fun e w' => e = .returned (.int .i64 (cmpI b a)) ∧ w = w' := by
  go_enter Try.func29, Try.ntmps29
  go_wp2_with fail
  refine (compare_u32 _ _ _).mono ?_
  rintro _ _ ⟨rfl, rfl⟩
  go_wp2
  go_ret
  exact ⟨rfl, rfl⟩
theorem fall_u64 (w : World) (a b : Int) : Calls Try.prog 30 #[.int .u64 a, .int .u64 b] w fun e w' => e = .returned (.int .i64 (cmpI b a)) ∧ w = w' := by
  go_enter Try.func30, Try.ntmps30
  go_wp2_with fail
  refine (compare_u64 _ _ _).mono ?_
  rintro _ _ ⟨rfl, rfl⟩
  go_wp2
  go_ret
  exact ⟨rfl, rfl⟩

theorem or_any (w : World) (A : Option Addr) (n c : Nat) (xs : List Int) (hn : xs.length = n) (hl : n ≤ 1000) (hb : Rd w 1 A n (ivs xs)) :
    Calls Try.prog 27 #[.slice A n c] w fun e w' => e = .returned (.int .i64 (orL xs)) ∧ w = w' := by
  obtain ⟨R, hR⟩ : ∃ R, orL xs = R := ⟨_, rfl⟩
  rw [hR]
  replace hn := Lib.hid hn
  replace hR := Lib.hid hR
  go_enter Try.func27, Try.ntmps27
  go_wp2
  go_loop [8] (fun i => ∃ k : Nat, k ≤ n ∧ i = .int .i64 (k : Int) ∧ Hid (orL (xs.drop k) = R)) (fun i => n - (intOf i).toNat)
  case atStart => exact ⟨0, by omega, rfl, Lib.hid (by simpa using hR.out)⟩
  case round =>
    obtain ⟨k, hk, rfl, ho⟩ := hrel
    by_cases hlt : k < n
    · obtain ⟨b, off, rfl, hq, hc⟩ := hb.at_ hlt
      have hck := hc k (.int .i64 (xs[k]'(by rw [hn.out]; exact hlt))) (by simp [ivs, show k < xs.length by rw [hn.out]; exact hlt])
      have ho' := ho.out
      rw [List.drop_eq_getElem_cons (by rw [hn.out]; exact hlt)] at ho'
      generalize xs[k]'(by rw [hn.out]; exact hlt) = x at *
      unfold orL at ho'
      clear hc
      by_cases hx : x = 0
      · subst hx
        rw [if_pos rfl] at ho'
        replace ho' := Lib.hid ho'
        go_wp2
        go_round
        case rel => exact ⟨k + 1, by omega, by go_num, ho'⟩
        case measure => simp [intOf]; omega
      · rw [if_neg hx] at ho'
        subst ho'
        have hne : (x != 0) = true := by simpa using hx
        go_wp2
        go_ret
        exact ⟨rfl, rfl⟩
    · obtain rfl : k = n := by omega
      have ho' := ho.out
      rw [List.drop_of_length_le (by rw [hn.out]; omega)] at ho'
      unfold orL at ho'
      subst ho'
      go_wp2
      go_ret
      exact ⟨rfl, rfl⟩
end Go.Proofs.Ytnlmchbigpjamaa
