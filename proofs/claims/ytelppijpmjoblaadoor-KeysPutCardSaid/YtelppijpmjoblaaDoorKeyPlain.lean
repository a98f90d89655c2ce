/- Walks of keys.plain, fallen, of the document's number. -/
import Derived.Test.YtelppijpmjoblaaDoorKeyPut2
import Derived.Test.YtelppijpmjoblaaDoorStr
set_option linter.unusedSimpArgs false
set_option linter.unusedVariables false
namespace Herb
open Go Go.RowKit
theorem bs_drop {w : World} {b off n k : Nat} {l : List UInt8} (h : Bs w (some ⟨b, off, none⟩) l) (hn : l.length = n) (hk : k ≤ n) : Bs w (some ⟨b, off + k, none⟩) (l.drop k) := by
  have h1 := Bs.cut (k := k) (m := n - k) h (by omega)
  rwa [List.take_of_length_le (by rw [List.length_drop, hn]; omega)] at h1
theorem or_low (x z : Nat) (hz : z < 256) : 256 * x ||| z = 256 * x + z := by
  have := Nat.two_pow_add_eq_or_of_lt (i := 8) (b := z) (by omega) x
  rw [show (2 : Nat) ^ 8 = 256 by rfl] at this
  exact this.symm
end Herb
namespace Go.Proofs.YtelppijpmjoblaaDoor
open Go Go.RowKit Herb

set_option maxRecDepth 100000 in
set_option maxHeartbeats 800000 in
theorem fallen_any (w : World) (T : List UInt8) (hT : T.length = 13) (f m : Nat) (F M : Int) (hF : F = (f : Int)) (hM : M = (m : Int)) (hf : f + m ≤ 13) (h8 : m ≤ 8) (h0 : 0 < m) :
    Calls Tryd.prog 26 #[.agg (bvs T).toArray, .int .i64 F, .int .i64 M] w fun e w' => e = .returned (.int .u64 ((num ((T.drop f).take m) : Nat) : Int)) ∧ Below w.heap.size w w' := by
  subst hF
  subst hM
  have kt := Blk.new w 43 (bvs T).toArray
  have bt := (Below.refl w.heap.size w).alloc (Nat.le_refl _) (.cells (bvs T).toArray 43)
  obtain ⟨L, hL⟩ : ∃ L, (T.drop f).take m = L := ⟨_, rfl⟩
  have hLl : L.length = m := by rw [← hL, List.length_take, List.length_drop, hT]; omega
  have hcell : ∀ j (hj : j < L.length), (w.alloc (.cells (bvs T).toArray 43)).cell? ⟨w.heap.size, f + j, none⟩ = some (.int .u8 ((L[j]).toNat : Int)) := by
    intro j hj
    rw [kt.cell, List.getElem?_toArray, bvs_get (by omega)]
    simp only [← hL, List.getElem_take, List.getElem_drop]
    rfl
  rw [hL]
  replace hL := Lib.hid hL
  replace hLl := Lib.hid hLl
  replace hT := Lib.hid hT
  replace hcell := Lib.hid hcell
  go_enter Tryd.func26, Tryd.ntmps26
  have i1 : (0 : Int) ≤ (f : Int) := by omega
  have i2 : (f : Int) + (m : Int) ≤ 13 := by omega
  have i3 : (f : Int) ≤ (f : Int) + (m : Int) := by omega
  have i4 : ¬ f = 13 := by omega
  have i5 : ¬ 13 = f := by omega
  go_wp2
  generalize w.alloc (.cells (bvs T).toArray 43) = w1 at *
  clear kt i1 i2 i3 i4 i5
  go_loop [6, 15] (fun t i => ∃ k x : Nat, k ≤ m ∧ i = .int .i64 (k : Int) ∧ t = .int .u64 (x : Int) ∧ x < 256 ^ k ∧ Hid (num (L.take k) = x)) (fun _ i => m - (intOf i).toNat)
  case atStart => exact ⟨0, 0, by omega, rfl, rfl, by simp, Lib.hid rfl⟩
  case round =>
    obtain ⟨k, x, hk, rfl, rfl, hx, hxe⟩ := hrel
    by_cases hlt : k < m
    · have hck := hcell.out k (by rw [hLl.out]; exact hlt)
      have hyl := (L[k]'(by rw [hLl.out]; exact hlt)).toNat_lt
      have hnx : num (L.take (k + 1)) = 256 * x + (255 - (L[k]'(by rw [hLl.out]; exact hlt)).toNat) := by
        rw [List.take_succ_eq_append_getElem (by rw [hLl.out]; exact hlt), num_snoc, hxe.out]
      have hpow : 256 ^ k ≤ 256 ^ 7 := Nat.pow_le_pow_right (by omega) (by omega)
      have h256 : (256 : Nat) ^ 7 = 72057594037927936 := by decide
      have hxb : x < 72057594037927936 := by omega
      have hx1 : 256 * x + 255 < 256 ^ (k + 1) := by rw [Nat.pow_succ]; omega
      generalize (L[k]'(by rw [hLl.out]; exact hlt)).toNat = y at *
      have hy : y < 256 := by omega
      obtain ⟨z, hz⟩ : ∃ z, 255 - y = z := ⟨_, rfl⟩
      have hz255 : z ≤ 255 := by omega
      have hxo : bits .xor .u8 255 (y : Int) = (z : Int) := by
        have h := u8_xor_nat 255 y (by omega) hy
        rw [show (255 : Int) = ((255 : Nat) : Int) by rfl, h, xor255 ⟨y, hy⟩, hz]
      have hor : bits .or .u64 ((x : Int) * 256) (z : Int) = ((256 * x + z : Nat) : Int) := by
        have h := u64_or_nat (256 * x) z (by omega) (by omega)
        rw [show (x : Int) * 256 = ((256 * x : Nat) : Int) by omega, h, or_low x z (by omega)]
      have hall : bits .or .u64 ((x : Int) * 256) (IntKind.u64.wrap (bits .xor .u8 (if IntKind.u8.signed = true then -1 else IntKind.u8.max) (y : Int))) = ((256 * x + z : Nat) : Int) := by
        rw [show (if IntKind.u8.signed = true then (-1 : Int) else IntKind.u8.max) = 255 by rfl, hxo, IntKind.wrap_u64, show (z : Int) % 18446744073709551616 = (z : Int) by omega]
        exact hor
      rw [hz] at hnx
      replace hall := Lib.hid hall
      replace hnx := Lib.hid hnx
      replace hz := Lib.hid hz
      replace hx1 := Lib.hid hx1
      clear hpow h256 hx hyl hor hxo
      go_wp2
      go_round
      case rel => exact ⟨k + 1, 256 * x + z, by omega, by go_num, by rw [hall.out], by have := hx1.out; omega, Lib.hid hnx.out⟩
      case measure => simp [intOf]; omega
    · obtain rfl : k = m := by omega
      have hx' := hxe.out
      rw [List.take_of_length_le (by rw [hLl.out]; omega)] at hx'
      go_wp2
      go_ret
      exact ⟨rfl, bt⟩

set_option maxRecDepth 100000 in
set_option maxHeartbeats 1600000 in
theorem plain_any (w : World) (A : Option Addr) (n c : Nat) (l : List UInt8) (hn : l.length = n) (hnc : n ≤ c) (hl : n ≤ 1000000) (hb : Bs w A l) (e : Nat) (key rest : List UInt8) (hR : unA [] l = (e, key, rest)) :
    Calls Tryd.prog 24 #[.slice A n c] w fun e' w' => ∃ v m A' m' c', e' = .returned (.tuple #[v, .slice A' m' c', .int .i64 (e : Int)]) ∧ w'.ownsRow w.heap.size 5 1 v m (bvs key) ∧ (∀ W, Bs W A l → Bs W A' rest) ∧ rest.length = m' ∧ m' ≤ n ∧ m' ≤ c' ∧ m ≤ n ∧ Below w.heap.size w w' := by
  replace hn := Lib.hid hn
  replace hR := Lib.hid hR
  go_enter Tryd.func24, Tryd.ntmps24
  go_wp2
  go_loopw [2, 5] (fun v i wr => ∃ k m : Nat, ∃ acc : List UInt8, k ≤ n ∧ i = .int .i64 (k : Int) ∧ m ≤ k ∧ wr.ownsRow w.heap.size 5 1 v m (bvs acc) ∧ Below w.heap.size w wr ∧ Hid (unA acc (l.drop k) = (e, key, rest))) (fun _ i _ => n - (intOf i).toNat)
  case atStart => exact ⟨0, 0, [], by omega, rfl, by omega, by simpa [bvs] using World.ownsRow_nil w w.heap.size 5 1, Below.refl _ _, Lib.hid hR.out⟩
  case round =>
    obtain ⟨k, m, acc, hk, rfl, hm, hown, hbel, hacc⟩ := hrel
    by_cases hlt : k < n
    · obtain ⟨b, off, rfl, hq, hcell⟩ := (hb.below hbel).at_ (k := k) (by rw [hn.out]; exact hlt)
      have hck := hcell k (by rw [hn.out]; exact hlt)
      have hdrop := List.drop_eq_getElem_cons (l := l) (i := k) (by rw [hn.out]; exact hlt)
      have ha := hacc.out
      rw [hdrop] at ha
      obtain ⟨x, hx⟩ : ∃ x, l[k]'(by rw [hn.out]; exact hlt) = x := ⟨_, rfl⟩
      rw [hx] at hck ha hdrop
      replace hdrop := Lib.hid hdrop
      replace hx := Lib.hid hx
      by_cases hx0 : x = 0
      · subst hx0
        have hz0 : ((0 : UInt8).toNat : Int) = 0 := rfl
        rw [hz0] at hck
        clear hz0
        by_cases hend : k + 1 = n
        · have hke : ((k : Int) + 1 == (n : Int)) = true := by simp; omega
          have hd1 : l.drop (k + 1) = [] := List.drop_of_length_le (by rw [hn.out]; omega)
          rw [hd1] at ha
          have he : e = 5 ∧ key = [] ∧ rest = [] := by
            have := ha
            simp [unA] at this
            exact ⟨this.1.symm, this.2.1, this.2.2⟩
          obtain ⟨rfl, rfl, rfl⟩ := he
          replace hend := Lib.hid hend
          clear ha hd1 hcell
          go_wp2
          go_ret3
          exact ⟨_, 0, none, 0, 0, rfl, by simpa [bvs] using World.ownsRow_nil wr w.heap.size 5 1, (fun _ _ => Bs.nil_ _ _), rfl, by omega, by omega, by omega, hbel⟩
        · have hlt2 : k + 1 < n := by omega
          have hke : ((k : Int) + 1 == (n : Int)) = false := by simp; omega
          have hcd := hcell (k + 1) (by rw [hn.out]; exact hlt2)
          have hdrop2 := List.drop_eq_getElem_cons (l := l) (i := k + 1) (by rw [hn.out]; exact hlt2)
          rw [hdrop2] at ha
          obtain ⟨d, hd⟩ : ∃ d, l[k + 1]'(by rw [hn.out]; exact hlt2) = d := ⟨_, rfl⟩
          rw [hd] at hcd ha
          have k1 : (k : Int) + 1 < (n : Int) := by omega
          clear hcell
          replace hdrop2 := Lib.hid hdrop2
          replace hd := Lib.hid hd
          by_cases hd0 : d = 0
          · subst hd0
            rw [show ((0 : UInt8).toNat : Int) = 0 from rfl] at hcd
            rw [unA_end] at ha
            injection ha with ha1 ha2
            injection ha2 with ha2 ha3
            have he0 : e = 0 := ha1.symm
            subst he0
            subst ha2
            have hres : ∀ W, Bs W (some ⟨b, off, none⟩) l → Bs W (if c = k + 2 then some ⟨b, off, none⟩ else some ⟨b, off + (k + 2), none⟩) rest := fun W hW => by
              rw [← ha3]
              by_cases hck2 : c = k + 2
              · rw [List.drop_of_length_le (by rw [hn.out]; omega)]
                exact Bs.nil_ _ _
              · rw [if_neg hck2]
                exact bs_drop hW hn.out (show k + 2 ≤ n by omega)
            have hrl : rest.length = n - (k + 2) := by rw [← ha3, List.length_drop, hn.out]
            replace ha3 := Lib.hid ha3
            replace hrl := Lib.hid hrl
            replace hres := Lib.hid hres
            have k2 : (k : Int) + 2 ≤ (n : Int) := by omega
            have k3 : (0 : Int) ≤ (k : Int) + 2 := by omega
            have k4 : (n : Int) ≤ (c : Int) := by omega
            have k5 : IntKind.i64.wrap ((k : Int) + 2) = (k : Int) + 2 := by rw [IntKind.wrap_i64]; omega
            go_wp2_with fail
            go_quiet (fail)
            have hr2 := hres.out
            by_cases hck2 : c = k + 2
            · rw [if_pos hck2] at hr2 ⊢
              go_wp2
              go_ret3
              exact ⟨_, m, _, _, _, rfl, hown, hr2, hrl.out, by omega, by omega, by omega, below_drewN hbel _⟩
            · rw [if_neg hck2] at hr2 ⊢
              go_wp2
              go_ret3
              exact ⟨_, m, _, _, _, rfl, hown, hr2, hrl.out, by omega, by omega, by omega, below_drewN hbel _⟩
          · have hdn : d.toNat ≠ 0 := fun h => hd0 (UInt8.toNat_inj.1 h)
            have e1 : ((d.toNat : Int) == 0) = false := by simp; omega
            by_cases hd1 : d = 1
            · subst hd1
              rw [show ((1 : UInt8).toNat : Int) = 1 from rfl] at hcd
              rw [unA_one] at ha
              have hac : bvs acc ++ [Value.int .u8 0] = bvs (acc ++ [0]) := by simp [bvs, bv]
              replace hac := Lib.hid hac
              replace ha := Lib.hid ha
              clear e1 hdn hd0
              go_wp2_with (at_builtin; refine wpList_app _ rfl (.tmp 46) (.tmp 48) rfl Tryd.underlying28 info_u8 rfl (by omega) (hown.alloc (.cells #[.int .u8 0] 5)) rfl _ 1 1 (Rd.one wr 5 (.int .u8 0)) rfl (oneCell_one rfl) (by unfold maxLen; omega) (by omega) (by have := hbel.size; simp; omega) ?_; intro v2 w2 hown2 hgrow2 hlie2; have b2 : Below w.heap.size w w2 := below_app (hbel.alloc hbel.size _) (hown.alloc _) (Nat.le_refl _) (by have := hbel.size; simp; omega) hgrow2)
              rw [hac.out] at hown2
              go_roundw
              case rel => exact ⟨k + 2, m + 1, acc ++ [0], by omega, by go_num, by omega, hown2, b2, Lib.hid ha.out⟩
              case measure => simp [intOf]; omega
            · have hdn1 : d.toNat ≠ 1 := fun h => hd1 (UInt8.toNat_inj.1 h)
              rw [unA_bad _ _ _ hd0 hd1] at ha
              injection ha with ha1 ha2
              injection ha2 with ha2 ha3
              subst ha1
              subst ha2
              subst ha3
              have e2 : decide ((1 : Int) < (d.toNat : Int)) = true := decide_eq_true (by omega)
              go_wp2
              go_ret3
              exact ⟨_, 0, none, 0, 0, rfl, by simpa [bvs] using World.ownsRow_nil wr w.heap.size 5 1, (fun _ _ => Bs.nil_ _ _), rfl, by omega, by omega, by omega, hbel⟩
      · have hxn : x.toNat ≠ 0 := fun h => hx0 (UInt8.toNat_inj.1 h)
        have e1 : ((x.toNat : Int) == 0) = false := by simp; omega
        rw [unA_ne _ _ _ hx0] at ha
        have hac : bvs acc ++ [Value.int .u8 (x.toNat : Int)] = bvs (acc ++ [x]) := by simp [bvs, bv]
        replace hac := Lib.hid hac
        replace ha := Lib.hid ha
        clear hcell
        go_wp2_with (at_builtin; refine wpList_app _ rfl (.tmp 46) (.tmp 48) rfl Tryd.underlying28 info_u8 rfl (by omega) (hown.alloc (.cells #[.int .u8 (x.toNat : Int)] 5)) rfl _ 1 1 (Rd.one wr 5 (.int .u8 (x.toNat : Int))) rfl (oneCell_one rfl) (by unfold maxLen; omega) (by omega) (by have := hbel.size; simp; omega) ?_; intro v2 w2 hown2 hgrow2 hlie2; have b2 : Below w.heap.size w w2 := below_app (hbel.alloc hbel.size _) (hown.alloc _) (Nat.le_refl _) (by have := hbel.size; simp; omega) hgrow2)
        rw [hac.out] at hown2
        go_roundw
        case rel => exact ⟨k + 1, m + 1, acc ++ [x], by omega, by go_num, by omega, hown2, b2, Lib.hid ha.out⟩
        case measure => simp [intOf]; omega
    · have hkn : k = n := by omega
      have ha := hacc.out
      rw [List.drop_of_length_le (by rw [hn.out]; omega)] at ha
      unfold unA at ha
      injection ha with ha1 ha2
      injection ha2 with ha2 ha3
      subst ha1
      subst ha2
      subst ha3
      replace hkn := Lib.hid hkn
      go_wp2
      go_ret3
      exact ⟨_, 0, none, 0, 0, rfl, by simpa [bvs] using World.ownsRow_nil wr w.heap.size 5 1, (fun _ _ => Bs.nil_ _ _), rfl, by omega, by omega, by omega, hbel⟩
end Go.Proofs.YtelppijpmjoblaaDoor
