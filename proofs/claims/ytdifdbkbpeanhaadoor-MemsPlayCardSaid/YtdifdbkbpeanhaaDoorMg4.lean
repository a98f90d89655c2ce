/- Walks of keys.Cmp, of the document's Before and Cmp. Of any three facts no order goes round: the plain law. Walks of keys.plain, fallen, of the document's number. -/
import Derived.Test.YtdifdbkbpeanhaaDoorMg3
import Derived.Test.YtdifdbkbpeanhaaDoorStill
import Derived.Test.YtdifdbkbpeanhaaDoorMg1
import Derived.Test.YtdifdbkbpeanhaaDoorKeyPut2
set_option linter.unusedSimpArgs false
set_option linter.unusedVariables false
namespace Herb
open Go Go.RowKit
/-- In which order two facts stand. -/
def cmpF (k k' : ByteArray) (va va' se se' ki ki' : Int) : Int := orL [cmpS k k', cmpI va' va, cmpI se' se, cmpI ki ki']
/-- Does a fact stand ahead? -/
def befB (k k' : ByteArray) (va va' se se' ki ki' : Int) : Bool := if (!k.toList == k'.toList) = true then Op.bytesLess k.toList k'.toList else if (va != va') = true then decide (va' < va) else if (se != se') = true then decide (se' < se) else decide (ki < ki')
theorem cmpI_lt {a b : Int} (h : a < b) : cmpI a b = -1 := by unfold cmpI; rw [if_pos h]
theorem cmpI_gt {a b : Int} (h : b < a) : cmpI a b = 1 := by unfold cmpI; rw [if_neg (by omega), if_pos h]
theorem cmpI_eq (a : Int) : cmpI a a = 0 := by unfold cmpI; rw [if_neg (by omega), if_neg (by omega)]
theorem cmpS_lt {a b : ByteArray} (h : less a.toList b.toList = true) : cmpS a b = -1 := by unfold cmpS; rw [if_pos h]
theorem cmpS_eq (a : ByteArray) : cmpS a a = 0 := by
  unfold cmpS
  rw [show Op.bytesLess a.toList a.toList = false from less_irrefl _, if_neg (by simp), if_pos (by simp)]
theorem cmpS_gt {a b : ByteArray} (h : less b.toList a.toList = true) : cmpS a b = 1 := by
  unfold cmpS
  rw [if_neg (by have := less_asymm h; unfold less at this; rw [this]; simp), if_neg]
  intro e
  have e' : a.toList = b.toList := by simpa using e
  rw [e', less_irrefl] at h
  cases h
theorem toList_inj {a b : ByteArray} (h : a.toList = b.toList) : a = b := by
  rw [ba_toList, ba_toList] at h
  exact ba_ext h
theorem str_tri (k k' : ByteArray) : less k.toList k'.toList = true ∨ k = k' ∨ less k'.toList k.toList = true := by
  rcases h : less k.toList k'.toList with _ | _
  · rcases h' : less k'.toList k.toList with _ | _
    · exact .inr (.inl (toList_inj (less_total h h')))
    · exact .inr (.inr rfl)
  · exact .inl rfl
theorem ne_of_less {k k' : ByteArray} (h : less k.toList k'.toList = true) : (!k.toList == k'.toList) = true := by
  have : k.toList ≠ k'.toList := fun e => by rw [e, less_irrefl] at h; cases h
  simpa using this
theorem ne_of_less' {k k' : ByteArray} (h : less k'.toList k.toList = true) : (!k.toList == k'.toList) = true := by
  have : k.toList ≠ k'.toList := fun e => by rw [e, less_irrefl] at h; cases h
  simpa using this
theorem orL_ne {x : Int} (h : x ≠ 0) (xs : List Int) : orL (x :: xs) = x := by unfold orL; rw [if_neg h]
theorem orL_0 (xs : List Int) : orL (0 :: xs) = orL xs := rfl
theorem cmpF_bef (k k' : ByteArray) (va va' se se' ki ki' : Int) : cmpF k k' va va' se se' ki ki' = if befB k k' va va' se se' ki ki' = true then -1 else if befB k' k va' va se' se ki' ki = true then 1 else 0 := by
  unfold cmpF befB
  rcases str_tri k k' with h | rfl | h
  · rw [cmpS_lt h, orL_ne (by omega), if_pos (ne_of_less h)]
    rw [if_pos h]
  · rw [cmpS_eq, orL_0]
    simp only [beq_self_eq_true, Bool.not_true, Bool.false_eq_true, if_false]
    rcases Int.lt_trichotomy va va' with h | rfl | h
    · rw [cmpI_gt h, orL_ne (by omega)]
      have e1 : (va != va') = true := by simp; omega
      have e2 : (va' != va) = true := by simp; omega
      rw [if_pos e1, if_pos e2, if_neg (by simp; omega), if_pos (by simp; omega)]
    · rw [cmpI_eq, orL_0]
      simp only [bne_self_eq_false, Bool.false_eq_true, if_false]
      rcases Int.lt_trichotomy se se' with h | rfl | h
      · rw [cmpI_gt h, orL_ne (by omega)]
        have e1 : (se != se') = true := by simp; omega
        have e2 : (se' != se) = true := by simp; omega
        rw [if_pos e1, if_pos e2, if_neg (by simp; omega), if_pos (by simp; omega)]
      · rw [cmpI_eq, orL_0]
        simp only [bne_self_eq_false, Bool.false_eq_true, if_false]
        rcases Int.lt_trichotomy ki ki' with h | rfl | h
        · rw [cmpI_lt h, orL_ne (by omega), if_pos (by simpa using h)]
        · rw [cmpI_eq, orL_0, if_neg (by simp), if_neg (by simp)]; rfl
        · rw [cmpI_gt h, orL_ne (by omega), if_neg (by simp; omega), if_pos (by simpa using h)]
      · rw [cmpI_lt h, orL_ne (by omega)]
        have e1 : (se != se') = true := by simp; omega
        rw [if_pos e1, if_pos (by simpa using h)]
    · rw [cmpI_lt h, orL_ne (by omega)]
      have e1 : (va != va') = true := by simp; omega
      rw [if_pos e1, if_pos (by simpa using h)]
  · rw [cmpS_gt h, orL_ne (by omega), if_pos (ne_of_less' h), if_pos (ne_of_less h)]
    have h2 : Op.bytesLess k.toList k'.toList = false := less_asymm h
    rw [h2, if_neg (by simp), if_pos h]
end Herb
namespace Go.Proofs.YtdifdbkbpeanhaaDoor
open Go Go.RowKit Herb

set_option maxRecDepth 100000 in
set_option maxHeartbeats 800000 in
theorem before_any (w : World) (k k' v v' : ByteArray) (va va' se se' li li' ki ki' : Int) :
    Calls Tryd.prog 44 #[.agg #[.string k, .int .u32 va, .int .u64 se, .int .u64 li, .int .u8 ki, .string v], .agg #[.string k', .int .u32 va', .int .u64 se', .int .u64 li', .int .u8 ki', .string v']] w
      fun e w' => e = .returned (.bool (befB k k' va va' se se' ki ki')) ∧ Below w.heap.size w w' := by
  go_enter Tryd.func44, Tryd.ntmps44
  have hb : Below w.heap.size w ((w.alloc (.cells #[.string k, .int .u32 va, .int .u64 se, .int .u64 li, .int .u8 ki, .string v] 27)).alloc (.cells #[.string k', .int .u32 va', .int .u64 se', .int .u64 li', .int .u8 ki', .string v'] 27)) := ((Below.refl _ _).alloc (Nat.le_refl _) _).alloc (by simp) _
  go_wp2
  · have h1 : (!k.toList == k'.toList) = true := by assumption
    go_ret
    exact ⟨by unfold befB; rw [if_pos h1]; rfl, hb⟩
  · have h1 : (!k.toList == k'.toList) = false := by assumption
    have h2 : (va != va') = true := by assumption
    go_ret
    exact ⟨by unfold befB; rw [if_neg (by rw [h1]; simp), if_pos h2]; rfl, hb⟩
  · have h1 : (!k.toList == k'.toList) = false := by assumption
    have h2 : (va != va') = false := by assumption
    have h3 : (se != se') = true := by assumption
    go_ret
    exact ⟨by unfold befB; rw [if_neg (by rw [h1]; simp), if_neg (by rw [h2]; simp), if_pos h3]; rfl, hb⟩
  · have h1 : (!k.toList == k'.toList) = false := by assumption
    have h2 : (va != va') = false := by assumption
    have h3 : (se != se') = false := by assumption
    go_ret
    exact ⟨by unfold befB; rw [if_neg (by rw [h1]; simp), if_neg (by rw [h2]; simp), if_neg (by rw [h3]; simp)]; rfl, hb⟩

set_option maxRecDepth 100000 in
set_option maxHeartbeats 800000 in
theorem refCmp_any (w : World) (k k' v v' : ByteArray) (va va' se se' li li' ki ki' : Int) :
    Calls Tryd.prog 26 #[.agg #[.string k, .int .u32 va, .int .u64 se, .int .u64 li, .int .u8 ki, .string v], .agg #[.string k', .int .u32 va', .int .u64 se', .int .u64 li', .int .u8 ki', .string v']] w
      fun e w' => e = .returned (.int .i64 (cmpF k k' va va' se se' ki ki')) ∧ Below w.heap.size w w' := by
  have hR := cmpF_bef k k' va va' se se' ki ki'
  obtain ⟨R, hRe⟩ : ∃ R, cmpF k k' va va' se se' ki ki' = R := ⟨_, rfl⟩
  rw [hRe] at hR ⊢
  clear hRe
  replace hR := Lib.hid hR
  go_enter Tryd.func26, Tryd.ntmps26
  have hb : Below w.heap.size w ((w.alloc (.cells #[.string k, .int .u32 va, .int .u64 se, .int .u64 li, .int .u8 ki, .string v] 27)).alloc (.cells #[.string k', .int .u32 va', .int .u64 se', .int .u64 li', .int .u8 ki', .string v'] 27)) := ((Below.refl _ _).alloc (Nat.le_refl _) _).alloc (by simp) _
  have k1 : Blk ((w.alloc (.cells #[.string k, .int .u32 va, .int .u64 se, .int .u64 li, .int .u8 ki, .string v] 27)).alloc (.cells #[.string k', .int .u32 va', .int .u64 se', .int .u64 li', .int .u8 ki', .string v'] 27)) w.heap.size 27 #[.string k, .int .u32 va, .int .u64 se, .int .u64 li, .int .u8 ki, .string v] := (Blk.new w _ _).alloc _
  have k2 : Blk ((w.alloc (.cells #[.string k, .int .u32 va, .int .u64 se, .int .u64 li, .int .u8 ki, .string v] 27)).alloc (.cells #[.string k', .int .u32 va', .int .u64 se', .int .u64 li', .int .u8 ki', .string v'] 27)) (w.heap.size + 1) 27 #[.string k', .int .u32 va', .int .u64 se', .int .u64 li', .int .u8 ki', .string v'] := by
    have := Blk.new (w.alloc (.cells #[.string k, .int .u32 va, .int .u64 se, .int .u64 li, .int .u8 ki, .string v] 27)) 27 #[.string k', .int .u32 va', .int .u64 se', .int .u64 li', .int .u8 ki', .string v']
    rwa [World.size_alloc] at this
  go_wp2_with fail
  refine (before_any _ k k' v v' va va' se se' li li' ki ki').mono ?_
  rintro _ w1 ⟨rfl, b1⟩
  have c1 := (k1.below b1 k1.lt).cell
  have c2 := (k2.below b1 k2.lt).cell
  replace b1 := hb.trans (b1.mono hb.size)
  clear hb k1 k2
  rcases h1 : befB k k' va va' se se' ki ki' with _ | _
  · replace h1 := Lib.hid h1
    go_wp2_with fail
    refine (before_any _ k' k v' v va' va se' se li' li ki' ki).mono ?_
    rintro _ w2 ⟨rfl, b2⟩
    replace b2 := b1.trans (b2.mono b1.size)
    clear c1 c2
    rcases h2 : befB k' k va' va se' se ki' ki with _ | _
    · have hR0 : R = 0 := by rw [hR.out, h1.out, h2]; rfl
      subst hR0
      go_wp2
      go_ret
      exact ⟨rfl, b2⟩
    · have hR1 : R = 1 := by rw [hR.out, h1.out, h2]; rfl
      subst hR1
      go_wp2
      go_ret
      exact ⟨rfl, b2⟩
  · have hR1 : R = -1 := by rw [hR.out, h1]; rfl
    subst hR1
    replace h1 := Lib.hid h1
    go_wp2
    go_ret
    exact ⟨rfl, b1⟩
end Go.Proofs.YtdifdbkbpeanhaaDoor
set_option linter.unusedSimpArgs false
set_option linter.unusedVariables false
namespace Herb
open Go Go.RowKit
/-- Three comparisons that do not go round. -/
def R3 (x y z : Int) : Prop := ((-1 ≤ x ∧ x ≤ 1) ∧ (-1 ≤ y ∧ y ≤ 1) ∧ (-1 ≤ z ∧ z ≤ 1)) ∧ (x ≤ 0 → y ≤ 0 → z = min x y) ∧ (0 ≤ x → 0 ≤ y → z = max x y)
def orI (x y : Int) : Int := if x = 0 then y else x
theorem R3_or {x y z x' y' z' : Int} (h : R3 x y z) (h' : R3 x' y' z') : R3 (orI x x') (orI y y') (orI z z') := by
  unfold R3 orI at *
  split <;> split <;> split <;> omega
theorem R3_zero : R3 0 0 0 := by unfold R3; omega
theorem orL_cons (x : Int) (xs : List Int) : orL (x :: xs) = orI x (orL xs) := by
  unfold orI
  split
  · rename_i h; rw [h, orL_0]
  · rename_i h; rw [orL_ne h]
theorem cmpI_R3 (a b c : Int) : R3 (cmpI a b) (cmpI b c) (cmpI a c) := by
  unfold R3 cmpI
  repeat' split
  all_goals omega
theorem cmpS_R3 (a b c : ByteArray) : R3 (cmpS a b) (cmpS b c) (cmpS a c) := by
  unfold R3
  rcases str_tri a b with h1 | rfl | h1
  · rcases str_tri b c with h2 | rfl | h2
    · rw [cmpS_lt h1, cmpS_lt h2, cmpS_lt (less_trans h1 h2)]; omega
    · rw [cmpS_lt h1, cmpS_eq]; omega
    · rw [cmpS_lt h1, cmpS_gt h2]
      rcases str_tri a c with h3 | rfl | h3
      · rw [cmpS_lt h3]; omega
      · rw [cmpS_eq]; omega
      · rw [cmpS_gt h3]; omega
  · rw [cmpS_eq]
    rcases str_tri a c with h3 | rfl | h3
    · rw [cmpS_lt h3]; omega
    · rw [cmpS_eq]; omega
    · rw [cmpS_gt h3]; omega
  · rcases str_tri b c with h2 | rfl | h2
    · rw [cmpS_gt h1, cmpS_lt h2]
      rcases str_tri a c with h3 | rfl | h3
      · rw [cmpS_lt h3]; omega
      · rw [cmpS_eq]; omega
      · rw [cmpS_gt h3]; omega
    · rw [cmpS_gt h1, cmpS_eq]; omega
    · rw [cmpS_gt h1, cmpS_gt h2, cmpS_gt (less_trans h2 h1)]; omega
theorem R3_flip {x y z : Int} (h : R3 x y z) : R3 y x z := by unfold R3 at *; omega
theorem cmpF_R3 (k k' k'' : ByteArray) (va va' va'' se se' se'' ki ki' ki'' : Int) :
    R3 (cmpF k k' va va' se se' ki ki') (cmpF k' k'' va' va'' se' se'' ki' ki'') (cmpF k k'' va va'' se se'' ki ki'') := by
  unfold cmpF
  simp only [orL_cons]
  exact R3_or (cmpS_R3 _ _ _) (R3_or (R3_flip (cmpI_R3 _ _ _)) (R3_or (R3_flip (cmpI_R3 _ _ _)) (R3_or (cmpI_R3 _ _ _) R3_zero)))
theorem cmpF_self (k : ByteArray) (va se ki : Int) : cmpF k k va va se se ki ki = 0 := by
  unfold cmpF
  rw [cmpS_eq, cmpI_eq, cmpI_eq, cmpI_eq]
  rfl
end Herb
set_option linter.unusedSimpArgs false
set_option linter.unusedVariables false
namespace Herb
open Go Go.RowKit
theorem bs_drop {w : World} {b off n k : Nat} {l : List UInt8} (h : Bs w (some ⟨b, off, none⟩) l) (hn : l.length = n) (hk : k ≤ n) : Bs w (some ⟨b, off + k, none⟩) (l.drop k) := by
  have h1 := Bs.cut (k := k) (m := n - k) h (by omega)
  rwa [List.take_of_length_le (by rw [List.length_drop, hn]; omega)] at h1
theorem or_low (x z : Nat) (hz : z < 256) : 256 * x ||| z = 256 * x + z := by
  have := Nat.two_pow_add_eq_or_of_lt (i := 8) (b := z) (by omega) x
  rw [show (2 : Nat) ^ 8 = 256 by rfl] at this
  exact this.symm
end Herb
namespace Go.Proofs.YtdifdbkbpeanhaaDoor
open Go Go.RowKit Herb

end Go.Proofs.YtdifdbkbpeanhaaDoor
