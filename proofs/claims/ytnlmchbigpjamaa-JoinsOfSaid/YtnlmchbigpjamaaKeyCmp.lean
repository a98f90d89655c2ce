/- Walks of keys.Cmp, of the document's Before and Cmp. -/
import Derived.Test.YtnlmchbigpjamaaCmp
import Derived.Test.YtnlmchbigpjamaaStill
import Derived.Test.YtnlmchbigpjamaaLess
set_option linter.unusedSimpArgs false
set_option linter.unusedVariables false
namespace Herb
open Go Go.RowKit
/-- In which order two facts stand. -/
def cmpF (k k' : ByteArray) (va va' se se' ki ki' : Int) : Int := orL [cmpS k k', cmpI va' va, cmpI se' se, cmpI ki ki']
/-- Does a fact stand ahead? -/
def befB (k k' : ByteArray) (va va' se se' ki ki' : Int) : Bool := if (!k.toList == k'.toList) = true then Op.bytesLess k.toList k'.toList else if (va != va') = true then decide (va' < va) else if (se != se') = true then decide (se' < se) else decide (ki < ki')
theorem cmpI_lt {a b : Int} (h : a < b) : cmpI a b = -1 := by unfold cmpI; rw [if_pos h]
theorem cmpI_gt {a b : Int} (h : b < a) : cmpI a b = 1 := by unfold cmpI; rw [if_neg (by omega), if_pos h]
theorem cmpI_eq (a : Int) : cmpI a a = 0 := by unfold cmpI; rw [if_neg (by omega), if_neg (by omega)]
theorem cmpS_lt {a b : ByteArray} (h : less a.toList b.toList = true) : cmpS a b = -1 := by unfold cmpS; rw [if_pos h]
theorem cmpS_eq (a : ByteArray) : cmpS a a = 0 := by
  unfold cmpS
  rw [show Op.bytesLess a.toList a.toList = false from less_irrefl _, if_neg (by simp), if_pos (by simp)]
theorem cmpS_gt {a b : ByteArray} (h : less b.toList a.toList = true) : cmpS a b = 1 := by
  unfold cmpS
  rw [if_neg (by have := less_asymm h; unfold less at this; rw [this]; simp), if_neg]
  intro e
  have e' : a.toList = b.toList := by simpa using e
  rw [e', less_irrefl] at h
  cases h
theorem toList_inj {a b : ByteArray} (h : a.toList = b.toList) : a = b := by
  rw [ba_toList, ba_toList] at h
  exact ba_ext h
theorem str_tri (k k' : ByteArray) : less k.toList k'.toList = true ∨ k = k' ∨ less k'.toList k.toList = true := by
  rcases h : less k.toList k'.toList with _ | _
  · rcases h' : less k'.toList k.toList with _ | _
    · exact .inr (.inl (toList_inj (less_total h h')))
    · exact .inr (.inr rfl)
  · exact .inl rfl
theorem ne_of_less {k k' : ByteArray} (h : less k.toList k'.toList = true) : (!k.toList == k'.toList) = true := by
  have : k.toList ≠ k'.toList := fun e => by rw [e, less_irrefl] at h; cases h
  simpa using this
theorem ne_of_less' {k k' : ByteArray} (h : less k'.toList k.toList = true) : (!k.toList == k'.toList) = true := by
  have : k.toList ≠ k'.toList := fun e => by rw [e, less_irrefl] at h; cases h
  simpa using this
theorem orL_ne {x : Int} (h : x ≠ 0) (xs : List Int) : orL (x :: xs) = x := by unfold orL; rw [if_neg h]
theorem orL_0 (xs : List Int) : orL (0 :: xs) = orL xs := rfl
theorem cmpF_bef (k k' : ByteArray) (va va' se se' ki ki' : Int) : cmpF k k' va va' se se' ki ki' = if befB k k' va va' se se' ki ki' = true then -1 else if befB k' k va' va se' se ki' ki = true then 1 else 0 := by
  unfold cmpF befB
  rcases str_tri k k' with h | rfl | h
  · rw [cmpS_lt h, orL_ne (by omega), if_pos (ne_of_less h)]
    rw [if_pos h]
  · rw [cmpS_eq, orL_0]
    simp only [beq_self_eq_true, Bool.not_true, Bool.false_eq_true, if_false]
    rcases Int.lt_trichotomy va va' with h | rfl | h
    · rw [cmpI_gt h, orL_ne (by omega)]
      have e1 : (va != va') = true := by simp; omega
      have e2 : (va' != va) = true := by simp; omega
      rw [if_pos e1, if_pos e2, if_neg (by simp; omega), if_pos (by simp; omega)]
    · rw [cmpI_eq, orL_0]
      simp only [bne_self_eq_false, Bool.false_eq_true, if_false]
      rcases Int.lt_trichotomy se se' with h | rfl | h
      · rw [cmpI_gt h, orL_ne (by omega)]
        have e1 : (se != se') = true := by simp; omega
        have e2 : (se' != se) = true := by simp; omega
        rw [if_pos e1, if_pos e2, if_neg (by simp; omega), if_pos (by simp; omega)]
      · rw [cmpI_eq, orL_0]
        simp only [bne_self_eq_false, Bool.false_eq_true, if_false]
        rcases Int.lt_trichotomy ki ki' with h | rfl | h
        · rw [cmpI_lt h, orL_ne (by omega), if_pos (by simpa using h)]
        · rw [cmpI_eq, orL_0, if_neg (by simp), if_neg (by simp)]; rfl
        · rw [cmpI_gt h, orL_ne (by omega), if_neg (by simp; omega), if_pos (by simpa using h)]
      · rw [cmpI_lt h, orL_ne (by omega)]
        have e1 : (se != se') = true := by simp; omega
        rw [if_pos e1, if_pos (by simpa using h)]
    · rw [cmpI_lt h, orL_ne (by omega)]
      have e1 : (va != va') = true := by simp; omega
      rw [if_pos e1, if_pos (by simpa using h)]
  · rw [cmpS_gt h, orL_ne (by omega), if_pos (ne_of_less' h), if_pos (ne_of_less h)]
    have h2 : Op.bytesLess k.toList k'.toList = false := less_asymm h
    rw [h2, if_neg (by simp), if_pos h]
end Herb
namespace Go.Proofs.Ytnlmchbigpjamaa
open Go Go.RowKit Herb

set_option maxRecDepth 100000 in
set_option maxHeartbeats 800000 in
theorem cmp_any (w : World) (k k' v v' : ByteArray) (va va' se se' li li' ki ki' : Int) :
    Calls Try.prog 17 #[.agg #[.string k, .int .u32 va, .int .u64 se, .int .u64 li, .int .u8 ki, .string v], .agg #[.string k', .int .u32 va', .int .u64 se', .int .u64 li', .int .u8 ki', .string v']] w
      fun e w' => e = .returned (.int .i64 (cmpF k k' va va' se se' ki ki')) ∧ Below w.heap.size w w' := by
  go_enter Try.func17, Try.ntmps17
  go_wp2_with fail
  refine still_tail 20 (by kernel_rfl) (by kernel_rfl) ?_
  simp only [List.take_succ_cons, List.take_zero, List.drop_succ_cons, List.drop_zero]
  iterate 4 still_step
  still_call (still_of (compare_str _ _ _))
  iterate 4 still_step
  still_call (still_of (fall_u32 _ _ _))
  iterate 4 still_step
  still_call (still_of (fall_u64 _ _ _))
  iterate 4 still_step
  still_call (still_of (compare_kind _ _ _))
  refine wpStill_nil ?_
  have b2 : Below w.heap.size w (((w.alloc (.cells #[.string k, .int .u32 va, .int .u64 se, .int .u64 li, .int .u8 ki, .string v] 44)).alloc (.cells #[.string k', .int .u32 va', .int .u64 se', .int .u64 li', .int .u8 ki', .string v'] 44)).drew) := (((Below.refl _ _).alloc (Nat.le_refl _) _).alloc (by simp) _).drew
  generalize ((w.alloc (.cells #[.string k, .int .u32 va, .int .u64 se, .int .u64 li, .int .u8 ki, .string v] 44)).alloc (.cells #[.string k', .int .u32 va', .int .u64 se', .int .u64 li', .int .u8 ki', .string v'] 44)).drew = W at *
  have hr : Rd (W.alloc (.cells #[.int .i64 (cmpS k k'), .int .i64 (cmpI va' va), .int .i64 (cmpI se' se), .int .i64 (cmpI ki ki')] 3)) 1 (some ⟨W.heap.size, 0, none⟩) 4 (ivs [cmpS k k', cmpI va' va, cmpI se' se, cmpI ki ki']) := (Blk.new W 3 _).rd rfl (fun j u hu => by simpa [ivs] using hu)
  have po := or_any _ _ 4 4 [cmpS k k', cmpI va' va, cmpI se' se, cmpI ki ki'] rfl (by omega) hr
  have e : orL [cmpS k k', cmpI va' va, cmpI se' se, cmpI ki ki'] = cmpF k k' va va' se se' ki ki' := rfl
  rw [e] at po
  clear hr e
  go_wp2_with fail
  refine po.mono ?_
  clear po
  rintro _ _ ⟨rfl, rfl⟩
  go_wp2
  go_ret
  exact ⟨rfl, b2.alloc b2.size _⟩

set_option maxRecDepth 100000 in
set_option maxHeartbeats 800000 in
theorem before_any (w : World) (k k' v v' : ByteArray) (va va' se se' li li' ki ki' : Int) :
    Calls Try.prog 25 #[.agg #[.string k, .int .u32 va, .int .u64 se, .int .u64 li, .int .u8 ki, .string v], .agg #[.string k', .int .u32 va', .int .u64 se', .int .u64 li', .int .u8 ki', .string v']] w
      fun e w' => e = .returned (.bool (befB k k' va va' se se' ki ki')) ∧ Below w.heap.size w w' := by
  go_enter Try.func25, Try.ntmps25
  have hb : Below w.heap.size w ((w.alloc (.cells #[.string k, .int .u32 va, .int .u64 se, .int .u64 li, .int .u8 ki, .string v] 44)).alloc (.cells #[.string k', .int .u32 va', .int .u64 se', .int .u64 li', .int .u8 ki', .string v'] 44)) := ((Below.refl _ _).alloc (Nat.le_refl _) _).alloc (by simp) _
  go_wp2
  · have h1 : (!k.toList == k'.toList) = true := by assumption
    go_ret
    exact ⟨by unfold befB; rw [if_pos h1]; rfl, hb⟩
  · have h1 : (!k.toList == k'.toList) = false := by assumption
    have h2 : (va != va') = true := by assumption
    go_ret
    exact ⟨by unfold befB; rw [if_neg (by rw [h1]; simp), if_pos h2]; rfl, hb⟩
  · have h1 : (!k.toList == k'.toList) = false := by assumption
    have h2 : (va != va') = false := by assumption
    have h3 : (se != se') = true := by assumption
    go_ret
    exact ⟨by unfold befB; rw [if_neg (by rw [h1]; simp), if_neg (by rw [h2]; simp), if_pos h3]; rfl, hb⟩
  · have h1 : (!k.toList == k'.toList) = false := by assumption
    have h2 : (va != va') = false := by assumption
    have h3 : (se != se') = false := by assumption
    go_ret
    exact ⟨by unfold befB; rw [if_neg (by rw [h1]; simp), if_neg (by rw [h2]; simp), if_neg (by rw [h3]; simp)]; rfl, hb⟩

end Go.Proofs.Ytnlmchbigpjamaa
