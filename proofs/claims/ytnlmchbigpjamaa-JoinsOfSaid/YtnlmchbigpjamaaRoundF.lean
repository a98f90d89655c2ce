/- Regions in a round of a range over a function, at any fence: what holds of a region that draws its order holds in a round, where no defer statement stands in it. No function of the program is named. -/
import Derived.Test.YtnlmchbigpjamaaBase
import Derived.OrdersIn
import Derived.TacticsIn
import Derived.KernelRfl
set_option linter.unusedSimpArgs false
set_option linter.unusedVariables false
namespace Herb
open Go Go.RowKit
variable {P : Program} {l n : Nat}

def isDefer2 (o : Oper) : Bool := match o.op with
  | .defer _ => true
  | _ => false
theorem isDefer2_no {o : Oper} (h : isDefer2 o = false) (c : Call) : o.op ≠ .defer c := fun e => by
  unfold isDefer2 at h
  rw [e] at h
  cases h
theorem oper_inRound {F : Fence} (hro : F.round = none) {o : Oper} {a : Act} {w : World} {K : Act → World → Prop} {Q : Exit → Act → World → Prop} (hnd : isDefer2 o = false) (h : o.wpIn F n P a w K Q) : o.wpIn (F.inRound l) n P a w K Q := by
  refine ⟨h.1, ?_⟩
  have h2 := h.2
  rw [Oper.semAt_eq _ _ _ (isDefer2_no hnd)] at h2 ⊢
  exact h2
theorem wpAnyIn_round {F : Fence} (hro : F.round = none) {md : Region.Mode} {ops : Array Oper} {Q : Exit → Act → World → Prop} (hnd : ops.all (fun o => !isDefer2 o) = true) :
    ∀ (fuel : Nat) (listed : Array Bool) (a : Act) (w : World), wpAnyIn F n P md ops Q fuel listed a w → wpAnyIn (F.inRound l) n P md ops Q fuel listed a w
  | 0, _, _, _, h => h
  | fuel + 1, listed, a, w, h => by
    refine ⟨h.1, fun i hi => ?_⟩
    have h1 := wpOpIn_mono (fun a w => wpAnyIn_round hro hnd fuel (listed.setIfInBounds i true) a w) (h.2 i hi)
    unfold wpOpIn at h1 ⊢
    cases ho : ops[i]? with
    | none =>
      simp only [ho] at h1 ⊢
      exact h1
    | some o =>
      simp only [ho] at h1 ⊢
      split
      · rename_i hw
        rw [if_pos hw] at h1
        have hd : isDefer2 o = false := by
          have := Array.all_eq_true.1 hnd
          obtain ⟨hlt, he⟩ := Array.getElem?_eq_some_iff.1 ho
          have h2 := this i hlt
          rw [he] at h2
          simpa using h2
        exact oper_inRound hro hd h1
      · rename_i hw
        rw [if_neg hw] at h1
        exact h1
end Herb
