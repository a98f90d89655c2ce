/- Regions in a round of a range over a function as outside of it: what holds of a region that draws its order holds in a round, where no defer statement stands in it. No function of the program is named. -/
import Derived.Test.YtidnhcningkcaaaDoorBase
import Derived.StillTailTactics
import Derived.OrdersIn
import Derived.TacticsIn
import Derived.KernelRfl
set_option linter.unusedSimpArgs false
set_option linter.unusedVariables false
namespace Herb
open Go Go.RowKit
variable {P : Program} {l n : Nat}

def isDefer (o : Oper) : Bool := match o.op with
  | .defer _ => true
  | _ => false
theorem isDefer_no {o : Oper} (h : isDefer o = false) (c : Call) : o.op ≠ .defer c := fun e => by
  unfold isDefer at h
  rw [e] at h
  cases h
theorem oper_round {o : Oper} {a : Act} {w : World} {K : Act → World → Prop} {Q : Exit → Act → World → Prop} (hnd : isDefer o = false) (h : o.wp P a w K Q) : o.wpIn (Fence.wide.inRound l) n P a w K Q := by
  refine ⟨fun _ _ => trivial, ?_⟩
  rw [Oper.semAt_eq _ _ _ (isDefer_no hnd)]
  unfold Oper.wp at h
  generalize (execOp a.eval o).run P w = r at *
  cases r with
  | ok x w' =>
    cases x <;> simp only [Oper.upon, Oper.uponIn] at h ⊢ <;>
      first
        | exact h
        | exact h.elim
        | exact ⟨fun hd => (by cases hd), callsIn_wide.2 h⟩
        | (refine ⟨fun hd => (by cases hd), fun c cs _ => ?_⟩
           obtain ⟨v, w2, hR, hs⟩ := h c cs
           exact ⟨v, w2, hR, stepsIn_wide.2 hs⟩)
  | halt x w' => cases x <;> simp only [Oper.upon, Oper.uponIn] at h ⊢ <;> exact h
/-- No way out but the plain ones. -/
def NoOut (Q : Exit → Act → World → Prop) : Exit → Act → World → Prop := fun e a w => match e with
  | .outgrown => False
  | e => Q e a w
theorem noOut {Q : Exit → Act → World → Prop} {e : Exit} {a : Act} {w : World} (h : NoOut Q e a w) : Q e a w := by
  cases e <;> first | exact h | exact h.elim
theorem noOut_normal {Q : Exit → Act → World → Prop} {a : Act} {w : World} (h : Q .normal a w) : NoOut Q .normal a w := h
theorem wpAny_round {md : Region.Mode} {ops : Array Oper} {Q : Exit → Act → World → Prop} (hnd : ops.all (fun o => !isDefer o) = true) :
    ∀ (fuel : Nat) (listed : Array Bool) (a : Act) (w : World), wpAny P md ops (NoOut Q) fuel listed a w → wpAnyIn (Fence.wide.inRound l) n P md ops Q fuel listed a w
  | 0, _, _, _, h => ⟨h.1, noOut h.2⟩
  | fuel + 1, listed, a, w, h => by
    refine ⟨fun e => noOut (h.1 e), fun i hi => ?_⟩
    have h1 := h.2 i hi
    unfold wpOp at h1
    unfold wpOpIn
    cases ho : ops[i]? with
    | none =>
      simp only [ho] at h1
      exact wpAny_round hnd fuel _ a w h1
    | some o =>
      simp only [ho] at h1 ⊢
      split
      · rename_i hw
        rw [if_pos hw] at h1
        have hd : isDefer o = false := by
          have := Array.all_eq_true.1 hnd
          obtain ⟨hlt, he⟩ := Array.getElem?_eq_some_iff.1 ho
          have h2 := this i hlt
          rw [he] at h2
          simpa using h2
        rcases h1 with h1 | ⟨_, _, _, h1⟩
        · refine oper_round hd ?_
          unfold Oper.wp at h1 ⊢
          generalize (execOp a.eval o).run P w = r at *
          cases r with
          | ok x w' =>
            cases x <;> simp only [Oper.upon] at h1 ⊢ <;>
              first
                | exact wpAny_round hnd fuel _ _ _ h1
                | exact h1.mono (fun e w'' he => by cases e <;> first | exact wpAny_round hnd fuel _ _ _ he | exact noOut he | (obtain ⟨_, _, h⟩ := he; exact h.elim))
                | exact h1.mono (fun _ _ he => wpAny_round hnd fuel _ _ _ he)
                | exact h1
          | halt x w' => cases x <;> simp only [Oper.upon] at h1 ⊢ <;> first | exact noOut h1 | exact h1
        · exact h1.elim
      · rename_i hw
        rw [if_neg hw] at h1
        exact ⟨fun _ _ => trivial, wpAny_round hnd fuel _ _ w h1⟩
/-- All but a tail only read: the order of the text. -/
theorem round_still_tail {id : Nat} {Q : Exit → Act → World → Prop} {a : Act} {w : World} {ls : List Oper} (m : Nat) (hm : P.follows .mixedOrders = true) (hB : Region.lexTailB .any ls.toArray m = true) (hnd : ls.toArray.all (fun o => !isDefer o) = true)
    (h : wpStill P ls.toArray w.drew (fun a' => wpList P ls.toArray (NoOut Q) (ls.drop m) a' w.drew) (ls.take m) a) : (Code.region id ls.toArray true).wpIn (Fence.wide.inRound l) n P Q a w := by
  refine wpIn_region_any hm (wpAny_round hnd _ _ _ _ ?_)
  simp only [Region.lexTailB, Bool.and_eq_true, decide_eq_true_eq] at hB
  obtain ⟨⟨⟨⟨hsel, hn⟩, hs⟩, hc⟩, hlex⟩ := hB
  have hn' : m < ls.length := by simpa using hn
  have htl : (ls.take m).length = m := by simp; omega
  have hdl : (ls.drop m).length = ls.toArray.size - m := by simp
  have inv0 : HeadInv .any ls.toArray m (Array.replicate ls.toArray.size false) :=
    ⟨by simp, fun j oj _ hl => (by rw [getD_replicate_false] at hl; cases hl), fun t _ ht => getD_in (by simpa using ht) (getD_replicate_false _ _)⟩
  have H := wpAnyL_lex (md := .any) (g := ls.toArray.size - m) hsel hs hc hn (ls.take m) 0 _ a (fun j hj => by
    have hj' : j < m := by rw [htl] at hj; exact hj
    simp [hj']) (by simpa using htl) inv0 (by rw [htl]; exact hlex) h
  have := wpAny_of_head (Q' := NoOut Q) (g := ls.toArray.size - m) (fun listed a' hL => by
    have := wpAny_of_seq (md := .any) (Q' := NoOut Q) (ls.drop m) m listed a' w.drew (fun j => by simp [List.getElem?_drop]) (by rw [hdl]; exact hL.1) hL.2
    rwa [hdl] at this) _ _ _ H
  rw [htl, show m + (ls.toArray.size - m) = ls.toArray.size by omega] at this
  exact this
end Herb
