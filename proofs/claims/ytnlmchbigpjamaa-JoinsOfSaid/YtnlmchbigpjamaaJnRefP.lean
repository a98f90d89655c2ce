/- What is left of lists behind places; plain Lean. -/
import Derived.Test.YtnlmchbigpjamaaJnLaw
set_option linter.unusedSimpArgs false
set_option linter.unusedVariables false
namespace Herb.Jn
open Go Herb
def rem (R : List (List Ft)) (ps : List Nat) : List (List Ft) := List.zipWith (fun x p => x.drop p) R ps
theorem rem_get {R : List (List Ft)} {ps : List Nat} {i p : Nat} {x : List Ft} (hx : R[i]? = some x) (hp : ps[i]? = some p) : (rem R ps)[i]? = some (x.drop p) := by
  simp [rem, List.getElem?_zipWith, hx, hp]
theorem rem_done {R : List (List Ft)} {ps : List Nat} {i p : Nat} {x : List Ft} (hx : R[i]? = some x) (hp : ps[i]? = some p) (h : x.length ≤ p) : ∀ g u, (rem R ps)[i]? ≠ some (g :: u) := fun g u e => by
  rw [rem_get hx hp, List.drop_of_length_le h] at e
  cases e
theorem rem_some {R : List (List Ft)} {ps : List Nat} {i p : Nat} {x : List Ft} (hx : R[i]? = some x) (hp : ps[i]? = some p) (h : p < x.length) : (rem R ps)[i]? = some (x[p] :: x.drop (p + 1)) := by
  rw [rem_get hx hp, List.drop_eq_getElem_cons h]
theorem rem_set {R : List (List Ft)} {ps : List Nat} {i p : Nat} {x : List Ft} (hx : R[i]? = some x) (hp : ps[i]? = some p) : (rem R ps).set i (x.drop (p + 1)) = rem R (ps.set i (p + 1)) := by
  refine List.ext_getElem? (fun k => ?_)
  unfold rem
  by_cases e : i = k
  · subst e
    have h1 := (List.getElem?_eq_some_iff.1 hx).1
    have h2 := (List.getElem?_eq_some_iff.1 hp).1
    rw [List.getElem?_set_self (by simp; omega), List.getElem?_zipWith, hx, List.getElem?_set_self h2]
  · rw [List.getElem?_set_ne e, List.getElem?_zipWith, List.getElem?_zipWith, List.getElem?_set_ne e]
theorem rem_zero (R : List (List Ft)) : rem R (List.replicate R.length 0) = R := by
  refine List.ext_getElem? (fun k => ?_)
  unfold rem
  rw [List.getElem?_zipWith, List.getElem?_replicate]
  by_cases h : k < R.length
  · rw [if_pos h, List.getElem?_eq_getElem h]
    simp
  · rw [if_neg h, List.getElem?_eq_none (by omega)]
theorem best_end {R : List (List Ft)} (h : Best R R.length none) : Merge R [] := by
  refine Merge.done _ (fun x hx => ?_)
  obtain ⟨i, hi, rfl⟩ := List.getElem_of_mem hx
  match hr : R[i] with
  | [] => rfl
  | g :: u => exact absurd (by rw [List.getElem?_eq_getElem hi, hr]) (h i hi g u)
theorem best_ge {R : List (List Ft)} {m i : Nat} (h : Best R m (some i)) : i < m := h.1
theorem best_step {R : List (List Ft)} {i : Nat} {f : Ft} {t rest : List Ft} (h : Best R R.length (some i)) (hi : R[i]? = some (f :: t)) (hm : Merge (R.set i t) rest) : Merge R (f :: rest) := by
  obtain ⟨_, f', t', h2, h3⟩ := h
  rw [hi] at h2
  cases h2
  exact Merge.step R i f t rest hi (fun k g u e => h3 k (List.getElem?_eq_some_iff.1 e).1 g u e) hm
theorem rem_len {R : List (List Ft)} {ps : List Nat} (h : ps.length = R.length) : (rem R ps).length = R.length := by simp [rem, h]
end Herb.Jn
