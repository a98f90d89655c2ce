/- A list that is built of keys, one by one: the plain law. -/
import Derived.Test.YtidnhcningkcaaaDoorSkTop
import Derived.Test.YtidnhcningkcaaaDoorLaid
set_option linter.unusedSimpArgs false
set_option linter.unusedVariables false
namespace Herb
open Go Go.RowKit
def mkM (key : Nat → List UInt8) (num : Nat → Int) : Nat → List (List UInt8 × Int)
  | 0 => []
  | k + 1 => putM (mkM key num k) (key k) (num k)
theorem mkM_length (key : Nat → List UInt8) (num : Nat → Int) : ∀ k, (mkM key num k).length ≤ k
  | 0 => Nat.le_refl _
  | k + 1 => by
    have h1 := mkM_length key num k
    have h2 := putM_length (mkM key num k) (key k) (num k)
    unfold mkM
    omega
/-- Strictly rising. -/
def Rises (M : List (List UInt8 × Int)) : Prop := M.Pairwise (fun x y => less x.1 y.1 = true)
theorem dropWhile_not {M : List (List UInt8 × Int)} (hM : Rises M) {K : List UInt8} : ∀ x ∈ fromM M K, less x.1 K = false := by
  induction M with
  | nil => intro x hx; cases hx
  | cons y M ih =>
    intro x hx
    have hM' := List.pairwise_cons.1 hM
    unfold fromM at hx
    rcases hy : less y.1 K with _ | _
    · rw [List.dropWhile_cons_of_neg (by rw [hy]; simp)] at hx
      rcases List.mem_cons.1 hx with rfl | hx
      · exact hy
      · rcases hxk : less x.1 K with _ | _
        · rfl
        · rw [less_trans (hM'.1 x hx) hxk] at hy; cases hy
    · rw [List.dropWhile_cons_of_pos (p := fun x : List UInt8 × Int => less x.1 K) hy] at hx
      exact ih hM'.2 x hx
theorem Rises.ins {M : List (List UInt8 × Int)} (hM : Rises M) (K : List UInt8) (n : Int) (hh : hasM M K = false) : Rises (insM M K n) := by
  have hsp : M.takeWhile (fun x => less x.1 K) ++ fromM M K = M := List.takeWhile_append_dropWhile
  have hM' := hM
  rw [← hsp] at hM'
  unfold Rises at hM'
  rw [List.pairwise_append] at hM'
  unfold Rises insM
  rw [List.pairwise_append]
  refine ⟨hM'.1, List.pairwise_cons.2 ⟨?_, hM'.2.1⟩, ?_⟩
  · intro x hx
    have h1 := dropWhile_not hM x hx
    rcases h2 : less K x.1 with _ | _
    · exfalso
      have e := less_total h1 h2
      have hmem : x ∈ M := by rw [← hsp]; exact List.mem_append_right _ hx
      unfold hasM at hh
      rw [List.any_eq_false] at hh
      exact hh x hmem (by simp [e])
    · rfl
  · intro x hx y hy
    have hxl : less x.1 K = true := (List.all_eq_true.1 (List.all_takeWhile (p := fun x : List UInt8 × Int => less x.1 K) (l := M))) x hx
    rcases List.mem_cons.1 hy with rfl | hy
    · exact hxl
    · exact hM'.2.2 x hx y hy
theorem Rises.put {M : List (List UInt8 × Int)} (hM : Rises M) (K : List UInt8) (n : Int) : Rises (putM M K n) := by
  unfold putM
  split
  · exact hM
  · rename_i h
    exact hM.ins K n (by simpa using h)
theorem mkM_rises (key : Nat → List UInt8) (num : Nat → Int) : ∀ k, Rises (mkM key num k)
  | 0 => List.Pairwise.nil
  | k + 1 => (mkM_rises key num k).put _ _
theorem putM_mem {M : List (List UInt8 × Int)} {K : List UInt8} {n : Int} {x : List UInt8 × Int} : x ∈ putM M K n ↔ x ∈ M ∨ (x = (K, n) ∧ hasM M K = false) := by
  have hsp : M.takeWhile (fun x => less x.1 K) ++ M.dropWhile (fun x => less x.1 K) = M := List.takeWhile_append_dropWhile
  unfold putM
  split
  · rename_i h
    constructor
    · exact .inl
    · rintro (h1 | ⟨_, h1⟩)
      · exact h1
      · rw [h] at h1; cases h1
  · rename_i h
    have h' : hasM M K = false := by simpa using h
    unfold insM
    rw [List.mem_append, List.mem_cons]
    constructor
    · rintro (h1 | h1 | h1)
      · exact .inl (by rw [← hsp]; exact List.mem_append_left _ h1)
      · exact .inr ⟨h1, h'⟩
      · exact .inl (by rw [← hsp]; exact List.mem_append_right _ h1)
    · rintro (h1 | ⟨h1, _⟩)
      · rw [← hsp] at h1
        rcases List.mem_append.1 h1 with h2 | h2
        · exact .inl h2
        · exact .inr (.inr h2)
      · exact .inr (.inl h1)
theorem hasM_put (M : List (List UInt8 × Int)) (K : List UInt8) (n : Int) : hasM (putM M K n) K = true := by
  unfold hasM
  rw [List.any_eq_true]
  rcases h : hasM M K with _ | _
  · exact ⟨(K, n), putM_mem.2 (.inr ⟨rfl, h⟩), by simp⟩
  · have h' := h
    unfold hasM at h'
    rw [List.any_eq_true] at h'
    obtain ⟨x, hx, hk⟩ := h'
    exact ⟨x, putM_mem.2 (.inl hx), hk⟩
theorem hasM_keep {M : List (List UInt8 × Int)} {K K' : List UInt8} {n : Int} (h : hasM M K' = true) : hasM (putM M K n) K' = true := by
  unfold hasM at *
  rw [List.any_eq_true] at *
  obtain ⟨x, hx, hk⟩ := h
  exact ⟨x, putM_mem.2 (.inl hx), hk⟩
theorem mkM_has (key : Nat → List UInt8) (num : Nat → Int) : ∀ k i, i < k → hasM (mkM key num k) (key i) = true
  | k + 1, i, h => by
    unfold mkM
    by_cases e : i = k
    · subst e; exact hasM_put _ _ _
    · exact hasM_keep (mkM_has key num k i (by omega))
/-- Strictly rising lists of the same elements are the same. -/
theorem rises_ext : ∀ {M N : List (List UInt8 × Int)}, Rises M → Rises N → (∀ x, x ∈ M ↔ x ∈ N) → M = N
  | [], [], _, _, _ => rfl
  | [], y :: N, _, _, h => absurd ((h y).2 (by simp)) (by simp)
  | x :: M, [], _, _, h => absurd ((h x).1 (by simp)) (by simp)
  | x :: M, y :: N, hM, hN, h => by
    have hM' := List.pairwise_cons.1 hM
    have hN' := List.pairwise_cons.1 hN
    have e : x = y := by
      rcases List.mem_cons.1 ((h x).1 (by simp)) with h1 | h1
      · exact h1
      · rcases List.mem_cons.1 ((h y).2 (by simp)) with h2 | h2
        · exact h2.symm
        · have a1 := hN'.1 x h1
          have a2 := hM'.1 y h2
          rw [less_asymm a1] at a2
          cases a2
    subst e
    have hnx : ∀ z ∈ M, z ≠ x := fun z hz e => by have := hM'.1 z hz; rw [e, less_irrefl] at this; cases this
    have hny : ∀ z ∈ N, z ≠ x := fun z hz e => by have := hN'.1 z hz; rw [e, less_irrefl] at this; cases this
    rw [rises_ext hM'.2 hN'.2 (fun z => by
      constructor
      · intro hz
        rcases List.mem_cons.1 ((h z).1 (List.mem_cons_of_mem _ hz)) with h1 | h1
        · exact absurd h1 (hnx z hz)
        · exact h1
      · intro hz
        rcases List.mem_cons.1 ((h z).2 (List.mem_cons_of_mem _ hz)) with h1 | h1
        · exact absurd h1 (hny z hz)
        · exact h1)]
theorem from_split (M : List (List UInt8 × Int)) (K : List UInt8) : ∃ T, M = T ++ fromM M K ∧ (∀ x ∈ T, less x.1 K = true) := by
  refine ⟨M.takeWhile (fun x => less x.1 K), List.takeWhile_append_dropWhile.symm, fun x hx => ?_⟩
  exact (List.all_eq_true.1 (List.all_takeWhile (p := fun x : List UInt8 × Int => less x.1 K) (l := M))) x hx
theorem pairsC_append (M N : List (List UInt8 × Int)) : pairsC (M ++ N) = pairsC M ++ pairsC N := by simp [pairsC]
/-- A key of the argument's list. -/
def keyAt (ls : List La) (i : Nat) : List UInt8 := (ls.getD i ⟨none, [], 0, 0, 0⟩).key
theorem keyAt_lt {ls : List La} {i : Nat} (h : i < ls.length) : keyAt ls i = (ls[i]).key := by simp [keyAt, List.getD, h]
end Herb
