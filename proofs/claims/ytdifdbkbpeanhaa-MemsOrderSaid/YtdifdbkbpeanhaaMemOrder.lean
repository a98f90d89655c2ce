/- Mems: in whatever order facts are put: the plain law. -/
import Derived.Test.YtdifdbkbpeanhaaMemPlain
set_option linter.unusedSimpArgs false
set_option linter.unusedVariables false
namespace Herb
open Go Go.RowKit
/-- A fact without its line and value. -/
def bareF (f : Ft) : Ft := ⟨f.k, f.va, f.se, 0, f.ki, ⟨#[]⟩⟩
theorem bareF_fit {f : Ft} (h : f.fit) : (bareF f).fit := ⟨h.1, h.2.1, by show (0 : Nat) < _; omega, h.2.2.2⟩
/-- What is at a place of a row of such elements. -/
def factAt (ls : List LaM) (i : Nat) : Ft := match ls[i]? with | some y => bareF y.f | none => bareF Ft.zero
theorem factAt_fit {ls : List LaM} (h : ∀ y ∈ ls, y.fit) (i : Nat) : (factAt ls i).fit := by
  unfold factAt
  split
  · rename_i y hy
    exact bareF_fit (h y (List.mem_of_getElem? hy)).1
  · exact ⟨by decide, by decide, by decide, by decide⟩
/-- A mem behind so many puts. -/
def stA (f : Nat → Ft) (h : Nat → Int) : Nat → MSt
  | 0 => MSt.none
  | k + 1 => (stepM (stA f h k) (f k) (h k)).2
theorem stA_ok {f : Nat → Ft} {h : Nat → Int} (hf : ∀ i, (f i).fit) (hv : ∀ i, (f i).v.size ≤ 1000) : ∀ k, MOk (stA f h k) k
  | 0 => MOk.none
  | k + 1 => (stA_ok hf hv k).step _ _ (hf k) (hv k)
theorem hasM_iff {M : List (List UInt8 × Int)} {K : List UInt8} : hasM M K = true ↔ ∃ x ∈ M, x.1 = K := by
  unfold hasM
  rw [List.any_eq_true]
  constructor
  · rintro ⟨x, hx, h⟩; exact ⟨x, hx, by simpa using h⟩
  · rintro ⟨x, hx, h⟩; exact ⟨x, hx, by simpa using h⟩
theorem stA_keys {f : Nat → Ft} {h : Nat → Int} (hh : ∀ i, 1 ≤ h i ∧ h i ≤ 8) (K : List UInt8) : ∀ k, (∃ x ∈ (stA f h k).M, x.1 = K) ↔ ∃ i, i < k ∧ mayB (f i).k (f i).se (f i).ki = true ∧ keyF (f i) = K
  | 0 => by simp [stA, MSt.none]
  | k + 1 => by
    have ih := stA_keys (f := f) (h := h) hh K k
    have split1 : (∃ i, i < k + 1 ∧ mayB (f i).k (f i).se (f i).ki = true ∧ keyF (f i) = K) ↔ (∃ i, i < k ∧ mayB (f i).k (f i).se (f i).ki = true ∧ keyF (f i) = K) ∨ (mayB (f k).k (f k).se (f k).ki = true ∧ keyF (f k) = K) := by
      constructor
      · rintro ⟨i, hi, hr⟩
        by_cases e : i < k
        · exact .inl ⟨i, e, hr⟩
        · have : i = k := by omega
          subst this
          exact .inr hr
      · rintro (⟨i, hi, hr⟩ | hr)
        · exact ⟨i, by omega, hr⟩
        · exact ⟨k, by omega, hr⟩
    rw [split1, ← ih]
    show (∃ x ∈ (stepM (stA f h k) (f k) (h k)).2.M, x.1 = K) ↔ _
    unfold stepM
    split
    · rename_i h1
      simp [h1]
    · rename_i h1
      have hm : mayB (f k).k (f k).se (f k).ki = true := by simpa using h1
      rw [if_neg (by have := hh k; omega)]
      split
      · rename_i h3
        constructor
        · exact .inl
        · rintro (hx | ⟨_, rfl⟩)
          · exact hx
          · exact hasM_iff.1 h3
      · rename_i h3
        have h3' : hasM (stA f h k).M (keyF (f k)) = false := by simpa using h3
        constructor
        · rintro ⟨x, hx, rfl⟩
          rcases (insM_memB h3').1 hx with hx | rfl
          · exact .inl ⟨x, hx, rfl⟩
          · exact .inr ⟨hm, rfl⟩
        · rintro (⟨x, hx, rfl⟩ | ⟨_, rfl⟩)
          · exact ⟨x, (insM_memB h3').2 (.inl hx), rfl⟩
          · exact ⟨_, (insM_memB h3').2 (.inr rfl), rfl⟩
theorem stA_fs {f : Nat → Ft} {h : Nat → Int} : ∀ k, ∀ g ∈ (stA f h k).fs, ∃ i, g = f i
  | 0, g, hg => by simp [stA, MSt.none] at hg
  | k + 1, g, hg => by
    have ih := stA_fs (f := f) (h := h) k g
    have hg' : g ∈ (stepM (stA f h k) (f k) (h k)).2.fs := hg
    unfold stepM at hg'
    split at hg'
    · exact ih hg'
    · split at hg'
      · exact ih hg'
      · split at hg'
        · exact ih hg'
        · rcases List.mem_append.1 hg' with h | h
          · exact ih h
          · exact ⟨k, List.mem_singleton.1 h⟩
/-- How many bytes keys have. -/
def keysLen (M : List (List UInt8 × Int)) : Nat := ((M.map (·.1)).map List.length).sum
theorem keysLen_ins (M : List (List UInt8 × Int)) (K : List UInt8) (n : Int) : keysLen (insM M K n) = keysLen M + K.length := by
  have := congrArg keysLen (List.takeWhile_append_dropWhile (p := fun x => less x.1 K) (l := M))
  rw [← this]
  unfold insM keysLen
  simp only [List.map_append, List.map_cons, List.sum_append, List.sum_cons]
  omega
theorem stA_b {f : Nat → Ft} {h : Nat → Int} (hv : ∀ i, (f i).v = ⟨#[]⟩) : ∀ k, (stA f h k).b = (keysLen (stA f h k).M : Int)
  | 0 => rfl
  | k + 1 => by
    have ih := stA_b (f := f) (h := h) hv k
    show (stepM (stA f h k) (f k) (h k)).2.b = (keysLen (stepM (stA f h k) (f k) (h k)).2.M : Int)
    unfold stepM
    split
    · exact ih
    · split
      · exact ih
      · split
        · exact ih
        · show (stA f h k).b + _ = (keysLen (insM _ _ _) : Int)
          rw [keysLen_ins, ih, hv]
          have : (⟨#[]⟩ : ByteArray).size = 0 := rfl
          rw [this]
          omega
theorem keyF_inj {f g : Ft} (hf : f.fit) (hg : g.fit) (h : keyF f = keyF g) : f.k = g.k ∧ f.va = g.va ∧ f.se = g.se ∧ f.ki = g.ki := by
  have h1 := ordL_put f.k g.k hf.1 hg.1 hf.2.1 hg.2.1 hf.2.2.2 hg.2.2.2
  unfold keyF at h
  rw [h, ordL_self] at h1
  obtain ⟨a, b, c, d⟩ := cmpF_zero _ _ _ _ _ _ _ _ h1.symm
  exact ⟨a, by omega, by omega, by omega⟩
theorem bare_inj {f g : Ft} (hf : f.fit) (hg : g.fit) (h1 : f.li = 0) (h2 : g.li = 0) (h3 : f.v = ⟨#[]⟩) (h4 : g.v = ⟨#[]⟩) (h : keyF f = keyF g) : f = g := by
  obtain ⟨a, b, c, d⟩ := keyF_inj hf hg h
  obtain ⟨k, va, se, li, ki, v⟩ := f
  obtain ⟨k', va', se', li', ki', v'⟩ := g
  simp only at a b c d h1 h2 h3 h4
  subst a; subst b; subst c; subst d; subst h1; subst h2; subst h3; subst h4
  rfl
theorem bares_ext : ∀ {l m : List Ft}, (∀ f ∈ l, f.fit ∧ f.li = 0 ∧ f.v = ⟨#[]⟩) → (∀ f ∈ m, f.fit ∧ f.li = 0 ∧ f.v = ⟨#[]⟩) → l.map keyF = m.map keyF → l = m
  | [], [], _, _, _ => rfl
  | [], y :: m, _, _, h => by simp at h
  | x :: l, [], _, _, h => by simp at h
  | x :: l, y :: m, h1, h2, h => by
    rw [List.map_cons, List.map_cons] at h
    obtain ⟨e, h⟩ := List.cons.inj h
    obtain ⟨a, b, c⟩ := h1 x (by simp)
    obtain ⟨a', b', c'⟩ := h2 y (by simp)
    rw [bare_inj a a' b b' c c' e, bares_ext (fun f hf => h1 f (by simp [hf])) (fun f hf => h2 f (by simp [hf])) h]
theorem placed_keys {s : MSt} {n : Nat} (ok : MOk s n) : (placed s.fs s.M).map keyF = s.M.map (·.1) := by
  unfold placed
  rw [List.map_map]
  apply List.map_congr_left
  intro x hx
  exact (ok.told hx).1
theorem Rises.keys {M : List (List UInt8 × Int)} (h : Rises M) : Rises (M.map (fun x => (x.1, (0 : Int)))) := by
  unfold Rises at *
  rw [List.pairwise_map]
  exact h
/-- Two mems with the same facts, in whatever order they were put. -/
theorem two_mems {f g : Nat → Ft} {h h' : Nat → Int} {n : Nat} (hf : ∀ i, (f i).fit ∧ (f i).li = 0 ∧ (f i).v = ⟨#[]⟩) (hg : ∀ i, (g i).fit ∧ (g i).li = 0 ∧ (g i).v = ⟨#[]⟩)
    (hh : ∀ i, 1 ≤ h i ∧ h i ≤ 8) (hh' : ∀ i, 1 ≤ h' i ∧ h' i ≤ 8) (h1 : ∀ i, i < n → ∃ j, j < n ∧ f i = g j) (h2 : ∀ j, j < n → ∃ i, i < n ∧ g j = f i) :
    placed (stA f h n).fs (stA f h n).M = placed (stA g h' n).fs (stA g h' n).M ∧ (stA f h n).b = (stA g h' n).b := by
  have e0 : (⟨#[]⟩ : ByteArray).size = 0 := rfl
  have oa := stA_ok (h := h) (fun i => (hf i).1) (fun i => by rw [(hf i).2.2, e0]; omega) n
  have ob := stA_ok (h := h') (fun i => (hg i).1) (fun i => by rw [(hg i).2.2, e0]; omega) n
  have ek : (stA f h n).M.map (fun x => (x.1, (0 : Int))) = (stA g h' n).M.map (fun x => (x.1, (0 : Int))) := by
    refine rises_ext oa.rises.keys ob.rises.keys (fun x => ?_)
    have ka := stA_keys (f := f) hh x.1 n
    have kb := stA_keys (f := g) hh' x.1 n
    have conv : ∀ M : List (List UInt8 × Int), x ∈ M.map (fun x => (x.1, (0 : Int))) ↔ x.2 = 0 ∧ ∃ y ∈ M, y.1 = x.1 := by
      intro M
      rw [List.mem_map]
      constructor
      · rintro ⟨y, hy, rfl⟩; exact ⟨rfl, y, hy, rfl⟩
      · rintro ⟨h0, y, hy, h⟩; exact ⟨y, hy, by rw [h, ← h0]⟩
    rw [conv, conv, ka, kb]
    constructor
    · rintro ⟨h0, i, hi, hr⟩
      obtain ⟨j, hj, e⟩ := h1 i hi
      exact ⟨h0, j, hj, by rw [← e]; exact hr⟩
    · rintro ⟨h0, j, hj, hr⟩
      obtain ⟨i, hi, e⟩ := h2 j hj
      exact ⟨h0, i, hi, by rw [← e]; exact hr⟩
  have ek' : (stA f h n).M.map (·.1) = (stA g h' n).M.map (·.1) := by
    have := congrArg (List.map (·.1)) ek
    rw [List.map_map, List.map_map] at this
    exact this
  refine ⟨bares_ext ?_ ?_ ?_, ?_⟩
  · intro x hx
    unfold placed at hx
    obtain ⟨y, hy, rfl⟩ := List.mem_map.1 hx
    obtain ⟨i, e⟩ := stA_fs n _ (oa.told hy).2
    rw [e]
    exact hf i
  · intro x hx
    unfold placed at hx
    obtain ⟨y, hy, rfl⟩ := List.mem_map.1 hx
    obtain ⟨i, e⟩ := stA_fs n _ (ob.told hy).2
    rw [e]
    exact hg i
  · rw [placed_keys oa, placed_keys ob, ek']
  · rw [stA_b (fun i => (hf i).2.2), stA_b (fun i => (hg i).2.2)]
    unfold keysLen
    rw [ek']
/-- Neighbours rise. -/
theorem placed_rise {s : MSt} {n : Nat} (ok : MOk s n) {i : Nat} (hi : i + 1 < (placed s.fs s.M).length) :
    cmpF (placed s.fs s.M)[i].k (placed s.fs s.M)[i + 1].k (placed s.fs s.M)[i].va (placed s.fs s.M)[i + 1].va (placed s.fs s.M)[i].se (placed s.fs s.M)[i + 1].se (placed s.fs s.M)[i].ki (placed s.fs s.M)[i + 1].ki = -1 := by
  have hl : i + 1 < s.M.length := by rwa [placed_length] at hi
  have e1 : (placed s.fs s.M)[i] = s.fs.getD (s.M[i]).2.toNat Ft.zero := List.getElem_map _
  have e2 : (placed s.fs s.M)[i + 1] = s.fs.getD (s.M[i + 1]).2.toNat Ft.zero := List.getElem_map _
  obtain ⟨a1, a2⟩ := ok.told (List.getElem_mem (show i < s.M.length by omega))
  obtain ⟨b1, b2⟩ := ok.told (List.getElem_mem hl)
  have hr := rises_get ok.rises hl (Nat.lt_succ_self i)
  rw [← e1] at a1 a2
  rw [← e2] at b1 b2
  rw [← a1, ← b1] at hr
  have f1 := (ok.fit _ a2).1
  have f2 := (ok.fit _ b2).1
  rw [← ordL_put _ _ f1.1 f2.1 f1.2.1 f2.2.1 f1.2.2.2 f2.2.2.2]
  exact ordL_lt hr
end Herb
