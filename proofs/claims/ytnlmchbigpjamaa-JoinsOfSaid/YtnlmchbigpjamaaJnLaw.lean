/- Lists of facts in one order, in plain Lean: heaps, what they tell. -/
import Derived.Test.YtnlmchbigpjamaaKeyRise
import Derived.Test.YtnlmchbigpjamaaFtLaw
import Derived.Lib.Hide
set_option linter.unusedSimpArgs false
set_option linter.unusedVariables false
namespace Herb.Jn
open Go Go.RowKit Herb

def cmpFt (f g : Ft) : Int := cmpF f.k g.k (f.va : Int) (g.va : Int) (f.se : Int) (g.se : Int) (f.ki : Int) (g.ki : Int)
theorem cmpFt_R3 (f g h : Ft) : R3 (cmpFt f g) (cmpFt g h) (cmpFt f h) := cmpF_R3 _ _ _ _ _ _ _ _ _ _ _ _
theorem cmpFt_self (f : Ft) : cmpFt f f = 0 := cmpF_self _ _ _ _
theorem cmpFt_flip (f g : Ft) : cmpFt g f = - cmpFt f g := by
  have := cmpFt_R3 f g f
  rw [cmpFt_self] at this
  unfold R3 at this
  omega
theorem cmpI_flip (a b : Int) : cmpI b a = - cmpI a b := by
  unfold cmpI
  split <;> split <;> omega

/-- One list that waits: where its facts lie, which these are, what room there is, its place. -/
structure En where
  A : Option Addr
  fs : List Ft
  c : Nat
  pl : Nat
def En.zero : En := ⟨none, [], 0, 0⟩
def En.hd (e : En) : Ft := e.fs.headD Ft.zero
def cmpE (a b : En) : Int := orL [cmpFt a.hd b.hd, cmpI (a.pl : Int) (b.pl : Int)]
theorem cmpE_R3 (a b c : En) : R3 (cmpE a b) (cmpE b c) (cmpE a c) := by
  unfold cmpE
  simp only [orL_cons]
  exact R3_or (cmpFt_R3 _ _ _) (R3_or (cmpI_R3 _ _ _) R3_zero)
theorem cmpE_flip (a b : En) : cmpE b a = - cmpE a b := by
  unfold cmpE
  simp only [orL_cons]
  rw [cmpFt_flip a.hd b.hd, cmpI_flip (a.pl : Int) (b.pl : Int)]
  unfold orI orL
  split <;> split <;> (try split) <;> omega
def leE (a b : En) : Prop := cmpE a b ≤ 0
theorem leE_trans {a b c : En} (h : leE a b) (h' : leE b c) : leE a c := by
  have := cmpE_R3 a b c
  unfold R3 at this
  unfold leE at *
  omega
theorem leE_refl (a : En) : leE a a := by
  have := cmpE_flip a a
  unfold leE
  omega
theorem leE_of_not {a b : En} (h : ¬ cmpE b a < 0) : leE a b := by
  have := cmpE_flip b a
  unfold leE
  omega
theorem leE_of_lt {a b : En} (h : cmpE a b < 0) : leE a b := by
  unfold leE
  omega

/-! ### heaps -/
def at_ (l : List En) (k : Nat) : En := l.getD k En.zero
def sw (l : List En) (i j : Nat) : List En := (l.set i (at_ l j)).set j (at_ l i)
theorem sw_len (l : List En) (i j : Nat) : (sw l i j).length = l.length := by simp [sw]
theorem at_get {l : List En} {k : Nat} (h : k < l.length) : at_ l k = l[k] := by simp [at_, List.getD, h]
theorem sw_at {l : List En} {i j : Nat} (hi : i < l.length) (hj : j < l.length) (k : Nat) : at_ (sw l i j) k = if k = j then at_ l i else if k = i then at_ l j else at_ l k := by
  unfold sw at_
  simp only [List.getD_eq_getElem?_getD, List.getElem?_set, List.length_set]
  by_cases h1 : k = j
  · subst h1
    simp [hj]
  · rw [if_neg (fun e => h1 e.symm), if_neg h1]
    by_cases h2 : k = i
    · subst h2
      simp [hi]
    · rw [if_neg (fun e => h2 e.symm), if_neg h2]
theorem sw_perm {l : List En} {i j : Nat} (hi : i < l.length) (hj : j < l.length) : (sw l i j).Perm l := by
  unfold sw
  rw [at_get hi, at_get hj]
  exact List.set_set_perm hi hj
def par (k : Nat) : Nat := (k - 1) / 2
theorem par_lt {k : Nat} (h : 0 < k) : par k < k := by unfold par; omega
def IsHeap (l : List En) (n : Nat) : Prop := ∀ k, 0 < k → k < n → leE (at_ l (par k)) (at_ l k)
theorem IsHeap.root {l : List En} {n : Nat} (h : IsHeap l n) : ∀ k, k < n → leE (at_ l 0) (at_ l k) := by
  intro k
  induction k using Nat.strongRecOn with
  | ind k ih =>
    intro hk
    rcases Nat.eq_zero_or_pos k with rfl | h0
    · exact leE_refl _
    · exact leE_trans (ih (par k) (par_lt h0) (by have := par_lt h0; omega)) (h k h0 hk)
theorem IsHeap.mono {l : List En} {n m : Nat} (h : IsHeap l n) (hm : m ≤ n) : IsHeap l m := fun k h0 hk => h k h0 (by omega)
theorem IsHeap.congr {l l' : List En} {n : Nat} (h : IsHeap l n) (he : ∀ k, k < n → at_ l' k = at_ l k) : IsHeap l' n := fun k h0 hk => by
  rw [he k hk, he (par k) (by have := par_lt h0; omega)]
  exact h k h0 hk
/-- All but what stands at i is in order, going down. -/
structure Dn (l : List En) (i n : Nat) : Prop where
  one : ∀ k, 0 < k → k < n → par k ≠ i → leE (at_ l (par k)) (at_ l k)
  two : ∀ k, 0 < k → k < n → par k = i → 0 < i → leE (at_ l (par i)) (at_ l k)
theorem Dn.step {l : List En} {i j n : Nat} (h : Dn l i n) (hn : n ≤ l.length) (hi : i < n) (hj : j < n) (h0 : 0 < j) (hp : par j = i) (hs : ∀ k, 0 < k → k < n → par k = i → leE (at_ l j) (at_ l k)) (hl : leE (at_ l j) (at_ l i)) : Dn (sw l i j) j n := by
  have hij : i < j := by rw [← hp]; exact par_lt h0
  have e := sw_at (l := l) (i := i) (j := j) (by omega) (by omega)
  refine ⟨fun k hk0 hk hpk => ?_, fun k hk0 hk hpk _ => ?_⟩
  · have hpl := par_lt hk0
    by_cases h1 : par k = i
    · rw [e (par k), e k, if_neg hpk, if_pos h1]
      by_cases h2 : k = j
      · rw [if_pos h2]; exact hl
      · rw [if_neg h2, if_neg (by omega)]; exact hs k hk0 hk h1
    · by_cases h2 : k = i
      · subst h2
        rw [e (par k), e k, if_neg hpk, if_neg h1, if_neg (by omega), if_pos rfl]
        exact h.two j h0 hj hp hk0
      · by_cases h3 : k = j
        · exact absurd (h3 ▸ hp) h1
        · rw [e (par k), e k, if_neg hpk, if_neg h1, if_neg h3, if_neg h2]
          exact h.one k hk0 hk h1
  · have hpl := par_lt hk0
    rw [hp, e i, e k, if_neg (by omega), if_pos rfl, if_neg (by omega), if_neg (by omega), ← hpk]
    exact h.one k hk0 hk (by omega)
theorem Dn.done {l : List En} {i n : Nat} (h : Dn l i n) (hc : ∀ k, 0 < k → k < n → par k = i → leE (at_ l i) (at_ l k)) : IsHeap l n := fun k h0 hk => by
  by_cases e : par k = i
  · rw [e]; exact hc k h0 hk e
  · exact h.one k h0 hk e
/-- All but what stands at j is in order, going up. -/
structure Up (l : List En) (j n : Nat) : Prop where
  one : ∀ k, 0 < k → k < n → k ≠ j → leE (at_ l (par k)) (at_ l k)
  two : ∀ k, 0 < k → k < n → par k = j → 0 < j → leE (at_ l (par j)) (at_ l k)
theorem Up.step {l : List En} {j n : Nat} (h : Up l j n) (hn : n ≤ l.length) (hj : j < n) (h0 : 0 < j) (hl : leE (at_ l j) (at_ l (par j))) : Up (sw l (par j) j) (par j) n := by
  have hij : par j < j := par_lt h0
  obtain ⟨i, hi⟩ : ∃ i, par j = i := ⟨_, rfl⟩
  rw [hi] at hij hl ⊢
  have e := sw_at (l := l) (i := i) (j := j) (by omega) (by omega)
  refine ⟨fun k hk0 hk hki => ?_, fun k hk0 hk hpk hi0 => ?_⟩
  · have hpl := par_lt hk0
    by_cases h2 : k = j
    · subst h2
      rw [e (par k), e k, if_neg (by omega), if_pos hi, if_pos rfl]
      exact hl
    · rw [e k, if_neg h2, if_neg hki]
      by_cases h3 : par k = j
      · rw [e (par k), if_pos h3]
        have := h.two k hk0 hk h3 h0
        rwa [hi] at this
      · by_cases h4 : par k = i
        · rw [e (par k), if_neg h3, if_pos h4]
          have := h.one k hk0 hk h2
          rw [h4] at this
          exact leE_trans hl this
        · rw [e (par k), if_neg h3, if_neg h4]
          exact h.one k hk0 hk h2
  · have hpl := par_lt hk0
    have hpi := par_lt hi0
    rw [e (par i), if_neg (by omega), if_neg (by omega)]
    have h5 := h.one i hi0 (by omega) (by omega)
    by_cases h2 : k = j
    · rw [e k, if_pos h2]; exact h5
    · rw [e k, if_neg h2, if_neg (by omega)]
      have := h.one k hk0 hk h2
      rw [hpk] at this
      exact leE_trans h5 this
theorem Up.done {l : List En} {j n : Nat} (h : Up l j n) (hc : 0 < j → leE (at_ l (par j)) (at_ l j)) : IsHeap l n := fun k h0 hk => by
  by_cases e : k = j
  · subst e; exact hc h0
  · exact h.one k h0 hk e

/-! ### what lists tell together -/
/-- Does a fact of the list at place i stand ahead of one of the list at place k? -/
def leP (f : Ft) (i : Nat) (g : Ft) (k : Nat) : Prop := cmpFt f g < 0 ∨ (cmpFt f g = 0 ∧ i ≤ k)
theorem leP_trans {f g h : Ft} {i j k : Nat} (a : leP f i g j) (b : leP g j h k) : leP f i h k := by
  have := cmpFt_R3 f g h
  unfold R3 at this
  unfold leP at *
  omega
theorem leP_total (f : Ft) (i : Nat) (g : Ft) (k : Nat) : leP f i g k ∨ leP g k f i := by
  have := cmpFt_flip f g
  unfold leP
  omega
theorem leP_anti {f g : Ft} {i k : Nat} (a : leP f i g k) (b : leP g k f i) : i = k := by
  have := cmpFt_flip f g
  unfold leP at *
  omega
inductive Merge : List (List Ft) → List Ft → Prop
  | done (R : List (List Ft)) (h : ∀ x ∈ R, x = []) : Merge R []
  | step (R : List (List Ft)) (i : Nat) (f : Ft) (t out : List Ft) (hi : R[i]? = some (f :: t)) (hm : ∀ k g u, R[k]? = some (g :: u) → leP f i g k) (h : Merge (R.set i t) out) : Merge R (f :: out)
theorem Merge.det {R : List (List Ft)} {a : List Ft} (h : Merge R a) : ∀ {b : List Ft}, Merge R b → a = b := by
  induction h with
  | done R h =>
    intro b hb
    cases hb with
    | done => rfl
    | step _ i f t out hi hm _ => have := h _ (List.mem_of_getElem? hi); cases this
  | step R i f t out hi hm _ ih =>
    intro b hb
    cases hb with
    | done _ h => have := h _ (List.mem_of_getElem? hi); cases this
    | step _ i' f' t' out' hi' hm' hb =>
      have e : i = i' := leP_anti (hm _ _ _ hi') (hm' _ _ _ hi)
      subst e
      rw [hi] at hi'
      injection hi' with hi'
      injection hi' with h1 h2
      subst h1
      subst h2
      rw [ih hb]
/-- The first one of the least, among the first m lists: or there is none. -/
def Best (R : List (List Ft)) (m : Nat) (b : Option Nat) : Prop :=
  match b with
  | none => ∀ k, k < m → ∀ g u, R[k]? ≠ some (g :: u)
  | some i => i < m ∧ ∃ f t, R[i]? = some (f :: t) ∧ ∀ k, k < m → ∀ g u, R[k]? = some (g :: u) → leP f i g k
theorem best_ex (R : List (List Ft)) : ∀ m, ∃ b, Best R m b
  | 0 => ⟨none, fun k h => absurd h (by omega)⟩
  | m + 1 => by
    obtain ⟨b, hb⟩ := best_ex R m
    match hr : R[m]? with
    | none =>
      match b, hb with
      | none, hb => exact ⟨none, fun k hk g u e => by
          rcases Nat.lt_or_ge k m with h | h
          · exact hb k h g u e
          · obtain rfl : k = m := by omega
            rw [hr] at e; cases e⟩
      | some i, ⟨h1, f, t, h2, h3⟩ => exact ⟨some i, by omega, f, t, h2, fun k hk g u e => by
          rcases Nat.lt_or_ge k m with h | h
          · exact h3 k h g u e
          · obtain rfl : k = m := by omega
            rw [hr] at e; cases e⟩
    | some [] =>
      match b, hb with
      | none, hb => exact ⟨none, fun k hk g u e => by
          rcases Nat.lt_or_ge k m with h | h
          · exact hb k h g u e
          · obtain rfl : k = m := by omega
            rw [hr] at e; cases e⟩
      | some i, ⟨h1, f, t, h2, h3⟩ => exact ⟨some i, by omega, f, t, h2, fun k hk g u e => by
          rcases Nat.lt_or_ge k m with h | h
          · exact h3 k h g u e
          · obtain rfl : k = m := by omega
            rw [hr] at e; cases e⟩
    | some (g0 :: u0) =>
      match b, hb with
      | none, hb => exact ⟨some m, by omega, g0, u0, hr, fun k hk g u e => by
          rcases Nat.lt_or_ge k m with h | h
          · exact absurd e (hb k h g u)
          · obtain rfl : k = m := by omega
            rw [hr] at e
            cases e
            exact .inr ⟨cmpFt_self _, Nat.le_refl _⟩⟩
      | some i, ⟨h1, f, t, h2, h3⟩ =>
        by_cases hc : cmpFt g0 f < 0
        · exact ⟨some m, by omega, g0, u0, hr, fun k hk g u e => by
            rcases Nat.lt_or_ge k m with h | h
            · have a := h3 k h g u e
              refine .inl ?_
              have := cmpFt_R3 g0 f g
              unfold R3 at this
              unfold leP at a
              omega
            · obtain rfl : k = m := by omega
              rw [hr] at e
              cases e
              exact .inr ⟨cmpFt_self _, Nat.le_refl _⟩⟩
        · exact ⟨some i, by omega, f, t, h2, fun k hk g u e => by
            rcases Nat.lt_or_ge k m with h | h
            · exact h3 k h g u e
            · obtain rfl : k = m := by omega
              rw [hr] at e
              cases e
              have := cmpFt_flip f g0
              unfold leP
              omega⟩
theorem Best.step_none {R : List (List Ft)} {m : Nat} {b : Option Nat} (hb : Best R m b) (hr : ∀ g u, R[m]? ≠ some (g :: u)) : Best R (m + 1) b := by
  match b, hb with
  | none, hb =>
    intro k hk g u e
    rcases Nat.lt_or_ge k m with h | h
    · exact hb k h g u e
    · obtain rfl : k = m := by omega
      exact hr _ _ e
  | some i, ⟨h1, f, t, h2, h3⟩ => exact ⟨by omega, f, t, h2, fun k hk g u e => by
      rcases Nat.lt_or_ge k m with h | h
      · exact h3 k h g u e
      · obtain rfl : k = m := by omega
        exact absurd e (hr _ _)⟩
theorem Best.step_first {R : List (List Ft)} {m : Nat} (hb : Best R m none) {g0 : Ft} {u0 : List Ft} (hr : R[m]? = some (g0 :: u0)) : Best R (m + 1) (some m) :=
  ⟨by omega, g0, u0, hr, fun k hk g u e => by
    rcases Nat.lt_or_ge k m with h | h
    · exact absurd e (hb k h g u)
    · obtain rfl : k = m := by omega
      rw [hr] at e
      cases e
      exact .inr ⟨cmpFt_self _, Nat.le_refl _⟩⟩
theorem Best.step_less {R : List (List Ft)} {m i : Nat} (hb : Best R m (some i)) {f g0 : Ft} {t u0 : List Ft} (hi : R[i]? = some (f :: t)) (hr : R[m]? = some (g0 :: u0)) (hc : cmpFt g0 f < 0) : Best R (m + 1) (some m) := by
  obtain ⟨h1, f', t', h2, h3⟩ := hb
  rw [hi] at h2
  cases h2
  exact ⟨by omega, g0, u0, hr, fun k hk g u e => by
    rcases Nat.lt_or_ge k m with h | h
    · have a := h3 k h g u e
      refine .inl ?_
      have := cmpFt_R3 g0 f g
      unfold R3 at this
      unfold leP at a
      omega
    · obtain rfl : k = m := by omega
      rw [hr] at e
      cases e
      exact .inr ⟨cmpFt_self _, Nat.le_refl _⟩⟩
theorem Best.step_not {R : List (List Ft)} {m i : Nat} (hb : Best R m (some i)) {f g0 : Ft} {t u0 : List Ft} (hi : R[i]? = some (f :: t)) (hr : R[m]? = some (g0 :: u0)) (hc : ¬ cmpFt g0 f < 0) : Best R (m + 1) (some i) := by
  obtain ⟨h1, f', t', h2, h3⟩ := hb
  rw [hi] at h2
  cases h2
  exact ⟨by omega, f, t, hi, fun k hk g u e => by
    rcases Nat.lt_or_ge k m with h | h
    · exact h3 k h g u e
    · obtain rfl : k = m := by omega
      rw [hr] at e
      cases e
      have := cmpFt_flip f g0
      unfold leP
      omega⟩
def total (R : List (List Ft)) : Nat := (R.map List.length).sum
theorem total_set : ∀ {R : List (List Ft)} {i : Nat} {f : Ft} {t : List Ft}, R[i]? = some (f :: t) → total R = total (R.set i t) + 1
  | x :: R, 0, f, t, h => by
    simp only [List.getElem?_cons_zero, Option.some.injEq] at h
    subst h
    simp [total]
    omega
  | x :: R, i + 1, f, t, h => by
    have := total_set (R := R) (i := i) (by simpa using h)
    unfold total at *
    simp only [List.set_cons_succ, List.map_cons, List.sum_cons]
    omega
theorem total_none {R : List (List Ft)} (h : ∀ x ∈ R, x = []) : total R = 0 := by
  induction R with
  | nil => rfl
  | cons y R ih =>
    have := ih (fun x hx => h x (by simp [hx]))
    unfold total at *
    simp only [List.map_cons, List.sum_cons]
    rw [h y (by simp), this]
    rfl
theorem total_zero {R : List (List Ft)} (h : total R = 0) : ∀ x ∈ R, x = [] := by
  induction R with
  | nil => intro x hx; cases hx
  | cons y R ih =>
    unfold total at h ih
    simp only [List.map_cons, List.sum_cons] at h
    intro x hx
    rcases List.mem_cons.1 hx with rfl | hx
    · exact List.eq_nil_of_length_eq_zero (by omega)
    · exact ih (by omega) x hx
theorem merge_ex : ∀ (n : Nat) (R : List (List Ft)), total R = n → ∃ out, Merge R out
  | 0, R, h => ⟨[], .done R (total_zero h)⟩
  | n + 1, R, h => by
    obtain ⟨b, hb⟩ := best_ex R R.length
    match b, hb with
    | none, hb =>
      exfalso
      have : ∀ x ∈ R, x = [] := fun x hx => by
        obtain ⟨k, hk, rfl⟩ := List.mem_iff_getElem.1 hx
        match hr : R[k] with
        | [] => rfl
        | g :: u => exact absurd (by rw [List.getElem?_eq_getElem hk, hr]) (hb k hk g u)
      have := total_none this
      omega
    | some i, ⟨h1, f, t, h2, h3⟩ =>
      obtain ⟨out, ho⟩ := merge_ex n (R.set i t) (by have := total_set h2; omega)
      exact ⟨f :: out, .step R i f t out h2 (fun k g u e => h3 k (by have := List.getElem?_eq_some_iff.1 e; exact this.1) g u e) ho⟩
theorem merge_total (R : List (List Ft)) : ∃ out, Merge R out := merge_ex _ R rfl
theorem Merge.len {R : List (List Ft)} {out : List Ft} (h : Merge R out) : out.length = total R := by
  induction h with
  | done R h =>
    rw [total_none h]
    rfl
  | step R i f t out hi hm _ ih => rw [total_set hi, List.length_cons, ih]

/-! ### each fact once -/
instance : DecidableEq Ft := fun f g => by
  obtain ⟨a1, a2, a3, a4, a5, a6⟩ := f
  obtain ⟨b1, b2, b3, b4, b5, b6⟩ := g
  rw [Ft.mk.injEq]
  exact inferInstance
def ddS (acc : List Ft) (f : Ft) : List Ft := if acc.getLast? = some f then acc else acc ++ [f]
def dd (raw : List Ft) : List Ft := raw.foldl ddS []
theorem dd_snoc (raw : List Ft) (f : Ft) : dd (raw ++ [f]) = ddS (dd raw) f := by simp [dd]
theorem snoc_ind {α : Type} {P : List α → Prop} (h0 : P []) (h1 : ∀ l f, P l → P (l ++ [f])) : ∀ (n : Nat) (l : List α), l.length = n → P l
  | 0, l, h => by rw [List.eq_nil_of_length_eq_zero h]; exact h0
  | n + 1, l, h => by
    have hne : l ≠ [] := fun e => by rw [e] at h; cases h
    rw [← List.dropLast_concat_getLast hne]
    exact h1 _ _ (snoc_ind h0 h1 n _ (by simp; omega))
theorem dd_last (raw : List Ft) : (dd raw).getLast? = raw.getLast? := by
  refine snoc_ind (P := fun raw => (dd raw).getLast? = raw.getLast?) rfl (fun l f _ => ?_) _ raw rfl
  rw [dd_snoc]
  unfold ddS
  split
  · rename_i h; rw [h]; simp
  · simp
theorem dd_sub (raw : List Ft) : (dd raw).Sublist raw := by
  refine snoc_ind (P := fun raw => (dd raw).Sublist raw) (List.Sublist.refl _) (fun l f ih => ?_) _ raw rfl
  rw [dd_snoc]
  unfold ddS
  split
  · exact ih.trans (List.sublist_append_left _ _)
  · exact List.Sublist.append ih (List.Sublist.refl _)
theorem dd_mem (raw : List Ft) (f : Ft) : f ∈ dd raw ↔ f ∈ raw := by
  refine ⟨fun h => (dd_sub raw).subset h, ?_⟩
  refine snoc_ind (P := fun raw => f ∈ raw → f ∈ dd raw) (fun h => h) (fun l g ih h => ?_) _ raw rfl
  rw [dd_snoc]
  unfold ddS
  rcases List.mem_append.1 h with h | h
  · split
    · exact ih h
    · exact List.mem_append_left _ (ih h)
  · obtain rfl := List.mem_singleton.1 h
    split
    · rename_i e; exact List.mem_of_getLast? e
    · exact List.mem_append_right _ (by simp)
/-- No two next to one another are the same. -/
theorem dd_apart (raw : List Ft) : ∀ k, ∀ f g, (dd raw)[k]? = some f → (dd raw)[k + 1]? = some g → f ≠ g := by
  refine snoc_ind (P := fun raw => ∀ k, ∀ f g, (dd raw)[k]? = some f → (dd raw)[k + 1]? = some g → f ≠ g) (fun k f g h => by cases h) (fun l x ih => ?_) _ raw rfl
  rw [dd_snoc]
  unfold ddS
  split
  · exact ih
  · rename_i hx
    intro k f g hf hg e
    subst e
    rcases Nat.lt_trichotomy (k + 1) (dd l).length with h | h | h
    · rw [List.getElem?_append_left (by omega)] at hf hg
      exact ih k f f hf hg rfl
    · rw [List.getElem?_append_left (by omega)] at hf
      rw [List.getElem?_append_right (by omega), h, Nat.sub_self] at hg
      simp only [List.getElem?_cons_zero, Option.some.injEq] at hg
      subst hg
      refine hx ?_
      rw [List.getLast?_eq_getElem?, ← h]
      exact hf
    · rw [List.getElem?_append_right (by omega)] at hg
      have : k + 1 - (dd l).length ≠ 0 := by omega
      obtain ⟨q, hq⟩ := Nat.exists_eq_succ_of_ne_zero this
      rw [hq] at hg
      cases hg
theorem dd_prefix (a b : List Ft) : dd a <+: dd (a ++ b) := by
  refine snoc_ind (P := fun b => dd a <+: dd (a ++ b)) (by rw [List.append_nil]; exact List.prefix_refl _) (fun l f ih => ?_) _ b rfl
  rw [← List.append_assoc, dd_snoc]
  unfold ddS
  split
  · exact ih
  · exact ih.trans (List.prefix_append _ _)
end Herb.Jn
