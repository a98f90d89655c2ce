/- Skip lists: the plain law. No program. -/
import Derived.Test.YtidnhcningkcaaaDoorBase
import Derived.Test.YtidnhcningkcaaaDoorLess
set_option linter.unusedSimpArgs false
set_option linter.unusedVariables false
namespace Herb
open Go
/-- A node: its key and where that lies, its number, and on each floor the next one's place. -/
structure Nd where
  key : List UInt8
  n : Int
  A : Option Addr
  c : Nat
  nx : List Nat
def Nd.zero : Nd := ⟨[], 0, none, 0, List.replicate 8 0⟩
def Nd.cells (d : Nd) : List Value := .slice d.A d.key.length d.c :: .int .i64 d.n :: d.nx.map (fun (k : Nat) => .int .i64 (k : Int))
def flat (N : List Nd) : List Value := N.flatMap Nd.cells
def keyOf (N : List Nd) (i : Nat) : List UInt8 := (N.getD i Nd.zero).key
def numOf (N : List Nd) (i : Nat) : Int := (N.getD i Nd.zero).n
def nxOf (N : List Nd) (f i : Nat) : Nat := (N.getD i Nd.zero).nx.getD f 0
/-- A node's floor is laid. -/
def setNx (N : List Nd) (i f v : Nat) : List Nd := N.set i { N.getD i Nd.zero with nx := (N.getD i Nd.zero).nx.set f v }
def Ok8 (N : List Nd) : Prop := ∀ d ∈ N, d.nx.length = 8
section
variable {N : List Nd}
theorem setNx_length (i f v : Nat) : (setNx N i f v).length = N.length := by simp [setNx]
theorem getD_mem {i : Nat} (h : i < N.length) : N.getD i Nd.zero ∈ N := by
  simp [List.getD, h]
theorem Ok8.set (h : Ok8 N) (i f v : Nat) : Ok8 (setNx N i f v) := by
  intro d hd
  unfold setNx at hd
  rcases Nat.lt_or_ge i N.length with hi | hi
  · rcases List.mem_or_eq_of_mem_set hd with h1 | h1
    · exact h d h1
    · rw [h1]
      simp only [List.length_set]
      exact h _ (getD_mem hi)
  · rw [List.set_eq_of_length_le hi] at hd
    exact h d hd
theorem getD_setNx {i : Nat} (hi : i < N.length) (f v k : Nat) : (setNx N i f v).getD k Nd.zero = if k = i then { N.getD i Nd.zero with nx := (N.getD i Nd.zero).nx.set f v } else N.getD k Nd.zero := by
  unfold setNx
  simp only [List.getD, List.getElem?_set]
  by_cases h : i = k
  · subst h
    simp [hi]
  · rw [if_neg h, if_neg (fun e => h e.symm)]
theorem keyOf_setNx {i : Nat} (hi : i < N.length) (f v k : Nat) : keyOf (setNx N i f v) k = keyOf N k := by
  unfold keyOf
  rw [getD_setNx hi]
  split
  · rename_i e; rw [e]
  · rfl
theorem numOf_setNx {i : Nat} (hi : i < N.length) (f v k : Nat) : numOf (setNx N i f v) k = numOf N k := by
  unfold numOf
  rw [getD_setNx hi]
  split
  · rename_i e; rw [e]
  · rfl
theorem nxOf_setNx (h8 : Ok8 N) {i f : Nat} (hi : i < N.length) (hf : f < 8) (v k g : Nat) : nxOf (setNx N i f v) g k = if k = i ∧ g = f then v else nxOf N g k := by
  unfold nxOf
  rw [getD_setNx hi]
  have hl := h8 _ (getD_mem hi)
  by_cases h : k = i
  · subst h
    rw [if_pos rfl]
    simp only [List.getD, List.getElem?_set]
    by_cases h2 : f = g
    · subst h2
      have : f < (N[k]?.getD Nd.zero).nx.length := by
        have : N.getD k Nd.zero = N[k]?.getD Nd.zero := rfl
        rw [← this, hl]; exact hf
      simp [this]
    · simp [h2]
      intro e
      exact absurd e.symm h2
  · rw [if_neg h, if_neg (fun e => h e.1)]
end
/-! ### chains -/
def Chain (nx : Nat → Nat) : List Nat → Prop
  | [] => True
  | [a] => nx a = 0
  | a :: b :: r => nx a = b ∧ Chain nx (b :: r)
theorem Chain.tail {nx : Nat → Nat} {a : Nat} {l : List Nat} (h : Chain nx (a :: l)) : Chain nx l := by
  cases l with
  | nil => trivial
  | cons b r => exact h.2
theorem Chain.congr {nx nx' : Nat → Nat} : ∀ {l : List Nat}, Chain nx l → (∀ i ∈ l, nx' i = nx i) → Chain nx' l
  | [], _, _ => trivial
  | [a], h, hc => (hc a (by simp)).trans h
  | a :: b :: r, h, hc => ⟨(hc a (by simp)).trans h.1, Chain.congr h.2 (fun i hi => hc i (by simp only [List.mem_cons] at hi ⊢; exact .inr hi))⟩
theorem Chain.mid {nx : Nat → Nat} {a : Nat} {B : List Nat} : ∀ {X : List Nat}, Chain nx (X ++ a :: B) → nx a = B.headD 0
  | [], h => by
    cases B with
    | nil => exact h
    | cons b r => exact h.1
  | x :: X, h => Chain.mid (X := X) (Chain.tail h)
theorem Chain.ins {nx nx' : Nat → Nat} {a p : Nat} {B : List Nat} (ha : nx' a = p) (hp : nx' p = B.headD 0) (ho : ∀ i, i ≠ a → i ≠ p → nx' i = nx i) :
    ∀ {X : List Nat}, Chain nx (X ++ a :: B) → a ∉ X → p ∉ X → a ∉ B → p ∉ B → Chain nx' (X ++ a :: p :: B)
  | [], h, _, _, h3, h4 => by
    refine ⟨ha, ?_⟩
    cases B with
    | nil => exact hp
    | cons b r => exact ⟨hp, Chain.congr (Chain.tail h) (fun i hi => ho i (fun e => h3 (e ▸ hi)) (fun e => h4 (e ▸ hi)))⟩
  | [x], h, h1, h2, h3, h4 => by
    have hi := Chain.ins ha hp ho (X := []) (Chain.tail h) (by simp) (by simp) h3 h4
    refine ⟨?_, hi⟩
    rw [ho x (fun e => h1 (by simp [e])) (fun e => h2 (by simp [e]))]
    exact h.1
  | x :: y :: X, h, h1, h2, h3, h4 => by
    have hi := Chain.ins ha hp ho (X := y :: X) (Chain.tail h) (fun e => h1 (List.mem_cons_of_mem _ e)) (fun e => h2 (List.mem_cons_of_mem _ e)) h3 h4
    refine ⟨?_, hi⟩
    rw [ho x (fun e => h1 (by simp [e])) (fun e => h2 (by simp [e]))]
    exact h.1
/-! ### the invariant -/
/-- L: the places in the order of their keys; h: the towers' heights. -/
structure Inv (N : List Nd) (L : List Nat) (h : Nat → Nat) : Prop where
  ok8 : Ok8 N
  nodup : L.Nodup
  lt : ∀ i ∈ L, 0 < i ∧ i < N.length
  len : L.length + 1 = N.length
  rise : L.Pairwise (fun i j => less (keyOf N i) (keyOf N j) = true)
  chain : ∀ f, f < 8 → Chain (nxOf N f) (0 :: L.filter (fun i => decide (f < h i)))
  high : ∀ i ∈ L, 0 < h i
/-- Those whose keys stand ahead of one; the others. -/
def aheadL (N : List Nd) (L : List Nat) (K : List UInt8) : List Nat := L.takeWhile (fun i => less (keyOf N i) K)
def restL (N : List Nd) (L : List Nat) (K : List UInt8) : List Nat := L.dropWhile (fun i => less (keyOf N i) K)
theorem ahead_rest (N : List Nd) (L : List Nat) (K : List UInt8) : aheadL N L K ++ restL N L K = L := List.takeWhile_append_dropWhile
/-- On each floor the place of the last one ahead. -/
def onFloor (h : Nat → Nat) (f : Nat) (l : List Nat) : List Nat := l.filter (fun i => decide (f < h i))
def topOf (N : List Nd) (L : List Nat) (h : Nat → Nat) (K : List UInt8) (f : Nat) : Nat := (onFloor h f (aheadL N L K)).getLastD 0
theorem ahead_less {N : List Nd} {L : List Nat} {K : List UInt8} {i : Nat} (hi : i ∈ aheadL N L K) : less (keyOf N i) K = true := (List.all_eq_true.1 (List.all_takeWhile (p := fun i => less (keyOf N i) K) (l := L))) i hi
theorem ahead_mem {N : List Nd} {L : List Nat} {K : List UInt8} {i : Nat} (hi : i ∈ aheadL N L K) : i ∈ L := by
  rw [← ahead_rest N L K]
  exact List.mem_append_left _ hi
theorem rest_mem {N : List Nd} {L : List Nat} {K : List UInt8} {i : Nat} (hi : i ∈ restL N L K) : i ∈ L := by
  rw [← ahead_rest N L K]
  exact List.mem_append_right _ hi
section
variable {N : List Nd} {L : List Nat} {h : Nat → Nat} (I : Inv N L h) (K : List UInt8)
include I
theorem Inv.rest_not {i : Nat} (hi : i ∈ restL N L K) : less (keyOf N i) K = false := by
  obtain ⟨r, hr⟩ : ∃ r, restL N L K = r := ⟨_, rfl⟩
  have hp := I.rise
  rw [← ahead_rest N L K, hr] at hp
  rw [hr] at hi
  have hp2 := (List.pairwise_append.1 hp).2.1
  cases r with
  | nil => cases hi
  | cons b r =>
    have hb : less (keyOf N b) K = false := by
      have := List.head?_dropWhile_not (fun i => less (keyOf N i) K) L
      unfold restL at hr
      rw [hr] at this
      simpa using this
    rcases List.mem_cons.1 hi with rfl | hi
    · exact hb
    · have hbi := (List.pairwise_cons.1 hp2).1 i hi
      rcases hc : less (keyOf N i) K with _ | _
      · rfl
      · rw [less_trans hbi hc] at hb; cases hb
theorem Inv.floor (f : Nat) (hf : f < 8) : Chain (nxOf N f) (0 :: onFloor h f (aheadL N L K) ++ onFloor h f (restL N L K)) := by
  have := I.chain f hf
  rw [← ahead_rest N L K, List.filter_append] at this
  exact this
end
theorem onFloor_sub {h : Nat → Nat} {f : Nat} {l : List Nat} {i : Nat} (hi : i ∈ onFloor h (f + 1) l) : i ∈ onFloor h f l := by
  unfold onFloor at *
  rw [List.mem_filter] at hi ⊢
  exact ⟨hi.1, by have := hi.2; simp at this ⊢; omega⟩
theorem last_split {A X : List Nat} {a : Nat} (h : 0 :: A = X ++ [a]) : a = A.getLastD 0 := by
  have h1 : (0 :: A).getLast? = some a := by rw [h]; simp
  rw [List.getLast?_cons] at h1
  simp at h1
  rw [List.getLastD_eq_getLast?]
  exact h1.symm
theorem split_last (A : List Nat) : ∃ X, 0 :: A = X ++ [A.getLastD 0] := by
  have hne : (0 :: A) ≠ [] := by simp
  refine ⟨(0 :: A).dropLast, ?_⟩
  conv => lhs; rw [← List.dropLast_concat_getLast hne]
  congr 2
  rw [List.getLastD_eq_getLast?, List.getLast_eq_iff_getLast?_eq_some, List.getLast?_cons]
theorem drop_split {A X S : List Nat} {a : Nat} (h : A = X ++ a :: S) (hn : A.Nodup) : (A.dropWhile (fun i => i != a)).length = S.length + 1 := by
  subst h
  have hx : ∀ x ∈ X, x ≠ a := fun x hx e => by
    rw [List.nodup_append] at hn
    exact hn.2.2 x hx a (by simp) e
  have : (X ++ a :: S).dropWhile (fun i => i != a) = a :: S := by
    clear hn
    induction X with
    | nil => simp
    | cons x X ih =>
      rw [List.cons_append, List.dropWhile_cons_of_pos (by simpa using hx x (by simp))]
      exact ih (fun y hy => hx y (by simp [hy]))
  rw [this]
  simp
end Herb
