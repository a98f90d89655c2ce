/- Skip lists by what they tell: contracts of New, Put, Len, all, same. -/
import Derived.Test.YtdifdbkbpeanhaaDoorSkNew
import Derived.Test.YtdifdbkbpeanhaaDoorSkAll
import Derived.Laws.StructEq
set_option linter.unusedSimpArgs false
set_option linter.unusedVariables false
namespace Herb
open Go Go.RowKit
/-- A key more, if it is none of those that are there. -/
def putM (M : List (List UInt8 × Int)) (K : List UInt8) (n : Int) : List (List UInt8 × Int) := if hasM M K = true then M else insM M K n
theorem insM_length (M : List (List UInt8 × Int)) (K : List UInt8) (n : Int) : (insM M K n).length = M.length + 1 := by
  unfold insM
  have := congrArg List.length (List.takeWhile_append_dropWhile (p := fun x => less x.1 K) (l := M))
  rw [List.length_append] at this
  simp only [List.length_append, List.length_cons]
  omega
theorem putM_length (M : List (List UInt8 × Int)) (K : List UInt8) (n : Int) : (putM M K n).length ≤ M.length + 1 := by
  unfold putM
  split
  · omega
  · rw [insM_length]; omega
theorem pairsC_length (M : List (List UInt8 × Int)) : (pairsC M).length = M.length * 2 := by
  unfold pairsC
  induction M with
  | nil => rfl
  | cons x M ih => rw [List.flatMap_cons, List.length_append, ih, List.length_cons]; simp [pairC]; omega
theorem pairsC_get : ∀ {M : List (List UInt8 × Int)} {i : Nat} (h : i < M.length), (pairsC M)[i * 2]? = some (.string ⟨M[i].1.toArray⟩) ∧ (pairsC M)[i * 2 + 1]? = some (.int .i64 M[i].2)
  | x :: M, 0, _ => ⟨rfl, rfl⟩
  | x :: M, i + 1, h => by
    have ih := pairsC_get (M := M) (i := i) (by simpa using h)
    have e : pairsC (x :: M) = pairC x ++ pairsC M := rfl
    rw [e]
    have l2 : (pairC x).length = 2 := rfl
    rw [List.getElem?_append_right (by omega), List.getElem?_append_right (by omega), l2, show (i + 1) * 2 - 2 = i * 2 by omega, show (i + 1) * 2 + 1 - 2 = i * 2 + 1 by omega]
    exact ih
theorem fromM_nil (M : List (List UInt8 × Int)) : fromM M [] = M := by
  unfold fromM
  cases M with
  | nil => rfl
  | cons x M => rw [List.dropWhile_cons_of_neg (by rw [less_nil]; simp)]
end Herb
namespace Go.Proofs.YtdifdbkbpeanhaaDoor
open Go Go.RowKit Herb
/-- A list at p (its nodes in block g) that tells M. -/
def SkL (w : World) (base p g : Nat) (M : List (List UInt8 × Int)) : Prop := ∃ N L h cap, Inv N L h ∧ SkAt w base p g cap N ∧ toldL N L = M
section
variable {w w' : World} {base p g : Nat} {M : List (List UInt8 × Int)}
theorem SkL.keep {S : Nat → Prop} (h : SkL w base p g M) (hk : KeepBut S w w') (hp : ¬ S p) (hg : ¬ S g) (hs : ∀ k cs fr, w.heap[k]? = some (.cells cs 5 fr) → ¬ S k) : SkL w' base p g M := by
  obtain ⟨N, L, hh, cap, I, hS, ht⟩ := h
  exact ⟨N, L, hh, cap, I, hS.keep hk hp hg hs, ht⟩
theorem SkL.below (h : SkL w base p g M) (hb : Below w.heap.size w w') : SkL w' base p g M := by
  obtain ⟨N, L, hh, cap, I, hS, ht⟩ := h
  exact ⟨N, L, hh, cap, I, hS.below hb, ht⟩
theorem SkL.mono {base' : Nat} (h : SkL w base p g M) (hb : base' ≤ base) : SkL w base' p g M := by
  obtain ⟨N, L, hh, cap, I, hS, ht⟩ := h
  exact ⟨N, L, hh, cap, I, ⟨hS.box, hS.row.mono hb, hS.keys, Nat.le_trans hb hS.pb⟩, ht⟩
theorem SkL.lt (h : SkL w base p g M) : p < w.heap.size ∧ g < w.heap.size ∧ base ≤ p ∧ base ≤ g ∧ p ≠ g := by
  obtain ⟨N, L, hh, cap, I, hS, ht⟩ := h
  obtain ⟨_, _, hbg, _⟩ := hS.gblk
  exact ⟨hS.lt.1, hS.lt.2, hS.pb, hbg, hS.ne⟩
/-- What a list's blocks are: none is bytes, one is a list's, one its nodes'. -/
theorem SkL.types (h : SkL w base p g M) : (∃ cs fr, w.heap[p]? = some (.cells cs 81 fr)) ∧ (∃ cs fr, w.heap[g]? = some (.cells cs 91 fr)) := by
  obtain ⟨N, L, hh, cap, I, hS, ht⟩ := h
  obtain ⟨cur, hg, _⟩ := hS.gblk
  exact ⟨⟨_, _, hS.box⟩, ⟨cur, _, hg⟩⟩
theorem SkL.bytes (h : SkL w base p g M) {k : Nat} {cs : Array Value} {fr : Nat × Nat} (hk : w.heap[k]? = some (.cells cs 5 fr)) : ¬ (k = p ∨ k = g) := by
  obtain ⟨⟨c1, f1, h1⟩, ⟨c2, f2, h2⟩⟩ := h.types
  rintro (rfl | rfl)
  · rw [h1] at hk
    injection hk with hk
    injection hk with _ ht
    exact absurd ht (by decide)
  · rw [h2] at hk
    injection hk with hk
    injection hk with _ ht
    exact absurd ht (by decide)
theorem told_len {N : List Nd} {L : List Nat} {h : Nat → Nat} (I : Inv N L h) : N.length = (toldL N L).length + 1 := by
  have := I.len
  unfold toldL
  rw [List.length_map]
  omega
end
theorem newL (w : World) : Calls Tryd.prog 21 #[] w fun e w' => ∃ p g, e = .returned (.pointer (some ⟨p, 0, none⟩)) ∧ SkL w' w.heap.size p g [] ∧ Below w.heap.size w w' :=
  (new_any w).mono fun e w' ⟨p, g, cap, he, hS, hb⟩ => ⟨p, g, he, ⟨_, _, _, cap, Inv.new, hS, rfl⟩, hb⟩
theorem putL_bad (w : World) (base p g : Nat) (M : List (List UInt8 × Int)) (hS : SkL w base p g M) (A : Option Addr) (n c : Nat) (x H : Int) (hH : H < 1 ∨ 8 < H) :
    Calls Tryd.prog 24 #[.pointer (some ⟨p, 0, none⟩), .slice A n c, .int .i64 x, .int .i64 H] w fun e w' => e = .returned (.int .i64 1) ∧ w = w' := by
  obtain ⟨N, L, hh, cap, I, hA, ht⟩ := hS
  exact put_bad w base p g cap N hA (by have := I.len; omega) A n c x H hH
theorem putL_there (w : World) (base p g : Nat) (M : List (List UInt8 × Int)) (hS : SkL w base p g M) (hM : M.length ≤ 100000) (K : List UInt8) (A : Option Addr) (n c : Nat) (hn : K.length = n) (hb : Bs w A K) (x H : Int) (hH1 : 1 ≤ H) (hH8 : H ≤ 8) (hh : hasM M K = true) :
    Calls Tryd.prog 24 #[.pointer (some ⟨p, 0, none⟩), .slice A n c, .int .i64 x, .int .i64 H] w fun e w' => e = .returned (.int .i64 8) ∧ Below w.heap.size w w' := by
  obtain ⟨N, L, h, cap, I, hA, ht⟩ := hS
  have hl := told_len I
  rw [ht] at hl
  exact put_there w base p g cap N L h I hA _ hl (by omega) K A n c hn hb x H hH1 hH8 (by rw [ht]; exact hh)
theorem putL_new (w : World) (base p g : Nat) (M : List (List UInt8 × Int)) (hS : SkL w base p g M) (hM : M.length ≤ 100000) (K : List UInt8) (A : Option Addr) (n c : Nat) (hn : K.length = n) (hn2 : n ≤ 140737488355328) (hb : Bs w A K) (x H : Int) (hH1 : 1 ≤ H) (hH8 : H ≤ 8) (hh : hasM M K = false) :
    Calls Tryd.prog 24 #[.pointer (some ⟨p, 0, none⟩), .slice A n c, .int .i64 x, .int .i64 H] w fun e w' => ∃ g', e = .returned (.int .i64 0) ∧ SkL w' base p g' (insM M K x) ∧ KeepBut (fun k => k = p ∨ k = g) w w' ∧ (g' = g ∨ w.heap.size ≤ g') := by
  obtain ⟨N, L, h, cap, I, hA, ht⟩ := hS
  have hl := told_len I
  rw [ht] at hl
  obtain ⟨m, rfl⟩ : ∃ m : Nat, H = (m : Int) := ⟨H.toNat, by omega⟩
  have hno : hasM (toldL N L) K = false := by rw [ht]; exact hh
  refine (put_new w base p g cap N L h I hA _ hl (by omega) K A n c hn hn2 hb x m (by omega) (by omega) hno).mono ?_
  rintro e w' ⟨g', cap', A', c', rfl, hS', hk, hg⟩
  have hI := I.ins K m (by omega) (by omega) ⟨K, x, A', c', []⟩ rfl (fun i hi e => by
    rw [hasM_head I] at hno
    have hno' := hno
    have h1 := I.rest_not K hi
    rcases hr : restL N L K with _ | ⟨b, R⟩
    · rw [hr] at hi; cases hi
    · rw [hr] at hno' hi
      simp only [List.head?_cons, Option.map_some, Option.getD_some] at hno'
      rcases List.mem_cons.1 hi with rfl | hi'
      · have e' : Herb.keyOf N i = K := e
        rw [e'] at hno'
        simp at hno'
      · have hri : (aheadL N L K ++ restL N L K).Pairwise (fun i j => less (Herb.keyOf N i) (Herb.keyOf N j) = true) := by rw [ahead_rest]; exact I.rise
        have h2 := (List.pairwise_append.1 hri).2.1
        rw [hr] at h2
        have h3 := (List.pairwise_cons.1 h2).1 i hi'
        have e' : Herb.keyOf N i = K := e
        rw [e', I.rest_not K (by rw [hr]; simp)] at h3
        cases h3)
  have htl := toldL_ins I K m ⟨K, x, A', c', []⟩ rfl
  rw [ht] at htl
  exact ⟨g', rfl, ⟨_, _, _, cap', hI, hS', htl⟩, hk, hg⟩
/-- Put at a height that may be. -/
theorem putL (w : World) (base p g : Nat) (M : List (List UInt8 × Int)) (hS : SkL w base p g M) (hM : M.length ≤ 100000) (K : List UInt8) (A : Option Addr) (n c : Nat) (hn : K.length = n) (hn2 : n ≤ 140737488355328) (hb : Bs w A K) (x H : Int) (hH1 : 1 ≤ H) (hH8 : H ≤ 8) :
    Calls Tryd.prog 24 #[.pointer (some ⟨p, 0, none⟩), .slice A n c, .int .i64 x, .int .i64 H] w fun e w' => ∃ g' e0, e = .returned (.int .i64 e0) ∧ e0 = (if hasM M K = true then 8 else 0) ∧ SkL w' base p g' (putM M K x) ∧ KeepBut (fun k => k = p ∨ k = g) w w' ∧ (g' = g ∨ w.heap.size ≤ g') := by
  unfold putM
  rcases hh : hasM M K with _ | _
  · refine (putL_new w base p g M hS hM K A n c hn hn2 hb x H hH1 hH8 hh).mono ?_
    rintro e w' ⟨g', rfl, h1, h2, h3⟩
    exact ⟨g', 0, rfl, rfl, h1, h2, h3⟩
  · refine (putL_there w base p g M hS hM K A n c hn hb x H hH1 hH8 hh).mono ?_
    rintro e w' ⟨rfl, h1⟩
    exact ⟨g, 8, rfl, rfl, hS.below h1, KeepBut.of_below h1, .inl rfl⟩
end Go.Proofs.YtdifdbkbpeanhaaDoor
