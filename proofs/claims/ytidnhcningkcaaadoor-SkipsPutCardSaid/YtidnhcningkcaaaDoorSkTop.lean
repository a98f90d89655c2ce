/- Skip lists by what they tell: contracts of New, Put, Len, all, same. -/
import Derived.Test.YtidnhcningkcaaaDoorSkNew
import Derived.Test.YtidnhcningkcaaaDoorSkAll
import Derived.Laws.StructEq
set_option linter.unusedSimpArgs false
set_option linter.unusedVariables false
namespace Herb
open Go Go.RowKit
/-- A key more, if it is none of those that are there. -/
def putM (M : List (List UInt8 × Int)) (K : List UInt8) (n : Int) : List (List UInt8 × Int) := if hasM M K = true then M else insM M K n
theorem insM_length (M : List (List UInt8 × Int)) (K : List UInt8) (n : Int) : (insM M K n).length = M.length + 1 := by
  unfold insM
  have := congrArg List.length (List.takeWhile_append_dropWhile (p := fun x => less x.1 K) (l := M))
  rw [List.length_append] at this
  simp only [List.length_append, List.length_cons]
  omega
theorem putM_length (M : List (List UInt8 × Int)) (K : List UInt8) (n : Int) : (putM M K n).length ≤ M.length + 1 := by
  unfold putM
  split
  · omega
  · rw [insM_length]; omega
theorem pairsC_length (M : List (List UInt8 × Int)) : (pairsC M).length = M.length * 2 := by
  unfold pairsC
  induction M with
  | nil => rfl
  | cons x M ih => rw [List.flatMap_cons, List.length_append, ih, List.length_cons]; simp [pairC]; omega
theorem pairsC_get : ∀ {M : List (List UInt8 × Int)} {i : Nat} (h : i < M.length), (pairsC M)[i * 2]? = some (.string ⟨M[i].1.toArray⟩) ∧ (pairsC M)[i * 2 + 1]? = some (.int .i64 M[i].2)
  | x :: M, 0, _ => ⟨rfl, rfl⟩
  | x :: M, i + 1, h => by
    have ih := pairsC_get (M := M) (i := i) (by simpa using h)
    have e : pairsC (x :: M) = pairC x ++ pairsC M := rfl
    rw [e]
    have l2 : (pairC x).length = 2 := rfl
    rw [List.getElem?_append_right (by omega), List.getElem?_append_right (by omega), l2, show (i + 1) * 2 - 2 = i * 2 by omega, show (i + 1) * 2 + 1 - 2 = i * 2 + 1 by omega]
    exact ih
theorem fromM_nil (M : List (List UInt8 × Int)) : fromM M [] = M := by
  unfold fromM
  cases M with
  | nil => rfl
  | cons x M => rw [List.dropWhile_cons_of_neg (by rw [less_nil]; simp)]
end Herb
namespace Go.Proofs.YtidnhcningkcaaaDoor
open Go Go.RowKit Herb
/-- A list at p (its nodes in block g) that tells M. -/
def SkL (w : World) (base p g : Nat) (M : List (List UInt8 × Int)) : Prop := ∃ N L h cap, Inv N L h ∧ SkAt w base p g cap N ∧ toldL N L = M
section
variable {w w' : World} {base p g : Nat} {M : List (List UInt8 × Int)}
theorem SkL.keep {S : Nat → Prop} (h : SkL w base p g M) (hk : KeepBut S w w') (hp : ¬ S p) (hg : ¬ S g) (hs : ∀ k cs fr, w.heap[k]? = some (.cells cs 5 fr) → ¬ S k) : SkL w' base p g M := by
  obtain ⟨N, L, hh, cap, I, hS, ht⟩ := h
  exact ⟨N, L, hh, cap, I, hS.keep hk hp hg hs, ht⟩
theorem SkL.below (h : SkL w base p g M) (hb : Below w.heap.size w w') : SkL w' base p g M := by
  obtain ⟨N, L, hh, cap, I, hS, ht⟩ := h
  exact ⟨N, L, hh, cap, I, hS.below hb, ht⟩
theorem SkL.mono {base' : Nat} (h : SkL w base p g M) (hb : base' ≤ base) : SkL w base' p g M := by
  obtain ⟨N, L, hh, cap, I, hS, ht⟩ := h
  exact ⟨N, L, hh, cap, I, ⟨hS.box, hS.row.mono hb, hS.keys, Nat.le_trans hb hS.pb⟩, ht⟩
theorem SkL.lt (h : SkL w base p g M) : p < w.heap.size ∧ g < w.heap.size ∧ base ≤ p ∧ base ≤ g ∧ p ≠ g := by
  obtain ⟨N, L, hh, cap, I, hS, ht⟩ := h
  obtain ⟨_, _, hbg, _⟩ := hS.gblk
  exact ⟨hS.lt.1, hS.lt.2, hS.pb, hbg, hS.ne⟩
/-- What a list's blocks are: none is bytes, one is a list's, one its nodes'. -/
theorem SkL.types (h : SkL w base p g M) : (∃ cs fr, w.heap[p]? = some (.cells cs 45 fr)) ∧ (∃ cs fr, w.heap[g]? = some (.cells cs 54 fr)) := by
  obtain ⟨N, L, hh, cap, I, hS, ht⟩ := h
  obtain ⟨cur, hg, _⟩ := hS.gblk
  exact ⟨⟨_, _, hS.box⟩, ⟨cur, _, hg⟩⟩
theorem SkL.bytes (h : SkL w base p g M) {k : Nat} {cs : Array Value} {fr : Nat × Nat} (hk : w.heap[k]? = some (.cells cs 5 fr)) : ¬ (k = p ∨ k = g) := by
  obtain ⟨⟨c1, f1, h1⟩, ⟨c2, f2, h2⟩⟩ := h.types
  rintro (rfl | rfl)
  · rw [h1] at hk
    injection hk with hk
    injection hk with _ ht
    exact absurd ht (by decide)
  · rw [h2] at hk
    injection hk with hk
    injection hk with _ ht
    exact absurd ht (by decide)
theorem told_len {N : List Nd} {L : List Nat} {h : Nat → Nat} (I : Inv N L h) : N.length = (toldL N L).length + 1 := by
  have := I.len
  unfold toldL
  rw [List.length_map]
  omega
end
theorem newL (w : World) : Calls Tryd.prog 5 #[] w fun e w' => ∃ p g, e = .returned (.pointer (some ⟨p, 0, none⟩)) ∧ SkL w' w.heap.size p g [] ∧ Below w.heap.size w w' :=
  (new_any w).mono fun e w' ⟨p, g, cap, he, hS, hb⟩ => ⟨p, g, he, ⟨_, _, _, cap, Inv.new, hS, rfl⟩, hb⟩
theorem putL_bad (w : World) (base p g : Nat) (M : List (List UInt8 × Int)) (hS : SkL w base p g M) (A : Option Addr) (n c : Nat) (x H : Int) (hH : H < 1 ∨ 8 < H) :
    Calls Tryd.prog 8 #[.pointer (some ⟨p, 0, none⟩), .slice A n c, .int .i64 x, .int .i64 H] w fun e w' => e = .returned (.int .i64 1) ∧ w = w' := by
  obtain ⟨N, L, hh, cap, I, hA, ht⟩ := hS
  exact put_bad w base p g cap N hA (by have := I.len; omega) A n c x H hH
theorem putL_there (w : World) (base p g : Nat) (M : List (List UInt8 × Int)) (hS : SkL w base p g M) (hM : M.length ≤ 100000) (K : List UInt8) (A : Option Addr) (n c : Nat) (hn : K.length = n) (hb : Bs w A K) (x H : Int) (hH1 : 1 ≤ H) (hH8 : H ≤ 8) (hh : hasM M K = true) :
    Calls Tryd.prog 8 #[.pointer (some ⟨p, 0, none⟩), .slice A n c, .int .i64 x, .int .i64 H] w fun e w' => e = .returned (.int .i64 8) ∧ Below w.heap.size w w' := by
  obtain ⟨N, L, h, cap, I, hA, ht⟩ := hS
  have hl := told_len I
  rw [ht] at hl
  exact put_there w base p g cap N L h I hA _ hl (by omega) K A n c hn hb x H hH1 hH8 (by rw [ht]; exact hh)
theorem putL_new (w : World) (base p g : Nat) (M : List (List UInt8 × Int)) (hS : SkL w base p g M) (hM : M.length ≤ 100000) (K : List UInt8) (A : Option Addr) (n c : Nat) (hn : K.length = n) (hn2 : n ≤ 140737488355328) (hb : Bs w A K) (x H : Int) (hH1 : 1 ≤ H) (hH8 : H ≤ 8) (hh : hasM M K = false) :
    Calls Tryd.prog 8 #[.pointer (some ⟨p, 0, none⟩), .slice A n c, .int .i64 x, .int .i64 H] w fun e w' => ∃ g', e = .returned (.int .i64 0) ∧ SkL w' base p g' (insM M K x) ∧ KeepBut (fun k => k = p ∨ k = g) w w' ∧ (g' = g ∨ w.heap.size ≤ g') := by
  obtain ⟨N, L, h, cap, I, hA, ht⟩ := hS
  have hl := told_len I
  rw [ht] at hl
  obtain ⟨m, rfl⟩ : ∃ m : Nat, H = (m : Int) := ⟨H.toNat, by omega⟩
  have hno : hasM (toldL N L) K = false := by rw [ht]; exact hh
  refine (put_new w base p g cap N L h I hA _ hl (by omega) K A n c hn hn2 hb x m (by omega) (by omega) hno).mono ?_
  rintro e w' ⟨g', cap', A', c', rfl, hS', hk, hg, _⟩
  have hI := I.ins K m (by omega) (by omega) ⟨K, x, A', c', []⟩ rfl (fun i hi e => by
    rw [hasM_head I] at hno
    have hno' := hno
    have h1 := I.rest_not K hi
    rcases hr : restL N L K with _ | ⟨b, R⟩
    · rw [hr] at hi; cases hi
    · rw [hr] at hno' hi
      simp only [List.head?_cons, Option.map_some, Option.getD_some] at hno'
      rcases List.mem_cons.1 hi with rfl | hi'
      · have e' : Herb.keyOf N i = K := e
        rw [e'] at hno'
        simp at hno'
      · have hri : (aheadL N L K ++ restL N L K).Pairwise (fun i j => less (Herb.keyOf N i) (Herb.keyOf N j) = true) := by rw [ahead_rest]; exact I.rise
        have h2 := (List.pairwise_append.1 hri).2.1
        rw [hr] at h2
        have h3 := (List.pairwise_cons.1 h2).1 i hi'
        have e' : Herb.keyOf N i = K := e
        rw [e', I.rest_not K (by rw [hr]; simp)] at h3
        cases h3)
  have htl := toldL_ins I K m ⟨K, x, A', c', []⟩ rfl
  rw [ht] at htl
  exact ⟨g', rfl, ⟨_, _, _, cap', hI, hS', htl⟩, hk, hg⟩
/-- Put at a height that may be. -/
theorem putL (w : World) (base p g : Nat) (M : List (List UInt8 × Int)) (hS : SkL w base p g M) (hM : M.length ≤ 100000) (K : List UInt8) (A : Option Addr) (n c : Nat) (hn : K.length = n) (hn2 : n ≤ 140737488355328) (hb : Bs w A K) (x H : Int) (hH1 : 1 ≤ H) (hH8 : H ≤ 8) :
    Calls Tryd.prog 8 #[.pointer (some ⟨p, 0, none⟩), .slice A n c, .int .i64 x, .int .i64 H] w fun e w' => ∃ g' e0, e = .returned (.int .i64 e0) ∧ e0 = (if hasM M K = true then 8 else 0) ∧ SkL w' base p g' (putM M K x) ∧ KeepBut (fun k => k = p ∨ k = g) w w' ∧ (g' = g ∨ w.heap.size ≤ g') := by
  unfold putM
  rcases hh : hasM M K with _ | _
  · refine (putL_new w base p g M hS hM K A n c hn hn2 hb x H hH1 hH8 hh).mono ?_
    rintro e w' ⟨g', rfl, h1, h2, h3⟩
    exact ⟨g', 0, rfl, rfl, h1, h2, h3⟩
  · refine (putL_there w base p g M hS hM K A n c hn hb x H hH1 hH8 hh).mono ?_
    rintro e w' ⟨rfl, h1⟩
    exact ⟨g, 8, rfl, rfl, hS.below h1, KeepBut.of_below h1, .inl rfl⟩
theorem lenL (w : World) (base p g : Nat) (M : List (List UInt8 × Int)) (hS : SkL w base p g M) (hM : M.length ≤ 100000) (n : Nat) (hn : M.length = n) :
    Calls Tryd.prog 11 #[.pointer (some ⟨p, 0, none⟩)] w fun e w' => e = .returned (.int .i64 (n : Int)) ∧ w = w' := by
  obtain ⟨N, L, h, cap, I, hA, ht⟩ := hS
  have hl := told_len I
  rw [ht] at hl
  exact len_any w base p g cap N hA n (by omega) (by omega)
theorem allL (w : World) (base p g : Nat) (M : List (List UInt8 × Int)) (hS : SkL w base p g M) (hM : M.length ≤ 100000) (s : ByteArray) (K : List UInt8) (hK : s.data.toList = K) (hn2 : s.size ≤ 140737488355328) :
    Calls Tryd.prog 15 #[.pointer (some ⟨p, 0, none⟩), .string s] w fun e w' => ∃ A n c, e = .returned (.slice A n c) ∧ (fromM M K).length = n ∧ n ≤ c ∧ c ≤ maxLen ∧ Rd w' 2 A n (pairsC (fromM M K)) ∧ Below w.heap.size w w' := by
  obtain ⟨N, L, h, cap, I, hA, ht⟩ := hS
  have hl := told_len I
  rw [ht] at hl
  refine (all_any w base p g cap N L h I hA _ hl (by omega) s K hK _ rfl hn2).mono ?_
  rintro e w' ⟨v, rfl, hown, hb⟩
  rw [toldL_rest, ht] at hown
  obtain ⟨A, c, rfl⟩ := own_slice hown
  exact ⟨A, _, c, rfl, rfl, by
    rcases hown.2 with ⟨h1, h2⟩ | ⟨_, _, _, h1, _, _, h2, _⟩
    · simp only [Value.slice.injEq] at h1; omega
    · simp only [Value.slice.injEq] at h1; omega, by
    rcases hown.2 with ⟨h1, h2⟩ | ⟨_, _, _, h1, _, _, _, h2, _⟩
    · simp only [Value.slice.injEq] at h1; omega
    · simp only [Value.slice.injEq] at h1; omega, Rd.of_own hown, hb⟩
theorem pair_refl (W : World) (k : ByteArray) (z : Int) : (Op.equalIn 10000 42 (.agg #[.string k, .int .i64 z]) (.agg #[.string k, .int .i64 z])).run Tryd.prog W = .ok true W := by
  have hu := Tryd.underlying42
  rw [run_equalIn_struct W 9999 42 _ _ (by unfold Program.fieldsOf; rw [hu]) (by kernel_rfl)]
  unfold Program.fieldsOf
  rw [hu]
  simp only []
  have u9 := Tryd.underlying9
  have u3 := Tryd.underlying3
  have c9 : Tryd.prog.cellsOf 9 = 1 := by kernel_rfl
  have c3 : Tryd.prog.cellsOf 3 = 1 := by kernel_rfl
  go_simp
set_option maxHeartbeats 800000 in
theorem same_yes (w : World) (A B : Option Addr) (n c d : Nat) (M : List (List UInt8 × Int)) (hn : M.length = n) (hn2 : n ≤ 1000000) (ha : Rd w 2 A n (pairsC M)) (hb : Rd w 2 B n (pairsC M)) :
    Calls Tryd.prog 14 #[.slice A n c, .slice B n d] w fun e w' => e = .returned (.bool true) ∧ Below w.heap.size w w' := by
  have hgd : Tryd.prog.eqGuardType Tryd.prog.depth 42 = false := by kernel_rfl
  go_enter Tryd.func14, Tryd.ntmps14
  go_wp2
  go_loopw [5] (fun i wr => ∃ k : Nat, k ≤ n ∧ i = .int .i64 k ∧ Below w.heap.size w wr) (fun i _ => n - (intOf i).toNat)
  case atStart => exact ⟨0, by omega, rfl, Below.refl _ _⟩
  case round =>
    obtain ⟨k, hk, rfl, hbel⟩ := hrel
    by_cases hlt : k < n
    · obtain ⟨b, off, rfl, _, hc⟩ := (ha.below hbel).at_ hlt
      obtain ⟨b', off', rfl, _, hc'⟩ := (hb.below hbel).at_ hlt
      obtain ⟨g1, g2⟩ := pairsC_get (M := M) (i := k) (by omega)
      have x1 := hc _ _ g1
      have x2 := hc _ _ g2
      have y1 := hc' _ _ g1
      have y2 := hc' _ _ g2
      have heq := fun W => pair_refl W ⟨(M[k]'(by omega)).1.toArray⟩ (M[k]'(by omega)).2
      rw [← Nat.add_assoc] at x2 y2
      generalize (M[k]'(by omega)).1 = kk at *
      generalize (M[k]'(by omega)).2 = zz at *
      clear hc hc' g1 g2
      go_wp2
      go_quiet (fail)
      all_goals go_wp2
      all_goals go_roundw
      case rel => exact ⟨k + 1, by omega, by go_num, below_drewN hbel _⟩
      case measure => simp [intOf]; omega
    · go_wp2
      go_ret
      exact ⟨rfl, hbel⟩
end Go.Proofs.YtidnhcningkcaaaDoor
