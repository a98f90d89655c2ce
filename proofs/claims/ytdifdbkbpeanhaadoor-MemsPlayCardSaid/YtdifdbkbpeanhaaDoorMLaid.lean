/- Facts with heights and freezes as arguments. -/
import Derived.Test.YtdifdbkbpeanhaaDoorMg3
import Derived.Test.YtdifdbkbpeanhaaDoorMg2
set_option linter.unusedSimpArgs false
set_option linter.unusedVariables false
namespace Herb
open Go Go.RowKit
/-- A fact with its height, and whether it is frozen ahead of it. -/
structure LaM where
  f : Ft
  h : Int
  z : Bool
def LaM.cells (x : LaM) : List Value := x.f.cells ++ [.int .i64 x.h, .bool x.z]
def lmsC (ls : List LaM) : List Value := ls.flatMap LaM.cells
theorem lmsC_length (ls : List LaM) : (lmsC ls).length = ls.length * 8 := by
  unfold lmsC
  induction ls with
  | nil => rfl
  | cons x l ih => rw [List.flatMap_cons, List.length_append, ih, List.length_cons]; simp [LaM.cells, Ft.cells]; omega
theorem lmsC_get : ∀ {ls : List LaM} {i : Nat} (h : i < ls.length) {j : Nat}, j < 8 → (lmsC ls)[i * 8 + j]? = (ls[i]).cells[j]?
  | x :: l, 0, _, j, hj => by
    have e : lmsC (x :: l) = x.cells ++ lmsC l := rfl
    rw [e, List.getElem?_append_left (by simp [LaM.cells, Ft.cells]; omega)]
    simp
  | x :: l, i + 1, h, j, hj => by
    have ih := lmsC_get (ls := l) (i := i) (by simpa using h) hj
    have e : lmsC (x :: l) = x.cells ++ lmsC l := rfl
    have l3 : x.cells.length = 8 := rfl
    rw [e, List.getElem?_append_right (by omega), l3, show (i + 1) * 8 + j - 8 = i * 8 + j by omega]
    exact ih
/-- What such an element has: whole numbers in their ranges. -/
def LaM.fit (x : LaM) : Prop := x.f.fit ∧ -9223372036854775808 ≤ x.h ∧ x.h ≤ 9223372036854775807
theorem chooseL {α : Type} {p : Nat → α → Prop} : ∀ n : Nat, (∀ i, i < n → ∃ y, p i y) → ∃ l : List α, l.length = n ∧ ∀ i (h : i < l.length), p i l[i]
  | 0, _ => ⟨[], rfl, fun i h => absurd h (by simp)⟩
  | n + 1, h => by
    obtain ⟨l, hl, hp⟩ := chooseL n (fun i hi => h i (by omega))
    obtain ⟨y, hy⟩ := h n (by omega)
    refine ⟨l ++ [y], by simp [hl], fun i hi => ?_⟩
    by_cases hlt : i < l.length
    · rw [List.getElem_append_left hlt]
      exact hp i hlt
    · have : i = n := by simp at hi; omega
      subst this
      rw [List.getElem_append_right (by omega)]
      simpa [hl] using hy
theorem add_addL (a : Addr) (i j : Nat) : (a.add i).add j = a.add (i + j) := by
  obtain ⟨b, o, sp⟩ := a
  unfold Addr.add
  split <;> split <;> simp_all <;> omega
theorem eight_of {α : Type} {l a : List α} {b c : α} (hl : l.length = 8) (ha : a.length = 6) (h0 : (l.drop 0).take 6 = a) (h1 : (l.drop 6).take 1 = [b]) (h2 : (l.drop 7).take 1 = [c]) : l = a ++ [b, c] := by
  match l, hl with
  | [x0, x1, x2, x3, x4, x5, x6, x7], _ =>
    subst h0
    simp at h1 h2
    simp [h1, h2]
end Herb
namespace Go.Proofs.YtdifdbkbpeanhaaDoor
open Go Go.RowKit Go.ChangeShapes Go.WideShapes Herb Go.ChangeAt
section
variable {H : Type} {enc : TypeId × Value → H} {W : World} {b0 base : Nat} {spare : Nat → Bool} {held : Bool} {r : Reach}
theorem mlaid_cells {fuel : Nat} {cs : List Value} {x : DataW H × List MemPlace} (h : DataW.trod enc Tryd.prog W base spare held fuel 35 cs = some x) : ∃ y : LaM, cs = y.cells ∧ y.fit := by
  obtain ⟨xs, n, _, hxx, hlen, hxs, hf⟩ := DataW.trod_struct Tryd.underlying35 h
  have hlen3 : cs.length = 8 := hlen.trans (by kernel_rfl)
  have hx3 : xs.length = 3 := hxs
  have g : ∀ (i : Nat), i < 3 → ∃ y, xs[i]? = some y := fun i hi => ⟨_, List.getElem?_eq_getElem (by omega)⟩
  obtain ⟨y0, e0⟩ := g 0 (by omega)
  obtain ⟨y1, e1⟩ := g 1 (by omega)
  obtain ⟨y2, e2⟩ := g 2 (by omega)
  have c6 : Tryd.prog.cellsOf 27 = 6 := by kernel_rfl
  have c3 : Tryd.prog.cellsOf 3 = 1 := by kernel_rfl
  have c4 : Tryd.prog.cellsOf 4 = 1 := by kernel_rfl
  obtain ⟨k, s, va, se, li, ki, h0, f1, f2, f3, f4⟩ := fact_cells ((hf 0 _ rfl).trans e0)
  obtain ⟨ht, h1, _, w1⟩ := DataW.trod_int Tryd.underlying3 ((hf 1 _ rfl).trans e1)
  obtain ⟨z, h2, _, _⟩ := DataW.trod_bool Tryd.underlying4 ((hf 2 _ rfl).trans e2)
  replace h0 : (cs.drop 0).take (Tryd.prog.cellsOf 27) = _ := h0
  replace h1 : (cs.drop 6).take (Tryd.prog.cellsOf 3) = _ := h1
  replace h2 : (cs.drop 7).take (Tryd.prog.cellsOf 4) = _ := h2
  rw [c6] at h0
  rw [c3] at h1
  rw [c4] at h2
  simp [Lit.wf, IntKind.min, IntKind.max, IntKind.signed, IntKind.bits] at w1
  exact ⟨⟨⟨k, va, se, li, ki, s⟩, ht, z⟩, eight_of hlen3 rfl h0 h1 h2, ⟨f1, f2, f3, f4⟩, (show -9223372036854775808 ≤ ht by omega), (show ht ≤ 9223372036854775807 by omega)⟩
set_option maxRecDepth 100000 in
/-- One, as an argument. -/
theorem open_mlaid {v : Value} {d : DataW H} {ps : List MemPlace} (hv : Value.okWide Tryd.prog W r b0 35 v) (h : DataW.Trod enc Tryd.prog W base spare held 35 v d ps) :
    ∃ y : LaM, v = .agg y.cells.toArray ∧ y.fit := by
  obtain ⟨cs, rfl, hsz⟩ := okWide_struct Tryd.underlying35 hv
  obtain ⟨fuel, hf⟩ := h
  obtain ⟨y, hc, hr⟩ := mlaid_cells hf
  refine ⟨y, ?_, hr⟩
  have : cs.toList = _ := hc
  rw [← this]
set_option maxRecDepth 100000 in
/-- Many, as an argument. -/
theorem open_mlaids {v : Value} {d : DataW H} {ps : List MemPlace} (hv : Value.okWide Tryd.prog W r b0 22 v) (h : DataW.Trod enc Tryd.prog W base spare held 22 v d ps) :
    ∃ (A : Option Addr) (c : Nat) (ls : List LaM), v = .slice A ls.length c ∧ Rd W 8 A ls.length (lmsC ls) ∧ ls.length ≤ c ∧ ∀ y ∈ ls, y.fit := by
  obtain ⟨a0, len0, cap0, rfl⟩ := okWide_slice Tryd.underlying22 hv
  obtain ⟨fuel, hf⟩ := h
  have c8 : Tryd.prog.cellsOf 35 = 8 := by kernel_rfl
  rcases DataW.trod_slice Tryd.underlying22 hf with ⟨hcs, hx⟩ | ⟨a, len, cap, elems, rest, n, _, hcs, hx, _, hl, hm, hlen, hel, _, _⟩
  · simp [Value.cells] at hcs
    obtain ⟨rfl, rfl, rfl⟩ := hcs
    exact ⟨none, 0, [], rfl, Rd.nil_ _ _ _, Nat.le_refl _, fun _ h => (by cases h)⟩
  · simp [Value.cells] at hcs
    obtain ⟨rfl, rfl, rfl⟩ := hcs
    have each : ∀ i, i < len0 → ∃ y : LaM, (∀ j, j < 8 → W.cell? (a.add (i * 8 + j)) = y.cells[j]?) ∧ y.fit := by
      intro i hi
      have he := hel i hi
      obtain ⟨x, hxe⟩ : ∃ x, elems[i]? = some x := ⟨_, List.getElem?_eq_getElem (by omega)⟩
      rw [hxe, c8] at he
      rw [Option.bind_eq_some_iff] at he
      obtain ⟨cs, hc, ht⟩ := he
      obtain ⟨y, hy, hr⟩ := mlaid_cells ht
      obtain ⟨_, _, hcell⟩ := World.cells?_some hc
      refine ⟨y, fun j hj => ?_, hr⟩
      have := hcell j hj
      rw [hy] at this
      rw [← this]
      rw [add_addL]
    obtain ⟨ls, hls, hp⟩ := chooseL len0 each
    subst hls
    refine ⟨some a, cap0, ls, rfl, ⟨lmsC_length ls, fun hn => ?_⟩, hl, ?_⟩
    · obtain ⟨b, off, spot⟩ := a
      have h0 := (hp 0 hn).1 0 (by omega)
      have h0' : W.cell? ((⟨b, off, spot⟩ : Addr).add (0 * 8 + 0)) = some (.string (ls[0]).f.k) := h0
      have hspot : spot = none := by simpa [Addr.add] using World.cell?_spot h0'
      subst hspot
      have hblt : b < W.heap.size := by
        have := World.block_lt_of_cell? W _ h0'
        simpa [Addr.add] using this
      refine ⟨b, off, rfl, hblt, fun j u hu => ?_⟩
      have hj : j < ls.length * 8 := by
        rcases Nat.lt_or_ge j (ls.length * 8) with h | h
        · exact h
        · rw [List.getElem?_eq_none (by rw [lmsC_length]; exact h)] at hu; cases hu
      have hq : j / 8 < ls.length := by omega
      have e : j / 8 * 8 + j % 8 = j := by omega
      have hc := (hp (j / 8) hq).1 (j % 8) (by omega)
      rw [← lmsC_get hq (by omega), e, add_eq] at hc
      rw [hc, hu]
    · intro y hy
      obtain ⟨i, hi, rfl⟩ := List.getElem_of_mem hy
      exact (hp i hi).2
end
end Go.Proofs.YtdifdbkbpeanhaaDoor
