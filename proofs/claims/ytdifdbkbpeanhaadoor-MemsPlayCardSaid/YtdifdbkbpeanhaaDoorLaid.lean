/- Keys, numbers and heights as arguments. -/
import Derived.Test.YtdifdbkbpeanhaaDoorMg1
import Derived.Test.YtdifdbkbpeanhaaDoorMg3
import Derived.Lib.SmallJoins
set_option linter.unusedSimpArgs false
set_option linter.unusedVariables false
namespace Herb
open Go Go.RowKit
/-- A key with its number and height. -/
structure La where
  A : Option Addr
  key : List UInt8
  c : Nat
  n : Int
  h : Int
def La.cells (x : La) : List Value := [.slice x.A x.key.length x.c, .int .i64 x.n, .int .i64 x.h]
def lasC (ls : List La) : List Value := ls.flatMap La.cells
theorem lasC_length (ls : List La) : (lasC ls).length = ls.length * 3 := by
  unfold lasC
  induction ls with
  | nil => rfl
  | cons x l ih => rw [List.flatMap_cons, List.length_append, ih, List.length_cons]; simp [La.cells]; omega
theorem lasC_get : ∀ {ls : List La} {i : Nat} (h : i < ls.length) {j : Nat}, j < 3 → (lasC ls)[i * 3 + j]? = (ls[i]).cells[j]?
  | x :: l, 0, _, j, hj => by
    have e : lasC (x :: l) = x.cells ++ lasC l := rfl
    rw [e, List.getElem?_append_left (by simp [La.cells]; omega)]
    simp
  | x :: l, i + 1, h, j, hj => by
    have ih := lasC_get (ls := l) (i := i) (by simpa using h) hj
    have e : lasC (x :: l) = x.cells ++ lasC l := rfl
    have l3 : x.cells.length = 3 := rfl
    rw [e, List.getElem?_append_right (by omega), l3, show (i + 1) * 3 + j - 3 = i * 3 + j by omega]
    exact ih
theorem choose_list {α : Type} {p : Nat → α → Prop} : ∀ n : Nat, (∀ i, i < n → ∃ y, p i y) → ∃ l : List α, l.length = n ∧ ∀ i (h : i < l.length), p i l[i]
  | 0, _ => ⟨[], rfl, fun i h => absurd h (by simp)⟩
  | n + 1, h => by
    obtain ⟨l, hl, hp⟩ := choose_list n (fun i hi => h i (by omega))
    obtain ⟨y, hy⟩ := h n (by omega)
    refine ⟨l ++ [y], by simp [hl], fun i hi => ?_⟩
    by_cases hlt : i < l.length
    · rw [List.getElem_append_left hlt]
      exact hp i hlt
    · have : i = n := by simp at hi; omega
      subst this
      rw [List.getElem_append_right (by omega)]
      simpa [hl] using hy
theorem add_add (a : Addr) (i j : Nat) : (a.add i).add j = a.add (i + j) := by
  obtain ⟨b, o, sp⟩ := a
  unfold Addr.add
  split <;> split <;> simp_all <;> omega
theorem three_of {α : Type} {l : List α} {a b c : α} (hl : l.length = 3) (h0 : l[0]? = some a) (h1 : l[1]? = some b) (h2 : l[2]? = some c) : l = [a, b, c] := by
  match l, hl with
  | [_, _, _], _ => simp_all
theorem one_at {α : Type} {l : List α} {o : Nat} {v : α} (h : (l.drop o).take 1 = [v]) : l[o]? = some v := by
  have h2 : ((l.drop o).take 1)[0]? = some v := by rw [h]; rfl
  rw [List.getElem?_take, if_pos (by omega), List.getElem?_drop] at h2
  simpa using h2
end Herb
namespace Go.Proofs.YtdifdbkbpeanhaaDoor
open Go Go.RowKit Go.ChangeShapes Go.WideShapes Herb Go.ChangeAt
section
variable {H : Type} {enc : TypeId × Value → H} {W : World} {b0 base : Nat} {held : Bool} {r : Reach}
/-- A text's cell. -/
theorem text_cell {fuel : Nat} {cs : List Value} {x : DataW H × List MemPlace} (h : DataW.trod enc Tryd.prog W 0 (fun _ => true) held fuel 57 cs = some x) :
    ∃ (A : Option Addr) (c : Nat) (l : List UInt8), cs = [.slice A l.length c] ∧ Bs W A l ∧ l.length ≤ c ∧ ∀ m, (∀ n ∈ x.1.weights Tryd.prog 57, n ≤ m) → c ≤ m := by
  have hbe : Tryd.prog.bytesOf 5 = 1 := by kernel_rfl
  rcases open_ints Tryd.underlying57 Tryd.underlying5 (by kernel_rfl) h with ⟨hcs, hx⟩ | ⟨a, len, cap, zs, hcs, _, hl, hm, hz, hx, hcell, hwz⟩
  · exact ⟨none, 0, [], hcs, Bs.nil_ _ _, Nat.le_refl _, fun _ _ => Nat.zero_le _⟩
  · have hz' : zs.length = cap := by simpa using hz
    have hall : ∃ l0 : List UInt8, zs = l0.map (fun c => (c.toNat : Int)) := by
      clear hz hx hcell hz'
      induction zs with
      | nil => exact ⟨[], rfl⟩
      | cons z zs ih =>
        obtain ⟨c, rfl⟩ := intOf_wf_u8 (hwz z (by simp))
        obtain ⟨l0, rfl⟩ := ih (fun n hn => hwz n (by simp [hn]))
        exact ⟨c :: l0, rfl⟩
    obtain ⟨l0, rfl⟩ := hall
    have hl0 : l0.length = cap := by simpa using hz'
    have hlen : (l0.take len).length = len := by rw [List.length_take, Nat.min_eq_left (by omega)]
    refine ⟨some a, cap, l0.take len, by rw [hlen]; exact hcs, ?_, by omega, ?_⟩
    · refine ⟨by simp [bvs_length], fun hn => ?_⟩
      obtain ⟨b, off, spot⟩ := a
      have h0 := hcell 0 (by simp; omega)
      have hspot : spot = none := by simpa [Addr.add] using World.cell?_spot h0
      subst hspot
      have hblt : b < W.heap.size := by
        have := World.block_lt_of_cell? W _ h0
        simpa [Addr.add] using this
      refine ⟨b, off, rfl, hblt, fun j u hu => ?_⟩
      have hj : j < (l0.take len).length := by
        rcases Nat.lt_or_ge j (l0.take len).length with h | h
        · exact h
        · rw [List.getElem?_eq_none (by rw [bvs_length]; exact h)] at hu; cases hu
      rw [bvs_get hj] at hu
      have hj2 : j < l0.length := by omega
      have hc := hcell j (by simpa using hj2)
      rw [add_eq] at hc
      rw [hc]
      simp only [Option.some.injEq] at hu
      rw [← hu]
      simp [bv, List.getD, hj2]
    · intro m hw
      have hx1 : x.1 = .slice (lits .u8 ((l0.map fun c => (c.toNat : Int)).take len)) (lits .u8 ((l0.map fun c => (c.toNat : Int)).drop len)) := congrArg Prod.fst hx
      have := hw ((lits (H := H) .u8 ((l0.map fun c => (c.toNat : Int)).take len)).length * 1 + (lits (H := H) .u8 ((l0.map fun c => (c.toNat : Int)).drop len)).length * 1) (by
        rw [hx1]
        simp [DataW.weights, Tryd.underlying57, hbe])
      simp [lits] at this
      omega
theorem weights_all_mem (t : TypeId) : ∀ {es : List (DataW H)} {d : DataW H}, d ∈ es → ∀ k ∈ d.weights Tryd.prog t, k ∈ DataW.weightsAll Tryd.prog t es
  | e :: es, d, hd, k, hk => by
    show k ∈ DataW.weights Tryd.prog t e ++ DataW.weightsAll Tryd.prog t es
    rw [List.mem_append]
    rcases List.mem_cons.1 hd with rfl | hd
    · exact .inl hk
    · exact .inr (weights_all_mem t hd k hk)
end
end Go.Proofs.YtdifdbkbpeanhaaDoor
