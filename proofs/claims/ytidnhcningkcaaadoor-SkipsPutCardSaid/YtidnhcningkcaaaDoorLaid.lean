/- Keys, numbers and heights as arguments. -/
import Derived.Test.YtidnhcningkcaaaDoorSkOps
import Derived.Test.YtidnhcningkcaaaDoorLift
import Derived.Lib.SmallJoins
set_option linter.unusedSimpArgs false
set_option linter.unusedVariables false
namespace Herb
open Go Go.RowKit
/-- A key with its number and height. -/
structure La where
  A : Option Addr
  key : List UInt8
  c : Nat
  n : Int
  h : Int
def La.cells (x : La) : List Value := [.slice x.A x.key.length x.c, .int .i64 x.n, .int .i64 x.h]
def lasC (ls : List La) : List Value := ls.flatMap La.cells
theorem lasC_length (ls : List La) : (lasC ls).length = ls.length * 3 := by
  unfold lasC
  induction ls with
  | nil => rfl
  | cons x l ih => rw [List.flatMap_cons, List.length_append, ih, List.length_cons]; simp [La.cells]; omega
theorem lasC_get : ∀ {ls : List La} {i : Nat} (h : i < ls.length) {j : Nat}, j < 3 → (lasC ls)[i * 3 + j]? = (ls[i]).cells[j]?
  | x :: l, 0, _, j, hj => by
    have e : lasC (x :: l) = x.cells ++ lasC l := rfl
    rw [e, List.getElem?_append_left (by simp [La.cells]; omega)]
    simp
  | x :: l, i + 1, h, j, hj => by
    have ih := lasC_get (ls := l) (i := i) (by simpa using h) hj
    have e : lasC (x :: l) = x.cells ++ lasC l := rfl
    have l3 : x.cells.length = 3 := rfl
    rw [e, List.getElem?_append_right (by omega), l3, show (i + 1) * 3 + j - 3 = i * 3 + j by omega]
    exact ih
theorem choose_list {α : Type} {p : Nat → α → Prop} : ∀ n : Nat, (∀ i, i < n → ∃ y, p i y) → ∃ l : List α, l.length = n ∧ ∀ i (h : i < l.length), p i l[i]
  | 0, _ => ⟨[], rfl, fun i h => absurd h (by simp)⟩
  | n + 1, h => by
    obtain ⟨l, hl, hp⟩ := choose_list n (fun i hi => h i (by omega))
    obtain ⟨y, hy⟩ := h n (by omega)
    refine ⟨l ++ [y], by simp [hl], fun i hi => ?_⟩
    by_cases hlt : i < l.length
    · rw [List.getElem_append_left hlt]
      exact hp i hlt
    · have : i = n := by simp at hi; omega
      subst this
      rw [List.getElem_append_right (by omega)]
      simpa [hl] using hy
theorem add_add (a : Addr) (i j : Nat) : (a.add i).add j = a.add (i + j) := by
  obtain ⟨b, o, sp⟩ := a
  unfold Addr.add
  split <;> split <;> simp_all <;> omega
theorem three_of {α : Type} {l : List α} {a b c : α} (hl : l.length = 3) (h0 : l[0]? = some a) (h1 : l[1]? = some b) (h2 : l[2]? = some c) : l = [a, b, c] := by
  match l, hl with
  | [_, _, _], _ => simp_all
theorem one_at {α : Type} {l : List α} {o : Nat} {v : α} (h : (l.drop o).take 1 = [v]) : l[o]? = some v := by
  have h2 : ((l.drop o).take 1)[0]? = some v := by rw [h]; rfl
  rw [List.getElem?_take, if_pos (by omega), List.getElem?_drop] at h2
  simpa using h2
end Herb
namespace Go.Proofs.YtidnhcningkcaaaDoor
open Go Go.RowKit Go.ChangeShapes Go.WideShapes Herb Go.ChangeAt
section
variable {H : Type} {enc : TypeId × Value → H} {W : World} {b0 base : Nat} {held : Bool} {r : Reach}
/-- A text's cell. -/
theorem text_cell {fuel : Nat} {cs : List Value} {x : DataW H × List MemPlace} (h : DataW.trod enc Tryd.prog W 0 (fun _ => true) held fuel 23 cs = some x) :
    ∃ (A : Option Addr) (c : Nat) (l : List UInt8), cs = [.slice A l.length c] ∧ Bs W A l ∧ l.length ≤ c ∧ ∀ m, (∀ n ∈ x.1.weights Tryd.prog 23, n ≤ m) → c ≤ m := by
  have hbe : Tryd.prog.bytesOf 5 = 1 := by kernel_rfl
  rcases open_ints Tryd.underlying23 Tryd.underlying5 (by kernel_rfl) h with ⟨hcs, hx⟩ | ⟨a, len, cap, zs, hcs, _, hl, hm, hz, hx, hcell, hwz⟩
  · exact ⟨none, 0, [], hcs, Bs.nil_ _ _, Nat.le_refl _, fun _ _ => Nat.zero_le _⟩
  · have hz' : zs.length = cap := by simpa using hz
    have hall : ∃ l0 : List UInt8, zs = l0.map (fun c => (c.toNat : Int)) := by
      clear hz hx hcell hz'
      induction zs with
      | nil => exact ⟨[], rfl⟩
      | cons z zs ih =>
        obtain ⟨c, rfl⟩ := intOf_wf_u8 (hwz z (by simp))
        obtain ⟨l0, rfl⟩ := ih (fun n hn => hwz n (by simp [hn]))
        exact ⟨c :: l0, rfl⟩
    obtain ⟨l0, rfl⟩ := hall
    have hl0 : l0.length = cap := by simpa using hz'
    have hlen : (l0.take len).length = len := by rw [List.length_take, Nat.min_eq_left (by omega)]
    refine ⟨some a, cap, l0.take len, by rw [hlen]; exact hcs, ?_, by omega, ?_⟩
    · refine ⟨by simp [bvs_length], fun hn => ?_⟩
      obtain ⟨b, off, spot⟩ := a
      have h0 := hcell 0 (by simp; omega)
      have hspot : spot = none := by simpa [Addr.add] using World.cell?_spot h0
      subst hspot
      have hblt : b < W.heap.size := by
        have := World.block_lt_of_cell? W _ h0
        simpa [Addr.add] using this
      refine ⟨b, off, rfl, hblt, fun j u hu => ?_⟩
      have hj : j < (l0.take len).length := by
        rcases Nat.lt_or_ge j (l0.take len).length with h | h
        · exact h
        · rw [List.getElem?_eq_none (by rw [bvs_length]; exact h)] at hu; cases hu
      rw [bvs_get hj] at hu
      have hj2 : j < l0.length := by omega
      have hc := hcell j (by simpa using hj2)
      rw [add_eq] at hc
      rw [hc]
      simp only [Option.some.injEq] at hu
      rw [← hu]
      simp [bv, List.getD, hj2]
    · intro m hw
      have hx1 : x.1 = .slice (lits .u8 ((l0.map fun c => (c.toNat : Int)).take len)) (lits .u8 ((l0.map fun c => (c.toNat : Int)).drop len)) := congrArg Prod.fst hx
      have := hw ((lits (H := H) .u8 ((l0.map fun c => (c.toNat : Int)).take len)).length * 1 + (lits (H := H) .u8 ((l0.map fun c => (c.toNat : Int)).drop len)).length * 1) (by
        rw [hx1]
        simp [DataW.weights, Tryd.underlying23, hbe])
      simp [lits] at this
      omega
theorem laid_cells {fuel : Nat} {cs : List Value} {x : DataW H × List MemPlace} (h : DataW.trod enc Tryd.prog W 0 (fun _ => true) held fuel 31 cs = some x) :
    ∃ y : La, cs = y.cells ∧ Bs W y.A y.key ∧ y.key.length ≤ y.c ∧ (-9223372036854775808 ≤ y.n ∧ y.n ≤ 9223372036854775807 ∧ -9223372036854775808 ≤ y.h ∧ y.h ≤ 9223372036854775807) ∧ ∀ m, (∀ n ∈ x.1.weights Tryd.prog 31, n ≤ m) → y.c ≤ m := by
  obtain ⟨xs, n, _, hxx, hlen, hxs, hf⟩ := DataW.trod_struct Tryd.underlying31 h
  have hlen3 : cs.length = 3 := hlen.trans (by kernel_rfl)
  have hx3 : xs.length = 3 := hxs
  have g : ∀ (i : Nat), i < 3 → ∃ y, xs[i]? = some y := fun i hi => ⟨_, List.getElem?_eq_getElem (by omega)⟩
  obtain ⟨y0, e0⟩ := g 0 (by omega)
  obtain ⟨y1, e1⟩ := g 1 (by omega)
  obtain ⟨y2, e2⟩ := g 2 (by omega)
  have c26 : Tryd.prog.cellsOf 23 = 1 := by kernel_rfl
  have c3 : Tryd.prog.cellsOf 3 = 1 := by kernel_rfl
  obtain ⟨A, c, l, h0, hb, hlc, hw0⟩ := text_cell ((hf 0 _ rfl).trans e0)
  obtain ⟨va, h1, _, w1⟩ := DataW.trod_int Tryd.underlying3 ((hf 1 _ rfl).trans e1)
  obtain ⟨vb, h2, _, w2⟩ := DataW.trod_int Tryd.underlying3 ((hf 2 _ rfl).trans e2)
  replace h0 : (cs.drop 0).take (Tryd.prog.cellsOf 23) = _ := h0
  replace h1 : (cs.drop 1).take (Tryd.prog.cellsOf 3) = _ := h1
  replace h2 : (cs.drop 2).take (Tryd.prog.cellsOf 3) = _ := h2
  rw [c26] at h0
  rw [c3] at h1 h2
  have hcs := three_of hlen3 (one_at h0) (one_at h1) (one_at h2)
  simp [Lit.wf, IntKind.min, IntKind.max, IntKind.signed, IntKind.bits] at w1 w2
  have hr : -9223372036854775808 ≤ va ∧ va ≤ 9223372036854775807 ∧ -9223372036854775808 ≤ vb ∧ vb ≤ 9223372036854775807 := ⟨by omega, by omega, by omega, by omega⟩
  refine ⟨⟨A, l, c, va, vb⟩, hcs, hb, hlc, hr, fun m hw => hw0 m (fun k hk => hw k ?_)⟩
  have hx1 : x.1 = .agg (xs.map (·.1)) := congrArg Prod.fst hxx
  rw [hx1]
  have he : DataW.weights Tryd.prog 31 (.agg (xs.map (·.1))) = DataW.weightsEach Tryd.prog [23, 3, 3] (xs.map (·.1)) := by
    unfold DataW.weights
    rw [Tryd.underlying31]
    rfl
  rw [he]
  exact DataW.weights_mem_each (j := 0) (t := 23) (d := y0.1) rfl (by rw [List.getElem?_map, e0]; rfl) k hk
/-- A key with its number and height, as an argument. -/
theorem open_laid {v : Value} {d : DataW H} {ps : List MemPlace} (hv : Value.okWide Tryd.prog W r b0 31 v) (h : DataW.Trod enc Tryd.prog W 0 (fun _ => true) held 31 v d ps) :
    ∃ y : La, v = .agg y.cells.toArray ∧ Bs W y.A y.key ∧ y.key.length ≤ y.c ∧ (-9223372036854775808 ≤ y.n ∧ y.n ≤ 9223372036854775807 ∧ -9223372036854775808 ≤ y.h ∧ y.h ≤ 9223372036854775807) ∧
      ∀ {ts : List TypeId} {ds : List (DataW H)}, (DataW.weightsEach Tryd.prog ts ds).all (· ≤ reachBytes) = true → ∀ (j : Nat), ts[j]? = some 31 → ds[j]? = some d → y.c ≤ reachBytes := by
  obtain ⟨cs, rfl, hsz⟩ := okWide_struct Tryd.underlying31 hv
  obtain ⟨fuel, hf⟩ := h
  obtain ⟨y, hc, hb, hlc, hr, hw⟩ := laid_cells hf
  refine ⟨y, ?_, hb, hlc, hr, fun hall j hj hd => hw _ (fun k hk => ?_)⟩
  · have : cs.toList = _ := hc
    rw [← this]
  · have := List.all_eq_true.1 hall _ (DataW.weights_mem_each hj hd _ hk)
    simpa using this
theorem weights_all_mem (t : TypeId) : ∀ {es : List (DataW H)} {d : DataW H}, d ∈ es → ∀ k ∈ d.weights Tryd.prog t, k ∈ DataW.weightsAll Tryd.prog t es
  | e :: es, d, hd, k, hk => by
    show k ∈ DataW.weights Tryd.prog t e ++ DataW.weightsAll Tryd.prog t es
    rw [List.mem_append]
    rcases List.mem_cons.1 hd with rfl | hd
    · exact .inl hk
    · exact .inr (weights_all_mem t hd k hk)
/-- Keys with their numbers and heights, as an argument. -/
theorem open_laids {v : Value} {d : DataW H} {ps : List MemPlace} (hv : Value.okWide Tryd.prog W r b0 22 v) (h : DataW.Trod enc Tryd.prog W 0 (fun _ => true) held 22 v d ps) :
    ∃ (A : Option Addr) (c : Nat) (ls : List La), v = .slice A ls.length c ∧ Rd W 3 A ls.length (lasC ls) ∧ ls.length ≤ c ∧ (∀ y ∈ ls, Bs W y.A y.key ∧ y.key.length ≤ y.c ∧ (-9223372036854775808 ≤ y.n ∧ y.n ≤ 9223372036854775807 ∧ -9223372036854775808 ≤ y.h ∧ y.h ≤ 9223372036854775807)) ∧
      ∀ {ts : List TypeId} {ds : List (DataW H)}, (DataW.weightsEach Tryd.prog ts ds).all (· ≤ reachBytes) = true → ∀ (j : Nat), ts[j]? = some 22 → ds[j]? = some d → ∀ y ∈ ls, y.c ≤ reachBytes := by
  obtain ⟨a0, len0, cap0, rfl⟩ := okWide_slice Tryd.underlying22 hv
  obtain ⟨fuel, hf⟩ := h
  have c3 : Tryd.prog.cellsOf 31 = 3 := by kernel_rfl
  rcases DataW.trod_slice Tryd.underlying22 hf with ⟨hcs, hx⟩ | ⟨a, len, cap, elems, rest, n, _, hcs, hx, _, hl, hm, hlen, hel, _, _⟩
  · simp [Value.cells] at hcs
    obtain ⟨rfl, rfl, rfl⟩ := hcs
    exact ⟨none, 0, [], rfl, Rd.nil_ _ _ _, Nat.le_refl _, fun _ h => (by cases h), fun _ _ _ _ _ h => (by cases h)⟩
  · simp [Value.cells] at hcs
    obtain ⟨rfl, rfl, rfl⟩ := hcs
    have each : ∀ i, i < len0 → ∃ y : La, (∀ j, j < 3 → W.cell? (a.add (i * 3 + j)) = y.cells[j]?) ∧ Bs W y.A y.key ∧ y.key.length ≤ y.c ∧ (-9223372036854775808 ≤ y.n ∧ y.n ≤ 9223372036854775807 ∧ -9223372036854775808 ≤ y.h ∧ y.h ≤ 9223372036854775807) ∧ ∀ m, (∀ n ∈ (elems[i]?.map (fun x => x.1.weights Tryd.prog 31)).getD [], n ≤ m) → y.c ≤ m := by
      intro i hi
      have he := hel i hi
      obtain ⟨x, hxe⟩ : ∃ x, elems[i]? = some x := ⟨_, List.getElem?_eq_getElem (by omega)⟩
      rw [hxe, c3] at he
      rw [Option.bind_eq_some_iff] at he
      obtain ⟨cs, hc, ht⟩ := he
      obtain ⟨y, hy, hb, hlc, hr, hw⟩ := laid_cells ht
      obtain ⟨_, _, hcell⟩ := World.cells?_some hc
      refine ⟨y, fun j hj => ?_, hb, hlc, hr, fun m hm => hw m (by rw [hxe] at hm; exact hm)⟩
      have := hcell j hj
      rw [hy] at this
      rw [← this]
      rw [add_add]
    obtain ⟨ls, hls, hp⟩ := choose_list len0 each
    subst hls
    refine ⟨some a, cap0, ls, rfl, ⟨lasC_length ls, fun hn => ?_⟩, hl, ?_, ?_⟩
    · obtain ⟨b, off, spot⟩ := a
      have h0 := (hp 0 hn).1 0 (by omega)
      have h0' : W.cell? ((⟨b, off, spot⟩ : Addr).add (0 * 3 + 0)) = some (.slice (ls[0]).A (ls[0]).key.length (ls[0]).c) := h0
      have hspot : spot = none := by simpa [Addr.add] using World.cell?_spot h0'
      subst hspot
      have hblt : b < W.heap.size := by
        have := World.block_lt_of_cell? W _ h0'
        simpa [Addr.add] using this
      refine ⟨b, off, rfl, hblt, fun j u hu => ?_⟩
      have hj : j < ls.length * 3 := by
        rcases Nat.lt_or_ge j (ls.length * 3) with h | h
        · exact h
        · rw [List.getElem?_eq_none (by rw [lasC_length]; exact h)] at hu; cases hu
      have hq : j / 3 < ls.length := by omega
      have e : j / 3 * 3 + j % 3 = j := by omega
      have hc := (hp (j / 3) hq).1 (j % 3) (by omega)
      rw [← lasC_get hq (by omega), e, add_eq] at hc
      rw [hc, hu]
    · intro y hy
      obtain ⟨i, hi, rfl⟩ := List.getElem_of_mem hy
      exact ⟨(hp i hi).2.1, (hp i hi).2.2.1, (hp i hi).2.2.2.1⟩
    · intro ts ds hall j hjt hjd y hy
      obtain ⟨i, hi, rfl⟩ := List.getElem_of_mem hy
      refine (hp i hi).2.2.2.2 reachBytes (fun k hk => ?_)
      obtain ⟨x, hxe⟩ : ∃ x, elems[i]? = some x := ⟨_, List.getElem?_eq_getElem (by omega)⟩
      rw [hxe] at hk
      have hd : d = .slice (elems.map (·.1)) (rest.map (·.1)) := congrArg Prod.fst hx
      have hmem : k ∈ DataW.weights Tryd.prog 22 d := by
        rw [hd]
        unfold DataW.weights
        rw [Tryd.underlying22]
        refine List.mem_cons_of_mem _ (List.mem_append_left _ (weights_all_mem _ (d := x.1) ?_ k hk))
        exact List.mem_map.2 ⟨x, List.mem_of_getElem? hxe, rfl⟩
      have := List.all_eq_true.1 hall _ (DataW.weights_mem_each hjt hjd _ hmem)
      simpa using this
end
end Go.Proofs.YtidnhcningkcaaaDoor
