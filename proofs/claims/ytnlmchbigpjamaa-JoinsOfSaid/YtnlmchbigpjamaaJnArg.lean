/- Lists of facts, and numbers, as arguments. -/
import Derived.Test.YtnlmchbigpjamaaJnMany
import Derived.Test.YtnlmchbigpjamaaFact
import Derived.Test.YtnlmchbigpjamaaLift
set_option linter.unusedSimpArgs false
set_option linter.unusedVariables false
namespace Herb
open Go Go.RowKit
theorem choose_listJ {α : Type} {p : Nat → α → Prop} : ∀ n : Nat, (∀ i, i < n → ∃ y, p i y) → ∃ l : List α, l.length = n ∧ ∀ i (h : i < l.length), p i l[i]
  | 0, _ => ⟨[], rfl, fun i h => absurd h (by simp)⟩
  | n + 1, h => by
    obtain ⟨l, hl, hp⟩ := choose_listJ n (fun i hi => h i (by omega))
    obtain ⟨y, hy⟩ := h n (by omega)
    refine ⟨l ++ [y], by simp [hl], fun i hi => ?_⟩
    by_cases hlt : i < l.length
    · rw [List.getElem_append_left hlt]
      exact hp i hlt
    · have : i = n := by simp at hi; omega
      subst this
      rw [List.getElem_append_right (by omega)]
      simpa [hl] using hy
theorem add_addJ (a : Addr) (i j : Nat) : (a.add i).add j = a.add (i + j) := by
  obtain ⟨b, o, sp⟩ := a
  unfold Addr.add
  split <;> split <;> simp_all <;> omega
theorem one_atJ {α : Type} {l : List α} {o : Nat} {v : α} (h : (l.drop o).take 1 = [v]) : l[o]? = some v := by
  have h2 : ((l.drop o).take 1)[0]? = some v := by rw [h]; rfl
  rw [List.getElem?_take, if_pos (by omega), List.getElem?_drop] at h2
  simpa using h2
end Herb
namespace Go.Proofs.Ytnlmchbigpjamaa
open Go Go.RowKit Go.ChangeShapes Go.WideShapes Herb Herb.Jn Go.ChangeAt
section
variable {H : Type} {enc : TypeId × Value → H} {W : World} {b0 base : Nat} {held : Bool} {r : Reach}
theorem weights_all_memJ (t : TypeId) : ∀ {es : List (DataW H)} {d : DataW H}, d ∈ es → ∀ k ∈ d.weights Try.prog t, k ∈ DataW.weightsAll Try.prog t es
  | e :: es, d, hd, k, hk => by
    show k ∈ DataW.weights Try.prog t e ++ DataW.weightsAll Try.prog t es
    rw [List.mem_append]
    rcases List.mem_cons.1 hd with rfl | hd
    · exact .inl hk
    · exact .inr (weights_all_memJ t hd k hk)
theorem facts_cells {fuel : Nat} {cs : List Value} {x : DataW H × List MemPlace} (hf : DataW.trod enc Try.prog W 0 (fun _ => true) held fuel 26 cs = some x) :
    ∃ y : Sl, cs = [slV y] ∧ Fs W y.A y.fs ∧ y.fs.length ≤ 9223372036854775807 ∧ ∀ m, (∀ n ∈ x.1.weights Try.prog 26, n ≤ m) → y.fs.length ≤ m := by
  have c4 : Try.prog.cellsOf 44 = 6 := by kernel_rfl
  have hbe : Try.prog.bytesOf 44 = 64 := by kernel_rfl
  rcases DataW.trod_slice Try.underlying26 hf with ⟨hcs, hx⟩ | ⟨a, len0, cap0, elems, rest, n, _, hcs, hx, _, hl, hm, hlen, hel, _, _⟩
  · exact ⟨⟨none, [], 0⟩, hcs, Fs.nil_ _ _, by simp, fun _ _ => Nat.zero_le _⟩
  · have each : ∀ i, i < len0 → ∃ y : Ft, (∀ j, j < 6 → W.cell? (a.add (i * 6 + j)) = y.cells[j]?) := by
      intro i hi
      have he := hel i hi
      obtain ⟨x, hxe⟩ : ∃ x, elems[i]? = some x := ⟨_, List.getElem?_eq_getElem (by omega)⟩
      rw [hxe, c4] at he
      rw [Option.bind_eq_some_iff] at he
      obtain ⟨cs, hc, ht⟩ := he
      obtain ⟨k, s, va, se, li, ki, hy, _⟩ := fact_cells ht
      obtain ⟨_, _, hcell⟩ := World.cells?_some hc
      refine ⟨⟨k, va, se, li, ki, s⟩, fun j hj => ?_⟩
      have := hcell j hj
      rw [hy] at this
      rw [add_addJ] at this
      exact this
    obtain ⟨ls, hls, hp⟩ := choose_listJ len0 each
    subst hls
    refine ⟨⟨some a, ls, cap0⟩, hcs, ⟨ftC_length ls, fun hn => ?_⟩, by unfold maxLen at hm; show ls.length ≤ _; omega, ?_⟩
    · obtain ⟨b, off, spot⟩ := a
      have h0 := (hp 0 hn) 0 (by omega)
      have h0' : W.cell? ((⟨b, off, spot⟩ : Addr).add (0 * 6 + 0)) = some (.string (ls[0]).k) := h0
      have hspot : spot = none := by simpa [Addr.add] using World.cell?_spot h0'
      subst hspot
      have hblt : b < W.heap.size := by
        have := World.block_lt_of_cell? W _ h0'
        simpa [Addr.add] using this
      refine ⟨b, off, rfl, hblt, fun j u hu => ?_⟩
      have hj : j < ls.length * 6 := by
        rcases Nat.lt_or_ge j (ls.length * 6) with h | h
        · exact h
        · rw [List.getElem?_eq_none (by rw [ftC_length]; exact h)] at hu; cases hu
      have hq : j / 6 < ls.length := by omega
      have e : j / 6 * 6 + j % 6 = j := by omega
      have hc := (hp (j / 6) hq) (j % 6) (by omega)
      rw [← ftC_get hq (by omega), e, add_eq] at hc
      rw [hc, hu]
    · intro m hw
      have hd : x.1 = .slice (elems.map (·.1)) (rest.map (·.1)) := congrArg Prod.fst hx
      rw [hd] at hw
      have := hw ((elems.map (·.1)).length * 64 + (rest.map (·.1)).length * 64) (by
        unfold DataW.weights
        rw [Try.underlying26]
        simp [hbe]
        exact .inl (by omega))
      simp at this
      show ls.length ≤ m
      omega
set_option maxRecDepth 100000 in
/-- Lists of facts as an argument. -/
theorem open_ftrows {v : Value} {d : DataW H} {ps : List MemPlace} (hv : Value.okWide Try.prog W r b0 22 v) (h : DataW.Trod enc Try.prog W 0 (fun _ => true) held 22 v d ps) :
    ∃ (A : Option Addr) (c : Nat) (ls : List Sl), v = .slice A ls.length c ∧ Rows_ W A ls ∧ ls.length ≤ 9223372036854775807 ∧
      ∀ {ts : List TypeId} {ds : List (DataW H)}, (DataW.weightsEach Try.prog ts ds).all (· ≤ reachBytes) = true → ∀ (j : Nat), ts[j]? = some 22 → ds[j]? = some d → (∀ y ∈ ls, y.fs.length ≤ reachBytes) ∧ ls.length ≤ reachBytes := by
  obtain ⟨a0, len0, cap0, rfl⟩ := okWide_slice Try.underlying22 hv
  obtain ⟨fuel, hf⟩ := h
  have c3 : Try.prog.cellsOf 26 = 1 := by kernel_rfl
  have hbe : Try.prog.bytesOf 26 = 24 := by kernel_rfl
  rcases DataW.trod_slice Try.underlying22 hf with ⟨hcs, hx⟩ | ⟨a, len, cap, elems, rest, n, _, hcs, hx, _, hl, hm, hlen, hel, _, _⟩
  · simp [Value.cells] at hcs
    obtain ⟨rfl, rfl, rfl⟩ := hcs
    exact ⟨none, 0, [], rfl, ⟨Rd.nil_ _ _ _, fun _ h => (by cases h)⟩, by simp, fun _ _ _ _ => ⟨fun _ h => (by cases h), Nat.zero_le _⟩⟩
  · simp [Value.cells] at hcs
    obtain ⟨rfl, rfl, rfl⟩ := hcs
    have each : ∀ i, i < len0 → ∃ y : Sl, W.cell? (a.add i) = some (slV y) ∧ Fs W y.A y.fs ∧ ∀ m, (∀ n ∈ (elems[i]?.map (fun x => x.1.weights Try.prog 26)).getD [], n ≤ m) → y.fs.length ≤ m := by
      intro i hi
      have he := hel i hi
      obtain ⟨x, hxe⟩ : ∃ x, elems[i]? = some x := ⟨_, List.getElem?_eq_getElem (by omega)⟩
      rw [hxe, c3] at he
      rw [Option.bind_eq_some_iff] at he
      obtain ⟨cs, hc, ht⟩ := he
      obtain ⟨y, hy, hb, _, hw⟩ := facts_cells ht
      obtain ⟨_, _, hcell⟩ := World.cells?_some hc
      refine ⟨y, ?_, hb, fun m hm => hw m (by rw [hxe] at hm; exact hm)⟩
      have := hcell 0 (by omega)
      rw [hy] at this
      rw [add_addJ, Nat.mul_one, Nat.add_zero] at this
      rw [this]
      rfl
    obtain ⟨ls, hls, hp⟩ := choose_listJ len0 each
    subst hls
    refine ⟨some a, cap0, ls, rfl, ⟨⟨by rw [List.length_map, Nat.mul_one], fun hn => ?_⟩, ?_⟩, by unfold maxLen at hm; omega, ?_⟩
    · obtain ⟨b, off, spot⟩ := a
      have h0 := (hp 0 hn).1
      have hspot : spot = none := by simpa [Addr.add] using World.cell?_spot h0
      subst hspot
      have hblt : b < W.heap.size := by
        have := World.block_lt_of_cell? W _ h0
        simpa [Addr.add] using this
      refine ⟨b, off, rfl, hblt, fun j u hu => ?_⟩
      have hj : j < ls.length := by
        rcases Nat.lt_or_ge j ls.length with h | h
        · exact h
        · rw [List.getElem?_eq_none (by rw [List.length_map]; exact h)] at hu; cases hu
      have hc := (hp j hj).1
      rw [add_eq] at hc
      rw [List.getElem?_map, List.getElem?_eq_getElem hj] at hu
      rw [hc]
      exact hu
    · intro y hy
      obtain ⟨i, hi, rfl⟩ := List.getElem_of_mem hy
      exact (hp i hi).2.1
    · intro ts ds hall j hjt hjd
      have hd : d = .slice (elems.map (·.1)) (rest.map (·.1)) := congrArg Prod.fst hx
      refine ⟨fun y hy => ?_, ?_⟩
      · obtain ⟨i, hi, rfl⟩ := List.getElem_of_mem hy
        refine (hp i hi).2.2 reachBytes (fun k hk => ?_)
        obtain ⟨x, hxe⟩ : ∃ x, elems[i]? = some x := ⟨_, List.getElem?_eq_getElem (by omega)⟩
        rw [hxe] at hk
        have hmem : k ∈ DataW.weights Try.prog 22 d := by
          rw [hd]
          unfold DataW.weights
          rw [Try.underlying22]
          refine List.mem_cons_of_mem _ (List.mem_append_left _ (weights_all_memJ _ (d := x.1) ?_ k hk))
          exact List.mem_map.2 ⟨x, List.mem_of_getElem? hxe, rfl⟩
        have := List.all_eq_true.1 hall _ (DataW.weights_mem_each hjt hjd _ hmem)
        simpa using this
      · have hmem : (elems.map (·.1)).length * 24 + (rest.map (·.1)).length * 24 ∈ DataW.weights Try.prog 22 d := by
          rw [hd]
          unfold DataW.weights
          rw [Try.underlying22]
          simp [hbe]
          exact .inl (by omega)
        have := List.all_eq_true.1 hall _ (DataW.weights_mem_each hjt hjd _ hmem)
        simp at this
        omega
set_option maxRecDepth 100000 in
/-- Numbers as an argument. -/
theorem open_nums {v : Value} {d : DataW H} {ps : List MemPlace} (hv : Value.okWide Try.prog W r b0 49 v) (h : DataW.Trod enc Try.prog W 0 (fun _ => true) held 49 v d ps) :
    ∃ (A : Option Addr) (c : Nat) (zs : List Nat), v = .slice A zs.length c ∧ Rd W 1 A zs.length (zs.map fun (z : Nat) => Value.int .u64 (z : Int)) ∧ zs.length ≤ 9223372036854775807 := by
  obtain ⟨a0, len0, cap0, rfl⟩ := okWide_slice Try.underlying49 hv
  obtain ⟨fuel, hf⟩ := h
  have c3 : Try.prog.cellsOf 41 = 1 := by kernel_rfl
  rcases DataW.trod_slice Try.underlying49 hf with ⟨hcs, hx⟩ | ⟨a, len, cap, elems, rest, n, _, hcs, hx, _, hl, hm, hlen, hel, _, _⟩
  · simp [Value.cells] at hcs
    obtain ⟨rfl, rfl, rfl⟩ := hcs
    exact ⟨none, 0, [], rfl, Rd.nil_ _ _ _, by simp⟩
  · simp [Value.cells] at hcs
    obtain ⟨rfl, rfl, rfl⟩ := hcs
    have each : ∀ i, i < len0 → ∃ y : Nat, W.cell? (a.add i) = some (.int .u64 (y : Int)) := by
      intro i hi
      have he := hel i hi
      obtain ⟨x, hxe⟩ : ∃ x, elems[i]? = some x := ⟨_, List.getElem?_eq_getElem (by omega)⟩
      rw [hxe, c3] at he
      rw [Option.bind_eq_some_iff] at he
      obtain ⟨cs, hc, ht⟩ := he
      obtain ⟨z, hy, _, hw⟩ := DataW.trod_int Try.underlying41 ht
      obtain ⟨_, _, hcell⟩ := World.cells?_some hc
      simp [Lit.wf, IntKind.min, IntKind.max, IntKind.signed, IntKind.bits] at hw
      refine ⟨z.toNat, ?_⟩
      have := hcell 0 (by omega)
      rw [hy] at this
      rw [add_addJ, Nat.mul_one, Nat.add_zero] at this
      rw [this, Int.toNat_of_nonneg hw.1]
      rfl
    obtain ⟨ls, hls, hp⟩ := choose_listJ len0 each
    subst hls
    refine ⟨some a, cap0, ls, rfl, ⟨by rw [List.length_map, Nat.mul_one], fun hn => ?_⟩, by unfold maxLen at hm; omega⟩
    obtain ⟨b, off, spot⟩ := a
    have h0 := hp 0 hn
    have hspot : spot = none := by simpa [Addr.add] using World.cell?_spot h0
    subst hspot
    have hblt : b < W.heap.size := by
      have := World.block_lt_of_cell? W _ h0
      simpa [Addr.add] using this
    refine ⟨b, off, rfl, hblt, fun j u hu => ?_⟩
    have hj : j < ls.length := by
      rcases Nat.lt_or_ge j ls.length with h | h
      · exact h
      · rw [List.getElem?_eq_none (by rw [List.length_map]; exact h)] at hu; cases hu
    have hc := hp j hj
    rw [add_eq] at hc
    rw [List.getElem?_map, List.getElem?_eq_getElem hj] at hu
    rw [hc]
    exact hu
set_option maxRecDepth 100000 in
/-- Three lists of facts as an argument. -/
theorem open_ftrows3 {v : Value} {d : DataW H} {ps : List MemPlace} (hv : Value.okWide Try.prog W r b0 46 v) (h : DataW.Trod enc Try.prog W 0 (fun _ => true) held 46 v d ps) :
    ∃ (x y z : Sl), v = .agg #[slV x, slV y, slV z] ∧ Fs W x.A x.fs ∧ Fs W y.A y.fs ∧ Fs W z.A z.fs ∧ x.fs.length ≤ 9223372036854775807 ∧ y.fs.length ≤ 9223372036854775807 ∧ z.fs.length ≤ 9223372036854775807 := by
  obtain ⟨cs, rfl, hsz⟩ : ∃ cs, v = .agg cs ∧ cs.size = Try.prog.cellsOf 46 := by
    simp only [Value.okWide, Try.underlying46] at hv
    obtain ⟨cs, h1, h2, _⟩ := hv
    exact ⟨cs, h1, h2⟩
  obtain ⟨fuel, hf⟩ := h
  obtain ⟨xs, n, _, _, hlen, hxs, hf⟩ := DataW.trod_array Try.underlying46 hf
  have c1 : Try.prog.cellsOf 26 = 1 := by kernel_rfl
  have hlen3 : cs.toList.length = 3 := hlen.trans (by kernel_rfl)
  have g : ∀ (i : Nat), i < 3 → ∃ y, xs[i]? = some y := fun i hi => ⟨_, List.getElem?_eq_getElem (by omega)⟩
  obtain ⟨y0, e0⟩ := g 0 (by omega)
  obtain ⟨y1, e1⟩ := g 1 (by omega)
  obtain ⟨y2, e2⟩ := g 2 (by omega)
  obtain ⟨x, h0, f0, l0, _⟩ := facts_cells ((hf 0 (by omega)).trans e0)
  obtain ⟨y, h1, f1, l1', _⟩ := facts_cells ((hf 1 (by omega)).trans e1)
  obtain ⟨z, h2, f2, l2', _⟩ := facts_cells ((hf 2 (by omega)).trans e2)
  rw [c1] at h0 h1 h2
  refine ⟨x, y, z, ?_, f0, f1, f2, l0, l1', l2'⟩
  · obtain ⟨cl⟩ := cs
    have g0 := one_atJ h0
    have g1 := one_atJ h1
    have g2 := one_atJ h2
    match cl, hlen3 with
    | [p0, p1, p2], _ =>
      have q0 : p0 = slV x := by simpa [Value.cells] using g0
      have q1 : p1 = slV y := by simpa [Value.cells] using g1
      have q2 : p2 = slV z := by simpa [Value.cells] using g2
      rw [q0, q1, q2]
end
end Go.Proofs.Ytnlmchbigpjamaa
