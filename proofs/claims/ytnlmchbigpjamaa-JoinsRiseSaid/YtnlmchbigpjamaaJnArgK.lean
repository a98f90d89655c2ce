/- Lists of facts as an argument, each a key. -/
import Derived.Test.YtnlmchbigpjamaaJnArg
import Derived.Test.YtnlmchbigpjamaaJnKey
set_option linter.unusedSimpArgs false
set_option linter.unusedVariables false
namespace Go.Proofs.Ytnlmchbigpjamaa
open Go Go.RowKit Go.ChangeShapes Go.WideShapes Herb Herb.Jn Go.ChangeAt
section
variable {H : Type} {enc : TypeId × Value → H} {W : World} {b0 base : Nat} {held : Bool} {r : Reach}
theorem facts_cellsK {fuel : Nat} {cs : List Value} {x : DataW H × List MemPlace} (hf : DataW.trod enc Try.prog W 0 (fun _ => true) held fuel 26 cs = some x) :
    ∃ y : Sl, cs = [slV y] ∧ Fs W y.A y.fs ∧ (∀ f ∈ y.fs, Kb f) ∧ y.fs.length ≤ 9223372036854775807 ∧ ∀ m, (∀ n ∈ x.1.weights Try.prog 26, n ≤ m) → y.fs.length ≤ m := by
  have c4 : Try.prog.cellsOf 44 = 6 := by kernel_rfl
  have hbe : Try.prog.bytesOf 44 = 64 := by kernel_rfl
  rcases DataW.trod_slice Try.underlying26 hf with ⟨hcs, hx⟩ | ⟨a, len0, cap0, elems, rest, n, _, hcs, hx, _, hl, hm, hlen, hel, _, _⟩
  · exact ⟨⟨none, [], 0⟩, hcs, Fs.nil_ _ _, (fun f h => by cases h), by simp, fun _ _ => Nat.zero_le _⟩
  · have each : ∀ i, i < len0 → ∃ y : Ft, (∀ j, j < 6 → W.cell? (a.add (i * 6 + j)) = y.cells[j]?) ∧ Kb y := by
      intro i hi
      have he := hel i hi
      obtain ⟨x, hxe⟩ : ∃ x, elems[i]? = some x := ⟨_, List.getElem?_eq_getElem (by omega)⟩
      rw [hxe, c4] at he
      rw [Option.bind_eq_some_iff] at he
      obtain ⟨cs, hc, ht⟩ := he
      obtain ⟨k, s, va, se, li, ki, hy, _⟩ := fact_cells ht
      obtain ⟨_, _, hcell⟩ := World.cells?_some hc
      refine ⟨⟨k, va, se, li, ki, s⟩, fun j hj => ?_, Kb.of (by rw [hy]; rfl) ht⟩
      have := hcell j hj
      rw [hy] at this
      rw [add_addJ] at this
      exact this
    obtain ⟨ls, hls, hp⟩ := choose_listJ len0 each
    subst hls
    refine ⟨⟨some a, ls, cap0⟩, hcs, ⟨ftC_length ls, fun hn => ?_⟩, fun f hf => ?_, by unfold maxLen at hm; show ls.length ≤ _; omega, ?_⟩
    · obtain ⟨b, off, spot⟩ := a
      have h0 := (hp 0 hn).1 0 (by omega)
      have h0' : W.cell? ((⟨b, off, spot⟩ : Addr).add (0 * 6 + 0)) = some (.string (ls[0]).k) := h0
      have hspot : spot = none := by simpa [Addr.add] using World.cell?_spot h0'
      subst hspot
      have hblt : b < W.heap.size := by
        have := World.block_lt_of_cell? W _ h0'
        simpa [Addr.add] using this
      refine ⟨b, off, rfl, hblt, fun j u hu => ?_⟩
      have hj : j < ls.length * 6 := by
        rcases Nat.lt_or_ge j (ls.length * 6) with h | h
        · exact h
        · rw [List.getElem?_eq_none (by rw [ftC_length]; exact h)] at hu; cases hu
      have hq : j / 6 < ls.length := by omega
      have e : j / 6 * 6 + j % 6 = j := by omega
      have hc := (hp (j / 6) hq).1 (j % 6) (by omega)
      rw [← ftC_get hq (by omega), e, add_eq] at hc
      rw [hc, hu]
    · obtain ⟨i, hi, rfl⟩ := List.getElem_of_mem hf
      exact (hp i hi).2
    · intro m hw
      have hd : x.1 = .slice (elems.map (·.1)) (rest.map (·.1)) := congrArg Prod.fst hx
      rw [hd] at hw
      have := hw ((elems.map (·.1)).length * 64 + (rest.map (·.1)).length * 64) (by
        unfold DataW.weights
        rw [Try.underlying26]
        simp [hbe]
        exact .inl (by omega))
      simp at this
      show ls.length ≤ m
      omega
set_option maxRecDepth 100000 in
/-- Lists of facts as an argument. -/
theorem open_ftrowsK {v : Value} {d : DataW H} {ps : List MemPlace} (hv : Value.okWide Try.prog W r b0 22 v) (h : DataW.Trod enc Try.prog W 0 (fun _ => true) held 22 v d ps) :
    ∃ (A : Option Addr) (c : Nat) (ls : List Sl), v = .slice A ls.length c ∧ Rows_ W A ls ∧ (∀ x ∈ ls, ∀ f ∈ x.fs, Kb f) ∧ ls.length ≤ 9223372036854775807 ∧
      ∀ {ts : List TypeId} {ds : List (DataW H)}, (DataW.weightsEach Try.prog ts ds).all (· ≤ reachBytes) = true → ∀ (j : Nat), ts[j]? = some 22 → ds[j]? = some d → (∀ y ∈ ls, y.fs.length ≤ reachBytes) ∧ ls.length ≤ reachBytes := by
  obtain ⟨a0, len0, cap0, rfl⟩ := okWide_slice Try.underlying22 hv
  obtain ⟨fuel, hf⟩ := h
  have c3 : Try.prog.cellsOf 26 = 1 := by kernel_rfl
  have hbe : Try.prog.bytesOf 26 = 24 := by kernel_rfl
  rcases DataW.trod_slice Try.underlying22 hf with ⟨hcs, hx⟩ | ⟨a, len, cap, elems, rest, n, _, hcs, hx, _, hl, hm, hlen, hel, _, _⟩
  · simp [Value.cells] at hcs
    obtain ⟨rfl, rfl, rfl⟩ := hcs
    exact ⟨none, 0, [], rfl, ⟨Rd.nil_ _ _ _, fun _ h => (by cases h)⟩, fun _ h => (by cases h), by simp, fun _ _ _ _ => ⟨fun _ h => (by cases h), Nat.zero_le _⟩⟩
  · simp [Value.cells] at hcs
    obtain ⟨rfl, rfl, rfl⟩ := hcs
    have each : ∀ i, i < len0 → ∃ y : Sl, W.cell? (a.add i) = some (slV y) ∧ Fs W y.A y.fs ∧ (∀ f ∈ y.fs, Kb f) ∧ ∀ m, (∀ n ∈ (elems[i]?.map (fun x => x.1.weights Try.prog 26)).getD [], n ≤ m) → y.fs.length ≤ m := by
      intro i hi
      have he := hel i hi
      obtain ⟨x, hxe⟩ : ∃ x, elems[i]? = some x := ⟨_, List.getElem?_eq_getElem (by omega)⟩
      rw [hxe, c3] at he
      rw [Option.bind_eq_some_iff] at he
      obtain ⟨cs, hc, ht⟩ := he
      obtain ⟨y, hy, hb, hkb, _, hw⟩ := facts_cellsK ht
      obtain ⟨_, _, hcell⟩ := World.cells?_some hc
      refine ⟨y, ?_, hb, hkb, fun m hm => hw m (by rw [hxe] at hm; exact hm)⟩
      have := hcell 0 (by omega)
      rw [hy] at this
      rw [add_addJ, Nat.mul_one, Nat.add_zero] at this
      rw [this]
      rfl
    obtain ⟨ls, hls, hp⟩ := choose_listJ len0 each
    subst hls
    refine ⟨some a, cap0, ls, rfl, ⟨⟨by rw [List.length_map, Nat.mul_one], fun hn => ?_⟩, ?_⟩, fun y hy => ?_, by unfold maxLen at hm; omega, ?_⟩
    · obtain ⟨b, off, spot⟩ := a
      have h0 := (hp 0 hn).1
      have hspot : spot = none := by simpa [Addr.add] using World.cell?_spot h0
      subst hspot
      have hblt : b < W.heap.size := by
        have := World.block_lt_of_cell? W _ h0
        simpa [Addr.add] using this
      refine ⟨b, off, rfl, hblt, fun j u hu => ?_⟩
      have hj : j < ls.length := by
        rcases Nat.lt_or_ge j ls.length with h | h
        · exact h
        · rw [List.getElem?_eq_none (by rw [List.length_map]; exact h)] at hu; cases hu
      have hc := (hp j hj).1
      rw [add_eq] at hc
      rw [List.getElem?_map, List.getElem?_eq_getElem hj] at hu
      rw [hc]
      exact hu
    · intro y hy
      obtain ⟨i, hi, rfl⟩ := List.getElem_of_mem hy
      exact (hp i hi).2.1
    · obtain ⟨i, hi, rfl⟩ := List.getElem_of_mem hy
      exact (hp i hi).2.2.1
    · intro ts ds hall j hjt hjd
      have hd : d = .slice (elems.map (·.1)) (rest.map (·.1)) := congrArg Prod.fst hx
      refine ⟨fun y hy => ?_, ?_⟩
      · obtain ⟨i, hi, rfl⟩ := List.getElem_of_mem hy
        refine (hp i hi).2.2.2 reachBytes (fun k hk => ?_)
        obtain ⟨x, hxe⟩ : ∃ x, elems[i]? = some x := ⟨_, List.getElem?_eq_getElem (by omega)⟩
        rw [hxe] at hk
        have hmem : k ∈ DataW.weights Try.prog 22 d := by
          rw [hd]
          unfold DataW.weights
          rw [Try.underlying22]
          refine List.mem_cons_of_mem _ (List.mem_append_left _ (weights_all_memJ _ (d := x.1) ?_ k hk))
          exact List.mem_map.2 ⟨x, List.mem_of_getElem? hxe, rfl⟩
        have := List.all_eq_true.1 hall _ (DataW.weights_mem_each hjt hjd _ hmem)
        simpa using this
      · have hmem : (elems.map (·.1)).length * 24 + (rest.map (·.1)).length * 24 ∈ DataW.weights Try.prog 22 d := by
          rw [hd]
          unfold DataW.weights
          rw [Try.underlying22]
          simp [hbe]
          exact .inl (by omega)
        have := List.all_eq_true.1 hall _ (DataW.weights_mem_each hjt hjd _ hmem)
        simp at this
        omega
end
end Go.Proofs.Ytnlmchbigpjamaa
