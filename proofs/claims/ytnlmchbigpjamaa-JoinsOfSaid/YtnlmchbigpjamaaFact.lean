/- Facts as arguments, and when two facts are the same. -/
import Derived.Test.YtnlmchbigpjamaaCmp
import Derived.Test.YtnlmchbigpjamaaLift
import Derived.Lib.SmallJoins
import Derived.Laws.StructEq
set_option linter.unusedSimpArgs false
set_option linter.unusedVariables false
namespace Herb
open Go
theorem one_of {α : Type} {l : List α} {o : Nat} {v : α} (h : (l.drop o).take 1 = [v]) : l[o]? = some v := by
  have h2 : ((l.drop o).take 1)[0]? = some v := by rw [h]; rfl
  rw [List.getElem?_take, if_pos (by omega), List.getElem?_drop] at h2
  simpa using h2
theorem six_of {α : Type} {l : List α} {a b c d e f : α} (hl : l.length = 6) (h0 : l[0]? = some a) (h1 : l[1]? = some b) (h2 : l[2]? = some c) (h3 : l[3]? = some d) (h4 : l[4]? = some e) (h5 : l[5]? = some f) : l = [a, b, c, d, e, f] := by
  match l, hl with
  | [_, _, _, _, _, _], _ => simp_all
end Herb
namespace Go.Proofs.Ytnlmchbigpjamaa
open Go Go.RowKit Go.ChangeShapes Go.WideShapes Herb
section
variable {H : Type} {enc : TypeId × Value → H} {W : World} {b0 base : Nat} {spare : Nat → Bool} {held : Bool} {r : Reach}
theorem fact_cells {fuel : Nat} {cs : List Value} {x : DataW H × List MemPlace} (h : DataW.trod enc Try.prog W base spare held fuel 44 cs = some x) :
    ∃ (k s : ByteArray) (va se li ki : Nat), cs = [.string k, .int .u32 (va : Int), .int .u64 (se : Int), .int .u64 (li : Int), .int .u8 (ki : Int), .string s] ∧ va < 4294967296 ∧ se < 18446744073709551616 ∧ li < 18446744073709551616 ∧ ki < 256 := by
  obtain ⟨xs, n, _, _, hlen, hxs, hf⟩ := DataW.trod_struct Try.underlying44 h
  have hlen6 : cs.length = 6 := hlen.trans (by kernel_rfl)
  have hx6 : xs.length = 6 := hxs
  have g : ∀ (i : Nat), i < 6 → ∃ y, xs[i]? = some y := fun i hi => ⟨_, List.getElem?_eq_getElem (by omega)⟩
  obtain ⟨y0, e0⟩ := g 0 (by omega)
  obtain ⟨y1, e1⟩ := g 1 (by omega)
  obtain ⟨y2, e2⟩ := g 2 (by omega)
  obtain ⟨y3, e3⟩ := g 3 (by omega)
  obtain ⟨y4, e4⟩ := g 4 (by omega)
  obtain ⟨y5, e5⟩ := g 5 (by omega)
  have c9 : Try.prog.cellsOf 9 = 1 := by kernel_rfl
  have c25 : Try.prog.cellsOf 40 = 1 := by kernel_rfl
  have c26 : Try.prog.cellsOf 41 = 1 := by kernel_rfl
  have c27 : Try.prog.cellsOf 42 = 1 := by kernel_rfl
  obtain ⟨k, h0, _, _⟩ := DataW.trod_string Try.underlying9 ((hf 0 _ rfl).trans e0)
  obtain ⟨va, h1, _, w1⟩ := DataW.trod_int Try.underlying40 ((hf 1 _ rfl).trans e1)
  obtain ⟨se, h2, _, w2⟩ := DataW.trod_int Try.underlying41 ((hf 2 _ rfl).trans e2)
  obtain ⟨li, h3, _, w3⟩ := DataW.trod_int Try.underlying41 ((hf 3 _ rfl).trans e3)
  obtain ⟨ki, h4, _, w4⟩ := DataW.trod_int Try.underlying42 ((hf 4 _ rfl).trans e4)
  obtain ⟨s, h5, _, _⟩ := DataW.trod_string Try.underlying9 ((hf 5 _ rfl).trans e5)
  replace h0 : (cs.drop 0).take (Try.prog.cellsOf 9) = _ := h0
  replace h1 : (cs.drop 1).take (Try.prog.cellsOf 40) = _ := h1
  replace h2 : (cs.drop 2).take (Try.prog.cellsOf 41) = _ := h2
  replace h3 : (cs.drop 3).take (Try.prog.cellsOf 41) = _ := h3
  replace h4 : (cs.drop 4).take (Try.prog.cellsOf 42) = _ := h4
  replace h5 : (cs.drop 5).take (Try.prog.cellsOf 9) = _ := h5
  rw [c9] at h0 h5
  rw [c25] at h1
  rw [c26] at h2 h3
  rw [c27] at h4
  have hcs := six_of hlen6 (one_of h0) (one_of h1) (one_of h2) (one_of h3) (one_of h4) (one_of h5)
  simp [Lit.wf, IntKind.min, IntKind.max, IntKind.signed, IntKind.bits] at w1 w2 w3 w4
  refine ⟨k, s, va.toNat, se.toNat, li.toNat, ki.toNat, ?_, by omega, by omega, by omega, by omega⟩
  rw [hcs, Int.toNat_of_nonneg w1.1, Int.toNat_of_nonneg w2.1, Int.toNat_of_nonneg w3.1, Int.toNat_of_nonneg w4.1]
set_option maxRecDepth 100000 in
theorem open_fact {v : Value} {d : DataW H} {ps : List MemPlace} (hv : Value.okWide Try.prog W r b0 44 v) (h : DataW.Trod enc Try.prog W base spare held 44 v d ps) :
    ∃ (k s : ByteArray) (va se li ki : Nat), v = .agg #[.string k, .int .u32 (va : Int), .int .u64 (se : Int), .int .u64 (li : Int), .int .u8 (ki : Int), .string s] ∧ va < 4294967296 ∧ se < 18446744073709551616 ∧ li < 18446744073709551616 ∧ ki < 256 := by
  obtain ⟨cs, rfl, hsz⟩ := okWide_struct Try.underlying44 hv
  obtain ⟨fuel, hf⟩ := h
  obtain ⟨k, s, va, se, li, ki, hc, hr⟩ := fact_cells hf
  refine ⟨k, s, va, se, li, ki, ?_, hr⟩
  have : cs.toList = _ := hc
  rw [← this]
end
/-- A fact is itself. -/
theorem fact_refl (W : World) (k v : ByteArray) (va se li ki : Int) :
    (Op.equalIn 10000 44 (.agg #[.string k, .int .u32 va, .int .u64 se, .int .u64 li, .int .u8 ki, .string v]) (.agg #[.string k, .int .u32 va, .int .u64 se, .int .u64 li, .int .u8 ki, .string v])).run Try.prog W = .ok true W := by
  have hu := Try.underlying44
  rw [run_equalIn_struct W 9999 44 _ _ (by unfold Program.fieldsOf; rw [hu]) (by kernel_rfl)]
  unfold Program.fieldsOf
  rw [hu]
  simp only []
  have u9 := Try.underlying9
  have u25 := Try.underlying40
  have u26 := Try.underlying41
  have u27 := Try.underlying42
  have c9 : Try.prog.cellsOf 9 = 1 := by kernel_rfl
  have c25 : Try.prog.cellsOf 40 = 1 := by kernel_rfl
  have c26 : Try.prog.cellsOf 41 = 1 := by kernel_rfl
  have c27 : Try.prog.cellsOf 42 = 1 := by kernel_rfl
  go_simp
end Go.Proofs.Ytnlmchbigpjamaa
