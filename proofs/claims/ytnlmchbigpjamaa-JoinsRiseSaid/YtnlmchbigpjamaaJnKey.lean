/- Facts as keys of maps. -/
import Derived.Test.YtnlmchbigpjamaaJnMany
import Derived.DeepKeys4
import Derived.MapViews
import Derived.Maps.Keyed
import Derived.Maps.Own
set_option linter.unusedSimpArgs false
set_option linter.unusedVariables false
namespace Go.Proofs.Ytnlmchbigpjamaa
open Go Go.RowKit Go.Shelf Herb Herb.Jn Go.Maps Go.ChangeShapes Go.WideShapes Go.ChangeAt Go.WideMaps
theorem ftLaid : laidOutB Try.prog = true := by kernel_rfl
theorem ftRow : (44 : TypeId) < Try.prog.types.size := of_decide_eq_true (by kernel_rfl)
theorem ftDeep : Try.prog.keyTypeAt (Try.prog.types.size + 1) 44 = true := by kernel_rfl
theorem ftWide : (match Try.prog.underlying 44 with | some (.array _ _) | some (.struct _) => true | _ => false) = true := by rw [Try.underlying44]
theorem ftKeyed : Keyed Try.prog 44 := Keyed.of_law (deep_law_laid ftLaid (m := 3) (by omega) ftRow (by kernel_rfl) ftWide)
theorem ftFormed (f : Ft) : f.val.formed Try.prog 44 = true := by
  have c6 : Try.prog.cellsOf 44 = 6 := by kernel_rfl
  simp [Ft.val, Value.formed, Try.underlying44, c6]
/-- A fact that a map's key may be. -/
def Kb (f : Ft) : Prop := ∃ kl, keyOf Try.prog 44 f.val = some kl
theorem Kb.of {H : Type} {enc : TypeId × Value → H} {w : World} {base : Nat} {sp : Nat → Bool} {held : Bool} {fuel : Nat} {f : Ft} {cs : List Value} {x : DataW H × List MemPlace} (hc : f.val.cells.toList = cs) (h : DataW.trod enc Try.prog w base sp held fuel 44 cs = some x) : Kb f :=
  ⟨_, (keyOf_asKey ftDeep ftWide (ftFormed f) ⟨fuel, by rw [hc]; exact h⟩).1⟩
theorem Ft.val_inj {f g : Ft} (h : f.val = g.val) : f = g := by
  obtain ⟨a, b, c, d, e, i⟩ := f
  obtain ⟨a', b', c', d', e', i'⟩ := g
  simp only [Ft.val, Value.agg.injEq, Array.mk.injEq, List.cons.injEq, Value.string.injEq, Value.int.injEq, true_and, and_true, Int.ofNat_inj, Int.natCast_inj] at h
  simp_all
end Go.Proofs.Ytnlmchbigpjamaa
