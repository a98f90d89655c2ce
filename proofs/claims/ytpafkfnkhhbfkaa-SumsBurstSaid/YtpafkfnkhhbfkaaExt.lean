/- Regions that draw their order and whose calls make memory: one walk in the order of the text serves every order, where each call hands back one value in every world that grew out of the first. The theorem is the library's (wp_region_quiet), at the class 'worlds that are as the first one was below block B'. -/
import Derived.Test.YtpafkfnkhhbfkaaBase
import Derived.BigQuiet
set_option linter.unusedSimpArgs false
set_option linter.unusedVariables false
namespace Herb
open Go Go.RowKit

/-- A world that is below block B as W was. -/
def Ext (B : Nat) (W : World) : Type := { w : World // Below B W w }
instance (B : Nat) (W : World) : Nonempty (Ext B W) := ⟨⟨W, Below.refl _ _⟩⟩
theorem Ext.below {B : Nat} {W : World} (x : Ext B W) : Below B W x.1 := x.2
theorem Ext.cell {B : Nat} {W : World} {p : Addr} {v : Value} (hp : p.block < B) (h : W.cell? p = some v) (x : Ext B W) : x.1.cell? p = some v := (x.2.cell hp).trans h

theorem wp_region_ext {P : Program} {id : Nat} {Q : Exit → Act → World → Prop} {a : Act} {w : World} {l : List Oper} (B : Nat) (hm : P.follows .mixedOrders = true) (hB : Region.lexB .any l.toArray = true)
    (h : wpQuiet P l.toArray (fun w' => ∃ x : Ext B w, w' = x.1) (fun a' => ∀ w', (∃ x : Ext B w, w' = x.1) → Q .normal a' w') l a) : (Code.region id l.toArray true).wp P Q a w :=
  wp_region_quiet (C := fun w' => ∃ x : Ext B w, w' = x.1) hm hB ⟨⟨w.drew, (Below.refl _ _).drew⟩, rfl⟩ (by simpa using h)

theorem ext_call {P : Program} {f : FuncId} {args : Array Value} {B : Nat} {W : World} (hBW : B ≤ W.heap.size) (x : Ext B W) {v : Value}
    (h : Calls P f args x.1 fun e w' => e = .returned v ∧ Below x.1.heap.size x.1 w') : Calls P f args x.1 fun e w'' => e = .returned v ∧ ∃ y : Ext B W, w'' = y.1 :=
  h.mono fun e w' ⟨he, hb⟩ => ⟨he, ⟨w', x.2.trans (hb.mono (Nat.le_trans hBW x.2.size))⟩, rfl⟩
theorem ext_same {P : Program} {f : FuncId} {args : Array Value} {B : Nat} {W : World} (x : Ext B W) {v : Value}
    (h : Calls P f args x.1 fun e w' => e = .returned v ∧ x.1 = w') : Calls P f args x.1 fun e w'' => e = .returned v ∧ ∃ y : Ext B W, w'' = y.1 :=
  h.mono fun e w' ⟨he, hb⟩ => ⟨he, x, hb.symm⟩
end Herb
