/- Walks of what all layers' statements use, at bytes: copied, TwinBytes, kept, LeftBytes. -/
import Derived.Test.YtdifdbkbpeanhaaDoorRows
import Derived.Test.YtdifdbkbpeanhaaDoorMg1
import Derived.Handy
import Derived.Lib.Hide
import Derived.Deep.QuietTactic
import Derived.BigQuiet
set_option linter.unusedSimpArgs false
set_option linter.unusedVariables false
namespace Go.Proofs.YtdifdbkbpeanhaaDoor
open Go Go.RowKit Herb

theorem info_u8 : (Tryd.prog.info? 5).map (fun i => (i.zero, i.size, i.bytes)) = some (some (.int .u8 0), 1, 1) := by kernel_rfl

/-- The copy while it is made: k of its cells are laid. -/
def midB (l : List UInt8) (m : UInt8) (k : Nat) : Array Value := fillA (bvs (l ++ [m, m])) (Value.int .u8 0) k
theorem midB_len (l : List UInt8) (m : UInt8) : (bvs (l ++ [m, m])).length = l.length + 2 := by rw [bvs_length]; simp
theorem midB_zero (l : List UInt8) (m : UInt8) : (List.replicate (l.length + 2) (Value.int .u8 0)).toArray = midB l m 0 := by rw [midB, fillA_zero, midB_len]
theorem midB_end (l : List UInt8) (m : UInt8) : midB l m (l.length + 2) = (bvs (l ++ [m, m])).toArray := fillA_end _ _ _ (by rw [midB_len]; omega)
theorem midB_size (l : List UInt8) (m : UInt8) (k : Nat) (h : k ≤ l.length + 2) : (midB l m k).size = l.length + 2 := by rw [midB, fillA_size _ _ _ (by rw [midB_len]; omega), midB_len]
theorem midB_mark (l : List UInt8) (m : UInt8) (k : Nat) (h1 : l.length ≤ k) (h : k < l.length + 2) : (midB l m k).setIfInBounds k (.int .u8 (m.toNat : Int)) = midB l m (k + 1) := by
  refine fillA_step _ _ _ (by rw [midB_len]; omega) _ ?_
  rw [bvs_get (by simp; omega), List.getElem_append_right h1]
  have : k - l.length = 0 ∨ k - l.length = 1 := by omega
  rcases this with h | h <;> simp [h, bv]
theorem midB_both (l : List UInt8) (m : UInt8) (k : Nat) (h : k < l.length) : ((midB l m k).setIfInBounds k (.int .u8 (m.toNat : Int))).setIfInBounds k (.int .u8 (l[k].toNat : Int)) = midB l m (k + 1) := by
  rw [set_set]
  refine fillA_step _ _ _ (by rw [midB_len]; omega) _ ?_
  rw [bvs_get (by simp; omega), List.getElem_append_left h]
  rfl

end Go.Proofs.YtdifdbkbpeanhaaDoor
