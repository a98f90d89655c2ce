/- Walks of package cmp's Compare, Or at the instances that the keys use. -/
import Derived.Test.YtelppijpmjoblaaDoorRows
import Derived.Test.YtelppijpmjoblaaDoorBase
import Derived.Handy
import Derived.Lib.Hide
import Derived.WalkLawsBesides
set_option linter.unusedSimpArgs false
set_option linter.unusedVariables false
namespace Herb
open Go Go.RowKit
def cmpI (a b : Int) : Int := if a < b then -1 else if b < a then 1 else 0
/-- Texts, byte by byte. -/
def cmpS (a b : ByteArray) : Int := if Op.bytesLess a.toList b.toList then -1 else if a.toList == b.toList then 0 else 1
def orL : List Int → Int
  | [] => 0
  | x :: xs => if x = 0 then orL xs else x
def ivs (xs : List Int) : List Value := xs.map fun x => .int .i64 x
theorem ivs_length (xs : List Int) : (ivs xs).length = xs.length := by simp [ivs]
end Herb
namespace Go.Proofs.YtelppijpmjoblaaDoor
open Go Go.RowKit Herb

theorem nan_int (w : World) (x : Int) : Calls Tryd.prog 29 #[.int .i64 x] w fun e w' => e = .returned (.bool false) ∧ w = w' := by
  go_enter Tryd.func29, Tryd.ntmps29
  go_wp2
  go_ret
  exact ⟨rfl, rfl⟩
theorem compare_int (w : World) (a b : Int) : Calls Tryd.prog 25 #[.int .i64 a, .int .i64 b] w fun e w' => e = .returned (.int .i64 (cmpI a b)) ∧ w = w' := by
  go_enter Tryd.func25, Tryd.ntmps25
  go_wp2_with (go_at_call 29; refine (nan_int _ _).mono ?_; rintro _ _ ⟨rfl, rfl⟩)
  all_goals
    go_ret
    refine ⟨?_, rfl⟩
    unfold cmpI
    first | rw [if_pos (by assumption)]; rfl | rw [if_neg (by omega), if_pos (by omega)]; rfl | rw [if_neg (by omega), if_neg (by omega)]; rfl
end Go.Proofs.YtelppijpmjoblaaDoor
