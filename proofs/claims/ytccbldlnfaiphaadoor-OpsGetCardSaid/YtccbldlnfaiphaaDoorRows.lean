/-
  NARROWER THAN 'FOR EVERY INPUT', by the rows' own cells (each row's printed sentence says how): OpsPut: laid · OpsGet: laid · OpsBack: laid · OpsAgain: laid · OpsFields: laid · OpsChanges: laid.
  DERIVED. THE GIVEN ROWS OF THIS SEAT. 6 by the template 'for every input the law returns true; each argument reads behind the call as it read before'; 0 by the template 'total and deterministic' (their statements: YtccbldlnfaiphaaDoorTotals.lean).
  GIVEN WITH THE SEED: the statements are not yours to turn. If you find one false, say at which input.
  Laid BY PROGRAM, IN A SANDBOX (cutbox-rows.mjs): the forced cells as the released guide's own fill.sh prints them over the translation a6e46f6a8cb1d24c… (all of the seat's roots in one cut). By AI agents, Wed Nov 11 2026. No macro, syntax, notation, axiom, sorry.
-/
import Derived.Test.YtccbldlnfaiphaaDoorChecked
import GoSem.Claim
import GoSem.ClaimJoined
import GoSem.ClaimMapViews
import Derived.JoinedTies
import Derived.KernelRfl
namespace Go.Proofs.YtccbldlnfaiphaaDoor
/- THE CELL 'sum', in the pinned program and in every row, IS THE sha256 OF THE DUMP (.gsa) THAT YtccbldlnfaiphaaDoorProg.lean LOADS. Nothing in Lean hashes anything: it is a label: what it is worth is what the hold of that sum in a sandbox is worth. -/
noncomputable def Tryd.pinned : Pinned := { name := "ytccbldlnfaiphaadoor", sum := "a6e46f6a8cb1d24c314627cf484be0674df722a3e1e23db1ba2ec4c97caaa92b", checked := Tryd.checked }
namespace Rows
def none {H : Type} : Left H := { results := [], args := [] }

/- WHAT THE LISTED PACKAGE-LEVEL VARIABLES READ AS WHEN THE CALL BEGINS. Each datum BY PROGRAM (the guide's laid-datum.mjs) off the statement by which the dump's own 'gosem.cut.vars' lays the variable. In a bare row this is a premise. The card (YtccbldlnfaiphaaDoorCards.lean) ties it to the program's text. -/
def laid_math_bits_deBruijn32tab {H : Type} : DataW H := .agg [.lit (.int .u8 0), .lit (.int .u8 1), .lit (.int .u8 28), .lit (.int .u8 2), .lit (.int .u8 29), .lit (.int .u8 14), .lit (.int .u8 24), .lit (.int .u8 3), .lit (.int .u8 30), .lit (.int .u8 22), .lit (.int .u8 20), .lit (.int .u8 15), .lit (.int .u8 25), .lit (.int .u8 17), .lit (.int .u8 4), .lit (.int .u8 8), .lit (.int .u8 31), .lit (.int .u8 27), .lit (.int .u8 13), .lit (.int .u8 23), .lit (.int .u8 21), .lit (.int .u8 19), .lit (.int .u8 16), .lit (.int .u8 7), .lit (.int .u8 26), .lit (.int .u8 12), .lit (.int .u8 18), .lit (.int .u8 6), .lit (.int .u8 11), .lit (.int .u8 5), .lit (.int .u8 10), .lit (.int .u8 9)]
def laid_math_bits_deBruijn64tab {H : Type} : DataW H := .agg [.lit (.int .u8 0), .lit (.int .u8 1), .lit (.int .u8 56), .lit (.int .u8 2), .lit (.int .u8 57), .lit (.int .u8 49), .lit (.int .u8 28), .lit (.int .u8 3), .lit (.int .u8 61), .lit (.int .u8 58), .lit (.int .u8 42), .lit (.int .u8 50), .lit (.int .u8 38), .lit (.int .u8 29), .lit (.int .u8 17), .lit (.int .u8 4), .lit (.int .u8 62), .lit (.int .u8 47), .lit (.int .u8 59), .lit (.int .u8 36), .lit (.int .u8 45), .lit (.int .u8 43), .lit (.int .u8 51), .lit (.int .u8 22), .lit (.int .u8 53), .lit (.int .u8 39), .lit (.int .u8 33), .lit (.int .u8 30), .lit (.int .u8 24), .lit (.int .u8 18), .lit (.int .u8 12), .lit (.int .u8 5), .lit (.int .u8 63), .lit (.int .u8 55), .lit (.int .u8 48), .lit (.int .u8 27), .lit (.int .u8 60), .lit (.int .u8 41), .lit (.int .u8 37), .lit (.int .u8 16), .lit (.int .u8 46), .lit (.int .u8 35), .lit (.int .u8 44), .lit (.int .u8 21), .lit (.int .u8 52), .lit (.int .u8 32), .lit (.int .u8 23), .lit (.int .u8 11), .lit (.int .u8 54), .lit (.int .u8 26), .lit (.int .u8 40), .lit (.int .u8 15), .lit (.int .u8 34), .lit (.int .u8 20), .lit (.int .u8 31), .lit (.int .u8 10), .lit (.int .u8 25), .lit (.int .u8 14), .lit (.int .u8 19), .lit (.int .u8 9), .lit (.int .u8 13), .lit (.int .u8 8), .lit (.int .u8 7), .lit (.int .u8 6)]
def laid_internal_strconv_uint64pow10 {H : Type} : DataW H := .agg [.lit (.int .u64 1), .lit (.int .u64 10), .lit (.int .u64 100), .lit (.int .u64 1000), .lit (.int .u64 10000), .lit (.int .u64 100000), .lit (.int .u64 1000000), .lit (.int .u64 10000000), .lit (.int .u64 100000000), .lit (.int .u64 1000000000), .lit (.int .u64 10000000000), .lit (.int .u64 100000000000), .lit (.int .u64 1000000000000), .lit (.int .u64 10000000000000), .lit (.int .u64 100000000000000), .lit (.int .u64 1000000000000000), .lit (.int .u64 10000000000000000), .lit (.int .u64 100000000000000000), .lit (.int .u64 1000000000000000000), .lit (.int .u64 10000000000000000000)]
def laid_herbarium_ops_sets {H : Type} : DataW H := .agg [.lit (.int .i64 4), .lit (.int .i64 1), .lit (.int .i64 0), .lit (.int .i64 5), .lit (.int .i64 2)]

/-- 'herbariumlaw07.OpsPut': WHATEVER THE INPUT: true; the input reads as it did. -/
def opsPutSpec : ChangeSpec := { name := "opsPut", fn := fun _ => fun
  | [d1, d2] => { results := [.lit (.bool true)], args := [d1, d2] }
  | _ => none }
def opsPutRow : OpenClaim := { program := "ytccbldlnfaiphaadoor", sum := "a6e46f6a8cb1d24c314627cf484be0674df722a3e1e23db1ba2ec4c97caaa92b", func := "herbarium/herbariumlaw07.OpsPut", spec := "opsPut", unfollowed := true, recurses := true, named := ["herbarium/ops.sets", "internal/strconv.uint64pow10", "math/bits.deBruijn32tab", "math/bits.deBruijn64tab"], apart := false, laid := [("math/bits.deBruijn32tab", laid_math_bits_deBruijn32tab), ("math/bits.deBruijn64tab", laid_math_bits_deBruijn64tab), ("internal/strconv.uint64pow10", laid_internal_strconv_uint64pow10), ("herbarium/ops.sets", laid_herbarium_ops_sets)] }
def OpsPutSaid : Prop := opsPutRow.holds Tryd.pinned (OpenSpec.ofChange opsPutSpec)

/-- ITS FALSE NEIGHBOUR: 'it returns false'. Refute it at one input. -/
def opsPutWrong : ChangeSpec := { name := "opsPut", fn := fun _ => fun
  | [d1, d2] => { results := [.lit (.bool false)], args := [d1, d2] }
  | _ => none }
def OpsPutWrongFalsely : Prop := opsPutRow.holds Tryd.pinned (OpenSpec.ofChange opsPutWrong)

/-- 'herbariumlaw07.OpsGet': WHATEVER THE INPUT: true; the input reads as it did. -/
def opsGetSpec : ChangeSpec := { name := "opsGet", fn := fun _ => fun
  | [d] => { results := [.lit (.bool true)], args := [d] }
  | _ => none }
def opsGetRow : OpenClaim := { program := "ytccbldlnfaiphaadoor", sum := "a6e46f6a8cb1d24c314627cf484be0674df722a3e1e23db1ba2ec4c97caaa92b", func := "herbarium/herbariumlaw07.OpsGet", spec := "opsGet", unfollowed := true, recurses := true, named := ["herbarium/ops.sets", "internal/strconv.uint64pow10", "math/bits.deBruijn32tab", "math/bits.deBruijn64tab"], apart := false, laid := [("math/bits.deBruijn32tab", laid_math_bits_deBruijn32tab), ("math/bits.deBruijn64tab", laid_math_bits_deBruijn64tab), ("internal/strconv.uint64pow10", laid_internal_strconv_uint64pow10), ("herbarium/ops.sets", laid_herbarium_ops_sets)] }
def OpsGetSaid : Prop := opsGetRow.holds Tryd.pinned (OpenSpec.ofChange opsGetSpec)

/-- ITS FALSE NEIGHBOUR: 'it returns false'. Refute it at one input. -/
def opsGetWrong : ChangeSpec := { name := "opsGet", fn := fun _ => fun
  | [d] => { results := [.lit (.bool false)], args := [d] }
  | _ => none }
def OpsGetWrongFalsely : Prop := opsGetRow.holds Tryd.pinned (OpenSpec.ofChange opsGetWrong)

/-- 'herbariumlaw07.OpsBack': WHATEVER THE INPUT: true; the input reads as it did. -/
def opsBackSpec : ChangeSpec := { name := "opsBack", fn := fun _ => fun
  | [d1, d2, d3] => { results := [.lit (.bool true)], args := [d1, d2, d3] }
  | _ => none }
def opsBackRow : OpenClaim := { program := "ytccbldlnfaiphaadoor", sum := "a6e46f6a8cb1d24c314627cf484be0674df722a3e1e23db1ba2ec4c97caaa92b", func := "herbarium/herbariumlaw07.OpsBack", spec := "opsBack", unfollowed := true, recurses := true, named := ["herbarium/ops.sets"], apart := false, laid := [("herbarium/ops.sets", laid_herbarium_ops_sets)] }
def OpsBackSaid : Prop := opsBackRow.holds Tryd.pinned (OpenSpec.ofChange opsBackSpec)

/-- ITS FALSE NEIGHBOUR: 'it returns false'. Refute it at one input. -/
def opsBackWrong : ChangeSpec := { name := "opsBack", fn := fun _ => fun
  | [d1, d2, d3] => { results := [.lit (.bool false)], args := [d1, d2, d3] }
  | _ => none }
def OpsBackWrongFalsely : Prop := opsBackRow.holds Tryd.pinned (OpenSpec.ofChange opsBackWrong)

/-- 'herbariumlaw07.OpsAgain': WHATEVER THE INPUT: true; the input reads as it did. -/
def opsAgainSpec : ChangeSpec := { name := "opsAgain", fn := fun _ => fun
  | [d] => { results := [.lit (.bool true)], args := [d] }
  | _ => none }
def opsAgainRow : OpenClaim := { program := "ytccbldlnfaiphaadoor", sum := "a6e46f6a8cb1d24c314627cf484be0674df722a3e1e23db1ba2ec4c97caaa92b", func := "herbarium/herbariumlaw07.OpsAgain", spec := "opsAgain", unfollowed := true, recurses := true, named := ["herbarium/ops.sets"], apart := false, laid := [("herbarium/ops.sets", laid_herbarium_ops_sets)] }
def OpsAgainSaid : Prop := opsAgainRow.holds Tryd.pinned (OpenSpec.ofChange opsAgainSpec)

/-- ITS FALSE NEIGHBOUR: 'it returns false'. Refute it at one input. -/
def opsAgainWrong : ChangeSpec := { name := "opsAgain", fn := fun _ => fun
  | [d] => { results := [.lit (.bool false)], args := [d] }
  | _ => none }
def OpsAgainWrongFalsely : Prop := opsAgainRow.holds Tryd.pinned (OpenSpec.ofChange opsAgainWrong)

/-- 'herbariumlaw07.OpsFields': WHATEVER THE INPUT: true; the input reads as it did. -/
def opsFieldsSpec : ChangeSpec := { name := "opsFields", fn := fun _ => fun
  | [d1, d2] => { results := [.lit (.bool true)], args := [d1, d2] }
  | _ => none }
def opsFieldsRow : OpenClaim := { program := "ytccbldlnfaiphaadoor", sum := "a6e46f6a8cb1d24c314627cf484be0674df722a3e1e23db1ba2ec4c97caaa92b", func := "herbarium/herbariumlaw07.OpsFields", spec := "opsFields", unfollowed := true, recurses := true, named := ["herbarium/ops.sets"], apart := false, laid := [("herbarium/ops.sets", laid_herbarium_ops_sets)] }
def OpsFieldsSaid : Prop := opsFieldsRow.holds Tryd.pinned (OpenSpec.ofChange opsFieldsSpec)

/-- ITS FALSE NEIGHBOUR: 'it returns false'. Refute it at one input. -/
def opsFieldsWrong : ChangeSpec := { name := "opsFields", fn := fun _ => fun
  | [d1, d2] => { results := [.lit (.bool false)], args := [d1, d2] }
  | _ => none }
def OpsFieldsWrongFalsely : Prop := opsFieldsRow.holds Tryd.pinned (OpenSpec.ofChange opsFieldsWrong)

/-- 'herbariumlaw07.OpsChanges': WHATEVER THE INPUT: true; the input reads as it did. -/
def opsChangesSpec : ChangeSpec := { name := "opsChanges", fn := fun _ => fun
  | [d] => { results := [.lit (.bool true)], args := [d] }
  | _ => none }
def opsChangesRow : OpenClaim := { program := "ytccbldlnfaiphaadoor", sum := "a6e46f6a8cb1d24c314627cf484be0674df722a3e1e23db1ba2ec4c97caaa92b", func := "herbarium/herbariumlaw07.OpsChanges", spec := "opsChanges", unfollowed := true, recurses := true, named := ["herbarium/ops.sets"], apart := false, laid := [("herbarium/ops.sets", laid_herbarium_ops_sets)] }
def OpsChangesSaid : Prop := opsChangesRow.holds Tryd.pinned (OpenSpec.ofChange opsChangesSpec)

/-- ITS FALSE NEIGHBOUR: 'it returns false'. Refute it at one input. -/
def opsChangesWrong : ChangeSpec := { name := "opsChanges", fn := fun _ => fun
  | [d] => { results := [.lit (.bool false)], args := [d] }
  | _ => none }
def OpsChangesWrongFalsely : Prop := opsChangesRow.holds Tryd.pinned (OpenSpec.ofChange opsChangesWrong)

/- THE SECOND FORM. 'bulk': how many values and letters a reading holds, each counted each time it is reached (what is shared counts as often as it is met; a slice's spare places count too). A statement '..UptoSaid' is the law's where the arguments, and the package variables that the reading takes, are together of bulk at most 1048576: NARROWER than '..Said'. Prove '..Said' where nothing that the law and all that it calls make is longer than what came in: it says more and counts as full. Else prove '..UptoSaid'. A law counts once. -/
mutual
def uptoBulk {H : Type} : DataW H → Nat
  | .lit (.string bytes) => bytes.length + 1
  | .lit _ => 1
  | .nil => 1
  | .ptr d => uptoBulk d + 1
  | .slice elems spare => uptoBulkAll elems + uptoBulkAll spare + 1
  | .agg parts => uptoBulkAll parts + 1
  | .iface _ d => uptoBulk d + 1
  | .map entries => uptoBulkEntries entries + 1
  | .held _ => 1
def uptoBulkAll {H : Type} : List (DataW H) → Nat
  | [] => 0
  | d :: r => uptoBulk d + uptoBulkAll r
def uptoBulkEntries {H : Type} : List (Lit × DataW H) → Nat
  | [] => 0
  | x :: r => uptoBulkEntry x + uptoBulkEntries r
def uptoBulkEntry {H : Type} : Lit × DataW H → Nat
  | (.string bytes, d) => bytes.length + uptoBulk d + 1
  | (_, d) => uptoBulk d + 1
 end
def uptoSmall : (H : Type) → List (DataW H) → Bool := fun _ ds => decide (uptoBulkAll ds ≤ 1048576)
def OpenSpec.upto (s : _root_.Go.ChangeSpec) : _root_.Go.OpenSpec := { _root_.Go.OpenSpec.ofChange s with cond := some uptoSmall }

/-- 'herbariumlaw07.OpsPut', WHERE WHAT IT READS IS OF BULK AT MOST 1048576: true; the input reads as it did. -/
def opsPutUptoRow : OpenClaim := { program := "ytccbldlnfaiphaadoor", sum := "a6e46f6a8cb1d24c314627cf484be0674df722a3e1e23db1ba2ec4c97caaa92b", func := "herbarium/herbariumlaw07.OpsPut", spec := "opsPut", unfollowed := true, recurses := true, named := ["herbarium/ops.sets", "internal/strconv.uint64pow10", "math/bits.deBruijn32tab", "math/bits.deBruijn64tab"], apart := false, laid := [("math/bits.deBruijn32tab", laid_math_bits_deBruijn32tab), ("math/bits.deBruijn64tab", laid_math_bits_deBruijn64tab), ("internal/strconv.uint64pow10", laid_internal_strconv_uint64pow10), ("herbarium/ops.sets", laid_herbarium_ops_sets)], narrowed := true }
def OpsPutUptoSaid : Prop := opsPutUptoRow.holds Tryd.pinned (OpenSpec.upto opsPutSpec)

/-- 'herbariumlaw07.OpsGet', WHERE WHAT IT READS IS OF BULK AT MOST 1048576: true; the input reads as it did. -/
def opsGetUptoRow : OpenClaim := { program := "ytccbldlnfaiphaadoor", sum := "a6e46f6a8cb1d24c314627cf484be0674df722a3e1e23db1ba2ec4c97caaa92b", func := "herbarium/herbariumlaw07.OpsGet", spec := "opsGet", unfollowed := true, recurses := true, named := ["herbarium/ops.sets", "internal/strconv.uint64pow10", "math/bits.deBruijn32tab", "math/bits.deBruijn64tab"], apart := false, laid := [("math/bits.deBruijn32tab", laid_math_bits_deBruijn32tab), ("math/bits.deBruijn64tab", laid_math_bits_deBruijn64tab), ("internal/strconv.uint64pow10", laid_internal_strconv_uint64pow10), ("herbarium/ops.sets", laid_herbarium_ops_sets)], narrowed := true }
def OpsGetUptoSaid : Prop := opsGetUptoRow.holds Tryd.pinned (OpenSpec.upto opsGetSpec)

/-- 'herbariumlaw07.OpsBack', WHERE WHAT IT READS IS OF BULK AT MOST 1048576: true; the input reads as it did. -/
def opsBackUptoRow : OpenClaim := { program := "ytccbldlnfaiphaadoor", sum := "a6e46f6a8cb1d24c314627cf484be0674df722a3e1e23db1ba2ec4c97caaa92b", func := "herbarium/herbariumlaw07.OpsBack", spec := "opsBack", unfollowed := true, recurses := true, named := ["herbarium/ops.sets"], apart := false, laid := [("herbarium/ops.sets", laid_herbarium_ops_sets)], narrowed := true }
def OpsBackUptoSaid : Prop := opsBackUptoRow.holds Tryd.pinned (OpenSpec.upto opsBackSpec)

/-- 'herbariumlaw07.OpsAgain', WHERE WHAT IT READS IS OF BULK AT MOST 1048576: true; the input reads as it did. -/
def opsAgainUptoRow : OpenClaim := { program := "ytccbldlnfaiphaadoor", sum := "a6e46f6a8cb1d24c314627cf484be0674df722a3e1e23db1ba2ec4c97caaa92b", func := "herbarium/herbariumlaw07.OpsAgain", spec := "opsAgain", unfollowed := true, recurses := true, named := ["herbarium/ops.sets"], apart := false, laid := [("herbarium/ops.sets", laid_herbarium_ops_sets)], narrowed := true }
def OpsAgainUptoSaid : Prop := opsAgainUptoRow.holds Tryd.pinned (OpenSpec.upto opsAgainSpec)

/-- 'herbariumlaw07.OpsFields', WHERE WHAT IT READS IS OF BULK AT MOST 1048576: true; the input reads as it did. -/
def opsFieldsUptoRow : OpenClaim := { program := "ytccbldlnfaiphaadoor", sum := "a6e46f6a8cb1d24c314627cf484be0674df722a3e1e23db1ba2ec4c97caaa92b", func := "herbarium/herbariumlaw07.OpsFields", spec := "opsFields", unfollowed := true, recurses := true, named := ["herbarium/ops.sets"], apart := false, laid := [("herbarium/ops.sets", laid_herbarium_ops_sets)], narrowed := true }
def OpsFieldsUptoSaid : Prop := opsFieldsUptoRow.holds Tryd.pinned (OpenSpec.upto opsFieldsSpec)

/-- 'herbariumlaw07.OpsChanges', WHERE WHAT IT READS IS OF BULK AT MOST 1048576: true; the input reads as it did. -/
def opsChangesUptoRow : OpenClaim := { program := "ytccbldlnfaiphaadoor", sum := "a6e46f6a8cb1d24c314627cf484be0674df722a3e1e23db1ba2ec4c97caaa92b", func := "herbarium/herbariumlaw07.OpsChanges", spec := "opsChanges", unfollowed := true, recurses := true, named := ["herbarium/ops.sets"], apart := false, laid := [("herbarium/ops.sets", laid_herbarium_ops_sets)], narrowed := true }
def OpsChangesUptoSaid : Prop := opsChangesUptoRow.holds Tryd.pinned (OpenSpec.upto opsChangesSpec)

end Rows
end Go.Proofs.YtccbldlnfaiphaaDoor
