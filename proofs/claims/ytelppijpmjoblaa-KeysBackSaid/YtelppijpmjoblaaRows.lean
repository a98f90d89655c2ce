/-
  No cell of these rows narrows 'for every input' (looked for: loops, veiled, ifaces, maps, wideKeys, modest, calm, conditions, laid).
  DERIVED. THE GIVEN ROWS OF THIS SEAT. 6 by the template 'for every input the law returns true; each argument reads behind the call as it read before'; 0 by the template 'total and deterministic' (their statements: YtelppijpmjoblaaTotals.lean).
  GIVEN WITH THE SEED: the statements are not yours to turn. If you find one false, say at which input.
  Laid BY PROGRAM, IN A SANDBOX (cutbox-rows.mjs): the forced cells as the released guide's own fill.sh prints them over the translation a0832e0a9388df03… (all of the seat's roots in one cut). By AI agents, Wed Nov 11 2026. No macro, syntax, notation, axiom, sorry.
-/
import Derived.Test.YtelppijpmjoblaaChecked
import GoSem.Claim
import GoSem.ClaimJoined
import GoSem.ClaimMapViews
import Derived.JoinedTies
import Derived.KernelRfl
namespace Go.Proofs.Ytelppijpmjoblaa
/- THE CELL 'sum', in the pinned program and in every row, IS THE sha256 OF THE DUMP (.gsa) THAT YtelppijpmjoblaaProg.lean LOADS. Nothing in Lean hashes anything: it is a label: what it is worth is what the hold of that sum in a sandbox is worth. -/
noncomputable def Try.pinned : Pinned := { name := "ytelppijpmjoblaa", sum := "a0832e0a9388df036e614e96cbb859b26e8bb471488c7612e878efd10b607467", checked := Try.checked }
namespace Rows
def none {H : Type} : Left H := { results := [], args := [] }

/-- 'herbariumlaw03.KeysGet': WHATEVER THE INPUT: true; the input reads as it did. -/
def keysGetSpec : ChangeSpec := { name := "keysGet", fn := fun _ => fun
  | [d] => { results := [.lit (.bool true)], args := [d] }
  | _ => none }
def keysGetRow : OpenClaim := { program := "ytelppijpmjoblaa", sum := "a0832e0a9388df036e614e96cbb859b26e8bb471488c7612e878efd10b607467", func := "herbarium/herbariumlaw03.KeysGet", spec := "keysGet", apart := false }
def KeysGetSaid : Prop := keysGetRow.holds Try.pinned (OpenSpec.ofChange keysGetSpec)

/-- ITS FALSE NEIGHBOUR: 'it returns false'. Refute it at one input. -/
def keysGetWrong : ChangeSpec := { name := "keysGet", fn := fun _ => fun
  | [d] => { results := [.lit (.bool false)], args := [d] }
  | _ => none }
def KeysGetWrongFalsely : Prop := keysGetRow.holds Try.pinned (OpenSpec.ofChange keysGetWrong)

/-- 'herbariumlaw03.KeysBack': WHATEVER THE INPUT: true; the input reads as it did. -/
def keysBackSpec : ChangeSpec := { name := "keysBack", fn := fun _ => fun
  | [d1, d2, d3] => { results := [.lit (.bool true)], args := [d1, d2, d3] }
  | _ => none }
def keysBackRow : OpenClaim := { program := "ytelppijpmjoblaa", sum := "a0832e0a9388df036e614e96cbb859b26e8bb471488c7612e878efd10b607467", func := "herbarium/herbariumlaw03.KeysBack", spec := "keysBack", apart := false }
def KeysBackSaid : Prop := keysBackRow.holds Try.pinned (OpenSpec.ofChange keysBackSpec)

/-- ITS FALSE NEIGHBOUR: 'it returns false'. Refute it at one input. -/
def keysBackWrong : ChangeSpec := { name := "keysBack", fn := fun _ => fun
  | [d1, d2, d3] => { results := [.lit (.bool false)], args := [d1, d2, d3] }
  | _ => none }
def KeysBackWrongFalsely : Prop := keysBackRow.holds Try.pinned (OpenSpec.ofChange keysBackWrong)

/-- 'herbariumlaw03.KeysSeek': WHATEVER THE INPUT: true; the input reads as it did. -/
def keysSeekSpec : ChangeSpec := { name := "keysSeek", fn := fun _ => fun
  | [d1, d2, d3] => { results := [.lit (.bool true)], args := [d1, d2, d3] }
  | _ => none }
def keysSeekRow : OpenClaim := { program := "ytelppijpmjoblaa", sum := "a0832e0a9388df036e614e96cbb859b26e8bb471488c7612e878efd10b607467", func := "herbarium/herbariumlaw03.KeysSeek", spec := "keysSeek", apart := false }
def KeysSeekSaid : Prop := keysSeekRow.holds Try.pinned (OpenSpec.ofChange keysSeekSpec)

/-- ITS FALSE NEIGHBOUR: 'it returns false'. Refute it at one input. -/
def keysSeekWrong : ChangeSpec := { name := "keysSeek", fn := fun _ => fun
  | [d1, d2, d3] => { results := [.lit (.bool false)], args := [d1, d2, d3] }
  | _ => none }
def KeysSeekWrongFalsely : Prop := keysSeekRow.holds Try.pinned (OpenSpec.ofChange keysSeekWrong)

/-- 'herbariumlaw03.KeysCmp': WHATEVER THE INPUT: true; the input reads as it did. -/
def keysCmpSpec : ChangeSpec := { name := "keysCmp", fn := fun _ => fun
  | [d1, d2] => { results := [.lit (.bool true)], args := [d1, d2] }
  | _ => none }
def keysCmpRow : OpenClaim := { program := "ytelppijpmjoblaa", sum := "a0832e0a9388df036e614e96cbb859b26e8bb471488c7612e878efd10b607467", func := "herbarium/herbariumlaw03.KeysCmp", spec := "keysCmp", apart := false }
def KeysCmpSaid : Prop := keysCmpRow.holds Try.pinned (OpenSpec.ofChange keysCmpSpec)

/-- ITS FALSE NEIGHBOUR: 'it returns false'. Refute it at one input. -/
def keysCmpWrong : ChangeSpec := { name := "keysCmp", fn := fun _ => fun
  | [d1, d2] => { results := [.lit (.bool false)], args := [d1, d2] }
  | _ => none }
def KeysCmpWrongFalsely : Prop := keysCmpRow.holds Try.pinned (OpenSpec.ofChange keysCmpWrong)

/-- 'herbariumlaw03.KeysOrder': WHATEVER THE INPUT: true; the input reads as it did. -/
def keysOrderSpec : ChangeSpec := { name := "keysOrder", fn := fun _ => fun
  | [d1, d2] => { results := [.lit (.bool true)], args := [d1, d2] }
  | _ => none }
def keysOrderRow : OpenClaim := { program := "ytelppijpmjoblaa", sum := "a0832e0a9388df036e614e96cbb859b26e8bb471488c7612e878efd10b607467", func := "herbarium/herbariumlaw03.KeysOrder", spec := "keysOrder", apart := false }
def KeysOrderSaid : Prop := keysOrderRow.holds Try.pinned (OpenSpec.ofChange keysOrderSpec)

/-- ITS FALSE NEIGHBOUR: 'it returns false'. Refute it at one input. -/
def keysOrderWrong : ChangeSpec := { name := "keysOrder", fn := fun _ => fun
  | [d1, d2] => { results := [.lit (.bool false)], args := [d1, d2] }
  | _ => none }
def KeysOrderWrongFalsely : Prop := keysOrderRow.holds Try.pinned (OpenSpec.ofChange keysOrderWrong)

/-- 'herbariumlaw03.KeysRise': WHATEVER THE INPUT: true; the input reads as it did. -/
def keysRiseSpec : ChangeSpec := { name := "keysRise", fn := fun _ => fun
  | [d] => { results := [.lit (.bool true)], args := [d] }
  | _ => none }
def keysRiseRow : OpenClaim := { program := "ytelppijpmjoblaa", sum := "a0832e0a9388df036e614e96cbb859b26e8bb471488c7612e878efd10b607467", func := "herbarium/herbariumlaw03.KeysRise", spec := "keysRise", apart := false }
def KeysRiseSaid : Prop := keysRiseRow.holds Try.pinned (OpenSpec.ofChange keysRiseSpec)

/-- ITS FALSE NEIGHBOUR: 'it returns false'. Refute it at one input. -/
def keysRiseWrong : ChangeSpec := { name := "keysRise", fn := fun _ => fun
  | [d] => { results := [.lit (.bool false)], args := [d] }
  | _ => none }
def KeysRiseWrongFalsely : Prop := keysRiseRow.holds Try.pinned (OpenSpec.ofChange keysRiseWrong)

/- THE SECOND FORM. 'bulk': how many values and letters a reading holds, each counted each time it is reached (what is shared counts as often as it is met; a slice's spare places count too). A statement '..UptoSaid' is the law's where the arguments, and the package variables that the reading takes, are together of bulk at most 1048576: NARROWER than '..Said'. Prove '..Said' where nothing that the law and all that it calls make is longer than what came in: it says more and counts as full. Else prove '..UptoSaid'. A law counts once. -/
mutual
def uptoBulk {H : Type} : DataW H → Nat
  | .lit (.string bytes) => bytes.length + 1
  | .lit _ => 1
  | .nil => 1
  | .ptr d => uptoBulk d + 1
  | .slice elems spare => uptoBulkAll elems + uptoBulkAll spare + 1
  | .agg parts => uptoBulkAll parts + 1
  | .iface _ d => uptoBulk d + 1
  | .map entries => uptoBulkEntries entries + 1
  | .held _ => 1
def uptoBulkAll {H : Type} : List (DataW H) → Nat
  | [] => 0
  | d :: r => uptoBulk d + uptoBulkAll r
def uptoBulkEntries {H : Type} : List (Lit × DataW H) → Nat
  | [] => 0
  | x :: r => uptoBulkEntry x + uptoBulkEntries r
def uptoBulkEntry {H : Type} : Lit × DataW H → Nat
  | (.string bytes, d) => bytes.length + uptoBulk d + 1
  | (_, d) => uptoBulk d + 1
 end
def uptoSmall : (H : Type) → List (DataW H) → Bool := fun _ ds => decide (uptoBulkAll ds ≤ 1048576)
def OpenSpec.upto (s : _root_.Go.ChangeSpec) : _root_.Go.OpenSpec := { _root_.Go.OpenSpec.ofChange s with cond := some uptoSmall }

/-- 'herbariumlaw03.KeysGet', WHERE WHAT IT READS IS OF BULK AT MOST 1048576: true; the input reads as it did. -/
def keysGetUptoRow : OpenClaim := { program := "ytelppijpmjoblaa", sum := "a0832e0a9388df036e614e96cbb859b26e8bb471488c7612e878efd10b607467", func := "herbarium/herbariumlaw03.KeysGet", spec := "keysGet", apart := false, narrowed := true }
def KeysGetUptoSaid : Prop := keysGetUptoRow.holds Try.pinned (OpenSpec.upto keysGetSpec)

/-- 'herbariumlaw03.KeysBack', WHERE WHAT IT READS IS OF BULK AT MOST 1048576: true; the input reads as it did. -/
def keysBackUptoRow : OpenClaim := { program := "ytelppijpmjoblaa", sum := "a0832e0a9388df036e614e96cbb859b26e8bb471488c7612e878efd10b607467", func := "herbarium/herbariumlaw03.KeysBack", spec := "keysBack", apart := false, narrowed := true }
def KeysBackUptoSaid : Prop := keysBackUptoRow.holds Try.pinned (OpenSpec.upto keysBackSpec)

/-- 'herbariumlaw03.KeysSeek', WHERE WHAT IT READS IS OF BULK AT MOST 1048576: true; the input reads as it did. -/
def keysSeekUptoRow : OpenClaim := { program := "ytelppijpmjoblaa", sum := "a0832e0a9388df036e614e96cbb859b26e8bb471488c7612e878efd10b607467", func := "herbarium/herbariumlaw03.KeysSeek", spec := "keysSeek", apart := false, narrowed := true }
def KeysSeekUptoSaid : Prop := keysSeekUptoRow.holds Try.pinned (OpenSpec.upto keysSeekSpec)

/-- 'herbariumlaw03.KeysCmp', WHERE WHAT IT READS IS OF BULK AT MOST 1048576: true; the input reads as it did. -/
def keysCmpUptoRow : OpenClaim := { program := "ytelppijpmjoblaa", sum := "a0832e0a9388df036e614e96cbb859b26e8bb471488c7612e878efd10b607467", func := "herbarium/herbariumlaw03.KeysCmp", spec := "keysCmp", apart := false, narrowed := true }
def KeysCmpUptoSaid : Prop := keysCmpUptoRow.holds Try.pinned (OpenSpec.upto keysCmpSpec)

/-- 'herbariumlaw03.KeysOrder', WHERE WHAT IT READS IS OF BULK AT MOST 1048576: true; the input reads as it did. -/
def keysOrderUptoRow : OpenClaim := { program := "ytelppijpmjoblaa", sum := "a0832e0a9388df036e614e96cbb859b26e8bb471488c7612e878efd10b607467", func := "herbarium/herbariumlaw03.KeysOrder", spec := "keysOrder", apart := false, narrowed := true }
def KeysOrderUptoSaid : Prop := keysOrderUptoRow.holds Try.pinned (OpenSpec.upto keysOrderSpec)

/-- 'herbariumlaw03.KeysRise', WHERE WHAT IT READS IS OF BULK AT MOST 1048576: true; the input reads as it did. -/
def keysRiseUptoRow : OpenClaim := { program := "ytelppijpmjoblaa", sum := "a0832e0a9388df036e614e96cbb859b26e8bb471488c7612e878efd10b607467", func := "herbarium/herbariumlaw03.KeysRise", spec := "keysRise", apart := false, narrowed := true }
def KeysRiseUptoSaid : Prop := keysRiseUptoRow.holds Try.pinned (OpenSpec.upto keysRiseSpec)

end Rows
end Go.Proofs.Ytelppijpmjoblaa
