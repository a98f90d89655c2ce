/-
  No cell of these rows narrows 'for every input' (looked for: loops, veiled, ifaces, maps, wideKeys, modest, calm, conditions, laid).
  DERIVED. THE GIVEN ROWS OF THIS SEAT. 4 by the template 'for every input the law returns true; each argument reads behind the call as it read before'; 0 by the template 'total and deterministic' (their statements: YtebledknjfojlaaTotals.lean).
  GIVEN WITH THE SEED: the statements are not yours to turn. If you find one false, say at which input.
  Laid BY PROGRAM, IN A SANDBOX (cutbox-rows.mjs): the forced cells as the released guide's own fill.sh prints them over the translation ba19c41250f1c32e… (all of the seat's roots in one cut). By AI agents, Wed Nov 11 2026. No macro, syntax, notation, axiom, sorry.
-/
import Derived.Test.YtebledknjfojlaaChecked
import GoSem.Claim
import GoSem.ClaimJoined
import GoSem.ClaimMapViews
import Derived.JoinedTies
import Derived.KernelRfl
namespace Go.Proofs.Ytebledknjfojlaa
/- THE CELL 'sum', in the pinned program and in every row, IS THE sha256 OF THE DUMP (.gsa) THAT YtebledknjfojlaaProg.lean LOADS. Nothing in Lean hashes anything: it is a label: what it is worth is what the hold of that sum in a sandbox is worth. -/
noncomputable def Try.pinned : Pinned := { name := "ytebledknjfojlaa", sum := "ba19c41250f1c32e9971466909ce7c91f29ba27f8af5c407bec62006795d56ce", checked := Try.checked }
namespace Rows
def none {H : Type} : Left H := { results := [], args := [] }

/-- 'herbariumlaw11.BloomsHas': WHATEVER THE INPUT: true; the input reads as it did. -/
def bloomsHasSpec : ChangeSpec := { name := "bloomsHas", fn := fun _ => fun
  | [d1, d2] => { results := [.lit (.bool true)], args := [d1, d2] }
  | _ => none }
def bloomsHasRow : OpenClaim := { program := "ytebledknjfojlaa", sum := "ba19c41250f1c32e9971466909ce7c91f29ba27f8af5c407bec62006795d56ce", func := "herbarium/herbariumlaw11.BloomsHas", spec := "bloomsHas", unfollowed := true, recurses := true, apart := false }
def BloomsHasSaid : Prop := bloomsHasRow.holds Try.pinned (OpenSpec.ofChange bloomsHasSpec)

/-- ITS FALSE NEIGHBOUR: 'it returns false'. Refute it at one input. -/
def bloomsHasWrong : ChangeSpec := { name := "bloomsHas", fn := fun _ => fun
  | [d1, d2] => { results := [.lit (.bool false)], args := [d1, d2] }
  | _ => none }
def BloomsHasWrongFalsely : Prop := bloomsHasRow.holds Try.pinned (OpenSpec.ofChange bloomsHasWrong)

/-- 'herbariumlaw11.BloomsKeys': WHATEVER THE INPUT: true; the input reads as it did. -/
def bloomsKeysSpec : ChangeSpec := { name := "bloomsKeys", fn := fun _ => fun
  | [d] => { results := [.lit (.bool true)], args := [d] }
  | _ => none }
def bloomsKeysRow : OpenClaim := { program := "ytebledknjfojlaa", sum := "ba19c41250f1c32e9971466909ce7c91f29ba27f8af5c407bec62006795d56ce", func := "herbarium/herbariumlaw11.BloomsKeys", spec := "bloomsKeys", unfollowed := true, recurses := true, apart := false }
def BloomsKeysSaid : Prop := bloomsKeysRow.holds Try.pinned (OpenSpec.ofChange bloomsKeysSpec)

/-- ITS FALSE NEIGHBOUR: 'it returns false'. Refute it at one input. -/
def bloomsKeysWrong : ChangeSpec := { name := "bloomsKeys", fn := fun _ => fun
  | [d] => { results := [.lit (.bool false)], args := [d] }
  | _ => none }
def BloomsKeysWrongFalsely : Prop := bloomsKeysRow.holds Try.pinned (OpenSpec.ofChange bloomsKeysWrong)

/-- 'herbariumlaw11.BloomsOrder': WHATEVER THE INPUT: true; the input reads as it did. -/
def bloomsOrderSpec : ChangeSpec := { name := "bloomsOrder", fn := fun _ => fun
  | [d1, d2] => { results := [.lit (.bool true)], args := [d1, d2] }
  | _ => none }
def bloomsOrderRow : OpenClaim := { program := "ytebledknjfojlaa", sum := "ba19c41250f1c32e9971466909ce7c91f29ba27f8af5c407bec62006795d56ce", func := "herbarium/herbariumlaw11.BloomsOrder", spec := "bloomsOrder", unfollowed := true, recurses := true, apart := false }
def BloomsOrderSaid : Prop := bloomsOrderRow.holds Try.pinned (OpenSpec.ofChange bloomsOrderSpec)

/-- ITS FALSE NEIGHBOUR: 'it returns false'. Refute it at one input. -/
def bloomsOrderWrong : ChangeSpec := { name := "bloomsOrder", fn := fun _ => fun
  | [d1, d2] => { results := [.lit (.bool false)], args := [d1, d2] }
  | _ => none }
def BloomsOrderWrongFalsely : Prop := bloomsOrderRow.holds Try.pinned (OpenSpec.ofChange bloomsOrderWrong)

/-- 'herbariumlaw11.BloomsMore': WHATEVER THE INPUT: true; the input reads as it did. -/
def bloomsMoreSpec : ChangeSpec := { name := "bloomsMore", fn := fun _ => fun
  | [d1, d2, d3] => { results := [.lit (.bool true)], args := [d1, d2, d3] }
  | _ => none }
def bloomsMoreRow : OpenClaim := { program := "ytebledknjfojlaa", sum := "ba19c41250f1c32e9971466909ce7c91f29ba27f8af5c407bec62006795d56ce", func := "herbarium/herbariumlaw11.BloomsMore", spec := "bloomsMore", unfollowed := true, recurses := true, apart := false }
def BloomsMoreSaid : Prop := bloomsMoreRow.holds Try.pinned (OpenSpec.ofChange bloomsMoreSpec)

/-- ITS FALSE NEIGHBOUR: 'it returns false'. Refute it at one input. -/
def bloomsMoreWrong : ChangeSpec := { name := "bloomsMore", fn := fun _ => fun
  | [d1, d2, d3] => { results := [.lit (.bool false)], args := [d1, d2, d3] }
  | _ => none }
def BloomsMoreWrongFalsely : Prop := bloomsMoreRow.holds Try.pinned (OpenSpec.ofChange bloomsMoreWrong)

/- THE SECOND FORM. 'bulk': how many values and letters a reading holds, each counted each time it is reached (what is shared counts as often as it is met; a slice's spare places count too). A statement '..UptoSaid' is the law's where the arguments, and the package variables that the reading takes, are together of bulk at most 1048576: NARROWER than '..Said'. Prove '..Said' where nothing that the law and all that it calls make is longer than what came in: it says more and counts as full. Else prove '..UptoSaid'. A law counts once. -/
mutual
def uptoBulk {H : Type} : DataW H → Nat
  | .lit (.string bytes) => bytes.length + 1
  | .lit _ => 1
  | .nil => 1
  | .ptr d => uptoBulk d + 1
  | .slice elems spare => uptoBulkAll elems + uptoBulkAll spare + 1
  | .agg parts => uptoBulkAll parts + 1
  | .iface _ d => uptoBulk d + 1
  | .map entries => uptoBulkEntries entries + 1
  | .held _ => 1
def uptoBulkAll {H : Type} : List (DataW H) → Nat
  | [] => 0
  | d :: r => uptoBulk d + uptoBulkAll r
def uptoBulkEntries {H : Type} : List (Lit × DataW H) → Nat
  | [] => 0
  | x :: r => uptoBulkEntry x + uptoBulkEntries r
def uptoBulkEntry {H : Type} : Lit × DataW H → Nat
  | (.string bytes, d) => bytes.length + uptoBulk d + 1
  | (_, d) => uptoBulk d + 1
 end
def uptoSmall : (H : Type) → List (DataW H) → Bool := fun _ ds => decide (uptoBulkAll ds ≤ 1048576)
def OpenSpec.upto (s : _root_.Go.ChangeSpec) : _root_.Go.OpenSpec := { _root_.Go.OpenSpec.ofChange s with cond := some uptoSmall }

/-- 'herbariumlaw11.BloomsHas', WHERE WHAT IT READS IS OF BULK AT MOST 1048576: true; the input reads as it did. -/
def bloomsHasUptoRow : OpenClaim := { program := "ytebledknjfojlaa", sum := "ba19c41250f1c32e9971466909ce7c91f29ba27f8af5c407bec62006795d56ce", func := "herbarium/herbariumlaw11.BloomsHas", spec := "bloomsHas", unfollowed := true, recurses := true, apart := false, narrowed := true }
def BloomsHasUptoSaid : Prop := bloomsHasUptoRow.holds Try.pinned (OpenSpec.upto bloomsHasSpec)

/-- 'herbariumlaw11.BloomsKeys', WHERE WHAT IT READS IS OF BULK AT MOST 1048576: true; the input reads as it did. -/
def bloomsKeysUptoRow : OpenClaim := { program := "ytebledknjfojlaa", sum := "ba19c41250f1c32e9971466909ce7c91f29ba27f8af5c407bec62006795d56ce", func := "herbarium/herbariumlaw11.BloomsKeys", spec := "bloomsKeys", unfollowed := true, recurses := true, apart := false, narrowed := true }
def BloomsKeysUptoSaid : Prop := bloomsKeysUptoRow.holds Try.pinned (OpenSpec.upto bloomsKeysSpec)

/-- 'herbariumlaw11.BloomsOrder', WHERE WHAT IT READS IS OF BULK AT MOST 1048576: true; the input reads as it did. -/
def bloomsOrderUptoRow : OpenClaim := { program := "ytebledknjfojlaa", sum := "ba19c41250f1c32e9971466909ce7c91f29ba27f8af5c407bec62006795d56ce", func := "herbarium/herbariumlaw11.BloomsOrder", spec := "bloomsOrder", unfollowed := true, recurses := true, apart := false, narrowed := true }
def BloomsOrderUptoSaid : Prop := bloomsOrderUptoRow.holds Try.pinned (OpenSpec.upto bloomsOrderSpec)

/-- 'herbariumlaw11.BloomsMore', WHERE WHAT IT READS IS OF BULK AT MOST 1048576: true; the input reads as it did. -/
def bloomsMoreUptoRow : OpenClaim := { program := "ytebledknjfojlaa", sum := "ba19c41250f1c32e9971466909ce7c91f29ba27f8af5c407bec62006795d56ce", func := "herbarium/herbariumlaw11.BloomsMore", spec := "bloomsMore", unfollowed := true, recurses := true, apart := false, narrowed := true }
def BloomsMoreUptoSaid : Prop := bloomsMoreUptoRow.holds Try.pinned (OpenSpec.upto bloomsMoreSpec)

end Rows
end Go.Proofs.Ytebledknjfojlaa
