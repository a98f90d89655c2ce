/-
  No cell of these rows narrows 'for every input' (looked for: loops, veiled, ifaces, maps, wideKeys, modest, calm, conditions, laid).
  DERIVED. THE GIVEN ROWS OF THIS SEAT. 4 by the template 'for every input the law returns true; each argument reads behind the call as it read before'; 0 by the template 'total and deterministic' (their statements: YtnjihcjijicgpaaTotals.lean).
  GIVEN WITH THE SEED: the statements are not yours to turn. If you find one false, say at which input.
  Laid BY PROGRAM, IN A SANDBOX (cutbox-rows.mjs): the forced cells as the released guide's own fill.sh prints them over the translation 71e595d362e652c6… (all of the seat's roots in one cut). By AI agents, Wed Nov 11 2026. No macro, syntax, notation, axiom, sorry.
-/
import Derived.Test.YtnjihcjijicgpaaChecked
import GoSem.Claim
import GoSem.ClaimJoined
import GoSem.ClaimMapViews
import Derived.JoinedTies
import Derived.KernelRfl
namespace Go.Proofs.Ytnjihcjijicgpaa
/- THE CELL 'sum', in the pinned program and in every row, IS THE sha256 OF THE DUMP (.gsa) THAT YtnjihcjijicgpaaProg.lean LOADS. Nothing in Lean hashes anything: it is a label: what it is worth is what the hold of that sum in a sandbox is worth. -/
noncomputable def Try.pinned : Pinned := { name := "ytnjihcjijicgpaa", sum := "71e595d362e652c673b9bd1d8dd5170d7cba9652c4827749d08088cc92245e51", checked := Try.checked }
namespace Rows
def none {H : Type} : Left H := { results := [], args := [] }

/-- 'herbariumlaw05.FramesRow': WHATEVER THE INPUT: true; the input reads as it did. -/
def framesRowSpec : ChangeSpec := { name := "framesRow", fn := fun _ => fun
  | [d1, d2, d3] => { results := [.lit (.bool true)], args := [d1, d2, d3] }
  | _ => none }
def framesRowRow : OpenClaim := { program := "ytnjihcjijicgpaa", sum := "71e595d362e652c673b9bd1d8dd5170d7cba9652c4827749d08088cc92245e51", func := "herbarium/herbariumlaw05.FramesRow", spec := "framesRow", unfollowed := true, recurses := true, apart := false }
def FramesRowSaid : Prop := framesRowRow.holds Try.pinned (OpenSpec.ofChange framesRowSpec)

/-- ITS FALSE NEIGHBOUR: 'it returns false'. Refute it at one input. -/
def framesRowWrong : ChangeSpec := { name := "framesRow", fn := fun _ => fun
  | [d1, d2, d3] => { results := [.lit (.bool false)], args := [d1, d2, d3] }
  | _ => none }
def FramesRowWrongFalsely : Prop := framesRowRow.holds Try.pinned (OpenSpec.ofChange framesRowWrong)

/-- 'herbariumlaw05.FramesAgain': WHATEVER THE INPUT: true; the input reads as it did. -/
def framesAgainSpec : ChangeSpec := { name := "framesAgain", fn := fun _ => fun
  | [d1, d2] => { results := [.lit (.bool true)], args := [d1, d2] }
  | _ => none }
def framesAgainRow : OpenClaim := { program := "ytnjihcjijicgpaa", sum := "71e595d362e652c673b9bd1d8dd5170d7cba9652c4827749d08088cc92245e51", func := "herbarium/herbariumlaw05.FramesAgain", spec := "framesAgain", unfollowed := true, recurses := true, apart := false }
def FramesAgainSaid : Prop := framesAgainRow.holds Try.pinned (OpenSpec.ofChange framesAgainSpec)

/-- ITS FALSE NEIGHBOUR: 'it returns false'. Refute it at one input. -/
def framesAgainWrong : ChangeSpec := { name := "framesAgain", fn := fun _ => fun
  | [d1, d2] => { results := [.lit (.bool false)], args := [d1, d2] }
  | _ => none }
def FramesAgainWrongFalsely : Prop := framesAgainRow.holds Try.pinned (OpenSpec.ofChange framesAgainWrong)

/-- 'herbariumlaw05.FramesTurn': WHATEVER THE INPUT: true; the input reads as it did. -/
def framesTurnSpec : ChangeSpec := { name := "framesTurn", fn := fun _ => fun
  | [d1, d2, d3] => { results := [.lit (.bool true)], args := [d1, d2, d3] }
  | _ => none }
def framesTurnRow : OpenClaim := { program := "ytnjihcjijicgpaa", sum := "71e595d362e652c673b9bd1d8dd5170d7cba9652c4827749d08088cc92245e51", func := "herbarium/herbariumlaw05.FramesTurn", spec := "framesTurn", unfollowed := true, recurses := true, apart := false }
def FramesTurnSaid : Prop := framesTurnRow.holds Try.pinned (OpenSpec.ofChange framesTurnSpec)

/-- ITS FALSE NEIGHBOUR: 'it returns false'. Refute it at one input. -/
def framesTurnWrong : ChangeSpec := { name := "framesTurn", fn := fun _ => fun
  | [d1, d2, d3] => { results := [.lit (.bool false)], args := [d1, d2, d3] }
  | _ => none }
def FramesTurnWrongFalsely : Prop := framesTurnRow.holds Try.pinned (OpenSpec.ofChange framesTurnWrong)

/-- 'herbariumlaw05.FramesLong': WHATEVER THE INPUT: true; the input reads as it did. -/
def framesLongSpec : ChangeSpec := { name := "framesLong", fn := fun _ => fun
  | [d1, d2] => { results := [.lit (.bool true)], args := [d1, d2] }
  | _ => none }
def framesLongRow : OpenClaim := { program := "ytnjihcjijicgpaa", sum := "71e595d362e652c673b9bd1d8dd5170d7cba9652c4827749d08088cc92245e51", func := "herbarium/herbariumlaw05.FramesLong", spec := "framesLong", unfollowed := true, recurses := true, apart := false }
def FramesLongSaid : Prop := framesLongRow.holds Try.pinned (OpenSpec.ofChange framesLongSpec)

/-- ITS FALSE NEIGHBOUR: 'it returns false'. Refute it at one input. -/
def framesLongWrong : ChangeSpec := { name := "framesLong", fn := fun _ => fun
  | [d1, d2] => { results := [.lit (.bool false)], args := [d1, d2] }
  | _ => none }
def FramesLongWrongFalsely : Prop := framesLongRow.holds Try.pinned (OpenSpec.ofChange framesLongWrong)

/- THE SECOND FORM. 'bulk': how many values and letters a reading holds, each counted each time it is reached (what is shared counts as often as it is met; a slice's spare places count too). A statement '..UptoSaid' is the law's where the arguments, and the package variables that the reading takes, are together of bulk at most 1048576: NARROWER than '..Said'. Prove '..Said' where nothing that the law and all that it calls make is longer than what came in: it says more and counts as full. Else prove '..UptoSaid'. A law counts once. -/
mutual
def uptoBulk {H : Type} : DataW H → Nat
  | .lit (.string bytes) => bytes.length + 1
  | .lit _ => 1
  | .nil => 1
  | .ptr d => uptoBulk d + 1
  | .slice elems spare => uptoBulkAll elems + uptoBulkAll spare + 1
  | .agg parts => uptoBulkAll parts + 1
  | .iface _ d => uptoBulk d + 1
  | .map entries => uptoBulkEntries entries + 1
  | .held _ => 1
def uptoBulkAll {H : Type} : List (DataW H) → Nat
  | [] => 0
  | d :: r => uptoBulk d + uptoBulkAll r
def uptoBulkEntries {H : Type} : List (Lit × DataW H) → Nat
  | [] => 0
  | x :: r => uptoBulkEntry x + uptoBulkEntries r
def uptoBulkEntry {H : Type} : Lit × DataW H → Nat
  | (.string bytes, d) => bytes.length + uptoBulk d + 1
  | (_, d) => uptoBulk d + 1
 end
def uptoSmall : (H : Type) → List (DataW H) → Bool := fun _ ds => decide (uptoBulkAll ds ≤ 1048576)
def OpenSpec.upto (s : _root_.Go.ChangeSpec) : _root_.Go.OpenSpec := { _root_.Go.OpenSpec.ofChange s with cond := some uptoSmall }

/-- 'herbariumlaw05.FramesRow', WHERE WHAT IT READS IS OF BULK AT MOST 1048576: true; the input reads as it did. -/
def framesRowUptoRow : OpenClaim := { program := "ytnjihcjijicgpaa", sum := "71e595d362e652c673b9bd1d8dd5170d7cba9652c4827749d08088cc92245e51", func := "herbarium/herbariumlaw05.FramesRow", spec := "framesRow", unfollowed := true, recurses := true, apart := false, narrowed := true }
def FramesRowUptoSaid : Prop := framesRowUptoRow.holds Try.pinned (OpenSpec.upto framesRowSpec)

/-- 'herbariumlaw05.FramesAgain', WHERE WHAT IT READS IS OF BULK AT MOST 1048576: true; the input reads as it did. -/
def framesAgainUptoRow : OpenClaim := { program := "ytnjihcjijicgpaa", sum := "71e595d362e652c673b9bd1d8dd5170d7cba9652c4827749d08088cc92245e51", func := "herbarium/herbariumlaw05.FramesAgain", spec := "framesAgain", unfollowed := true, recurses := true, apart := false, narrowed := true }
def FramesAgainUptoSaid : Prop := framesAgainUptoRow.holds Try.pinned (OpenSpec.upto framesAgainSpec)

/-- 'herbariumlaw05.FramesTurn', WHERE WHAT IT READS IS OF BULK AT MOST 1048576: true; the input reads as it did. -/
def framesTurnUptoRow : OpenClaim := { program := "ytnjihcjijicgpaa", sum := "71e595d362e652c673b9bd1d8dd5170d7cba9652c4827749d08088cc92245e51", func := "herbarium/herbariumlaw05.FramesTurn", spec := "framesTurn", unfollowed := true, recurses := true, apart := false, narrowed := true }
def FramesTurnUptoSaid : Prop := framesTurnUptoRow.holds Try.pinned (OpenSpec.upto framesTurnSpec)

/-- 'herbariumlaw05.FramesLong', WHERE WHAT IT READS IS OF BULK AT MOST 1048576: true; the input reads as it did. -/
def framesLongUptoRow : OpenClaim := { program := "ytnjihcjijicgpaa", sum := "71e595d362e652c673b9bd1d8dd5170d7cba9652c4827749d08088cc92245e51", func := "herbarium/herbariumlaw05.FramesLong", spec := "framesLong", unfollowed := true, recurses := true, apart := false, narrowed := true }
def FramesLongUptoSaid : Prop := framesLongUptoRow.holds Try.pinned (OpenSpec.upto framesLongSpec)

end Rows
end Go.Proofs.Ytnjihcjijicgpaa
