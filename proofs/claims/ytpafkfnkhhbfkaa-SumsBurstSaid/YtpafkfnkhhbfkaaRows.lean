/-
  No cell of these rows narrows 'for every input' (looked for: loops, veiled, ifaces, maps, wideKeys, modest, calm, conditions, laid).
  DERIVED. THE GIVEN ROWS OF THIS SEAT. 5 by the template 'for every input the law returns true; each argument reads behind the call as it read before'; 0 by the template 'total and deterministic' (their statements: YtpafkfnkhhbfkaaTotals.lean).
  GIVEN WITH THE SEED: the statements are not yours to turn. If you find one false, say at which input.
  Laid BY PROGRAM, IN A SANDBOX (cutbox-rows.mjs): the forced cells as the released guide's own fill.sh prints them over the translation 058d858044808a13… (all of the seat's roots in one cut). By AI agents, Wed Nov 11 2026. No macro, syntax, notation, axiom, sorry.
-/
import Derived.Test.YtpafkfnkhhbfkaaChecked
import GoSem.Claim
import GoSem.ClaimJoined
import GoSem.ClaimMapViews
import Derived.JoinedTies
import Derived.KernelRfl
namespace Go.Proofs.Ytpafkfnkhhbfkaa
/- THE CELL 'sum', in the pinned program and in every row, IS THE sha256 OF THE DUMP (.gsa) THAT YtpafkfnkhhbfkaaProg.lean LOADS. Nothing in Lean hashes anything: it is a label: what it is worth is what the hold of that sum in a sandbox is worth. -/
noncomputable def Try.pinned : Pinned := { name := "ytpafkfnkhhbfkaa", sum := "058d858044808a134bd7023d864088bb69b997fbf7b853859e0ecf546fbe9dbd", checked := Try.checked }
namespace Rows
def none {H : Type} : Left H := { results := [], args := [] }

/-- 'herbariumlaw02.SumsOf': WHATEVER THE INPUT: true; the input reads as it did. -/
def sumsOfSpec : ChangeSpec := { name := "sumsOf", fn := fun _ => fun
  | [d1, d2] => { results := [.lit (.bool true)], args := [d1, d2] }
  | _ => none }
def sumsOfRow : OpenClaim := { program := "ytpafkfnkhhbfkaa", sum := "058d858044808a134bd7023d864088bb69b997fbf7b853859e0ecf546fbe9dbd", func := "herbarium/herbariumlaw02.SumsOf", spec := "sumsOf", apart := false }
def SumsOfSaid : Prop := sumsOfRow.holds Try.pinned (OpenSpec.ofChange sumsOfSpec)

/-- ITS FALSE NEIGHBOUR: 'it returns false'. Refute it at one input. -/
def sumsOfWrong : ChangeSpec := { name := "sumsOf", fn := fun _ => fun
  | [d1, d2] => { results := [.lit (.bool false)], args := [d1, d2] }
  | _ => none }
def SumsOfWrongFalsely : Prop := sumsOfRow.holds Try.pinned (OpenSpec.ofChange sumsOfWrong)

/-- 'herbariumlaw02.SumsMore': WHATEVER THE INPUT: true; the input reads as it did. -/
def sumsMoreSpec : ChangeSpec := { name := "sumsMore", fn := fun _ => fun
  | [d1, d2, d3] => { results := [.lit (.bool true)], args := [d1, d2, d3] }
  | _ => none }
def sumsMoreRow : OpenClaim := { program := "ytpafkfnkhhbfkaa", sum := "058d858044808a134bd7023d864088bb69b997fbf7b853859e0ecf546fbe9dbd", func := "herbarium/herbariumlaw02.SumsMore", spec := "sumsMore", apart := false }
def SumsMoreSaid : Prop := sumsMoreRow.holds Try.pinned (OpenSpec.ofChange sumsMoreSpec)

/-- ITS FALSE NEIGHBOUR: 'it returns false'. Refute it at one input. -/
def sumsMoreWrong : ChangeSpec := { name := "sumsMore", fn := fun _ => fun
  | [d1, d2, d3] => { results := [.lit (.bool false)], args := [d1, d2, d3] }
  | _ => none }
def SumsMoreWrongFalsely : Prop := sumsMoreRow.holds Try.pinned (OpenSpec.ofChange sumsMoreWrong)

/-- 'herbariumlaw02.SumsBurst': WHATEVER THE INPUT: true; the input reads as it did. -/
def sumsBurstSpec : ChangeSpec := { name := "sumsBurst", fn := fun _ => fun
  | [d1, d2, d3] => { results := [.lit (.bool true)], args := [d1, d2, d3] }
  | _ => none }
def sumsBurstRow : OpenClaim := { program := "ytpafkfnkhhbfkaa", sum := "058d858044808a134bd7023d864088bb69b997fbf7b853859e0ecf546fbe9dbd", func := "herbarium/herbariumlaw02.SumsBurst", spec := "sumsBurst", apart := false }
def SumsBurstSaid : Prop := sumsBurstRow.holds Try.pinned (OpenSpec.ofChange sumsBurstSpec)

/-- ITS FALSE NEIGHBOUR: 'it returns false'. Refute it at one input. -/
def sumsBurstWrong : ChangeSpec := { name := "sumsBurst", fn := fun _ => fun
  | [d1, d2, d3] => { results := [.lit (.bool false)], args := [d1, d2, d3] }
  | _ => none }
def SumsBurstWrongFalsely : Prop := sumsBurstRow.holds Try.pinned (OpenSpec.ofChange sumsBurstWrong)

/-- 'herbariumlaw02.SumsThree': WHATEVER THE INPUT: true; the input reads as it did. -/
def sumsThreeSpec : ChangeSpec := { name := "sumsThree", fn := fun _ => fun
  | [d1, d2, d3] => { results := [.lit (.bool true)], args := [d1, d2, d3] }
  | _ => none }
def sumsThreeRow : OpenClaim := { program := "ytpafkfnkhhbfkaa", sum := "058d858044808a134bd7023d864088bb69b997fbf7b853859e0ecf546fbe9dbd", func := "herbarium/herbariumlaw02.SumsThree", spec := "sumsThree", apart := false }
def SumsThreeSaid : Prop := sumsThreeRow.holds Try.pinned (OpenSpec.ofChange sumsThreeSpec)

/-- ITS FALSE NEIGHBOUR: 'it returns false'. Refute it at one input. -/
def sumsThreeWrong : ChangeSpec := { name := "sumsThree", fn := fun _ => fun
  | [d1, d2, d3] => { results := [.lit (.bool false)], args := [d1, d2, d3] }
  | _ => none }
def SumsThreeWrongFalsely : Prop := sumsThreeRow.holds Try.pinned (OpenSpec.ofChange sumsThreeWrong)

/-- 'herbariumlaw02.SumsNoughts': WHATEVER THE INPUT: true; the input reads as it did. -/
def sumsNoughtsSpec : ChangeSpec := { name := "sumsNoughts", fn := fun _ => fun
  | [d1, d2, d3] => { results := [.lit (.bool true)], args := [d1, d2, d3] }
  | _ => none }
def sumsNoughtsRow : OpenClaim := { program := "ytpafkfnkhhbfkaa", sum := "058d858044808a134bd7023d864088bb69b997fbf7b853859e0ecf546fbe9dbd", func := "herbarium/herbariumlaw02.SumsNoughts", spec := "sumsNoughts", apart := false }
def SumsNoughtsSaid : Prop := sumsNoughtsRow.holds Try.pinned (OpenSpec.ofChange sumsNoughtsSpec)

/-- ITS FALSE NEIGHBOUR: 'it returns false'. Refute it at one input. -/
def sumsNoughtsWrong : ChangeSpec := { name := "sumsNoughts", fn := fun _ => fun
  | [d1, d2, d3] => { results := [.lit (.bool false)], args := [d1, d2, d3] }
  | _ => none }
def SumsNoughtsWrongFalsely : Prop := sumsNoughtsRow.holds Try.pinned (OpenSpec.ofChange sumsNoughtsWrong)

/- THE SECOND FORM. 'bulk': how many values and letters a reading holds, each counted each time it is reached (what is shared counts as often as it is met; a slice's spare places count too). A statement '..UptoSaid' is the law's where the arguments, and the package variables that the reading takes, are together of bulk at most 1048576: NARROWER than '..Said'. Prove '..Said' where nothing that the law and all that it calls make is longer than what came in: it says more and counts as full. Else prove '..UptoSaid'. A law counts once. -/
mutual
def uptoBulk {H : Type} : DataW H → Nat
  | .lit (.string bytes) => bytes.length + 1
  | .lit _ => 1
  | .nil => 1
  | .ptr d => uptoBulk d + 1
  | .slice elems spare => uptoBulkAll elems + uptoBulkAll spare + 1
  | .agg parts => uptoBulkAll parts + 1
  | .iface _ d => uptoBulk d + 1
  | .map entries => uptoBulkEntries entries + 1
  | .held _ => 1
def uptoBulkAll {H : Type} : List (DataW H) → Nat
  | [] => 0
  | d :: r => uptoBulk d + uptoBulkAll r
def uptoBulkEntries {H : Type} : List (Lit × DataW H) → Nat
  | [] => 0
  | x :: r => uptoBulkEntry x + uptoBulkEntries r
def uptoBulkEntry {H : Type} : Lit × DataW H → Nat
  | (.string bytes, d) => bytes.length + uptoBulk d + 1
  | (_, d) => uptoBulk d + 1
 end
def uptoSmall : (H : Type) → List (DataW H) → Bool := fun _ ds => decide (uptoBulkAll ds ≤ 1048576)
def OpenSpec.upto (s : _root_.Go.ChangeSpec) : _root_.Go.OpenSpec := { _root_.Go.OpenSpec.ofChange s with cond := some uptoSmall }

/-- 'herbariumlaw02.SumsOf', WHERE WHAT IT READS IS OF BULK AT MOST 1048576: true; the input reads as it did. -/
def sumsOfUptoRow : OpenClaim := { program := "ytpafkfnkhhbfkaa", sum := "058d858044808a134bd7023d864088bb69b997fbf7b853859e0ecf546fbe9dbd", func := "herbarium/herbariumlaw02.SumsOf", spec := "sumsOf", apart := false, narrowed := true }
def SumsOfUptoSaid : Prop := sumsOfUptoRow.holds Try.pinned (OpenSpec.upto sumsOfSpec)

/-- 'herbariumlaw02.SumsMore', WHERE WHAT IT READS IS OF BULK AT MOST 1048576: true; the input reads as it did. -/
def sumsMoreUptoRow : OpenClaim := { program := "ytpafkfnkhhbfkaa", sum := "058d858044808a134bd7023d864088bb69b997fbf7b853859e0ecf546fbe9dbd", func := "herbarium/herbariumlaw02.SumsMore", spec := "sumsMore", apart := false, narrowed := true }
def SumsMoreUptoSaid : Prop := sumsMoreUptoRow.holds Try.pinned (OpenSpec.upto sumsMoreSpec)

/-- 'herbariumlaw02.SumsBurst', WHERE WHAT IT READS IS OF BULK AT MOST 1048576: true; the input reads as it did. -/
def sumsBurstUptoRow : OpenClaim := { program := "ytpafkfnkhhbfkaa", sum := "058d858044808a134bd7023d864088bb69b997fbf7b853859e0ecf546fbe9dbd", func := "herbarium/herbariumlaw02.SumsBurst", spec := "sumsBurst", apart := false, narrowed := true }
def SumsBurstUptoSaid : Prop := sumsBurstUptoRow.holds Try.pinned (OpenSpec.upto sumsBurstSpec)

/-- 'herbariumlaw02.SumsThree', WHERE WHAT IT READS IS OF BULK AT MOST 1048576: true; the input reads as it did. -/
def sumsThreeUptoRow : OpenClaim := { program := "ytpafkfnkhhbfkaa", sum := "058d858044808a134bd7023d864088bb69b997fbf7b853859e0ecf546fbe9dbd", func := "herbarium/herbariumlaw02.SumsThree", spec := "sumsThree", apart := false, narrowed := true }
def SumsThreeUptoSaid : Prop := sumsThreeUptoRow.holds Try.pinned (OpenSpec.upto sumsThreeSpec)

/-- 'herbariumlaw02.SumsNoughts', WHERE WHAT IT READS IS OF BULK AT MOST 1048576: true; the input reads as it did. -/
def sumsNoughtsUptoRow : OpenClaim := { program := "ytpafkfnkhhbfkaa", sum := "058d858044808a134bd7023d864088bb69b997fbf7b853859e0ecf546fbe9dbd", func := "herbarium/herbariumlaw02.SumsNoughts", spec := "sumsNoughts", apart := false, narrowed := true }
def SumsNoughtsUptoSaid : Prop := sumsNoughtsUptoRow.holds Try.pinned (OpenSpec.upto sumsNoughtsSpec)

end Rows
end Go.Proofs.Ytpafkfnkhhbfkaa
