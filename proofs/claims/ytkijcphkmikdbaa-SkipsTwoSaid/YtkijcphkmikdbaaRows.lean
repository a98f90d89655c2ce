/-
  No cell of these rows narrows 'for every input' (looked for: loops, veiled, ifaces, maps, wideKeys, modest, calm, conditions, laid).
  DERIVED. THE GIVEN ROWS OF THIS SEAT. 4 by the template 'for every input the law returns true; each argument reads behind the call as it read before'; 0 by the template 'total and deterministic' (their statements: YtkijcphkmikdbaaTotals.lean).
  GIVEN WITH THE SEED: the statements are not yours to turn. If you find one false, say at which input.
  Laid BY PROGRAM, IN A SANDBOX (cutbox-rows.mjs): the forced cells as the released guide's own fill.sh prints them over the translation 6b7a6cf074a4f869… (all of the seat's roots in one cut). By AI agents, Wed Nov 11 2026. No macro, syntax, notation, axiom, sorry.
-/
import Derived.Test.YtkijcphkmikdbaaChecked
import GoSem.Claim
import GoSem.ClaimJoined
import GoSem.ClaimMapViews
import Derived.JoinedTies
import Derived.KernelRfl
namespace Go.Proofs.Ytkijcphkmikdbaa
/- THE CELL 'sum', in the pinned program and in every row, IS THE sha256 OF THE DUMP (.gsa) THAT YtkijcphkmikdbaaProg.lean LOADS. Nothing in Lean hashes anything: it is a label: what it is worth is what the hold of that sum in a sandbox is worth. -/
noncomputable def Try.pinned : Pinned := { name := "ytkijcphkmikdbaa", sum := "6b7a6cf074a4f869f72122f733d1c5589eee8da0d5ef8a201ba9f2c73985ce58", checked := Try.checked }
namespace Rows
def none {H : Type} : Left H := { results := [], args := [] }

/-- 'herbariumlaw08.SkipsOrder': WHATEVER THE INPUT: true; the input reads as it did. -/
def skipsOrderSpec : ChangeSpec := { name := "skipsOrder", fn := fun _ => fun
  | [d1, d2, d3] => { results := [.lit (.bool true)], args := [d1, d2, d3] }
  | _ => none }
def skipsOrderRow : OpenClaim := { program := "ytkijcphkmikdbaa", sum := "6b7a6cf074a4f869f72122f733d1c5589eee8da0d5ef8a201ba9f2c73985ce58", func := "herbarium/herbariumlaw08.SkipsOrder", spec := "skipsOrder", inPlace := ["internal/bytealg.Compare"], unfollowed := true, recurses := true, apart := false }
def SkipsOrderSaid : Prop := skipsOrderRow.holds Try.pinned (OpenSpec.ofChange skipsOrderSpec)

/-- ITS FALSE NEIGHBOUR: 'it returns false'. Refute it at one input. -/
def skipsOrderWrong : ChangeSpec := { name := "skipsOrder", fn := fun _ => fun
  | [d1, d2, d3] => { results := [.lit (.bool false)], args := [d1, d2, d3] }
  | _ => none }
def SkipsOrderWrongFalsely : Prop := skipsOrderRow.holds Try.pinned (OpenSpec.ofChange skipsOrderWrong)

/-- 'herbariumlaw08.SkipsFrom': WHATEVER THE INPUT: true; the input reads as it did. -/
def skipsFromSpec : ChangeSpec := { name := "skipsFrom", fn := fun _ => fun
  | [d1, d2] => { results := [.lit (.bool true)], args := [d1, d2] }
  | _ => none }
def skipsFromRow : OpenClaim := { program := "ytkijcphkmikdbaa", sum := "6b7a6cf074a4f869f72122f733d1c5589eee8da0d5ef8a201ba9f2c73985ce58", func := "herbarium/herbariumlaw08.SkipsFrom", spec := "skipsFrom", inPlace := ["internal/bytealg.Compare"], unfollowed := true, recurses := true, apart := false }
def SkipsFromSaid : Prop := skipsFromRow.holds Try.pinned (OpenSpec.ofChange skipsFromSpec)

/-- ITS FALSE NEIGHBOUR: 'it returns false'. Refute it at one input. -/
def skipsFromWrong : ChangeSpec := { name := "skipsFrom", fn := fun _ => fun
  | [d1, d2] => { results := [.lit (.bool false)], args := [d1, d2] }
  | _ => none }
def SkipsFromWrongFalsely : Prop := skipsFromRow.holds Try.pinned (OpenSpec.ofChange skipsFromWrong)

/-- 'herbariumlaw08.SkipsTwo': WHATEVER THE INPUT: true; the input reads as it did. -/
def skipsTwoSpec : ChangeSpec := { name := "skipsTwo", fn := fun _ => fun
  | [d1, d2] => { results := [.lit (.bool true)], args := [d1, d2] }
  | _ => none }
def skipsTwoRow : OpenClaim := { program := "ytkijcphkmikdbaa", sum := "6b7a6cf074a4f869f72122f733d1c5589eee8da0d5ef8a201ba9f2c73985ce58", func := "herbarium/herbariumlaw08.SkipsTwo", spec := "skipsTwo", inPlace := ["internal/bytealg.Compare"], unfollowed := true, recurses := true, apart := false }
def SkipsTwoSaid : Prop := skipsTwoRow.holds Try.pinned (OpenSpec.ofChange skipsTwoSpec)

/-- ITS FALSE NEIGHBOUR: 'it returns false'. Refute it at one input. -/
def skipsTwoWrong : ChangeSpec := { name := "skipsTwo", fn := fun _ => fun
  | [d1, d2] => { results := [.lit (.bool false)], args := [d1, d2] }
  | _ => none }
def SkipsTwoWrongFalsely : Prop := skipsTwoRow.holds Try.pinned (OpenSpec.ofChange skipsTwoWrong)

/-- 'herbariumlaw08.SkipsVoid': WHATEVER THE INPUT: true; the input reads as it did. -/
def skipsVoidSpec : ChangeSpec := { name := "skipsVoid", fn := fun _ => fun
  | [d] => { results := [.lit (.bool true)], args := [d] }
  | _ => none }
def skipsVoidRow : OpenClaim := { program := "ytkijcphkmikdbaa", sum := "6b7a6cf074a4f869f72122f733d1c5589eee8da0d5ef8a201ba9f2c73985ce58", func := "herbarium/herbariumlaw08.SkipsVoid", spec := "skipsVoid", inPlace := ["internal/bytealg.Compare"], unfollowed := true, recurses := true, apart := false }
def SkipsVoidSaid : Prop := skipsVoidRow.holds Try.pinned (OpenSpec.ofChange skipsVoidSpec)

/-- ITS FALSE NEIGHBOUR: 'it returns false'. Refute it at one input. -/
def skipsVoidWrong : ChangeSpec := { name := "skipsVoid", fn := fun _ => fun
  | [d] => { results := [.lit (.bool false)], args := [d] }
  | _ => none }
def SkipsVoidWrongFalsely : Prop := skipsVoidRow.holds Try.pinned (OpenSpec.ofChange skipsVoidWrong)

/- THE SECOND FORM. 'bulk': how many values and letters a reading holds, each counted each time it is reached (what is shared counts as often as it is met; a slice's spare places count too). A statement '..UptoSaid' is the law's where the arguments, and the package variables that the reading takes, are together of bulk at most 1048576: NARROWER than '..Said'. Prove '..Said' where nothing that the law and all that it calls make is longer than what came in: it says more and counts as full. Else prove '..UptoSaid'. A law counts once. -/
mutual
def uptoBulk {H : Type} : DataW H → Nat
  | .lit (.string bytes) => bytes.length + 1
  | .lit _ => 1
  | .nil => 1
  | .ptr d => uptoBulk d + 1
  | .slice elems spare => uptoBulkAll elems + uptoBulkAll spare + 1
  | .agg parts => uptoBulkAll parts + 1
  | .iface _ d => uptoBulk d + 1
  | .map entries => uptoBulkEntries entries + 1
  | .held _ => 1
def uptoBulkAll {H : Type} : List (DataW H) → Nat
  | [] => 0
  | d :: r => uptoBulk d + uptoBulkAll r
def uptoBulkEntries {H : Type} : List (Lit × DataW H) → Nat
  | [] => 0
  | x :: r => uptoBulkEntry x + uptoBulkEntries r
def uptoBulkEntry {H : Type} : Lit × DataW H → Nat
  | (.string bytes, d) => bytes.length + uptoBulk d + 1
  | (_, d) => uptoBulk d + 1
 end
def uptoSmall : (H : Type) → List (DataW H) → Bool := fun _ ds => decide (uptoBulkAll ds ≤ 1048576)
def OpenSpec.upto (s : _root_.Go.ChangeSpec) : _root_.Go.OpenSpec := { _root_.Go.OpenSpec.ofChange s with cond := some uptoSmall }

/-- 'herbariumlaw08.SkipsOrder', WHERE WHAT IT READS IS OF BULK AT MOST 1048576: true; the input reads as it did. -/
def skipsOrderUptoRow : OpenClaim := { program := "ytkijcphkmikdbaa", sum := "6b7a6cf074a4f869f72122f733d1c5589eee8da0d5ef8a201ba9f2c73985ce58", func := "herbarium/herbariumlaw08.SkipsOrder", spec := "skipsOrder", inPlace := ["internal/bytealg.Compare"], unfollowed := true, recurses := true, apart := false, narrowed := true }
def SkipsOrderUptoSaid : Prop := skipsOrderUptoRow.holds Try.pinned (OpenSpec.upto skipsOrderSpec)

/-- 'herbariumlaw08.SkipsFrom', WHERE WHAT IT READS IS OF BULK AT MOST 1048576: true; the input reads as it did. -/
def skipsFromUptoRow : OpenClaim := { program := "ytkijcphkmikdbaa", sum := "6b7a6cf074a4f869f72122f733d1c5589eee8da0d5ef8a201ba9f2c73985ce58", func := "herbarium/herbariumlaw08.SkipsFrom", spec := "skipsFrom", inPlace := ["internal/bytealg.Compare"], unfollowed := true, recurses := true, apart := false, narrowed := true }
def SkipsFromUptoSaid : Prop := skipsFromUptoRow.holds Try.pinned (OpenSpec.upto skipsFromSpec)

/-- 'herbariumlaw08.SkipsTwo', WHERE WHAT IT READS IS OF BULK AT MOST 1048576: true; the input reads as it did. -/
def skipsTwoUptoRow : OpenClaim := { program := "ytkijcphkmikdbaa", sum := "6b7a6cf074a4f869f72122f733d1c5589eee8da0d5ef8a201ba9f2c73985ce58", func := "herbarium/herbariumlaw08.SkipsTwo", spec := "skipsTwo", inPlace := ["internal/bytealg.Compare"], unfollowed := true, recurses := true, apart := false, narrowed := true }
def SkipsTwoUptoSaid : Prop := skipsTwoUptoRow.holds Try.pinned (OpenSpec.upto skipsTwoSpec)

/-- 'herbariumlaw08.SkipsVoid', WHERE WHAT IT READS IS OF BULK AT MOST 1048576: true; the input reads as it did. -/
def skipsVoidUptoRow : OpenClaim := { program := "ytkijcphkmikdbaa", sum := "6b7a6cf074a4f869f72122f733d1c5589eee8da0d5ef8a201ba9f2c73985ce58", func := "herbarium/herbariumlaw08.SkipsVoid", spec := "skipsVoid", inPlace := ["internal/bytealg.Compare"], unfollowed := true, recurses := true, apart := false, narrowed := true }
def SkipsVoidUptoSaid : Prop := skipsVoidUptoRow.holds Try.pinned (OpenSpec.upto skipsVoidSpec)

end Rows
end Go.Proofs.Ytkijcphkmikdbaa
