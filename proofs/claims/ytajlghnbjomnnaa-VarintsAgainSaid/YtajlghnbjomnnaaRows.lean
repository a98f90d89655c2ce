/-
  No cell of these rows narrows 'for every input' (looked for: loops, veiled, ifaces, maps, wideKeys, modest, calm, conditions, laid).
  DERIVED. THE GIVEN ROWS OF THIS SEAT. 5 by the template 'for every input the law returns true; each argument reads behind the call as it read before'; 0 by the template 'total and deterministic' (their statements: YtajlghnbjomnnaaTotals.lean).
  GIVEN WITH THE SEED: the statements are not yours to turn. If you find one false, say at which input.
  Laid BY PROGRAM, IN A SANDBOX (cutbox-rows.mjs): the forced cells as the released guide's own fill.sh prints them over the translation 29ba72242ce0bb6b… (all of the seat's roots in one cut). By AI agents, Wed Nov 11 2026. No macro, syntax, notation, axiom, sorry.
-/
import Derived.Test.YtajlghnbjomnnaaChecked
import GoSem.Claim
import GoSem.ClaimJoined
import GoSem.ClaimMapViews
import Derived.JoinedTies
import Derived.KernelRfl
namespace Go.Proofs.Ytajlghnbjomnnaa
/- THE CELL 'sum', in the pinned program and in every row, IS THE sha256 OF THE DUMP (.gsa) THAT YtajlghnbjomnnaaProg.lean LOADS. Nothing in Lean hashes anything: it is a label: what it is worth is what the hold of that sum in a sandbox is worth. -/
noncomputable def Try.pinned : Pinned := { name := "ytajlghnbjomnnaa", sum := "29ba72242ce0bb6b125f185d355e5932d5f11c3221b218140f60b12596cdba96", checked := Try.checked }
namespace Rows
def none {H : Type} : Left H := { results := [], args := [] }

/-- 'herbariumlaw01.VarintsGet': WHATEVER THE INPUT: true; the input reads as it did. -/
def varintsGetSpec : ChangeSpec := { name := "varintsGet", fn := fun _ => fun
  | [d] => { results := [.lit (.bool true)], args := [d] }
  | _ => none }
def varintsGetRow : OpenClaim := { program := "ytajlghnbjomnnaa", sum := "29ba72242ce0bb6b125f185d355e5932d5f11c3221b218140f60b12596cdba96", func := "herbarium/herbariumlaw01.VarintsGet", spec := "varintsGet", unfollowed := true, recurses := true, apart := false }
def VarintsGetSaid : Prop := varintsGetRow.holds Try.pinned (OpenSpec.ofChange varintsGetSpec)

/-- ITS FALSE NEIGHBOUR: 'it returns false'. Refute it at one input. -/
def varintsGetWrong : ChangeSpec := { name := "varintsGet", fn := fun _ => fun
  | [d] => { results := [.lit (.bool false)], args := [d] }
  | _ => none }
def VarintsGetWrongFalsely : Prop := varintsGetRow.holds Try.pinned (OpenSpec.ofChange varintsGetWrong)

/-- 'herbariumlaw01.VarintsBack': WHATEVER THE INPUT: true; the input reads as it did. -/
def varintsBackSpec : ChangeSpec := { name := "varintsBack", fn := fun _ => fun
  | [d1, d2, d3] => { results := [.lit (.bool true)], args := [d1, d2, d3] }
  | _ => none }
def varintsBackRow : OpenClaim := { program := "ytajlghnbjomnnaa", sum := "29ba72242ce0bb6b125f185d355e5932d5f11c3221b218140f60b12596cdba96", func := "herbarium/herbariumlaw01.VarintsBack", spec := "varintsBack", unfollowed := true, recurses := true, apart := false }
def VarintsBackSaid : Prop := varintsBackRow.holds Try.pinned (OpenSpec.ofChange varintsBackSpec)

/-- ITS FALSE NEIGHBOUR: 'it returns false'. Refute it at one input. -/
def varintsBackWrong : ChangeSpec := { name := "varintsBack", fn := fun _ => fun
  | [d1, d2, d3] => { results := [.lit (.bool false)], args := [d1, d2, d3] }
  | _ => none }
def VarintsBackWrongFalsely : Prop := varintsBackRow.holds Try.pinned (OpenSpec.ofChange varintsBackWrong)

/-- 'herbariumlaw01.VarintsAgain': WHATEVER THE INPUT: true; the input reads as it did. -/
def varintsAgainSpec : ChangeSpec := { name := "varintsAgain", fn := fun _ => fun
  | [d] => { results := [.lit (.bool true)], args := [d] }
  | _ => none }
def varintsAgainRow : OpenClaim := { program := "ytajlghnbjomnnaa", sum := "29ba72242ce0bb6b125f185d355e5932d5f11c3221b218140f60b12596cdba96", func := "herbarium/herbariumlaw01.VarintsAgain", spec := "varintsAgain", unfollowed := true, recurses := true, apart := false }
def VarintsAgainSaid : Prop := varintsAgainRow.holds Try.pinned (OpenSpec.ofChange varintsAgainSpec)

/-- ITS FALSE NEIGHBOUR: 'it returns false'. Refute it at one input. -/
def varintsAgainWrong : ChangeSpec := { name := "varintsAgain", fn := fun _ => fun
  | [d] => { results := [.lit (.bool false)], args := [d] }
  | _ => none }
def VarintsAgainWrongFalsely : Prop := varintsAgainRow.holds Try.pinned (OpenSpec.ofChange varintsAgainWrong)

/-- 'herbariumlaw01.VarintsLong': WHATEVER THE INPUT: true; the input reads as it did. -/
def varintsLongSpec : ChangeSpec := { name := "varintsLong", fn := fun _ => fun
  | [d1, d2] => { results := [.lit (.bool true)], args := [d1, d2] }
  | _ => none }
def varintsLongRow : OpenClaim := { program := "ytajlghnbjomnnaa", sum := "29ba72242ce0bb6b125f185d355e5932d5f11c3221b218140f60b12596cdba96", func := "herbarium/herbariumlaw01.VarintsLong", spec := "varintsLong", unfollowed := true, recurses := true, apart := false }
def VarintsLongSaid : Prop := varintsLongRow.holds Try.pinned (OpenSpec.ofChange varintsLongSpec)

/-- ITS FALSE NEIGHBOUR: 'it returns false'. Refute it at one input. -/
def varintsLongWrong : ChangeSpec := { name := "varintsLong", fn := fun _ => fun
  | [d1, d2] => { results := [.lit (.bool false)], args := [d1, d2] }
  | _ => none }
def VarintsLongWrongFalsely : Prop := varintsLongRow.holds Try.pinned (OpenSpec.ofChange varintsLongWrong)

/-- 'herbariumlaw01.VarintsSeven': WHATEVER THE INPUT: true; the input reads as it did. -/
def varintsSevenSpec : ChangeSpec := { name := "varintsSeven", fn := fun _ => fun
  | [d] => { results := [.lit (.bool true)], args := [d] }
  | _ => none }
def varintsSevenRow : OpenClaim := { program := "ytajlghnbjomnnaa", sum := "29ba72242ce0bb6b125f185d355e5932d5f11c3221b218140f60b12596cdba96", func := "herbarium/herbariumlaw01.VarintsSeven", spec := "varintsSeven", unfollowed := true, recurses := true, apart := false }
def VarintsSevenSaid : Prop := varintsSevenRow.holds Try.pinned (OpenSpec.ofChange varintsSevenSpec)

/-- ITS FALSE NEIGHBOUR: 'it returns false'. Refute it at one input. -/
def varintsSevenWrong : ChangeSpec := { name := "varintsSeven", fn := fun _ => fun
  | [d] => { results := [.lit (.bool false)], args := [d] }
  | _ => none }
def VarintsSevenWrongFalsely : Prop := varintsSevenRow.holds Try.pinned (OpenSpec.ofChange varintsSevenWrong)

/- THE SECOND FORM. 'bulk': how many values and letters a reading holds, each counted each time it is reached (what is shared counts as often as it is met; a slice's spare places count too). A statement '..UptoSaid' is the law's where the arguments, and the package variables that the reading takes, are together of bulk at most 1048576: NARROWER than '..Said'. Prove '..Said' where nothing that the law and all that it calls make is longer than what came in: it says more and counts as full. Else prove '..UptoSaid'. A law counts once. -/
mutual
def uptoBulk {H : Type} : DataW H → Nat
  | .lit (.string bytes) => bytes.length + 1
  | .lit _ => 1
  | .nil => 1
  | .ptr d => uptoBulk d + 1
  | .slice elems spare => uptoBulkAll elems + uptoBulkAll spare + 1
  | .agg parts => uptoBulkAll parts + 1
  | .iface _ d => uptoBulk d + 1
  | .map entries => uptoBulkEntries entries + 1
  | .held _ => 1
def uptoBulkAll {H : Type} : List (DataW H) → Nat
  | [] => 0
  | d :: r => uptoBulk d + uptoBulkAll r
def uptoBulkEntries {H : Type} : List (Lit × DataW H) → Nat
  | [] => 0
  | x :: r => uptoBulkEntry x + uptoBulkEntries r
def uptoBulkEntry {H : Type} : Lit × DataW H → Nat
  | (.string bytes, d) => bytes.length + uptoBulk d + 1
  | (_, d) => uptoBulk d + 1
 end
def uptoSmall : (H : Type) → List (DataW H) → Bool := fun _ ds => decide (uptoBulkAll ds ≤ 1048576)
def OpenSpec.upto (s : _root_.Go.ChangeSpec) : _root_.Go.OpenSpec := { _root_.Go.OpenSpec.ofChange s with cond := some uptoSmall }

/-- 'herbariumlaw01.VarintsGet', WHERE WHAT IT READS IS OF BULK AT MOST 1048576: true; the input reads as it did. -/
def varintsGetUptoRow : OpenClaim := { program := "ytajlghnbjomnnaa", sum := "29ba72242ce0bb6b125f185d355e5932d5f11c3221b218140f60b12596cdba96", func := "herbarium/herbariumlaw01.VarintsGet", spec := "varintsGet", unfollowed := true, recurses := true, apart := false, narrowed := true }
def VarintsGetUptoSaid : Prop := varintsGetUptoRow.holds Try.pinned (OpenSpec.upto varintsGetSpec)

/-- 'herbariumlaw01.VarintsBack', WHERE WHAT IT READS IS OF BULK AT MOST 1048576: true; the input reads as it did. -/
def varintsBackUptoRow : OpenClaim := { program := "ytajlghnbjomnnaa", sum := "29ba72242ce0bb6b125f185d355e5932d5f11c3221b218140f60b12596cdba96", func := "herbarium/herbariumlaw01.VarintsBack", spec := "varintsBack", unfollowed := true, recurses := true, apart := false, narrowed := true }
def VarintsBackUptoSaid : Prop := varintsBackUptoRow.holds Try.pinned (OpenSpec.upto varintsBackSpec)

/-- 'herbariumlaw01.VarintsAgain', WHERE WHAT IT READS IS OF BULK AT MOST 1048576: true; the input reads as it did. -/
def varintsAgainUptoRow : OpenClaim := { program := "ytajlghnbjomnnaa", sum := "29ba72242ce0bb6b125f185d355e5932d5f11c3221b218140f60b12596cdba96", func := "herbarium/herbariumlaw01.VarintsAgain", spec := "varintsAgain", unfollowed := true, recurses := true, apart := false, narrowed := true }
def VarintsAgainUptoSaid : Prop := varintsAgainUptoRow.holds Try.pinned (OpenSpec.upto varintsAgainSpec)

/-- 'herbariumlaw01.VarintsLong', WHERE WHAT IT READS IS OF BULK AT MOST 1048576: true; the input reads as it did. -/
def varintsLongUptoRow : OpenClaim := { program := "ytajlghnbjomnnaa", sum := "29ba72242ce0bb6b125f185d355e5932d5f11c3221b218140f60b12596cdba96", func := "herbarium/herbariumlaw01.VarintsLong", spec := "varintsLong", unfollowed := true, recurses := true, apart := false, narrowed := true }
def VarintsLongUptoSaid : Prop := varintsLongUptoRow.holds Try.pinned (OpenSpec.upto varintsLongSpec)

/-- 'herbariumlaw01.VarintsSeven', WHERE WHAT IT READS IS OF BULK AT MOST 1048576: true; the input reads as it did. -/
def varintsSevenUptoRow : OpenClaim := { program := "ytajlghnbjomnnaa", sum := "29ba72242ce0bb6b125f185d355e5932d5f11c3221b218140f60b12596cdba96", func := "herbarium/herbariumlaw01.VarintsSeven", spec := "varintsSeven", unfollowed := true, recurses := true, apart := false, narrowed := true }
def VarintsSevenUptoSaid : Prop := varintsSevenUptoRow.holds Try.pinned (OpenSpec.upto varintsSevenSpec)

end Rows
end Go.Proofs.Ytajlghnbjomnnaa
