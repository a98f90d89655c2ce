/-
  No cell of these rows narrows 'for every input' (looked for: loops, veiled, ifaces, maps, wideKeys, modest, calm, conditions, laid).
  DERIVED. THE GIVEN ROWS OF THIS SEAT. 4 by the template 'for every input the law returns true; each argument reads behind the call as it read before'; 0 by the template 'total and deterministic' (their statements: YtnlmchbigpjamaaTotals.lean).
  GIVEN WITH THE SEED: the statements are not yours to turn. If you find one false, say at which input.
  Laid BY PROGRAM, IN A SANDBOX (cutbox-rows.mjs): the forced cells as the released guide's own fill.sh prints them over the translation d3cfdc3bb1ffbd6b… (all of the seat's roots in one cut). By AI agents, Wed Nov 11 2026. No macro, syntax, notation, axiom, sorry.
-/
import Derived.Test.YtnlmchbigpjamaaChecked
import GoSem.Claim
import GoSem.ClaimJoined
import GoSem.ClaimMapViews
import Derived.JoinedTies
import Derived.KernelRfl
namespace Go.Proofs.Ytnlmchbigpjamaa
/- THE CELL 'sum', in the pinned program and in every row, IS THE sha256 OF THE DUMP (.gsa) THAT YtnlmchbigpjamaaProg.lean LOADS. Nothing in Lean hashes anything: it is a label: what it is worth is what the hold of that sum in a sandbox is worth. -/
noncomputable def Try.pinned : Pinned := { name := "ytnlmchbigpjamaa", sum := "d3cfdc3bb1ffbd6bbd8a74cfbee3430032fba8a57fead51c83f9b6118f1ffc92", checked := Try.checked }
namespace Rows
def none {H : Type} : Left H := { results := [], args := [] }

/-- 'herbariumlaw14.JoinsOf': WHATEVER THE INPUT: true; the input reads as it did. -/
def joinsOfSpec : ChangeSpec := { name := "joinsOf", fn := fun _ => fun
  | [d1, d2] => { results := [.lit (.bool true)], args := [d1, d2] }
  | _ => none }
def joinsOfRow : OpenClaim := { program := "ytnlmchbigpjamaa", sum := "d3cfdc3bb1ffbd6bbd8a74cfbee3430032fba8a57fead51c83f9b6118f1ffc92", func := "herbarium/herbariumlaw14.JoinsOf", spec := "joinsOf", unfollowed := true, recurses := true, plainKeys := false, apart := false }
def JoinsOfSaid : Prop := joinsOfRow.holds Try.pinned (OpenSpec.ofChange joinsOfSpec)

/-- ITS FALSE NEIGHBOUR: 'it returns false'. Refute it at one input. -/
def joinsOfWrong : ChangeSpec := { name := "joinsOf", fn := fun _ => fun
  | [d1, d2] => { results := [.lit (.bool false)], args := [d1, d2] }
  | _ => none }
def JoinsOfWrongFalsely : Prop := joinsOfRow.holds Try.pinned (OpenSpec.ofChange joinsOfWrong)

/-- 'herbariumlaw14.JoinsRise': WHATEVER THE INPUT: true; the input reads as it did. -/
def joinsRiseSpec : ChangeSpec := { name := "joinsRise", fn := fun _ => fun
  | [d] => { results := [.lit (.bool true)], args := [d] }
  | _ => none }
def joinsRiseRow : OpenClaim := { program := "ytnlmchbigpjamaa", sum := "d3cfdc3bb1ffbd6bbd8a74cfbee3430032fba8a57fead51c83f9b6118f1ffc92", func := "herbarium/herbariumlaw14.JoinsRise", spec := "joinsRise", unfollowed := true, recurses := true, plainKeys := false, apart := false }
def JoinsRiseSaid : Prop := joinsRiseRow.holds Try.pinned (OpenSpec.ofChange joinsRiseSpec)

/-- ITS FALSE NEIGHBOUR: 'it returns false'. Refute it at one input. -/
def joinsRiseWrong : ChangeSpec := { name := "joinsRise", fn := fun _ => fun
  | [d] => { results := [.lit (.bool false)], args := [d] }
  | _ => none }
def JoinsRiseWrongFalsely : Prop := joinsRiseRow.holds Try.pinned (OpenSpec.ofChange joinsRiseWrong)

/-- 'herbariumlaw14.JoinsTwo': WHATEVER THE INPUT: true; the input reads as it did. -/
def joinsTwoSpec : ChangeSpec := { name := "joinsTwo", fn := fun _ => fun
  | [d] => { results := [.lit (.bool true)], args := [d] }
  | _ => none }
def joinsTwoRow : OpenClaim := { program := "ytnlmchbigpjamaa", sum := "d3cfdc3bb1ffbd6bbd8a74cfbee3430032fba8a57fead51c83f9b6118f1ffc92", func := "herbarium/herbariumlaw14.JoinsTwo", spec := "joinsTwo", unfollowed := true, recurses := true, plainKeys := false, apart := false }
def JoinsTwoSaid : Prop := joinsTwoRow.holds Try.pinned (OpenSpec.ofChange joinsTwoSpec)

/-- ITS FALSE NEIGHBOUR: 'it returns false'. Refute it at one input. -/
def joinsTwoWrong : ChangeSpec := { name := "joinsTwo", fn := fun _ => fun
  | [d] => { results := [.lit (.bool false)], args := [d] }
  | _ => none }
def JoinsTwoWrongFalsely : Prop := joinsTwoRow.holds Try.pinned (OpenSpec.ofChange joinsTwoWrong)

/-- 'herbariumlaw14.JoinsPlace': WHATEVER THE INPUT: true; the input reads as it did. -/
def joinsPlaceSpec : ChangeSpec := { name := "joinsPlace", fn := fun _ => fun
  | [d1, d2] => { results := [.lit (.bool true)], args := [d1, d2] }
  | _ => none }
def joinsPlaceRow : OpenClaim := { program := "ytnlmchbigpjamaa", sum := "d3cfdc3bb1ffbd6bbd8a74cfbee3430032fba8a57fead51c83f9b6118f1ffc92", func := "herbarium/herbariumlaw14.JoinsPlace", spec := "joinsPlace", unfollowed := true, recurses := true, plainKeys := false, apart := false }
def JoinsPlaceSaid : Prop := joinsPlaceRow.holds Try.pinned (OpenSpec.ofChange joinsPlaceSpec)

/-- ITS FALSE NEIGHBOUR: 'it returns false'. Refute it at one input. -/
def joinsPlaceWrong : ChangeSpec := { name := "joinsPlace", fn := fun _ => fun
  | [d1, d2] => { results := [.lit (.bool false)], args := [d1, d2] }
  | _ => none }
def JoinsPlaceWrongFalsely : Prop := joinsPlaceRow.holds Try.pinned (OpenSpec.ofChange joinsPlaceWrong)

/- THE SECOND FORM. 'bulk': how many values and letters a reading holds, each counted each time it is reached (what is shared counts as often as it is met; a slice's spare places count too). A statement '..UptoSaid' is the law's where the arguments, and the package variables that the reading takes, are together of bulk at most 1048576: NARROWER than '..Said'. Prove '..Said' where nothing that the law and all that it calls make is longer than what came in: it says more and counts as full. Else prove '..UptoSaid'. A law counts once. -/
mutual
def uptoBulk {H : Type} : DataW H → Nat
  | .lit (.string bytes) => bytes.length + 1
  | .lit _ => 1
  | .nil => 1
  | .ptr d => uptoBulk d + 1
  | .slice elems spare => uptoBulkAll elems + uptoBulkAll spare + 1
  | .agg parts => uptoBulkAll parts + 1
  | .iface _ d => uptoBulk d + 1
  | .map entries => uptoBulkEntries entries + 1
  | .held _ => 1
def uptoBulkAll {H : Type} : List (DataW H) → Nat
  | [] => 0
  | d :: r => uptoBulk d + uptoBulkAll r
def uptoBulkEntries {H : Type} : List (Lit × DataW H) → Nat
  | [] => 0
  | x :: r => uptoBulkEntry x + uptoBulkEntries r
def uptoBulkEntry {H : Type} : Lit × DataW H → Nat
  | (.string bytes, d) => bytes.length + uptoBulk d + 1
  | (_, d) => uptoBulk d + 1
 end
def uptoSmall : (H : Type) → List (DataW H) → Bool := fun _ ds => decide (uptoBulkAll ds ≤ 1048576)
def OpenSpec.upto (s : _root_.Go.ChangeSpec) : _root_.Go.OpenSpec := { _root_.Go.OpenSpec.ofChange s with cond := some uptoSmall }

/-- 'herbariumlaw14.JoinsOf', WHERE WHAT IT READS IS OF BULK AT MOST 1048576: true; the input reads as it did. -/
def joinsOfUptoRow : OpenClaim := { program := "ytnlmchbigpjamaa", sum := "d3cfdc3bb1ffbd6bbd8a74cfbee3430032fba8a57fead51c83f9b6118f1ffc92", func := "herbarium/herbariumlaw14.JoinsOf", spec := "joinsOf", unfollowed := true, recurses := true, plainKeys := false, apart := false, narrowed := true }
def JoinsOfUptoSaid : Prop := joinsOfUptoRow.holds Try.pinned (OpenSpec.upto joinsOfSpec)

/-- 'herbariumlaw14.JoinsRise', WHERE WHAT IT READS IS OF BULK AT MOST 1048576: true; the input reads as it did. -/
def joinsRiseUptoRow : OpenClaim := { program := "ytnlmchbigpjamaa", sum := "d3cfdc3bb1ffbd6bbd8a74cfbee3430032fba8a57fead51c83f9b6118f1ffc92", func := "herbarium/herbariumlaw14.JoinsRise", spec := "joinsRise", unfollowed := true, recurses := true, plainKeys := false, apart := false, narrowed := true }
def JoinsRiseUptoSaid : Prop := joinsRiseUptoRow.holds Try.pinned (OpenSpec.upto joinsRiseSpec)

/-- 'herbariumlaw14.JoinsTwo', WHERE WHAT IT READS IS OF BULK AT MOST 1048576: true; the input reads as it did. -/
def joinsTwoUptoRow : OpenClaim := { program := "ytnlmchbigpjamaa", sum := "d3cfdc3bb1ffbd6bbd8a74cfbee3430032fba8a57fead51c83f9b6118f1ffc92", func := "herbarium/herbariumlaw14.JoinsTwo", spec := "joinsTwo", unfollowed := true, recurses := true, plainKeys := false, apart := false, narrowed := true }
def JoinsTwoUptoSaid : Prop := joinsTwoUptoRow.holds Try.pinned (OpenSpec.upto joinsTwoSpec)

/-- 'herbariumlaw14.JoinsPlace', WHERE WHAT IT READS IS OF BULK AT MOST 1048576: true; the input reads as it did. -/
def joinsPlaceUptoRow : OpenClaim := { program := "ytnlmchbigpjamaa", sum := "d3cfdc3bb1ffbd6bbd8a74cfbee3430032fba8a57fead51c83f9b6118f1ffc92", func := "herbarium/herbariumlaw14.JoinsPlace", spec := "joinsPlace", unfollowed := true, recurses := true, plainKeys := false, apart := false, narrowed := true }
def JoinsPlaceUptoSaid : Prop := joinsPlaceUptoRow.holds Try.pinned (OpenSpec.upto joinsPlaceSpec)

end Rows
end Go.Proofs.Ytnlmchbigpjamaa
