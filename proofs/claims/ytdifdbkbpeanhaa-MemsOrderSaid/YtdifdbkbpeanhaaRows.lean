/-
  No cell of these rows narrows 'for every input' (looked for: loops, veiled, ifaces, maps, wideKeys, modest, calm, conditions, laid).
  DERIVED. THE GIVEN ROWS OF THIS SEAT. 4 by the template 'for every input the law returns true; each argument reads behind the call as it read before'; 0 by the template 'total and deterministic' (their statements: YtdifdbkbpeanhaaTotals.lean).
  GIVEN WITH THE SEED: the statements are not yours to turn. If you find one false, say at which input.
  Laid BY PROGRAM, IN A SANDBOX (cutbox-rows.mjs): the forced cells as the released guide's own fill.sh prints them over the translation d0d528f90ccb15a1… (all of the seat's roots in one cut). By AI agents, Wed Nov 11 2026. No macro, syntax, notation, axiom, sorry.
-/
import Derived.Test.YtdifdbkbpeanhaaChecked
import GoSem.Claim
import GoSem.ClaimJoined
import GoSem.ClaimMapViews
import Derived.JoinedTies
import Derived.KernelRfl
namespace Go.Proofs.Ytdifdbkbpeanhaa
/- THE CELL 'sum', in the pinned program and in every row, IS THE sha256 OF THE DUMP (.gsa) THAT YtdifdbkbpeanhaaProg.lean LOADS. Nothing in Lean hashes anything: it is a label: what it is worth is what the hold of that sum in a sandbox is worth. -/
noncomputable def Try.pinned : Pinned := { name := "ytdifdbkbpeanhaa", sum := "d0d528f90ccb15a16786c0fe329a16174aa33d2794c89ad197cf224e5aa81fb3", checked := Try.checked }
namespace Rows
def none {H : Type} : Left H := { results := [], args := [] }

/-- 'herbariumlaw09.MemsFrom': WHATEVER THE INPUT: true; the input reads as it did. -/
def memsFromSpec : ChangeSpec := { name := "memsFrom", fn := fun _ => fun
  | [d1, d2, d3] => { results := [.lit (.bool true)], args := [d1, d2, d3] }
  | _ => none }
def memsFromRow : OpenClaim := { program := "ytdifdbkbpeanhaa", sum := "d0d528f90ccb15a16786c0fe329a16174aa33d2794c89ad197cf224e5aa81fb3", func := "herbarium/herbariumlaw09.MemsFrom", spec := "memsFrom", inPlace := ["internal/bytealg.Compare"], unfollowed := true, recurses := true, apart := false }
def MemsFromSaid : Prop := memsFromRow.holds Try.pinned (OpenSpec.ofChange memsFromSpec)

/-- ITS FALSE NEIGHBOUR: 'it returns false'. Refute it at one input. -/
def memsFromWrong : ChangeSpec := { name := "memsFrom", fn := fun _ => fun
  | [d1, d2, d3] => { results := [.lit (.bool false)], args := [d1, d2, d3] }
  | _ => none }
def MemsFromWrongFalsely : Prop := memsFromRow.holds Try.pinned (OpenSpec.ofChange memsFromWrong)

/-- 'herbariumlaw09.MemsVoid': WHATEVER THE INPUT: true; the input reads as it did. -/
def memsVoidSpec : ChangeSpec := { name := "memsVoid", fn := fun _ => fun
  | [d] => { results := [.lit (.bool true)], args := [d] }
  | _ => none }
def memsVoidRow : OpenClaim := { program := "ytdifdbkbpeanhaa", sum := "d0d528f90ccb15a16786c0fe329a16174aa33d2794c89ad197cf224e5aa81fb3", func := "herbarium/herbariumlaw09.MemsVoid", spec := "memsVoid", inPlace := ["internal/bytealg.Compare"], unfollowed := true, recurses := true, apart := false }
def MemsVoidSaid : Prop := memsVoidRow.holds Try.pinned (OpenSpec.ofChange memsVoidSpec)

/-- ITS FALSE NEIGHBOUR: 'it returns false'. Refute it at one input. -/
def memsVoidWrong : ChangeSpec := { name := "memsVoid", fn := fun _ => fun
  | [d] => { results := [.lit (.bool false)], args := [d] }
  | _ => none }
def MemsVoidWrongFalsely : Prop := memsVoidRow.holds Try.pinned (OpenSpec.ofChange memsVoidWrong)

/-- 'herbariumlaw09.MemsFrozen': WHATEVER THE INPUT: true; the input reads as it did. -/
def memsFrozenSpec : ChangeSpec := { name := "memsFrozen", fn := fun _ => fun
  | [d1, d2] => { results := [.lit (.bool true)], args := [d1, d2] }
  | _ => none }
def memsFrozenRow : OpenClaim := { program := "ytdifdbkbpeanhaa", sum := "d0d528f90ccb15a16786c0fe329a16174aa33d2794c89ad197cf224e5aa81fb3", func := "herbarium/herbariumlaw09.MemsFrozen", spec := "memsFrozen", inPlace := ["internal/bytealg.Compare"], unfollowed := true, recurses := true, apart := false }
def MemsFrozenSaid : Prop := memsFrozenRow.holds Try.pinned (OpenSpec.ofChange memsFrozenSpec)

/-- ITS FALSE NEIGHBOUR: 'it returns false'. Refute it at one input. -/
def memsFrozenWrong : ChangeSpec := { name := "memsFrozen", fn := fun _ => fun
  | [d1, d2] => { results := [.lit (.bool false)], args := [d1, d2] }
  | _ => none }
def MemsFrozenWrongFalsely : Prop := memsFrozenRow.holds Try.pinned (OpenSpec.ofChange memsFrozenWrong)

/-- 'herbariumlaw09.MemsOrder': WHATEVER THE INPUT: true; the input reads as it did. -/
def memsOrderSpec : ChangeSpec := { name := "memsOrder", fn := fun _ => fun
  | [d1, d2, d3] => { results := [.lit (.bool true)], args := [d1, d2, d3] }
  | _ => none }
def memsOrderRow : OpenClaim := { program := "ytdifdbkbpeanhaa", sum := "d0d528f90ccb15a16786c0fe329a16174aa33d2794c89ad197cf224e5aa81fb3", func := "herbarium/herbariumlaw09.MemsOrder", spec := "memsOrder", inPlace := ["internal/bytealg.Compare"], unfollowed := true, recurses := true, apart := false }
def MemsOrderSaid : Prop := memsOrderRow.holds Try.pinned (OpenSpec.ofChange memsOrderSpec)

/-- ITS FALSE NEIGHBOUR: 'it returns false'. Refute it at one input. -/
def memsOrderWrong : ChangeSpec := { name := "memsOrder", fn := fun _ => fun
  | [d1, d2, d3] => { results := [.lit (.bool false)], args := [d1, d2, d3] }
  | _ => none }
def MemsOrderWrongFalsely : Prop := memsOrderRow.holds Try.pinned (OpenSpec.ofChange memsOrderWrong)

/- THE SECOND FORM. 'bulk': how many values and letters a reading holds, each counted each time it is reached (what is shared counts as often as it is met; a slice's spare places count too). A statement '..UptoSaid' is the law's where the arguments, and the package variables that the reading takes, are together of bulk at most 1048576: NARROWER than '..Said'. Prove '..Said' where nothing that the law and all that it calls make is longer than what came in: it says more and counts as full. Else prove '..UptoSaid'. A law counts once. -/
mutual
def uptoBulk {H : Type} : DataW H → Nat
  | .lit (.string bytes) => bytes.length + 1
  | .lit _ => 1
  | .nil => 1
  | .ptr d => uptoBulk d + 1
  | .slice elems spare => uptoBulkAll elems + uptoBulkAll spare + 1
  | .agg parts => uptoBulkAll parts + 1
  | .iface _ d => uptoBulk d + 1
  | .map entries => uptoBulkEntries entries + 1
  | .held _ => 1
def uptoBulkAll {H : Type} : List (DataW H) → Nat
  | [] => 0
  | d :: r => uptoBulk d + uptoBulkAll r
def uptoBulkEntries {H : Type} : List (Lit × DataW H) → Nat
  | [] => 0
  | x :: r => uptoBulkEntry x + uptoBulkEntries r
def uptoBulkEntry {H : Type} : Lit × DataW H → Nat
  | (.string bytes, d) => bytes.length + uptoBulk d + 1
  | (_, d) => uptoBulk d + 1
 end
def uptoSmall : (H : Type) → List (DataW H) → Bool := fun _ ds => decide (uptoBulkAll ds ≤ 1048576)
def OpenSpec.upto (s : _root_.Go.ChangeSpec) : _root_.Go.OpenSpec := { _root_.Go.OpenSpec.ofChange s with cond := some uptoSmall }

/-- 'herbariumlaw09.MemsFrom', WHERE WHAT IT READS IS OF BULK AT MOST 1048576: true; the input reads as it did. -/
def memsFromUptoRow : OpenClaim := { program := "ytdifdbkbpeanhaa", sum := "d0d528f90ccb15a16786c0fe329a16174aa33d2794c89ad197cf224e5aa81fb3", func := "herbarium/herbariumlaw09.MemsFrom", spec := "memsFrom", inPlace := ["internal/bytealg.Compare"], unfollowed := true, recurses := true, apart := false, narrowed := true }
def MemsFromUptoSaid : Prop := memsFromUptoRow.holds Try.pinned (OpenSpec.upto memsFromSpec)

/-- 'herbariumlaw09.MemsVoid', WHERE WHAT IT READS IS OF BULK AT MOST 1048576: true; the input reads as it did. -/
def memsVoidUptoRow : OpenClaim := { program := "ytdifdbkbpeanhaa", sum := "d0d528f90ccb15a16786c0fe329a16174aa33d2794c89ad197cf224e5aa81fb3", func := "herbarium/herbariumlaw09.MemsVoid", spec := "memsVoid", inPlace := ["internal/bytealg.Compare"], unfollowed := true, recurses := true, apart := false, narrowed := true }
def MemsVoidUptoSaid : Prop := memsVoidUptoRow.holds Try.pinned (OpenSpec.upto memsVoidSpec)

/-- 'herbariumlaw09.MemsFrozen', WHERE WHAT IT READS IS OF BULK AT MOST 1048576: true; the input reads as it did. -/
def memsFrozenUptoRow : OpenClaim := { program := "ytdifdbkbpeanhaa", sum := "d0d528f90ccb15a16786c0fe329a16174aa33d2794c89ad197cf224e5aa81fb3", func := "herbarium/herbariumlaw09.MemsFrozen", spec := "memsFrozen", inPlace := ["internal/bytealg.Compare"], unfollowed := true, recurses := true, apart := false, narrowed := true }
def MemsFrozenUptoSaid : Prop := memsFrozenUptoRow.holds Try.pinned (OpenSpec.upto memsFrozenSpec)

/-- 'herbariumlaw09.MemsOrder', WHERE WHAT IT READS IS OF BULK AT MOST 1048576: true; the input reads as it did. -/
def memsOrderUptoRow : OpenClaim := { program := "ytdifdbkbpeanhaa", sum := "d0d528f90ccb15a16786c0fe329a16174aa33d2794c89ad197cf224e5aa81fb3", func := "herbarium/herbariumlaw09.MemsOrder", spec := "memsOrder", inPlace := ["internal/bytealg.Compare"], unfollowed := true, recurses := true, apart := false, narrowed := true }
def MemsOrderUptoSaid : Prop := memsOrderUptoRow.holds Try.pinned (OpenSpec.upto memsOrderSpec)

end Rows
end Go.Proofs.Ytdifdbkbpeanhaa
