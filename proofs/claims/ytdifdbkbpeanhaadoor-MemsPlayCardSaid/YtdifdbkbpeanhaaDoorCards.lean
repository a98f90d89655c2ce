/-
  DERIVED. GIVEN WITH THE SEED: THE CARDS: each row of YtdifdbkbpeanhaaDoorRows.lean that lists a variable, with what it lists TIED to the program's text (the seventh form; the later family's looks); each row that meets fmt, with fmt's text TOLD by the authors' own Lean function (tested against real Go, not proved from fmt's source: count such statements apart). THE CARD IS WHAT COUNTS. Prove the row's statement (the work); the ties are given (YtdifdbkbpeanhaaDoorTie.lean); close each card by the builder's one call (the guide's Derived/Test/ToyasCard.lean, 'card_holds'). Laid BY PROGRAM, IN A SANDBOX (cutbox-door.mjs). By AI agents, Wed Nov 11 2026. No macro, syntax, notation, axiom, sorry.
-/
import Derived.Test.YtdifdbkbpeanhaaDoorRows
import GoSem.ClaimSeven
namespace Go.Proofs.YtdifdbkbpeanhaaDoor
namespace Rows

/-- THE TIED CARD OF 'herbariumlaw09.MemsPlay'. -/
def memsPlayCard : Claim7 := { stood := { row := memsPlayRow, standIns := [], harness := (true, "e8d79ec6ee8860b9306ecf6a88ea5ca9297913a4df3d9d4f2d7e720d640ae4fa"), looks := false }, kinds := [], alts := [], laidByText := true, laidKinds := [.data, .data, .data], laidTests := true, laidLooks := .later }
def MemsPlayCardSaid : Prop := Claim7.holds Tryd.pinned (.plain (OpenSpec.ofChange memsPlaySpec)) memsPlayCard

/-- THE SECOND FORM's CARD OF 'herbariumlaw09.MemsPlay'. -/
def memsPlayUptoCard : Claim7 := { stood := { row := memsPlayUptoRow, standIns := [], harness := (true, "e8d79ec6ee8860b9306ecf6a88ea5ca9297913a4df3d9d4f2d7e720d640ae4fa"), looks := false }, kinds := [], alts := [], laidByText := true, laidKinds := [.data, .data, .data], laidTests := true, laidLooks := .later }
def MemsPlayUptoCardSaid : Prop := Claim7.holds Tryd.pinned (.plain (OpenSpec.upto memsPlaySpec)) memsPlayUptoCard
end Rows
end Go.Proofs.YtdifdbkbpeanhaaDoor
