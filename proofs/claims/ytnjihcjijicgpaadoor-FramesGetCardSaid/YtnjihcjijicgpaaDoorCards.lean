/-
  DERIVED. GIVEN WITH THE SEED: THE CARDS: each row of YtnjihcjijicgpaaDoorRows.lean that lists a variable, with what it lists TIED to the program's text (the seventh form; the later family's looks); each row that meets fmt, with fmt's text TOLD by the authors' own Lean function (tested against real Go, not proved from fmt's source: count such statements apart). THE CARD IS WHAT COUNTS. Prove the row's statement (the work); the ties are given (YtnjihcjijicgpaaDoorTie.lean); close each card by the builder's one call (the guide's Derived/Test/ToyasCard.lean, 'card_holds'). Laid BY PROGRAM, IN A SANDBOX (cutbox-door.mjs). By AI agents, Wed Nov 11 2026. No macro, syntax, notation, axiom, sorry.
-/
import Derived.Test.YtnjihcjijicgpaaDoorRows
import GoSem.ClaimSeven
namespace Go.Proofs.YtnjihcjijicgpaaDoor
namespace Rows

/-- THE TIED CARD OF 'herbariumlaw05.FramesPut'. -/
def framesPutCard : Claim7 := { stood := { row := framesPutRow, standIns := [], harness := (true, "9e5abdaaf07a2ce2cbf6356c0d285e15b253ed0633203ba9dd521d1ad7a6f9e5"), looks := false }, kinds := [], alts := [], laidByText := true, laidKinds := [.data, .data, .data], laidTests := true, laidLooks := .later }
def FramesPutCardSaid : Prop := Claim7.holds Tryd.pinned (.plain (OpenSpec.ofChange framesPutSpec)) framesPutCard

/-- THE TIED CARD OF 'herbariumlaw05.FramesGet'. -/
def framesGetCard : Claim7 := { stood := { row := framesGetRow, standIns := [], harness := (true, "9e5abdaaf07a2ce2cbf6356c0d285e15b253ed0633203ba9dd521d1ad7a6f9e5"), looks := false }, kinds := [], alts := [], laidByText := true, laidKinds := [.data, .data, .data], laidTests := true, laidLooks := .later }
def FramesGetCardSaid : Prop := Claim7.holds Tryd.pinned (.plain (OpenSpec.ofChange framesGetSpec)) framesGetCard

/-- THE SECOND FORM's CARD OF 'herbariumlaw05.FramesPut'. -/
def framesPutUptoCard : Claim7 := { stood := { row := framesPutUptoRow, standIns := [], harness := (true, "9e5abdaaf07a2ce2cbf6356c0d285e15b253ed0633203ba9dd521d1ad7a6f9e5"), looks := false }, kinds := [], alts := [], laidByText := true, laidKinds := [.data, .data, .data], laidTests := true, laidLooks := .later }
def FramesPutUptoCardSaid : Prop := Claim7.holds Tryd.pinned (.plain (OpenSpec.upto framesPutSpec)) framesPutUptoCard

/-- THE SECOND FORM's CARD OF 'herbariumlaw05.FramesGet'. -/
def framesGetUptoCard : Claim7 := { stood := { row := framesGetUptoRow, standIns := [], harness := (true, "9e5abdaaf07a2ce2cbf6356c0d285e15b253ed0633203ba9dd521d1ad7a6f9e5"), looks := false }, kinds := [], alts := [], laidByText := true, laidKinds := [.data, .data, .data], laidTests := true, laidLooks := .later }
def FramesGetUptoCardSaid : Prop := Claim7.holds Tryd.pinned (.plain (OpenSpec.upto framesGetSpec)) framesGetUptoCard
end Rows
end Go.Proofs.YtnjihcjijicgpaaDoor
