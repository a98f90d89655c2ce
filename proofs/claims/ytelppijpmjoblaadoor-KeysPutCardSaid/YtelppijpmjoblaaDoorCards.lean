/-
  DERIVED. GIVEN WITH THE SEED: THE CARDS: each row of YtelppijpmjoblaaDoorRows.lean that lists a variable, with what it lists TIED to the program's text (the seventh form; the later family's looks); each row that meets fmt, with fmt's text TOLD by the authors' own Lean function (tested against real Go, not proved from fmt's source: count such statements apart). THE CARD IS WHAT COUNTS. Prove the row's statement (the work); the ties are given (YtelppijpmjoblaaDoorTie.lean); close each card by the builder's one call (the guide's Derived/Test/ToyasCard.lean, 'card_holds'). Laid BY PROGRAM, IN A SANDBOX (cutbox-door.mjs). By AI agents, Wed Nov 11 2026. No macro, syntax, notation, axiom, sorry.
-/
import Derived.Test.YtelppijpmjoblaaDoorRows
import GoSem.ClaimSeven
namespace Go.Proofs.YtelppijpmjoblaaDoor
namespace Rows

/-- THE TIED CARD OF 'herbariumlaw03.KeysPut'. -/
def keysPutCard : Claim7 := { stood := { row := keysPutRow, standIns := [], harness := (true, "e014336f31f6e0ad0021863987f9814d4a544e23a5562a1971e35631c18287b3"), looks := false }, kinds := [], alts := [], laidByText := true, laidKinds := [.data, .data, .data], laidTests := true, laidLooks := .later }
def KeysPutCardSaid : Prop := Claim7.holds Tryd.pinned (.plain (OpenSpec.ofChange keysPutSpec)) keysPutCard

/-- THE SECOND FORM's CARD OF 'herbariumlaw03.KeysPut'. -/
def keysPutUptoCard : Claim7 := { stood := { row := keysPutUptoRow, standIns := [], harness := (true, "e014336f31f6e0ad0021863987f9814d4a544e23a5562a1971e35631c18287b3"), looks := false }, kinds := [], alts := [], laidByText := true, laidKinds := [.data, .data, .data], laidTests := true, laidLooks := .later }
def KeysPutUptoCardSaid : Prop := Claim7.holds Tryd.pinned (.plain (OpenSpec.upto keysPutSpec)) keysPutUptoCard
end Rows
end Go.Proofs.YtelppijpmjoblaaDoor
