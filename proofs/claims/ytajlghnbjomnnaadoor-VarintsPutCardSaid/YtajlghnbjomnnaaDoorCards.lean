/-
  DERIVED. GIVEN WITH THE SEED: THE CARDS: each row of YtajlghnbjomnnaaDoorRows.lean that lists a variable, with what it lists TIED to the program's text (the seventh form; the later family's looks); each row that meets fmt, with fmt's text TOLD by the authors' own Lean function (tested against real Go, not proved from fmt's source: count such statements apart). THE CARD IS WHAT COUNTS. Prove the row's statement (the work); the ties are given (YtajlghnbjomnnaaDoorTie.lean); close each card by the builder's one call (the guide's Derived/Test/ToyasCard.lean, 'card_holds'). Laid BY PROGRAM, IN A SANDBOX (cutbox-door.mjs). By AI agents, Wed Nov 11 2026. No macro, syntax, notation, axiom, sorry.
-/
import Derived.Test.YtajlghnbjomnnaaDoorRows
import GoSem.ClaimSeven
namespace Go.Proofs.YtajlghnbjomnnaaDoor
namespace Rows

/-- THE TIED CARD OF 'herbariumlaw01.VarintsPut'. -/
def varintsPutCard : Claim7 := { stood := { row := varintsPutRow, standIns := [], harness := (true, "52594008a43a5fb2373844464d00d2ad9abcba3d574335cd4b550a4ccd09d40b"), looks := false }, kinds := [], alts := [], laidByText := true, laidKinds := [.data, .data, .data], laidTests := true, laidLooks := .later }
def VarintsPutCardSaid : Prop := Claim7.holds Tryd.pinned (.plain (OpenSpec.ofChange varintsPutSpec)) varintsPutCard

/-- THE SECOND FORM's CARD OF 'herbariumlaw01.VarintsPut'. -/
def varintsPutUptoCard : Claim7 := { stood := { row := varintsPutUptoRow, standIns := [], harness := (true, "52594008a43a5fb2373844464d00d2ad9abcba3d574335cd4b550a4ccd09d40b"), looks := false }, kinds := [], alts := [], laidByText := true, laidKinds := [.data, .data, .data], laidTests := true, laidLooks := .later }
def VarintsPutUptoCardSaid : Prop := Claim7.holds Tryd.pinned (.plain (OpenSpec.upto varintsPutSpec)) varintsPutUptoCard
end Rows
end Go.Proofs.YtajlghnbjomnnaaDoor
