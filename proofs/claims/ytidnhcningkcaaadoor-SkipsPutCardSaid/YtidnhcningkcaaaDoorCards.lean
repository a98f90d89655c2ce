/-
  DERIVED. GIVEN WITH THE SEED: THE CARDS: each row of YtidnhcningkcaaaDoorRows.lean that lists a variable, with what it lists TIED to the program's text (the seventh form; the later family's looks); each row that meets fmt, with fmt's text TOLD by the authors' own Lean function (tested against real Go, not proved from fmt's source: count such statements apart). THE CARD IS WHAT COUNTS. Prove the row's statement (the work); the ties are given (YtidnhcningkcaaaDoorTie.lean); close each card by the builder's one call (the guide's Derived/Test/ToyasCard.lean, 'card_holds'). Laid BY PROGRAM, IN A SANDBOX (cutbox-door.mjs). By AI agents, Wed Nov 11 2026. No macro, syntax, notation, axiom, sorry.
-/
import Derived.Test.YtidnhcningkcaaaDoorRows
import GoSem.ClaimSeven
namespace Go.Proofs.YtidnhcningkcaaaDoor
namespace Rows

/-- THE TIED CARD OF 'herbariumlaw08.SkipsPut'. -/
def skipsPutCard : Claim7 := { stood := { row := skipsPutRow, standIns := [], harness := (true, "fb2d97e55e8bf412b32c711fe2582ecc4e505268f9c8dbf8e46dd0a946ac970e"), looks := false }, kinds := [], alts := [], laidByText := true, laidKinds := [.data, .data, .data], laidTests := true, laidLooks := .later }
def SkipsPutCardSaid : Prop := Claim7.holds Tryd.pinned (.plain (OpenSpec.ofChange skipsPutSpec)) skipsPutCard

/-- THE SECOND FORM's CARD OF 'herbariumlaw08.SkipsPut'. -/
def skipsPutUptoCard : Claim7 := { stood := { row := skipsPutUptoRow, standIns := [], harness := (true, "fb2d97e55e8bf412b32c711fe2582ecc4e505268f9c8dbf8e46dd0a946ac970e"), looks := false }, kinds := [], alts := [], laidByText := true, laidKinds := [.data, .data, .data], laidTests := true, laidLooks := .later }
def SkipsPutUptoCardSaid : Prop := Claim7.holds Tryd.pinned (.plain (OpenSpec.upto skipsPutSpec)) skipsPutUptoCard
end Rows
end Go.Proofs.YtidnhcningkcaaaDoor
