/-
  DERIVED. GIVEN WITH THE SEED: THE CARDS: each row of YtebledknjfojlaaDoorRows.lean that lists a variable, with what it lists TIED to the program's text (the seventh form; the later family's looks); each row that meets fmt, with fmt's text TOLD by the authors' own Lean function (tested against real Go, not proved from fmt's source: count such statements apart). THE CARD IS WHAT COUNTS. Prove the row's statement (the work); the ties are given (YtebledknjfojlaaDoorTie.lean); close each card by the builder's one call (the guide's Derived/Test/ToyasCard.lean, 'card_holds'). Laid BY PROGRAM, IN A SANDBOX (cutbox-door.mjs). By AI agents, Wed Nov 11 2026. No macro, syntax, notation, axiom, sorry.
-/
import Derived.Test.YtebledknjfojlaaDoorRows
import GoSem.ClaimSeven
namespace Go.Proofs.YtebledknjfojlaaDoor
namespace Rows

/-- THE TIED CARD OF 'herbariumlaw11.BloomsOf'. -/
def bloomsOfCard : Claim7 := { stood := { row := bloomsOfRow, standIns := [], harness := (true, "b780a7d43006f099e2a3771abec694e8cac0a12146ba1ee6b334e09f26f2339b"), looks := false }, kinds := [], alts := [], laidByText := true, laidKinds := [.data, .data, .data], laidTests := true, laidLooks := .later }
def BloomsOfCardSaid : Prop := Claim7.holds Tryd.pinned (.plain (OpenSpec.ofChange bloomsOfSpec)) bloomsOfCard

/-- THE SECOND FORM's CARD OF 'herbariumlaw11.BloomsOf'. -/
def bloomsOfUptoCard : Claim7 := { stood := { row := bloomsOfUptoRow, standIns := [], harness := (true, "b780a7d43006f099e2a3771abec694e8cac0a12146ba1ee6b334e09f26f2339b"), looks := false }, kinds := [], alts := [], laidByText := true, laidKinds := [.data, .data, .data], laidTests := true, laidLooks := .later }
def BloomsOfUptoCardSaid : Prop := Claim7.holds Tryd.pinned (.plain (OpenSpec.upto bloomsOfSpec)) bloomsOfUptoCard
end Rows
end Go.Proofs.YtebledknjfojlaaDoor
