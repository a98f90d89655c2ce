/-
  DERIVED. GIVEN WITH THE SEED: THE CARDS: each row of YtccbldlnfaiphaaDoorRows.lean that lists a variable, with what it lists TIED to the program's text (the seventh form; the later family's looks); each row that meets fmt, with fmt's text TOLD by the authors' own Lean function (tested against real Go, not proved from fmt's source: count such statements apart). THE CARD IS WHAT COUNTS. Prove the row's statement (the work); the ties are given (YtccbldlnfaiphaaDoorTie.lean); close each card by the builder's one call (the guide's Derived/Test/ToyasCard.lean, 'card_holds'). Laid BY PROGRAM, IN A SANDBOX (cutbox-door.mjs). By AI agents, Wed Nov 11 2026. No macro, syntax, notation, axiom, sorry.
-/
import Derived.Test.YtccbldlnfaiphaaDoorRows
import GoSem.ClaimSeven
namespace Go.Proofs.YtccbldlnfaiphaaDoor
namespace Rows

/-- THE TIED CARD OF 'herbariumlaw07.OpsPut'. -/
def opsPutCard : Claim7 := { stood := { row := opsPutRow, standIns := [], harness := (true, "46d5cacd4782c602f2b9df7395970fea9243359bc8c670c610b31bfbc6d9cf21"), looks := true }, kinds := [], alts := [], laidByText := true, laidKinds := [.data, .data, .data, .data], laidTests := true, laidLooks := .later }
def OpsPutCardSaid : Prop := Claim7.holds Tryd.pinned (.plain (OpenSpec.ofChange opsPutSpec)) opsPutCard

/-- THE TIED CARD OF 'herbariumlaw07.OpsGet'. -/
def opsGetCard : Claim7 := { stood := { row := opsGetRow, standIns := [], harness := (true, "46d5cacd4782c602f2b9df7395970fea9243359bc8c670c610b31bfbc6d9cf21"), looks := true }, kinds := [], alts := [], laidByText := true, laidKinds := [.data, .data, .data, .data], laidTests := true, laidLooks := .later }
def OpsGetCardSaid : Prop := Claim7.holds Tryd.pinned (.plain (OpenSpec.ofChange opsGetSpec)) opsGetCard

/-- THE TIED CARD OF 'herbariumlaw07.OpsBack'. -/
def opsBackCard : Claim7 := { stood := { row := opsBackRow, standIns := [], harness := (true, "46d5cacd4782c602f2b9df7395970fea9243359bc8c670c610b31bfbc6d9cf21"), looks := true }, kinds := [], alts := [], laidByText := true, laidKinds := [.data], laidTests := true, laidLooks := .later }
def OpsBackCardSaid : Prop := Claim7.holds Tryd.pinned (.plain (OpenSpec.ofChange opsBackSpec)) opsBackCard

/-- THE TIED CARD OF 'herbariumlaw07.OpsAgain'. -/
def opsAgainCard : Claim7 := { stood := { row := opsAgainRow, standIns := [], harness := (true, "46d5cacd4782c602f2b9df7395970fea9243359bc8c670c610b31bfbc6d9cf21"), looks := true }, kinds := [], alts := [], laidByText := true, laidKinds := [.data], laidTests := true, laidLooks := .later }
def OpsAgainCardSaid : Prop := Claim7.holds Tryd.pinned (.plain (OpenSpec.ofChange opsAgainSpec)) opsAgainCard

/-- THE TIED CARD OF 'herbariumlaw07.OpsFields'. -/
def opsFieldsCard : Claim7 := { stood := { row := opsFieldsRow, standIns := [], harness := (true, "46d5cacd4782c602f2b9df7395970fea9243359bc8c670c610b31bfbc6d9cf21"), looks := true }, kinds := [], alts := [], laidByText := true, laidKinds := [.data], laidTests := true, laidLooks := .later }
def OpsFieldsCardSaid : Prop := Claim7.holds Tryd.pinned (.plain (OpenSpec.ofChange opsFieldsSpec)) opsFieldsCard

/-- THE TIED CARD OF 'herbariumlaw07.OpsChanges'. -/
def opsChangesCard : Claim7 := { stood := { row := opsChangesRow, standIns := [], harness := (true, "46d5cacd4782c602f2b9df7395970fea9243359bc8c670c610b31bfbc6d9cf21"), looks := true }, kinds := [], alts := [], laidByText := true, laidKinds := [.data], laidTests := true, laidLooks := .later }
def OpsChangesCardSaid : Prop := Claim7.holds Tryd.pinned (.plain (OpenSpec.ofChange opsChangesSpec)) opsChangesCard

/-- THE SECOND FORM's CARD OF 'herbariumlaw07.OpsPut'. -/
def opsPutUptoCard : Claim7 := { stood := { row := opsPutUptoRow, standIns := [], harness := (true, "46d5cacd4782c602f2b9df7395970fea9243359bc8c670c610b31bfbc6d9cf21"), looks := true }, kinds := [], alts := [], laidByText := true, laidKinds := [.data, .data, .data, .data], laidTests := true, laidLooks := .later }
def OpsPutUptoCardSaid : Prop := Claim7.holds Tryd.pinned (.plain (OpenSpec.upto opsPutSpec)) opsPutUptoCard

/-- THE SECOND FORM's CARD OF 'herbariumlaw07.OpsGet'. -/
def opsGetUptoCard : Claim7 := { stood := { row := opsGetUptoRow, standIns := [], harness := (true, "46d5cacd4782c602f2b9df7395970fea9243359bc8c670c610b31bfbc6d9cf21"), looks := true }, kinds := [], alts := [], laidByText := true, laidKinds := [.data, .data, .data, .data], laidTests := true, laidLooks := .later }
def OpsGetUptoCardSaid : Prop := Claim7.holds Tryd.pinned (.plain (OpenSpec.upto opsGetSpec)) opsGetUptoCard

/-- THE SECOND FORM's CARD OF 'herbariumlaw07.OpsBack'. -/
def opsBackUptoCard : Claim7 := { stood := { row := opsBackUptoRow, standIns := [], harness := (true, "46d5cacd4782c602f2b9df7395970fea9243359bc8c670c610b31bfbc6d9cf21"), looks := true }, kinds := [], alts := [], laidByText := true, laidKinds := [.data], laidTests := true, laidLooks := .later }
def OpsBackUptoCardSaid : Prop := Claim7.holds Tryd.pinned (.plain (OpenSpec.upto opsBackSpec)) opsBackUptoCard

/-- THE SECOND FORM's CARD OF 'herbariumlaw07.OpsAgain'. -/
def opsAgainUptoCard : Claim7 := { stood := { row := opsAgainUptoRow, standIns := [], harness := (true, "46d5cacd4782c602f2b9df7395970fea9243359bc8c670c610b31bfbc6d9cf21"), looks := true }, kinds := [], alts := [], laidByText := true, laidKinds := [.data], laidTests := true, laidLooks := .later }
def OpsAgainUptoCardSaid : Prop := Claim7.holds Tryd.pinned (.plain (OpenSpec.upto opsAgainSpec)) opsAgainUptoCard

/-- THE SECOND FORM's CARD OF 'herbariumlaw07.OpsFields'. -/
def opsFieldsUptoCard : Claim7 := { stood := { row := opsFieldsUptoRow, standIns := [], harness := (true, "46d5cacd4782c602f2b9df7395970fea9243359bc8c670c610b31bfbc6d9cf21"), looks := true }, kinds := [], alts := [], laidByText := true, laidKinds := [.data], laidTests := true, laidLooks := .later }
def OpsFieldsUptoCardSaid : Prop := Claim7.holds Tryd.pinned (.plain (OpenSpec.upto opsFieldsSpec)) opsFieldsUptoCard

/-- THE SECOND FORM's CARD OF 'herbariumlaw07.OpsChanges'. -/
def opsChangesUptoCard : Claim7 := { stood := { row := opsChangesUptoRow, standIns := [], harness := (true, "46d5cacd4782c602f2b9df7395970fea9243359bc8c670c610b31bfbc6d9cf21"), looks := true }, kinds := [], alts := [], laidByText := true, laidKinds := [.data], laidTests := true, laidLooks := .later }
def OpsChangesUptoCardSaid : Prop := Claim7.holds Tryd.pinned (.plain (OpenSpec.upto opsChangesSpec)) opsChangesUptoCard
end Rows
end Go.Proofs.YtccbldlnfaiphaaDoor
