/-
  DERIVED. GIVEN WITH THE SEED: THE CARDS: each row of YtncpabbjpdogjaaGreatDoorRows.lean that lists a variable, with what it lists TIED to the program's text (the seventh form; the later family's looks); each row that meets fmt, with fmt's text TOLD by the authors' own Lean function (tested against real Go, not proved from fmt's source: count such statements apart). THE CARD IS WHAT COUNTS. Prove the row's statement (the work); the ties are given (YtncpabbjpdogjaaGreatDoorTie.lean); close each card by the builder's one call (the guide's Derived/Test/ToyasCard.lean, 'card_holds'). Laid BY PROGRAM, IN A SANDBOX (cutbox-door.mjs). By AI agents, Wed Nov 11 2026. No macro, syntax, notation, axiom, sorry.
-/
import Derived.Test.YtncpabbjpdogjaaGreatDoorRows
import GoSem.ClaimSeven
namespace Go.Proofs.YtncpabbjpdogjaaGreatDoor
namespace Rows

/-- THE TIED CARD OF 'kistlaw26.SalvageTrue'. -/
def salvageTrueCard : Claim7 := { stood := { row := salvageTrueRow, standIns := [], harness := (true, "0ca8e7c2c4282630793bf3b09a822140bb90e6d5b75164516b265db9dddc2e10"), looks := true }, kinds := [], alts := [], laidByText := true, laidKinds := [.data, .data, .data], laidTests := true, laidLooks := .later }
def SalvageTrueCardSaid : Prop := Claim7.holds Tryz.pinned (.plain (OpenSpec.ofChange salvageTrueSpec)) salvageTrueCard

/-- THE TIED CARD OF 'kistlaw26.SalvageParts'. -/
def salvagePartsCard : Claim7 := { stood := { row := salvagePartsRow, standIns := [], harness := (true, "0ca8e7c2c4282630793bf3b09a822140bb90e6d5b75164516b265db9dddc2e10"), looks := true }, kinds := [], alts := [], laidByText := true, laidKinds := [.data, .data, .data], laidTests := true, laidLooks := .later }
def SalvagePartsCardSaid : Prop := Claim7.holds Tryz.pinned (.plain (OpenSpec.ofChange salvagePartsSpec)) salvagePartsCard

/-- THE TIED CARD OF 'kistlaw22.SpaceBack'. -/
def spaceBackCard : Claim7 := { stood := { row := spaceBackRow, standIns := [], harness := (true, "0ca8e7c2c4282630793bf3b09a822140bb90e6d5b75164516b265db9dddc2e10"), looks := true }, kinds := [], alts := [], laidByText := true, laidKinds := [.data, .data, .data], laidTests := true, laidLooks := .later }
def SpaceBackCardSaid : Prop := Claim7.holds Tryz.pinned (.plain (OpenSpec.ofChange spaceBackSpec)) spaceBackCard

/-- THE TIED CARD OF 'kistlaw22.SpaceSmall'. -/
def spaceSmallCard : Claim7 := { stood := { row := spaceSmallRow, standIns := [], harness := (true, "0ca8e7c2c4282630793bf3b09a822140bb90e6d5b75164516b265db9dddc2e10"), looks := true }, kinds := [], alts := [], laidByText := true, laidKinds := [.data, .data, .data], laidTests := true, laidLooks := .later }
def SpaceSmallCardSaid : Prop := Claim7.holds Tryz.pinned (.plain (OpenSpec.ofChange spaceSmallSpec)) spaceSmallCard

/-- THE SECOND FORM's CARD OF 'kistlaw26.SalvageTrue'. -/
def salvageTrueUptoCard : Claim7 := { stood := { row := salvageTrueUptoRow, standIns := [], harness := (true, "0ca8e7c2c4282630793bf3b09a822140bb90e6d5b75164516b265db9dddc2e10"), looks := true }, kinds := [], alts := [], laidByText := true, laidKinds := [.data, .data, .data], laidTests := true, laidLooks := .later }
def SalvageTrueUptoCardSaid : Prop := Claim7.holds Tryz.pinned (.plain (OpenSpec.upto salvageTrueSpec)) salvageTrueUptoCard

/-- THE SECOND FORM's CARD OF 'kistlaw26.SalvageParts'. -/
def salvagePartsUptoCard : Claim7 := { stood := { row := salvagePartsUptoRow, standIns := [], harness := (true, "0ca8e7c2c4282630793bf3b09a822140bb90e6d5b75164516b265db9dddc2e10"), looks := true }, kinds := [], alts := [], laidByText := true, laidKinds := [.data, .data, .data], laidTests := true, laidLooks := .later }
def SalvagePartsUptoCardSaid : Prop := Claim7.holds Tryz.pinned (.plain (OpenSpec.upto salvagePartsSpec)) salvagePartsUptoCard

/-- THE SECOND FORM's CARD OF 'kistlaw22.SpaceBack'. -/
def spaceBackUptoCard : Claim7 := { stood := { row := spaceBackUptoRow, standIns := [], harness := (true, "0ca8e7c2c4282630793bf3b09a822140bb90e6d5b75164516b265db9dddc2e10"), looks := true }, kinds := [], alts := [], laidByText := true, laidKinds := [.data, .data, .data], laidTests := true, laidLooks := .later }
def SpaceBackUptoCardSaid : Prop := Claim7.holds Tryz.pinned (.plain (OpenSpec.upto spaceBackSpec)) spaceBackUptoCard

/-- THE SECOND FORM's CARD OF 'kistlaw22.SpaceSmall'. -/
def spaceSmallUptoCard : Claim7 := { stood := { row := spaceSmallUptoRow, standIns := [], harness := (true, "0ca8e7c2c4282630793bf3b09a822140bb90e6d5b75164516b265db9dddc2e10"), looks := true }, kinds := [], alts := [], laidByText := true, laidKinds := [.data, .data, .data], laidTests := true, laidLooks := .later }
def SpaceSmallUptoCardSaid : Prop := Claim7.holds Tryz.pinned (.plain (OpenSpec.upto spaceSmallSpec)) spaceSmallUptoCard
end Rows
end Go.Proofs.YtncpabbjpdogjaaGreatDoor
