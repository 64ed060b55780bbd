/-
  DERIVED. GIVEN WITH THE SEED: THE CARDS: each row of YtoioaddfachjhaaGreatDoorRows.lean that lists a variable, with what it lists TIED to the program's text (the seventh form; the later family's looks); each row that meets fmt, with fmt's text TOLD by the authors' own Lean function (tested against real Go, not proved from fmt's source: count such statements apart). THE CARD IS WHAT COUNTS. Prove the row's statement (the work); the ties are given (YtoioaddfachjhaaGreatDoorTie.lean); close each card by the builder's one call (the guide's Derived/Test/ToyasCard.lean, 'card_holds'). Laid BY PROGRAM, IN A SANDBOX (cutbox-door.mjs). By AI agents, Wed Nov 11 2026. No macro, syntax, notation, axiom, sorry.
-/
import Derived.Test.YtoioaddfachjhaaGreatDoorRows
import GoSem.ClaimSeven
namespace Go.Proofs.YtoioaddfachjhaaGreatDoor
namespace Rows

/-- THE TIED CARD OF 'kistlaw22.SpaceFrees'. -/
def spaceFreesCard : Claim7 := { stood := { row := spaceFreesRow, standIns := [], harness := (true, "7945f244b91635006a46ccf51535d10d9ed5aaa4743e081587f6e886e7e01b0b"), looks := true }, kinds := [], alts := [], laidByText := true, laidKinds := [.data, .data, .data], laidTests := true, laidLooks := .later }
def SpaceFreesCardSaid : Prop := Claim7.holds Tryz.pinned (.plain (OpenSpec.ofChange spaceFreesSpec)) spaceFreesCard

/-- THE TIED CARD OF 'kistlaw22.SpaceEnds'. -/
def spaceEndsCard : Claim7 := { stood := { row := spaceEndsRow, standIns := [], harness := (true, "7945f244b91635006a46ccf51535d10d9ed5aaa4743e081587f6e886e7e01b0b"), looks := true }, kinds := [], alts := [], laidByText := true, laidKinds := [.data, .data, .data], laidTests := true, laidLooks := .later }
def SpaceEndsCardSaid : Prop := Claim7.holds Tryz.pinned (.plain (OpenSpec.ofChange spaceEndsSpec)) spaceEndsCard

/-- THE TIED CARD OF 'kistlaw22.SpaceFirsts'. -/
def spaceFirstsCard : Claim7 := { stood := { row := spaceFirstsRow, standIns := [], harness := (true, "7945f244b91635006a46ccf51535d10d9ed5aaa4743e081587f6e886e7e01b0b"), looks := true }, kinds := [], alts := [], laidByText := true, laidKinds := [.data, .data, .data], laidTests := true, laidLooks := .later }
def SpaceFirstsCardSaid : Prop := Claim7.holds Tryz.pinned (.plain (OpenSpec.ofChange spaceFirstsSpec)) spaceFirstsCard

/-- THE TIED CARD OF 'kistlaw22.SpaceFits'. -/
def spaceFitsCard : Claim7 := { stood := { row := spaceFitsRow, standIns := [], harness := (true, "7945f244b91635006a46ccf51535d10d9ed5aaa4743e081587f6e886e7e01b0b"), looks := true }, kinds := [], alts := [], laidByText := true, laidKinds := [.data, .data, .data], laidTests := true, laidLooks := .later }
def SpaceFitsCardSaid : Prop := Claim7.holds Tryz.pinned (.plain (OpenSpec.ofChange spaceFitsSpec)) spaceFitsCard

/-- THE TIED CARD OF 'kistlaw26.SalvageLasts'. -/
def salvageLastsCard : Claim7 := { stood := { row := salvageLastsRow, standIns := [], harness := (true, "7945f244b91635006a46ccf51535d10d9ed5aaa4743e081587f6e886e7e01b0b"), looks := true }, kinds := [], alts := [], laidByText := true, laidKinds := [.data, .data, .data, .data, .pinned], laidTests := true, laidLooks := .later }
def SalvageLastsCardSaid : Prop := Claim7.holds Tryz.pinned (.plain (OpenSpec.ofChange salvageLastsSpec)) salvageLastsCard

/-- THE SECOND FORM's CARD OF 'kistlaw22.SpaceFrees'. -/
def spaceFreesUptoCard : Claim7 := { stood := { row := spaceFreesUptoRow, standIns := [], harness := (true, "7945f244b91635006a46ccf51535d10d9ed5aaa4743e081587f6e886e7e01b0b"), looks := true }, kinds := [], alts := [], laidByText := true, laidKinds := [.data, .data, .data], laidTests := true, laidLooks := .later }
def SpaceFreesUptoCardSaid : Prop := Claim7.holds Tryz.pinned (.plain (OpenSpec.upto spaceFreesSpec)) spaceFreesUptoCard

/-- THE SECOND FORM's CARD OF 'kistlaw22.SpaceEnds'. -/
def spaceEndsUptoCard : Claim7 := { stood := { row := spaceEndsUptoRow, standIns := [], harness := (true, "7945f244b91635006a46ccf51535d10d9ed5aaa4743e081587f6e886e7e01b0b"), looks := true }, kinds := [], alts := [], laidByText := true, laidKinds := [.data, .data, .data], laidTests := true, laidLooks := .later }
def SpaceEndsUptoCardSaid : Prop := Claim7.holds Tryz.pinned (.plain (OpenSpec.upto spaceEndsSpec)) spaceEndsUptoCard

/-- THE SECOND FORM's CARD OF 'kistlaw22.SpaceFirsts'. -/
def spaceFirstsUptoCard : Claim7 := { stood := { row := spaceFirstsUptoRow, standIns := [], harness := (true, "7945f244b91635006a46ccf51535d10d9ed5aaa4743e081587f6e886e7e01b0b"), looks := true }, kinds := [], alts := [], laidByText := true, laidKinds := [.data, .data, .data], laidTests := true, laidLooks := .later }
def SpaceFirstsUptoCardSaid : Prop := Claim7.holds Tryz.pinned (.plain (OpenSpec.upto spaceFirstsSpec)) spaceFirstsUptoCard

/-- THE SECOND FORM's CARD OF 'kistlaw22.SpaceFits'. -/
def spaceFitsUptoCard : Claim7 := { stood := { row := spaceFitsUptoRow, standIns := [], harness := (true, "7945f244b91635006a46ccf51535d10d9ed5aaa4743e081587f6e886e7e01b0b"), looks := true }, kinds := [], alts := [], laidByText := true, laidKinds := [.data, .data, .data], laidTests := true, laidLooks := .later }
def SpaceFitsUptoCardSaid : Prop := Claim7.holds Tryz.pinned (.plain (OpenSpec.upto spaceFitsSpec)) spaceFitsUptoCard

/-- THE SECOND FORM's CARD OF 'kistlaw26.SalvageLasts'. -/
def salvageLastsUptoCard : Claim7 := { stood := { row := salvageLastsUptoRow, standIns := [], harness := (true, "7945f244b91635006a46ccf51535d10d9ed5aaa4743e081587f6e886e7e01b0b"), looks := true }, kinds := [], alts := [], laidByText := true, laidKinds := [.data, .data, .data, .data, .pinned], laidTests := true, laidLooks := .later }
def SalvageLastsUptoCardSaid : Prop := Claim7.holds Tryz.pinned (.plain (OpenSpec.upto salvageLastsSpec)) salvageLastsUptoCard
end Rows
end Go.Proofs.YtoioaddfachjhaaGreatDoor
