/-
  DERIVED. GIVEN WITH THE SEED: THE CARDS: each row of YtfinjnahapbemaaGreatDoorRows.lean that lists a variable, with what it lists TIED to the program's text (the seventh form; the later family's looks); each row that meets fmt, with fmt's text TOLD by the authors' own Lean function (tested against real Go, not proved from fmt's source: count such statements apart). THE CARD IS WHAT COUNTS. Prove the row's statement (the work); the ties are given (YtfinjnahapbemaaGreatDoorTie.lean); close each card by the builder's one call (the guide's Derived/Test/ToyasCard.lean, 'card_holds'). Laid BY PROGRAM, IN A SANDBOX (cutbox-door.mjs). By AI agents, Wed Nov 11 2026. No macro, syntax, notation, axiom, sorry.
-/
import Derived.Test.YtfinjnahapbemaaGreatDoorRows
import GoSem.ClaimSeven
namespace Go.Proofs.YtfinjnahapbemaaGreatDoor
namespace Rows

/-- THE TIED CARD OF 'kistlaw25.CompactTwice'. -/
def compactTwiceCard : Claim7 := { stood := { row := compactTwiceRow, standIns := [], harness := (true, "00103306dd4aaedf31b0a2eb448f6f973ebee8efafb727f314023a08ea75c4ae"), looks := false }, kinds := [], alts := [], laidByText := true, laidKinds := [.data, .data, .data, .data, .pinned], laidTests := true, laidLooks := .later }
def CompactTwiceCardSaid : Prop := Claim7.holds Tryz.pinned (.plain (OpenSpec.ofChange compactTwiceSpec)) compactTwiceCard

/-- THE SECOND FORM's CARD OF 'kistlaw25.CompactTwice'. -/
def compactTwiceUptoCard : Claim7 := { stood := { row := compactTwiceUptoRow, standIns := [], harness := (true, "00103306dd4aaedf31b0a2eb448f6f973ebee8efafb727f314023a08ea75c4ae"), looks := false }, kinds := [], alts := [], laidByText := true, laidKinds := [.data, .data, .data, .data, .pinned], laidTests := true, laidLooks := .later }
def CompactTwiceUptoCardSaid : Prop := Claim7.holds Tryz.pinned (.plain (OpenSpec.upto compactTwiceSpec)) compactTwiceUptoCard
end Rows
end Go.Proofs.YtfinjnahapbemaaGreatDoor
