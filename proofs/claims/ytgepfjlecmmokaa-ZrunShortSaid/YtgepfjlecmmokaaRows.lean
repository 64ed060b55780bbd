/-
  No cell of these rows narrows 'for every input' (looked for: loops, veiled, ifaces, maps, wideKeys, modest, calm, conditions, laid).
  DERIVED. THE GIVEN ROWS OF THIS SEAT. 11 by the template 'for every input the law returns true; each argument reads behind the call as it read before'; 0 by the template 'total and deterministic' (their statements: YtgepfjlecmmokaaTotals.lean).
  GIVEN WITH THE SEED: the statements are not yours to turn. If you find one false, say at which input.
  Laid BY PROGRAM, IN A SANDBOX (cutbox-rows.mjs): the forced cells as the released guide's own fill.sh prints them over the translation 710537e97fb142db… (all of the seat's roots in one cut). By AI agents, Wed Nov 11 2026. No macro, syntax, notation, axiom, sorry.
-/
import Derived.Test.YtgepfjlecmmokaaChecked
import GoSem.Claim
import GoSem.ClaimJoined
import GoSem.ClaimMapViews
import Derived.JoinedTies
import Derived.KernelRfl
namespace Go.Proofs.Ytgepfjlecmmokaa
/- THE CELL 'sum', in the pinned program and in every row, IS THE sha256 OF THE DUMP (.gsa) THAT YtgepfjlecmmokaaProg.lean LOADS. Nothing in Lean hashes anything: it is a label: what it is worth is what the hold of that sum in a sandbox is worth. -/
noncomputable def Try.pinned : Pinned := { name := "ytgepfjlecmmokaa", sum := "710537e97fb142db5adb3a1bd2d542630cbdcd90286879d09dba9336ce5f7209", checked := Try.checked }
namespace Rows
def none {H : Type} : Left H := { results := [], args := [] }

/-- 'kistlaw03.RleEncodes': WHATEVER THE INPUT: true; the input reads as it did. -/
def rleEncodesSpec : ChangeSpec := { name := "rleEncodes", fn := fun _ => fun
  | [d] => { results := [.lit (.bool true)], args := [d] }
  | _ => none }
def rleEncodesRow : OpenClaim := { program := "ytgepfjlecmmokaa", sum := "710537e97fb142db5adb3a1bd2d542630cbdcd90286879d09dba9336ce5f7209", func := "kist/kistlaw03.RleEncodes", spec := "rleEncodes", apart := false }
def RleEncodesSaid : Prop := rleEncodesRow.holds Try.pinned (OpenSpec.ofChange rleEncodesSpec)

/-- ITS FALSE NEIGHBOUR: 'it returns false'. Refute it at one input. -/
def rleEncodesWrong : ChangeSpec := { name := "rleEncodes", fn := fun _ => fun
  | [d] => { results := [.lit (.bool false)], args := [d] }
  | _ => none }
def RleEncodesWrongFalsely : Prop := rleEncodesRow.holds Try.pinned (OpenSpec.ofChange rleEncodesWrong)

/-- 'kistlaw03.RleDecodes': WHATEVER THE INPUT: true; the input reads as it did. -/
def rleDecodesSpec : ChangeSpec := { name := "rleDecodes", fn := fun _ => fun
  | [d] => { results := [.lit (.bool true)], args := [d] }
  | _ => none }
def rleDecodesRow : OpenClaim := { program := "ytgepfjlecmmokaa", sum := "710537e97fb142db5adb3a1bd2d542630cbdcd90286879d09dba9336ce5f7209", func := "kist/kistlaw03.RleDecodes", spec := "rleDecodes", apart := false }
def RleDecodesSaid : Prop := rleDecodesRow.holds Try.pinned (OpenSpec.ofChange rleDecodesSpec)

/-- ITS FALSE NEIGHBOUR: 'it returns false'. Refute it at one input. -/
def rleDecodesWrong : ChangeSpec := { name := "rleDecodes", fn := fun _ => fun
  | [d] => { results := [.lit (.bool false)], args := [d] }
  | _ => none }
def RleDecodesWrongFalsely : Prop := rleDecodesRow.holds Try.pinned (OpenSpec.ofChange rleDecodesWrong)

/-- 'kistlaw03.RleFits': WHATEVER THE INPUT: true; the input reads as it did. -/
def rleFitsSpec : ChangeSpec := { name := "rleFits", fn := fun _ => fun
  | [d1, d2] => { results := [.lit (.bool true)], args := [d1, d2] }
  | _ => none }
def rleFitsRow : OpenClaim := { program := "ytgepfjlecmmokaa", sum := "710537e97fb142db5adb3a1bd2d542630cbdcd90286879d09dba9336ce5f7209", func := "kist/kistlaw03.RleFits", spec := "rleFits", apart := false }
def RleFitsSaid : Prop := rleFitsRow.holds Try.pinned (OpenSpec.ofChange rleFitsSpec)

/-- ITS FALSE NEIGHBOUR: 'it returns false'. Refute it at one input. -/
def rleFitsWrong : ChangeSpec := { name := "rleFits", fn := fun _ => fun
  | [d1, d2] => { results := [.lit (.bool false)], args := [d1, d2] }
  | _ => none }
def RleFitsWrongFalsely : Prop := rleFitsRow.holds Try.pinned (OpenSpec.ofChange rleFitsWrong)

/-- 'kistlaw03.RleBack': WHATEVER THE INPUT: true; the input reads as it did. -/
def rleBackSpec : ChangeSpec := { name := "rleBack", fn := fun _ => fun
  | [d] => { results := [.lit (.bool true)], args := [d] }
  | _ => none }
def rleBackRow : OpenClaim := { program := "ytgepfjlecmmokaa", sum := "710537e97fb142db5adb3a1bd2d542630cbdcd90286879d09dba9336ce5f7209", func := "kist/kistlaw03.RleBack", spec := "rleBack", apart := false }
def RleBackSaid : Prop := rleBackRow.holds Try.pinned (OpenSpec.ofChange rleBackSpec)

/-- ITS FALSE NEIGHBOUR: 'it returns false'. Refute it at one input. -/
def rleBackWrong : ChangeSpec := { name := "rleBack", fn := fun _ => fun
  | [d] => { results := [.lit (.bool false)], args := [d] }
  | _ => none }
def RleBackWrongFalsely : Prop := rleBackRow.holds Try.pinned (OpenSpec.ofChange rleBackWrong)

/-- 'kistlaw03.RleLengths': WHATEVER THE INPUT: true; the input reads as it did. -/
def rleLengthsSpec : ChangeSpec := { name := "rleLengths", fn := fun _ => fun
  | [d1, d2] => { results := [.lit (.bool true)], args := [d1, d2] }
  | _ => none }
def rleLengthsRow : OpenClaim := { program := "ytgepfjlecmmokaa", sum := "710537e97fb142db5adb3a1bd2d542630cbdcd90286879d09dba9336ce5f7209", func := "kist/kistlaw03.RleLengths", spec := "rleLengths", apart := false }
def RleLengthsSaid : Prop := rleLengthsRow.holds Try.pinned (OpenSpec.ofChange rleLengthsSpec)

/-- ITS FALSE NEIGHBOUR: 'it returns false'. Refute it at one input. -/
def rleLengthsWrong : ChangeSpec := { name := "rleLengths", fn := fun _ => fun
  | [d1, d2] => { results := [.lit (.bool false)], args := [d1, d2] }
  | _ => none }
def RleLengthsWrongFalsely : Prop := rleLengthsRow.holds Try.pinned (OpenSpec.ofChange rleLengthsWrong)

/-- 'kistlaw03.RleCuts': WHATEVER THE INPUT: true; the input reads as it did. -/
def rleCutsSpec : ChangeSpec := { name := "rleCuts", fn := fun _ => fun
  | [d1, d2] => { results := [.lit (.bool true)], args := [d1, d2] }
  | _ => none }
def rleCutsRow : OpenClaim := { program := "ytgepfjlecmmokaa", sum := "710537e97fb142db5adb3a1bd2d542630cbdcd90286879d09dba9336ce5f7209", func := "kist/kistlaw03.RleCuts", spec := "rleCuts", apart := false }
def RleCutsSaid : Prop := rleCutsRow.holds Try.pinned (OpenSpec.ofChange rleCutsSpec)

/-- ITS FALSE NEIGHBOUR: 'it returns false'. Refute it at one input. -/
def rleCutsWrong : ChangeSpec := { name := "rleCuts", fn := fun _ => fun
  | [d1, d2] => { results := [.lit (.bool false)], args := [d1, d2] }
  | _ => none }
def RleCutsWrongFalsely : Prop := rleCutsRow.holds Try.pinned (OpenSpec.ofChange rleCutsWrong)

/-- 'kistlaw07.ZrunRuns': WHATEVER THE INPUT: true; the input reads as it did. -/
def zrunRunsSpec : ChangeSpec := { name := "zrunRuns", fn := fun _ => fun
  | [d] => { results := [.lit (.bool true)], args := [d] }
  | _ => none }
def zrunRunsRow : OpenClaim := { program := "ytgepfjlecmmokaa", sum := "710537e97fb142db5adb3a1bd2d542630cbdcd90286879d09dba9336ce5f7209", func := "kist/kistlaw07.ZrunRuns", spec := "zrunRuns", apart := false }
def ZrunRunsSaid : Prop := zrunRunsRow.holds Try.pinned (OpenSpec.ofChange zrunRunsSpec)

/-- ITS FALSE NEIGHBOUR: 'it returns false'. Refute it at one input. -/
def zrunRunsWrong : ChangeSpec := { name := "zrunRuns", fn := fun _ => fun
  | [d] => { results := [.lit (.bool false)], args := [d] }
  | _ => none }
def ZrunRunsWrongFalsely : Prop := zrunRunsRow.holds Try.pinned (OpenSpec.ofChange zrunRunsWrong)

/-- 'kistlaw07.ZrunEncodes': WHATEVER THE INPUT: true; the input reads as it did. -/
def zrunEncodesSpec : ChangeSpec := { name := "zrunEncodes", fn := fun _ => fun
  | [d1, d2] => { results := [.lit (.bool true)], args := [d1, d2] }
  | _ => none }
def zrunEncodesRow : OpenClaim := { program := "ytgepfjlecmmokaa", sum := "710537e97fb142db5adb3a1bd2d542630cbdcd90286879d09dba9336ce5f7209", func := "kist/kistlaw07.ZrunEncodes", spec := "zrunEncodes", apart := false }
def ZrunEncodesSaid : Prop := zrunEncodesRow.holds Try.pinned (OpenSpec.ofChange zrunEncodesSpec)

/-- ITS FALSE NEIGHBOUR: 'it returns false'. Refute it at one input. -/
def zrunEncodesWrong : ChangeSpec := { name := "zrunEncodes", fn := fun _ => fun
  | [d1, d2] => { results := [.lit (.bool false)], args := [d1, d2] }
  | _ => none }
def ZrunEncodesWrongFalsely : Prop := zrunEncodesRow.holds Try.pinned (OpenSpec.ofChange zrunEncodesWrong)

/-- 'kistlaw07.ZrunDecodes': WHATEVER THE INPUT: true; the input reads as it did. -/
def zrunDecodesSpec : ChangeSpec := { name := "zrunDecodes", fn := fun _ => fun
  | [d1, d2, d3] => { results := [.lit (.bool true)], args := [d1, d2, d3] }
  | _ => none }
def zrunDecodesRow : OpenClaim := { program := "ytgepfjlecmmokaa", sum := "710537e97fb142db5adb3a1bd2d542630cbdcd90286879d09dba9336ce5f7209", func := "kist/kistlaw07.ZrunDecodes", spec := "zrunDecodes", apart := false }
def ZrunDecodesSaid : Prop := zrunDecodesRow.holds Try.pinned (OpenSpec.ofChange zrunDecodesSpec)

/-- ITS FALSE NEIGHBOUR: 'it returns false'. Refute it at one input. -/
def zrunDecodesWrong : ChangeSpec := { name := "zrunDecodes", fn := fun _ => fun
  | [d1, d2, d3] => { results := [.lit (.bool false)], args := [d1, d2, d3] }
  | _ => none }
def ZrunDecodesWrongFalsely : Prop := zrunDecodesRow.holds Try.pinned (OpenSpec.ofChange zrunDecodesWrong)

/-- 'kistlaw07.ZrunBack': WHATEVER THE INPUT: true; the input reads as it did. -/
def zrunBackSpec : ChangeSpec := { name := "zrunBack", fn := fun _ => fun
  | [d1, d2, d3] => { results := [.lit (.bool true)], args := [d1, d2, d3] }
  | _ => none }
def zrunBackRow : OpenClaim := { program := "ytgepfjlecmmokaa", sum := "710537e97fb142db5adb3a1bd2d542630cbdcd90286879d09dba9336ce5f7209", func := "kist/kistlaw07.ZrunBack", spec := "zrunBack", apart := false }
def ZrunBackSaid : Prop := zrunBackRow.holds Try.pinned (OpenSpec.ofChange zrunBackSpec)

/-- ITS FALSE NEIGHBOUR: 'it returns false'. Refute it at one input. -/
def zrunBackWrong : ChangeSpec := { name := "zrunBack", fn := fun _ => fun
  | [d1, d2, d3] => { results := [.lit (.bool false)], args := [d1, d2, d3] }
  | _ => none }
def ZrunBackWrongFalsely : Prop := zrunBackRow.holds Try.pinned (OpenSpec.ofChange zrunBackWrong)

/-- 'kistlaw07.ZrunShort': WHATEVER THE INPUT: true; the input reads as it did. -/
def zrunShortSpec : ChangeSpec := { name := "zrunShort", fn := fun _ => fun
  | [d1, d2, d3] => { results := [.lit (.bool true)], args := [d1, d2, d3] }
  | _ => none }
def zrunShortRow : OpenClaim := { program := "ytgepfjlecmmokaa", sum := "710537e97fb142db5adb3a1bd2d542630cbdcd90286879d09dba9336ce5f7209", func := "kist/kistlaw07.ZrunShort", spec := "zrunShort", apart := false }
def ZrunShortSaid : Prop := zrunShortRow.holds Try.pinned (OpenSpec.ofChange zrunShortSpec)

/-- ITS FALSE NEIGHBOUR: 'it returns false'. Refute it at one input. -/
def zrunShortWrong : ChangeSpec := { name := "zrunShort", fn := fun _ => fun
  | [d1, d2, d3] => { results := [.lit (.bool false)], args := [d1, d2, d3] }
  | _ => none }
def ZrunShortWrongFalsely : Prop := zrunShortRow.holds Try.pinned (OpenSpec.ofChange zrunShortWrong)

/- THE SECOND FORM. 'bulk': how many values and letters a reading holds, each counted each time it is reached (what is shared counts as often as it is met; a slice's spare places count too). A statement '..UptoSaid' is the law's where the arguments, and the package variables that the reading takes, are together of bulk at most 1048576: NARROWER than '..Said'. Prove '..Said' where nothing that the law and all that it calls make is longer than what came in: it says more and counts as full. Else prove '..UptoSaid'. A law counts once. -/
mutual
def uptoBulk {H : Type} : DataW H → Nat
  | .lit (.string bytes) => bytes.length + 1
  | .lit _ => 1
  | .nil => 1
  | .ptr d => uptoBulk d + 1
  | .slice elems spare => uptoBulkAll elems + uptoBulkAll spare + 1
  | .agg parts => uptoBulkAll parts + 1
  | .iface _ d => uptoBulk d + 1
  | .map entries => uptoBulkEntries entries + 1
  | .held _ => 1
def uptoBulkAll {H : Type} : List (DataW H) → Nat
  | [] => 0
  | d :: r => uptoBulk d + uptoBulkAll r
def uptoBulkEntries {H : Type} : List (Lit × DataW H) → Nat
  | [] => 0
  | x :: r => uptoBulkEntry x + uptoBulkEntries r
def uptoBulkEntry {H : Type} : Lit × DataW H → Nat
  | (.string bytes, d) => bytes.length + uptoBulk d + 1
  | (_, d) => uptoBulk d + 1
 end
def uptoSmall : (H : Type) → List (DataW H) → Bool := fun _ ds => decide (uptoBulkAll ds ≤ 1048576)
def OpenSpec.upto (s : _root_.Go.ChangeSpec) : _root_.Go.OpenSpec := { _root_.Go.OpenSpec.ofChange s with cond := some uptoSmall }

/-- 'kistlaw03.RleEncodes', WHERE WHAT IT READS IS OF BULK AT MOST 1048576: true; the input reads as it did. -/
def rleEncodesUptoRow : OpenClaim := { program := "ytgepfjlecmmokaa", sum := "710537e97fb142db5adb3a1bd2d542630cbdcd90286879d09dba9336ce5f7209", func := "kist/kistlaw03.RleEncodes", spec := "rleEncodes", apart := false, narrowed := true }
def RleEncodesUptoSaid : Prop := rleEncodesUptoRow.holds Try.pinned (OpenSpec.upto rleEncodesSpec)

/-- 'kistlaw03.RleDecodes', WHERE WHAT IT READS IS OF BULK AT MOST 1048576: true; the input reads as it did. -/
def rleDecodesUptoRow : OpenClaim := { program := "ytgepfjlecmmokaa", sum := "710537e97fb142db5adb3a1bd2d542630cbdcd90286879d09dba9336ce5f7209", func := "kist/kistlaw03.RleDecodes", spec := "rleDecodes", apart := false, narrowed := true }
def RleDecodesUptoSaid : Prop := rleDecodesUptoRow.holds Try.pinned (OpenSpec.upto rleDecodesSpec)

/-- 'kistlaw03.RleFits', WHERE WHAT IT READS IS OF BULK AT MOST 1048576: true; the input reads as it did. -/
def rleFitsUptoRow : OpenClaim := { program := "ytgepfjlecmmokaa", sum := "710537e97fb142db5adb3a1bd2d542630cbdcd90286879d09dba9336ce5f7209", func := "kist/kistlaw03.RleFits", spec := "rleFits", apart := false, narrowed := true }
def RleFitsUptoSaid : Prop := rleFitsUptoRow.holds Try.pinned (OpenSpec.upto rleFitsSpec)

/-- 'kistlaw03.RleBack', WHERE WHAT IT READS IS OF BULK AT MOST 1048576: true; the input reads as it did. -/
def rleBackUptoRow : OpenClaim := { program := "ytgepfjlecmmokaa", sum := "710537e97fb142db5adb3a1bd2d542630cbdcd90286879d09dba9336ce5f7209", func := "kist/kistlaw03.RleBack", spec := "rleBack", apart := false, narrowed := true }
def RleBackUptoSaid : Prop := rleBackUptoRow.holds Try.pinned (OpenSpec.upto rleBackSpec)

/-- 'kistlaw03.RleLengths', WHERE WHAT IT READS IS OF BULK AT MOST 1048576: true; the input reads as it did. -/
def rleLengthsUptoRow : OpenClaim := { program := "ytgepfjlecmmokaa", sum := "710537e97fb142db5adb3a1bd2d542630cbdcd90286879d09dba9336ce5f7209", func := "kist/kistlaw03.RleLengths", spec := "rleLengths", apart := false, narrowed := true }
def RleLengthsUptoSaid : Prop := rleLengthsUptoRow.holds Try.pinned (OpenSpec.upto rleLengthsSpec)

/-- 'kistlaw03.RleCuts', WHERE WHAT IT READS IS OF BULK AT MOST 1048576: true; the input reads as it did. -/
def rleCutsUptoRow : OpenClaim := { program := "ytgepfjlecmmokaa", sum := "710537e97fb142db5adb3a1bd2d542630cbdcd90286879d09dba9336ce5f7209", func := "kist/kistlaw03.RleCuts", spec := "rleCuts", apart := false, narrowed := true }
def RleCutsUptoSaid : Prop := rleCutsUptoRow.holds Try.pinned (OpenSpec.upto rleCutsSpec)

/-- 'kistlaw07.ZrunRuns', WHERE WHAT IT READS IS OF BULK AT MOST 1048576: true; the input reads as it did. -/
def zrunRunsUptoRow : OpenClaim := { program := "ytgepfjlecmmokaa", sum := "710537e97fb142db5adb3a1bd2d542630cbdcd90286879d09dba9336ce5f7209", func := "kist/kistlaw07.ZrunRuns", spec := "zrunRuns", apart := false, narrowed := true }
def ZrunRunsUptoSaid : Prop := zrunRunsUptoRow.holds Try.pinned (OpenSpec.upto zrunRunsSpec)

/-- 'kistlaw07.ZrunEncodes', WHERE WHAT IT READS IS OF BULK AT MOST 1048576: true; the input reads as it did. -/
def zrunEncodesUptoRow : OpenClaim := { program := "ytgepfjlecmmokaa", sum := "710537e97fb142db5adb3a1bd2d542630cbdcd90286879d09dba9336ce5f7209", func := "kist/kistlaw07.ZrunEncodes", spec := "zrunEncodes", apart := false, narrowed := true }
def ZrunEncodesUptoSaid : Prop := zrunEncodesUptoRow.holds Try.pinned (OpenSpec.upto zrunEncodesSpec)

/-- 'kistlaw07.ZrunDecodes', WHERE WHAT IT READS IS OF BULK AT MOST 1048576: true; the input reads as it did. -/
def zrunDecodesUptoRow : OpenClaim := { program := "ytgepfjlecmmokaa", sum := "710537e97fb142db5adb3a1bd2d542630cbdcd90286879d09dba9336ce5f7209", func := "kist/kistlaw07.ZrunDecodes", spec := "zrunDecodes", apart := false, narrowed := true }
def ZrunDecodesUptoSaid : Prop := zrunDecodesUptoRow.holds Try.pinned (OpenSpec.upto zrunDecodesSpec)

/-- 'kistlaw07.ZrunBack', WHERE WHAT IT READS IS OF BULK AT MOST 1048576: true; the input reads as it did. -/
def zrunBackUptoRow : OpenClaim := { program := "ytgepfjlecmmokaa", sum := "710537e97fb142db5adb3a1bd2d542630cbdcd90286879d09dba9336ce5f7209", func := "kist/kistlaw07.ZrunBack", spec := "zrunBack", apart := false, narrowed := true }
def ZrunBackUptoSaid : Prop := zrunBackUptoRow.holds Try.pinned (OpenSpec.upto zrunBackSpec)

/-- 'kistlaw07.ZrunShort', WHERE WHAT IT READS IS OF BULK AT MOST 1048576: true; the input reads as it did. -/
def zrunShortUptoRow : OpenClaim := { program := "ytgepfjlecmmokaa", sum := "710537e97fb142db5adb3a1bd2d542630cbdcd90286879d09dba9336ce5f7209", func := "kist/kistlaw07.ZrunShort", spec := "zrunShort", apart := false, narrowed := true }
def ZrunShortUptoSaid : Prop := zrunShortUptoRow.holds Try.pinned (OpenSpec.upto zrunShortSpec)

end Rows
end Go.Proofs.Ytgepfjlecmmokaa
