/-
  No cell of these rows narrows 'for every input' (looked for: loops, veiled, ifaces, maps, wideKeys, modest, calm, conditions, laid).
  DERIVED. THE GIVEN ROWS OF THIS SEAT. 12 by the template 'for every input the law returns true; each argument reads behind the call as it read before'; 0 by the template 'total and deterministic' (their statements: YtfphmlhgebpojaaGreatTotals.lean).
  GIVEN WITH THE SEED: the statements are not yours to turn. If you find one false, say at which input.
  Laid BY PROGRAM, IN A SANDBOX (cutbox-rows.mjs): the forced cells as the released guide's own fill.sh prints them over the translation 1df06f501c7bc2ce… (all of the seat's roots in one cut). By AI agents, Wed Nov 11 2026. No macro, syntax, notation, axiom, sorry.
-/
import Derived.Test.YtfphmlhgebpojaaGreatChecked
import GoSem.Claim
import GoSem.ClaimJoined
import GoSem.ClaimMapViews
import Derived.JoinedTies
import Derived.KernelRfl
namespace Go.Proofs.YtfphmlhgebpojaaGreat
/- THE CELL 'sum', in the pinned program and in every row, IS THE sha256 OF THE DUMP (.gsa) THAT YtfphmlhgebpojaaGreatProg.lean LOADS. Nothing in Lean hashes anything: it is a label: what it is worth is what the hold of that sum in a sandbox is worth. -/
noncomputable def Tryz.pinned : Pinned := { name := "ytfphmlhgebpojaagreat", sum := "1df06f501c7bc2ce2bb3c2c4173cfeaa97b7353eb5c118ac289f333176ae4738", checked := Tryz.checked }
namespace Rows
def none {H : Type} : Left H := { results := [], args := [] }

/-- 'kistlaw12.BlockMakes': WHATEVER THE INPUT: true; the input reads as it did. -/
def blockMakesSpec : ChangeSpec := { name := "blockMakes", fn := fun _ => fun
  | [d] => { results := [.lit (.bool true)], args := [d] }
  | _ => none }
def blockMakesRow : OpenClaim := { program := "ytfphmlhgebpojaagreat", sum := "1df06f501c7bc2ce2bb3c2c4173cfeaa97b7353eb5c118ac289f333176ae4738", func := "kist/kistlaw12.BlockMakes", spec := "blockMakes", unfollowed := true, recurses := true, apart := false }
def BlockMakesSaid : Prop := blockMakesRow.holds Tryz.pinned (OpenSpec.ofChange blockMakesSpec)

/-- ITS FALSE NEIGHBOUR: 'it returns false'. Refute it at one input. -/
def blockMakesWrong : ChangeSpec := { name := "blockMakes", fn := fun _ => fun
  | [d] => { results := [.lit (.bool false)], args := [d] }
  | _ => none }
def BlockMakesWrongFalsely : Prop := blockMakesRow.holds Tryz.pinned (OpenSpec.ofChange blockMakesWrong)

/-- 'kistlaw12.BlockTakes': WHATEVER THE INPUT: true; the input reads as it did. -/
def blockTakesSpec : ChangeSpec := { name := "blockTakes", fn := fun _ => fun
  | [d1, d2, d3] => { results := [.lit (.bool true)], args := [d1, d2, d3] }
  | _ => none }
def blockTakesRow : OpenClaim := { program := "ytfphmlhgebpojaagreat", sum := "1df06f501c7bc2ce2bb3c2c4173cfeaa97b7353eb5c118ac289f333176ae4738", func := "kist/kistlaw12.BlockTakes", spec := "blockTakes", unfollowed := true, recurses := true, apart := false }
def BlockTakesSaid : Prop := blockTakesRow.holds Tryz.pinned (OpenSpec.ofChange blockTakesSpec)

/-- ITS FALSE NEIGHBOUR: 'it returns false'. Refute it at one input. -/
def blockTakesWrong : ChangeSpec := { name := "blockTakes", fn := fun _ => fun
  | [d1, d2, d3] => { results := [.lit (.bool false)], args := [d1, d2, d3] }
  | _ => none }
def BlockTakesWrongFalsely : Prop := blockTakesRow.holds Tryz.pinned (OpenSpec.ofChange blockTakesWrong)

/-- 'kistlaw12.BlockBack': WHATEVER THE INPUT: true; the input reads as it did. -/
def blockBackSpec : ChangeSpec := { name := "blockBack", fn := fun _ => fun
  | [d1, d2, d3] => { results := [.lit (.bool true)], args := [d1, d2, d3] }
  | _ => none }
def blockBackRow : OpenClaim := { program := "ytfphmlhgebpojaagreat", sum := "1df06f501c7bc2ce2bb3c2c4173cfeaa97b7353eb5c118ac289f333176ae4738", func := "kist/kistlaw12.BlockBack", spec := "blockBack", unfollowed := true, recurses := true, apart := false }
def BlockBackSaid : Prop := blockBackRow.holds Tryz.pinned (OpenSpec.ofChange blockBackSpec)

/-- ITS FALSE NEIGHBOUR: 'it returns false'. Refute it at one input. -/
def blockBackWrong : ChangeSpec := { name := "blockBack", fn := fun _ => fun
  | [d1, d2, d3] => { results := [.lit (.bool false)], args := [d1, d2, d3] }
  | _ => none }
def BlockBackWrongFalsely : Prop := blockBackRow.holds Tryz.pinned (OpenSpec.ofChange blockBackWrong)

/-- 'kistlaw12.BlockSums': WHATEVER THE INPUT: true; the input reads as it did. -/
def blockSumsSpec : ChangeSpec := { name := "blockSums", fn := fun _ => fun
  | [d1, d2] => { results := [.lit (.bool true)], args := [d1, d2] }
  | _ => none }
def blockSumsRow : OpenClaim := { program := "ytfphmlhgebpojaagreat", sum := "1df06f501c7bc2ce2bb3c2c4173cfeaa97b7353eb5c118ac289f333176ae4738", func := "kist/kistlaw12.BlockSums", spec := "blockSums", unfollowed := true, recurses := true, apart := false }
def BlockSumsSaid : Prop := blockSumsRow.holds Tryz.pinned (OpenSpec.ofChange blockSumsSpec)

/-- ITS FALSE NEIGHBOUR: 'it returns false'. Refute it at one input. -/
def blockSumsWrong : ChangeSpec := { name := "blockSums", fn := fun _ => fun
  | [d1, d2] => { results := [.lit (.bool false)], args := [d1, d2] }
  | _ => none }
def BlockSumsWrongFalsely : Prop := blockSumsRow.holds Tryz.pinned (OpenSpec.ofChange blockSumsWrong)

/-- 'kistlaw12.BlockSmall': WHATEVER THE INPUT: true; the input reads as it did. -/
def blockSmallSpec : ChangeSpec := { name := "blockSmall", fn := fun _ => fun
  | [d] => { results := [.lit (.bool true)], args := [d] }
  | _ => none }
def blockSmallRow : OpenClaim := { program := "ytfphmlhgebpojaagreat", sum := "1df06f501c7bc2ce2bb3c2c4173cfeaa97b7353eb5c118ac289f333176ae4738", func := "kist/kistlaw12.BlockSmall", spec := "blockSmall", unfollowed := true, recurses := true, apart := false }
def BlockSmallSaid : Prop := blockSmallRow.holds Tryz.pinned (OpenSpec.ofChange blockSmallSpec)

/-- ITS FALSE NEIGHBOUR: 'it returns false'. Refute it at one input. -/
def blockSmallWrong : ChangeSpec := { name := "blockSmall", fn := fun _ => fun
  | [d] => { results := [.lit (.bool false)], args := [d] }
  | _ => none }
def BlockSmallWrongFalsely : Prop := blockSmallRow.holds Tryz.pinned (OpenSpec.ofChange blockSmallWrong)

/-- 'kistlaw13.StreamPacks': WHATEVER THE INPUT: true; the input reads as it did. -/
def streamPacksSpec : ChangeSpec := { name := "streamPacks", fn := fun _ => fun
  | [d1, d2, d3] => { results := [.lit (.bool true)], args := [d1, d2, d3] }
  | _ => none }
def streamPacksRow : OpenClaim := { program := "ytfphmlhgebpojaagreat", sum := "1df06f501c7bc2ce2bb3c2c4173cfeaa97b7353eb5c118ac289f333176ae4738", func := "kist/kistlaw13.StreamPacks", spec := "streamPacks", unfollowed := true, recurses := true, apart := false }
def StreamPacksSaid : Prop := streamPacksRow.holds Tryz.pinned (OpenSpec.ofChange streamPacksSpec)

/-- ITS FALSE NEIGHBOUR: 'it returns false'. Refute it at one input. -/
def streamPacksWrong : ChangeSpec := { name := "streamPacks", fn := fun _ => fun
  | [d1, d2, d3] => { results := [.lit (.bool false)], args := [d1, d2, d3] }
  | _ => none }
def StreamPacksWrongFalsely : Prop := streamPacksRow.holds Tryz.pinned (OpenSpec.ofChange streamPacksWrong)

/-- 'kistlaw13.StreamTakes': WHATEVER THE INPUT: true; the input reads as it did. -/
def streamTakesSpec : ChangeSpec := { name := "streamTakes", fn := fun _ => fun
  | [d1, d2] => { results := [.lit (.bool true)], args := [d1, d2] }
  | _ => none }
def streamTakesRow : OpenClaim := { program := "ytfphmlhgebpojaagreat", sum := "1df06f501c7bc2ce2bb3c2c4173cfeaa97b7353eb5c118ac289f333176ae4738", func := "kist/kistlaw13.StreamTakes", spec := "streamTakes", unfollowed := true, recurses := true, apart := false }
def StreamTakesSaid : Prop := streamTakesRow.holds Tryz.pinned (OpenSpec.ofChange streamTakesSpec)

/-- ITS FALSE NEIGHBOUR: 'it returns false'. Refute it at one input. -/
def streamTakesWrong : ChangeSpec := { name := "streamTakes", fn := fun _ => fun
  | [d1, d2] => { results := [.lit (.bool false)], args := [d1, d2] }
  | _ => none }
def StreamTakesWrongFalsely : Prop := streamTakesRow.holds Tryz.pinned (OpenSpec.ofChange streamTakesWrong)

/-- 'kistlaw13.StreamUnpacks': WHATEVER THE INPUT: true; the input reads as it did. -/
def streamUnpacksSpec : ChangeSpec := { name := "streamUnpacks", fn := fun _ => fun
  | [d] => { results := [.lit (.bool true)], args := [d] }
  | _ => none }
def streamUnpacksRow : OpenClaim := { program := "ytfphmlhgebpojaagreat", sum := "1df06f501c7bc2ce2bb3c2c4173cfeaa97b7353eb5c118ac289f333176ae4738", func := "kist/kistlaw13.StreamUnpacks", spec := "streamUnpacks", unfollowed := true, recurses := true, apart := false }
def StreamUnpacksSaid : Prop := streamUnpacksRow.holds Tryz.pinned (OpenSpec.ofChange streamUnpacksSpec)

/-- ITS FALSE NEIGHBOUR: 'it returns false'. Refute it at one input. -/
def streamUnpacksWrong : ChangeSpec := { name := "streamUnpacks", fn := fun _ => fun
  | [d] => { results := [.lit (.bool false)], args := [d] }
  | _ => none }
def StreamUnpacksWrongFalsely : Prop := streamUnpacksRow.holds Tryz.pinned (OpenSpec.ofChange streamUnpacksWrong)

/-- 'kistlaw13.StreamBack': WHATEVER THE INPUT: true; the input reads as it did. -/
def streamBackSpec : ChangeSpec := { name := "streamBack", fn := fun _ => fun
  | [d1, d2, d3] => { results := [.lit (.bool true)], args := [d1, d2, d3] }
  | _ => none }
def streamBackRow : OpenClaim := { program := "ytfphmlhgebpojaagreat", sum := "1df06f501c7bc2ce2bb3c2c4173cfeaa97b7353eb5c118ac289f333176ae4738", func := "kist/kistlaw13.StreamBack", spec := "streamBack", unfollowed := true, recurses := true, apart := false }
def StreamBackSaid : Prop := streamBackRow.holds Tryz.pinned (OpenSpec.ofChange streamBackSpec)

/-- ITS FALSE NEIGHBOUR: 'it returns false'. Refute it at one input. -/
def streamBackWrong : ChangeSpec := { name := "streamBack", fn := fun _ => fun
  | [d1, d2, d3] => { results := [.lit (.bool false)], args := [d1, d2, d3] }
  | _ => none }
def StreamBackWrongFalsely : Prop := streamBackRow.holds Tryz.pinned (OpenSpec.ofChange streamBackWrong)

/-- 'kistlaw13.StreamJoins': WHATEVER THE INPUT: true; the input reads as it did. -/
def streamJoinsSpec : ChangeSpec := { name := "streamJoins", fn := fun _ => fun
  | [d1, d2] => { results := [.lit (.bool true)], args := [d1, d2] }
  | _ => none }
def streamJoinsRow : OpenClaim := { program := "ytfphmlhgebpojaagreat", sum := "1df06f501c7bc2ce2bb3c2c4173cfeaa97b7353eb5c118ac289f333176ae4738", func := "kist/kistlaw13.StreamJoins", spec := "streamJoins", unfollowed := true, recurses := true, apart := false }
def StreamJoinsSaid : Prop := streamJoinsRow.holds Tryz.pinned (OpenSpec.ofChange streamJoinsSpec)

/-- ITS FALSE NEIGHBOUR: 'it returns false'. Refute it at one input. -/
def streamJoinsWrong : ChangeSpec := { name := "streamJoins", fn := fun _ => fun
  | [d1, d2] => { results := [.lit (.bool false)], args := [d1, d2] }
  | _ => none }
def StreamJoinsWrongFalsely : Prop := streamJoinsRow.holds Tryz.pinned (OpenSpec.ofChange streamJoinsWrong)

/-- 'kistlaw13.StreamCuts': WHATEVER THE INPUT: true; the input reads as it did. -/
def streamCutsSpec : ChangeSpec := { name := "streamCuts", fn := fun _ => fun
  | [d1, d2, d3] => { results := [.lit (.bool true)], args := [d1, d2, d3] }
  | _ => none }
def streamCutsRow : OpenClaim := { program := "ytfphmlhgebpojaagreat", sum := "1df06f501c7bc2ce2bb3c2c4173cfeaa97b7353eb5c118ac289f333176ae4738", func := "kist/kistlaw13.StreamCuts", spec := "streamCuts", unfollowed := true, recurses := true, apart := false }
def StreamCutsSaid : Prop := streamCutsRow.holds Tryz.pinned (OpenSpec.ofChange streamCutsSpec)

/-- ITS FALSE NEIGHBOUR: 'it returns false'. Refute it at one input. -/
def streamCutsWrong : ChangeSpec := { name := "streamCuts", fn := fun _ => fun
  | [d1, d2, d3] => { results := [.lit (.bool false)], args := [d1, d2, d3] }
  | _ => none }
def StreamCutsWrongFalsely : Prop := streamCutsRow.holds Tryz.pinned (OpenSpec.ofChange streamCutsWrong)

/-- 'kistlaw13.StreamSmall': WHATEVER THE INPUT: true; the input reads as it did. -/
def streamSmallSpec : ChangeSpec := { name := "streamSmall", fn := fun _ => fun
  | [d] => { results := [.lit (.bool true)], args := [d] }
  | _ => none }
def streamSmallRow : OpenClaim := { program := "ytfphmlhgebpojaagreat", sum := "1df06f501c7bc2ce2bb3c2c4173cfeaa97b7353eb5c118ac289f333176ae4738", func := "kist/kistlaw13.StreamSmall", spec := "streamSmall", unfollowed := true, recurses := true, apart := false }
def StreamSmallSaid : Prop := streamSmallRow.holds Tryz.pinned (OpenSpec.ofChange streamSmallSpec)

/-- ITS FALSE NEIGHBOUR: 'it returns false'. Refute it at one input. -/
def streamSmallWrong : ChangeSpec := { name := "streamSmall", fn := fun _ => fun
  | [d] => { results := [.lit (.bool false)], args := [d] }
  | _ => none }
def StreamSmallWrongFalsely : Prop := streamSmallRow.holds Tryz.pinned (OpenSpec.ofChange streamSmallWrong)

/- THE SECOND FORM. 'bulk': how many values and letters a reading holds, each counted each time it is reached (what is shared counts as often as it is met; a slice's spare places count too). A statement '..UptoSaid' is the law's where the arguments, and the package variables that the reading takes, are together of bulk at most 1048576: NARROWER than '..Said'. Prove '..Said' where nothing that the law and all that it calls make is longer than what came in: it says more and counts as full. Else prove '..UptoSaid'. A law counts once. -/
mutual
def uptoBulk {H : Type} : DataW H → Nat
  | .lit (.string bytes) => bytes.length + 1
  | .lit _ => 1
  | .nil => 1
  | .ptr d => uptoBulk d + 1
  | .slice elems spare => uptoBulkAll elems + uptoBulkAll spare + 1
  | .agg parts => uptoBulkAll parts + 1
  | .iface _ d => uptoBulk d + 1
  | .map entries => uptoBulkEntries entries + 1
  | .held _ => 1
def uptoBulkAll {H : Type} : List (DataW H) → Nat
  | [] => 0
  | d :: r => uptoBulk d + uptoBulkAll r
def uptoBulkEntries {H : Type} : List (Lit × DataW H) → Nat
  | [] => 0
  | x :: r => uptoBulkEntry x + uptoBulkEntries r
def uptoBulkEntry {H : Type} : Lit × DataW H → Nat
  | (.string bytes, d) => bytes.length + uptoBulk d + 1
  | (_, d) => uptoBulk d + 1
 end
def uptoSmall : (H : Type) → List (DataW H) → Bool := fun _ ds => decide (uptoBulkAll ds ≤ 1048576)
def OpenSpec.upto (s : _root_.Go.ChangeSpec) : _root_.Go.OpenSpec := { _root_.Go.OpenSpec.ofChange s with cond := some uptoSmall }

/-- 'kistlaw12.BlockMakes', WHERE WHAT IT READS IS OF BULK AT MOST 1048576: true; the input reads as it did. -/
def blockMakesUptoRow : OpenClaim := { program := "ytfphmlhgebpojaagreat", sum := "1df06f501c7bc2ce2bb3c2c4173cfeaa97b7353eb5c118ac289f333176ae4738", func := "kist/kistlaw12.BlockMakes", spec := "blockMakes", unfollowed := true, recurses := true, apart := false, narrowed := true }
def BlockMakesUptoSaid : Prop := blockMakesUptoRow.holds Tryz.pinned (OpenSpec.upto blockMakesSpec)

/-- 'kistlaw12.BlockTakes', WHERE WHAT IT READS IS OF BULK AT MOST 1048576: true; the input reads as it did. -/
def blockTakesUptoRow : OpenClaim := { program := "ytfphmlhgebpojaagreat", sum := "1df06f501c7bc2ce2bb3c2c4173cfeaa97b7353eb5c118ac289f333176ae4738", func := "kist/kistlaw12.BlockTakes", spec := "blockTakes", unfollowed := true, recurses := true, apart := false, narrowed := true }
def BlockTakesUptoSaid : Prop := blockTakesUptoRow.holds Tryz.pinned (OpenSpec.upto blockTakesSpec)

/-- 'kistlaw12.BlockBack', WHERE WHAT IT READS IS OF BULK AT MOST 1048576: true; the input reads as it did. -/
def blockBackUptoRow : OpenClaim := { program := "ytfphmlhgebpojaagreat", sum := "1df06f501c7bc2ce2bb3c2c4173cfeaa97b7353eb5c118ac289f333176ae4738", func := "kist/kistlaw12.BlockBack", spec := "blockBack", unfollowed := true, recurses := true, apart := false, narrowed := true }
def BlockBackUptoSaid : Prop := blockBackUptoRow.holds Tryz.pinned (OpenSpec.upto blockBackSpec)

/-- 'kistlaw12.BlockSums', WHERE WHAT IT READS IS OF BULK AT MOST 1048576: true; the input reads as it did. -/
def blockSumsUptoRow : OpenClaim := { program := "ytfphmlhgebpojaagreat", sum := "1df06f501c7bc2ce2bb3c2c4173cfeaa97b7353eb5c118ac289f333176ae4738", func := "kist/kistlaw12.BlockSums", spec := "blockSums", unfollowed := true, recurses := true, apart := false, narrowed := true }
def BlockSumsUptoSaid : Prop := blockSumsUptoRow.holds Tryz.pinned (OpenSpec.upto blockSumsSpec)

/-- 'kistlaw12.BlockSmall', WHERE WHAT IT READS IS OF BULK AT MOST 1048576: true; the input reads as it did. -/
def blockSmallUptoRow : OpenClaim := { program := "ytfphmlhgebpojaagreat", sum := "1df06f501c7bc2ce2bb3c2c4173cfeaa97b7353eb5c118ac289f333176ae4738", func := "kist/kistlaw12.BlockSmall", spec := "blockSmall", unfollowed := true, recurses := true, apart := false, narrowed := true }
def BlockSmallUptoSaid : Prop := blockSmallUptoRow.holds Tryz.pinned (OpenSpec.upto blockSmallSpec)

/-- 'kistlaw13.StreamPacks', WHERE WHAT IT READS IS OF BULK AT MOST 1048576: true; the input reads as it did. -/
def streamPacksUptoRow : OpenClaim := { program := "ytfphmlhgebpojaagreat", sum := "1df06f501c7bc2ce2bb3c2c4173cfeaa97b7353eb5c118ac289f333176ae4738", func := "kist/kistlaw13.StreamPacks", spec := "streamPacks", unfollowed := true, recurses := true, apart := false, narrowed := true }
def StreamPacksUptoSaid : Prop := streamPacksUptoRow.holds Tryz.pinned (OpenSpec.upto streamPacksSpec)

/-- 'kistlaw13.StreamTakes', WHERE WHAT IT READS IS OF BULK AT MOST 1048576: true; the input reads as it did. -/
def streamTakesUptoRow : OpenClaim := { program := "ytfphmlhgebpojaagreat", sum := "1df06f501c7bc2ce2bb3c2c4173cfeaa97b7353eb5c118ac289f333176ae4738", func := "kist/kistlaw13.StreamTakes", spec := "streamTakes", unfollowed := true, recurses := true, apart := false, narrowed := true }
def StreamTakesUptoSaid : Prop := streamTakesUptoRow.holds Tryz.pinned (OpenSpec.upto streamTakesSpec)

/-- 'kistlaw13.StreamUnpacks', WHERE WHAT IT READS IS OF BULK AT MOST 1048576: true; the input reads as it did. -/
def streamUnpacksUptoRow : OpenClaim := { program := "ytfphmlhgebpojaagreat", sum := "1df06f501c7bc2ce2bb3c2c4173cfeaa97b7353eb5c118ac289f333176ae4738", func := "kist/kistlaw13.StreamUnpacks", spec := "streamUnpacks", unfollowed := true, recurses := true, apart := false, narrowed := true }
def StreamUnpacksUptoSaid : Prop := streamUnpacksUptoRow.holds Tryz.pinned (OpenSpec.upto streamUnpacksSpec)

/-- 'kistlaw13.StreamBack', WHERE WHAT IT READS IS OF BULK AT MOST 1048576: true; the input reads as it did. -/
def streamBackUptoRow : OpenClaim := { program := "ytfphmlhgebpojaagreat", sum := "1df06f501c7bc2ce2bb3c2c4173cfeaa97b7353eb5c118ac289f333176ae4738", func := "kist/kistlaw13.StreamBack", spec := "streamBack", unfollowed := true, recurses := true, apart := false, narrowed := true }
def StreamBackUptoSaid : Prop := streamBackUptoRow.holds Tryz.pinned (OpenSpec.upto streamBackSpec)

/-- 'kistlaw13.StreamJoins', WHERE WHAT IT READS IS OF BULK AT MOST 1048576: true; the input reads as it did. -/
def streamJoinsUptoRow : OpenClaim := { program := "ytfphmlhgebpojaagreat", sum := "1df06f501c7bc2ce2bb3c2c4173cfeaa97b7353eb5c118ac289f333176ae4738", func := "kist/kistlaw13.StreamJoins", spec := "streamJoins", unfollowed := true, recurses := true, apart := false, narrowed := true }
def StreamJoinsUptoSaid : Prop := streamJoinsUptoRow.holds Tryz.pinned (OpenSpec.upto streamJoinsSpec)

/-- 'kistlaw13.StreamCuts', WHERE WHAT IT READS IS OF BULK AT MOST 1048576: true; the input reads as it did. -/
def streamCutsUptoRow : OpenClaim := { program := "ytfphmlhgebpojaagreat", sum := "1df06f501c7bc2ce2bb3c2c4173cfeaa97b7353eb5c118ac289f333176ae4738", func := "kist/kistlaw13.StreamCuts", spec := "streamCuts", unfollowed := true, recurses := true, apart := false, narrowed := true }
def StreamCutsUptoSaid : Prop := streamCutsUptoRow.holds Tryz.pinned (OpenSpec.upto streamCutsSpec)

/-- 'kistlaw13.StreamSmall', WHERE WHAT IT READS IS OF BULK AT MOST 1048576: true; the input reads as it did. -/
def streamSmallUptoRow : OpenClaim := { program := "ytfphmlhgebpojaagreat", sum := "1df06f501c7bc2ce2bb3c2c4173cfeaa97b7353eb5c118ac289f333176ae4738", func := "kist/kistlaw13.StreamSmall", spec := "streamSmall", unfollowed := true, recurses := true, apart := false, narrowed := true }
def StreamSmallUptoSaid : Prop := streamSmallUptoRow.holds Tryz.pinned (OpenSpec.upto streamSmallSpec)

end Rows
end Go.Proofs.YtfphmlhgebpojaaGreat
