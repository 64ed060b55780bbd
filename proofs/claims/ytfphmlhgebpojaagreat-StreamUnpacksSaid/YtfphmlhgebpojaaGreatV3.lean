/- What the proof leans on, part 3: no conditions. -/
import Derived.Test.YtfphmlhgebpojaaGreatV2
open Nat (reduceEqDiff)
namespace Go.Proofs.YtfphmlhgebpojaaGreat
open Go Go.Eng Go.Ev
set_option maxRecDepth 100000
theorem make_a : KnFact Tryz.prog 16 [.str [97]] (.tup [.agg [.str [49, 65, 89, 38, 83, 89, 25, 147, 155, 107, 0, 0, 0, 1, 0, 32, 0, 32, 0, 33, 24, 70, 128], .int .i64 179], .int .i64 0]) :=
  fact (knownB.add crc_a) (.cons (.str _) .nil) (.tup (.cons (.agg (.cons (.str _) (.cons (.int _ _) .nil))) (.cons (.int _ _) .nil))) (by kernel_rfl)
theorem awake12_does (w : World) : Does Tryz.prog 15 #[] w fun v w' => Heap w [] w' [] ∧ v = .bool true :=
  fact_true (((knownB.add make_a).add take_a).add take_0) (by kernel_rfl) w
end Go.Proofs.YtfphmlhgebpojaaGreat
