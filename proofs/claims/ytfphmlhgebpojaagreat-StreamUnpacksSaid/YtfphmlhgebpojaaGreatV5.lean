/- What the proof leans on, part 5: no conditions. -/
import Derived.Test.YtfphmlhgebpojaaGreatV4
open Nat (reduceEqDiff)
namespace Go.Proofs.YtfphmlhgebpojaaGreat
open Go Go.Eng Go.Ev
set_option maxRecDepth 100000
theorem make_ab : KnFact Tryz.prog 16 [.str [97, 98]] (.tup [.agg [.str [49, 65, 89, 38, 83, 89, 233, 147, 253, 205, 0, 0, 0, 1, 0, 48, 0, 32, 0, 33, 0, 130, 176], .int .i64 180], .int .i64 0]) :=
  fact (knownB.add crc_ab) (.cons (.str _) .nil) (.tup (.cons (.agg (.cons (.str _) (.cons (.int _ _) .nil))) (.cons (.int _ _) .nil))) (by kernel_rfl)
end Go.Proofs.YtfphmlhgebpojaaGreat
