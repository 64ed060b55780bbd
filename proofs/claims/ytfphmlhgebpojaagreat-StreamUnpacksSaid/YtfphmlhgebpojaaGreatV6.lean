/- What the proof leans on, part 6: no conditions. -/
import Derived.Test.YtfphmlhgebpojaaGreatV5
open Nat (reduceEqDiff)
namespace Go.Proofs.YtfphmlhgebpojaaGreat
open Go Go.Eng Go.Ev
set_option maxRecDepth 100000
theorem make_c : KnFact Tryz.prog 16 [.str [99]] (.tup [.agg [.str [49, 65, 89, 38, 83, 89, 16, 17, 160, 5, 0, 0, 0, 1, 0, 8, 0, 32, 0, 33, 24, 70, 128], .int .i64 179], .int .i64 0]) :=
  fact (knownB.add crc_c) (.cons (.str _) .nil) (.tup (.cons (.agg (.cons (.str _) (.cons (.int _ _) .nil))) (.cons (.int _ _) .nil))) (by kernel_rfl)
end Go.Proofs.YtfphmlhgebpojaaGreat
