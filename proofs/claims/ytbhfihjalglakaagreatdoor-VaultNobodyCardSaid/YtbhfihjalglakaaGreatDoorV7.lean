/- What the proof leans on, part 7: no conditions. -/
import Derived.Test.YtbhfihjalglakaaGreatDoorV6
namespace Go.Proofs.YtbhfihjalglakaaGreatDoor
open Go Go.Eng Go.Ev
set_option maxRecDepth 100000
theorem block_x : KnFact Tryz.prog 98 [.str [120]] (.tup [.agg [.str [49, 65, 89, 38, 83, 89, 119, 75, 176, 20, 0, 0, 0, 0, 128, 0, 64, 32, 0, 33, 24, 70, 128], .int .i64 179], .int .i64 0]) :=
  fact (known0.add crc_x) (.cons (.str _) .nil) (.tup (.cons (.agg (.cons (.str _) (.cons (.int _ _) .nil))) (.cons (.int _ _) .nil))) (by kernel_rfl)
end Go.Proofs.YtbhfihjalglakaaGreatDoor
