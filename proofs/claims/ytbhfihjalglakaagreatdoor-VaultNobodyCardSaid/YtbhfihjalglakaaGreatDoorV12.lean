/- What the proof leans on, part 12: no conditions. -/
import Derived.Test.YtbhfihjalglakaaGreatDoorV11
namespace Go.Proofs.YtbhfihjalglakaaGreatDoor
open Go Go.Eng Go.Ev
set_option maxRecDepth 100000
theorem read_x : KnFact Tryz.prog 20 [.str ext_x] (.tup [.agg [.str [97], .str [120]], .int .i64 1024, .int .i64 0]) :=
  fact (((known0.add crc_x).add take_x).add space_x) (.cons (.str _) .nil) (.tup (.cons (.agg (.cons (.str _) (.cons (.str _) .nil))) (.cons (.int _ _) (.cons (.int _ _) .nil)))) (by kernel_rfl)
end Go.Proofs.YtbhfihjalglakaaGreatDoor
