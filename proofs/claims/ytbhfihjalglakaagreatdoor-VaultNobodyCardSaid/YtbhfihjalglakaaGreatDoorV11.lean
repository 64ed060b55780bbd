/- What the proof leans on, part 11: no conditions. -/
import Derived.Test.YtbhfihjalglakaaGreatDoorV10
namespace Go.Proofs.YtbhfihjalglakaaGreatDoor
open Go Go.Eng Go.Ev
set_option maxRecDepth 100000
theorem take_x : KnFact Tryz.prog 84 [.str ext_x, .int .i64 4128, .int .i64 100000] (.tup [.str [120], .int .u32 2001448980, .int .i64 4307, .int .i64 0]) :=
  fact ((known0.add crc_x).add head_x) (.cons (.str _) (.cons (.int _ _) (.cons (.int _ _) .nil))) (.tup (.cons (.str _) (.cons (.int _ _) (.cons (.int _ _) (.cons (.int _ _) .nil))))) (by kernel_rfl)
end Go.Proofs.YtbhfihjalglakaaGreatDoor
