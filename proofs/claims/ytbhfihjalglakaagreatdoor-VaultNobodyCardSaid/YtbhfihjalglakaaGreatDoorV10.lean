/- What the proof leans on, part 10: no conditions. -/
import Derived.Test.YtbhfihjalglakaaGreatDoorV9
namespace Go.Proofs.YtbhfihjalglakaaGreatDoor
open Go Go.Eng Go.Ev
set_option maxRecDepth 100000
theorem head_x : KnFact Tryz.prog 123 [.str ext_x, .int .i64 4128] (.tup [.int .u32 2001448980, .int .i64 0, .int .i64 4233, .int .i64 0]) := head_fact (a := 4128) (sum := 2001448980) (row := 0) (tn := 4233) (e := 0) (by kernel_rfl) (by kernel_rfl) (by kernel_rfl)
end Go.Proofs.YtbhfihjalglakaaGreatDoor
