/- What the proof leans on, part 6: no conditions. -/
import Derived.Test.YtbhfihjalglakaaGreatDoorV5
namespace Go.Proofs.YtbhfihjalglakaaGreatDoor
open Go Go.Eng Go.Ev
set_option maxRecDepth 100000
theorem known0 : Known Tryz.prog [(22, ieeeK), (105, repeatK)] [(102, 2, joinK)] := (((k0 (by kernel_rfl)).fn repeat_fn).fn ieee_fn).row (join_row fun w vs => enters_s Tryz.func102 rfl (by kernel_rfl) w vs)
theorem crc_hello : KnFact Tryz.prog 99 [.str [104, 101, 108, 108, 111]] (.int .u32 422667581) := fact known0 (.cons (.str _) .nil) (.int _ _) (by kernel_rfl)
theorem crc_x : KnFact Tryz.prog 99 [.str [120]] (.int .u32 2001448980) := fact known0 (.cons (.str _) .nil) (.int _ _) (by kernel_rfl)
end Go.Proofs.YtbhfihjalglakaaGreatDoor
