/- What the proof leans on, part 7: no conditions. -/
import Derived.Test.YtoioaddfachjhaaGreatDoorS6
namespace Go.Proofs.YtoioaddfachjhaaGreatDoor
open Go Go.Eng Go.Ev
set_option maxRecDepth 100000
theorem known0 : Known Tryz.prog [(62, repeatK)] [(59, 2, joinK)] := ((k0 (by kernel_rfl)).fn repeat_fn).row (join_row fun w vs => enters_s Tryz.func59 rfl (by kernel_rfl) w vs)
theorem crc_hello : KnFact Tryz.prog 55 [.str [104, 101, 108, 108, 111]] (.int .u32 422667581) := fact known0 (.cons (.str _) .nil) (.int _ _) (by kernel_rfl)
end Go.Proofs.YtoioaddfachjhaaGreatDoor
