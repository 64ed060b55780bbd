/- What the proof leans on, part 5: no conditions. -/
import Derived.Test.YtabndnbgpfnhpaaGreatDoorV4
namespace Go.Proofs.YtabndnbgpfnhpaaGreatDoor
open Go Go.Eng Go.Ev
set_option maxRecDepth 100000
theorem known0 : Known Tryz.prog [(35, ieeeK), (83, repeatK)] [(190, 2, joinK)] := (((k0 (by kernel_rfl)).fn repeat_fn).fn ieee_fn).row (join_row fun w vs => enters_s Tryz.func190 rfl (by kernel_rfl) w vs)
theorem crc_hello : KnFact Tryz.prog 187 [.str [104, 101, 108, 108, 111]] (.int .u32 422667581) := fact known0 (.cons (.str _) .nil) (.int _ _) (by kernel_rfl)
end Go.Proofs.YtabndnbgpfnhpaaGreatDoor
