/- What the proof leans on, part 12: no conditions. -/
import Derived.Test.YtoioaddfachjhaaGreatDoorS11
namespace Go.Proofs.YtoioaddfachjhaaGreatDoor
open Go Go.Eng Go.Ev
set_option maxRecDepth 100000
theorem block_ext1 : KnFact Tryz.prog 68 [.str ext1, .int .i64 4128, .int .i64 100000] (.tup [.str [104, 101, 108, 108, 111], .int .u32 422667581, .int .i64 4325, .int .i64 0]) :=
  fact ((known0.add crc_hello).add head_ext1) (.cons (.str _) (.cons (.int _ _) (.cons (.int _ _) .nil))) (.tup (.cons (.str _) (.cons (.int _ _) (.cons (.int _ _) (.cons (.int _ _) .nil))))) (by kernel_rfl)
end Go.Proofs.YtoioaddfachjhaaGreatDoor
