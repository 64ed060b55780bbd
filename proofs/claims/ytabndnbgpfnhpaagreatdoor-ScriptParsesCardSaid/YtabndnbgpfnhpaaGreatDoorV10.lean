/- What the proof leans on, part 10: no conditions. -/
import Derived.Test.YtabndnbgpfnhpaaGreatDoorV9
namespace Go.Proofs.YtabndnbgpfnhpaaGreatDoor
open Go Go.Eng Go.Ev
set_option maxRecDepth 100000
theorem take_hello : KnFact Tryz.prog 172 [.str ext_hello, .int .i64 4128, .int .i64 100000] (.tup [.str [104, 101, 108, 108, 111], .int .u32 422667581, .int .i64 4325, .int .i64 0]) :=
  fact ((known0.add crc_hello).add head_hello) (.cons (.str _) (.cons (.int _ _) (.cons (.int _ _) .nil))) (.tup (.cons (.str _) (.cons (.int _ _) (.cons (.int _ _) (.cons (.int _ _) .nil))))) (by kernel_rfl)
end Go.Proofs.YtabndnbgpfnhpaaGreatDoor
