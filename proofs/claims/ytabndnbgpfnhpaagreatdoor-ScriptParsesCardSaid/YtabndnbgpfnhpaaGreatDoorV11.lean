/- What the proof leans on, part 11: no conditions. -/
import Derived.Test.YtabndnbgpfnhpaaGreatDoorV10
namespace Go.Proofs.YtabndnbgpfnhpaaGreatDoor
open Go Go.Eng Go.Ev
set_option maxRecDepth 100000
theorem read_hello : KnFact Tryz.prog 54 [.str ext_hello] (.tup [.agg [.str [97], .str [104, 101, 108, 108, 111]], .int .i64 1024, .int .i64 0]) :=
  fact (((known0.add crc_hello).add take_hello).add space_hello) (.cons (.str _) .nil) (.tup (.cons (.agg (.cons (.str _) (.cons (.str _) .nil))) (.cons (.int _ _) (.cons (.int _ _) .nil)))) (by kernel_rfl)
end Go.Proofs.YtabndnbgpfnhpaaGreatDoor
