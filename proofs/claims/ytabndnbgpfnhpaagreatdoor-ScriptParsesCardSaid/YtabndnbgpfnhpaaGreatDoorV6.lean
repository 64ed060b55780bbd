/- What the proof leans on, part 6: no conditions. -/
import Derived.Test.YtabndnbgpfnhpaaGreatDoorV5
namespace Go.Proofs.YtabndnbgpfnhpaaGreatDoor
open Go Go.Eng Go.Ev
set_option maxRecDepth 100000
theorem block_hello : KnFact Tryz.prog 186 [.str [104, 101, 108, 108, 111]] (.tup [.agg [.str [49, 65, 89, 38, 83, 89, 25, 49, 101, 61, 0, 0, 0, 129, 0, 2, 68, 160, 0, 33, 134, 12, 51, 28, 136], .int .i64 197], .int .i64 0]) :=
  fact (known0.add crc_hello) (.cons (.str _) .nil) (.tup (.cons (.agg (.cons (.str _) (.cons (.int _ _) .nil))) (.cons (.int _ _) .nil))) (by kernel_rfl)
end Go.Proofs.YtabndnbgpfnhpaaGreatDoor
