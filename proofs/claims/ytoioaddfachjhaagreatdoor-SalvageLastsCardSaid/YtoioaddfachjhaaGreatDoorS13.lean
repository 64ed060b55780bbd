/- What the proof leans on, part 13: no conditions. -/
import Derived.Test.YtoioaddfachjhaaGreatDoorS12
namespace Go.Proofs.YtoioaddfachjhaaGreatDoor
open Go Go.Eng Go.Ev
set_option maxRecDepth 100000
theorem read_ext1 : KnFact Tryz.prog 24 [.str ext1] (.tup [.agg [.str [97], .str [104, 101, 108, 108, 111]], .int .i64 1024, .int .i64 0]) :=
  fact (((known0.add crc_hello).add block_ext1).add space_hello) (.cons (.str _) .nil) (.tup (.cons (.agg (.cons (.str _) (.cons (.str _) .nil))) (.cons (.int _ _) (.cons (.int _ _) .nil)))) (by kernel_rfl)
end Go.Proofs.YtoioaddfachjhaaGreatDoor
