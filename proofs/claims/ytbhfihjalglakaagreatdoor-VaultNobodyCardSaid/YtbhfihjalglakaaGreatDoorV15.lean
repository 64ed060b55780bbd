/- What the proof leans on, part 15: no conditions. -/
import Derived.Test.YtbhfihjalglakaaGreatDoorV14
namespace Go.Proofs.YtbhfihjalglakaaGreatDoor
open Go Go.Eng Go.Ev
set_option maxRecDepth 100000
theorem awake24 : KnFact Tryz.prog 16 [] (.bool true) :=
  fact (((known0.add space_hello).add space_x).add read_x) .nil (.bool _) (by kernel_rfl)
end Go.Proofs.YtbhfihjalglakaaGreatDoor
