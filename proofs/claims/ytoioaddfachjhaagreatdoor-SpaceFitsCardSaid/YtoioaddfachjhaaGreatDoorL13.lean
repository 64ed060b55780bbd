/- What the proof leans on, part 13: no conditions. -/
import Derived.Test.YtoioaddfachjhaaGreatDoorL12
namespace Go.Proofs.YtoioaddfachjhaaGreatDoor
open Go Go.Eng Go.Ev
set_option maxRecDepth 100000
theorem awake22_does (w : World) : Does Tryz.prog 8 #[] w fun v w' => Heap w [] w' [] ∧ v = .bool true :=
  fact_true ((known0.add space_hello).add read_ext1) (by kernel_rfl) w
end Go.Proofs.YtoioaddfachjhaaGreatDoor
