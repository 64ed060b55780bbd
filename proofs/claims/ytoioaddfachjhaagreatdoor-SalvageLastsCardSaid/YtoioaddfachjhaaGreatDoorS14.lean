/- What the proof leans on, part 14: no conditions. -/
import Derived.Test.YtoioaddfachjhaaGreatDoorS13
namespace Go.Proofs.YtoioaddfachjhaaGreatDoor
open Go Go.Eng Go.Ev
set_option maxRecDepth 100000
theorem awake26_does (w : World) : Does Tryz.prog 18 #[] w fun v w' => Heap w [] w' [] ∧ v = .bool true :=
  fact_true ((known0.add space_hello).add read_ext1) (by kernel_rfl) w
end Go.Proofs.YtoioaddfachjhaaGreatDoor
