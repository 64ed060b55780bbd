/- What the proof leans on, part 12: no conditions. -/
import Derived.Test.YtabndnbgpfnhpaaGreatDoorV11
namespace Go.Proofs.YtabndnbgpfnhpaaGreatDoor
open Go Go.Eng Go.Ev
set_option maxRecDepth 100000
theorem awake29_does (w : World) : Does Tryz.prog 4 #[] w fun v w' => Heap w [] w' [] ∧ v = .bool true :=
  fact_true ((known0.add space_hello).add read_hello) (by kernel_rfl) w
end Go.Proofs.YtabndnbgpfnhpaaGreatDoor
