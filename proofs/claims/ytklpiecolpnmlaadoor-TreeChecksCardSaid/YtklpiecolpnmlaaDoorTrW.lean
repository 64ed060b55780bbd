/- Trees: the call without unknowns that ends each law: the evaluator's word. -/
import Derived.Test.YtklpiecolpnmlaaDoorEvD
namespace Go.Proofs.YtklpiecolpnmlaaDoor
open Go Go.Eng Go.Ev
set_option maxRecDepth 100000

theorem awake28_does (w : World) : Does Tryd.prog 7 #[] w fun v w' => Heap w [] w' [] ∧ v = .bool true :=
  run_true (C := ⟨Tryd.prog, fun _ _ => none, fun _ => none⟩) (by kernel_rfl) (noKn _) (args := []) (by kernel_rfl) .nil w
end Go.Proofs.YtklpiecolpnmlaaDoor
