/- What the proof leans on, part 9: no conditions. -/
import Derived.Test.YtabndnbgpfnhpaaGreatDoorV8
namespace Go.Proofs.YtabndnbgpfnhpaaGreatDoor
open Go Go.Eng Go.Ev
set_option maxRecDepth 100000
theorem head_hello : KnFact Tryz.prog 229 [.str ext_hello, .int .i64 4128] (.tup [.int .u32 422667581, .int .i64 1, .int .i64 4233, .int .i64 0]) := head_fact (a := 4128) (sum := 422667581) (row := 1) (tn := 4233) (e := 0) (by kernel_rfl) (by kernel_rfl) (by kernel_rfl)
end Go.Proofs.YtabndnbgpfnhpaaGreatDoor
