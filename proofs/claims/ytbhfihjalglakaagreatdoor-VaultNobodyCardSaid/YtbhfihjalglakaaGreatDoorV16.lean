/- What the proof leans on, part 16: no conditions. -/
import Derived.Test.YtbhfihjalglakaaGreatDoorV15
namespace Go.Proofs.YtbhfihjalglakaaGreatDoor
open Go Go.Eng Go.Ev
set_option maxRecDepth 100000
theorem vaultNobody_law (p : List UInt8) (tm : Int) (w : World) : Does Tryz.prog 3 #[Str p, .int .i64 tm] w fun v w' => Heap w [] w' [] ∧ v = .bool true := by
  have K := (k0 (P := Tryz.prog) (by kernel_rfl)).add awake24
  have e : strV (p.map UInt8.toNat) = Str p := by
    unfold strV
    rw [List.map_map]
    congr 1
    exact (List.map_congr_left fun x _ => by simp).trans (List.map_id _)
  have h := run_true (C := cfg Tryz.prog _ _) K.mo (look_s K) (f := 3) (args := [.str (p.map UInt8.toNat), .int .i64 tm]) (by kernel_rfl) (vs := [Str p, .int .i64 tm]) (by
    rw [← e]
    exact .cons (.str _ fun x hx => by obtain ⟨y, _, rfl⟩ := List.mem_map.1 hx; exact y.toNat_lt) (.cons (.int _ _) .nil)) w
  exact h
end Go.Proofs.YtbhfihjalglakaaGreatDoor
