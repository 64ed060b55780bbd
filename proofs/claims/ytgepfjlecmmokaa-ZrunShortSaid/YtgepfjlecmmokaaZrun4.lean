/- Runs of noughts: the digits told the reference's way. Plain numbers. No conditions. -/
import Derived.Test.YtgepfjlecmmokaaZrun3
namespace Go.Proofs.Ytgepfjlecmmokaa
open Go Go.Eng

/-- n binary digits of a number, the least first. -/
def bind : Nat → Nat → List Int
  | 0, _ => []
  | n + 1, r => ((r % 2 : Nat) : Int) :: bind n (r / 2)

theorem dig_bind : ∀ (n k : Nat), 2 ^ n ≤ k + 1 → k + 1 < 2 ^ (n + 1) → dig k = bind n (k + 1 - 2 ^ n)
  | 0, k, h1, h2 => by
    have : k = 0 := by simp at h2; omega
    subst this; rfl
  | n + 1, 0, h1, h2 => by
    have : 2 ^ (n + 1) = 2 * 2 ^ n := by rw [Nat.pow_succ]; omega
    have := Nat.one_le_two_pow (n := n)
    omega
  | n + 1, k + 1, h1, h2 => by
    have e1 : 2 ^ (n + 1) = 2 * 2 ^ n := by rw [Nat.pow_succ]; omega
    have e2 : 2 ^ (n + 1 + 1) = 4 * 2 ^ n := by rw [Nat.pow_succ, e1]; omega
    rw [dig_succ, dig_bind n (k / 2) (by omega) (by omega), bind]
    congr 2
    · omega
    · omega
end Go.Proofs.Ytgepfjlecmmokaa
