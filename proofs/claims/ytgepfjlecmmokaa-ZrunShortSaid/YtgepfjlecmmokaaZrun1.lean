/- Runs of noughts: the digits of a number, the program's and the reference's; two slices of integers compared. -/
import Derived.Test.YtgepfjlecmmokaaFacts
import Derived.Test.YtgepfjlecmmokaaEngE
namespace Go.Proofs.Ytgepfjlecmmokaa
open Go Go.Eng
set_option maxRecDepth 100000
set_option linter.unusedSimpArgs false
set_option linter.unusedVariables false

/-- The digits of a count, the least first. -/
def digs : Nat → Nat → List Int
  | 0, _ => []
  | _ + 1, 0 => []
  | f + 1, k + 1 => ((k % 2 : Nat) : Int) :: digs f (k / 2)

theorem digs_more : ∀ (f g k : Nat), k ≤ f → k ≤ g → digs f k = digs g k
  | 0, g, k, h, _ => by
    have : k = 0 := by omega
    subst this
    cases g <;> rfl
  | f + 1, 0, k, _, h => by
    have : k = 0 := by omega
    subst this
    rfl
  | f + 1, g + 1, 0, _, _ => rfl
  | f + 1, g + 1, k + 1, h, h' => by
    simp only [digs]
    rw [digs_more f g (k / 2) (by omega) (by omega)]

def dig (k : Nat) : List Int := digs k k

theorem dig_zero : dig 0 = [] := rfl
theorem dig_succ (k : Nat) : dig (k + 1) = ((k % 2 : Nat) : Int) :: dig (k / 2) := by
  rw [dig, digs, dig, digs_more k (k / 2) (k / 2) (by omega) (Nat.le_refl _)]

theorem dig_length : ∀ (f k : Nat), k ≤ f → (dig k).length ≤ k
  | 0, k, h => by
    have : k = 0 := by omega
    subst this; simp [dig_zero]
  | f + 1, 0, _ => by simp [dig_zero]
  | f + 1, k + 1, h => by
    have := dig_length f (k / 2) (by omega)
    rw [dig_succ, List.length_cons]; omega
end Go.Proofs.Ytgepfjlecmmokaa
