/- Runs of bytes: the laws' walks. -/
import Derived.Test.YtgepfjlecmmokaaRle6
namespace Go.Proofs.Ytgepfjlecmmokaa
open Go Go.Eng
set_option maxRecDepth 100000
set_option linter.unusedSimpArgs false
set_option linter.unusedVariables false

theorem law3_does (l : List UInt8) (w : World) (hs : l.length ≤ 9223372036854775807) :
    Does Try.prog 3 #[Str l] w fun v w' => Heap w [] w' [] ∧ v = .bool true := by
  refine Does_enter (args := [Str l]) 16 Try.func3 rfl rfl (of_decide_eq_true rfl) ?_
  simp only [Env.ofArgs]
  (repeat refine VC_seq ?_); refine VC_region [0] rfl fun K hK => ?_; simp only [go_sem, ↓reduceIte, Nat.reduceEqDiff, Nat.mul_one, Nat.zero_add]
  ((repeat (first | refine ⟨by omega, ?_⟩ | refine ⟨I64.mk (by omega) (by omega), ?_⟩)); refine hK _ _ ?_; clear hK; try clear K)
  (repeat refine VC_seq ?_); refine VC_region [2] rfl fun K hK => ?_; simp only [go_sem, ↓reduceIte, Nat.reduceEqDiff, Nat.mul_one, Nat.zero_add]
  have last : ∀ w1, Heap w [] w1 [] → K [(2, .bool true)] w1 := by
    intro w1 hH
    (refine hK _ _ ?_; clear hK; try clear K)
    exact VC_ret (VX_ret1 rfl rfl ⟨hH, rfl⟩)
  clear hK
  refine ⟨fun h => ?_, fun h => ?_⟩
  · simp only [decide_eq_false h]
    refine MemK_call Try.call14 ?_; simp only [go_sem, ↓reduceIte, Nat.reduceEqDiff, Nat.mul_one, Nat.zero_add]
    refine CallK.mk (enc_does l w (by omega)) ?_
    rintro v w2 ⟨hH, rfl⟩
    (try simp only [go_sem, ↓reduceIte, Nat.reduceEqDiff, Nat.mul_one, Nat.zero_add])
    refine MemK_call Try.call15 ?_; simp only [go_sem, ↓reduceIte, Nat.reduceEqDiff, Nat.mul_one, Nat.zero_add]
    refine CallK.mk (renc_does l w2 (by omega)) ?_
    rintro v w3 ⟨hH3, rfl⟩
    (try simp only [go_sem, ↓reduceIte, Nat.reduceEqDiff, Nat.mul_one, Nat.zero_add])
    simp only [true_implies, false_implies, implies_true, and_true, true_and, not_true_eq_false, not_false_eq_true, reduceCtorEq]
    refine MemK_call Try.call16 ?_; simp only [go_sem, ↓reduceIte, Nat.reduceEqDiff, Nat.mul_one, Nat.zero_add]
    refine CallK.mk (awake_does w3) ?_
    rintro v w4 ⟨hH4, rfl⟩
    (try simp only [go_sem, ↓reduceIte, Nat.reduceEqDiff, Nat.mul_one, Nat.zero_add])
    exact last _ ((hH.call0 hH3).call0 hH4)
  · simp only [decide_eq_true h]
    refine MemK_call Try.call16 ?_; simp only [go_sem, ↓reduceIte, Nat.reduceEqDiff, Nat.mul_one, Nat.zero_add]
    refine CallK.mk (awake_does w) ?_
    rintro v w2 ⟨hH, rfl⟩
    (try simp only [go_sem, ↓reduceIte, Nat.reduceEqDiff, Nat.mul_one, Nat.zero_add])
    exact last _ hH
end Go.Proofs.Ytgepfjlecmmokaa
