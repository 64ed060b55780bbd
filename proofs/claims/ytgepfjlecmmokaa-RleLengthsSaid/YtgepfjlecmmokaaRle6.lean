/- Runs of bytes: the law stays awake. -/
import Derived.Test.YtgepfjlecmmokaaRle5
namespace Go.Proofs.Ytgepfjlecmmokaa
open Go Go.Eng
set_option maxRecDepth 100000
set_option linter.unusedSimpArgs false
set_option linter.unusedVariables false

@[go_sem] theorem vExt0 (a : Value) (l : List Value) (K : Value → Prop) : vExtract (.tuple (a :: l).toArray) 0 K = K a := by simp [vExtract]
@[go_sem] theorem vExt1 (a b : Value) (l : List Value) (K : Value → Prop) : vExtract (.tuple (a :: b :: l).toArray) 1 K = K b := by simp [vExtract]

theorem awake_does (w : World) :
    Does Try.prog 16 #[] w fun v w' => Heap w [] w' [] ∧ v = .bool true := by
  refine Does_enter (args := []) 31 Try.func16 rfl rfl (of_decide_eq_true rfl) ?_
  simp only [Env.ofArgs]
  (repeat refine VC_seq ?_); refine VC_region [] rfl fun K hK => ?_; simp only [go_sem, ↓reduceIte, Nat.reduceEqDiff, Nat.mul_one, Nat.zero_add]
  ((repeat (first | refine ⟨by omega, ?_⟩ | refine ⟨I64.mk (by omega) (by omega), ?_⟩)); refine hK _ _ ?_; clear hK; try clear K)
  (repeat refine VC_seq ?_); refine VC_region [1, 2] rfl fun K hK => ?_; simp only [go_sem, ↓reduceIte, Nat.reduceEqDiff, Nat.mul_one, Nat.zero_add]
  refine MemK_call Try.call17 ?_; simp only [go_sem, ↓reduceIte, Nat.reduceEqDiff, Nat.mul_one, Nat.zero_add]; refine CallK.mk (dec_does [97, 97, 97, 97, 1, 98] w (by decide)) ?_
  rintro v w2 ⟨hH, rfl⟩
  have e : decS [] 0 [97, 97, 97, 97, 1, 98] = ([97, 97, 97, 97, 97, 98], 0) := by decide +kernel
  rw [e]
  simp only [go_sem, ↓reduceIte, Nat.reduceEqDiff, Nat.mul_one, Nat.zero_add]
  (refine hK _ _ ?_; clear hK; try clear K)
  (repeat refine VC_seq ?_); refine VC_region [1, 2, 4] rfl fun K hK => ?_; simp only [go_sem, ↓reduceIte, Nat.reduceEqDiff, Nat.mul_one, Nat.zero_add]
  refine MemK_call Try.call17 ?_; simp only [go_sem, ↓reduceIte, Nat.reduceEqDiff, Nat.mul_one, Nat.zero_add]
  refine CallK.mk (dec_does [97, 97, 97, 97] w2 (by decide)) ?_
  rintro v w3 ⟨hH3, rfl⟩
  have e : decS [] 0 [97, 97, 97, 97] = ([], 30) := by decide +kernel
  rw [e]
  simp only [go_sem, ↓reduceIte, Nat.reduceEqDiff, Nat.mul_one, Nat.zero_add]
  (refine hK _ _ ?_; clear hK; try clear K)
  (repeat refine VC_seq ?_); refine VC_region [0] rfl fun K hK => ?_; simp only [go_sem, ↓reduceIte, Nat.reduceEqDiff, Nat.mul_one, Nat.zero_add]
  refine MemK_call Try.call14 ?_; simp only [go_sem, ↓reduceIte, Nat.reduceEqDiff, Nat.mul_one, Nat.zero_add]
  refine CallK.mk (enc_does [97, 97, 97, 97, 97, 98] w3 (by decide)) ?_
  rintro v w4 ⟨hH4, rfl⟩
  have e : enc [97, 97, 97, 97, 97, 98] = [97, 97, 97, 97, 1, 98] := by decide +kernel
  rw [e]
  simp only [go_sem, ↓reduceIte, Nat.reduceEqDiff, Nat.mul_one, Nat.zero_add]
  simp only [true_implies, false_implies, implies_true, and_true, true_and, not_true_eq_false, not_false_eq_true, reduceCtorEq]
  refine MemK_call Try.call19 ?_; simp only [go_sem, ↓reduceIte, Nat.reduceEqDiff, Nat.mul_one, Nat.zero_add]
  refine CallK.mk (fit_does [97, 97, 97, 97, 98] 5 ⟨by decide, by decide⟩ w4 (by decide)) ?_
  rintro v w5 ⟨rfl, rfl⟩
  have e : fit [97, 97, 97, 97, 98] 5 = 4 := by decide +kernel
  rw [e]
  simp only [go_sem, ↓reduceIte, Nat.reduceEqDiff, Nat.mul_one, Nat.zero_add]
  (refine hK _ _ ?_; clear hK; try clear K)
  refine VC_ret (VX_ret1 rfl rfl ⟨(hH.call0 hH3).call0 hH4, rfl⟩)
end Go.Proofs.Ytgepfjlecmmokaa
