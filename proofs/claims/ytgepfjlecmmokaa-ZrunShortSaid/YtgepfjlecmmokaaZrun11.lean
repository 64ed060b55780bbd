/- Runs of noughts: the law stays awake. -/
import Derived.Test.YtgepfjlecmmokaaZrun10
namespace Go.Proofs.Ytgepfjlecmmokaa
open Go Go.Eng
set_option maxRecDepth 100000
set_option linter.unusedSimpArgs false
set_option linter.unusedVariables false

@[go_sem] theorem vExt0 (a : Value) (l : List Value) (K : Value → Prop) : vExtract (.tuple (a :: l).toArray) 0 K = K a := by simp [vExtract]
@[go_sem] theorem vExt1 (a b : Value) (l : List Value) (K : Value → Prop) : vExtract (.tuple (a :: b :: l).toArray) 1 K = K b := by simp [vExtract]

theorem i64_all {l : List Int} (h : l.all (fun v => decide (-9223372036854775808 ≤ v) && decide (v ≤ 9223372036854775807)) = true) : ∀ v ∈ l, I64 v := by
  intro v hv
  rw [List.all_eq_true] at h
  have := h v hv
  simp only [Bool.and_eq_true, decide_eq_true_eq] at this
  exact this

theorem zawake_does (w : World) : Does Try.prog 24 #[] w fun v w' => Heap w [] w' [] ∧ v = .bool true := by
  refine Does_enter (args := []) 41 Try.func24 rfl rfl (of_decide_eq_true rfl) ?_
  simp only [Env.ofArgs]
  (repeat refine VC_seq ?_); refine VC_region [] rfl fun K hK => ?_; simp only [go_sem, ↓reduceIte, Nat.reduceEqDiff, Nat.mul_one, Nat.zero_add]
  ((repeat (first | refine ⟨by omega, ?_⟩ | refine ⟨I64.mk (by omega) (by omega), ?_⟩)); refine hK _ _ ?_; clear hK; try clear K)
  (repeat refine VC_seq ?_); refine VC_region [1, 2] rfl fun K hK => ?_; simp only [go_sem, ↓reduceIte, Nat.reduceEqDiff, Nat.mul_one, Nat.zero_add]
  refine MemK_call Try.call21 ?_; simp only [go_sem, ↓reduceIte, Nat.reduceEqDiff, Nat.mul_one, Nat.zero_add]; refine CallK.mk (run_z_does 6 ⟨by decide, by decide⟩ w) ?_
  rw [show runS 6 = ([1, 1], 0) by decide +kernel]
  rintro v w2 ⟨a1, c1, hH1, rfl⟩
  (try simp only [go_sem, ↓reduceIte, Nat.reduceEqDiff, Nat.mul_one, Nat.zero_add])
  (refine hK _ _ ?_; clear hK; try clear K)
  (repeat refine VC_seq ?_); refine VC_region [1, 2, 3, 4] rfl fun K hK => ?_; simp only [go_sem, ↓reduceIte, Nat.reduceEqDiff, Nat.mul_one, Nat.zero_add]
  refine MemK_lits hH1 (intsV [0, 0, 0, 2, 1, 0]) (xs := [.const (.int .i64 0), .const (.int .i64 0), .const (.int .i64 0), .const (.int .i64 2), .const (.int .i64 1), .const (.int .i64 0)]) Try.underlying34 sz3 rfl rfl rfl (by omega) ?_; simp only [go_sem, ↓reduceIte, Nat.reduceEqDiff, Nat.mul_one, Nat.zero_add]; refine ⟨rfl, by simp [Value.cells], fun g w4 hH2 => ?_⟩; (try simp only [go_sem, ↓reduceIte, Nat.reduceEqDiff, Nat.mul_one, Nat.zero_add])
  refine MemK_call Try.call25 ?_; simp only [go_sem, ↓reduceIte, Nat.reduceEqDiff, Nat.mul_one, Nat.zero_add]; refine CallK.mk (zenc_does 3 [0, 0, 0, 2, 1, 0] _ 6 ⟨by decide, by decide⟩ w4 (row_rs (hH2.at 0 rfl)) (by decide) (i64_all (by decide))) ?_
  rw [show zenc 3 [0, 0, 0, 2, 1, 0] = ([0, 0, 3, 2, 0, 4], 0) by decide +kernel]
  rintro v w5 ⟨a2, c2, hH3, rfl⟩
  (try simp only [go_sem, ↓reduceIte, Nat.reduceEqDiff, Nat.mul_one, Nat.zero_add])
  (refine hK _ _ ?_; clear hK; try clear K)
  have hH4 := hH2.call0 hH3
  (repeat refine VC_seq ?_); refine VC_region [1, 2, 3, 4, 6] rfl fun K hK => ?_; simp only [go_sem, ↓reduceIte, Nat.reduceEqDiff, Nat.mul_one, Nat.zero_add]
  refine MemK_lits hH4 (intsV [1, 4]) (xs := [.const (.int .i64 1), .const (.int .i64 4)]) Try.underlying34 sz3 rfl rfl rfl (by omega) ?_; simp only [go_sem, ↓reduceIte, Nat.reduceEqDiff, Nat.mul_one, Nat.zero_add]; refine ⟨rfl, by simp [Value.cells], fun g w4 hH5 => ?_⟩; (try simp only [go_sem, ↓reduceIte, Nat.reduceEqDiff, Nat.mul_one, Nat.zero_add])
  refine MemK_call Try.call27 ?_; simp only [go_sem, ↓reduceIte, Nat.reduceEqDiff, Nat.mul_one, Nat.zero_add]; refine CallK.mk (zdec_does 3 1 [1, 4] _ 2 ⟨by decide, by decide⟩ ⟨by decide, by decide⟩ _ (row_rs (hH5.at 0 rfl)) (by decide) (i64_all (by decide))) ?_
  rw [show zdecode 3 1 [1, 4] = ([], 3) by decide +kernel]
  rintro v w6 ⟨a3, c3, hH6, rfl⟩
  (try simp only [go_sem, ↓reduceIte, Nat.reduceEqDiff, Nat.mul_one, Nat.zero_add])
  (refine hK _ _ ?_; clear hK; try clear K)
  have hH7 := hH5.call0 hH6
  (repeat refine VC_seq ?_); refine VC_region [0] rfl fun K hK => ?_; simp only [go_sem, ↓reduceIte, Nat.reduceEqDiff, Nat.mul_one, Nat.zero_add]
  refine MemK_lits hH7 (intsV [1, 1]) (xs := [.const (.int .i64 1), .const (.int .i64 1)]) Try.underlying34 sz3 rfl rfl rfl (by omega) ?_; simp only [go_sem, ↓reduceIte, Nat.reduceEqDiff, Nat.mul_one, Nat.zero_add]; refine ⟨rfl, by simp [Value.cells], fun g w4 hH8 => ?_⟩; (try simp only [go_sem, ↓reduceIte, Nat.reduceEqDiff, Nat.mul_one, Nat.zero_add])
  refine MemK_call Try.call23 ?_; simp only [go_sem, ↓reduceIte, Nat.reduceEqDiff, Nat.mul_one, Nat.zero_add]; refine CallK.mk (ints_does [1, 1] [1, 1] _ _ c1 2 _ (row_rs (hH8.at 5 rfl)) (row_rs (hH8.at 0 rfl)) (by decide) (by decide)) ?_
  rintro v w7 ⟨rfl, rfl⟩
  (try simp only [go_sem, ↓reduceIte, Nat.reduceEqDiff, Nat.mul_one, Nat.zero_add])
  simp only [true_implies, false_implies, implies_true, and_true, true_and, not_true_eq_false, not_false_eq_true, reduceCtorEq, decide_true]
  refine MemK_lits hH8 (intsV [0, 0, 3, 2, 0, 4]) (xs := [.const (.int .i64 0), .const (.int .i64 0), .const (.int .i64 3), .const (.int .i64 2), .const (.int .i64 0), .const (.int .i64 4)]) Try.underlying34 sz3 rfl rfl rfl (by omega) ?_; simp only [go_sem, ↓reduceIte, Nat.reduceEqDiff, Nat.mul_one, Nat.zero_add]; refine ⟨rfl, by simp [Value.cells], fun g w4 hH9 => ?_⟩; (try simp only [go_sem, ↓reduceIte, Nat.reduceEqDiff, Nat.mul_one, Nat.zero_add])
  refine MemK_call Try.call23 ?_; simp only [go_sem, ↓reduceIte, Nat.reduceEqDiff, Nat.mul_one, Nat.zero_add]; refine CallK.mk (ints_does [0, 0, 3, 2, 0, 4] [0, 0, 3, 2, 0, 4] _ _ c2 6 _ (row_rs (hH9.at 4 rfl)) (row_rs (hH9.at 0 rfl)) (by decide) (by decide)) ?_
  rintro v w8 ⟨rfl, rfl⟩
  (try simp only [go_sem, ↓reduceIte, Nat.reduceEqDiff, Nat.mul_one, Nat.zero_add])
  simp only [true_implies, false_implies, implies_true, and_true, true_and, not_true_eq_false, not_false_eq_true, reduceCtorEq, decide_true]
  (refine hK _ _ ?_; clear hK; try clear K)
  refine VC_ret (VX_ret1 rfl rfl ⟨hH9.sub (by simp), rfl⟩)
end Go.Proofs.Ytgepfjlecmmokaa
