/- Runs of bytes: the walks of the laws on what fits. -/
import Derived.Test.YtgepfjlecmmokaaRle11
namespace Go.Proofs.Ytgepfjlecmmokaa
open Go Go.Eng
set_option maxRecDepth 100000
set_option linter.unusedSimpArgs false
set_option linter.unusedVariables false

theorem law5_does (l : List UInt8) (most : Int) (hm : I64 most) (w : World) (hs : l.length ≤ 140737488355328) :
    Does Try.prog 5 #[Str l, .int .i64 most] w fun v w' => Heap w [] w' [] ∧ v = .bool true := by
  refine Does_enter (args := [Str l, .int .i64 most]) 20 Try.func5 rfl rfl (of_decide_eq_true rfl) ?_
  simp only [Env.ofArgs]
  (repeat refine VC_seq ?_); refine VC_region [0, 1] rfl fun K hK => ?_; simp only [go_sem, ↓reduceIte, Nat.reduceEqDiff, Nat.mul_one, Nat.zero_add]
  ((repeat (first | refine ⟨by omega, ?_⟩ | refine ⟨I64.mk (by omega) (by omega), ?_⟩)); refine hK _ _ ?_; clear hK; try clear K)
  (repeat refine VC_seq ?_); refine VC_region [4] rfl fun K hK => ?_; simp only [go_sem, ↓reduceIte, Nat.reduceEqDiff, Nat.mul_one, Nat.zero_add]
  have last : ∀ w1, Heap w [] w1 [] → K [(4, .bool true)] w1 := by
    intro w1 hH
    (refine hK _ _ ?_; clear hK; try clear K)
    exact VC_ret (VX_ret1 rfl rfl ⟨hH, rfl⟩)
  clear hK
  refine ⟨fun h => ?_, fun h => ?_⟩
  · simp only [decide_eq_false h]
    refine MemK_call Try.call19 ?_; simp only [go_sem, ↓reduceIte, Nat.reduceEqDiff, Nat.mul_one, Nat.zero_add]
    refine CallK.mk (fit_does l most hm w hs) ?_
    rintro v w2 ⟨rfl, rfl⟩
    (try simp only [go_sem, ↓reduceIte, Nat.reduceEqDiff, Nat.mul_one, Nat.zero_add])
    refine MemK_call Try.call20 ?_; simp only [go_sem, ↓reduceIte, Nat.reduceEqDiff, Nat.mul_one, Nat.zero_add]
    refine CallK.mk (rfit_does l most hm w2 hs) ?_
    rintro v w3 ⟨hH3, rfl⟩
    (try simp only [go_sem, ↓reduceIte, Nat.reduceEqDiff, Nat.mul_one, Nat.zero_add])
    try simp only [true_implies, false_implies, implies_true, and_true, true_and, not_true_eq_false, not_false_eq_true, reduceCtorEq, decide_true]
    refine MemK_call Try.call16 ?_; simp only [go_sem, ↓reduceIte, Nat.reduceEqDiff, Nat.mul_one, Nat.zero_add]
    refine CallK.mk (awake_does w3) ?_
    rintro v w4 ⟨hH4, rfl⟩
    (try simp only [go_sem, ↓reduceIte, Nat.reduceEqDiff, Nat.mul_one, Nat.zero_add])
    exact last _ (hH3.call0 hH4)
  · simp only [decide_eq_true h]
    refine MemK_call Try.call16 ?_; simp only [go_sem, ↓reduceIte, Nat.reduceEqDiff, Nat.mul_one, Nat.zero_add]
    refine CallK.mk (awake_does w) ?_
    rintro v w2 ⟨hH, rfl⟩
    (try simp only [go_sem, ↓reduceIte, Nat.reduceEqDiff, Nat.mul_one, Nat.zero_add])
    exact last _ hH

theorem law8_does (l : List UInt8) (most : Int) (hm : I64 most) (w : World) (hs : l.length ≤ 140737488355327) :
    Does Try.prog 8 #[Str l, .int .i64 most] w fun v w' => Heap w [] w' [] ∧ v = .bool true := by
  obtain ⟨f1, f2, f3, f4⟩ := fit_most l most
  have hel := enc_length (l.take (fit l most))
  have hel2 := enc_length (l.take (fit l most + 1))
  simp only [List.length_take] at hel hel2
  refine Does_enter (args := [Str l, .int .i64 most]) 42 Try.func8 rfl rfl (of_decide_eq_true rfl) ?_
  simp only [Env.ofArgs]
  (repeat refine VC_seq ?_); refine VC_region [0, 1] rfl fun K hK => ?_; simp only [go_sem, ↓reduceIte, Nat.reduceEqDiff, Nat.mul_one, Nat.zero_add]
  ((repeat (first | refine ⟨by omega, ?_⟩ | refine ⟨I64.mk (by omega) (by omega), ?_⟩)); refine hK _ _ ?_; clear hK; try clear K)
  (repeat refine VC_seq ?_); refine VC_region [0, 1, 5] rfl fun K hK => ?_; simp only [go_sem, ↓reduceIte, Nat.reduceEqDiff, Nat.mul_one, Nat.zero_add]
  refine MemK_call Try.call19 ?_; simp only [go_sem, ↓reduceIte, Nat.reduceEqDiff, Nat.mul_one, Nat.zero_add]; refine CallK.mk (fit_does l most hm w (by omega)) ?_
  rintro v w2 ⟨rfl, rfl⟩
  (try simp only [go_sem, ↓reduceIte, Nat.reduceEqDiff, Nat.mul_one, Nat.zero_add])
  (refine hK _ _ ?_; clear hK; try clear K)
  (repeat refine VC_seq ?_); refine VC_region [0, 1, 5, 16] rfl fun K hK => ?_; simp only [go_sem, ↓reduceIte, Nat.reduceEqDiff, Nat.mul_one, Nat.zero_add]
  refine ⟨fun _ => ?_, fun h => by omega⟩
  (refine hK _ _ ?_; clear hK; try clear K)
  refine VC_cond rfl rfl (fun h => ?_) (fun h => VC_skip ?_)
  · simp only [decide_eq_true_eq] at h
    omega
  clear h
  (repeat refine VC_seq ?_); refine VC_region [0, 1, 5, 24] rfl fun K hK => ?_; simp only [go_sem, ↓reduceIte, Nat.reduceEqDiff, Nat.mul_one, Nat.zero_add]
  refine ⟨by omega, ?_⟩
  (try simp only [go_sem, ↓reduceIte, Nat.reduceEqDiff, Nat.mul_one, Nat.zero_add])
  refine MemK_call Try.call14 ?_; simp only [go_sem, ↓reduceIte, Nat.reduceEqDiff, Nat.mul_one, Nat.zero_add]
  refine CallK.mk (enc_does (l.take (fit l most)) w2 (by simp; omega)) ?_
  rintro v w3 ⟨hH3, rfl⟩
  (try simp only [go_sem, ↓reduceIte, Nat.reduceEqDiff, Nat.mul_one, Nat.zero_add])
  (refine hK _ _ ?_; clear hK; try clear K)
  refine VC_cond rfl rfl (fun h => ?_) (fun h => VC_skip ?_)
  · simp only [decide_eq_true_eq] at h
    omega
  clear h
  (repeat refine VC_seq ?_); refine VC_region [4] rfl fun K hK => ?_; simp only [go_sem, ↓reduceIte, Nat.reduceEqDiff, Nat.mul_one, Nat.zero_add]
  have last : ∀ w1, Heap w2 [] w1 [] → K [(4, .bool true)] w1 := by
    intro w1 hH
    (refine hK _ _ ?_; clear hK; try clear K)
    exact VC_ret (VX_ret1 rfl rfl ⟨hH, rfl⟩)
  clear hK
  refine ⟨fun h => ?_, fun h => ?_⟩
  · simp only [decide_eq_false h]
    refine ⟨I64.mk (by omega) (by omega), ⟨by omega, by omega⟩, ?_⟩
    (try simp only [go_sem, ↓reduceIte, Nat.reduceEqDiff, Nat.mul_one, Nat.zero_add])
    refine MemK_call Try.call14 ?_; simp only [go_sem, ↓reduceIte, Nat.reduceEqDiff, Nat.mul_one, Nat.zero_add]
    refine CallK.mk (enc_does (l.take (fit l most + 1)) w3 (by simp; omega)) ?_
    rintro v w4 ⟨hH4, rfl⟩
    (try simp only [go_sem, ↓reduceIte, Nat.reduceEqDiff, Nat.mul_one, Nat.zero_add])
    have e : decide (most < ((enc (l.take (fit l most + 1))).length : Int)) = true := by
      rw [decide_eq_true_eq]
      omega
    refine ⟨fun _ => ?_, fun h => absurd (of_decide_eq_true e) h⟩
    simp only [e]
    refine MemK_call Try.call16 ?_; simp only [go_sem, ↓reduceIte, Nat.reduceEqDiff, Nat.mul_one, Nat.zero_add]
    refine CallK.mk (awake_does w4) ?_
    rintro v w5 ⟨hH5, rfl⟩
    (try simp only [go_sem, ↓reduceIte, Nat.reduceEqDiff, Nat.mul_one, Nat.zero_add])
    exact last _ ((hH3.call0 hH4).call0 hH5)
  · simp only [decide_eq_true h]
    refine MemK_call Try.call16 ?_; simp only [go_sem, ↓reduceIte, Nat.reduceEqDiff, Nat.mul_one, Nat.zero_add]
    refine CallK.mk (awake_does w3) ?_
    rintro v w4 ⟨hH4, rfl⟩
    (try simp only [go_sem, ↓reduceIte, Nat.reduceEqDiff, Nat.mul_one, Nat.zero_add])
    exact last _ (hH3.call0 hH4)
end Go.Proofs.Ytgepfjlecmmokaa
