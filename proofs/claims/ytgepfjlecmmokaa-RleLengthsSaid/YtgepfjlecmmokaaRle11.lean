/- Runs of bytes: the reference's Fit, and the laws on what fits. -/
import Derived.Test.YtgepfjlecmmokaaRle10
namespace Go.Proofs.Ytgepfjlecmmokaa
open Go Go.Eng
set_option maxRecDepth 100000
set_option linter.unusedSimpArgs false
set_option linter.unusedVariables false

theorem fit_most (l : List UInt8) (most : Int) : fit l most ≤ l.length ∧ ((enc (l.take (fit l most))).length : Int) ≤ max most 0 ∧ (most < 0 → fit l most = 0) ∧ (fit l most = l.length ∨ most < ((enc (l.take (fit l most + 1))).length : Int)) := fit_ok l.length l most (Nat.le_refl _)

/-- Below what fits, one more fits. -/
theorem fit_below (l : List UInt8) (most : Int) (i : Nat) (h : i < fit l most) : ((enc (l.take (i + 1))).length : Int) ≤ most := by
  obtain ⟨h1, h2, h3, _⟩ := fit_most l most
  have := enc_mono l (fit l most - (i + 1)) (i + 1) (by omega)
  rw [show i + 1 + (fit l most - (i + 1)) = fit l most by omega] at this
  omega

theorem rfit_does (l : List UInt8) (most : Int) (hm : I64 most) (w : World) (hs : l.length ≤ 140737488355328) :
    Does Try.prog 20 #[Str l, .int .i64 most] w fun v w' => Heap w [] w' [] ∧ v = .int .i64 (fit l most) := by
  refine Does_enter (args := [Str l, .int .i64 most]) 30 Try.func20 rfl rfl (of_decide_eq_true rfl) ?_
  simp only [Env.ofArgs]
  obtain ⟨f1, f2, f3, f4⟩ := fit_most l most
  have f5 := fit_below l most
  have hel := enc_length l
  (repeat refine VC_seq ?_); refine VC_region [0, 1] rfl fun K hK => ?_; simp only [go_sem, ↓reduceIte, Nat.reduceEqDiff, Nat.mul_one, Nat.zero_add]
  ((repeat (first | refine ⟨by omega, ?_⟩ | refine ⟨I64.mk (by omega) (by omega), ?_⟩)); refine hK _ _ ?_; clear hK; try clear K)
  (repeat refine VC_seq ?_); refine VC_region [0, 1, 10] rfl fun K hK => ?_; simp only [go_sem, ↓reduceIte, Nat.reduceEqDiff, Nat.mul_one, Nat.zero_add]
  refine MemK_call Try.call15 ?_; simp only [go_sem, ↓reduceIte, Nat.reduceEqDiff, Nat.mul_one, Nat.zero_add]; refine CallK.mk (renc_does l w hs) ?_
  rintro v w2 ⟨hH, rfl⟩
  (try simp only [go_sem, ↓reduceIte, Nat.reduceEqDiff, Nat.mul_one, Nat.zero_add])
  (refine hK _ _ ?_; clear hK; try clear K)
  refine VC_cond rfl rfl (fun h => ?_) (fun h => ?_)
  · simp only [decide_eq_true_eq] at h
    (repeat refine VC_seq ?_); refine VC_region [4] rfl fun K hK => ?_; simp only [go_sem, ↓reduceIte, Nat.reduceEqDiff, Nat.mul_one, Nat.zero_add]
    ((repeat (first | refine ⟨by omega, ?_⟩ | refine ⟨I64.mk (by omega) (by omega), ?_⟩)); refine hK _ _ ?_; clear hK; try clear K)
    refine VC_ret (VX_ret1 rfl rfl ⟨hH, ?_⟩)
    rcases f4 with f4 | f4
    · rw [f4]
    · by_cases hlt : fit l most < l.length
      · have := enc_mono l (l.length - (fit l most + 1)) (fit l most + 1) (by omega)
        rw [show fit l most + 1 + (l.length - (fit l most + 1)) = l.length by omega, List.take_length] at this
        omega
      · rw [show fit l most = l.length by omega]
  refine VC_skip ?_
  simp only [decide_eq_false_iff_not] at h
  (repeat refine VC_seq ?_); refine VC_region [0, 1, 5] rfl fun K hK => ?_; simp only [go_sem, ↓reduceIte, Nat.reduceEqDiff, Nat.mul_one, Nat.zero_add]
  ((repeat (first | refine ⟨by omega, ?_⟩ | refine ⟨I64.mk (by omega) (by omega), ?_⟩)); refine hK _ _ ?_; clear hK; try clear K)
  ((repeat refine VC_seq ?_); refine VC_block ?_)
  refine VC_loopS [0, 1, 5] (fun m e w' => ∃ i : Nat, Is e [(0, Str l), (1, .int .i64 most), (5, .int .i64 i)] ∧ Heap w [] w' [] ∧ i ≤ fit l most ∧ m = l.length - i) l.length ?_ ?_
  · simp only [go_sem, ↓reduceIte, Nat.reduceEqDiff, Nat.mul_one, Nat.zero_add]
    exact ⟨0, rfl, hH, by omega, by omega⟩
  rintro m e w3 ⟨i, rfl, hH3, g1, rfl⟩
  (repeat refine VC_seq ?_); refine VC_region [0, 1, 5, 26] rfl fun K hK => ?_; simp only [go_sem, ↓reduceIte, Nat.reduceEqDiff, Nat.mul_one, Nat.zero_add]
  have done : ∀ w4, Heap w [] w4 [] → i = fit l most → K [(0, Str l), (1, .int .i64 most), (5, .int .i64 i), (26, .bool false)] w4 := by
    intro w4 hH4 hi
    (refine hK _ _ ?_; clear hK; try clear K)
    refine VC_cond rfl rfl (fun h => by cases h) (fun _ => ?_)
    refine VC_exit rfl ?_
    (repeat refine VC_seq ?_); refine VC_region [4] rfl fun K hK => ?_; simp only [go_sem, ↓reduceIte, Nat.reduceEqDiff, Nat.mul_one, Nat.zero_add]
    ((repeat (first | refine ⟨by omega, ?_⟩ | refine ⟨I64.mk (by omega) (by omega), ?_⟩)); refine hK _ _ ?_; clear hK; try clear K)
    exact VC_ret (VX_ret1 rfl rfl ⟨hH4, by rw [hi]⟩)
  refine ⟨fun k1 => ?_, fun k1 => done _ hH3 (by omega)⟩
  refine ⟨I64.mk (by omega) (by omega), by omega, ?_⟩
  (try simp only [go_sem, ↓reduceIte, Nat.reduceEqDiff, Nat.mul_one, Nat.zero_add])
  refine MemK_call Try.call15 ?_; simp only [go_sem, ↓reduceIte, Nat.reduceEqDiff, Nat.mul_one, Nat.zero_add]
  refine CallK.mk (renc_does (l.take (i + 1)) w3 (by simp; omega)) ?_
  rintro v w4 ⟨hH4, rfl⟩
  (try simp only [go_sem, ↓reduceIte, Nat.reduceEqDiff, Nat.mul_one, Nat.zero_add])
  by_cases hi : i = fit l most
  · have e : decide (((enc (l.take (i + 1))).length : Int) ≤ most) = false := by
      rw [decide_eq_false_iff_not, hi]
      rcases f4 with f4 | f4
      · omega
      · omega
    rw [e]
    exact done _ (hH3.call0 hH4) hi
  · have e : decide (((enc (l.take (i + 1))).length : Int) ≤ most) = true := by
      rw [decide_eq_true_eq]
      exact f5 i (by omega)
    rw [e]
    (refine hK _ _ ?_; clear hK; try clear K)
    refine VC_cond rfl rfl (fun _ => ?_) (fun h => by cases h)
    refine VC_skip (VC_block ?_)
    (repeat refine VC_seq ?_); refine VC_region [0, 1, 5] rfl fun K hK => ?_; simp only [go_sem, ↓reduceIte, Nat.reduceEqDiff, Nat.mul_one, Nat.zero_add]
    ((repeat (first | refine ⟨by omega, ?_⟩ | refine ⟨I64.mk (by omega) (by omega), ?_⟩)); refine hK _ _ ?_; clear hK; try clear K)
    refine VC_blk (VC_again ?_)
    simp only [go_sem, ↓reduceIte, Nat.reduceEqDiff, Nat.mul_one, Nat.zero_add]
    exact ⟨l.length - (i + 1), by omega, i + 1, rfl, hH3.call0 hH4, by omega, rfl⟩
end Go.Proofs.Ytgepfjlecmmokaa
