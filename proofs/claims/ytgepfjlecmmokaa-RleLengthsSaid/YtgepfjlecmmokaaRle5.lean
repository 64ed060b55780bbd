/- Runs of bytes: how much of a string fits. -/
import Derived.Test.YtgepfjlecmmokaaRle4
namespace Go.Proofs.Ytgepfjlecmmokaa
open Go Go.Eng
set_option maxRecDepth 100000
set_option linter.unusedSimpArgs false
set_option linter.unusedVariables false

def cost (n : Nat) : Nat := if n ≤ 3 then n else 5

def fitF : Nat → List UInt8 → Int → Nat
  | 0, _, _ => 0
  | _ + 1, [], _ => 0
  | f + 1, x :: l, left =>
    if left < (cost (runOf (x :: l)) : Int) then (max 0 (min left 3)).toNat
    else runOf (x :: l) + fitF f ((x :: l).drop (runOf (x :: l))) (left - (cost (runOf (x :: l)) : Int))

theorem fitF_more (f : Nat) : ∀ (g : Nat) (l : List UInt8) (left : Int), l.length ≤ f → l.length ≤ g → fitF f l left = fitF g l left := by
  induction f with
  | zero =>
    intro g l left h1 h2
    have : l = [] := List.eq_nil_of_length_eq_zero (by omega)
    subst this
    cases g <;> rfl
  | succ f ih =>
    intro g l left h1 h2
    cases l with
    | nil => cases g <;> rfl
    | cons x l =>
      cases g with
      | zero => simp at h2
      | succ g =>
        have hp := runOf_pos (x :: l) (by simp)
        simp only [fitF]
        simp only [List.length_cons] at h1 h2
        rw [ih g ((x :: l).drop (runOf (x :: l))) _ (by simp; omega) (by simp; omega)]

def fit (l : List UInt8) (left : Int) : Nat := fitF l.length l left

theorem fit_nil (left : Int) : fit [] left = 0 := rfl

theorem fit_step (l : List UInt8) (left : Int) (h : l ≠ []) :
    fit l left = if left < (cost (runOf l) : Int) then (max 0 (min left 3)).toNat else runOf l + fit (l.drop (runOf l)) (left - (cost (runOf l) : Int)) := by
  cases l with
  | nil => exact absurd rfl h
  | cons x l =>
    have hp := runOf_pos (x :: l) (by simp)
    rw [fit, List.length_cons, fitF]
    rw [fitF_more l.length ((x :: l).drop (runOf (x :: l))).length ((x :: l).drop (runOf (x :: l))) _ (by simp; omega) (Nat.le_refl _)]
    rfl

theorem fit_does (l : List UInt8) (most : Int) (hm : I64 most) (w : World) (hs : l.length ≤ 140737488355328) :
    Does Try.prog 19 #[Str l, .int .i64 most] w fun v w' => w' = w ∧ v = .int .i64 (fit l most) := by
  refine Does_enter (args := [Str l, .int .i64 most]) 40 Try.func19 rfl rfl (of_decide_eq_true rfl) ?_
  simp only [Env.ofArgs]
  have hm1 := hm.1
  have hm2 := hm.2
  (repeat refine VC_seq ?_); refine VC_region [0, 1] rfl fun K hK => ?_; simp only [go_sem, ↓reduceIte, Nat.reduceEqDiff, Nat.mul_one, Nat.zero_add]
  ((repeat (first | refine ⟨by omega, ?_⟩ | refine ⟨I64.mk (by omega) (by omega), ?_⟩)); refine hK _ _ ?_; clear hK; try clear K)
  (repeat refine VC_seq ?_); refine VC_region [0, 1, 5] rfl fun K hK => ?_; simp only [go_sem, ↓reduceIte, Nat.reduceEqDiff, Nat.mul_one, Nat.zero_add]
  ((repeat (first | refine ⟨by omega, ?_⟩ | refine ⟨I64.mk (by omega) (by omega), ?_⟩)); refine hK _ _ ?_; clear hK; try clear K)
  (repeat refine VC_seq ?_); refine VC_region [0, 1, 5, 6] rfl fun K hK => ?_; simp only [go_sem, ↓reduceIte, Nat.reduceEqDiff, Nat.mul_one, Nat.zero_add]
  ((repeat (first | refine ⟨by omega, ?_⟩ | refine ⟨I64.mk (by omega) (by omega), ?_⟩)); refine hK _ _ ?_; clear hK; try clear K)
  ((repeat refine VC_seq ?_); refine VC_block ?_)
  refine VC_loopS [0, 1, 5, 6] (fun m e w' => ∃ (i : Nat) (used : Int), Is e [(0, Str l), (1, .int .i64 most), (5, .int .i64 used), (6, .int .i64 i)] ∧ Is w' w ∧ i ≤ l.length ∧ 0 ≤ used ∧ used ≤ 2 * i ∧ (used = 0 ∨ used ≤ most) ∧ fit l most = i + fit (l.drop i) (most - used) ∧ m = l.length - i) l.length ?_ ?_
  · simp only [go_sem, ↓reduceIte, Nat.reduceEqDiff, Nat.mul_one, Nat.zero_add]
    exact ⟨0, 0, rfl, rfl, by omega, by omega, by omega, .inl rfl, by simp, by omega⟩
  rintro m e w' ⟨i, used, rfl, rfl, g1, g2, g3, g4, g5, rfl⟩
  (repeat refine VC_seq ?_); refine VC_region [0, 1, 5, 6, 12] rfl fun K hK => ?_; simp only [go_sem, ↓reduceIte, Nat.reduceEqDiff, Nat.mul_one, Nat.zero_add]
  ((repeat (first | refine ⟨by omega, ?_⟩ | refine ⟨I64.mk (by omega) (by omega), ?_⟩)); refine hK _ _ ?_; clear hK; try clear K)
  refine VC_cond rfl rfl (fun hlt => ?_) (fun hge => ?_)
  · simp only [decide_eq_true_eq] at hlt
    refine VC_skip (VC_block ?_)
    have hne : l.drop i ≠ [] := by intro h; have := congrArg List.length h; simp at this; omega
    have hp := runOf_pos _ hne
    have hle := runOf_le (l.drop i)
    simp only [List.length_drop] at hle
    have hst := fit_step (l.drop i) (most - used) hne
    generalize hn : runOf (l.drop i) = n at hp hle hst
    have hc0 : (cost n : Int) ≤ 2 * n := by simp only [cost]; split <;> omega
    have hc1 : 0 ≤ (cost n : Int) := by omega
    (repeat refine VC_seq ?_); refine VC_region [0, 1, 5, 6, 7] rfl fun K hK => ?_; simp only [go_sem, ↓reduceIte, Nat.reduceEqDiff, Nat.mul_one, Nat.zero_add]
    refine MemK_call Try.call29 ?_; simp only [go_sem, ↓reduceIte, Nat.reduceEqDiff, Nat.mul_one, Nat.zero_add]; refine CallK.mk (run_does l i w' (by omega) (by omega)) ?_
    rintro v w2 ⟨rfl, rfl⟩
    rw [hn]
    (try simp only [go_sem, ↓reduceIte, Nat.reduceEqDiff, Nat.mul_one, Nat.zero_add])
    (refine hK _ _ ?_; clear hK; try clear K)
    (repeat refine VC_seq ?_); refine VC_region [0, 1, 5, 6, 7, 8] rfl fun K hK => ?_; simp only [go_sem, ↓reduceIte, Nat.reduceEqDiff, Nat.mul_one, Nat.zero_add]
    ((repeat (first | refine ⟨by omega, ?_⟩ | refine ⟨I64.mk (by omega) (by omega), ?_⟩)); refine hK _ _ ?_; clear hK; try clear K)
    (repeat refine VC_seq ?_); refine VC_region [0, 1, 5, 6, 7, 8, 19] rfl fun K hK => ?_; simp only [go_sem, ↓reduceIte, Nat.reduceEqDiff, Nat.mul_one, Nat.zero_add]
    ((repeat (first | refine ⟨by omega, ?_⟩ | refine ⟨I64.mk (by omega) (by omega), ?_⟩)); refine hK _ _ ?_; clear hK; try clear K)
    refine VC_cut [0, 1, 5, 6, 7, 8] (fun e w3 => Is e [(0, Str l), (1, .int .i64 most), (5, .int .i64 used), (6, .int .i64 i), (7, .int .i64 n), (8, .int .i64 (cost n : Nat))] ∧ Is w3 w2) ?_ ?_
    · refine VC_cond rfl rfl (fun hn4 => ?_) (fun hn4 => ?_)
      · simp only [decide_eq_true_eq] at hn4
        (repeat refine VC_seq ?_); refine VC_region [0, 1, 5, 6, 7, 8] rfl fun K hK => ?_; simp only [go_sem, ↓reduceIte, Nat.reduceEqDiff, Nat.mul_one, Nat.zero_add]
        ((repeat (first | refine ⟨by omega, ?_⟩ | refine ⟨I64.mk (by omega) (by omega), ?_⟩)); refine hK _ _ ?_; clear hK; try clear K)
        refine VC_again ?_
        simp only [go_sem, ↓reduceIte, Nat.reduceEqDiff, Nat.mul_one, Nat.zero_add]
        exact ⟨by rw [cost, if_neg (by omega)]; rfl, rfl⟩
      · simp only [decide_eq_false_iff_not] at hn4
        refine VC_skip (VC_again ?_)
        simp only [go_sem, ↓reduceIte, Nat.reduceEqDiff, Nat.mul_one, Nat.zero_add]
        exact ⟨by rw [cost, if_pos (by omega), Int.min_eq_left (by omega)]; rfl, rfl⟩
    · rintro e w3 ⟨rfl, rfl⟩
      (repeat refine VC_seq ?_); refine VC_region [0, 1, 5, 6, 7, 8, 24] rfl fun K hK => ?_; simp only [go_sem, ↓reduceIte, Nat.reduceEqDiff, Nat.mul_one, Nat.zero_add]
      ((repeat (first | refine ⟨by omega, ?_⟩ | refine ⟨I64.mk (by omega) (by omega), ?_⟩)); refine hK _ _ ?_; clear hK; try clear K)
      refine VC_cond rfl rfl (fun hc => ?_) (fun hc => ?_)
      · simp only [decide_eq_true_eq] at hc
        (repeat refine VC_seq ?_); refine VC_region [4] rfl fun K hK => ?_; simp only [go_sem, ↓reduceIte, Nat.reduceEqDiff, Nat.mul_one, Nat.zero_add]
        ((repeat (first | refine ⟨by omega, ?_⟩ | refine ⟨I64.mk (by omega) (by omega), ?_⟩)); refine hK _ _ ?_; clear hK; try clear K)
        refine VC_ret (VX_ret1 rfl rfl ⟨rfl, ?_⟩)
        rw [g5, hst, if_pos (by omega)]
        have : ((i + (max 0 (min (most - used) 3)).toNat : Nat) : Int) = i + max 0 (min (most - used) 3) := by omega
        rw [this]
      · simp only [decide_eq_false_iff_not] at hc
        refine VC_skip ?_
        (repeat refine VC_seq ?_); refine VC_region [0, 1, 5, 6, 7] rfl fun K hK => ?_; simp only [go_sem, ↓reduceIte, Nat.reduceEqDiff, Nat.mul_one, Nat.zero_add]
        ((repeat (first | refine ⟨by omega, ?_⟩ | refine ⟨I64.mk (by omega) (by omega), ?_⟩)); refine hK _ _ ?_; clear hK; try clear K)
        (repeat refine VC_seq ?_); refine VC_region [0, 1, 5, 6] rfl fun K hK => ?_; simp only [go_sem, ↓reduceIte, Nat.reduceEqDiff, Nat.mul_one, Nat.zero_add]
        ((repeat (first | refine ⟨by omega, ?_⟩ | refine ⟨I64.mk (by omega) (by omega), ?_⟩)); refine hK _ _ ?_; clear hK; try clear K)
        refine VC_blk (VC_again ?_)
        simp only [go_sem, ↓reduceIte, Nat.reduceEqDiff, Nat.mul_one, Nat.zero_add]
        refine ⟨l.length - (i + n), by omega, i + n, used + cost n, rfl, rfl, by omega, by omega, by omega, .inr (by omega), ?_, rfl⟩
        rw [g5, hst, if_neg (by omega), List.drop_drop]
        have e1 : most - used - (cost n : Int) = most - (used + (cost n : Int)) := by omega
        rw [e1]
        omega
  · simp only [decide_eq_false_iff_not] at hge
    refine VC_exit rfl ?_
    (repeat refine VC_seq ?_); refine VC_region [4] rfl fun K hK => ?_; simp only [go_sem, ↓reduceIte, Nat.reduceEqDiff, Nat.mul_one, Nat.zero_add]
    ((repeat (first | refine ⟨by omega, ?_⟩ | refine ⟨I64.mk (by omega) (by omega), ?_⟩)); refine hK _ _ ?_; clear hK; try clear K)
    refine VC_ret (VX_ret1 rfl rfl ⟨rfl, ?_⟩)
    have : i = l.length := by omega
    rw [g5, this]
    simp [fit_nil]
end Go.Proofs.Ytgepfjlecmmokaa
