/- Runs of noughts: two slices of integers compared. -/
import Derived.Test.YtgepfjlecmmokaaZrun2
namespace Go.Proofs.Ytgepfjlecmmokaa
open Go Go.Eng
set_option maxRecDepth 100000
set_option linter.unusedSimpArgs false
set_option linter.unusedVariables false

theorem ints_does (xs ys : List Int) (a b : Option Addr) (c d : Nat) (w : World) (ha : RS w a xs.length 1 (intsV xs)) (hb : RS w b ys.length 1 (intsV ys)) (h1 : xs.length ≤ 9223372036854775807) (h2 : ys.length ≤ 9223372036854775807) :
    Does Try.prog 23 #[.slice a xs.length c, .slice b ys.length d] w fun v w' => w' = w ∧ v = .bool (decide (xs = ys)) := by
  refine Does_enter (args := [.slice a xs.length c, .slice b ys.length d]) 26 Try.func23 rfl rfl (of_decide_eq_true rfl) ?_
  simp only [Env.ofArgs]
  (repeat refine VC_seq ?_); refine VC_region [0, 1] rfl fun K hK => ?_; simp only [go_sem, ↓reduceIte, Nat.reduceEqDiff, Nat.mul_one, Nat.zero_add]
  ((repeat (first | refine ⟨by omega, ?_⟩ | refine ⟨I64.mk (by omega) (by omega), ?_⟩)); refine hK _ _ ?_; clear hK; try clear K)
  (repeat refine VC_seq ?_); refine VC_region [0, 1, 10] rfl fun K hK => ?_; simp only [go_sem, ↓reduceIte, Nat.reduceEqDiff, Nat.mul_one, Nat.zero_add]
  ((repeat (first | refine ⟨by omega, ?_⟩ | refine ⟨I64.mk (by omega) (by omega), ?_⟩)); refine hK _ _ ?_; clear hK; try clear K)
  by_cases hl : xs.length = ys.length
  · refine VC_cond rfl rfl (fun h => absurd h (by simp; omega)) (fun _ => VC_skip ?_)
    (repeat refine VC_seq ?_); refine VC_region [0, 1, 5] rfl fun K hK => ?_; simp only [go_sem, ↓reduceIte, Nat.reduceEqDiff, Nat.mul_one, Nat.zero_add]
    ((repeat (first | refine ⟨by omega, ?_⟩ | refine ⟨I64.mk (by omega) (by omega), ?_⟩)); refine hK _ _ ?_; clear hK; try clear K)
    ((repeat refine VC_seq ?_); refine VC_block ?_)
    refine VC_loopS [0, 1, 5] (fun m e w' => ∃ i : Nat, Is e [(0, .slice a xs.length c), (1, .slice b ys.length d), (5, .int .i64 i)] ∧ Is w' w ∧ i ≤ xs.length ∧ xs.take i = ys.take i ∧ m = xs.length - i) xs.length ?_ ?_
    · simp only [go_sem, ↓reduceIte, Nat.reduceEqDiff, Nat.mul_one, Nat.zero_add]
      exact ⟨0, rfl, rfl, by omega, rfl, rfl⟩
    rintro m e w' ⟨i, rfl, rfl, g1, g2, rfl⟩
    (repeat refine VC_seq ?_); refine VC_region [0, 1, 5, 14] rfl fun K hK => ?_; simp only [go_sem, ↓reduceIte, Nat.reduceEqDiff, Nat.mul_one, Nat.zero_add]
    ((repeat (first | refine ⟨by omega, ?_⟩ | refine ⟨I64.mk (by omega) (by omega), ?_⟩)); refine hK _ _ ?_; clear hK; try clear K)
    refine VC_cond rfl rfl (fun hlt => ?_) (fun hge => ?_)
    · simp only [decide_eq_true_eq] at hlt
      refine VC_skip ?_
      ((repeat refine VC_seq ?_); refine VC_block ?_)
      obtain ⟨p, rfl⟩ : ∃ p, a = some p := by
        cases a with
        | none => have := ha.2.1 rfl; omega
        | some p => exact ⟨p, rfl⟩
      obtain ⟨q, rfl⟩ : ∃ q, b = some q := by
        cases b with
        | none => have := hb.2.1 rfl; omega
        | some q => exact ⟨q, rfl⟩
      have hx := ha.2.2 p rfl
      have hy := hb.2.2 q rfl
      (repeat refine VC_seq ?_); refine VC_regionQ [0, 1, 5, 25] (by kernel_rfl) (by kernel_rfl) rfl fun K hK => ?_; simp only [go_sem, ↓reduceIte, Nat.reduceEqDiff, Nat.mul_one, Nat.zero_add]
      have cx : w'.cell? (p.add i) = some (.int .i64 (xs.getD i 0)) := hx i _ (by simp [intsV, List.getElem?_eq_getElem (show i < xs.length by omega)])
      have cy : w'.cell? (q.add i) = some (.int .i64 (ys.getD i 0)) := hy i _ (by simp [intsV, List.getElem?_eq_getElem (show i < ys.length by omega)])
      refine ⟨⟨by omega, by omega⟩, _, cx, ⟨by omega, by omega⟩, _, cy, ?_⟩
      simp only [go_sem, ↓reduceIte, Nat.reduceEqDiff, Nat.mul_one, Nat.zero_add]
      (refine hK _ ?_; clear hK; try clear K)
      have tk : xs.take (i + 1) = xs.take i ++ [xs.getD i 0] := by
        rw [List.take_add_one, List.getD_eq_getElem?_getD, List.getElem?_eq_getElem (show i < xs.length by omega)]; rfl
      have tk2 : ys.take (i + 1) = ys.take i ++ [ys.getD i 0] := by
        rw [List.take_add_one, List.getD_eq_getElem?_getD, List.getElem?_eq_getElem (show i < ys.length by omega)]; rfl
      by_cases he : xs.getD i 0 = ys.getD i 0
      · refine VC_cond rfl rfl (fun h => absurd he (by simpa using h)) (fun _ => ?_)
        refine VC_skip (VC_blk ?_)
        (repeat refine VC_seq ?_); refine VC_region [0, 1, 5] rfl fun K hK => ?_; simp only [go_sem, ↓reduceIte, Nat.reduceEqDiff, Nat.mul_one, Nat.zero_add]
        ((repeat (first | refine ⟨by omega, ?_⟩ | refine ⟨I64.mk (by omega) (by omega), ?_⟩)); refine hK _ _ ?_; clear hK; try clear K)
        refine VC_again ?_
        simp only [go_sem, ↓reduceIte, Nat.reduceEqDiff, Nat.mul_one, Nat.zero_add]
        exact ⟨xs.length - (i + 1), by omega, i + 1, rfl, rfl, by omega, by rw [tk, tk2, g2, he], rfl⟩
      · refine VC_cond rfl rfl (fun _ => ?_) (fun h => absurd (by simpa using h) he)
        (repeat refine VC_seq ?_); refine VC_region [4] rfl fun K hK => ?_; simp only [go_sem, ↓reduceIte, Nat.reduceEqDiff, Nat.mul_one, Nat.zero_add]
        ((repeat (first | refine ⟨by omega, ?_⟩ | refine ⟨I64.mk (by omega) (by omega), ?_⟩)); refine hK _ _ ?_; clear hK; try clear K)
        refine VC_ret (VX_ret1 rfl rfl ⟨rfl, ?_⟩)
        rw [decide_eq_false (fun h => he (by rw [h]))]
    · simp only [decide_eq_false_iff_not] at hge
      refine VC_exit rfl ?_
      (repeat refine VC_seq ?_); refine VC_region [4] rfl fun K hK => ?_; simp only [go_sem, ↓reduceIte, Nat.reduceEqDiff, Nat.mul_one, Nat.zero_add]
      ((repeat (first | refine ⟨by omega, ?_⟩ | refine ⟨I64.mk (by omega) (by omega), ?_⟩)); refine hK _ _ ?_; clear hK; try clear K)
      refine VC_ret (VX_ret1 rfl rfl ⟨rfl, ?_⟩)
      have hi : i = xs.length := by omega
      have he : xs = ys := by
        rw [hi, List.take_length, hl, List.take_length] at g2
        exact g2
      rw [decide_eq_true he]
  · refine VC_cond rfl rfl (fun _ => ?_) (fun h => absurd h (by simp; omega))
    (repeat refine VC_seq ?_); refine VC_region [4] rfl fun K hK => ?_; simp only [go_sem, ↓reduceIte, Nat.reduceEqDiff, Nat.mul_one, Nat.zero_add]
    ((repeat (first | refine ⟨by omega, ?_⟩ | refine ⟨I64.mk (by omega) (by omega), ?_⟩)); refine hK _ _ ?_; clear hK; try clear K)
    refine VC_ret (VX_ret1 rfl rfl ⟨rfl, ?_⟩)
    rw [decide_eq_false (fun h => hl (by rw [h]))]
end Go.Proofs.Ytgepfjlecmmokaa
