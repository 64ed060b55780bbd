/- Runs of noughts: what Decode answers; the walks of the program's. -/
import Derived.Test.YtgepfjlecmmokaaZrun7
namespace Go.Proofs.Ytgepfjlecmmokaa
open Go Go.Eng
set_option maxRecDepth 100000
set_option linter.unusedSimpArgs false
set_option linter.unusedVariables false

/-- Behind the end. -/
def zend (n : Int) (out : List Int) : List Int → List Int × Int
  | [] => (out, 0)
  | x :: _ => if x < 0 ∨ n + 1 < x then ([], 60) else ([], 70)

/-- Reading symbols. -/
def zdec (n most : Int) : List Int → Nat → List Int → List Int × Int
  | _, _, [] => ([], 70)
  | out, wt, s :: r => if s < 0 ∨ n + 1 < s then ([], 60)
    else if s < 2 then (if most - out.length < (s + 1) * wt then ([], 3) else zdec n most (out ++ List.replicate ((s + 1) * wt).toNat 0) (2 * wt) r)
    else if s = n + 1 then zend n out r
    else if most ≤ out.length then ([], 3) else zdec n most (out ++ [s - 1]) 1 r

def zdecode (n most : Int) (l : List Int) : List Int × Int := if n < 1 ∨ 256 < n ∨ most < 0 ∨ 262144 < most then ([], 2) else zdec n most [] 1 l

theorem behind_does (n s : Int) (hn : I64 n) (hn2 : n ≤ 256) (hs : I64 s) (w : World) : Does Try.prog 32 #[.int .i64 n, .int .i64 s] w fun v w' => w' = w ∧ v = .int .i64 (if s < 0 ∨ n + 1 < s then 60 else 70) := by
  obtain ⟨hn1, hn3⟩ := hn
  refine Does_enter (args := [.int .i64 n, .int .i64 s]) 13 Try.func32 rfl rfl (of_decide_eq_true rfl) ?_
  simp only [Env.ofArgs]
  (repeat refine VC_seq ?_); refine VC_region [0, 1] rfl fun K hK => ?_; simp only [go_sem, ↓reduceIte, Nat.reduceEqDiff, Nat.mul_one, Nat.zero_add]
  ((repeat (first | refine ⟨by omega, ?_⟩ | refine ⟨I64.mk (by omega) (by omega), ?_⟩)); refine hK _ _ ?_; clear hK; try clear K)
  by_cases hn4 : n = -9223372036854775808
  all_goals
    (repeat refine VC_seq ?_); refine VC_region [12] rfl fun K hK => ?_; simp only [go_sem, ↓reduceIte, Nat.reduceEqDiff, Nat.mul_one, Nat.zero_add]
    suffices out : ∀ b : Bool, (b = true ↔ s < 0 ∨ n + 1 < s) → K [(12, .bool b)] w by (repeat' (first | exact out _ _ (by first | omega | (simp; done) | (simp; omega)) | exact out _ (by first | omega | (simp; done) | (simp; omega)) | refine ⟨fun _ => ?_, fun _ => ?_⟩ | refine ⟨by omega, ?_⟩ | refine ⟨I64.mk (by omega) (by omega), ?_⟩ | refine ⟨⟨by omega, by omega⟩, ?_⟩))
    intro b hb
    (refine hK _ _ ?_; clear hK; try clear K)
    refine VC_cond rfl rfl (fun h => ?_) (fun h => VC_skip ?_)
    · (repeat refine VC_seq ?_); refine VC_region [4] rfl fun K hK => ?_; simp only [go_sem, ↓reduceIte, Nat.reduceEqDiff, Nat.mul_one, Nat.zero_add]
      ((repeat (first | refine ⟨by omega, ?_⟩ | refine ⟨I64.mk (by omega) (by omega), ?_⟩)); refine hK _ _ ?_; clear hK; try clear K)
      refine VC_ret (VX_ret1 rfl rfl ⟨rfl, ?_⟩)
      rw [if_pos (hb.1 h)]
    (repeat refine VC_seq ?_); refine VC_region [4] rfl fun K hK => ?_; simp only [go_sem, ↓reduceIte, Nat.reduceEqDiff, Nat.mul_one, Nat.zero_add]
    ((repeat (first | refine ⟨by omega, ?_⟩ | refine ⟨I64.mk (by omega) (by omega), ?_⟩)); refine hK _ _ ?_; clear hK; try clear K)
    refine VC_ret (VX_ret1 rfl rfl ⟨rfl, ?_⟩)
    rw [if_neg (fun h' => by rw [hb.2 h'] at h; cases h)]

theorem intsV_zero (m : Nat) : List.replicate m (Value.int .i64 0) = intsV (List.replicate m 0) := by simp [intsV]

theorem noughts_does (o : List Int) (a : Option Addr) (cap : Nat) (k most : Int) (w : World) (hk : 0 ≤ k ∧ k ≤ 100000000) (hm : 0 ≤ most ∧ most ≤ 1000000) (ho : o.length ≤ 1000000)
    (hL : Heap w (Res.row 3 1 a o.length cap (intsV o)).foot w [Res.row 3 1 a o.length cap (intsV o)]) :
    Does Try.prog 33 #[.slice a o.length cap, .int .i64 k, .int .i64 most] w fun v w' =>
      (most - o.length < k ∧ w' = w ∧ v = .tuple #[.slice none 0 0, .bool false]) ∨ (¬ most - o.length < k ∧ ∃ a' cap', Heap w (Res.row 3 1 a o.length cap (intsV o)).foot w' [Res.row 3 1 a' (o ++ List.replicate k.toNat 0).length cap' (intsV (o ++ List.replicate k.toNat 0))] ∧ v = .tuple #[.slice a' (o ++ List.replicate k.toNat 0).length cap', .bool true]) := by
  refine Does_enter (args := [.slice a o.length cap, .int .i64 k, .int .i64 most]) 17 Try.func33 rfl rfl (of_decide_eq_true rfl) ?_
  simp only [Env.ofArgs]
  (repeat refine VC_seq ?_); refine VC_region [0, 1, 2] rfl fun K hK => ?_; simp only [go_sem, ↓reduceIte, Nat.reduceEqDiff, Nat.mul_one, Nat.zero_add]
  ((repeat (first | refine ⟨by omega, ?_⟩ | refine ⟨I64.mk (by omega) (by omega), ?_⟩)); refine hK _ _ ?_; clear hK; try clear K)
  (repeat refine VC_seq ?_); refine VC_region [0, 1, 13] rfl fun K hK => ?_; simp only [go_sem, ↓reduceIte, Nat.reduceEqDiff, Nat.mul_one, Nat.zero_add]
  ((repeat (first | refine ⟨by omega, ?_⟩ | refine ⟨I64.mk (by omega) (by omega), ?_⟩)); refine hK _ _ ?_; clear hK; try clear K)
  refine VC_cond rfl rfl (fun h => ?_) (fun h => ?_) -- t13
  · simp only [decide_eq_true_eq] at h
    (repeat refine VC_seq ?_); refine VC_region [6, 7] rfl fun K hK => ?_; simp only [go_sem, ↓reduceIte, Nat.reduceEqDiff, Nat.mul_one, Nat.zero_add]
    ((repeat (first | refine ⟨by omega, ?_⟩ | refine ⟨I64.mk (by omega) (by omega), ?_⟩)); refine hK _ _ ?_; clear hK; try clear K)
    refine VC_ret (VX_ret2 rfl rfl rfl ?_) -- RET (6, t6), (7, t7)
    exact .inl ⟨h, rfl, rfl⟩
  simp only [decide_eq_false_iff_not] at h
  refine VC_skip ?_
  (repeat refine VC_seq ?_); refine VC_region [6, 7] rfl fun K hK => ?_; simp only [go_sem, ↓reduceIte, Nat.reduceEqDiff, Nat.mul_one, Nat.zero_add]
  refine MemK_append ?_
  simp only [go_sem, ↓reduceIte, Nat.reduceEqDiff, Nat.mul_one, Nat.zero_add]
  obtain ⟨k, rfl⟩ : ∃ n : Nat, k = n := ⟨k.toNat, by omega⟩
  have el : o.length + k = (o ++ List.replicate k 0).length := by simp
  refine AppK_zeros hL 0 rfl rfl Try.underlying34 zi3 Try.underlying3 rfl (by omega) fun a' cap' w5 hc' hH4 => ?_ -- T[34, 3]
  rw [intsV_zero, ← intsV_append, el] at hH4
  rw [el]
  (try simp only [go_sem, ↓reduceIte, Nat.reduceEqDiff, Nat.mul_one, Nat.zero_add])
  (refine hK _ _ ?_; clear hK; try clear K)
  refine VC_ret (VX_ret2 rfl rfl rfl ?_) -- RET (6, t6), (7, t7)
  exact .inr ⟨h, a', cap', hH4, rfl⟩
end Go.Proofs.Ytgepfjlecmmokaa
