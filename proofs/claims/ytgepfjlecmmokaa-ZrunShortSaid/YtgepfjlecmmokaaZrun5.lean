/- Runs of noughts: the walk through the reference's Run. -/
import Derived.Test.YtgepfjlecmmokaaZrun4
namespace Go.Proofs.Ytgepfjlecmmokaa
open Go Go.Eng
set_option maxRecDepth 100000
set_option linter.unusedSimpArgs false
set_option linter.unusedVariables false

theorem shN_small (n : Nat) (h : n ≤ 62) : shN IntKind.i64 ((n : Int) % 18446744073709551616) = n := by
  rw [Int.emod_eq_of_lt (by omega) (by omega), shN, show IntKind.i64.bits = 64 from rfl]
  omega

theorem one_shl (n : Nat) (h : n ≤ 62) : (1 : Int) * 2 ^ shN IntKind.i64 ((n : Int) % 18446744073709551616) = ((2 ^ n : Nat) : Int) := by
  rw [shN_small n h, Int.one_mul, Int.natCast_pow]; rfl

theorem rrun_z_does (k : Int) (hk : I64 k) (w : World) : Does Try.prog 22 #[.int .i64 k] w (IntsErr (runS k) w) := by
  refine Does_enter (args := [.int .i64 k]) 42 Try.func22 rfl rfl (of_decide_eq_true rfl) ?_
  simp only [Env.ofArgs]
  (repeat refine VC_seq ?_); refine VC_region [0] rfl fun K hK => ?_; simp only [go_sem, ↓reduceIte, Nat.reduceEqDiff, Nat.mul_one, Nat.zero_add]
  ((repeat (first | refine ⟨by omega, ?_⟩ | refine ⟨I64.mk (by omega) (by omega), ?_⟩)); refine hK _ _ ?_; clear hK; try clear K)
  (repeat refine VC_seq ?_); refine VC_region [0, 13] rfl fun K hK => ?_; simp only [go_sem, ↓reduceIte, Nat.reduceEqDiff, Nat.mul_one, Nat.zero_add]
  have out : (k < 0 ∨ 2147483647 < k) → K [(0, .int .i64 k), (13, .bool true)] w := by
    intro h
    (refine hK _ _ ?_; clear hK; try clear K)
    refine VC_cond rfl rfl (fun _ => ?_) (fun h => by cases h)
    (repeat refine VC_seq ?_); refine VC_region [2, 3] rfl fun K hK => ?_; simp only [go_sem, ↓reduceIte, Nat.reduceEqDiff, Nat.mul_one, Nat.zero_add]
    ((repeat (first | refine ⟨by omega, ?_⟩ | refine ⟨I64.mk (by omega) (by omega), ?_⟩)); refine hK _ _ ?_; clear hK; try clear K)
    refine VC_ret (VX_ret2 rfl rfl rfl ?_)
    rw [runS, if_pos h]
    exact IntsErr.nil (Heap.start w) 2
  refine ⟨fun h1 => ?_, fun h1 => out (.inl h1)⟩
  by_cases h2 : 2147483647 < k
  · rw [decide_eq_true h2]
    exact out (.inr h2)
  rw [decide_eq_false h2]
  clear out
  (refine hK _ _ ?_; clear hK; try clear K)
  refine VC_cond rfl rfl (fun h => by cases h) (fun _ => VC_skip ?_)
  obtain ⟨k, rfl⟩ : ∃ n : Nat, k = n := ⟨k.toNat, by omega⟩
  (repeat refine VC_seq ?_); refine VC_region [0, 4] rfl fun K hK => ?_; simp only [go_sem, ↓reduceIte, Nat.reduceEqDiff, Nat.mul_one, Nat.zero_add]
  ((repeat (first | refine ⟨by omega, ?_⟩ | refine ⟨I64.mk (by omega) (by omega), ?_⟩)); refine hK _ _ ?_; clear hK; try clear K)
  (repeat refine VC_seq ?_)
  refine VC_block ?_
  refine VC_loopS [0, 4] (fun m e w' => ∃ n : Nat, Is e [(0, .int .i64 k), (4, .int .i64 n)] ∧ Is w' w ∧ n ≤ 31 ∧ 2 ^ n ≤ k + 1 ∧ m = 31 - n) 31 ?_ ?_
  · simp only [go_sem, ↓reduceIte, Nat.reduceEqDiff, Nat.mul_one, Nat.zero_add]
    exact ⟨0, rfl, rfl, by omega, by omega, rfl⟩
  rintro m e w' ⟨n, rfl, rfl, g1, g2, rfl⟩
  (repeat refine VC_seq ?_); refine VC_region [0, 4, 20] rfl fun K hK => ?_; simp only [go_sem, ↓reduceIte, Nat.reduceEqDiff, Nat.mul_one, Nat.zero_add]
  have hp : 2 ^ (n + 1) = 2 * 2 ^ n := by rw [Nat.pow_succ]; omega
  have e1 := one_shl (n + 1) (by omega)
  rw [Int.natCast_add, Int.natCast_one] at e1
  rw [e1]
  refine ⟨I64.mk (by omega) (by omega), by omega, I64.mk (by omega) (by omega), I64.mk (by omega) (by omega), ?_⟩
  (refine hK _ _ ?_; clear hK; try clear K)
  refine VC_cond rfl rfl (fun hc => ?_) (fun hc => ?_)
  · simp only [decide_eq_true_eq] at hc
    have hn31 : n + 1 ≤ 31 := by
      by_cases h31 : n = 31
      · subst h31; simp at hc; omega
      · omega
    refine VC_skip (VC_block ?_)
    (repeat refine VC_seq ?_); refine VC_region [0, 4] rfl fun K hK => ?_; simp only [go_sem, ↓reduceIte, Nat.reduceEqDiff, Nat.mul_one, Nat.zero_add]
    ((repeat (first | refine ⟨by omega, ?_⟩ | refine ⟨I64.mk (by omega) (by omega), ?_⟩)); refine hK _ _ ?_; clear hK; try clear K)
    refine VC_blk (VC_again ?_)
    simp only [go_sem, ↓reduceIte, Nat.reduceEqDiff, Nat.mul_one, Nat.zero_add]
    exact ⟨31 - (n + 1), by omega, n + 1, rfl, rfl, hn31, by omega, rfl⟩
  · simp only [decide_eq_false_iff_not] at hc
    refine VC_exit rfl ?_
    have e2 := one_shl n (by omega)
    (repeat refine VC_seq ?_); refine VC_region [4, 5] rfl fun K hK => ?_; simp only [go_sem, ↓reduceIte, Nat.reduceEqDiff, Nat.mul_one, Nat.zero_add]
    rw [e2]
    have e3 : (k : Int) - (((2 ^ n : Nat) : Int) - 1) = ((k + 1 - 2 ^ n : Nat) : Int) := by omega
    have hdig := dig_bind n k g2 (by omega)
    rw [e3]
    generalize hr : k + 1 - 2 ^ n = r at *
    refine ⟨by omega, I64.mk (by omega) (by omega), I64.mk (by omega) (by omega), I64.mk (by omega) (by omega), ?_⟩
    (refine hK _ _ ?_; clear hK; try clear K)
    (repeat refine VC_seq ?_); refine VC_region [4, 5, 6] rfl fun K hK => ?_; simp only [go_sem, ↓reduceIte, Nat.reduceEqDiff, Nat.mul_one, Nat.zero_add]
    ((repeat (first | refine ⟨by omega, ?_⟩ | refine ⟨I64.mk (by omega) (by omega), ?_⟩)); refine hK _ _ ?_; clear hK; try clear K)
    (repeat refine VC_seq ?_); refine VC_region [4, 5, 6, 7] rfl fun K hK => ?_; simp only [go_sem, ↓reduceIte, Nat.reduceEqDiff, Nat.mul_one, Nat.zero_add]
    ((repeat (first | refine ⟨by omega, ?_⟩ | refine ⟨I64.mk (by omega) (by omega), ?_⟩)); refine hK _ _ ?_; clear hK; try clear K)
    ((repeat refine VC_seq ?_); refine VC_block ?_)
    have hrk : r ≤ k := by have := Nat.one_le_two_pow (n := n); omega
    refine VC_loopS [4, 5, 6, 7] (fun m e w2 => ∃ (i s cap : Nat) (a : Option Addr) (o : List Int), Is e [(4, .int .i64 n), (5, .int .i64 s), (6, .slice a o.length cap), (7, .int .i64 i)] ∧ Heap w' [] w2 [Res.row 3 1 a o.length cap (intsV o)] ∧ i ≤ n ∧ o.length = i ∧ s ≤ k ∧ dig k = o ++ bind (n - i) s ∧ m = n - i) n ?_ ?_
    · simp only [go_sem, ↓reduceIte, Nat.reduceEqDiff, Nat.mul_one, Nat.zero_add]
      exact ⟨0, r, 0, none, [], rfl, Heap.one (r := Res.row 3 1 none 0 0 []) (row_nil 3 1 w') (by intro b hb; cases hb), by omega, rfl, hrk, hdig, rfl⟩
    rintro m e w2 ⟨i, s, cap, a, o, rfl, hH, f1, f2, f3, f4, rfl⟩
    (repeat refine VC_seq ?_); refine VC_region [4, 5, 6, 7, 31] rfl fun K hK => ?_; simp only [go_sem, ↓reduceIte, Nat.reduceEqDiff, Nat.mul_one, Nat.zero_add]
    ((repeat (first | refine ⟨by omega, ?_⟩ | refine ⟨I64.mk (by omega) (by omega), ?_⟩)); refine hK _ _ ?_; clear hK; try clear K)
    refine VC_cond rfl rfl (fun hi => ?_) (fun hi => ?_)
    · simp only [decide_eq_true_eq] at hi
      refine VC_skip ?_
      ((repeat refine VC_seq ?_); refine VC_block ?_)
      have hb : bind (n - i) s = ((s % 2 : Nat) : Int) :: bind (n - (i + 1)) (s / 2) := by
        rw [show n - i = (n - (i + 1)) + 1 by omega]; rfl
      rw [hb] at f4
      (repeat refine VC_seq ?_); refine VC_region [4, 5, 6, 7] rfl fun K hK => ?_; simp only [go_sem, ↓reduceIte, Nat.reduceEqDiff, Nat.mul_one, Nat.zero_add]
      refine ⟨by omega, by omega, ?_⟩
      rw [show (s : Int) % 2 = ((s % 2 : Nat) : Int) by omega]
      refine MemK_lit (xs := [.tmp 36]) Try.underlying34 sz3 rfl rfl rfl (by omega) ?_
      simp only [go_sem, ↓reduceIte, Nat.reduceEqDiff, Nat.mul_one, Nat.zero_add]
      refine ⟨by simp [Value.cells], ?_⟩
      refine MemK_append ?_
      simp only [go_sem, ↓reduceIte, Nat.reduceEqDiff, Nat.mul_one, Nat.zero_add]
      refine AppK_int hH 0 rfl Try.underlying34 zi3 (fun h => by simp; omega) fun a' cap' w5 hc' hH4 => ?_
      (try simp only [go_sem, ↓reduceIte, Nat.reduceEqDiff, Nat.mul_one, Nat.zero_add])
      (refine hK _ _ ?_; clear hK; try clear K)
      (repeat refine VC_seq ?_); refine VC_region [4, 5, 6, 7] rfl fun K hK => ?_; simp only [go_sem, ↓reduceIte, Nat.reduceEqDiff, Nat.mul_one, Nat.zero_add]
      ((repeat (first | refine ⟨by omega, ?_⟩ | refine ⟨I64.mk (by omega) (by omega), ?_⟩)); refine hK _ _ ?_; clear hK; try clear K)
      refine VC_blk ?_
      (repeat refine VC_seq ?_); refine VC_region [4, 5, 6, 7] rfl fun K hK => ?_; simp only [go_sem, ↓reduceIte, Nat.reduceEqDiff, Nat.mul_one, Nat.zero_add]
      ((repeat (first | refine ⟨by omega, ?_⟩ | refine ⟨I64.mk (by omega) (by omega), ?_⟩)); refine hK _ _ ?_; clear hK; try clear K)
      refine VC_again ?_
      simp only [go_sem, ↓reduceIte, Nat.reduceEqDiff, Nat.mul_one, Nat.zero_add]
      exact ⟨n - (i + 1), by omega, i + 1, s / 2, cap', a', o ++ [((s % 2 : Nat) : Int)], rfl, hH4, by omega, by simp; omega, by omega, by rw [f4, List.append_assoc]; rfl, rfl⟩
    · simp only [decide_eq_false_iff_not] at hi
      refine VC_exit rfl ?_
      (repeat refine VC_seq ?_); refine VC_region [2, 3] rfl fun K hK => ?_; simp only [go_sem, ↓reduceIte, Nat.reduceEqDiff, Nat.mul_one, Nat.zero_add]
      ((repeat (first | refine ⟨by omega, ?_⟩ | refine ⟨I64.mk (by omega) (by omega), ?_⟩)); refine hK _ _ ?_; clear hK; try clear K)
      refine VC_ret (VX_ret2 rfl rfl rfl ?_)
      rw [runS, if_neg (by omega)]
      have : i = n := by omega
      subst this
      rw [Nat.sub_self, bind, List.append_nil] at f4
      exact ⟨a, cap, by simp only [Int.toNat_natCast]; rw [f4]; exact hH, by simp only [Int.toNat_natCast]; rw [f4]⟩
end Go.Proofs.Ytgepfjlecmmokaa
