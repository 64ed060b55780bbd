/- Runs of noughts: the walks through the digits. -/
import Derived.Test.YtgepfjlecmmokaaZrun1
namespace Go.Proofs.Ytgepfjlecmmokaa
open Go Go.Eng
set_option maxRecDepth 100000
set_option linter.unusedSimpArgs false
set_option linter.unusedVariables false

theorem digits_does (k : Nat) (w : World) (hk : k ≤ 17592186044416) :
    Does Try.prog 31 #[.int .i64 k] w fun v w' => ∃ a cap, Heap w [] w' [Res.row 3 1 a (dig k).length cap (intsV (dig k))] ∧ v = .slice a (dig k).length cap := by
  refine Does_enter (args := [.int .i64 k]) 16 Try.func31 rfl rfl (of_decide_eq_true rfl) ?_
  simp only [Env.ofArgs]
  (repeat refine VC_seq ?_); refine VC_region [0] rfl fun K hK => ?_; simp only [go_sem, ↓reduceIte, Nat.reduceEqDiff, Nat.mul_one, Nat.zero_add]
  ((repeat (first | refine ⟨by omega, ?_⟩ | refine ⟨I64.mk (by omega) (by omega), ?_⟩)); refine hK _ _ ?_; clear hK; try clear K)
  (repeat refine VC_seq ?_); refine VC_region [0, 3] rfl fun K hK => ?_; simp only [go_sem, ↓reduceIte, Nat.reduceEqDiff, Nat.mul_one, Nat.zero_add]
  ((repeat (first | refine ⟨by omega, ?_⟩ | refine ⟨I64.mk (by omega) (by omega), ?_⟩)); refine hK _ _ ?_; clear hK; try clear K)
  ((repeat refine VC_seq ?_); refine VC_block ?_)
  refine VC_loopS [0, 3] (fun m e w' => ∃ (j cap : Nat) (a : Option Addr) (o : List Int), Is e [(0, .int .i64 j), (3, .slice a o.length cap)] ∧ Heap w [] w' [Res.row 3 1 a o.length cap (intsV o)] ∧ j ≤ k ∧ o.length + j ≤ k ∧ dig k = o ++ dig j ∧ m = j) k ?_ ?_
  · simp only [go_sem, ↓reduceIte, Nat.reduceEqDiff, Nat.mul_one, Nat.zero_add]
    exact ⟨k, 0, none, [], rfl, Heap.one (r := Res.row 3 1 none 0 0 []) (row_nil 3 1 w) (by intro b hb; cases hb), by omega, by simp, rfl, rfl⟩
  rintro m e w2 ⟨j, cap, a, o, rfl, hH, h1, h2, h3, rfl⟩
  (repeat refine VC_seq ?_); refine VC_region [0, 3, 5] rfl fun K hK => ?_; simp only [go_sem, ↓reduceIte, Nat.reduceEqDiff, Nat.mul_one, Nat.zero_add]
  ((repeat (first | refine ⟨by omega, ?_⟩ | refine ⟨I64.mk (by omega) (by omega), ?_⟩)); refine hK _ _ ?_; clear hK; try clear K)
  refine VC_cond rfl rfl (fun hlt => ?_) (fun hge => ?_)
  · simp only [decide_eq_true_eq] at hlt
    refine VC_skip (VC_block ?_)
    (repeat refine VC_seq ?_); refine VC_region [0, 3] rfl fun K hK => ?_; simp only [go_sem, ↓reduceIte, Nat.reduceEqDiff, Nat.mul_one, Nat.zero_add]
    ((repeat (first | refine ⟨by omega, ?_⟩ | refine ⟨I64.mk (by omega) (by omega), ?_⟩)); refine hK _ _ ?_; clear hK; try clear K)
    (repeat refine VC_seq ?_); refine VC_region [0, 3] rfl fun K hK => ?_; simp only [go_sem, ↓reduceIte, Nat.reduceEqDiff, Nat.mul_one, Nat.zero_add]
    refine ⟨⟨by omega, by omega⟩, ⟨by decide, by decide⟩, ?_⟩
    rw [show Int.toNat 1 = 1 from rfl, Nat.and_one_is_mod]
    refine MemK_lit (xs := [.tmp 10]) Try.underlying34 sz3 rfl rfl rfl (by omega) ?_
    simp only [go_sem, ↓reduceIte, Nat.reduceEqDiff, Nat.mul_one, Nat.zero_add]
    refine ⟨by simp [Value.cells], ?_⟩
    refine MemK_append ?_
    simp only [go_sem, ↓reduceIte, Nat.reduceEqDiff, Nat.mul_one, Nat.zero_add]
    refine AppK_int hH 0 rfl Try.underlying34 zi3 (fun h => by simp; omega) fun a' cap' w5 hc' hH4 => ?_
    (try simp only [go_sem, ↓reduceIte, Nat.reduceEqDiff, Nat.mul_one, Nat.zero_add])
    (refine hK _ _ ?_; clear hK; try clear K)
    (repeat refine VC_seq ?_); refine VC_region [0, 3] rfl fun K hK => ?_; simp only [go_sem, ↓reduceIte, Nat.reduceEqDiff, Nat.mul_one, Nat.zero_add]
    ((repeat (first | refine ⟨by omega, ?_⟩ | refine ⟨I64.mk (by omega) (by omega), ?_⟩)); refine hK _ _ ?_; clear hK; try clear K)
    refine VC_blk (VC_again ?_)
    simp only [go_sem, ↓reduceIte, Nat.reduceEqDiff, Nat.mul_one, Nat.zero_add]
    obtain ⟨j, rfl⟩ : ∃ j, m = j + 1 := ⟨m - 1, by omega⟩
    have e1 : (((j + 1 : Nat) : Int) - 1) / 2 ^ shN IntKind.i64 1 = ((j / 2 : Nat) : Int) := by
      rw [show shN IntKind.i64 1 = 1 by decide, show (((j + 1 : Nat) : Int) - 1) = (j : Int) by omega]
      omega
    rw [e1]
    rw [dig_succ] at h3
    exact ⟨j / 2, by omega, j / 2, cap', a', o ++ [((j % 2 : Nat) : Int)], rfl, hH4, by omega, by simp; omega, by rw [h3, List.append_assoc]; rfl, rfl⟩
  · simp only [decide_eq_false_iff_not] at hge
    refine VC_exit rfl ?_
    (repeat refine VC_seq ?_); refine VC_region [2] rfl fun K hK => ?_; simp only [go_sem, ↓reduceIte, Nat.reduceEqDiff, Nat.mul_one, Nat.zero_add]
    ((repeat (first | refine ⟨by omega, ?_⟩ | refine ⟨I64.mk (by omega) (by omega), ?_⟩)); refine hK _ _ ?_; clear hK; try clear K)
    refine VC_ret (VX_ret1 rfl rfl ?_)
    have : m = 0 := by omega
    subst this
    rw [dig_zero, List.append_nil] at h3
    rw [h3]
    exact ⟨a, cap, hH, rfl⟩

def runS (k : Int) : List Int × Int := if k < 0 ∨ 2147483647 < k then ([], 2) else (dig k.toNat, 0)

/-- A slice of integers of the call's own is handed back, and a number. -/
def IntsErr (p : List Int × Int) (w : World) (v : Value) (w' : World) : Prop :=
  ∃ a cap, Heap w [] w' [Res.row 3 1 a p.1.length cap (intsV p.1)] ∧ v = .tuple #[.slice a p.1.length cap, .int .i64 p.2]

theorem IntsErr.nil {w w' : World} (h : Heap w [] w' []) (e : Int) : IntsErr ([], e) w (.tuple #[.slice none 0 0, .int .i64 e]) w' :=
  ⟨none, 0, h.call0 (Heap.one (r := Res.row 3 1 none 0 0 []) (row_nil 3 1 w') (by intro b hb; cases hb)), rfl⟩

theorem run_z_does (k : Int) (hk : I64 k) (w : World) : Does Try.prog 21 #[.int .i64 k] w (IntsErr (runS k) w) := by
  refine Does_enter (args := [.int .i64 k]) 12 Try.func21 rfl rfl (of_decide_eq_true rfl) ?_
  simp only [Env.ofArgs]
  (repeat refine VC_seq ?_); refine VC_region [0] rfl fun K hK => ?_; simp only [go_sem, ↓reduceIte, Nat.reduceEqDiff, Nat.mul_one, Nat.zero_add]
  ((repeat (first | refine ⟨by omega, ?_⟩ | refine ⟨I64.mk (by omega) (by omega), ?_⟩)); refine hK _ _ ?_; clear hK; try clear K)
  (repeat refine VC_seq ?_); refine VC_region [0, 9] rfl fun K hK => ?_; simp only [go_sem, ↓reduceIte, Nat.reduceEqDiff, Nat.mul_one, Nat.zero_add]
  have out : (k < 0 ∨ 2147483647 < k) → K [(0, .int .i64 k), (9, .bool true)] w := by
    intro h
    (refine hK _ _ ?_; clear hK; try clear K)
    refine VC_cond rfl rfl (fun _ => ?_) (fun h => by cases h)
    (repeat refine VC_seq ?_); refine VC_region [2, 3] rfl fun K hK => ?_; simp only [go_sem, ↓reduceIte, Nat.reduceEqDiff, Nat.mul_one, Nat.zero_add]
    ((repeat (first | refine ⟨by omega, ?_⟩ | refine ⟨I64.mk (by omega) (by omega), ?_⟩)); refine hK _ _ ?_; clear hK; try clear K)
    refine VC_ret (VX_ret2 rfl rfl rfl ?_)
    rw [runS, if_pos h]
    exact IntsErr.nil (Heap.start w) 2
  refine ⟨fun h1 => ?_, fun h1 => out (.inl h1)⟩
  by_cases h2 : 2147483647 < k
  · rw [decide_eq_true h2]
    exact out (.inr h2)
  rw [decide_eq_false h2]
  clear out
  (refine hK _ _ ?_; clear hK; try clear K)
  refine VC_cond rfl rfl (fun h => by cases h) (fun _ => VC_skip ?_)
  obtain ⟨n, rfl⟩ : ∃ n : Nat, k = n := ⟨k.toNat, by omega⟩
  (repeat refine VC_seq ?_); refine VC_region [2, 3] rfl fun K hK => ?_; simp only [go_sem, ↓reduceIte, Nat.reduceEqDiff, Nat.mul_one, Nat.zero_add]
  refine MemK_call Try.call31 ?_; simp only [go_sem, ↓reduceIte, Nat.reduceEqDiff, Nat.mul_one, Nat.zero_add]; refine CallK.mk (digits_does n w (by omega)) ?_
  rintro v w2 ⟨a, cap, hH, rfl⟩
  (try simp only [go_sem, ↓reduceIte, Nat.reduceEqDiff, Nat.mul_one, Nat.zero_add])
  (refine hK _ _ ?_; clear hK; try clear K)
  refine VC_ret (VX_ret2 rfl rfl rfl ?_)
  rw [runS, if_neg (by omega)]
  exact ⟨a, cap, hH, rfl⟩
end Go.Proofs.Ytgepfjlecmmokaa
