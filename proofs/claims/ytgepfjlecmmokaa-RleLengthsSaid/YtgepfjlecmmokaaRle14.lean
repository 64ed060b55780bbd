/- Runs of bytes: the walks through the reference's reader. -/
import Derived.Test.YtgepfjlecmmokaaRle13
namespace Go.Proofs.Ytgepfjlecmmokaa
open Go Go.Eng
set_option maxRecDepth 100000
set_option linter.unusedSimpArgs false
set_option linter.unusedVariables false

/-- How many of the first four letters are as the first. -/
theorem four_eq (l : List UInt8) (n : Nat) (hi : 0 < l.length) (h1 : 1 ≤ n) (h2 : n ≤ 4) (hs : Same l 0 n) (he : n = 4 ∨ l[0 + n]? ≠ l[0]?) : min 4 (runOf l) = n := by
  rcases he with he | he
  · cases l with
    | nil => simp at hi
    | cons b l =>
      have : n - 1 ≤ lead b l := lead_ge b l (n - 1) (fun j hj => by
        have := hs (j + 1) (by omega)
        simpa using this)
      rw [lead_runOf]
      omega
  · have := runOf_eq l 0 n hi h1 (by omega) hs (.inr he)
    rw [List.drop_zero] at this
    omega

theorem same_does (l : List UInt8) (w : World) (hi : 0 < l.length) (hs : l.length ≤ 1000000000000000000) :
    Does Try.prog 30 #[Str l] w fun v w' => w' = w ∧ v = .int .i64 (min 4 (runOf l) : Nat) := by
  refine Does_enter (args := [Str l]) 23 Try.func30 rfl rfl (of_decide_eq_true rfl) ?_
  simp only [Env.ofArgs]
  (repeat refine VC_seq ?_); refine VC_region [0] rfl fun K hK => ?_; simp only [go_sem, ↓reduceIte, Nat.reduceEqDiff, Nat.mul_one, Nat.zero_add]
  ((repeat (first | refine ⟨by omega, ?_⟩ | refine ⟨I64.mk (by omega) (by omega), ?_⟩)); refine hK _ _ ?_; clear hK; try clear K)
  (repeat refine VC_seq ?_); refine VC_region [0, 3] rfl fun K hK => ?_; simp only [go_sem, ↓reduceIte, Nat.reduceEqDiff, Nat.mul_one, Nat.zero_add]
  ((repeat (first | refine ⟨by omega, ?_⟩ | refine ⟨I64.mk (by omega) (by omega), ?_⟩)); refine hK _ _ ?_; clear hK; try clear K)
  ((repeat refine VC_seq ?_); refine VC_block ?_)
  refine VC_loopS [0, 3] (fun m e w' => ∃ n : Nat, Is e [(0, Str l), (3, .int .i64 n)] ∧ Is w' w ∧ 1 ≤ n ∧ n ≤ 4 ∧ n ≤ l.length ∧ Same l 0 n ∧ m = 4 - n) 3 ?_ ?_
  · simp only [go_sem, ↓reduceIte, Nat.reduceEqDiff, Nat.mul_one, Nat.zero_add]
    exact ⟨1, rfl, rfl, by omega, by omega, by omega, fun j hj => by rw [show j = 0 by omega], rfl⟩
  rintro m e w' ⟨n, rfl, rfl, h1, h2, h2', h3, rfl⟩
  (repeat refine VC_seq ?_); refine VC_regionQ [0, 3, 19] (by kernel_rfl) (by kernel_rfl) rfl fun K hK => ?_; simp only [go_sem, ↓reduceIte, Nat.reduceEqDiff, Nat.mul_one, Nat.zero_add]
  have done : (n = 4 ∨ l[0 + n]? ≠ l[0]?) → K [(0, Str l), (3, Value.int IntKind.i64 n), (19, Value.bool false)] := by
    intro hend
    (refine hK _ ?_; clear hK; try clear K)
    refine VC_cond rfl rfl (fun h => by cases h) (fun _ => ?_)
    refine VC_exit rfl ?_
    (repeat refine VC_seq ?_); refine VC_region [2] rfl fun K hK => ?_; simp only [go_sem, ↓reduceIte, Nat.reduceEqDiff, Nat.mul_one, Nat.zero_add]
    (refine hK _ _ ?_; clear hK; try clear K)
    refine VC_ret (VX_ret1 rfl rfl ⟨rfl, ?_⟩)
    rw [four_eq l n hi h1 h2 h3 hend]
  refine ⟨fun k1 => ⟨fun k2 => ⟨by omega, by omega, ?_⟩, fun k2 => done (.inl (by omega))⟩, fun k1 => ?_⟩
  · by_cases hc : l[0 + n]? = l[0]?
    · (refine hK _ ?_; clear hK; try clear K)
      refine VC_cond rfl rfl (fun h => ?_) (fun h => ?_)
      · refine VC_skip (VC_block ?_)
        (repeat refine VC_seq ?_); refine VC_region [0, 3] rfl fun K hK => ?_; simp only [go_sem, ↓reduceIte, Nat.reduceEqDiff, Nat.mul_one, Nat.zero_add]
        ((repeat (first | refine ⟨by omega, ?_⟩ | refine ⟨I64.mk (by omega) (by omega), ?_⟩)); refine hK _ _ ?_; clear hK; try clear K)
        refine VC_blk (VC_again ?_)
        simp only [go_sem, ↓reduceIte, Nat.reduceEqDiff, Nat.mul_one, Nat.zero_add]
        refine ⟨4 - (n + 1), by omega, n + 1, rfl, rfl, by omega, by omega, by omega, ?_, rfl⟩
        intro j hj
        by_cases hjn : j = n
        · rw [hjn]; exact hc
        · exact h3 j (by omega)
      · exfalso
        simp only [decide_eq_false_iff_not] at h
        rw [show (0 : Int).toNat = 0 from rfl, getD_eq_iff (by omega) hi] at h
        exact h (by simpa using hc)
    · have e : decide ((((l.getD n 0).toNat : Nat) : Int) = (((l.getD (0 : Int).toNat 0).toNat : Nat) : Int)) = false := by
        rw [decide_eq_false_iff_not, show (0 : Int).toNat = 0 from rfl, getD_eq_iff (by omega) hi]
        simpa using hc
      rw [e]
      exact done (.inr hc)
  · exact done (.inr (by rw [List.getElem?_eq_none (by omega), List.getElem?_eq_getElem hi]; simp))
end Go.Proofs.Ytgepfjlecmmokaa
