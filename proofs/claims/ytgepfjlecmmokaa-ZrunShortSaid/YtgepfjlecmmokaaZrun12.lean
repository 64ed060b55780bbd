/- Runs of noughts: the walks of the laws against the reference. -/
import Derived.Test.YtgepfjlecmmokaaZrun11
namespace Go.Proofs.Ytgepfjlecmmokaa
open Go Go.Eng
set_option maxRecDepth 100000
set_option linter.unusedSimpArgs false
set_option linter.unusedVariables false

theorem law9_does (k : Int) (hk : I64 k) (w : World) : Does Try.prog 9 #[.int .i64 k] w fun v w' => Heap w [] w' [] ∧ v = .bool true := by
  have hlen : (runS k).1.length ≤ 2147483647 := by
    rw [runS]
    split
    · simp
    · have := dig_length k.toNat k.toNat (Nat.le_refl _); simp only; omega
  refine Does_enter (args := [.int .i64 k]) 28 Try.func9 rfl rfl (of_decide_eq_true rfl) ?_
  simp only [Env.ofArgs]
  (repeat refine VC_seq ?_); refine VC_region [0] rfl fun K hK => ?_; simp only [go_sem, ↓reduceIte, Nat.reduceEqDiff, Nat.mul_one, Nat.zero_add]
  ((repeat (first | refine ⟨by omega, ?_⟩ | refine ⟨I64.mk (by omega) (by omega), ?_⟩)); refine hK _ _ ?_; clear hK; try clear K)
  generalize hp : runS k = p at hlen
  (repeat refine VC_seq ?_); refine VC_region [0, 3, 4] rfl fun K hK => ?_; simp only [go_sem, ↓reduceIte, Nat.reduceEqDiff, Nat.mul_one, Nat.zero_add]
  refine MemK_call Try.call21 ?_; simp only [go_sem, ↓reduceIte, Nat.reduceEqDiff, Nat.mul_one, Nat.zero_add]; refine CallK.mk (run_z_does k hk w) ?_
  rw [hp]
  rintro v w2 ⟨a1, c1, hH1, rfl⟩
  (try simp only [go_sem, ↓reduceIte, Nat.reduceEqDiff, Nat.mul_one, Nat.zero_add])
  (refine hK _ _ ?_; clear hK; try clear K)
  (repeat refine VC_seq ?_); refine VC_region [3, 4, 5, 6] rfl fun K hK => ?_; simp only [go_sem, ↓reduceIte, Nat.reduceEqDiff, Nat.mul_one, Nat.zero_add]
  refine MemK_call Try.call22 ?_; simp only [go_sem, ↓reduceIte, Nat.reduceEqDiff, Nat.mul_one, Nat.zero_add]; refine CallK.mk (rrun_z_does k hk w2) ?_
  rw [hp]
  rintro v w3 ⟨a2, c2, hH2, rfl⟩
  (try simp only [go_sem, ↓reduceIte, Nat.reduceEqDiff, Nat.mul_one, Nat.zero_add])
  (refine hK _ _ ?_; clear hK; try clear K)
  have hH3 := hH1.call0 hH2
  (repeat refine VC_seq ?_); refine VC_region [2] rfl fun K hK => ?_; simp only [go_sem, ↓reduceIte, Nat.reduceEqDiff, Nat.mul_one, Nat.zero_add]
  refine MemK_call Try.call23 ?_; simp only [go_sem, ↓reduceIte, Nat.reduceEqDiff, Nat.mul_one, Nat.zero_add]; refine CallK.mk (ints_does p.1 p.1 _ _ c1 c2 _ (row_rs (hH3.at 1 rfl)) (row_rs (hH3.at 0 rfl)) (by omega) (by omega)) ?_
  rintro v w4 ⟨rfl, rfl⟩
  simp only [true_implies, false_implies, implies_true, and_true, true_and, not_true_eq_false, not_false_eq_true, reduceCtorEq, decide_true]
  (try simp only [go_sem, ↓reduceIte, Nat.reduceEqDiff, Nat.mul_one, Nat.zero_add])
  simp only [true_implies, false_implies, implies_true, and_true, true_and, not_true_eq_false, not_false_eq_true, reduceCtorEq, decide_true]
  refine MemK_call Try.call24 ?_; simp only [go_sem, ↓reduceIte, Nat.reduceEqDiff, Nat.mul_one, Nat.zero_add]; refine CallK.mk (zawake_does w4) ?_
  rintro v w5 ⟨hH4, rfl⟩
  (try simp only [go_sem, ↓reduceIte, Nat.reduceEqDiff, Nat.mul_one, Nat.zero_add])
  (refine hK _ _ ?_; clear hK; try clear K)
  exact VC_ret (VX_ret1 rfl rfl ⟨(hH3.call0 hH4).sub (by simp), rfl⟩)

theorem zgo_length (n : Int) : ∀ (l o : List Int) (z : Nat), (zgo n o z l).1.length ≤ o.length + z + l.length + 1
  | [], o, z => by
    have := dig_length z z (Nat.le_refl _)
    simp [zgo]; omega
  | v :: r, o, z => by
    have hd := dig_length z z (Nat.le_refl _)
    rw [zgo]
    split
    · have := zgo_length n r o (z + 1); simp; omega
    · split
      · simp
      · have := zgo_length n r (o ++ dig z ++ [v + 1]) 0
        simp at this ⊢; omega
theorem zenc_length (n : Int) (l : List Int) : (zenc n l).1.length ≤ l.length + 1 := by
  rw [zenc]
  split
  · simp
  · have := zgo_length n l [] 0; simp at this; omega

theorem law10_does (n : Int) (l : List Int) (la : Option Addr) (lc : Nat) (hn : I64 n) (w : World) (hl : RS w la l.length 1 (intsV l)) (hi : ∀ v ∈ l, I64 v) : Does Try.prog 10 #[.int .i64 n, .slice la l.length lc] w fun v w' => Heap w [] w' [] ∧ v = .bool true := by
  refine Does_enter (args := [.int .i64 n, .slice la l.length lc]) 36 Try.func10 rfl rfl (of_decide_eq_true rfl) ?_
  simp only [Env.ofArgs]
  (repeat refine VC_seq ?_); refine VC_region [0, 1] rfl fun K hK => ?_; simp only [go_sem, ↓reduceIte, Nat.reduceEqDiff, Nat.mul_one, Nat.zero_add]
  ((repeat (first | refine ⟨by omega, ?_⟩ | refine ⟨I64.mk (by omega) (by omega), ?_⟩)); refine hK _ _ ?_; clear hK; try clear K)
  (repeat refine VC_seq ?_); refine VC_region [0, 1, 11] rfl fun K hK => ?_; simp only [go_sem, ↓reduceIte, Nat.reduceEqDiff, Nat.mul_one, Nat.zero_add]
  ((repeat (first | refine ⟨by omega, ?_⟩ | refine ⟨I64.mk (by omega) (by omega), ?_⟩)); refine hK _ _ ?_; clear hK; try clear K)
  refine VC_cond rfl rfl (fun h => ?_) (fun h => VC_skip ?_) -- t11
  · (repeat refine VC_seq ?_); refine VC_region [4] rfl fun K hK => ?_; simp only [go_sem, ↓reduceIte, Nat.reduceEqDiff, Nat.mul_one, Nat.zero_add]
    refine MemK_call Try.call24 ?_; simp only [go_sem, ↓reduceIte, Nat.reduceEqDiff, Nat.mul_one, Nat.zero_add]; refine CallK.mk (zawake_does w) ?_
    rintro v w5 ⟨hH4, rfl⟩
    (try simp only [go_sem, ↓reduceIte, Nat.reduceEqDiff, Nat.mul_one, Nat.zero_add])
    (refine hK _ _ ?_; clear hK; try clear K)
    exact VC_ret (VX_ret1 rfl rfl ⟨hH4, rfl⟩)
  simp only [decide_eq_false_iff_not] at h
  have hlen := zenc_length n l
  generalize hp : zenc n l = p at hlen
  (repeat refine VC_seq ?_); refine VC_region [0, 1, 5, 6] rfl fun K hK => ?_; simp only [go_sem, ↓reduceIte, Nat.reduceEqDiff, Nat.mul_one, Nat.zero_add]
  refine MemK_call Try.call25 ?_; simp only [go_sem, ↓reduceIte, Nat.reduceEqDiff, Nat.mul_one, Nat.zero_add]; refine CallK.mk (zenc_does n l la lc hn w hl (by omega) hi) ?_
  rw [hp]
  rintro v w2 ⟨a1, c1, hH1, rfl⟩
  (try simp only [go_sem, ↓reduceIte, Nat.reduceEqDiff, Nat.mul_one, Nat.zero_add])
  (refine hK _ _ ?_; clear hK; try clear K)
  (repeat refine VC_seq ?_); refine VC_region [5, 6, 7, 8] rfl fun K hK => ?_; simp only [go_sem, ↓reduceIte, Nat.reduceEqDiff, Nat.mul_one, Nat.zero_add]
  refine MemK_call Try.call26 ?_; simp only [go_sem, ↓reduceIte, Nat.reduceEqDiff, Nat.mul_one, Nat.zero_add]; refine CallK.mk (rzenc_does n l la lc hn w2 (hH1.rs' hl) (by omega) hi) ?_
  rw [hp]
  rintro v w3 ⟨a2, c2, hH2, rfl⟩
  (try simp only [go_sem, ↓reduceIte, Nat.reduceEqDiff, Nat.mul_one, Nat.zero_add])
  (refine hK _ _ ?_; clear hK; try clear K)
  have hH3 := hH1.call0 hH2
  (repeat refine VC_seq ?_); refine VC_region [4] rfl fun K hK => ?_; simp only [go_sem, ↓reduceIte, Nat.reduceEqDiff, Nat.mul_one, Nat.zero_add]
  refine MemK_call Try.call23 ?_; simp only [go_sem, ↓reduceIte, Nat.reduceEqDiff, Nat.mul_one, Nat.zero_add]; refine CallK.mk (ints_does p.1 p.1 _ _ c1 c2 _ (row_rs (hH3.at 1 rfl)) (row_rs (hH3.at 0 rfl)) (by omega) (by omega)) ?_
  rintro v w4 ⟨rfl, rfl⟩
  simp only [true_implies, false_implies, implies_true, and_true, true_and, not_true_eq_false, not_false_eq_true, reduceCtorEq, decide_true]
  (try simp only [go_sem, ↓reduceIte, Nat.reduceEqDiff, Nat.mul_one, Nat.zero_add])
  simp only [true_implies, false_implies, implies_true, and_true, true_and, not_true_eq_false, not_false_eq_true, reduceCtorEq, decide_true]
  refine MemK_call Try.call24 ?_; simp only [go_sem, ↓reduceIte, Nat.reduceEqDiff, Nat.mul_one, Nat.zero_add]; refine CallK.mk (zawake_does w4) ?_
  rintro v w5 ⟨hH4, rfl⟩
  (try simp only [go_sem, ↓reduceIte, Nat.reduceEqDiff, Nat.mul_one, Nat.zero_add])
  (refine hK _ _ ?_; clear hK; try clear K)
  exact VC_ret (VX_ret1 rfl rfl ⟨(hH3.call0 hH4).sub (by simp), rfl⟩)

theorem zdec_length (n most : Int) : ∀ (l o : List Int) (wt : Nat), (o.length : Int) ≤ most → 0 ≤ most → ((zdec n most o wt l).1.length : Int) ≤ most
  | [], o, wt, _, h => by simpa [zdec] using h
  | s :: r, o, wt, h, h0 => by
    rw [zdec]
    split
    · simpa using h0
    split
    · split
      · simpa using h0
      · refine zdec_length n most r _ _ ?_ h0
        simp
        omega
    split
    · rw [zend.eq_def]
      split
      · exact h
      · split <;> simpa using h0
    split
    · simpa using h0
    · refine zdec_length n most r _ _ ?_ h0
      simp
      omega
theorem zdecode_length (n most : Int) (l : List Int) : (zdecode n most l).1.length ≤ 262144 := by
  rw [zdecode]
  split
  · simp
  · have := zdec_length n most l [] 1 (by simp; omega) (by omega)
    omega

theorem law11_does (n most : Int) (l : List Int) (la : Option Addr) (lc : Nat) (hn : I64 n) (hm : I64 most) (w : World) (hl : RS w la l.length 1 (intsV l)) (hi : ∀ v ∈ l, I64 v) : Does Try.prog 11 #[.int .i64 n, .int .i64 most, .slice la l.length lc] w fun v w' => Heap w [] w' [] ∧ v = .bool true := by
  refine Does_enter (args := [.int .i64 n, .int .i64 most, .slice la l.length lc]) 48 Try.func11 rfl rfl (of_decide_eq_true rfl) ?_
  simp only [Env.ofArgs]
  (repeat refine VC_seq ?_); refine VC_region [0, 1, 2] rfl fun K hK => ?_; simp only [go_sem, ↓reduceIte, Nat.reduceEqDiff, Nat.mul_one, Nat.zero_add]
  ((repeat (first | refine ⟨by omega, ?_⟩ | refine ⟨I64.mk (by omega) (by omega), ?_⟩)); refine hK _ _ ?_; clear hK; try clear K)
  (repeat refine VC_seq ?_); refine VC_region [0, 1, 2, 21] rfl fun K hK => ?_; simp only [go_sem, ↓reduceIte, Nat.reduceEqDiff, Nat.mul_one, Nat.zero_add]
  suffices out : ∀ b : Bool, (b = true ↔ 5000 < l.length ∨ 5000 < most ∧ most ≤ 262144) → K [(0, .int .i64 n), (1, .int .i64 most), (2, .slice la l.length lc), (21, .bool b)] w by (repeat' (first | exact out _ _ (by first | omega | (simp; done) | (simp; omega)) | exact out _ (by first | omega | (simp; done) | (simp; omega)) | refine ⟨fun _ => ?_, fun _ => ?_⟩ | refine ⟨by omega, ?_⟩ | refine ⟨I64.mk (by omega) (by omega), ?_⟩ | refine ⟨⟨by omega, by omega⟩, ?_⟩))
  intro b hb
  (refine hK _ _ ?_; clear hK; try clear K)
  refine VC_cond rfl rfl (fun h => ?_) (fun h => VC_skip ?_) -- t11
  · (repeat refine VC_seq ?_); refine VC_region [6] rfl fun K hK => ?_; simp only [go_sem, ↓reduceIte, Nat.reduceEqDiff, Nat.mul_one, Nat.zero_add]
    refine MemK_call Try.call24 ?_; simp only [go_sem, ↓reduceIte, Nat.reduceEqDiff, Nat.mul_one, Nat.zero_add]; refine CallK.mk (zawake_does w) ?_
    rintro v w5 ⟨hH4, rfl⟩
    (try simp only [go_sem, ↓reduceIte, Nat.reduceEqDiff, Nat.mul_one, Nat.zero_add])
    (refine hK _ _ ?_; clear hK; try clear K)
    exact VC_ret (VX_ret1 rfl rfl ⟨hH4, rfl⟩)
  have hg : ¬ (5000 < l.length ∨ 5000 < most ∧ most ≤ 262144) := fun h' => by rw [hb.2 h'] at h; cases h
  have hlen := zdecode_length n most l
  generalize hp : zdecode n most l = p at hlen
  (repeat refine VC_seq ?_); refine VC_region [0, 1, 2, 7, 8] rfl fun K hK => ?_; simp only [go_sem, ↓reduceIte, Nat.reduceEqDiff, Nat.mul_one, Nat.zero_add]
  refine MemK_call Try.call27 ?_; simp only [go_sem, ↓reduceIte, Nat.reduceEqDiff, Nat.mul_one, Nat.zero_add]; refine CallK.mk (zdec_does n most l la lc hn hm w hl (by omega) hi) ?_
  rw [hp]
  rintro v w2 ⟨a1, c1, hH1, rfl⟩
  (try simp only [go_sem, ↓reduceIte, Nat.reduceEqDiff, Nat.mul_one, Nat.zero_add])
  (refine hK _ _ ?_; clear hK; try clear K)
  (repeat refine VC_seq ?_); refine VC_region [7, 8, 9, 10] rfl fun K hK => ?_; simp only [go_sem, ↓reduceIte, Nat.reduceEqDiff, Nat.mul_one, Nat.zero_add]
  refine MemK_call Try.call28 ?_; simp only [go_sem, ↓reduceIte, Nat.reduceEqDiff, Nat.mul_one, Nat.zero_add]; refine CallK.mk (rzdec_does n most l la lc hn hm w2 (hH1.rs' hl) (by omega) hi) ?_
  rw [hp]
  rintro v w3 ⟨a2, c2, hH2, rfl⟩
  (try simp only [go_sem, ↓reduceIte, Nat.reduceEqDiff, Nat.mul_one, Nat.zero_add])
  (refine hK _ _ ?_; clear hK; try clear K)
  have hH3 := hH1.call0 hH2
  (repeat refine VC_seq ?_); refine VC_region [6] rfl fun K hK => ?_; simp only [go_sem, ↓reduceIte, Nat.reduceEqDiff, Nat.mul_one, Nat.zero_add]
  refine MemK_call Try.call23 ?_; simp only [go_sem, ↓reduceIte, Nat.reduceEqDiff, Nat.mul_one, Nat.zero_add]; refine CallK.mk (ints_does p.1 p.1 _ _ c1 c2 _ (row_rs (hH3.at 1 rfl)) (row_rs (hH3.at 0 rfl)) (by omega) (by omega)) ?_
  rintro v w4 ⟨rfl, rfl⟩
  simp only [true_implies, false_implies, implies_true, and_true, true_and, not_true_eq_false, not_false_eq_true, reduceCtorEq, decide_true]
  (try simp only [go_sem, ↓reduceIte, Nat.reduceEqDiff, Nat.mul_one, Nat.zero_add])
  simp only [true_implies, false_implies, implies_true, and_true, true_and, not_true_eq_false, not_false_eq_true, reduceCtorEq, decide_true]
  refine MemK_call Try.call24 ?_; simp only [go_sem, ↓reduceIte, Nat.reduceEqDiff, Nat.mul_one, Nat.zero_add]; refine CallK.mk (zawake_does w4) ?_
  rintro v w5 ⟨hH4, rfl⟩
  (try simp only [go_sem, ↓reduceIte, Nat.reduceEqDiff, Nat.mul_one, Nat.zero_add])
  (refine hK _ _ ?_; clear hK; try clear K)
  exact VC_ret (VX_ret1 rfl rfl ⟨(hH3.call0 hH4).sub (by simp), rfl⟩)
end Go.Proofs.Ytgepfjlecmmokaa
