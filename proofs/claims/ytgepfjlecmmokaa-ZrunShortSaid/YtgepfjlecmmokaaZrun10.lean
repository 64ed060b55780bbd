/- Runs of noughts: the walk through the program's Decode. -/
import Derived.Test.YtgepfjlecmmokaaZrun9
namespace Go.Proofs.Ytgepfjlecmmokaa
open Go Go.Eng
set_option maxRecDepth 100000
set_option linter.unusedSimpArgs false
set_option linter.unusedVariables false

theorem zdec_does (n most : Int) (l : List Int) (la : Option Addr) (lc : Nat) (hn : I64 n) (hm : I64 most) (w : World) (hl : RS w la l.length 1 (intsV l)) (hs : l.length ≤ 2147483640) (hi : ∀ v ∈ l, I64 v) :
    Does Try.prog 27 #[.int .i64 n, .int .i64 most, .slice la l.length lc] w (IntsErr (zdecode n most l) w) := by
  obtain ⟨hn1, hn2⟩ := hn
  obtain ⟨hm1, hm2⟩ := hm
  refine Does_enter (args := [.int .i64 n, .int .i64 most, .slice la l.length lc]) 98 Try.func27 rfl rfl (of_decide_eq_true rfl) ?_
  simp only [Env.ofArgs]
  (repeat refine VC_seq ?_); refine VC_region [0, 1, 2] rfl fun K hK => ?_; simp -implicitDefEqProofs only [go_sem, ↓reduceIte, Nat.reduceEqDiff, Nat.mul_one, Nat.zero_add]
  ((repeat (first | refine ⟨by omega, ?_⟩ | refine ⟨I64.mk (by omega) (by omega), ?_⟩)); refine hK _ _ ?_; clear hK; try clear K)
  (repeat refine VC_seq ?_); refine VC_region [0, 1, 2, 26] rfl fun K hK => ?_; simp -implicitDefEqProofs only [go_sem, ↓reduceIte, Nat.reduceEqDiff, Nat.mul_one, Nat.zero_add]
  suffices out : ∀ b : Bool, (b = true ↔ n < 1 ∨ 256 < n ∨ most < 0 ∨ 262144 < most) → K [(0, .int .i64 n), (1, .int .i64 most), (2, .slice la l.length lc), (26, .bool b)] w by (repeat' (first | exact out _ _ (by first | omega | (simp; done) | (simp; omega)) | exact out _ (by first | omega | (simp; done) | (simp; omega)) | refine ⟨fun _ => ?_, fun _ => ?_⟩ | refine ⟨by omega, ?_⟩ | refine ⟨I64.mk (by omega) (by omega), ?_⟩ | refine ⟨⟨by omega, by omega⟩, ?_⟩))
  intro b hb
  (refine hK _ _ ?_; clear hK; try clear K)
  refine VC_cond rfl rfl (fun h => ?_) (fun h => VC_skip ?_) -- t28
  · (repeat refine VC_seq ?_); refine VC_region [6, 7] rfl fun K hK => ?_; simp -implicitDefEqProofs only [go_sem, ↓reduceIte, Nat.reduceEqDiff, Nat.mul_one, Nat.zero_add]
    ((repeat (first | refine ⟨by omega, ?_⟩ | refine ⟨I64.mk (by omega) (by omega), ?_⟩)); refine hK _ _ ?_; clear hK; try clear K)
    refine VC_ret (VX_ret2 rfl rfl rfl ?_) -- RET (6, t6), (7, t7)
    rw [zdecode, if_pos (hb.1 h)]
    exact IntsErr.nil (Heap.start w) 2
  have hg : ¬ (n < 1 ∨ 256 < n ∨ most < 0 ∨ 262144 < most) := fun h' => by rw [hb.2 h'] at h; cases h
  clear h hb
  rw [zdecode, if_neg hg]
  (repeat refine VC_seq ?_); refine VC_region [0, 1, 2, 8] rfl fun K hK => ?_; simp -implicitDefEqProofs only [go_sem, ↓reduceIte, Nat.reduceEqDiff, Nat.mul_one, Nat.zero_add]
  ((repeat (first | refine ⟨by omega, ?_⟩ | refine ⟨I64.mk (by omega) (by omega), ?_⟩)); refine hK _ _ ?_; clear hK; try clear K)
  (repeat refine VC_seq ?_); refine VC_region [0, 1, 2, 8, 9, 10] rfl fun K hK => ?_; simp -implicitDefEqProofs only [go_sem, ↓reduceIte, Nat.reduceEqDiff, Nat.mul_one, Nat.zero_add]
  ((repeat (first | refine ⟨by omega, ?_⟩ | refine ⟨I64.mk (by omega) (by omega), ?_⟩)); refine hK _ _ ?_; clear hK; try clear K)
  (repeat refine VC_seq ?_); refine VC_region [0, 1, 2, 8, 9, 10, 27, 28, 29] rfl fun K hK => ?_; simp -implicitDefEqProofs only [go_sem, ↓reduceIte, Nat.reduceEqDiff, Nat.mul_one, Nat.zero_add]
  ((repeat (first | refine ⟨by omega, ?_⟩ | refine ⟨I64.mk (by omega) (by omega), ?_⟩)); refine hK _ _ ?_; clear hK; try clear K)
  ((repeat refine VC_seq ?_); refine VC_block ?_)
  refine VC_loopS [0, 1, 2, 8, 9, 10, 27, 28, 29] (fun m e w' => ∃ (i run wt cap : Nat) (a : Option Addr) (o : List Int), Is e [(0, .int .i64 n), (1, .int .i64 most), (2, .slice la l.length lc), (8, .slice a o.length cap), (9, .int .i64 run), (10, .int .i64 wt), (27, .slice la l.length lc), (28, .int .i64 l.length), (29, .int .i64 i)] ∧ Heap w [] w' [Res.row 3 1 a o.length cap (intsV o)] ∧ i ≤ l.length ∧ (o.length : Int) + run ≤ most ∧ wt ≤ 2 * most + 1 ∧ 1 ≤ wt ∧ zdec n most [] 1 l = zdec n most (o ++ List.replicate run 0) wt (l.drop i) ∧ m = l.length - i) l.length ?_ ?_ -- LOOP
  · simp -implicitDefEqProofs only [go_sem, ↓reduceIte, Nat.reduceEqDiff, Nat.mul_one, Nat.zero_add]
    exact ⟨0, 0, 1, 0, none, [], rfl, heap_nil, by omega, by simp; omega, by omega, by omega, rfl, rfl⟩
  rintro m e w2 ⟨i, run, wt, cap, a, o, rfl, hH, g1, g2, g3, g4, g5, rfl⟩
  (repeat refine VC_seq ?_); refine VC_region [0, 1, 2, 8, 9, 10, 27, 28, 29, 30] rfl fun K hK => ?_; simp -implicitDefEqProofs only [go_sem, ↓reduceIte, Nat.reduceEqDiff, Nat.mul_one, Nat.zero_add]
  ((repeat (first | refine ⟨by omega, ?_⟩ | refine ⟨I64.mk (by omega) (by omega), ?_⟩)); refine hK _ _ ?_; clear hK; try clear K)
  (repeat refine VC_seq ?_)
  refine VC_cond rfl rfl (fun h => ?_) (fun h => ?_) -- t30
  · simp only [decide_eq_true_eq] at h
    refine VC_skip ?_
    ((repeat refine VC_seq ?_); refine VC_block ?_)
    obtain ⟨p, rfl⟩ := rs_pos hl (by omega)
    have hc := rs_int (hH.rs' hl) (show i < l.length by omega)
    have hr := hi _ (getD_mem (show i < l.length by omega))
    have hdr := drop_getD (show i < l.length by omega)
    generalize l.getD i 0 = s at *
    obtain ⟨hr1, hr2⟩ := hr
    rw [hdr] at g5
    (repeat refine VC_seq ?_); refine VC_region [0, 1, 2, 8, 9, 10, 11, 12, 27, 28, 29] rfl fun K hK => ?_; simp -implicitDefEqProofs only [go_sem, ↓reduceIte, Nat.reduceEqDiff, Nat.mul_one, Nat.zero_add]
    refine ⟨⟨by omega, by omega⟩, _, hc, ?_⟩
    (try simp -implicitDefEqProofs only [go_sem, ↓reduceIte, Nat.reduceEqDiff, Nat.mul_one, Nat.zero_add])
    ((repeat (first | refine ⟨by omega, ?_⟩ | refine ⟨I64.mk (by omega) (by omega), ?_⟩)); refine hK _ _ ?_; clear hK; try clear K)
    (repeat refine VC_seq ?_); refine VC_region [0, 1, 2, 8, 9, 10, 11, 12, 27, 28, 29, 41] rfl fun K hK => ?_; simp -implicitDefEqProofs only [go_sem, ↓reduceIte, Nat.reduceEqDiff, Nat.mul_one, Nat.zero_add]
    suffices out : ∀ c : Bool, (c = true ↔ s < 0 ∨ n + 1 < s) → K [(0, .int .i64 n), (1, .int .i64 most), (2, .slice (some p) l.length lc), (8, .slice a o.length cap), (9, .int .i64 run), (10, .int .i64 wt), (11, .int .i64 i), (12, .int .i64 s), (27, .slice (some p) l.length lc), (28, .int .i64 l.length), (29, .int .i64 i), (41, .bool c)] w2 by (repeat' (first | exact out _ _ (by first | omega | (simp; done) | (simp; omega)) | exact out _ (by first | omega | (simp; done) | (simp; omega)) | refine ⟨fun _ => ?_, fun _ => ?_⟩ | refine ⟨by omega, ?_⟩ | refine ⟨I64.mk (by omega) (by omega), ?_⟩ | refine ⟨⟨by omega, by omega⟩, ?_⟩))
    intro c hb
    (refine hK _ _ ?_; clear hK; try clear K)
    refine VC_cond rfl rfl (fun h => ?_) (fun h => VC_skip ?_) -- t41
    · (repeat refine VC_seq ?_); refine VC_region [6, 7] rfl fun K hK => ?_; simp -implicitDefEqProofs only [go_sem, ↓reduceIte, Nat.reduceEqDiff, Nat.mul_one, Nat.zero_add]
      ((repeat (first | refine ⟨by omega, ?_⟩ | refine ⟨I64.mk (by omega) (by omega), ?_⟩)); refine hK _ _ ?_; clear hK; try clear K)
      refine VC_ret (VX_ret2 rfl rfl rfl ?_) -- RET (6, t6), (7, t7)
      have hg2 := hb.1 h
      rw [zdec, if_pos hg2] at g5
      rw [g5]
      exact IntsErr.nil (hH.sub (by simp)) 60
    have hg2 : ¬ (s < 0 ∨ n + 1 < s) := fun h' => by rw [hb.2 h'] at h; cases h
    clear h hb
    rw [zdec, if_neg hg2] at g5
    (repeat refine VC_seq ?_); refine VC_region [0, 1, 2, 8, 9, 10, 11, 12, 27, 28, 29, 43] rfl fun K hK => ?_; simp -implicitDefEqProofs only [go_sem, ↓reduceIte, Nat.reduceEqDiff, Nat.mul_one, Nat.zero_add]
    ((repeat (first | refine ⟨by omega, ?_⟩ | refine ⟨I64.mk (by omega) (by omega), ?_⟩)); refine hK _ _ ?_; clear hK; try clear K)
    refine VC_cond rfl rfl (fun h => ?_) (fun h => ?_) -- t43
    · simp only [decide_eq_true_eq] at h
      rw [if_pos h, List.length_append, List.length_replicate] at g5
      obtain ⟨t, rfl⟩ : ∃ t : Nat, s = t := ⟨s.toNat, by omega⟩
      have ht : t = 0 ∨ t = 1 := by omega
      have hmul : ((t : Int) + 1) * wt ≤ 2 * wt ∧ (wt : Int) ≤ ((t : Int) + 1) * wt := by
        rcases ht with rfl | rfl <;> simp <;> omega
      generalize hk : ((t : Int) + 1) * wt = k at *
      -- region 11 zrun.go:67
      (repeat refine VC_seq ?_); refine VC_region [0, 1, 2, 8, 9, 10, 12, 27, 28, 29, 59] rfl fun K hK => ?_; simp -implicitDefEqProofs only [go_sem, ↓reduceIte, Nat.reduceEqDiff, Nat.mul_one, Nat.zero_add]
      rw [hk]
      suffices out : ∀ c : Bool, (c = true ↔ most - o.length - run < k) → K [(0, .int .i64 n), (1, .int .i64 most), (2, .slice (some p) l.length lc), (8, .slice a o.length cap), (9, .int .i64 run), (10, .int .i64 wt), (12, .int .i64 t), (27, .slice (some p) l.length lc), (28, .int .i64 l.length), (29, .int .i64 i), (59, .bool c)] w2 by (repeat' (first | exact out _ _ (by first | omega | (simp; done) | (simp; omega)) | exact out _ (by first | omega | (simp; done) | (simp; omega)) | refine ⟨fun _ => ?_, fun _ => ?_⟩ | refine ⟨by omega, ?_⟩ | refine ⟨I64.mk (by omega) (by omega), ?_⟩ | refine ⟨⟨by omega, by omega⟩, ?_⟩))
      intro c hb
      (refine hK _ _ ?_; clear hK; try clear K)
      refine VC_cond rfl rfl (fun h => ?_) (fun h => VC_skip ?_) -- t59
      · (repeat refine VC_seq ?_); refine VC_region [6, 7] rfl fun K hK => ?_; simp -implicitDefEqProofs only [go_sem, ↓reduceIte, Nat.reduceEqDiff, Nat.mul_one, Nat.zero_add]
        ((repeat (first | refine ⟨by omega, ?_⟩ | refine ⟨I64.mk (by omega) (by omega), ?_⟩)); refine hK _ _ ?_; clear hK; try clear K)
        refine VC_ret (VX_ret2 rfl rfl rfl ?_) -- RET (6, t6), (7, t7)
        have := hb.1 h
        rw [if_pos (by omega)] at g5
        rw [g5]
        exact IntsErr.nil (hH.sub (by simp)) 3
      have hg3 : ¬ (most - o.length - run < k) := fun h' => by rw [hb.2 h'] at h; cases h
      clear h hb
      rw [if_neg (by omega)] at g5
      (repeat refine VC_seq ?_); refine VC_region [0, 1, 2, 8, 9, 10, 27, 28, 29] rfl fun K hK => ?_; simp -implicitDefEqProofs only [go_sem, ↓reduceIte, Nat.reduceEqDiff, Nat.mul_one, Nat.zero_add]
      rw [hk]
      ((repeat (first | refine ⟨by omega, ?_⟩ | refine ⟨I64.mk (by omega) (by omega), ?_⟩)); refine hK _ _ ?_; clear hK; try clear K)
      (repeat refine VC_seq ?_); refine VC_region [0, 1, 2, 8, 9, 10, 27, 28, 29] rfl fun K hK => ?_; simp -implicitDefEqProofs only [go_sem, ↓reduceIte, Nat.reduceEqDiff, Nat.mul_one, Nat.zero_add]
      ((repeat (first | refine ⟨by omega, ?_⟩ | refine ⟨I64.mk (by omega) (by omega), ?_⟩)); refine hK _ _ ?_; clear hK; try clear K)
      refine VC_exit rfl ?_
      (repeat refine VC_seq ?_); refine VC_region [0, 1, 2, 8, 9, 10, 27, 28, 29] rfl fun K hK => ?_; simp -implicitDefEqProofs only [go_sem, ↓reduceIte, Nat.reduceEqDiff, Nat.mul_one, Nat.zero_add]
      ((repeat (first | refine ⟨by omega, ?_⟩ | refine ⟨I64.mk (by omega) (by omega), ?_⟩)); refine hK _ _ ?_; clear hK; try clear K)
      refine VC_again ?_
      simp -implicitDefEqProofs only [go_sem, ↓reduceIte, Nat.reduceEqDiff, Nat.mul_one, Nat.zero_add]
      rw [List.append_assoc, List.replicate_append_replicate] at g5
      exact ⟨l.length - (i + 1), by omega, i + 1, run + k.toNat, 2 * wt, _, _, _, by simp [Is]; omega, hH, by omega, by omega, by omega, by omega, g5, rfl⟩
    simp only [decide_eq_false_iff_not] at h
    rw [if_neg h] at g5
    refine VC_skip ?_
    -- region 15 zrun.go:74
    (repeat refine VC_seq ?_); refine VC_region [0, 1, 2, 8, 11, 12, 27, 28, 29] rfl fun K hK => ?_; simp -implicitDefEqProofs only [go_sem, ↓reduceIte, Nat.reduceEqDiff, Nat.mul_one, Nat.zero_add]
    refine MemK_append ?_
    simp -implicitDefEqProofs only [go_sem, ↓reduceIte, Nat.reduceEqDiff, Nat.mul_one, Nat.zero_add]
    have el : o.length + run = (o ++ List.replicate run 0).length := by simp
    refine AppK_zeros hH 0 rfl rfl Try.underlying34 zi3 Try.underlying3 rfl (by omega) fun a' cap' w5 hc' hH4 => ?_ -- T[34, 3]
    rw [intsV_zero, ← intsV_append, el] at hH4
    rw [el]
    (try simp -implicitDefEqProofs only [go_sem, ↓reduceIte, Nat.reduceEqDiff, Nat.mul_one, Nat.zero_add])
    (refine hK _ _ ?_; clear hK; try clear K)
    generalize ho2 : o ++ List.replicate run 0 = o2 at *
    (repeat refine VC_seq ?_); refine VC_region [0, 1, 2, 8, 9, 10, 11, 12, 27, 28, 29] rfl fun K hK => ?_; simp -implicitDefEqProofs only [go_sem, ↓reduceIte, Nat.reduceEqDiff, Nat.mul_one, Nat.zero_add]
    ((repeat (first | refine ⟨by omega, ?_⟩ | refine ⟨I64.mk (by omega) (by omega), ?_⟩)); refine hK _ _ ?_; clear hK; try clear K)
    (repeat refine VC_seq ?_); refine VC_region [0, 1, 2, 8, 9, 10, 11, 12, 27, 28, 29, 74] rfl fun K hK => ?_; simp -implicitDefEqProofs only [go_sem, ↓reduceIte, Nat.reduceEqDiff, Nat.mul_one, Nat.zero_add]
    ((repeat (first | refine ⟨by omega, ?_⟩ | refine ⟨I64.mk (by omega) (by omega), ?_⟩)); refine hK _ _ ?_; clear hK; try clear K)
    refine VC_cond rfl rfl (fun h' => ?_) (fun h' => ?_) -- t74
    · simp only [decide_eq_true_eq] at h'
      rw [if_pos h'] at g5
      (repeat refine VC_seq ?_); refine VC_region [0, 2, 8, 11, 79] rfl fun K hK => ?_; simp -implicitDefEqProofs only [go_sem, ↓reduceIte, Nat.reduceEqDiff, Nat.mul_one, Nat.zero_add]
      ((repeat (first | refine ⟨by omega, ?_⟩ | refine ⟨I64.mk (by omega) (by omega), ?_⟩)); refine hK _ _ ?_; clear hK; try clear K)
      refine VC_cond rfl rfl (fun hx => ?_) (fun hx => ?_) -- t79
      · simp only [decide_eq_true_eq] at hx
        have hc2 := rs_int (hH4.rs' hl) (show i + 1 < l.length by omega)
        have hr := hi _ (getD_mem (show i + 1 < l.length by omega))
        have hdr2 := drop_getD (show i + 1 < l.length by omega)
        generalize l.getD (i + 1) 0 = x at *
        rw [hdr2, zend] at g5
        (repeat refine VC_seq ?_); refine VC_region [6, 7] rfl fun K hK => ?_; simp -implicitDefEqProofs only [go_sem, ↓reduceIte, Nat.reduceEqDiff, Nat.mul_one, Nat.zero_add]
        refine ⟨I64.mk (by omega) (by omega), ⟨by omega, by omega⟩, _, hc2, ?_⟩
        (try simp -implicitDefEqProofs only [go_sem, ↓reduceIte, Nat.reduceEqDiff, Nat.mul_one, Nat.zero_add])
        refine MemK_call Try.call32 ?_; simp -implicitDefEqProofs only [go_sem, ↓reduceIte, Nat.reduceEqDiff, Nat.mul_one, Nat.zero_add]; refine CallK.mk (behind_does n x ⟨hn1, hn2⟩ (by omega) hr w5) ?_
        rintro v w6 ⟨rfl, rfl⟩
        (try simp -implicitDefEqProofs only [go_sem, ↓reduceIte, Nat.reduceEqDiff, Nat.mul_one, Nat.zero_add])
        (refine hK _ _ ?_; clear hK; try clear K)
        refine VC_ret (VX_ret2 rfl rfl rfl ?_) -- RET (6, t6), (7, t7)
        rw [g5]
        split
        · exact IntsErr.nil (hH4.sub (by simp)) 60
        · exact IntsErr.nil (hH4.sub (by simp)) 70
      simp only [decide_eq_false_iff_not] at hx
      refine VC_skip ?_
      (repeat refine VC_seq ?_); refine VC_region [6, 7] rfl fun K hK => ?_; simp -implicitDefEqProofs only [go_sem, ↓reduceIte, Nat.reduceEqDiff, Nat.mul_one, Nat.zero_add]
      ((repeat (first | refine ⟨by omega, ?_⟩ | refine ⟨I64.mk (by omega) (by omega), ?_⟩)); refine hK _ _ ?_; clear hK; try clear K)
      refine VC_ret (VX_ret2 rfl rfl rfl ?_) -- RET (6, t6), (7, t7)
      rw [List.drop_of_length_le (by omega), zend] at g5
      rw [g5]
      exact ⟨_, _, hH4, rfl⟩
    simp only [decide_eq_false_iff_not] at h'
    rw [if_neg h'] at g5
    refine VC_skip ?_
    (repeat refine VC_seq ?_); refine VC_region [0, 1, 2, 8, 9, 10, 12, 27, 28, 29, 91] rfl fun K hK => ?_; simp -implicitDefEqProofs only [go_sem, ↓reduceIte, Nat.reduceEqDiff, Nat.mul_one, Nat.zero_add]
    ((repeat (first | refine ⟨by omega, ?_⟩ | refine ⟨I64.mk (by omega) (by omega), ?_⟩)); refine hK _ _ ?_; clear hK; try clear K)
    refine VC_cond rfl rfl (fun h => ?_) (fun h => ?_) -- t91
    · simp only [decide_eq_true_eq] at h
      (repeat refine VC_seq ?_); refine VC_region [6, 7] rfl fun K hK => ?_; simp -implicitDefEqProofs only [go_sem, ↓reduceIte, Nat.reduceEqDiff, Nat.mul_one, Nat.zero_add]
      ((repeat (first | refine ⟨by omega, ?_⟩ | refine ⟨I64.mk (by omega) (by omega), ?_⟩)); refine hK _ _ ?_; clear hK; try clear K)
      refine VC_ret (VX_ret2 rfl rfl rfl ?_) -- RET (6, t6), (7, t7)
      rw [if_pos (by omega)] at g5
      rw [g5]
      exact IntsErr.nil (hH4.sub (by simp)) 3
    simp only [decide_eq_false_iff_not] at h
    rw [if_neg (by omega)] at g5
    refine VC_skip ?_
    (repeat refine VC_seq ?_); refine VC_region [0, 1, 2, 8, 9, 10, 27, 28, 29] rfl fun K hK => ?_; simp -implicitDefEqProofs only [go_sem, ↓reduceIte, Nat.reduceEqDiff, Nat.mul_one, Nat.zero_add]
    (repeat (first | refine ⟨by omega, ?_⟩ | refine ⟨I64.mk (by omega) (by omega), ?_⟩ | refine ⟨⟨by omega, by omega⟩, ?_⟩))
    refine MemK_lit (xs := [.tmp 94]) Try.underlying34 sz3 rfl rfl rfl (by omega) ?_; simp -implicitDefEqProofs only [go_sem, ↓reduceIte, Nat.reduceEqDiff, Nat.mul_one, Nat.zero_add]; refine ⟨by simp [Value.cells], ?_⟩
    refine MemK_append ?_; simp -implicitDefEqProofs only [go_sem, ↓reduceIte, Nat.reduceEqDiff, Nat.mul_one, Nat.zero_add]; refine AppK_int hH4 0 rfl Try.underlying34 zi3 (fun h => by (first | omega | (simp; done) | (simp; omega))) fun a' cap' w5 hc' hH5 => ?_; (try simp -implicitDefEqProofs only [go_sem, ↓reduceIte, Nat.reduceEqDiff, Nat.mul_one, Nat.zero_add])
    (refine hK _ _ ?_; clear hK; try clear K)
    refine VC_blk ?_
    (repeat refine VC_seq ?_); refine VC_region [0, 1, 2, 8, 9, 10, 27, 28, 29] rfl fun K hK => ?_; simp -implicitDefEqProofs only [go_sem, ↓reduceIte, Nat.reduceEqDiff, Nat.mul_one, Nat.zero_add]
    ((repeat (first | refine ⟨by omega, ?_⟩ | refine ⟨I64.mk (by omega) (by omega), ?_⟩)); refine hK _ _ ?_; clear hK; try clear K)
    refine VC_again ?_
    simp -implicitDefEqProofs only [go_sem, ↓reduceIte, Nat.reduceEqDiff, Nat.mul_one, Nat.zero_add]
    exact ⟨l.length - (i + 1), by omega, i + 1, 0, 1, _, _, _, rfl, hH5, by omega, by simp; omega, by omega, by omega, by simpa using g5, rfl⟩
  · simp only [decide_eq_false_iff_not] at h
    refine VC_exit rfl ?_
    rw [List.drop_of_length_le (by omega), zdec] at g5
    (repeat refine VC_seq ?_); refine VC_region [6, 7] rfl fun K hK => ?_; simp -implicitDefEqProofs only [go_sem, ↓reduceIte, Nat.reduceEqDiff, Nat.mul_one, Nat.zero_add]
    ((repeat (first | refine ⟨by omega, ?_⟩ | refine ⟨I64.mk (by omega) (by omega), ?_⟩)); refine hK _ _ ?_; clear hK; try clear K)
    refine VC_ret (VX_ret2 rfl rfl rfl ?_) -- RET (6, t6), (7, t7)
    rw [g5]
    exact IntsErr.nil (hH.sub (by simp)) 70
end Go.Proofs.Ytgepfjlecmmokaa
