/- Runs of noughts: the walks through the two Decodes. -/
import Derived.Test.YtgepfjlecmmokaaZrun8
namespace Go.Proofs.Ytgepfjlecmmokaa
open Go Go.Eng
set_option maxRecDepth 100000
set_option linter.unusedSimpArgs false
set_option linter.unusedVariables false

theorem rzdec_does (n most : Int) (l : List Int) (la : Option Addr) (lc : Nat) (hn : I64 n) (hm : I64 most) (w : World) (hl : RS w la l.length 1 (intsV l)) (hs : l.length ≤ 2147483640) (hi : ∀ v ∈ l, I64 v) :
    Does Try.prog 28 #[.int .i64 n, .int .i64 most, .slice la l.length lc] w (IntsErr (zdecode n most l) w) := by
  obtain ⟨hn1, hn2⟩ := hn
  obtain ⟨hm1, hm2⟩ := hm
  refine Does_enter (args := [.int .i64 n, .int .i64 most, .slice la l.length lc]) 81 Try.func28 rfl rfl (of_decide_eq_true rfl) ?_
  simp only [Env.ofArgs]
  (repeat refine VC_seq ?_); refine VC_region [0, 1, 2] rfl fun K hK => ?_; simp only [go_sem, ↓reduceIte, Nat.reduceEqDiff, Nat.mul_one, Nat.zero_add]
  ((repeat (first | refine ⟨by omega, ?_⟩ | refine ⟨I64.mk (by omega) (by omega), ?_⟩)); refine hK _ _ ?_; clear hK; try clear K)
  (repeat refine VC_seq ?_); refine VC_region [0, 1, 2, 28] rfl fun K hK => ?_; simp only [go_sem, ↓reduceIte, Nat.reduceEqDiff, Nat.mul_one, Nat.zero_add]
  suffices out : ∀ b : Bool, (b = true ↔ n < 1 ∨ 256 < n ∨ most < 0 ∨ 262144 < most) → K [(0, .int .i64 n), (1, .int .i64 most), (2, .slice la l.length lc), (28, .bool b)] w by (repeat' (first | exact out _ _ (by first | omega | (simp; done) | (simp; omega)) | exact out _ (by first | omega | (simp; done) | (simp; omega)) | refine ⟨fun _ => ?_, fun _ => ?_⟩ | refine ⟨by omega, ?_⟩ | refine ⟨I64.mk (by omega) (by omega), ?_⟩ | refine ⟨⟨by omega, by omega⟩, ?_⟩))
  intro b hb
  (refine hK _ _ ?_; clear hK; try clear K)
  refine VC_cond rfl rfl (fun h => ?_) (fun h => VC_skip ?_) -- t28
  · (repeat refine VC_seq ?_); refine VC_region [6, 7] rfl fun K hK => ?_; simp only [go_sem, ↓reduceIte, Nat.reduceEqDiff, Nat.mul_one, Nat.zero_add]
    ((repeat (first | refine ⟨by omega, ?_⟩ | refine ⟨I64.mk (by omega) (by omega), ?_⟩)); refine hK _ _ ?_; clear hK; try clear K)
    refine VC_ret (VX_ret2 rfl rfl rfl ?_) -- RET (6, t6), (7, t7)
    rw [zdecode, if_pos (hb.1 h)]
    exact IntsErr.nil (Heap.start w) 2
  have hg : ¬ (n < 1 ∨ 256 < n ∨ most < 0 ∨ 262144 < most) := fun h' => by rw [hb.2 h'] at h; cases h
  clear h hb
  rw [zdecode, if_neg hg]
  (repeat refine VC_seq ?_); refine VC_region [0, 1, 2, 8] rfl fun K hK => ?_; simp only [go_sem, ↓reduceIte, Nat.reduceEqDiff, Nat.mul_one, Nat.zero_add]
  ((repeat (first | refine ⟨by omega, ?_⟩ | refine ⟨I64.mk (by omega) (by omega), ?_⟩)); refine hK _ _ ?_; clear hK; try clear K)
  (repeat refine VC_seq ?_); refine VC_region [0, 1, 2, 8, 9] rfl fun K hK => ?_; simp only [go_sem, ↓reduceIte, Nat.reduceEqDiff, Nat.mul_one, Nat.zero_add]
  ((repeat (first | refine ⟨by omega, ?_⟩ | refine ⟨I64.mk (by omega) (by omega), ?_⟩)); refine hK _ _ ?_; clear hK; try clear K)
  (repeat refine VC_seq ?_); refine VC_region [0, 1, 2, 8, 9, 10] rfl fun K hK => ?_; simp only [go_sem, ↓reduceIte, Nat.reduceEqDiff, Nat.mul_one, Nat.zero_add]
  ((repeat (first | refine ⟨by omega, ?_⟩ | refine ⟨I64.mk (by omega) (by omega), ?_⟩)); refine hK _ _ ?_; clear hK; try clear K)
  (repeat refine VC_seq ?_); refine VC_region [0, 1, 2, 8, 9, 10, 11] rfl fun K hK => ?_; simp only [go_sem, ↓reduceIte, Nat.reduceEqDiff, Nat.mul_one, Nat.zero_add]
  ((repeat (first | refine ⟨by omega, ?_⟩ | refine ⟨I64.mk (by omega) (by omega), ?_⟩)); refine hK _ _ ?_; clear hK; try clear K)
  ((repeat refine VC_seq ?_); refine VC_block ?_)
  refine VC_loopS [0, 1, 2, 8, 9, 10, 11] (fun m e w' => ∃ (i wt cap : Nat) (a : Option Addr) (o : List Int) (b : Bool), Is e [(0, .int .i64 n), (1, .int .i64 most), (2, .slice la l.length lc), (8, .slice a o.length cap), (9, .int .i64 wt), (10, .bool b), (11, .int .i64 i)] ∧ Heap w [] w' [Res.row 3 1 a o.length cap (intsV o)] ∧ i ≤ l.length ∧ (o.length : Int) ≤ most ∧ wt ≤ 2 * most + 1 ∧ 1 ≤ wt ∧ zdec n most [] 1 l = (if b then zend n o (l.drop i) else zdec n most o wt (l.drop i)) ∧ m = l.length - i) l.length ?_ ?_ -- LOOP
  · simp only [go_sem, ↓reduceIte, Nat.reduceEqDiff, Nat.mul_one, Nat.zero_add]
    exact ⟨0, 1, 0, none, [], false, rfl, heap_nil, by omega, by simp; omega, by omega, by omega, rfl, rfl⟩
  rintro m e w2 ⟨i, wt, cap, a, o, b, rfl, hH, g1, g2, g3, g4, g5, rfl⟩
  (repeat refine VC_seq ?_); refine VC_region [0, 1, 2, 8, 9, 10, 11, 32] rfl fun K hK => ?_; simp only [go_sem, ↓reduceIte, Nat.reduceEqDiff, Nat.mul_one, Nat.zero_add]
  ((repeat (first | refine ⟨by omega, ?_⟩ | refine ⟨I64.mk (by omega) (by omega), ?_⟩)); refine hK _ _ ?_; clear hK; try clear K)
  refine VC_cond rfl rfl (fun h => ?_) (fun h => ?_) -- t32
  · simp only [decide_eq_true_eq] at h
    refine VC_skip ?_
    ((repeat refine VC_seq ?_); refine VC_block ?_)
    obtain ⟨p, rfl⟩ := rs_pos hl (by omega)
    have hc := rs_int (hH.rs' hl) (show i < l.length by omega)
    have hr := hi _ (getD_mem (show i < l.length by omega))
    have hdr := drop_getD (show i < l.length by omega)
    generalize l.getD i 0 = s at *
    obtain ⟨hr1, hr2⟩ := hr
    rw [hdr] at g5
    (repeat refine VC_seq ?_); refine VC_region [0, 1, 2, 8, 9, 10, 11, 12] rfl fun K hK => ?_; simp only [go_sem, ↓reduceIte, Nat.reduceEqDiff, Nat.mul_one, Nat.zero_add]
    refine ⟨⟨by omega, by omega⟩, _, hc, ?_⟩
    (try simp only [go_sem, ↓reduceIte, Nat.reduceEqDiff, Nat.mul_one, Nat.zero_add])
    ((repeat (first | refine ⟨by omega, ?_⟩ | refine ⟨I64.mk (by omega) (by omega), ?_⟩)); refine hK _ _ ?_; clear hK; try clear K)
    (repeat refine VC_seq ?_); refine VC_region [0, 1, 2, 8, 9, 10, 11, 12, 46] rfl fun K hK => ?_; simp only [go_sem, ↓reduceIte, Nat.reduceEqDiff, Nat.mul_one, Nat.zero_add]
    suffices out : ∀ c : Bool, (c = true ↔ s < 0 ∨ n + 1 < s) → K [(0, .int .i64 n), (1, .int .i64 most), (2, .slice (some p) l.length lc), (8, .slice a o.length cap), (9, .int .i64 wt), (10, .bool b), (11, .int .i64 i), (12, .int .i64 s), (46, .bool c)] w2 by (repeat' (first | exact out _ _ (by first | omega | (simp; done) | (simp; omega)) | exact out _ (by first | omega | (simp; done) | (simp; omega)) | refine ⟨fun _ => ?_, fun _ => ?_⟩ | refine ⟨by omega, ?_⟩ | refine ⟨I64.mk (by omega) (by omega), ?_⟩ | refine ⟨⟨by omega, by omega⟩, ?_⟩))
    intro c hb
    (refine hK _ _ ?_; clear hK; try clear K)
    refine VC_cond rfl rfl (fun h => ?_) (fun h => VC_skip ?_) -- t46
    · (repeat refine VC_seq ?_); refine VC_region [6, 7] rfl fun K hK => ?_; simp only [go_sem, ↓reduceIte, Nat.reduceEqDiff, Nat.mul_one, Nat.zero_add]
      ((repeat (first | refine ⟨by omega, ?_⟩ | refine ⟨I64.mk (by omega) (by omega), ?_⟩)); refine hK _ _ ?_; clear hK; try clear K)
      refine VC_ret (VX_ret2 rfl rfl rfl ?_) -- RET (6, t6), (7, t7)
      have hg2 := hb.1 h
      rw [zdec, zend, if_pos hg2, if_pos hg2, ite_self] at g5
      rw [g5]
      exact IntsErr.nil (hH.sub (by simp)) 60
    have hg2 : ¬ (s < 0 ∨ n + 1 < s) := fun h' => by rw [hb.2 h'] at h; cases h
    clear h hb
    rw [zdec, zend, if_neg hg2, if_neg hg2] at g5
    (repeat refine VC_seq ?_); refine VC_region [0, 1, 2, 8, 9, 10, 11, 12, 47] rfl fun K hK => ?_; simp only [go_sem, ↓reduceIte, Nat.reduceEqDiff, Nat.mul_one, Nat.zero_add]
    ((repeat (first | refine ⟨by omega, ?_⟩ | refine ⟨I64.mk (by omega) (by omega), ?_⟩)); refine hK _ _ ?_; clear hK; try clear K)
    refine VC_cond rfl rfl (fun h => ?_) (fun h => ?_) -- t47
    · subst h
      (repeat refine VC_seq ?_); refine VC_region [6, 7] rfl fun K hK => ?_; simp only [go_sem, ↓reduceIte, Nat.reduceEqDiff, Nat.mul_one, Nat.zero_add]
      ((repeat (first | refine ⟨by omega, ?_⟩ | refine ⟨I64.mk (by omega) (by omega), ?_⟩)); refine hK _ _ ?_; clear hK; try clear K)
      refine VC_ret (VX_ret2 rfl rfl rfl ?_) -- RET (6, t6), (7, t7)
      rw [if_pos rfl] at g5
      rw [g5]
      exact IntsErr.nil (hH.sub (by simp)) 70
    subst h
    rw [if_neg (by simp)] at g5
    refine VC_skip ?_
    (repeat refine VC_seq ?_); refine VC_region [0, 1, 2, 8, 9, 10, 11, 12, 51] rfl fun K hK => ?_; simp only [go_sem, ↓reduceIte, Nat.reduceEqDiff, Nat.mul_one, Nat.zero_add]
    ((repeat (first | refine ⟨by omega, ?_⟩ | refine ⟨I64.mk (by omega) (by omega), ?_⟩)); refine hK _ _ ?_; clear hK; try clear K)
    refine VC_cond rfl rfl (fun h => ?_) (fun h => ?_) -- t51
    · simp only [decide_eq_true_eq] at h
      (repeat refine VC_seq ?_); refine VC_region [0, 1, 2, 8, 9, 10, 11] rfl fun K hK => ?_; simp only [go_sem, ↓reduceIte, Nat.reduceEqDiff, Nat.mul_one, Nat.zero_add]
      ((repeat (first | refine ⟨by omega, ?_⟩ | refine ⟨I64.mk (by omega) (by omega), ?_⟩)); refine hK _ _ ?_; clear hK; try clear K)
      refine VC_exit rfl ?_
      (repeat refine VC_seq ?_); refine VC_region [0, 1, 2, 8, 9, 10, 11] rfl fun K hK => ?_; simp only [go_sem, ↓reduceIte, Nat.reduceEqDiff, Nat.mul_one, Nat.zero_add]
      ((repeat (first | refine ⟨by omega, ?_⟩ | refine ⟨I64.mk (by omega) (by omega), ?_⟩)); refine hK _ _ ?_; clear hK; try clear K)
      refine VC_again ?_
      simp only [go_sem, ↓reduceIte, Nat.reduceEqDiff, Nat.mul_one, Nat.zero_add]
      rw [if_neg (by omega), if_pos h] at g5
      exact ⟨l.length - (i + 1), by omega, i + 1, wt, _, _, _, true, rfl, hH, by omega, g2, g3, g4, g5, rfl⟩
    simp only [decide_eq_false_iff_not] at h
    refine VC_skip ?_
    (repeat refine VC_seq ?_); refine VC_region [0, 1, 2, 8, 9, 10, 11, 12, 53] rfl fun K hK => ?_; simp only [go_sem, ↓reduceIte, Nat.reduceEqDiff, Nat.mul_one, Nat.zero_add]
    ((repeat (first | refine ⟨by omega, ?_⟩ | refine ⟨I64.mk (by omega) (by omega), ?_⟩)); refine hK _ _ ?_; clear hK; try clear K)
    refine VC_cond rfl rfl (fun h' => ?_) (fun h' => ?_) -- t53
    · simp only [decide_eq_true_eq] at h'
      rw [if_neg (by omega), if_neg h] at g5
      (repeat refine VC_seq ?_); refine VC_region [0, 1, 2, 8, 9, 10, 11, 12] rfl fun K hK => ?_; simp only [go_sem, ↓reduceIte, Nat.reduceEqDiff, Nat.mul_one, Nat.zero_add]
      ((repeat (first | refine ⟨by omega, ?_⟩ | refine ⟨I64.mk (by omega) (by omega), ?_⟩)); refine hK _ _ ?_; clear hK; try clear K)
      (repeat refine VC_seq ?_); refine VC_region [0, 1, 2, 8, 9, 10, 11, 12, 57] rfl fun K hK => ?_; simp only [go_sem, ↓reduceIte, Nat.reduceEqDiff, Nat.mul_one, Nat.zero_add]
      ((repeat (first | refine ⟨by omega, ?_⟩ | refine ⟨I64.mk (by omega) (by omega), ?_⟩)); refine hK _ _ ?_; clear hK; try clear K)
      refine VC_cond rfl rfl (fun h => ?_) (fun h => ?_) -- t57
      · simp only [decide_eq_true_eq] at h
        (repeat refine VC_seq ?_); refine VC_region [6, 7] rfl fun K hK => ?_; simp only [go_sem, ↓reduceIte, Nat.reduceEqDiff, Nat.mul_one, Nat.zero_add]
        ((repeat (first | refine ⟨by omega, ?_⟩ | refine ⟨I64.mk (by omega) (by omega), ?_⟩)); refine hK _ _ ?_; clear hK; try clear K)
        refine VC_ret (VX_ret2 rfl rfl rfl ?_) -- RET (6, t6), (7, t7)
        rw [if_pos (by omega)] at g5
        rw [g5]
        exact IntsErr.nil (hH.sub (by simp)) 3
      simp only [decide_eq_false_iff_not] at h
      rw [if_neg (by omega)] at g5
      refine VC_skip ?_
      (repeat refine VC_seq ?_); refine VC_region [0, 1, 2, 8, 9, 10, 11] rfl fun K hK => ?_; simp only [go_sem, ↓reduceIte, Nat.reduceEqDiff, Nat.mul_one, Nat.zero_add]
      (repeat (first | refine ⟨by omega, ?_⟩ | refine ⟨I64.mk (by omega) (by omega), ?_⟩ | refine ⟨⟨by omega, by omega⟩, ?_⟩))
      refine MemK_lit (xs := [.tmp 60]) Try.underlying34 sz3 rfl rfl rfl (by omega) ?_; simp only [go_sem, ↓reduceIte, Nat.reduceEqDiff, Nat.mul_one, Nat.zero_add]; refine ⟨by simp [Value.cells], ?_⟩
      refine MemK_append ?_; simp only [go_sem, ↓reduceIte, Nat.reduceEqDiff, Nat.mul_one, Nat.zero_add]; refine AppK_int hH 0 rfl Try.underlying34 zi3 (fun h => by (first | omega | (simp; done) | (simp; omega))) fun a' cap' w5 hc' hH4 => ?_; (try simp only [go_sem, ↓reduceIte, Nat.reduceEqDiff, Nat.mul_one, Nat.zero_add])
      (refine hK _ _ ?_; clear hK; try clear K)
      refine VC_exit rfl ?_
      (repeat refine VC_seq ?_); refine VC_region [0, 1, 2, 8, 9, 10, 11] rfl fun K hK => ?_; simp only [go_sem, ↓reduceIte, Nat.reduceEqDiff, Nat.mul_one, Nat.zero_add]
      ((repeat (first | refine ⟨by omega, ?_⟩ | refine ⟨I64.mk (by omega) (by omega), ?_⟩)); refine hK _ _ ?_; clear hK; try clear K)
      refine VC_again ?_
      simp only [go_sem, ↓reduceIte, Nat.reduceEqDiff, Nat.mul_one, Nat.zero_add]
      exact ⟨l.length - (i + 1), by omega, i + 1, 1, _, _, _, false, rfl, hH4, by omega, by simp; omega, by omega, by omega, g5, rfl⟩
    simp only [decide_eq_false_iff_not] at h'
    rw [if_pos (by omega)] at g5
    refine VC_skip ?_
    obtain ⟨t, rfl⟩ : ∃ t : Nat, s = t := ⟨s.toNat, by omega⟩
    have ht : t = 0 ∨ t = 1 := by omega
    have hmul : ((t : Int) + 1) * wt ≤ 2 * wt ∧ (wt : Int) ≤ ((t : Int) + 1) * wt := by
      rcases ht with rfl | rfl <;> simp <;> omega
    generalize hk : ((t : Int) + 1) * wt = k at *
    (repeat refine VC_seq ?_); refine VC_region [0, 1, 2, 9, 10, 11, 13, 14] rfl fun K hK => ?_; simp only [go_sem, ↓reduceIte, Nat.reduceEqDiff, Nat.mul_one, Nat.zero_add]
    (repeat (first | refine ⟨by omega, ?_⟩ | refine ⟨I64.mk (by omega) (by omega), ?_⟩ | refine ⟨⟨by omega, by omega⟩, ?_⟩))
    rw [hk]
    (repeat (first | refine ⟨by omega, ?_⟩ | refine ⟨I64.mk (by omega) (by omega), ?_⟩ | refine ⟨⟨by omega, by omega⟩, ?_⟩))
    refine MemK_call Try.call33 ?_; simp only [go_sem, ↓reduceIte, Nat.reduceEqDiff, Nat.mul_one, Nat.zero_add]; refine CallK.mk (noughts_does o a cap k most w2 (by omega) (by omega) (by omega) (hH.focus 0 rfl)) ?_
    rintro v w3 (⟨hlt, rfl, rfl⟩ | ⟨hlt, a', cap', hL, rfl⟩)
    · (try simp only [go_sem, ↓reduceIte, Nat.reduceEqDiff, Nat.mul_one, Nat.zero_add])
      (refine hK _ _ ?_; clear hK; try clear K)
      (repeat refine VC_seq ?_); refine VC_region [0, 1, 2, 9, 10, 11, 13, 74] rfl fun K hK => ?_; simp only [go_sem, ↓reduceIte, Nat.reduceEqDiff, Nat.mul_one, Nat.zero_add]
      ((repeat (first | refine ⟨by omega, ?_⟩ | refine ⟨I64.mk (by omega) (by omega), ?_⟩)); refine hK _ _ ?_; clear hK; try clear K)
      refine VC_cond rfl rfl (fun h => ?_) (fun h => by simp at h) -- t74
      (repeat refine VC_seq ?_); refine VC_region [6, 7] rfl fun K hK => ?_; simp only [go_sem, ↓reduceIte, Nat.reduceEqDiff, Nat.mul_one, Nat.zero_add]
      ((repeat (first | refine ⟨by omega, ?_⟩ | refine ⟨I64.mk (by omega) (by omega), ?_⟩)); refine hK _ _ ?_; clear hK; try clear K)
      refine VC_ret (VX_ret2 rfl rfl rfl ?_) -- RET (6, t6), (7, t7)
      rw [if_pos hlt] at g5
      rw [g5]
      exact IntsErr.nil (hH.sub (by simp)) 3
    · (try simp only [go_sem, ↓reduceIte, Nat.reduceEqDiff, Nat.mul_one, Nat.zero_add])
      (refine hK _ _ ?_; clear hK; try clear K)
      have hH3 := hH.call1 0 rfl hL
      rw [if_neg hlt] at g5
      (repeat refine VC_seq ?_); refine VC_region [0, 1, 2, 9, 10, 11, 13, 74] rfl fun K hK => ?_; simp only [go_sem, ↓reduceIte, Nat.reduceEqDiff, Nat.mul_one, Nat.zero_add]
      ((repeat (first | refine ⟨by omega, ?_⟩ | refine ⟨I64.mk (by omega) (by omega), ?_⟩)); refine hK _ _ ?_; clear hK; try clear K)
      refine VC_cond rfl rfl (fun h => by simp at h) (fun h => VC_skip ?_) -- t74
      (repeat refine VC_seq ?_); refine VC_region [0, 1, 2, 8, 9, 10, 11] rfl fun K hK => ?_; simp only [go_sem, ↓reduceIte, Nat.reduceEqDiff, Nat.mul_one, Nat.zero_add]
      ((repeat (first | refine ⟨by omega, ?_⟩ | refine ⟨I64.mk (by omega) (by omega), ?_⟩)); refine hK _ _ ?_; clear hK; try clear K)
      have hlen : ((o ++ List.replicate k.toNat 0).length : Int) = o.length + k := by simp; omega
      (repeat refine VC_seq ?_); refine VC_region [0, 1, 2, 8, 9, 10, 11] rfl fun K hK => ?_; simp only [go_sem, ↓reduceIte, Nat.reduceEqDiff, Nat.mul_one, Nat.zero_add]
      ((repeat (first | refine ⟨by omega, ?_⟩ | refine ⟨I64.mk (by omega) (by omega), ?_⟩)); refine hK _ _ ?_; clear hK; try clear K)
      refine VC_blk ?_
      (repeat refine VC_seq ?_); refine VC_region [0, 1, 2, 8, 9, 10, 11] rfl fun K hK => ?_; simp only [go_sem, ↓reduceIte, Nat.reduceEqDiff, Nat.mul_one, Nat.zero_add]
      ((repeat (first | refine ⟨by omega, ?_⟩ | refine ⟨I64.mk (by omega) (by omega), ?_⟩)); refine hK _ _ ?_; clear hK; try clear K)
      refine VC_again ?_
      simp only [go_sem, ↓reduceIte, Nat.reduceEqDiff, Nat.mul_one, Nat.zero_add]
      exact ⟨l.length - (i + 1), by omega, i + 1, 2 * wt, _, _, _, false, by simp [Is]; omega, hH3, by omega, by omega, by omega, by omega, g5, rfl⟩
  · simp only [decide_eq_false_iff_not] at h
    refine VC_exit rfl ?_
    rw [List.drop_of_length_le (by omega), zdec, zend] at g5
    (repeat refine VC_seq ?_); refine VC_region [8, 79] rfl fun K hK => ?_; simp only [go_sem, ↓reduceIte, Nat.reduceEqDiff, Nat.mul_one, Nat.zero_add]
    ((repeat (first | refine ⟨by omega, ?_⟩ | refine ⟨I64.mk (by omega) (by omega), ?_⟩)); refine hK _ _ ?_; clear hK; try clear K)
    cases b with
    | false =>
      refine VC_cond rfl rfl (fun h => ?_) (fun h => by simp at h) -- t79
      (repeat refine VC_seq ?_); refine VC_region [6, 7] rfl fun K hK => ?_; simp only [go_sem, ↓reduceIte, Nat.reduceEqDiff, Nat.mul_one, Nat.zero_add]
      ((repeat (first | refine ⟨by omega, ?_⟩ | refine ⟨I64.mk (by omega) (by omega), ?_⟩)); refine hK _ _ ?_; clear hK; try clear K)
      refine VC_ret (VX_ret2 rfl rfl rfl ?_) -- RET (6, t6), (7, t7)
      rw [g5]
      exact IntsErr.nil (hH.sub (by simp)) 70
    | true =>
      refine VC_cond rfl rfl (fun h => by simp at h) (fun h => VC_skip ?_) -- t79
      (repeat refine VC_seq ?_); refine VC_region [6, 7] rfl fun K hK => ?_; simp only [go_sem, ↓reduceIte, Nat.reduceEqDiff, Nat.mul_one, Nat.zero_add]
      ((repeat (first | refine ⟨by omega, ?_⟩ | refine ⟨I64.mk (by omega) (by omega), ?_⟩)); refine hK _ _ ?_; clear hK; try clear K)
      refine VC_ret (VX_ret2 rfl rfl rfl ?_) -- RET (6, t6), (7, t7)
      rw [g5]
      exact ⟨_, _, hH, rfl⟩
end Go.Proofs.Ytgepfjlecmmokaa
