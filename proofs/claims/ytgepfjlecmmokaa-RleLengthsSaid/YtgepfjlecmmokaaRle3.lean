/- Runs of bytes: the walks through the reference's functions. -/
import Derived.Test.YtgepfjlecmmokaaRle2
namespace Go.Proofs.Ytgepfjlecmmokaa
open Go Go.Eng
set_option maxRecDepth 100000
set_option linter.unusedSimpArgs false
set_option linter.unusedVariables false

theorem length_pos_of {α : Type} {l : List α} (h : 0 < l.length) : l ≠ [] := by intro h'; rw [h'] at h; simp at h

theorem renc_does (l : List UInt8) (w : World) (hs : l.length ≤ 140737488355328) :
    Does Try.prog 15 #[Str l] w fun v w' => Heap w [] w' [] ∧ v = Str (enc l) := by
  refine Does_enter (args := [Str l]) 47 Try.func15 rfl rfl (of_decide_eq_true rfl) ?_
  simp only [Env.ofArgs]
  (repeat refine VC_seq ?_); refine VC_region [0] rfl fun K hK => ?_; simp only [go_sem, ↓reduceIte, Nat.reduceEqDiff, Nat.mul_one, Nat.zero_add]
  ((repeat (first | refine ⟨by omega, ?_⟩ | refine ⟨I64.mk (by omega) (by omega), ?_⟩)); refine hK _ _ ?_; clear hK; try clear K)
  (repeat refine VC_seq ?_); refine VC_region [0, 3] rfl fun K hK => ?_; simp only [go_sem, ↓reduceIte, Nat.reduceEqDiff, Nat.mul_one, Nat.zero_add]
  ((repeat (first | refine ⟨by omega, ?_⟩ | refine ⟨I64.mk (by omega) (by omega), ?_⟩)); refine hK _ _ ?_; clear hK; try clear K)
  ((repeat refine VC_seq ?_); refine VC_block ?_)
  refine VC_loopS [0, 3] (fun m e w' => ∃ (s o : List UInt8), Is e [(0, Str s), (3, Str o)] ∧ Heap w [] w' [] ∧ enc l = o ++ enc s ∧ s.length ≤ l.length ∧ m = s.length) l.length ?_ ?_
  · simp only [go_sem, ↓reduceIte, Nat.reduceEqDiff, Nat.mul_one, Nat.zero_add]
    exact ⟨l, [], rfl, Heap.start w, rfl, Nat.le_refl _, rfl⟩
  rintro m e w1 ⟨s, o, rfl, hH, h1, h2, rfl⟩
  have hel := enc_length l
  have hol : o.length ≤ (enc l).length := by rw [h1]; simp
  (repeat refine VC_seq ?_); refine VC_region [0, 3, 7] rfl fun K hK => ?_; simp only [go_sem, ↓reduceIte, Nat.reduceEqDiff, Nat.mul_one, Nat.zero_add]
  ((repeat (first | refine ⟨by omega, ?_⟩ | refine ⟨I64.mk (by omega) (by omega), ?_⟩)); refine hK _ _ ?_; clear hK; try clear K)
  refine VC_cond rfl rfl (fun hlt => ?_) (fun hge => ?_)
  · simp only [decide_eq_true_eq] at hlt
    refine VC_skip (VC_block ?_)
    have hs0 : s ≠ [] := length_pos_of (by omega)
    (repeat refine VC_seq ?_); refine VC_region [0, 3, 4] rfl fun K hK => ?_; simp only [go_sem, ↓reduceIte, Nat.reduceEqDiff, Nat.mul_one, Nat.zero_add]
    ((repeat (first | refine ⟨by omega, ?_⟩ | refine ⟨I64.mk (by omega) (by omega), ?_⟩)); refine hK _ _ ?_; clear hK; try clear K)
    ((repeat refine VC_seq ?_); refine VC_block ?_)
    refine VC_loopS [0, 3, 4] (fun m e w' => ∃ n : Nat, Is e [(0, Str s), (3, Str o), (4, .int .i64 n)] ∧ Is w' w1 ∧ 1 ≤ n ∧ n ≤ 255 ∧ n ≤ s.length ∧ Same s 0 n ∧ m = 255 - n) 254 ?_ ?_
    · simp only [go_sem, ↓reduceIte, Nat.reduceEqDiff, Nat.mul_one, Nat.zero_add]
      exact ⟨1, rfl, rfl, by omega, by omega, by omega, fun j hj => by rw [show j = 0 by omega], rfl⟩
    rintro m e w' ⟨n, rfl, rfl, g1, g2, g3, g4, rfl⟩
    (repeat refine VC_seq ?_); refine VC_regionQ [0, 3, 4, 23] (by kernel_rfl) (by kernel_rfl) rfl fun K hK => ?_; simp only [go_sem, ↓reduceIte, Nat.reduceEqDiff, Nat.mul_one, Nat.zero_add]
    have done : (n = 255 ∨ s[0 + n]? ≠ s[0]?) → K [(0, Str s), (3, Str o), (4, Value.int IntKind.i64 n), (23, Value.bool false)] := by
      intro hend
      (refine hK _ ?_; clear hK; try clear K)
      refine VC_cond rfl rfl (fun h => by cases h) (fun _ => ?_)
      refine VC_exit rfl ?_
      have hrun := runOf_eq s 0 n (by omega) g1 g2 g4 hend
      rw [List.drop_zero] at hrun
      have hstep := enc_step s hs0
      rw [hrun] at hstep
      have htot : (o ++ encRun n s).length ≤ (enc l).length := by rw [h1, hstep]; (first | omega | (simp; done) | (simp; omega))
      have hrl := encRun_length n s g3
      (repeat refine VC_seq ?_); refine VC_region [0, 3, 4, 27] rfl fun K hK => ?_; simp only [go_sem, ↓reduceIte, Nat.reduceEqDiff, Nat.mul_one, Nat.zero_add]
      ((repeat (first | refine ⟨by omega, ?_⟩ | refine ⟨I64.mk (by omega) (by omega), ?_⟩)); refine hK _ _ ?_; clear hK; try clear K)
      refine VC_cut [0, 3, 4] (fun e w3 => Is e [(0, Str s), (3, Str (o ++ encRun n s)), (4, .int .i64 n)] ∧ Heap w [] w3 []) ?_ ?_
      · refine VC_cond rfl rfl (fun hn4 => ?_) (fun hn4 => ?_)
        · simp only [decide_eq_true_eq] at hn4
          rw [if_pos (by omega)] at hrl
          (repeat refine VC_seq ?_); refine VC_region [0, 3, 4] rfl fun K hK => ?_; simp only [go_sem, ↓reduceIte, Nat.reduceEqDiff, Nat.mul_one, Nat.zero_add]
          refine ⟨by omega, by (first | omega | (simp; done) | (simp; omega)), ?_⟩
          have e : encRun n s = List.take n s := by rw [encRun, if_pos (by omega)]
          rw [← e]
          (refine hK _ _ ?_; clear hK; try clear K)
          refine VC_again ?_
          simp only [go_sem, ↓reduceIte, Nat.reduceEqDiff, Nat.mul_one, Nat.zero_add]
          exact ⟨rfl, hH⟩
        · simp only [decide_eq_false_iff_not] at hn4
          rw [if_neg (by omega)] at hrl
          have e : encRun n s = List.take 4 s ++ [UInt8.ofNat (n - 4)] := by rw [encRun, if_neg (by omega)]
          (repeat refine VC_seq ?_); refine VC_regionH _ (Ext.refl _) [0, 3, 4] [(0, true), (1, true), (2, true), (3, true), (4, true), (5, true), (6, true), (7, false), (8, false), (9, false), (10, false)] (by kernel_rfl) (by kernel_rfl) rfl (by simp only [planned, List.filterMap_cons, List.filterMap_nil, List.getElem?_cons_succ, List.getElem?_cons_zero, Option.map_some]; rfl) fun K hK => ?_; simp only [go_sem, ↓reduceIte, Nat.reduceEqDiff, Nat.mul_one, Nat.zero_add]
          refine ⟨by omega, by (first | omega | (simp; done) | (simp; omega)), I64.mk (by omega) (by omega), ?_⟩
          refine MemK_lit (xs := [.tmp 39]) Try.underlying32 sz5 rfl rfl rfl (by omega) ?_
          simp only [go_sem, ↓reduceIte, Nat.reduceEqDiff, Nat.mul_one, Nat.zero_add]
          refine ⟨by simp [Value.cells], ?_⟩
          have hH' := hH.row 5 (n := 1) (cap := 1) (sz := 1) [Value.int .u8 ((↑n - 4) % 256)] [] (by simp) (by simp) (by omega) (by omega)
          simp only [List.append_nil] at hH'
          have hb : [Value.int .u8 ((↑n - 4) % 256)] = bytesV [UInt8.ofNat (n - 4)] := by
            simp [bytesV]; omega
          rw [hb] at hH' ⊢
          refine ⟨Ext.alloc _ _, [UInt8.ofNat (n - 4)], hH'.readsBytes 0 rfl, ?_, ?_⟩
          · simp; omega
          rw [show (4 : Int).toNat = 4 from rfl, List.append_assoc, ← e]
          (refine hK _ _ ?_; clear hK; try clear K)
          refine VC_again ?_
          simp only [go_sem, ↓reduceIte, Nat.reduceEqDiff, Nat.mul_one, Nat.zero_add]
          exact ⟨rfl, hH'.sub (by simp)⟩
      · rintro e w3 ⟨rfl, hH⟩
        (repeat refine VC_seq ?_); refine VC_region [0, 3] rfl fun K hK => ?_; simp only [go_sem, ↓reduceIte, Nat.reduceEqDiff, Nat.mul_one, Nat.zero_add]
        ((repeat (first | refine ⟨by omega, ?_⟩ | refine ⟨I64.mk (by omega) (by omega), ?_⟩)); refine hK _ _ ?_; clear hK; try clear K)
        refine VC_blk (VC_again ?_)
        simp only [go_sem, ↓reduceIte, Nat.reduceEqDiff, Nat.mul_one, Nat.zero_add]
        refine ⟨(s.drop n).length, by (first | omega | (simp; done) | (simp; omega)), s.drop n, o ++ encRun n s, rfl, hH, ?_, by (first | omega | (simp; done) | (simp; omega)), rfl⟩
        rw [h1, hstep, List.append_assoc]
    refine ⟨fun k1 => ⟨fun k2 => ⟨by omega, by omega, ?_⟩, fun k2 => done (.inl (by omega))⟩, fun k1 => ?_⟩
    · by_cases hc : s[0 + n]? = s[0]?
      · (refine hK _ ?_; clear hK; try clear K)
        refine VC_cond rfl rfl (fun h => ?_) (fun h => ?_)
        · refine VC_skip (VC_block ?_)
          (repeat refine VC_seq ?_); refine VC_region [0, 3, 4] rfl fun K hK => ?_; simp only [go_sem, ↓reduceIte, Nat.reduceEqDiff, Nat.mul_one, Nat.zero_add]
          ((repeat (first | refine ⟨by omega, ?_⟩ | refine ⟨I64.mk (by omega) (by omega), ?_⟩)); refine hK _ _ ?_; clear hK; try clear K)
          refine VC_blk (VC_again ?_)
          simp only [go_sem, ↓reduceIte, Nat.reduceEqDiff, Nat.mul_one, Nat.zero_add]
          refine ⟨255 - (n + 1), by omega, n + 1, rfl, rfl, by omega, by omega, by omega, ?_, rfl⟩
          intro j hj
          by_cases hjn : j = n
          · rw [hjn]; exact hc
          · exact g4 j (by omega)
        · exfalso
          simp only [decide_eq_false_iff_not] at h
          rw [show (0 : Int).toNat = 0 from rfl, getD_eq_iff (by omega) (by omega)] at h
          exact h (by simpa using hc)
      · have e : decide ((((s.getD n 0).toNat : Nat) : Int) = (((s.getD (0 : Int).toNat 0).toNat : Nat) : Int)) = false := by
          rw [decide_eq_false_iff_not, show (0 : Int).toNat = 0 from rfl, getD_eq_iff (by omega) (by omega)]
          simpa using hc
        rw [e]
        exact done (.inr hc)
    · exact done (.inr (by rw [List.getElem?_eq_none (by omega), List.getElem?_eq_getElem (by omega)]; simp))
  · simp only [decide_eq_false_iff_not] at hge
    refine VC_exit rfl ?_
    (repeat refine VC_seq ?_); refine VC_region [2] rfl fun K hK => ?_; simp only [go_sem, ↓reduceIte, Nat.reduceEqDiff, Nat.mul_one, Nat.zero_add]
    (refine hK _ _ ?_; clear hK; try clear K)
    refine VC_ret (VX_ret1 rfl rfl ⟨hH, ?_⟩)
    rw [h1, List.eq_nil_of_length_eq_zero (show s.length = 0 by omega), enc_nil, List.append_nil]
end Go.Proofs.Ytgepfjlecmmokaa
