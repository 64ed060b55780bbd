/- Runs of bytes: the walks through the program's functions. -/
import Derived.Test.YtgepfjlecmmokaaRle1
namespace Go.Proofs.Ytgepfjlecmmokaa
open Go Go.Eng
set_option maxRecDepth 100000
set_option linter.unusedSimpArgs false
set_option linter.unusedVariables false

theorem getD_eq_iff {l : List UInt8} {i j : Nat} (hi : i < l.length) (hj : j < l.length) : (((l.getD i 0).toNat : Int) = ((l.getD j 0).toNat : Int)) ↔ l[i]? = l[j]? := by
  rw [List.getElem?_eq_getElem hi, List.getElem?_eq_getElem hj, List.getD_eq_getElem?_getD, List.getD_eq_getElem?_getD, List.getElem?_eq_getElem hi, List.getElem?_eq_getElem hj]
  simp only [Option.getD_some, Option.some.injEq]
  exact ⟨fun h => UInt8.toNat_inj.1 (by omega), fun h => by rw [h]⟩

theorem run_does (l : List UInt8) (i : Nat) (w : World) (hi : i < l.length) (hs : l.length ≤ 1000000000000000000) :
    Does Try.prog 29 #[Str l, .int .i64 i] w fun v w' => w' = w ∧ v = .int .i64 (runOf (l.drop i)) := by
  refine Does_enter (args := [Str l, .int .i64 i]) 30 Try.func29 rfl rfl (of_decide_eq_true rfl) ?_
  simp only [Env.ofArgs]
  (repeat refine VC_seq ?_); refine VC_region [0, 1] rfl fun K hK => ?_; simp only [go_sem, ↓reduceIte, Nat.reduceEqDiff, Nat.mul_one, Nat.zero_add]
  ((repeat (first | refine ⟨by omega, ?_⟩ | refine ⟨I64.mk (by omega) (by omega), ?_⟩)); refine hK _ _ ?_; clear hK; try clear K)
  (repeat refine VC_seq ?_); refine VC_region [0, 1, 5] rfl fun K hK => ?_; simp only [go_sem, ↓reduceIte, Nat.reduceEqDiff, Nat.mul_one, Nat.zero_add]
  ((repeat (first | refine ⟨by omega, ?_⟩ | refine ⟨I64.mk (by omega) (by omega), ?_⟩)); refine hK _ _ ?_; clear hK; try clear K)
  ((repeat refine VC_seq ?_); refine VC_block ?_)
  refine VC_loopS [0, 1, 5] (fun m e w' => ∃ n : Nat, Is e [(0, Str l), (1, .int .i64 i), (5, .int .i64 n)] ∧ Is w' w ∧ 1 ≤ n ∧ n ≤ 255 ∧ Same l i n ∧ m = 255 - n) 254 ?_ ?_
  · simp only [go_sem, ↓reduceIte, Nat.reduceEqDiff, Nat.mul_one, Nat.zero_add]
    exact ⟨1, rfl, rfl, by omega, by omega, fun j hj => by rw [show j = 0 by omega]; rfl, rfl⟩
  rintro m e w' ⟨n, rfl, rfl, h1, h2, h3, rfl⟩
  (repeat refine VC_seq ?_); refine VC_regionQ [0, 1, 5, 26] (by kernel_rfl) (by kernel_rfl) rfl fun K hK => ?_; simp only [go_sem, ↓reduceIte, Nat.reduceEqDiff, Nat.mul_one, Nat.zero_add]
  have done : (n = 255 ∨ l[i + n]? ≠ l[i]?) → K [(0, Str l), (1, Value.int IntKind.i64 i), (5, Value.int IntKind.i64 n), (26, Value.bool false)] := by
    intro hend
    (refine hK _ ?_; clear hK; try clear K)
    refine VC_cond rfl rfl (fun h => by cases h) (fun _ => ?_)
    refine VC_exit rfl ?_
    (repeat refine VC_seq ?_); refine VC_region [4] rfl fun K hK => ?_; simp only [go_sem, ↓reduceIte, Nat.reduceEqDiff, Nat.mul_one, Nat.zero_add]
    (refine hK _ _ ?_; clear hK; try clear K)
    refine VC_ret (VX_ret1 rfl rfl ⟨rfl, ?_⟩)
    rw [runOf_eq l i n hi h1 h2 h3 hend]
  refine ⟨fun g1 => ⟨I64.mk (by omega) (by omega), fun g2 => ⟨I64.mk (by omega) (by omega), by omega, by omega, ?_⟩, fun g2 => done (.inr ?_)⟩, fun g1 => done (.inl (by omega))⟩
  · by_cases hc : l[i + n]? = l[i]?
    · (refine hK _ ?_; clear hK; try clear K)
      refine VC_cond rfl rfl (fun h => ?_) (fun h => ?_)
      · refine VC_skip (VC_block ?_)
        (repeat refine VC_seq ?_); refine VC_region [0, 1, 5] rfl fun K hK => ?_; simp only [go_sem, ↓reduceIte, Nat.reduceEqDiff, Nat.mul_one, Nat.zero_add]
        ((repeat (first | refine ⟨by omega, ?_⟩ | refine ⟨I64.mk (by omega) (by omega), ?_⟩)); refine hK _ _ ?_; clear hK; try clear K)
        refine VC_blk (VC_again ?_)
        simp only [go_sem, ↓reduceIte, Nat.reduceEqDiff, Nat.mul_one, Nat.zero_add]
        refine ⟨255 - (n + 1), by omega, n + 1, rfl, rfl, by omega, by omega, ?_, rfl⟩
        intro j hj
        by_cases hjn : j = n
        · rw [hjn]; exact hc
        · exact h3 j (by omega)
      · exfalso
        simp only [decide_eq_false_iff_not] at h
        rw [getD_eq_iff (by omega) hi] at h
        exact h hc
    · have e : decide ((((l.getD (i + n) 0).toNat : Nat) : Int) = (((l.getD i 0).toNat : Nat) : Int)) = false := by
        rw [decide_eq_false_iff_not, getD_eq_iff (by omega) hi]
        exact hc
      rw [e]
      exact done (.inr hc)
  · rw [List.getElem?_eq_none (by omega), List.getElem?_eq_getElem hi]; simp

theorem enc_does (l : List UInt8) (w : World) (hs : l.length ≤ 140737488355328) :
    Does Try.prog 14 #[Str l] w fun v w' => Heap w [] w' [] ∧ v = Str (enc l) := by
  refine Does_enter (args := [Str l]) 48 Try.func14 rfl rfl (of_decide_eq_true rfl) ?_
  simp only [Env.ofArgs]
  (repeat refine VC_seq ?_); refine VC_region [0] rfl fun K hK => ?_; simp only [go_sem, ↓reduceIte, Nat.reduceEqDiff, Nat.mul_one, Nat.zero_add]
  ((repeat (first | refine ⟨by omega, ?_⟩ | refine ⟨I64.mk (by omega) (by omega), ?_⟩)); refine hK _ _ ?_; clear hK; try clear K)
  (repeat refine VC_seq ?_); refine VC_region [0, 3] rfl fun K hK => ?_; simp only [go_sem, ↓reduceIte, Nat.reduceEqDiff, Nat.mul_one, Nat.zero_add]
  refine ⟨by omega, by omega, I64.mk (by omega) (by omega), I64.mk (by omega) (by omega), ?_⟩
  refine MemK_make Try.underlying32 zi5 ?_
  simp only [go_sem, ↓reduceIte, Nat.reduceEqDiff, Nat.mul_one, Nat.zero_add]
  refine ⟨0, l.length + l.length / 4, ⟨rfl, rfl, by omega, by omega, by omega⟩, ?_⟩
  have hH := (Heap.start w).row 5 (n := 0) (cap := l.length + l.length / 4) (sz := 1) [] (List.replicate (l.length + l.length / 4) (.int .u8 0)) (by simp) (by simp) (by omega) (by omega)
  simp only [List.nil_append] at hH
  generalize w.alloc (Obj.cells (List.replicate (l.length + l.length / 4) (Value.int IntKind.u8 0)).toArray 5) = w1 at hH ⊢
  generalize (some ⟨w.heap.size, 0, none⟩ : Option Addr) = a at hH ⊢
  (refine hK _ _ ?_; clear hK; try clear K)
  (repeat refine VC_seq ?_); refine VC_region [0, 3, 4] rfl fun K hK => ?_; simp only [go_sem, ↓reduceIte, Nat.reduceEqDiff, Nat.mul_one, Nat.zero_add]
  ((repeat (first | refine ⟨by omega, ?_⟩ | refine ⟨I64.mk (by omega) (by omega), ?_⟩)); refine hK _ _ ?_; clear hK; try clear K)
  ((repeat refine VC_seq ?_); refine VC_block ?_)
  refine VC_loopS [0, 3, 4] (fun m e w' => ∃ (i : Nat) (o : List UInt8), Is e [(0, Str l), (3, .slice a o.length (l.length + l.length / 4)), (4, .int .i64 i)] ∧ Heap w [] w' [Res.row 5 1 a o.length (l.length + l.length / 4) (bytesV o)] ∧ i ≤ l.length ∧ enc l = o ++ enc (l.drop i) ∧ o.length ≤ i + i / 4 ∧ m = l.length - i) l.length ?_ ?_
  · simp only [go_sem, ↓reduceIte, Nat.reduceEqDiff, Nat.mul_one, Nat.zero_add]
    exact ⟨0, [], rfl, hH, by omega, rfl, by simp, rfl⟩
  rintro m e w2 ⟨i, o, rfl, hH, h1, h2, h3, rfl⟩
  (repeat refine VC_seq ?_); refine VC_region [0, 3, 4, 16] rfl fun K hK => ?_; simp only [go_sem, ↓reduceIte, Nat.reduceEqDiff, Nat.mul_one, Nat.zero_add]
  ((repeat (first | refine ⟨by omega, ?_⟩ | refine ⟨I64.mk (by omega) (by omega), ?_⟩)); refine hK _ _ ?_; clear hK; try clear K)
  refine VC_cond rfl rfl (fun hlt => ?_) (fun hge => ?_)
  · simp only [decide_eq_true_eq] at hlt
    refine VC_skip (VC_block ?_)
    have hn1 : 1 ≤ runOf (l.drop i) := runOf_pos _ (by intro h; have := congrArg List.length h; simp at this; omega)
    have hn2 := runOf_le (l.drop i)
    rw [List.length_drop] at hn2
    have hstep := enc_step (l.drop i) (by intro h; have := congrArg List.length h; simp at this; omega)
    rw [List.drop_drop] at hstep
    (repeat refine VC_seq ?_); refine VC_region [0, 3, 4, 5] rfl fun K hK => ?_; simp only [go_sem, ↓reduceIte, Nat.reduceEqDiff, Nat.mul_one, Nat.zero_add]
    refine MemK_call Try.call29 ?_; simp only [go_sem, ↓reduceIte, Nat.reduceEqDiff, Nat.mul_one, Nat.zero_add]; refine CallK.mk (run_does l i w2 (by omega) (by omega)) ?_
    rintro v w' ⟨rfl, rfl⟩
    (try simp only [go_sem, ↓reduceIte, Nat.reduceEqDiff, Nat.mul_one, Nat.zero_add])
    (refine hK _ _ ?_; clear hK; try clear K)
    generalize hn : runOf (l.drop i) = n at hn1 hn2 hstep ⊢
    (repeat refine VC_seq ?_); refine VC_region [0, 3, 4, 5, 21] rfl fun K hK => ?_; simp only [go_sem, ↓reduceIte, Nat.reduceEqDiff, Nat.mul_one, Nat.zero_add]
    ((repeat (first | refine ⟨by omega, ?_⟩ | refine ⟨I64.mk (by omega) (by omega), ?_⟩)); refine hK _ _ ?_; clear hK; try clear K)
    refine VC_cut [0, 3, 4, 5] (fun e w3 => Is e [(0, Str l), (3, .slice a (o ++ encRun n (l.drop i)).length (l.length + l.length / 4)), (4, .int .i64 i), (5, .int .i64 n)] ∧ Heap w [] w3 [Res.row 5 1 a (o ++ encRun n (l.drop i)).length (l.length + l.length / 4) (bytesV (o ++ encRun n (l.drop i)))]) ?_ ?_
    · refine VC_cond rfl rfl (fun hn4 => ?_) (fun hn4 => ?_)
      · simp only [decide_eq_true_eq] at hn4
        (repeat refine VC_seq ?_); refine VC_region [0, 3, 4, 5] rfl fun K hK => ?_; simp only [go_sem, ↓reduceIte, Nat.reduceEqDiff, Nat.mul_one, Nat.zero_add]
        refine ⟨I64.mk (by omega) (by omega), by omega, ?_⟩
        refine MemK_append ?_
        simp only [go_sem, ↓reduceIte, Nat.reduceEqDiff, Nat.mul_one, Nat.zero_add]
        have e : encRun n (l.drop i) = List.take (i + n - i) (List.drop i l) := by
          rw [encRun, if_pos (by omega)]; congr 1; omega
        rw [← e]
        have el : (o ++ encRun n (l.drop i)).length ≤ l.length + l.length / 4 := by
          rw [List.length_append, encRun_length _ _ (by simp; omega), if_pos (by omega)]; omega
        refine AppK_str hH 0 rfl Try.underlying32 zi5 Try.underlying9 (fun h => by omega) fun a' cap' w' hc hH => ?_
        obtain ⟨rfl, rfl⟩ := hc el
        (try simp only [go_sem, ↓reduceIte, Nat.reduceEqDiff, Nat.mul_one, Nat.zero_add])
        (refine hK _ _ ?_; clear hK; try clear K)
        refine VC_again ?_
        simp only [go_sem, ↓reduceIte, Nat.reduceEqDiff, Nat.mul_one, Nat.zero_add]
        exact ⟨rfl, hH⟩
      · simp only [decide_eq_false_iff_not] at hn4
        have e : encRun n (l.drop i) = List.take (i + 4 - i) (List.drop i l) ++ [UInt8.ofNat (n - 4)] := by
          rw [encRun, if_neg (by omega)]; congr 2; omega
        have el : (o ++ encRun n (l.drop i)).length ≤ l.length + l.length / 4 := by
          rw [List.length_append, encRun_length _ _ (by simp; omega), if_neg (by omega)]; omega
        rw [e, ← List.append_assoc] at el ⊢
        generalize ht : List.take (i + 4 - i) (List.drop i l) = t at el ⊢
        have el2 : (o ++ t).length ≤ l.length + l.length / 4 := by simp at el ⊢; omega
        (repeat refine VC_seq ?_); refine VC_region [0, 3, 4, 5] rfl fun K hK => ?_; simp only [go_sem, ↓reduceIte, Nat.reduceEqDiff, Nat.mul_one, Nat.zero_add]
        refine ⟨I64.mk (by omega) (by omega), by omega, ?_⟩
        refine MemK_append ?_
        simp only [go_sem, ↓reduceIte, Nat.reduceEqDiff, Nat.mul_one, Nat.zero_add]
        rw [ht]
        refine AppK_str hH 0 rfl Try.underlying32 zi5 Try.underlying9 (fun h => by omega) fun a' cap' w' hc hH => ?_
        obtain ⟨rfl, rfl⟩ := hc el2
        (try simp only [go_sem, ↓reduceIte, Nat.reduceEqDiff, Nat.mul_one, Nat.zero_add])
        (refine hK _ _ ?_; clear hK; try clear K)
        (repeat refine VC_seq ?_); refine VC_region [0, 3, 4, 5] rfl fun K hK => ?_; simp only [go_sem, ↓reduceIte, Nat.reduceEqDiff, Nat.mul_one, Nat.zero_add]
        refine ⟨I64.mk (by omega) (by omega), ?_⟩
        refine MemK_lit (xs := [.tmp 40]) Try.underlying32 sz5 rfl rfl rfl (by omega) ?_
        simp only [go_sem, ↓reduceIte, Nat.reduceEqDiff, Nat.mul_one, Nat.zero_add]
        refine ⟨by simp [Value.cells], ?_⟩
        refine MemK_append ?_
        simp only [go_sem, ↓reduceIte, Nat.reduceEqDiff, Nat.mul_one, Nat.zero_add]
        refine AppK_byte hH 0 (UInt8.ofNat (n - 4)) rfl Try.underlying32 zi5 (by simp; omega) (fun h => by omega) fun a' cap' w' hc hH => ?_
        obtain ⟨rfl, rfl⟩ := hc el
        (try simp only [go_sem, ↓reduceIte, Nat.reduceEqDiff, Nat.mul_one, Nat.zero_add])
        (refine hK _ _ ?_; clear hK; try clear K)
        refine VC_again ?_
        simp only [go_sem, ↓reduceIte, Nat.reduceEqDiff, Nat.mul_one, Nat.zero_add]
        exact ⟨rfl, hH⟩
    · rintro e w3 ⟨rfl, hH⟩
      (repeat refine VC_seq ?_); refine VC_region [0, 3, 4] rfl fun K hK => ?_; simp only [go_sem, ↓reduceIte, Nat.reduceEqDiff, Nat.mul_one, Nat.zero_add]
      ((repeat (first | refine ⟨by omega, ?_⟩ | refine ⟨I64.mk (by omega) (by omega), ?_⟩)); refine hK _ _ ?_; clear hK; try clear K)
      refine VC_blk (VC_again ?_)
      simp only [go_sem, ↓reduceIte, Nat.reduceEqDiff, Nat.mul_one, Nat.zero_add]
      refine ⟨l.length - (i + n), by omega, i + n, o ++ encRun n (l.drop i), rfl, hH, by omega, ?_, ?_, rfl⟩
      · rw [h2, hstep, List.append_assoc]
      · rw [List.length_append, encRun_length _ _ (by simp; omega)]; split <;> omega
  · simp only [decide_eq_false_iff_not] at hge
    refine VC_exit rfl ?_
    (repeat refine VC_seq ?_); refine VC_region [2] rfl fun K hK => ?_; simp only [go_sem, ↓reduceIte, Nat.reduceEqDiff, Nat.mul_one, Nat.zero_add]
    refine ⟨o, hH.readsBytes 0 rfl, ?_⟩
    (refine hK _ _ ?_; clear hK; try clear K)
    refine VC_ret (VX_ret1 rfl rfl ⟨hH.sub (by simp), ?_⟩)
    rw [h2, List.drop_of_length_le (by omega), enc_nil, List.append_nil]
end Go.Proofs.Ytgepfjlecmmokaa
