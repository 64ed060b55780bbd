/- Runs of noughts: what Decode answers; the walks of the reference's Encode. -/
import Derived.Test.YtgepfjlecmmokaaZrun6
namespace Go.Proofs.Ytgepfjlecmmokaa
open Go Go.Eng
set_option maxRecDepth 100000
set_option linter.unusedSimpArgs false
set_option linter.unusedVariables false

theorem rzenc_does (n : Int) (l : List Int) (la : Option Addr) (lc : Nat) (hn : I64 n) (w : World) (hl : RS w la l.length 1 (intsV l)) (hs : l.length ≤ 2147483640) (hi : ∀ v ∈ l, I64 v) :
    Does Try.prog 26 #[.int .i64 n, .slice la l.length lc] w (IntsErr (zenc n l) w) := by
  refine Does_enter (args := [.int .i64 n, .slice la l.length lc]) 72 Try.func26 rfl rfl (of_decide_eq_true rfl) ?_
  simp only [Env.ofArgs]
  (repeat refine VC_seq ?_); refine VC_region [0, 1] rfl fun K hK => ?_; simp only [go_sem, ↓reduceIte, Nat.reduceEqDiff, Nat.mul_one, Nat.zero_add]
  ((repeat (first | refine ⟨by omega, ?_⟩ | refine ⟨I64.mk (by omega) (by omega), ?_⟩)); refine hK _ _ ?_; clear hK; try clear K)
  (repeat refine VC_seq ?_); refine VC_region [0, 1, 18] rfl fun K hK => ?_; simp only [go_sem, ↓reduceIte, Nat.reduceEqDiff, Nat.mul_one, Nat.zero_add]
  have out : (n < 1 ∨ 256 < n) → K [(0, .int .i64 n), (1, .slice la l.length lc), (18, .bool true)] w := by
    intro h
    (refine hK _ _ ?_; clear hK; try clear K)
    refine VC_cond rfl rfl (fun _ => ?_) (fun h => by cases h)
    (repeat refine VC_seq ?_); refine VC_region [4, 5] rfl fun K hK => ?_; simp only [go_sem, ↓reduceIte, Nat.reduceEqDiff, Nat.mul_one, Nat.zero_add]
    ((repeat (first | refine ⟨by omega, ?_⟩ | refine ⟨I64.mk (by omega) (by omega), ?_⟩)); refine hK _ _ ?_; clear hK; try clear K)
    refine VC_ret (VX_ret2 rfl rfl rfl ?_)
    rw [zenc, if_pos h]
    exact IntsErr.nil (Heap.start w) 2
  refine ⟨fun h1 => ?_, fun h1 => out (.inl h1)⟩
  by_cases h2 : 256 < n
  · rw [decide_eq_true h2]
    exact out (.inr h2)
  rw [decide_eq_false h2]
  clear out
  (refine hK _ _ ?_; clear hK; try clear K)
  refine VC_cond rfl rfl (fun h => by cases h) (fun _ => VC_skip ?_)
  rw [zenc, if_neg (by omega)]
  (repeat refine VC_seq ?_); refine VC_region [0, 1, 6] rfl fun K hK => ?_; simp only [go_sem, ↓reduceIte, Nat.reduceEqDiff, Nat.mul_one, Nat.zero_add]
  ((repeat (first | refine ⟨by omega, ?_⟩ | refine ⟨I64.mk (by omega) (by omega), ?_⟩)); refine hK _ _ ?_; clear hK; try clear K)
  (repeat refine VC_seq ?_); refine VC_region [0, 1, 6, 7] rfl fun K hK => ?_; simp only [go_sem, ↓reduceIte, Nat.reduceEqDiff, Nat.mul_one, Nat.zero_add]
  ((repeat (first | refine ⟨by omega, ?_⟩ | refine ⟨I64.mk (by omega) (by omega), ?_⟩)); refine hK _ _ ?_; clear hK; try clear K)
  (repeat refine VC_seq ?_); refine VC_region [0, 1, 6, 7, 8] rfl fun K hK => ?_; simp only [go_sem, ↓reduceIte, Nat.reduceEqDiff, Nat.mul_one, Nat.zero_add]
  ((repeat (first | refine ⟨by omega, ?_⟩ | refine ⟨I64.mk (by omega) (by omega), ?_⟩)); refine hK _ _ ?_; clear hK; try clear K)
  ((repeat refine VC_seq ?_); refine VC_block ?_)
  refine VC_loopS [0, 1, 6, 7, 8] (fun m e w' => ∃ (i z cap : Nat) (a : Option Addr) (o : List Int), Is e [(0, .int .i64 n), (1, .slice la l.length lc), (6, .slice a o.length cap), (7, .int .i64 z), (8, .int .i64 i)] ∧ Heap w [] w' [Res.row 3 1 a o.length cap (intsV o)] ∧ i ≤ l.length ∧ o.length + z ≤ i ∧ zgo n [] 0 l = zgo n o z (l.drop i) ∧ m = l.length - i) l.length ?_ ?_
  · simp only [go_sem, ↓reduceIte, Nat.reduceEqDiff, Nat.mul_one, Nat.zero_add]
    exact ⟨0, 0, 0, none, [], rfl, heap_nil, by omega, by simp, rfl, rfl⟩
  rintro m e w2 ⟨i, z, cap, a, o, rfl, hH, g1, g2, g3, rfl⟩
  (repeat refine VC_seq ?_); refine VC_region [0, 1, 6, 7, 8, 22] rfl fun K hK => ?_; simp only [go_sem, ↓reduceIte, Nat.reduceEqDiff, Nat.mul_one, Nat.zero_add]
  ((repeat (first | refine ⟨by omega, ?_⟩ | refine ⟨I64.mk (by omega) (by omega), ?_⟩)); refine hK _ _ ?_; clear hK; try clear K)
  have hrz : runS z = (dig z, 0) := by rw [runS, if_neg (by omega), Int.toNat_natCast]
  have hdl := dig_length z z (Nat.le_refl _)
  refine VC_cond rfl rfl (fun h => ?_) (fun h => ?_) -- t22
  · simp only [decide_eq_true_eq] at h
    refine VC_skip ?_
    ((repeat refine VC_seq ?_); refine VC_block ?_)
    obtain ⟨p, rfl⟩ := rs_pos hl (by omega)
    have hl2 := hH.rs' hl
    have hc := rs_int hl2 (show i < l.length by omega)
    have g4 := g3
    rw [drop_getD (by omega), zgo] at g4
    have hr := hi _ (getD_mem (show i < l.length by omega))
    generalize hv : l.getD i 0 = v at *
    obtain ⟨hr1, hr2⟩ := hr
    (repeat refine VC_seq ?_); refine VC_region [0, 1, 6, 7, 8, 37] rfl fun K hK => ?_; simp only [go_sem, ↓reduceIte, Nat.reduceEqDiff, Nat.mul_one, Nat.zero_add]
    refine ⟨⟨by omega, by omega⟩, _, hc, ?_⟩
    simp only [go_sem, ↓reduceIte, Nat.reduceEqDiff, Nat.mul_one, Nat.zero_add]
    have out : (v < 0 ∨ n ≤ v) → K [(0, .int .i64 n), (1, .slice (some p) l.length lc), (6, .slice a o.length cap), (7, .int .i64 z), (8, .int .i64 i), (37, .bool true)] w2 := by
      intro h
      (refine hK _ _ ?_; clear hK; try clear K)
      refine VC_cond rfl rfl (fun _ => ?_) (fun h => by cases h)
      (repeat refine VC_seq ?_); refine VC_region [4, 5] rfl fun K hK => ?_; simp only [go_sem, ↓reduceIte, Nat.reduceEqDiff, Nat.mul_one, Nat.zero_add]
      ((repeat (first | refine ⟨by omega, ?_⟩ | refine ⟨I64.mk (by omega) (by omega), ?_⟩)); refine hK _ _ ?_; clear hK; try clear K)
      refine VC_ret (VX_ret2 rfl rfl rfl ?_)
      rw [g4, if_neg (by omega), if_pos h]
      exact IntsErr.nil (hH.sub (by simp)) 60
    refine ⟨fun f1 => ⟨⟨by omega, by omega⟩, _, hc, ?_⟩, fun f1 => out (.inl f1)⟩
    simp only [go_sem, ↓reduceIte, Nat.reduceEqDiff, Nat.mul_one, Nat.zero_add]
    by_cases f2 : n ≤ v
    · rw [decide_eq_true f2]; exact out (.inr f2)
    rw [decide_eq_false f2]
    clear out
    (refine hK _ _ ?_; clear hK; try clear K)
    refine VC_cond rfl rfl (fun h => by cases h) (fun _ => VC_skip ?_)
    (repeat refine VC_seq ?_); refine VC_region [0, 1, 6, 7, 8, 42] rfl fun K hK => ?_; simp only [go_sem, ↓reduceIte, Nat.reduceEqDiff, Nat.mul_one, Nat.zero_add]
    refine ⟨⟨by omega, by omega⟩, _, hc, ?_⟩
    simp only [go_sem, ↓reduceIte, Nat.reduceEqDiff, Nat.mul_one, Nat.zero_add]
    ((repeat (first | refine ⟨by omega, ?_⟩ | refine ⟨I64.mk (by omega) (by omega), ?_⟩)); refine hK _ _ ?_; clear hK; try clear K)
    refine VC_cond rfl rfl (fun h => ?_) (fun h => ?_) -- t42
    · simp only [decide_eq_true_eq] at h
      rw [if_pos h] at g4
      (repeat refine VC_seq ?_); refine VC_region [0, 1, 6, 7, 8] rfl fun K hK => ?_; simp only [go_sem, ↓reduceIte, Nat.reduceEqDiff, Nat.mul_one, Nat.zero_add]
      ((repeat (first | refine ⟨by omega, ?_⟩ | refine ⟨I64.mk (by omega) (by omega), ?_⟩)); refine hK _ _ ?_; clear hK; try clear K)
      refine VC_exit rfl ?_
      (repeat refine VC_seq ?_); refine VC_region [0, 1, 6, 7, 8] rfl fun K hK => ?_; simp only [go_sem, ↓reduceIte, Nat.reduceEqDiff, Nat.mul_one, Nat.zero_add]
      ((repeat (first | refine ⟨by omega, ?_⟩ | refine ⟨I64.mk (by omega) (by omega), ?_⟩)); refine hK _ _ ?_; clear hK; try clear K)
      refine VC_again ?_
      simp only [go_sem, ↓reduceIte, Nat.reduceEqDiff, Nat.mul_one, Nat.zero_add]
      exact ⟨l.length - (i + 1), by omega, i + 1, z + 1, _, _, _, rfl, hH, by omega, by omega, g4, rfl⟩
    simp only [decide_eq_false_iff_not] at h
    rw [if_neg h, if_neg (by omega)] at g4
    refine VC_skip ?_
    (repeat refine VC_seq ?_); refine VC_region [0, 1, 6, 8, 9] rfl fun K hK => ?_; simp only [go_sem, ↓reduceIte, Nat.reduceEqDiff, Nat.mul_one, Nat.zero_add]
    refine MemK_call Try.call22 ?_; simp only [go_sem, ↓reduceIte, Nat.reduceEqDiff, Nat.mul_one, Nat.zero_add]; refine CallK.mk (rrun_z_does z (I64.mk (by omega) (by omega)) w2) ?_
    rw [hrz]
    rintro v' w3 ⟨a2, c2, hH2, rfl⟩
    (try simp only [go_sem, ↓reduceIte, Nat.reduceEqDiff, Nat.mul_one, Nat.zero_add])
    (refine hK _ _ ?_; clear hK; try clear K)
    have hH3 := hH.call0 hH2
    -- region 13 ref.go:49 DRAWS
    (repeat refine VC_seq ?_)
    have hc3 := rs_int hl (show i < l.length by omega)
    rw [hv] at hc3
    (repeat refine VC_seq ?_); refine VC_regionT w hH3.ext [0, 1, 6, 8] (.two [(0, true), (1, true), (3, true), (4, true), (5, true), (6, true), (7, true)] 2 8 (.seq [(8, false), (9, false), (10, true)]) (.seq [(2, false), (9, false), (10, true)])) (by kernel_rfl) (by kernel_rfl) rfl fun K hK => ?_
    have last : ∀ (a' : Option Addr) (cap' : Nat) (w5 : World), Heap w [] w5 [Res.row 3 1 a' (o ++ dig z ++ [v + 1]).length cap' (intsV (o ++ dig z ++ [v + 1]))] → K [(0, .int .i64 n), (1, .slice (some p) l.length lc), (6, .slice a' (o ++ dig z ++ [v + 1]).length cap'), (8, .int .i64 i)] w5 := by
      intro a' cap' w5 hH5
      (refine hK _ _ ?_; clear hK; try clear K)
      (repeat refine VC_seq ?_); refine VC_region [0, 1, 6, 7, 8] rfl fun K hK => ?_; simp only [go_sem, ↓reduceIte, Nat.reduceEqDiff, Nat.mul_one, Nat.zero_add]
      ((repeat (first | refine ⟨by omega, ?_⟩ | refine ⟨I64.mk (by omega) (by omega), ?_⟩)); refine hK _ _ ?_; clear hK; try clear K)
      refine VC_blk ?_
      (repeat refine VC_seq ?_); refine VC_region [0, 1, 6, 7, 8] rfl fun K hK => ?_; simp only [go_sem, ↓reduceIte, Nat.reduceEqDiff, Nat.mul_one, Nat.zero_add]
      ((repeat (first | refine ⟨by omega, ?_⟩ | refine ⟨I64.mk (by omega) (by omega), ?_⟩)); refine hK _ _ ?_; clear hK; try clear K)
      refine VC_again ?_
      simp only [go_sem, ↓reduceIte, Nat.reduceEqDiff, Nat.mul_one, Nat.zero_add]
      exact ⟨l.length - (i + 1), by omega, i + 1, 0, _, _, _, rfl, hH5, by omega, by simp; omega, g4, rfl⟩
    clear hK
    simp only [vcT, planned, List.filterMap_cons, List.filterMap_nil, List.getElem?_cons_succ, List.getElem?_cons_zero, Option.map_some]; simp only [go_sem, ↓reduceIte, Nat.reduceEqDiff, Nat.mul_one, Nat.zero_add]
    refine ⟨⟨by omega, by omega⟩, _, hc3, ?_⟩
    simp only [go_sem, ↓reduceIte, Nat.reduceEqDiff, Nat.mul_one, Nat.zero_add]
    (repeat (first | refine ⟨by omega, ?_⟩ | refine ⟨I64.mk (by omega) (by omega), ?_⟩ | refine ⟨⟨by omega, by omega⟩, ?_⟩))
    refine ⟨?_, ?_⟩
    · (repeat (first | refine ⟨by omega, ?_⟩ | refine ⟨I64.mk (by omega) (by omega), ?_⟩ | refine ⟨⟨by omega, by omega⟩, ?_⟩))
      refine MemK_append ?_; simp only [go_sem, ↓reduceIte, Nat.reduceEqDiff, Nat.mul_one, Nat.zero_add]; refine AppK_ints hH3 1 rfl Try.underlying34 zi3 (t := dig z) (by simp) (row_rs (hH2.at 0 rfl)) (fun h => by (first | omega | (simp; done) | (simp; omega))) fun a' cap' w5 hc' hH4 => ?_; (try simp only [go_sem, ↓reduceIte, Nat.reduceEqDiff, Nat.mul_one, Nat.zero_add])
      refine ⟨hH4.ext, ?_⟩
      refine MemK_lit (xs := [.tmp 57]) Try.underlying34 sz3 rfl rfl rfl (by omega) ?_; simp only [go_sem, ↓reduceIte, Nat.reduceEqDiff, Nat.mul_one, Nat.zero_add]; refine ⟨by simp [Value.cells], ?_⟩
      refine ⟨hH4.ext.trans (Ext.alloc _ _), ?_⟩
      refine MemK_append ?_; simp only [go_sem, ↓reduceIte, Nat.reduceEqDiff, Nat.mul_one, Nat.zero_add]; refine AppK_int hH4 1 rfl Try.underlying34 zi3 (fun h => by (first | omega | (simp; done) | (simp; omega))) fun a' cap' w5 hc' hH5 => ?_; (try simp only [go_sem, ↓reduceIte, Nat.reduceEqDiff, Nat.mul_one, Nat.zero_add])
      refine ⟨hH5.ext, ?_⟩
      exact last _ _ _ (hH5.sub (by simp))
    · (repeat (first | refine ⟨by omega, ?_⟩ | refine ⟨I64.mk (by omega) (by omega), ?_⟩ | refine ⟨⟨by omega, by omega⟩, ?_⟩))
      refine MemK_lit (xs := [.tmp 57]) Try.underlying34 sz3 rfl rfl rfl (by omega) ?_; simp only [go_sem, ↓reduceIte, Nat.reduceEqDiff, Nat.mul_one, Nat.zero_add]; refine ⟨by simp [Value.cells], ?_⟩
      have hH4 := hH3.row 3 (n := 1) (cap := 1) (sz := 1) [.int .i64 (v + 1)] [] (by simp) (by simp) (by omega) (by omega)
      simp only [List.append_nil] at hH4
      rw [show [Value.int .i64 (v + 1)] = intsV [v + 1] from rfl] at hH4 ⊢
      generalize w3.alloc (Obj.cells (intsV [v + 1]).toArray 3) = w4 at *
      refine ⟨hH4.ext, ?_⟩
      (try simp only [go_sem, ↓reduceIte, Nat.reduceEqDiff, Nat.mul_one, Nat.zero_add])
      refine MemK_append ?_; simp only [go_sem, ↓reduceIte, Nat.reduceEqDiff, Nat.mul_one, Nat.zero_add]; refine AppK_ints hH4 2 rfl Try.underlying34 zi3 (t := dig z) (by simp) (row_rs (hH4.at 1 rfl)) (fun h => by (first | omega | (simp; done) | (simp; omega))) fun a' cap' w5 hc' hH5 => ?_; (try simp only [go_sem, ↓reduceIte, Nat.reduceEqDiff, Nat.mul_one, Nat.zero_add])
      refine ⟨hH5.ext, ?_⟩
      refine MemK_append ?_; simp only [go_sem, ↓reduceIte, Nat.reduceEqDiff, Nat.mul_one, Nat.zero_add]; refine AppK_ints hH5 2 rfl Try.underlying34 zi3 (t := [v + 1]) rfl (row_rs (hH5.at 0 rfl)) (fun h => by (first | omega | (simp; done) | (simp; omega))) fun a' cap' w5 hc' hH6 => ?_; (try simp only [go_sem, ↓reduceIte, Nat.reduceEqDiff, Nat.mul_one, Nat.zero_add])
      refine ⟨hH6.ext, ?_⟩
      exact last _ _ _ (hH6.sub (by simp))
  · simp only [decide_eq_false_iff_not] at h
    refine VC_exit rfl ?_
    rw [List.drop_of_length_le (by omega), zgo] at g3
    (repeat refine VC_seq ?_); refine VC_region [0, 6, 11] rfl fun K hK => ?_; simp only [go_sem, ↓reduceIte, Nat.reduceEqDiff, Nat.mul_one, Nat.zero_add]
    refine MemK_call Try.call22 ?_; simp only [go_sem, ↓reduceIte, Nat.reduceEqDiff, Nat.mul_one, Nat.zero_add]; refine CallK.mk (rrun_z_does z (I64.mk (by omega) (by omega)) w2) ?_
    rw [hrz]
    rintro v' w3 ⟨a2, c2, hH2, rfl⟩
    (try simp only [go_sem, ↓reduceIte, Nat.reduceEqDiff, Nat.mul_one, Nat.zero_add])
    (refine hK _ _ ?_; clear hK; try clear K)
    have hH3 := hH.call0 hH2
    (repeat refine VC_seq ?_); refine VC_region [4, 5] rfl fun K hK => ?_; simp only [go_sem, ↓reduceIte, Nat.reduceEqDiff, Nat.mul_one, Nat.zero_add]
    refine MemK_append ?_; simp only [go_sem, ↓reduceIte, Nat.reduceEqDiff, Nat.mul_one, Nat.zero_add]; refine AppK_ints hH3 1 rfl Try.underlying34 zi3 (t := dig z) (by simp) (row_rs (hH2.at 0 rfl)) (fun h => by (first | omega | (simp; done) | (simp; omega))) fun a' cap' w5 hc' hH4 => ?_; (try simp only [go_sem, ↓reduceIte, Nat.reduceEqDiff, Nat.mul_one, Nat.zero_add])
    (repeat (first | refine ⟨by omega, ?_⟩ | refine ⟨I64.mk (by omega) (by omega), ?_⟩ | refine ⟨⟨by omega, by omega⟩, ?_⟩))
    refine MemK_lit (xs := [.tmp 69]) Try.underlying34 sz3 rfl rfl rfl (by omega) ?_; simp only [go_sem, ↓reduceIte, Nat.reduceEqDiff, Nat.mul_one, Nat.zero_add]; refine ⟨by simp [Value.cells], ?_⟩
    refine MemK_append ?_; simp only [go_sem, ↓reduceIte, Nat.reduceEqDiff, Nat.mul_one, Nat.zero_add]; refine AppK_int hH4 1 rfl Try.underlying34 zi3 (fun h => by (first | omega | (simp; done) | (simp; omega))) fun a' cap' w5 hc' hH5 => ?_; (try simp only [go_sem, ↓reduceIte, Nat.reduceEqDiff, Nat.mul_one, Nat.zero_add])
    (refine hK _ _ ?_; clear hK; try clear K)
    refine VC_ret (VX_ret2 rfl rfl rfl ?_) -- RET (4, t4), (5, t5)
    rw [g3]
    exact ⟨_, _, hH5.sub (by simp), rfl⟩
end Go.Proofs.Ytgepfjlecmmokaa
