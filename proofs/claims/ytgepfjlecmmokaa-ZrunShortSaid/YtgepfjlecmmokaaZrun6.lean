/- Runs of noughts: the walk through the program's Encode. -/
import Derived.Test.YtgepfjlecmmokaaZrun5
namespace Go.Proofs.Ytgepfjlecmmokaa
open Go Go.Eng
set_option maxRecDepth 100000
set_option linter.unusedSimpArgs false
set_option linter.unusedVariables false

theorem rs_int {w : World} {p : Addr} {l : List Int} {n : Nat} (h : RS w (some p) n 1 (intsV l)) {i : Nat} (hi : i < l.length) : w.cell? (p.add i) = some (.int .i64 (l.getD i 0)) :=
  h.2.2 p rfl i _ (by simp [intsV, List.getElem?_eq_getElem hi])
theorem rs_pos {w : World} {a : Option Addr} {n sz : Nat} {xs : List Value} (h : RS w a n sz xs) (hn : 0 < n) : ∃ p, a = some p := by
  cases a with
  | none => have := h.2.1 rfl; omega
  | some p => exact ⟨p, rfl⟩
theorem drop_getD {l : List Int} {i : Nat} (h : i < l.length) : l.drop i = l.getD i 0 :: l.drop (i + 1) := by
  rw [List.drop_eq_getElem_cons h, List.getD_eq_getElem?_getD, List.getElem?_eq_getElem h]; rfl
theorem getD_mem {l : List Int} {i : Nat} (h : i < l.length) : l.getD i 0 ∈ l := by
  rw [List.getD_eq_getElem?_getD, List.getElem?_eq_getElem h]; exact List.getElem_mem h
theorem heap_nil {w : World} {E : Nat} : Heap w [] w [Res.row E 1 none 0 0 []] := Heap.one (r := Res.row E 1 none 0 0 []) (row_nil E 1 w) (by intro b hb; cases hb)

/-- What is written of the ranks that are left, behind `out` and z noughts. -/
def zgo (n : Int) : List Int → Nat → List Int → List Int × Int
  | out, z, [] => (out ++ dig z ++ [n + 1], 0)
  | out, z, v :: r => if v = 0 then zgo n out (z + 1) r else if v < 0 ∨ n ≤ v then ([], 60) else zgo n (out ++ dig z ++ [v + 1]) 0 r

def zenc (n : Int) (l : List Int) : List Int × Int := if n < 1 ∨ 256 < n then ([], 2) else zgo n [] 0 l

theorem zenc_does (n : Int) (l : List Int) (la : Option Addr) (lc : Nat) (hn : I64 n) (w : World) (hl : RS w la l.length 1 (intsV l)) (hs : l.length ≤ 17592186044400) (hi : ∀ v ∈ l, I64 v) :
    Does Try.prog 25 #[.int .i64 n, .slice la l.length lc] w (IntsErr (zenc n l) w) := by
  refine Does_enter (args := [.int .i64 n, .slice la l.length lc]) 68 Try.func25 rfl rfl (of_decide_eq_true rfl) ?_
  simp only [Env.ofArgs]
  (repeat refine VC_seq ?_); refine VC_region [0, 1] rfl fun K hK => ?_; simp only [go_sem, ↓reduceIte, Nat.reduceEqDiff, Nat.mul_one, Nat.zero_add]
  ((repeat (first | refine ⟨by omega, ?_⟩ | refine ⟨I64.mk (by omega) (by omega), ?_⟩)); refine hK _ _ ?_; clear hK; try clear K)
  (repeat refine VC_seq ?_); refine VC_region [0, 1, 14] rfl fun K hK => ?_; simp only [go_sem, ↓reduceIte, Nat.reduceEqDiff, Nat.mul_one, Nat.zero_add]
  have out : (n < 1 ∨ 256 < n) → K [(0, .int .i64 n), (1, .slice la l.length lc), (14, .bool true)] w := by
    intro h
    (refine hK _ _ ?_; clear hK; try clear K)
    refine VC_cond rfl rfl (fun _ => ?_) (fun h => by cases h)
    (repeat refine VC_seq ?_); refine VC_region [4, 5] rfl fun K hK => ?_; simp only [go_sem, ↓reduceIte, Nat.reduceEqDiff, Nat.mul_one, Nat.zero_add]
    ((repeat (first | refine ⟨by omega, ?_⟩ | refine ⟨I64.mk (by omega) (by omega), ?_⟩)); refine hK _ _ ?_; clear hK; try clear K)
    refine VC_ret (VX_ret2 rfl rfl rfl ?_)
    rw [zenc, if_pos h]
    exact IntsErr.nil (Heap.start w) 2
  refine ⟨fun h1 => ?_, fun h1 => out (.inl h1)⟩
  by_cases h2 : 256 < n
  · rw [decide_eq_true h2]
    exact out (.inr h2)
  rw [decide_eq_false h2]
  clear out
  (refine hK _ _ ?_; clear hK; try clear K)
  refine VC_cond rfl rfl (fun h => by cases h) (fun _ => VC_skip ?_)
  rw [zenc, if_neg (by omega)]
  (repeat refine VC_seq ?_); refine VC_region [0, 1, 6] rfl fun K hK => ?_; simp only [go_sem, ↓reduceIte, Nat.reduceEqDiff, Nat.mul_one, Nat.zero_add]
  ((repeat (first | refine ⟨by omega, ?_⟩ | refine ⟨I64.mk (by omega) (by omega), ?_⟩)); refine hK _ _ ?_; clear hK; try clear K)
  (repeat refine VC_seq ?_); refine VC_region [0, 1, 6, 7] rfl fun K hK => ?_; simp only [go_sem, ↓reduceIte, Nat.reduceEqDiff, Nat.mul_one, Nat.zero_add]
  ((repeat (first | refine ⟨by omega, ?_⟩ | refine ⟨I64.mk (by omega) (by omega), ?_⟩)); refine hK _ _ ?_; clear hK; try clear K)
  (repeat refine VC_seq ?_)
  refine VC_cut [0, 6] (fun e w' => ∃ (cap : Nat) (a : Option Addr) (o : List Int), Is e [(0, .int .i64 n), (6, .slice a o.length cap)] ∧ Heap w [] w' [Res.row 3 1 a o.length cap (intsV o)] ∧ o.length ≤ l.length ∧ zgo n [] 0 l = (o ++ [n + 1], 0)) (VC_block ?_) ?_
  rotate_left
  · rintro e w2 ⟨cap, a, o, rfl, hH, g1, g2⟩
    (repeat refine VC_seq ?_); refine VC_region [4, 5] rfl fun K hK => ?_; simp only [go_sem, ↓reduceIte, Nat.reduceEqDiff, Nat.mul_one, Nat.zero_add]
    (repeat (first | refine ⟨by omega, ?_⟩ | refine ⟨I64.mk (by omega) (by omega), ?_⟩ | refine ⟨⟨by omega, by omega⟩, ?_⟩))
    refine MemK_lit (xs := [.tmp 65]) Try.underlying34 sz3 rfl rfl rfl (by omega) ?_; simp only [go_sem, ↓reduceIte, Nat.reduceEqDiff, Nat.mul_one, Nat.zero_add]; refine ⟨by simp [Value.cells], ?_⟩
    refine MemK_append ?_; simp only [go_sem, ↓reduceIte, Nat.reduceEqDiff, Nat.mul_one, Nat.zero_add]; refine AppK_int hH 0 rfl Try.underlying34 zi3 (fun h => by (first | omega | (simp; done) | (simp; omega))) fun a' cap' w5 hc' hH6 => ?_; (try simp only [go_sem, ↓reduceIte, Nat.reduceEqDiff, Nat.mul_one, Nat.zero_add])
    (refine hK _ _ ?_; clear hK; try clear K)
    refine VC_ret (VX_ret2 rfl rfl rfl ?_) -- RET (4, t4), (5, t5)
    rw [g2]
    exact ⟨_, _, hH6, rfl⟩
  refine VC_loopS [0, 1, 6, 7] (fun m e w' => ∃ (i cap : Nat) (a : Option Addr) (o : List Int), Is e [(0, .int .i64 n), (1, .slice la l.length lc), (6, .slice a o.length cap), (7, .int .i64 i)] ∧ Heap w [] w' [Res.row 3 1 a o.length cap (intsV o)] ∧ i ≤ l.length ∧ o.length ≤ i ∧ zgo n [] 0 l = zgo n o 0 (l.drop i) ∧ m = l.length - i) l.length ?_ ?_
  · simp only [go_sem, ↓reduceIte, Nat.reduceEqDiff, Nat.mul_one, Nat.zero_add]
    exact ⟨0, 0, none, [], rfl, heap_nil, by omega, by simp, rfl, rfl⟩
  rintro m e w2 ⟨i, cap, a, o, rfl, hH, g1, g2, g3, rfl⟩
  (repeat refine VC_seq ?_); refine VC_region [0, 1, 6, 7, 18] rfl fun K hK => ?_; simp only [go_sem, ↓reduceIte, Nat.reduceEqDiff, Nat.mul_one, Nat.zero_add]
  ((repeat (first | refine ⟨by omega, ?_⟩ | refine ⟨I64.mk (by omega) (by omega), ?_⟩)); refine hK _ _ ?_; clear hK; try clear K)
  refine VC_cond rfl rfl (fun h => ?_) (fun h => ?_) -- t18
  · simp only [decide_eq_true_eq] at h
    refine VC_skip ?_
    refine VC_block ?_
    refine VC_scope ?_
    (repeat refine VC_seq ?_); refine VC_region [0, 1, 6, 7, 8] rfl fun K hK => ?_; simp only [go_sem, ↓reduceIte, Nat.reduceEqDiff, Nat.mul_one, Nat.zero_add]
    ((repeat (first | refine ⟨by omega, ?_⟩ | refine ⟨I64.mk (by omega) (by omega), ?_⟩)); refine hK _ _ ?_; clear hK; try clear K)
    (repeat refine VC_seq ?_)
    refine VC_label ?_
    (repeat refine VC_seq ?_)
    refine VC_cut [0, 1, 6, 7, 8] (fun e w' => ∃ j z : Nat, Is e [(0, .int .i64 n), (1, .slice la l.length lc), (6, .slice a o.length cap), (7, .int .i64 j), (8, .int .i64 z)] ∧ Is w' w2 ∧ j ≤ l.length ∧ i ≤ j ∧ z = j - i ∧ zgo n [] 0 l = zgo n o z (l.drop j) ∧ (j < l.length → l.getD j 0 ≠ 0)) ?_ ?_ -- CUT block 2
    · refine VC_block ?_
      refine VC_loopS [0, 1, 6, 7, 8] (fun m e w' => ∃ (j z : Nat), Is e [(0, .int .i64 n), (1, .slice la l.length lc), (6, .slice a o.length cap), (7, .int .i64 j), (8, .int .i64 z)] ∧ Is w' w2 ∧ j ≤ l.length ∧ i ≤ j ∧ z = j - i ∧ zgo n [] 0 l = zgo n o z (l.drop j) ∧ m = l.length - j) (l.length - i) ?_ ?_ -- LOOP
      · simp only [go_sem, ↓reduceIte, Nat.reduceEqDiff, Nat.mul_one, Nat.zero_add]
        exact ⟨i, 0, rfl, rfl, g1, by omega, by omega, g3, rfl⟩
      rintro m e w' ⟨j, z, rfl, rfl, k1, k2, k3, k4, rfl⟩
      (repeat refine VC_seq ?_); refine VC_region [0, 1, 6, 7, 8, 22] rfl fun K hK => ?_; simp only [go_sem, ↓reduceIte, Nat.reduceEqDiff, Nat.mul_one, Nat.zero_add]
      ((repeat (first | refine ⟨by omega, ?_⟩ | refine ⟨I64.mk (by omega) (by omega), ?_⟩)); refine hK _ _ ?_; clear hK; try clear K)
      refine VC_cond rfl rfl (fun h => ?_) (fun h => ?_) -- t22
      · simp only [decide_eq_true_eq] at h
        refine VC_skip ?_
        refine VC_block ?_
        obtain ⟨p, rfl⟩ := rs_pos hl (by omega)
        have hl2 := hH.rs' hl
        (repeat refine VC_seq ?_); refine VC_region [0, 1, 6, 7, 8, 27] rfl fun K hK => ?_; simp only [go_sem, ↓reduceIte, Nat.reduceEqDiff, Nat.mul_one, Nat.zero_add]
        refine ⟨⟨by omega, by omega⟩, _, rs_int hl2 (show j < l.length by omega), ?_⟩
        simp only [go_sem, ↓reduceIte, Nat.reduceEqDiff, Nat.mul_one, Nat.zero_add]
        ((repeat (first | refine ⟨by omega, ?_⟩ | refine ⟨I64.mk (by omega) (by omega), ?_⟩)); refine hK _ _ ?_; clear hK; try clear K)
        have k4' := k4
        rw [drop_getD (by omega), zgo] at k4
        refine VC_cond rfl rfl (fun h => ?_) (fun h => ?_) -- t27
        · simp only [decide_eq_true_eq] at h
          refine VC_exit rfl ?_
          refine VC_again ?_
          simp only [go_sem, ↓reduceIte, Nat.reduceEqDiff, Nat.mul_one, Nat.zero_add]
          exact ⟨j, z, rfl, rfl, k1, k2, k3, k4', fun _ => h⟩ -- AGAIN cut [(0, n), (1, l), (6, out), (7, i), (8, run)]
        simp only [decide_eq_false_iff_not, Decidable.not_not] at h
        rw [if_pos h] at k4
        refine VC_skip ?_
        (repeat refine VC_seq ?_); refine VC_region [0, 1, 6, 7, 8] rfl fun K hK => ?_; simp only [go_sem, ↓reduceIte, Nat.reduceEqDiff, Nat.mul_one, Nat.zero_add]
        ((repeat (first | refine ⟨by omega, ?_⟩ | refine ⟨I64.mk (by omega) (by omega), ?_⟩)); refine hK _ _ ?_; clear hK; try clear K)
        (repeat refine VC_seq ?_); refine VC_region [0, 1, 6, 7, 8] rfl fun K hK => ?_; simp only [go_sem, ↓reduceIte, Nat.reduceEqDiff, Nat.mul_one, Nat.zero_add]
        ((repeat (first | refine ⟨by omega, ?_⟩ | refine ⟨I64.mk (by omega) (by omega), ?_⟩)); refine hK _ _ ?_; clear hK; try clear K)
        refine VC_blk ?_
        refine VC_again ?_
        simp only [go_sem, ↓reduceIte, Nat.reduceEqDiff, Nat.mul_one, Nat.zero_add]
        exact ⟨l.length - (j + 1), by omega, j + 1, z + 1, rfl, rfl, by omega, by omega, by omega, k4, rfl⟩ -- AGAIN loop [(0, n), (1, l), (6, out), (7, i), (8, run)]
      · simp only [decide_eq_false_iff_not] at h
        refine VC_exit rfl ?_
        refine VC_again ?_
        simp only [go_sem, ↓reduceIte, Nat.reduceEqDiff, Nat.mul_one, Nat.zero_add]
        exact ⟨j, z, rfl, rfl, k1, k2, k3, k4, fun h' => by omega⟩ -- AGAIN cut [(0, n), (1, l), (6, out), (7, i), (8, run)]
    rintro e w' ⟨j, z, rfl, rfl, k1, k2, k3, k4, k5⟩
    have hdl := dig_length z z (Nat.le_refl _)
    (repeat refine VC_seq ?_); refine VC_region [0, 1, 6, 7] rfl fun K hK => ?_; simp only [go_sem, ↓reduceIte, Nat.reduceEqDiff, Nat.mul_one, Nat.zero_add]
    refine MemK_call Try.call31 ?_; simp only [go_sem, ↓reduceIte, Nat.reduceEqDiff, Nat.mul_one, Nat.zero_add]; refine CallK.mk (digits_does z w' (by omega)) ?_
    rintro v w2 ⟨a2, c2, hH2, rfl⟩
    (try simp only [go_sem, ↓reduceIte, Nat.reduceEqDiff, Nat.mul_one, Nat.zero_add])
    have hH3 := hH.call0 hH2
    refine MemK_append ?_; simp only [go_sem, ↓reduceIte, Nat.reduceEqDiff, Nat.mul_one, Nat.zero_add]; refine AppK_ints hH3 1 rfl Try.underlying34 zi3 (t := dig z) (by simp) (row_rs (hH2.at 0 rfl)) (fun h => by (first | omega | (simp; done) | (simp; omega))) fun a' cap' w5 hc' hH4 => ?_; (try simp only [go_sem, ↓reduceIte, Nat.reduceEqDiff, Nat.mul_one, Nat.zero_add])
    (refine hK _ _ ?_; clear hK; try clear K)
    have hol : (o ++ dig z).length ≤ j := by simp; omega
    (repeat refine VC_seq ?_); refine VC_region [0, 1, 6, 7, 39] rfl fun K hK => ?_; simp only [go_sem, ↓reduceIte, Nat.reduceEqDiff, Nat.mul_one, Nat.zero_add]
    ((repeat (first | refine ⟨by omega, ?_⟩ | refine ⟨I64.mk (by omega) (by omega), ?_⟩)); refine hK _ _ ?_; clear hK; try clear K)
    refine VC_cond rfl rfl (fun h => ?_) (fun h => ?_) -- t39
    · simp only [decide_eq_true_eq] at h
      refine VC_exit rfl (VC_again ?_)
      simp only [go_sem, ↓reduceIte, Nat.reduceEqDiff, Nat.mul_one, Nat.zero_add]
      rw [List.drop_of_length_le (by omega), zgo] at k4
      exact ⟨_, _, _, rfl, hH4.sub (by simp), by omega, k4⟩
    simp only [decide_eq_false_iff_not] at h
    refine VC_skip ?_
    obtain ⟨p, rfl⟩ := rs_pos hl (by omega)
    have hl2 := hH4.rs' hl
    have hc := rs_int hl2 (show j < l.length by omega)
    have hj := k5 (by omega)
    rw [drop_getD (by omega), zgo, if_neg hj] at k4
    have hr := hi _ (getD_mem (show j < l.length by omega))
    generalize l.getD j 0 = v at *
    obtain ⟨hr1, hr2⟩ := hr
    -- region 13 zrun.go:45
    --   t40 = t1
    --   t41 = t7
    --   t42 = indexAddr T34 t40[t41]
    --   t43 = load T3 t42
    --   t44 = t43 < .int .i64 0 (T3)
    --   t45 = t44
    --   t46 = t1   [g t45=False]
    --   t47 = t7   [g t45=False]
    --   t48 = indexAddr T34 t46[t47]   [g t45=False]
    --   t49 = load T3 t48   [g t45=False]
    --   t50 = t0   [g t45=False]
    --   t51 = t49 >= t50 (T3)   [g t45=False]
    --   t52 = pick t45 .bool true t51
    (repeat refine VC_seq ?_); refine VC_region [0, 1, 6, 7, 52] rfl fun K hK => ?_; simp only [go_sem, ↓reduceIte, Nat.reduceEqDiff, Nat.mul_one, Nat.zero_add]
    refine ⟨⟨by omega, by omega⟩, _, hc, ?_⟩
    simp only [go_sem, ↓reduceIte, Nat.reduceEqDiff, Nat.mul_one, Nat.zero_add]
    have out : (v < 0 ∨ n ≤ v) → K [(0, .int .i64 n), (1, .slice (some p) l.length lc), (6, .slice a' (o ++ dig z).length cap'), (7, .int .i64 j), (52, .bool true)] w5 := by
      intro h
      (refine hK _ _ ?_; clear hK; try clear K)
      refine VC_cond rfl rfl (fun _ => ?_) (fun h => by cases h)
      (repeat refine VC_seq ?_); refine VC_region [4, 5] rfl fun K hK => ?_; simp only [go_sem, ↓reduceIte, Nat.reduceEqDiff, Nat.mul_one, Nat.zero_add]
      ((repeat (first | refine ⟨by omega, ?_⟩ | refine ⟨I64.mk (by omega) (by omega), ?_⟩)); refine hK _ _ ?_; clear hK; try clear K)
      refine VC_ret (VX_ret2 rfl rfl rfl ?_) -- RET (4, t4), (5, t5)
      rw [k4, if_pos h]
      exact IntsErr.nil (hH4.sub (by simp)) 60
    refine ⟨fun f1 => ⟨⟨by omega, by omega⟩, _, hc, ?_⟩, fun f1 => out (.inl f1)⟩
    simp only [go_sem, ↓reduceIte, Nat.reduceEqDiff, Nat.mul_one, Nat.zero_add]
    by_cases f2 : n ≤ v
    · rw [decide_eq_true f2]; exact out (.inr f2)
    rw [decide_eq_false f2]
    clear out
    rw [if_neg (by omega)] at k4
    (refine hK _ _ ?_; clear hK; try clear K)
    refine VC_cond rfl rfl (fun h => by cases h) (fun _ => VC_skip ?_)
    -- region 15 zrun.go:48
    --   t53 = t6
    --   t54 = t1
    --   t55 = t7
    --   t56 = indexAddr T34 t54[t55]
    --   t57 = load T3 t56
    --   t58 = t57 + .int .i64 1 (T3)
    --   t59 = buildSlice T34 1 0:t58
    --   t60 = CALL append(t53, t59) T[34, 34]
    --   t6:out = := t60
    (repeat refine VC_seq ?_); refine VC_region [0, 1, 6, 7] rfl fun K hK => ?_; simp only [go_sem, ↓reduceIte, Nat.reduceEqDiff, Nat.mul_one, Nat.zero_add]
    refine ⟨⟨by omega, by omega⟩, _, hc, ?_⟩
    simp only [go_sem, ↓reduceIte, Nat.reduceEqDiff, Nat.mul_one, Nat.zero_add]
    (repeat (first | refine ⟨by omega, ?_⟩ | refine ⟨I64.mk (by omega) (by omega), ?_⟩ | refine ⟨⟨by omega, by omega⟩, ?_⟩))
    refine MemK_lit (xs := [.tmp 58]) Try.underlying34 sz3 rfl rfl rfl (by omega) ?_; simp only [go_sem, ↓reduceIte, Nat.reduceEqDiff, Nat.mul_one, Nat.zero_add]; refine ⟨by simp [Value.cells], ?_⟩
    refine MemK_append ?_; simp only [go_sem, ↓reduceIte, Nat.reduceEqDiff, Nat.mul_one, Nat.zero_add]; refine AppK_int hH4 1 rfl Try.underlying34 zi3 (fun h => by (first | omega | (simp; done) | (simp; omega))) fun a' cap' w5 hc' hH6 => ?_; (try simp only [go_sem, ↓reduceIte, Nat.reduceEqDiff, Nat.mul_one, Nat.zero_add])
    (refine hK _ _ ?_; clear hK; try clear K)
    -- region 16 zrun.go:49
    --   t61 = t7
    --   t62 = t61 + .int .i64 1 (T3)
    --   t7:i = := t62
    (repeat refine VC_seq ?_); refine VC_region [0, 1, 6, 7] rfl fun K hK => ?_; simp only [go_sem, ↓reduceIte, Nat.reduceEqDiff, Nat.mul_one, Nat.zero_add]
    ((repeat (first | refine ⟨by omega, ?_⟩ | refine ⟨I64.mk (by omega) (by omega), ?_⟩)); refine hK _ _ ?_; clear hK; try clear K)
    refine VC_blk ?_
    refine VC_again ?_
    simp only [go_sem, ↓reduceIte, Nat.reduceEqDiff, Nat.mul_one, Nat.zero_add]
    exact ⟨l.length - (j + 1), by omega, j + 1, _, _, _, rfl, hH6.sub (by simp), by omega, by simp at hol ⊢; omega, k4, rfl⟩ -- AGAIN loop [(0, n), (1, l), (6, out), (7, i)]
  · simp only [decide_eq_false_iff_not] at h
    refine VC_exit rfl (VC_again ?_)
    simp only [go_sem, ↓reduceIte, Nat.reduceEqDiff, Nat.mul_one, Nat.zero_add]
    rw [List.drop_of_length_le (by omega), zgo, dig_zero, List.append_nil] at g3
    exact ⟨_, _, _, rfl, hH, by omega, g3⟩
end Go.Proofs.Ytgepfjlecmmokaa
