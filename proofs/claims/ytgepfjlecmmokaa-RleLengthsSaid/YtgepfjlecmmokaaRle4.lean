/- Runs of bytes: reading them, the program's way. -/
import Derived.Test.YtgepfjlecmmokaaRle3
namespace Go.Proofs.Ytgepfjlecmmokaa
open Go Go.Eng
set_option maxRecDepth 100000
set_option linter.unusedSimpArgs false
set_option linter.unusedVariables false

/-- Reading runs, byte by byte: what is there, how many at its end are one, what is left. -/
def decS : List UInt8 → Nat → List UInt8 → List UInt8 × Int
  | out, same, [] => if same = 4 then ([], 30) else (out, 0)
  | out, same, c :: s =>
    if same = 4 then (if 262144 < out.length + c.toNat then ([], 3) else decS (out ++ List.replicate c.toNat (out.getLastD 0)) 0 s)
    else if out.length = 262144 then ([], 3) else decS (out ++ [c]) (if 0 < same ∧ out.getLastD 0 = c then same + 1 else 1) s

/-- The last bytes are one. -/
def Tail (out : List UInt8) (k : Nat) : Prop := k ≤ out.length ∧ ∀ j, j < k → out[out.length - 1 - j]? = some (out.getLastD 0)

theorem Tail.zero (out : List UInt8) : Tail out 0 := ⟨Nat.zero_le _, fun j hj => by omega⟩
theorem Tail.one (out : List UInt8) (c : UInt8) : Tail (out ++ [c]) 1 := ⟨by simp, fun j hj => by rw [show j = 0 by omega]; simp [List.getLastD_eq_getLast?]⟩
theorem Tail.succ {out : List UInt8} {k : Nat} {c : UInt8} (h : Tail out k) (hc : out.getLastD 0 = c) : Tail (out ++ [c]) (k + 1) := by
  refine ⟨by have := h.1; simp; omega, fun j hj => ?_⟩
  have e : (out ++ [c]).getLastD 0 = c := by simp [List.getLastD_eq_getLast?]
  rw [e]
  cases j with
  | zero => simp
  | succ j =>
    have h1 := h.2 j (by omega)
    have hk := h.1
    rw [List.getElem?_append_left (by simp; omega)]
    rw [show (out ++ [c]).length - 1 - (j + 1) = out.length - 1 - j by simp; omega, h1, hc]
theorem Tail.drop {out : List UInt8} {k : Nat} (h : Tail out k) : out.drop (out.length - k) = List.replicate k (out.getLastD 0) := by
  apply List.ext_getElem?
  intro j
  rw [List.getElem?_drop, List.getElem?_replicate]
  split
  · rename_i hj
    have := h.2 (k - 1 - j) (by omega)
    have hk := h.1
    rw [show out.length - k + j = out.length - 1 - (k - 1 - j) by omega, this]
  · rename_i hj
    have hk := h.1
    rw [List.getElem?_eq_none (by omega)]

theorem decS_cons (out : List UInt8) (same : Nat) (c : UInt8) (s : List UInt8) : decS out same (c :: s) =
    if same = 4 then (if 262144 < out.length + c.toNat then ([], 3) else decS (out ++ List.replicate c.toNat (out.getLastD 0)) 0 s)
    else if out.length = 262144 then ([], 3) else decS (out ++ [c]) (if 0 < same ∧ out.getLastD 0 = c then same + 1 else 1) s := rfl

def decInv (w : World) (l : List UInt8) (m : Nat) (e : Env) (w' : World) : Prop :=
  ∃ (i same cap : Nat) (a : Option Addr) (out : List UInt8), Is e [(0, Str l), (4, .slice a out.length cap), (5, .int .i64 same), (6, .int .i64 i)] ∧ Heap w [] w' [Res.row 5 1 a out.length cap (bytesV out)] ∧ i ≤ l.length ∧ out.length ≤ 262144 ∧ same ≤ 4 ∧ Tail out same ∧ decS [] 0 l = decS out same (l.drop i) ∧ m = l.length - i

theorem rep_set (m c k : Nat) (b : UInt8) (hk : m + k ≤ c) (ms : List UInt8) (hm : ms.length = c) (hp : ms.take m = List.replicate m b) :
    (ms.take m ++ List.replicate k b ++ ms.drop (m + k)).length = c ∧ (ms.take m ++ List.replicate k b ++ ms.drop (m + k)).take (m + k) = List.replicate (m + k) b := by
  refine ⟨by simp; omega, ?_⟩
  rw [hp, List.replicate_append_replicate, List.take_left' (by simp)]

theorem bytesV_take (l : List UInt8) (k : Nat) : (bytesV l).take k = bytesV (l.take k) := by simp [bytesV]
theorem bytesV_drop (l : List UInt8) (k : Nat) : (bytesV l).drop k = bytesV (l.drop k) := by simp [bytesV]
theorem bytesV_zero (n : Nat) : List.replicate n (Value.int .u8 0) = bytesV (List.replicate n 0) := by simp [bytesV]
theorem bytesV_get {l : List UInt8} {i : Nat} (h : i < l.length) : (bytesV l)[i]? = some (.int .u8 (l.getD i 0).toNat) := by
  simp [bytesV, List.getElem?_eq_getElem h, List.getD_eq_getElem?_getD]

theorem dec_does (l : List UInt8) (w : World) (hs : l.length ≤ 140737488355328) :
    Does Try.prog 17 #[Str l] w fun v w' => Heap w [] w' [] ∧ v = .tuple #[Str (decS [] 0 l).1, .int .i64 (decS [] 0 l).2] := by
  refine Does_enter (args := [Str l]) 78 Try.func17 rfl rfl (of_decide_eq_true rfl) ?_
  simp only [Env.ofArgs]
  (repeat refine VC_seq ?_); refine VC_region [0] rfl fun K hK => ?_; simp only [go_sem, ↓reduceIte, Nat.reduceEqDiff, Nat.mul_one, Nat.zero_add]
  ((repeat (first | refine ⟨by omega, ?_⟩ | refine ⟨I64.mk (by omega) (by omega), ?_⟩)); refine hK _ _ ?_; clear hK; try clear K)
  (repeat refine VC_seq ?_); refine VC_scope ?_
  (repeat refine VC_seq ?_); refine VC_region [0, 4] rfl fun K hK => ?_; simp only [go_sem, ↓reduceIte, Nat.reduceEqDiff, Nat.mul_one, Nat.zero_add]
  refine MemK_lit (xs := []) Try.underlying32 sz5 rfl rfl rfl (by omega) ?_
  simp only [go_sem, ↓reduceIte, Nat.reduceEqDiff, Nat.mul_one, Nat.zero_add]
  refine ⟨by simp, ?_⟩
  have hH := (Heap.start w).row 5 (n := 0) (cap := 0) (sz := 1) [] [] rfl rfl (by omega) (by omega)
  simp only [List.append_nil] at hH
  generalize w.alloc (Obj.cells (List.toArray []) 5) = w1 at hH ⊢
  generalize (some ⟨w.heap.size, 0, none⟩ : Option Addr) = a at hH ⊢
  (refine hK _ _ ?_; clear hK; try clear K)
  (repeat refine VC_seq ?_); refine VC_region [0, 4, 5] rfl fun K hK => ?_; simp only [go_sem, ↓reduceIte, Nat.reduceEqDiff, Nat.mul_one, Nat.zero_add]
  ((repeat (first | refine ⟨by omega, ?_⟩ | refine ⟨I64.mk (by omega) (by omega), ?_⟩)); refine hK _ _ ?_; clear hK; try clear K)
  refine VC_seq (VC_label ?_)
  (repeat refine VC_seq ?_); refine VC_region [0, 4, 5, 6] rfl fun K hK => ?_; simp only [go_sem, ↓reduceIte, Nat.reduceEqDiff, Nat.mul_one, Nat.zero_add]
  ((repeat (first | refine ⟨by omega, ?_⟩ | refine ⟨I64.mk (by omega) (by omega), ?_⟩)); refine hK _ _ ?_; clear hK; try clear K)
  ((repeat refine VC_seq ?_); refine VC_block ?_)
  refine VC_loopS [0, 4, 5, 6] (decInv w l) l.length ?_ ?_
  · simp only [sk_nil, sk_cons, st_hit, st_cons, ↓reduceIte, Nat.reduceEqDiff]
    exact ⟨0, 0, 0, a, [], rfl, hH, by omega, by simp, by omega, Tail.zero _, rfl, rfl⟩
  clear hH
  rintro m e w2 ⟨i, same, cap, a, out, rfl, hH, h1, h2, h3, h4, h5, rfl⟩
  (repeat refine VC_seq ?_); refine VC_region [0, 4, 5, 6, 13] rfl fun K hK => ?_; simp only [go_sem, ↓reduceIte, Nat.reduceEqDiff, Nat.mul_one, Nat.zero_add]
  ((repeat (first | refine ⟨by omega, ?_⟩ | refine ⟨I64.mk (by omega) (by omega), ?_⟩)); refine hK _ _ ?_; clear hK; try clear K)
  refine VC_cond rfl rfl (fun hlt => ?_) (fun hge => ?_)
  · simp only [decide_eq_true_eq] at hlt
    have hlt' : i < l.length := by omega
    have hdrop : l.drop i = l.getD i 0 :: l.drop (i + 1) := by
      rw [List.drop_eq_getElem_cons hlt', List.getD_eq_getElem?_getD, List.getElem?_eq_getElem hlt']; rfl
    rw [hdrop, decS_cons] at h5
    have hc255 := (l.getD i 0).toNat_lt
    -- the round's end
    have fin : ∀ (same' : Nat) (cap' : Nat) (a' : Option Addr) (out' : List UInt8) (w3 : World) (k : List It), Heap w [] w3 [Res.row 5 1 a' out'.length cap' (bytesV out')] → out'.length ≤ 262144 → same' ≤ 4 → Tail out' same' → decS [] 0 l = decS out' same' (l.drop (i + 1)) →
        selK [0, 4, 5, 6] [(0, Str l), (4, .slice a' out'.length cap'), (5, .int .i64 same'), (6, .int .i64 (↑i + 1))] fun e => ∃ m, m < l.length - i ∧ decInv w l m e w3 := by
      intro same' cap' a' out' w3 k g1 g2 g3 g4 g5
      simp only [sk_nil, sk_cons, st_hit, st_cons, ↓reduceIte, Nat.reduceEqDiff]
      exact ⟨l.length - (i + 1), by omega, i + 1, same', cap', a', out', rfl, g1, by omega, g2, g3, g4, g5, rfl⟩
    refine VC_skip ?_
    ((repeat refine VC_seq ?_); refine VC_block ?_)
    by_cases hsame : same = 4
    · subst hsame
      rw [if_pos rfl] at h5
      (repeat refine VC_seq ?_); refine VC_region [0, 4, 5, 6, 17] rfl fun K hK => ?_; simp only [go_sem, ↓reduceIte, Nat.reduceEqDiff, Nat.mul_one, Nat.zero_add]
      ((repeat (first | refine ⟨by omega, ?_⟩ | refine ⟨I64.mk (by omega) (by omega), ?_⟩)); refine hK _ _ ?_; clear hK; try clear K)
      refine VC_cond rfl rfl (fun _ => ?_) (fun h => absurd h (by simp))
      (repeat refine VC_seq ?_); refine VC_region [0, 4, 5, 6, 25] rfl fun K hK => ?_; simp only [go_sem, ↓reduceIte, Nat.reduceEqDiff, Nat.mul_one, Nat.zero_add]
      refine ⟨by omega, I64.mk (by omega) (by omega), I64.mk (by omega) (by omega), ?_⟩
      (refine hK _ _ ?_; clear hK; try clear K)
      generalize hc : l.getD i 0 = c at h5 hc255 ⊢
      by_cases hbig : 262144 < out.length + c.toNat
      · rw [if_pos hbig] at h5
        refine VC_cond rfl rfl (fun _ => ?_) (fun h => ?_)
        · (repeat refine VC_seq ?_); refine VC_region [2, 3] rfl fun K hK => ?_; simp only [go_sem, ↓reduceIte, Nat.reduceEqDiff, Nat.mul_one, Nat.zero_add]
          ((repeat (first | refine ⟨by omega, ?_⟩ | refine ⟨I64.mk (by omega) (by omega), ?_⟩)); refine hK _ _ ?_; clear hK; try clear K)
          refine VC_ret (VX_ret2 rfl rfl rfl ⟨hH.sub (by simp), ?_⟩)
          rw [h5]
        · simp only [decide_eq_false_iff_not] at h; omega
      · rw [if_neg hbig] at h5
        refine VC_cond rfl rfl (fun h => ?_) (fun _ => ?_)
        · simp only [decide_eq_true_eq] at h; omega
        refine VC_skip ?_
        have h4' := h4.1
        obtain ⟨g, rfl⟩ := row_pos (hH.at 0 rfl) (by omega)
        (repeat refine VC_seq ?_); refine VC_region [0, 4, 6, 7] rfl fun K hK => ?_; simp only [go_sem, ↓reduceIte, Nat.reduceEqDiff, Nat.mul_one, Nat.zero_add]
        rw [hc]
        refine ⟨by omega, I64.mk (by omega) (by omega), ?_⟩
        refine MemK_make Try.underlying32 zi5 ?_
        simp only [go_sem, ↓reduceIte, Nat.reduceEqDiff, Nat.mul_one, Nat.zero_add]
        refine ⟨c.toNat, c.toNat, ⟨rfl, rfl, by omega, by omega, by omega⟩, ?_⟩
        have hH2 := hH.row 5 (n := c.toNat) (cap := c.toNat) (sz := 1) (List.replicate c.toNat (.int .u8 0)) [] (by simp) (by simp) (by omega) (by omega)
        rw [List.append_nil, bytesV_zero] at hH2
        rw [bytesV_zero]
        generalize w2.alloc (Obj.cells (bytesV (List.replicate c.toNat 0)).toArray 5) = w3 at hH2 ⊢
        generalize hg2 : w2.heap.size = g2 at hH2 ⊢
        (refine hK _ _ ?_; clear hK; try clear K)
        (repeat refine VC_seq ?_); refine VC_region [0, 4, 6, 7, 8] rfl fun K hK => ?_; simp only [go_sem, ↓reduceIte, Nat.reduceEqDiff, Nat.mul_one, Nat.zero_add]
        ((repeat (first | refine ⟨by omega, ?_⟩ | refine ⟨I64.mk (by omega) (by omega), ?_⟩)); refine hK _ _ ?_; clear hK; try clear K)
        generalize hb : out.getLastD 0 = b at h5
        (repeat refine VC_seq ?_)
        refine VC_cut [0, 4, 6, 7] (fun e w' => Is e [(0, Str l), (4, .slice (some ⟨g, 0, none⟩) out.length cap), (6, .int .i64 i), (7, .slice (some ⟨g2, 0, none⟩) c.toNat c.toNat)] ∧ Heap w [] w' [Res.row 5 1 (some ⟨g2, 0, none⟩) c.toNat c.toNat (bytesV (List.replicate c.toNat b)), Res.row 5 1 (some ⟨g, 0, none⟩) out.length cap (bytesV out)]) ?_ ?_
        · refine VC_block ?_
          refine VC_loopS [0, 4, 6, 7, 8] (fun m e w' => ∃ (n : Nat) (ms : List UInt8), Is e [(0, Str l), (4, .slice (some ⟨g, 0, none⟩) out.length cap), (6, .int .i64 i), (7, .slice (some ⟨g2, 0, none⟩) c.toNat c.toNat), (8, .int .i64 n)] ∧ Heap w [] w' [Res.row 5 1 (some ⟨g2, 0, none⟩) c.toNat c.toNat (bytesV ms), Res.row 5 1 (some ⟨g, 0, none⟩) out.length cap (bytesV out)] ∧ n ≤ c.toNat ∧ ms.length = c.toNat ∧ ms.take n = List.replicate n b ∧ m = c.toNat - n) c.toNat ?_ ?_
          · simp only [sk_nil, sk_cons, st_hit, st_cons, ↓reduceIte, Nat.reduceEqDiff]
            exact ⟨0, List.replicate c.toNat 0, rfl, hH2, by omega, by simp, rfl, rfl⟩
          rintro m e w4 ⟨n, ms, rfl, hH3, k1, k2, k3, rfl⟩
          (repeat refine VC_seq ?_); refine VC_region [0, 4, 6, 7, 8, 34] rfl fun K hK => ?_; simp only [go_sem, ↓reduceIte, Nat.reduceEqDiff, Nat.mul_one, Nat.zero_add]
          ((repeat (first | refine ⟨by omega, ?_⟩ | refine ⟨I64.mk (by omega) (by omega), ?_⟩)); refine hK _ _ ?_; clear hK; try clear K)
          refine VC_cond rfl rfl (fun hn => ?_) (fun hn => ?_)
          · simp only [decide_eq_true_eq] at hn
            refine VC_skip ?_
            (repeat refine VC_seq ?_)
            refine VC_block (VC_skip (VC_blk ?_))
            have hcap := (row_cap (hH3.at 1 rfl)).1
            (repeat refine VC_seq ?_); refine VC_regionH (holes [g2] w4) (Ext.hole _ _) [0, 4, 6, 7, 8] [(0, true), (1, true), (2, true), (3, true), (4, true), (5, true), (6, true), (7, true), (8, true), (9, false), (10, false), (11, false)] (by kernel_rfl) (by kernel_rfl) rfl (by simp only [planned, List.filterMap_cons, List.filterMap_nil, List.getElem?_cons_succ, List.getElem?_cons_zero, Option.map_some]; rfl) fun K hK => ?_; simp only [go_sem, ↓reduceIte, Nat.reduceEqDiff, Nat.mul_one, Nat.zero_add]
            refine ⟨by omega, I64.mk (by omega) (by omega), by omega, ?_⟩
            refine MemK_copy ?_
            simp only [go_sem, ↓reduceIte, Nat.reduceEqDiff, Nat.mul_one, Nat.zero_add]
            rw [if_neg (show ¬ c.toNat = n by omega), if_neg (show ¬ cap = out.length - 4 by omega)]
            simp only [Option.map_some]
            have hsrc := (row_rs (hH3.at 1 rfl)).drop rfl (out.length - 4) (by omega)
            rw [Nat.mul_one, bytesV_drop, Tail.drop h4, hb, show out.length - (out.length - 4) = 4 by omega] at hsrc
            rw [show out.length - (out.length - 4) = 4 by omega]
            refine CopyK_row hH3 0 rfl Try.underlying32 sz5 (off := n) rfl ⟨rfl, hsrc, 5, Try.underlying32⟩ (bytes_one _) (by rw [bytesV_len, k2]; omega) fun w5 hu hH4 => ?_
            simp only [go_sem, ↓reduceIte, Nat.reduceEqDiff, Nat.mul_one, Nat.zero_add]
            have hkk : min 4 (c.toNat - n) ≤ c.toNat - n := Nat.min_le_right _ _
            have hkk0 : 0 < min 4 (c.toNat - n) := by omega
            have hk4 : min 4 (c.toNat - n) ≤ 4 := Nat.min_le_left _ _
            generalize min 4 (c.toNat - n) = kk at hH4 hkk hkk0 hk4 ⊢
            refine ⟨hu.extH, I64.mk (by omega) (by omega), ?_⟩
            (refine hK _ _ ?_; clear hK; try clear K)
            refine VC_again ?_
            simp only [sk_nil, sk_cons, st_hit, st_cons, ↓reduceIte, Nat.reduceEqDiff]
            have hset : (bytesV ms).take n ++ (bytesV (List.replicate 4 b)).take (kk * 1) ++ (bytesV ms).drop (n + kk * 1) = bytesV (ms.take n ++ List.replicate kk b ++ ms.drop (n + kk)) := by
              rw [Nat.mul_one, bytesV_take, bytesV_take, bytesV_drop, List.take_replicate, Nat.min_eq_left hk4, bytesV_append, bytesV_append]
            rw [hset] at hH4
            obtain ⟨r1, r2⟩ := rep_set n c.toNat kk b (by omega) ms k2 k3
            exact ⟨c.toNat - (n + kk), by omega, n + kk, _, rfl, hH4, by omega, r1, r2, rfl⟩
          · simp only [decide_eq_false_iff_not] at hn
            refine VC_exit rfl ?_
            refine VC_again ?_
            simp only [go_sem, ↓reduceIte, Nat.reduceEqDiff, Nat.mul_one, Nat.zero_add]
            refine ⟨rfl, ?_⟩
            have hms : ms = List.replicate c.toNat b := by
              rw [← List.take_of_length_le (show ms.length ≤ n by omega), k3]; congr 1; omega
            rw [hms] at hH3
            exact hH3
        · rintro e w4 ⟨rfl, hH3⟩
          (repeat refine VC_seq ?_); refine VC_region [0, 4, 6] rfl fun K hK => ?_; simp only [go_sem, ↓reduceIte, Nat.reduceEqDiff, Nat.mul_one, Nat.zero_add]
          refine MemK_append ?_
          simp only [go_sem, ↓reduceIte, Nat.reduceEqDiff, Nat.mul_one, Nat.zero_add]
          refine AppK_bytes hH3 1 rfl Try.underlying32 zi5 (t := List.replicate c.toNat b) (by simp) (by simpa using row_rs (hH3.at 0 rfl)) (fun h => by simp; omega) fun a' cap' w5 hc' hH4 => ?_
          (try simp only [go_sem, ↓reduceIte, Nat.reduceEqDiff, Nat.mul_one, Nat.zero_add])
          (refine hK _ _ ?_; clear hK; try clear K)
          (repeat refine VC_seq ?_); refine VC_region [0, 4, 5, 6] rfl fun K hK => ?_; simp only [go_sem, ↓reduceIte, Nat.reduceEqDiff, Nat.mul_one, Nat.zero_add]
          ((repeat (first | refine ⟨by omega, ?_⟩ | refine ⟨I64.mk (by omega) (by omega), ?_⟩)); refine hK _ _ ?_; clear hK; try clear K)
          refine VC_exit rfl ?_
          (repeat refine VC_seq ?_); refine VC_region [0, 4, 5, 6] rfl fun K hK => ?_; simp only [go_sem, ↓reduceIte, Nat.reduceEqDiff, Nat.mul_one, Nat.zero_add]
          ((repeat (first | refine ⟨by omega, ?_⟩ | refine ⟨I64.mk (by omega) (by omega), ?_⟩)); refine hK _ _ ?_; clear hK; try clear K)
          refine VC_again ?_
          exact fin 0 cap' a' _ w5 [] (hH4.sub (by simp)) (by simp; omega) (by omega) (Tail.zero _) h5
    · rw [if_neg hsame] at h5
      generalize hsm : (if 0 < same ∧ out.getLastD 0 = l.getD i 0 then same + 1 else 1) = same' at h5
      have hsame' : same' ≤ 4 ∧ Tail (out ++ [l.getD i 0]) same' := by
        rw [← hsm]
        split
        · rename_i h; exact ⟨by omega, Tail.succ h4 h.2⟩
        · exact ⟨by omega, Tail.one _ _⟩
      (repeat refine VC_seq ?_); refine VC_region [0, 4, 5, 6, 17] rfl fun K hK => ?_; simp only [go_sem, ↓reduceIte, Nat.reduceEqDiff, Nat.mul_one, Nat.zero_add]
      ((repeat (first | refine ⟨by omega, ?_⟩ | refine ⟨I64.mk (by omega) (by omega), ?_⟩)); refine hK _ _ ?_; clear hK; try clear K)
      refine VC_cond rfl rfl (fun h => absurd h (by simp; omega)) (fun _ => ?_)
      refine VC_skip ?_
      refine VC_seq (VC_cut [0, 4, 5, 6] (fun e w' => Is e [(0, Str l), (4, .slice a out.length cap), (5, .int .i64 same'), (6, .int .i64 i)] ∧ Is w' w2) ?_ ?_)
      · have yes : 0 < same ∧ out.getLastD 0 = l.getD i 0 → VC ⟨Try.prog, Try.f17, fun v w' => Heap w [] w' [] ∧ v = .tuple #[Str (decS [] 0 l).1, .int .i64 (decS [] 0 l).2], 78⟩ [] [] w2 → True := fun _ _ => trivial
        clear yes
        by_cases hs0 : 0 < same
        · have h4' := h4.1
          obtain ⟨g, rfl⟩ := row_pos (hH.at 0 rfl) (by omega)
          have hcell : w2.cell? ⟨g, out.length - 1, none⟩ = some (.int .u8 (out.getLastD 0).toNat) := by
            refine row_cell (hH.at 0 rfl) ?_
            have h1' := h4.2 0 hs0
            simp only [bytesV, List.getElem?_map]
            rw [show out.length - 1 = out.length - 1 - 0 by omega, h1']
            rfl
          (repeat refine VC_seq ?_); refine VC_regionQ [0, 4, 5, 6, 62] (by kernel_rfl) (by kernel_rfl) rfl fun K hK => ?_; simp only [go_sem, ↓reduceIte, Nat.reduceEqDiff, Nat.mul_one, Nat.zero_add]
          refine ⟨fun _ => ⟨by omega, I64.mk (by omega) (by omega), by omega, _, hcell, ?_⟩, fun h => absurd (show (0 : Int) < same by omega) h⟩
          simp only [go_sem, ↓reduceIte, Nat.reduceEqDiff, Nat.mul_one, Nat.zero_add]
          (refine hK _ ?_; clear hK; try clear K)
          refine VC_cond rfl rfl (fun h => ?_) (fun h => ?_)
          · simp only [decide_eq_true_eq] at h
            have hl : out.getLastD 0 = l.getD i 0 := (UInt8.toNat_inj.1 (by omega))
            rw [if_pos ⟨hs0, hl⟩] at hsm
            subst hsm
            (repeat refine VC_seq ?_); refine VC_region [0, 4, 5, 6] rfl fun K hK => ?_; simp only [go_sem, ↓reduceIte, Nat.reduceEqDiff, Nat.mul_one, Nat.zero_add]
            ((repeat (first | refine ⟨by omega, ?_⟩ | refine ⟨I64.mk (by omega) (by omega), ?_⟩)); refine hK _ _ ?_; clear hK; try clear K)
            refine VC_again ?_
            simp only [go_sem, ↓reduceIte, Nat.reduceEqDiff, Nat.mul_one, Nat.zero_add]
            exact ⟨rfl, rfl⟩
          · simp only [decide_eq_false_iff_not] at h
            have hl : ¬ out.getLastD 0 = l.getD i 0 := fun h' => h (by rw [h'])
            rw [if_neg (fun h => hl h.2)] at hsm
            subst hsm
            (repeat refine VC_seq ?_); refine VC_region [0, 4, 5, 6] rfl fun K hK => ?_; simp only [go_sem, ↓reduceIte, Nat.reduceEqDiff, Nat.mul_one, Nat.zero_add]
            ((repeat (first | refine ⟨by omega, ?_⟩ | refine ⟨I64.mk (by omega) (by omega), ?_⟩)); refine hK _ _ ?_; clear hK; try clear K)
            refine VC_again ?_
            simp only [go_sem, ↓reduceIte, Nat.reduceEqDiff, Nat.mul_one, Nat.zero_add]
            exact ⟨rfl, rfl⟩
        · have : same = 0 := by omega
          subst this
          rw [if_neg (by omega)] at hsm
          subst hsm
          (repeat refine VC_seq ?_); refine VC_regionQ [0, 4, 5, 6, 62] (by kernel_rfl) (by kernel_rfl) rfl fun K hK => ?_; simp only [go_sem, ↓reduceIte, Nat.reduceEqDiff, Nat.mul_one, Nat.zero_add]
          refine ⟨fun h => absurd h (by omega), fun _ => ?_⟩
          (refine hK _ ?_; clear hK; try clear K)
          refine VC_cond rfl rfl (fun h => by cases h) (fun _ => ?_)
          (repeat refine VC_seq ?_); refine VC_region [0, 4, 5, 6] rfl fun K hK => ?_; simp only [go_sem, ↓reduceIte, Nat.reduceEqDiff, Nat.mul_one, Nat.zero_add]
          ((repeat (first | refine ⟨by omega, ?_⟩ | refine ⟨I64.mk (by omega) (by omega), ?_⟩)); refine hK _ _ ?_; clear hK; try clear K)
          refine VC_again ?_
          simp only [go_sem, ↓reduceIte, Nat.reduceEqDiff, Nat.mul_one, Nat.zero_add]
          exact ⟨rfl, rfl⟩
      · rintro e w3 ⟨rfl, rfl⟩
        (repeat refine VC_seq ?_); refine VC_region [0, 4, 5, 6, 67] rfl fun K hK => ?_; simp only [go_sem, ↓reduceIte, Nat.reduceEqDiff, Nat.mul_one, Nat.zero_add]
        ((repeat (first | refine ⟨by omega, ?_⟩ | refine ⟨I64.mk (by omega) (by omega), ?_⟩)); refine hK _ _ ?_; clear hK; try clear K)
        by_cases hfull : out.length = 262144
        · rw [if_pos hfull] at h5
          refine VC_cond rfl rfl (fun _ => ?_) (fun h => absurd h (by simp; omega))
          (repeat refine VC_seq ?_); refine VC_region [2, 3] rfl fun K hK => ?_; simp only [go_sem, ↓reduceIte, Nat.reduceEqDiff, Nat.mul_one, Nat.zero_add]
          ((repeat (first | refine ⟨by omega, ?_⟩ | refine ⟨I64.mk (by omega) (by omega), ?_⟩)); refine hK _ _ ?_; clear hK; try clear K)
          refine VC_ret (VX_ret2 rfl rfl rfl ⟨hH.sub (by simp), ?_⟩)
          rw [h5]
        · rw [if_neg hfull] at h5
          refine VC_cond rfl rfl (fun h => absurd h (by simp; omega)) (fun _ => ?_)
          refine VC_skip ?_
          (repeat refine VC_seq ?_); refine VC_region [0, 4, 5, 6] rfl fun K hK => ?_; simp only [go_sem, ↓reduceIte, Nat.reduceEqDiff, Nat.mul_one, Nat.zero_add]
          refine ⟨by omega, ?_⟩
          refine MemK_lit (xs := [.tmp 71]) Try.underlying32 sz5 rfl rfl rfl (by omega) ?_
          simp only [go_sem, ↓reduceIte, Nat.reduceEqDiff, Nat.mul_one, Nat.zero_add]
          refine ⟨by simp [Value.cells], ?_⟩
          refine MemK_append ?_
          simp only [go_sem, ↓reduceIte, Nat.reduceEqDiff, Nat.mul_one, Nat.zero_add]
          refine AppK_byte hH 0 (l.getD i 0) rfl Try.underlying32 zi5 rfl (fun h => by simp; omega) fun a' cap' w5 hc' hH4 => ?_
          (try simp only [go_sem, ↓reduceIte, Nat.reduceEqDiff, Nat.mul_one, Nat.zero_add])
          (refine hK _ _ ?_; clear hK; try clear K)
          refine VC_blk ?_
          (repeat refine VC_seq ?_); refine VC_region [0, 4, 5, 6] rfl fun K hK => ?_; simp only [go_sem, ↓reduceIte, Nat.reduceEqDiff, Nat.mul_one, Nat.zero_add]
          ((repeat (first | refine ⟨by omega, ?_⟩ | refine ⟨I64.mk (by omega) (by omega), ?_⟩)); refine hK _ _ ?_; clear hK; try clear K)
          refine VC_again ?_
          exact fin same' cap' a' _ w5 [] hH4 (by simp; omega) hsame'.1 hsame'.2 h5
  · simp only [decide_eq_false_iff_not] at hge
    rw [List.drop_of_length_le (by omega)] at h5
    refine VC_exit rfl ?_
    (repeat refine VC_seq ?_); refine VC_region [4, 75, 5] rfl fun K hK => ?_; simp only [go_sem, ↓reduceIte, Nat.reduceEqDiff, Nat.mul_one, Nat.zero_add]
    ((repeat (first | refine ⟨by omega, ?_⟩ | refine ⟨I64.mk (by omega) (by omega), ?_⟩)); refine hK _ _ ?_; clear hK; try clear K)
    by_cases hsame : same = 4
    · subst hsame
      refine VC_cond rfl rfl (fun _ => ?_) (fun h => absurd h (by simp))
      (repeat refine VC_seq ?_); refine VC_region [2, 3] rfl fun K hK => ?_; simp only [go_sem, ↓reduceIte, Nat.reduceEqDiff, Nat.mul_one, Nat.zero_add]
      ((repeat (first | refine ⟨by omega, ?_⟩ | refine ⟨I64.mk (by omega) (by omega), ?_⟩)); refine hK _ _ ?_; clear hK; try clear K)
      refine VC_ret (VX_ret2 rfl rfl rfl ⟨hH.sub (by simp), ?_⟩)
      rw [h5]; rfl
    · refine VC_cond rfl rfl (fun h => absurd h (by simp; omega)) (fun _ => ?_)
      refine VC_skip ?_
      (repeat refine VC_seq ?_); refine VC_region [2, 3] rfl fun K hK => ?_; simp only [go_sem, ↓reduceIte, Nat.reduceEqDiff, Nat.mul_one, Nat.zero_add]
      refine ⟨out, hH.readsBytes 0 rfl, ?_⟩
      (refine hK _ _ ?_; clear hK; try clear K)
      refine VC_ret (VX_ret2 rfl rfl rfl ⟨hH.sub (by simp), ?_⟩)
      rw [h5]; simp [decS, hsame]
end Go.Proofs.Ytgepfjlecmmokaa
