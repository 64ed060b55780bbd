/- Runs of bytes: the walk through the reference's Decode. -/
import Derived.Test.YtgepfjlecmmokaaRle14
namespace Go.Proofs.Ytgepfjlecmmokaa
open Go Go.Eng
set_option maxRecDepth 100000
set_option linter.unusedSimpArgs false
set_option linter.unusedVariables false

def rdInv (w : World) (l : List UInt8) (m : Nat) (e : Env) (w' : World) : Prop :=
  ∃ (s out : List UInt8) (same cap : Nat) (a : Option Addr), Is e [(0, Str s), (4, .slice a out.length cap)] ∧ Heap w [] w' [Res.row 5 1 a out.length cap (bytesV out)] ∧ s.length ≤ l.length ∧ out.length ≤ 262144 ∧ Ahead out same s ∧ decS [] 0 l = decS out same s ∧ m = s.length

theorem rdec_does (l : List UInt8) (w : World) (hs : l.length ≤ 140737488355328) :
    Does Try.prog 18 #[Str l] w fun v w' => Heap w [] w' [] ∧ v = .tuple #[Str (decS [] 0 l).1, .int .i64 (decS [] 0 l).2] := by
  refine Does_enter (args := [Str l]) 58 Try.func18 rfl rfl (of_decide_eq_true rfl) ?_
  simp only [Env.ofArgs]
  (repeat refine VC_seq ?_); refine VC_region [0] rfl fun K hK => ?_; simp only [go_sem, ↓reduceIte, Nat.reduceEqDiff, Nat.mul_one, Nat.zero_add]
  ((repeat (first | refine ⟨by omega, ?_⟩ | refine ⟨I64.mk (by omega) (by omega), ?_⟩)); refine hK _ _ ?_; clear hK; try clear K)
  (repeat refine VC_seq ?_); refine VC_region [0, 4] rfl fun K hK => ?_; simp only [go_sem, ↓reduceIte, Nat.reduceEqDiff, Nat.mul_one, Nat.zero_add]
  ((repeat (first | refine ⟨by omega, ?_⟩ | refine ⟨I64.mk (by omega) (by omega), ?_⟩)); refine hK _ _ ?_; clear hK; try clear K)
  ((repeat refine VC_seq ?_); refine VC_block ?_)
  refine VC_loopS [0, 4] (rdInv w l) l.length ?_ ?_
  · simp only [go_sem, ↓reduceIte, Nat.reduceEqDiff, Nat.mul_one, Nat.zero_add]
    exact ⟨l, [], 0, 0, none, rfl, Heap.one (r := Res.row 5 1 none 0 0 []) (row_nil 5 1 w) (by intro b hb; cases hb), by omega, by simp, Ahead.zero _ _, rfl, rfl⟩
  rintro m e w2 ⟨s, out, same, cap, a, rfl, hH, h1, h2, h3, h4, rfl⟩
  (repeat refine VC_seq ?_); refine VC_region [0, 4, 9] rfl fun K hK => ?_; simp only [go_sem, ↓reduceIte, Nat.reduceEqDiff, Nat.mul_one, Nat.zero_add]
  ((repeat (first | refine ⟨by omega, ?_⟩ | refine ⟨I64.mk (by omega) (by omega), ?_⟩)); refine hK _ _ ?_; clear hK; try clear K)
  refine VC_cond rfl rfl (fun hlt => ?_) (fun hge => ?_)
  · simp only [decide_eq_true_eq] at hlt
    refine VC_skip (VC_block ?_)
    obtain ⟨b, t, rfl⟩ : ∃ b t, s = b :: t := by
      cases s with
      | nil => simp at hlt
      | cons b t => exact ⟨b, t, rfl⟩
    (repeat refine VC_seq ?_); refine VC_region [0, 4, 5] rfl fun K hK => ?_; simp only [go_sem, ↓reduceIte, Nat.reduceEqDiff, Nat.mul_one, Nat.zero_add]
    refine MemK_call Try.call30 ?_; simp only [go_sem, ↓reduceIte, Nat.reduceEqDiff, Nat.mul_one, Nat.zero_add]; refine CallK.mk (same_does (b :: t) w2 (by simp) (by omega)) ?_
    rintro v w3 ⟨rfl, rfl⟩
    rw [lead_runOf]
    (try simp only [go_sem, ↓reduceIte, Nat.reduceEqDiff, Nat.mul_one, Nat.zero_add])
    (refine hK _ _ ?_; clear hK; try clear K)
    (repeat refine VC_seq ?_); refine VC_region [0, 4, 13] rfl fun K hK => ?_; simp only [go_sem, ↓reduceIte, Nat.reduceEqDiff, Nat.mul_one, Nat.zero_add]
    ((repeat (first | refine ⟨by omega, ?_⟩ | refine ⟨I64.mk (by omega) (by omega), ?_⟩)); refine hK _ _ ?_; clear hK; try clear K)
    by_cases hk : lead b t ≤ 2
    · refine VC_cond rfl rfl (fun _ => ?_) (fun h => absurd h (by simp; omega))
      (repeat refine VC_seq ?_); refine VC_region [0, 4, 16] rfl fun K hK => ?_; simp only [go_sem, ↓reduceIte, Nat.reduceEqDiff, Nat.mul_one, Nat.zero_add]
      ((repeat (first | refine ⟨by omega, ?_⟩ | refine ⟨I64.mk (by omega) (by omega), ?_⟩)); refine hK _ _ ?_; clear hK; try clear K)
      by_cases hf : out.length = 262144
      · refine VC_cond rfl rfl (fun _ => ?_) (fun h => absurd h (by simp; omega))
        (repeat refine VC_seq ?_); refine VC_region [2, 3] rfl fun K hK => ?_; simp only [go_sem, ↓reduceIte, Nat.reduceEqDiff, Nat.mul_one, Nat.zero_add]
        ((repeat (first | refine ⟨by omega, ?_⟩ | refine ⟨I64.mk (by omega) (by omega), ?_⟩)); refine hK _ _ ?_; clear hK; try clear K)
        refine VC_ret (VX_ret2 rfl rfl rfl ⟨hH.sub (by simp), ?_⟩)
        rw [h4, dec_full _ _ _ _ (by have := h3.1; omega) hf]
      refine VC_cond rfl rfl (fun h => absurd h (by simp; omega)) (fun _ => VC_skip ?_)
      obtain ⟨same', e1, e2⟩ := dec_small out same b t h3 hk (by omega)
      (repeat refine VC_seq ?_); refine VC_region [0, 4] rfl fun K hK => ?_; simp only [go_sem, ↓reduceIte, Nat.reduceEqDiff, Nat.mul_one, Nat.zero_add]
      refine ⟨⟨by omega, by omega⟩, ?_⟩
      rw [show (b :: t).getD (Int.toNat 0) 0 = b from rfl]
      refine MemK_lit (xs := [.tmp 19]) Try.underlying32 sz5 rfl rfl rfl (by omega) ?_
      simp only [go_sem, ↓reduceIte, Nat.reduceEqDiff, Nat.mul_one, Nat.zero_add]
      refine ⟨by simp [Value.cells], ?_⟩
      refine MemK_append ?_
      simp only [go_sem, ↓reduceIte, Nat.reduceEqDiff, Nat.mul_one, Nat.zero_add]
      refine AppK_byte hH 0 b rfl Try.underlying32 zi5 rfl (fun h => by simp; omega) fun a' cap' w5 hc' hH4 => ?_
      (try simp only [go_sem, ↓reduceIte, Nat.reduceEqDiff, Nat.mul_one, Nat.zero_add])
      (refine hK _ _ ?_; clear hK; try clear K)
      (repeat refine VC_seq ?_); refine VC_region [0, 4] rfl fun K hK => ?_; simp only [go_sem, ↓reduceIte, Nat.reduceEqDiff, Nat.mul_one, Nat.zero_add]
      ((repeat (first | refine ⟨by omega, ?_⟩ | refine ⟨I64.mk (by omega) (by omega), ?_⟩)); refine hK _ _ ?_; clear hK; try clear K)
      refine VC_exit rfl (VC_again ?_)
      simp only [go_sem, ↓reduceIte, Nat.reduceEqDiff, Nat.mul_one, Nat.zero_add]
      exact ⟨t.length, by simp, t, out ++ [b], same', cap', a', rfl, hH4, by simp at h1; omega, by simp; omega, e2, h4.trans e1, rfl⟩
    · refine VC_cond rfl rfl (fun h => absurd h (by simp; omega)) (fun _ => VC_skip ?_)
      have hll := lead_le b t
      have hrep := lead_take b t 3 (by omega)
      obtain ⟨r, hr⟩ : ∃ r, b :: t = List.replicate 4 b ++ r := ⟨t.drop 3, by
        rw [show List.replicate 4 b = b :: List.replicate 3 b from rfl, ← hrep, List.cons_append, List.take_append_drop]⟩
      have hlen : (b :: t).length = 4 + r.length := by rw [hr]; simp; omega
      generalize hs0 : b :: t = s at *
      have hget0 : s.getD 0 0 = b := by rw [hr]; rfl
      clear hs0 hrep hll hk
      subst hr
      have ha1 := h3.1
      (repeat refine VC_seq ?_); refine VC_region [0, 4, 27] rfl fun K hK => ?_; simp only [go_sem, ↓reduceIte, Nat.reduceEqDiff, Nat.mul_one, Nat.zero_add]
      ((repeat (first | refine ⟨by omega, ?_⟩ | refine ⟨I64.mk (by omega) (by omega), ?_⟩)); refine hK _ _ ?_; clear hK; try clear K)
      by_cases hf : 262144 < out.length + 4
      · refine VC_cond rfl rfl (fun _ => ?_) (fun h => absurd h (by simp; omega))
        (repeat refine VC_seq ?_); refine VC_region [2, 3] rfl fun K hK => ?_; simp only [go_sem, ↓reduceIte, Nat.reduceEqDiff, Nat.mul_one, Nat.zero_add]
        ((repeat (first | refine ⟨by omega, ?_⟩ | refine ⟨I64.mk (by omega) (by omega), ?_⟩)); refine hK _ _ ?_; clear hK; try clear K)
        refine VC_ret (VX_ret2 rfl rfl rfl ⟨hH.sub (by simp), ?_⟩)
        rw [h4, dec_four_full _ _ _ _ h3 h2 hf]
      refine VC_cond rfl rfl (fun h => absurd h (by simp; omega)) (fun _ => VC_skip ?_)
      rw [dec_four _ _ _ _ h3 (by omega)] at h4
      (repeat refine VC_seq ?_); refine VC_region [0, 4] rfl fun K hK => ?_; simp only [go_sem, ↓reduceIte, Nat.reduceEqDiff, Nat.mul_one, Nat.zero_add]
      refine ⟨⟨by omega, by omega⟩, ?_⟩
      rw [show List.take (Int.toNat 4) (List.replicate 4 b ++ r) = List.replicate 4 b by rw [show (4 : Int).toNat = 4 from rfl, List.take_left' (by simp)]]
      refine MemK_append ?_
      simp only [go_sem, ↓reduceIte, Nat.reduceEqDiff, Nat.mul_one, Nat.zero_add]
      refine AppK_str hH 0 rfl Try.underlying32 zi5 Try.underlying9 (fun h => by simp; omega) fun a' cap' w5 hc' hH4 => ?_
      (try simp only [go_sem, ↓reduceIte, Nat.reduceEqDiff, Nat.mul_one, Nat.zero_add])
      (refine hK _ _ ?_; clear hK; try clear K)
      (repeat refine VC_seq ?_); refine VC_region [0, 4, 34] rfl fun K hK => ?_; simp only [go_sem, ↓reduceIte, Nat.reduceEqDiff, Nat.mul_one, Nat.zero_add]
      ((repeat (first | refine ⟨by omega, ?_⟩ | refine ⟨I64.mk (by omega) (by omega), ?_⟩)); refine hK _ _ ?_; clear hK; try clear K)
      cases r with
      | nil =>
        refine VC_cond rfl rfl (fun _ => ?_) (fun h => absurd h (by simp))
        (repeat refine VC_seq ?_); refine VC_region [2, 3] rfl fun K hK => ?_; simp only [go_sem, ↓reduceIte, Nat.reduceEqDiff, Nat.mul_one, Nat.zero_add]
        ((repeat (first | refine ⟨by omega, ?_⟩ | refine ⟨I64.mk (by omega) (by omega), ?_⟩)); refine hK _ _ ?_; clear hK; try clear K)
        refine VC_ret (VX_ret2 rfl rfl rfl ⟨hH4.sub (by simp), ?_⟩)
        rw [h4, decS, if_pos rfl]
      | cons c r =>
      refine VC_cond rfl rfl (fun h => absurd h (by simp; omega)) (fun _ => VC_skip ?_)
      rw [dec_count] at h4
      have hget4 : (List.replicate 4 b ++ c :: r).getD 4 0 = c := by simp [List.replicate]
      have hl2 : (List.replicate 4 b ++ c :: r).length = 5 + r.length := by simp; omega
      have hc255 := c.toNat_lt
      have ho4 : (out ++ List.replicate 4 b).length = out.length + 4 := by simp
      (repeat refine VC_seq ?_); refine VC_region [0, 4, 41] rfl fun K hK => ?_; simp only [go_sem, ↓reduceIte, Nat.reduceEqDiff, Nat.mul_one, Nat.zero_add]
      rw [show Int.toNat 4 = 4 from rfl, hget4]
      (repeat (first | refine ⟨⟨by omega, by omega⟩, ?_⟩ | refine ⟨by omega, ?_⟩ | refine ⟨I64.mk (by omega) (by omega), ?_⟩))
      (refine hK _ _ ?_; clear hK; try clear K)
      by_cases hbig : 262144 < out.length + 4 + c.toNat
      · rw [if_pos hbig] at h4
        refine VC_cond rfl rfl (fun _ => ?_) (fun h => absurd h (by simp; omega))
        (repeat refine VC_seq ?_); refine VC_region [2, 3] rfl fun K hK => ?_; simp only [go_sem, ↓reduceIte, Nat.reduceEqDiff, Nat.mul_one, Nat.zero_add]
        ((repeat (first | refine ⟨by omega, ?_⟩ | refine ⟨I64.mk (by omega) (by omega), ?_⟩)); refine hK _ _ ?_; clear hK; try clear K)
        refine VC_ret (VX_ret2 rfl rfl rfl ⟨hH4.sub (by simp), ?_⟩)
        rw [h4]
      rw [if_neg hbig] at h4
      refine VC_cond rfl rfl (fun h => absurd h (by simp; omega)) (fun _ => VC_skip ?_)
      (repeat refine VC_seq ?_); refine VC_region [0, 4, 6] rfl fun K hK => ?_; simp only [go_sem, ↓reduceIte, Nat.reduceEqDiff, Nat.mul_one, Nat.zero_add]
      ((repeat (first | refine ⟨by omega, ?_⟩ | refine ⟨I64.mk (by omega) (by omega), ?_⟩)); refine hK _ _ ?_; clear hK; try clear K)
      ((repeat refine VC_seq ?_); refine VC_block ?_)
      generalize hs1 : List.replicate 4 b ++ c :: r = s at *
      have hdr : s.drop 5 = r := by rw [← hs1]; rfl
      clear hs1
      generalize hO : out ++ List.replicate 4 b = o at *
      refine VC_loopS [0, 4, 6] (fun m e w' => ∃ (n cap : Nat) (a : Option Addr) (o' : List UInt8), Is e [(0, Str s), (4, .slice a o'.length cap), (6, .int .i64 n)] ∧ Heap w [] w' [Res.row 5 1 a o'.length cap (bytesV o')] ∧ n ≤ c.toNat ∧ o' = o ++ List.replicate n b ∧ m = c.toNat - n) c.toNat ?_ ?_
      · simp only [go_sem, ↓reduceIte, Nat.reduceEqDiff, Nat.mul_one, Nat.zero_add]
        exact ⟨0, cap', a', o, rfl, hH4, by omega, by simp, by omega⟩
      rintro m e w6 ⟨n, cap2, a2, o', rfl, hH6, k1, k2, rfl⟩
      have ho' : o'.length = out.length + 4 + n := by rw [k2]; simp; omega
      (repeat refine VC_seq ?_); refine VC_region [0, 4, 6, 46] rfl fun K hK => ?_; simp only [go_sem, ↓reduceIte, Nat.reduceEqDiff, Nat.mul_one, Nat.zero_add]
      rw [show Int.toNat 4 = 4 from rfl, hget4]
      (repeat (first | refine ⟨⟨by omega, by omega⟩, ?_⟩ | refine ⟨by omega, ?_⟩ | refine ⟨I64.mk (by omega) (by omega), ?_⟩))
      (refine hK _ _ ?_; clear hK; try clear K)
      refine VC_cond rfl rfl (fun hn => ?_) (fun hn => ?_)
      · simp only [decide_eq_true_eq] at hn
        refine VC_skip ?_
        ((repeat refine VC_seq ?_); refine VC_block ?_)
        (repeat refine VC_seq ?_); refine VC_region [0, 4, 6] rfl fun K hK => ?_; simp only [go_sem, ↓reduceIte, Nat.reduceEqDiff, Nat.mul_one, Nat.zero_add]
        rw [show Int.toNat 0 = 0 from rfl, hget0]
        refine ⟨⟨by omega, by omega⟩, ?_⟩
        refine MemK_lit (xs := [.tmp 51]) Try.underlying32 sz5 rfl rfl rfl (by omega) ?_
        simp only [go_sem, ↓reduceIte, Nat.reduceEqDiff, Nat.mul_one, Nat.zero_add]
        refine ⟨by simp [Value.cells], ?_⟩
        refine MemK_append ?_
        simp only [go_sem, ↓reduceIte, Nat.reduceEqDiff, Nat.mul_one, Nat.zero_add]
        refine AppK_byte hH6 0 b rfl Try.underlying32 zi5 rfl (fun h => by simp; omega) fun a3 cap3 w7 hc3 hH7 => ?_
        (try simp only [go_sem, ↓reduceIte, Nat.reduceEqDiff, Nat.mul_one, Nat.zero_add])
        (refine hK _ _ ?_; clear hK; try clear K)
        refine VC_blk ?_
        (repeat refine VC_seq ?_); refine VC_region [0, 4, 6] rfl fun K hK => ?_; simp only [go_sem, ↓reduceIte, Nat.reduceEqDiff, Nat.mul_one, Nat.zero_add]
        ((repeat (first | refine ⟨by omega, ?_⟩ | refine ⟨I64.mk (by omega) (by omega), ?_⟩)); refine hK _ _ ?_; clear hK; try clear K)
        refine VC_again ?_
        simp only [go_sem, ↓reduceIte, Nat.reduceEqDiff, Nat.mul_one, Nat.zero_add]
        exact ⟨c.toNat - (n + 1), by omega, n + 1, cap3, a3, o' ++ [b], rfl, hH7, by omega, by rw [k2, List.append_assoc, ← List.replicate_succ'], rfl⟩
      · simp only [decide_eq_false_iff_not] at hn
        refine VC_exit rfl ?_
        (repeat refine VC_seq ?_); refine VC_region [0, 4] rfl fun K hK => ?_; simp only [go_sem, ↓reduceIte, Nat.reduceEqDiff, Nat.mul_one, Nat.zero_add]
        (repeat (first | refine ⟨⟨by omega, by omega⟩, ?_⟩ | refine ⟨by omega, ?_⟩ | refine ⟨I64.mk (by omega) (by omega), ?_⟩))
        (refine hK _ _ ?_; clear hK; try clear K)
        refine VC_blk (VC_again ?_)
        simp only [go_sem, ↓reduceIte, Nat.reduceEqDiff, Nat.mul_one, Nat.zero_add]
        have hn2 : n = c.toNat := by omega
        rw [show Int.toNat 5 = 5 from rfl, hdr]
        refine ⟨r.length, by omega, r, o', 0, cap2, a2, rfl, hH6, by omega, by omega, Ahead.zero _ _, ?_, rfl⟩
        rw [h4, k2, hn2]
  · simp only [decide_eq_false_iff_not] at hge
    have : s = [] := List.eq_nil_of_length_eq_zero (by omega)
    subst this
    have ha1 := h3.1
    refine VC_exit rfl ?_
    (repeat refine VC_seq ?_); refine VC_region [2, 3] rfl fun K hK => ?_; simp only [go_sem, ↓reduceIte, Nat.reduceEqDiff, Nat.mul_one, Nat.zero_add]
    refine ⟨out, hH.readsBytes 0 rfl, ?_⟩
    (refine hK _ _ ?_; clear hK; try clear K)
    refine VC_ret (VX_ret2 rfl rfl rfl ⟨hH.sub (by simp), ?_⟩)
    rw [h4, decS, if_neg (by omega)]
end Go.Proofs.Ytgepfjlecmmokaa
