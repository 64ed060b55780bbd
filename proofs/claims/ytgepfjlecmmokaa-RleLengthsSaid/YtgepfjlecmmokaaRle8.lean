/- Runs of bytes: what is written is read back. Plain lists. No conditions. -/
import Derived.Test.YtgepfjlecmmokaaRle7
namespace Go.Proofs.Ytgepfjlecmmokaa
open Go Go.Eng
set_option maxRecDepth 100000
set_option linter.unusedSimpArgs false
set_option linter.unusedVariables false

theorem dec_one (out : List UInt8) (same : Nat) (c : UInt8) (s : List UInt8) (h : same ≠ 4) (hl : out.length < 262144) :
    decS out same (c :: s) = decS (out ++ [c]) (if 0 < same ∧ out.getLastD 0 = c then same + 1 else 1) s := by
  rw [decS, if_neg h, if_neg (by omega)]

theorem last_app (out : List UInt8) (c : UInt8) : (out ++ [c]).getLastD 0 = c := by simp

theorem dec_more (b : UInt8) (s : List UInt8) : ∀ (m j : Nat) (out : List UInt8), 1 ≤ j → j + m ≤ 4 → out.getLastD 0 = b → out.length + m ≤ 262144 →
    decS out j (List.replicate m b ++ s) = decS (out ++ List.replicate m b) (j + m) s
  | 0, j, out, _, _, _, _ => by simp
  | m + 1, j, out, h1, h2, h3, h4 => by
    rw [List.replicate_succ, List.cons_append, dec_one _ _ _ _ (by omega) (by omega), if_pos ⟨by omega, h3⟩,
      dec_more b s m (j + 1) (out ++ [b]) (by omega) (by omega) (last_app _ _) (by simp; omega), List.append_assoc]
    rw [show j + 1 + m = j + (m + 1) by omega]
    rfl

theorem dec_run (b : UInt8) (s out : List UInt8) (m same : Nat) (h1 : 1 ≤ m) (h2 : m ≤ 4) (hs : same ≤ 3) (hb : 0 < same → out.getLastD 0 ≠ b) (hl : out.length + m ≤ 262144) :
    decS out same (List.replicate m b ++ s) = decS (out ++ List.replicate m b) m s := by
  obtain ⟨m, rfl⟩ : ∃ k, m = k + 1 := ⟨m - 1, by omega⟩
  rw [List.replicate_succ, List.cons_append, dec_one _ _ _ _ (by omega) (by omega), if_neg (fun h => hb h.1 h.2),
    dec_more b s m 1 (out ++ [b]) (by omega) (by omega) (last_app _ _) (by simp; omega), List.append_assoc, Nat.add_comm 1 m]
  rfl

theorem lead_take (b : UInt8) : ∀ (l : List UInt8) (n : Nat), n ≤ lead b l → l.take n = List.replicate n b
  | [], n, h => by simp [lead] at h; subst h; rfl
  | c :: l, 0, _ => rfl
  | c :: l, n + 1, h => by
    simp only [lead] at h
    by_cases hc : c = b
    · rw [if_pos hc] at h
      rw [List.take_succ_cons, lead_take b l n (by omega), hc]
      rfl
    · rw [if_neg hc] at h; omega

theorem run_take (b : UInt8) (l : List UInt8) (n : Nat) (h : n ≤ runOf (b :: l)) : (b :: l).take n = List.replicate n b := by
  simp only [runOf] at h
  cases n with
  | zero => rfl
  | succ n => rw [List.take_succ_cons, lead_take b l n (by omega)]; rfl

theorem run_end (b : UInt8) (l : List UInt8) (h : runOf (b :: l) < 255) : (b :: l)[runOf (b :: l)]? ≠ some b := by
  simp only [runOf] at h ⊢
  rw [show min 255 (lead b l + 1) = lead b l + 1 by omega]
  exact lead_end b l

theorem dec_enc : ∀ (f : Nat) (l out : List UInt8) (same : Nat), l.length ≤ f → out.length + l.length ≤ 262144 → same ≤ 3 → (0 < same → ∀ b, l[0]? = some b → out.getLastD 0 ≠ b) →
    decS out same (enc l) = (out ++ l, 0) := by
  intro f
  induction f with
  | zero =>
    intro l out same h1 h2 h3 h4
    have : l = [] := List.eq_nil_of_length_eq_zero (by omega)
    subst this
    rw [enc_nil, decS, if_neg (by omega), List.append_nil]
  | succ f ih =>
    intro l out same h1 h2 h3 h4
    cases l with
    | nil => rw [enc_nil, decS, if_neg (by omega), List.append_nil]
    | cons b l =>
      have hp := runOf_pos (b :: l) (by simp)
      have hle := runOf_le (b :: l)
      have htk := run_take b l (runOf (b :: l)) (Nat.le_refl _)
      have htk4 := run_take b l 4
      have hend := run_end b l
      rw [enc_step (b :: l) (by simp)]
      generalize runOf (b :: l) = n at *
      have hd : (b :: l).take n ++ (b :: l).drop n = b :: l := List.take_append_drop _ _
      rw [htk] at hd
      have hdl : ((b :: l).drop n).length = (b :: l).length - n := List.length_drop
      simp only [List.length_cons] at h1 h2 hle hdl
      have h4' : 0 < same → out.getLastD 0 ≠ b := fun h => h4 h b rfl
      by_cases hn : n < 4
      · rw [encRun, if_pos hn, htk, dec_run b _ out n same hp (by omega) h3 h4' (by omega),
          ih _ (out ++ List.replicate n b) n (by omega) (by simp only [List.length_append, List.length_replicate]; omega) (by omega) ?_, List.append_assoc, hd]
        intro _ c hc hlast
        have e : (out ++ List.replicate n b).getLastD 0 = b := by
          obtain ⟨k, rfl⟩ : ∃ k, n = k + 1 := ⟨n - 1, by omega⟩
          rw [List.replicate_succ', ← List.append_assoc, last_app]
        rw [e] at hlast
        rw [List.getElem?_drop, Nat.add_zero] at hc
        exact hend (by omega) (by rw [hc, hlast])
      · rw [encRun, if_neg hn, htk4 (by omega), List.append_assoc, dec_run b _ out 4 same (by omega) (by omega) h3 h4' (by omega)]
        rw [List.singleton_append, decS, if_pos rfl]
        have e1 : (UInt8.ofNat (n - 4)).toNat = n - 4 := by simp; omega
        have e2 : (out ++ List.replicate 4 b).getLastD 0 = b := by
          rw [show List.replicate 4 b = List.replicate 3 b ++ [b] from rfl, ← List.append_assoc, last_app]
        rw [e1, e2, if_neg (by simp only [List.length_append, List.length_replicate]; omega),
          ih _ _ 0 (by omega) (by simp only [List.length_append, List.length_replicate]; omega) (by omega) (fun h => by omega)]
        rw [List.append_assoc, List.append_assoc, ← List.append_assoc (List.replicate 4 b), List.replicate_append_replicate, show 4 + (n - 4) = n by omega, hd]

theorem dec_of_enc (l : List UInt8) (h : l.length ≤ 262144) : decS [] 0 (enc l) = (l, 0) := by
  have := dec_enc l.length l [] 0 (Nat.le_refl _) (by simpa using h) (by omega) (fun h => by omega)
  simpa using this
end Go.Proofs.Ytgepfjlecmmokaa
