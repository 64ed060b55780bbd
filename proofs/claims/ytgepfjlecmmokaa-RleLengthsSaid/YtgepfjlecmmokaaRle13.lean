/- Runs of bytes: the reference's way to read is the program's. Plain lists. No conditions. -/
import Derived.Test.YtgepfjlecmmokaaRle12
namespace Go.Proofs.Ytgepfjlecmmokaa
open Go Go.Eng
set_option maxRecDepth 100000
set_option linter.unusedSimpArgs false
set_option linter.unusedVariables false

/-- The reader stands ahead of a run of which it has taken so many that four are not reached. -/
def Ahead (out : List UInt8) (same : Nat) (s : List UInt8) : Prop := same ≤ 3 ∧ (0 < same → same + lead (out.getLastD 0) s ≤ 3)

theorem Ahead.zero (out s : List UInt8) : Ahead out 0 s := ⟨by omega, fun h => by omega⟩

theorem dec_small (out : List UInt8) (same : Nat) (b : UInt8) (s : List UInt8) (h : Ahead out same (b :: s)) (hk : lead b s ≤ 2) (hl : out.length < 262144) :
    ∃ same', decS out same (b :: s) = decS (out ++ [b]) same' s ∧ Ahead (out ++ [b]) same' s := by
  refine ⟨_, dec_one out same b s (by have := h.1; omega) hl, ?_⟩
  rw [Ahead, last_app]
  split
  · rename_i hh
    have := h.2 hh.1
    rw [hh.2, lead, if_pos rfl] at this
    exact ⟨by omega, fun _ => by omega⟩
  · exact ⟨by omega, fun _ => by omega⟩

theorem dec_full (out : List UInt8) (same : Nat) (b : UInt8) (s : List UInt8) (h : same ≠ 4) (hl : out.length = 262144) : decS out same (b :: s) = ([], 3) := by
  rw [decS, if_neg h, if_pos hl]

theorem dec_full_more (b : UInt8) (s : List UInt8) : ∀ (m j : Nat) (out : List UInt8), j + m ≤ 4 → (0 < j → out.getLastD 0 = b) → out.length ≤ 262144 → 262144 < out.length + m →
    decS out j (List.replicate m b ++ s) = ([], 3)
  | 0, j, out, _, _, _, h => by omega
  | m + 1, j, out, h1, h2, h3, h4 => by
    rw [List.replicate_succ, List.cons_append]
    by_cases hf : out.length = 262144
    · exact dec_full out j b _ (by omega) hf
    · rw [dec_one _ _ _ _ (by omega) (by omega)]
      refine dec_full_more b s m _ (out ++ [b]) ?_ (fun _ => last_app _ _) (by simp; omega) (by simp; omega)
      split <;> omega

/-- Four alike, where they don't fit. -/
theorem dec_four_full (out : List UInt8) (same : Nat) (b : UInt8) (s : List UInt8) (h : Ahead out same (List.replicate 4 b ++ s)) (hl : out.length ≤ 262144) (hl2 : 262144 < out.length + 4) :
    decS out same (List.replicate 4 b ++ s) = ([], 3) := by
  rw [show List.replicate 4 b ++ s = b :: (List.replicate 3 b ++ s) from rfl]
  by_cases hf : out.length = 262144
  · exact dec_full out same b _ (by have := h.1; omega) hf
  · rw [dec_one _ _ _ _ (by have := h.1; omega) (by omega), if_neg]
    · exact dec_full_more b s 3 1 (out ++ [b]) (by omega) (fun _ => last_app _ _) (by simp; omega) (by simp; omega)
    · intro hh
      have := h.2 hh.1
      rw [hh.2] at this
      simp [lead, List.replicate] at this
      omega

theorem dec_four (out : List UInt8) (same : Nat) (b : UInt8) (s : List UInt8) (h : Ahead out same (List.replicate 4 b ++ s)) (hl : out.length + 4 ≤ 262144) :
    decS out same (List.replicate 4 b ++ s) = decS (out ++ List.replicate 4 b) 4 s := by
  refine dec_run b s out 4 same (by omega) (by omega) h.1 (fun h1 h2 => ?_) hl
  have := h.2 h1
  rw [h2] at this
  simp [lead, List.replicate] at this
  omega

theorem four_last (out : List UInt8) (b : UInt8) : (out ++ List.replicate 4 b).getLastD 0 = b := by
  rw [show List.replicate 4 b = List.replicate 3 b ++ [b] from rfl, ← List.append_assoc, last_app]

theorem dec_count (out : List UInt8) (b c : UInt8) (s : List UInt8) : decS (out ++ List.replicate 4 b) 4 (c :: s) =
    if 262144 < out.length + 4 + c.toNat then ([], 3) else decS (out ++ List.replicate 4 b ++ List.replicate c.toNat b) 0 s := by
  rw [decS, if_pos rfl, four_last]
  simp

theorem lead_runOf (b : UInt8) (l : List UInt8) : min 4 (runOf (b :: l)) = min 4 (lead b l + 1) := by
  simp only [runOf]; omega
end Go.Proofs.Ytgepfjlecmmokaa
