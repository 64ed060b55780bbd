/- Runs of bytes: how long the written text is. Plain lists. No conditions. -/
import Derived.Test.YtgepfjlecmmokaaRle9
namespace Go.Proofs.Ytgepfjlecmmokaa
open Go Go.Eng
set_option maxRecDepth 100000
set_option linter.unusedSimpArgs false
set_option linter.unusedVariables false

/-- A text that begins with n equal bytes and then goes on otherwise. -/
theorem runOf_is (b : UInt8) (n : Nat) (s : List UInt8) (h1 : 1 ≤ n) (h2 : n ≤ 255) (h3 : n = 255 ∨ s[0]? ≠ some b) : runOf (List.replicate n b ++ s) = n := by
  have hz : (List.replicate n b ++ s)[0]? = some b := by
    rw [List.getElem?_append_left (by simp; omega), List.getElem?_replicate, if_pos (by omega)]
  have h := runOf_eq (List.replicate n b ++ s) 0 n (by simp; omega) h1 h2 ?_ ?_
  · simpa using h
  · intro j hj
    rw [hz, Nat.zero_add, List.getElem?_append_left (by simp; omega), List.getElem?_replicate, if_pos (by omega)]
  · rcases h3 with h3 | h3
    · exact .inl h3
    · refine .inr ?_
      rw [hz, Nat.zero_add, List.getElem?_append_right (by simp)]
      simpa using h3

theorem enc_run (b : UInt8) (n : Nat) (s : List UInt8) (h1 : 1 ≤ n) (h2 : n ≤ 255) (h3 : n = 255 ∨ s[0]? ≠ some b) :
    (enc (List.replicate n b ++ s)).length = cost n + (enc s).length := by
  have hne : List.replicate n b ++ s ≠ [] := by
    intro h
    have := congrArg List.length h
    simp at this; omega
  rw [enc_step _ hne, runOf_is b n s h1 h2 h3, List.length_append, encRun_length _ _ (by simp)]
  have e : (List.replicate n b ++ s).drop n = s := by simp
  rw [e, cost]
  congr 1
  split <;> split <;> omega

/-- Every text that is not empty begins with a run. -/
theorem run_split (l : List UInt8) (h : l ≠ []) : ∃ (b : UInt8) (n : Nat) (s : List UInt8), l = List.replicate n b ++ s ∧ runOf l = n ∧ s = l.drop n ∧ 1 ≤ n ∧ n ≤ 255 ∧ (n = 255 ∨ s[0]? ≠ some b) := by
  cases l with
  | nil => exact absurd rfl h
  | cons b l =>
    have hp := runOf_pos (b :: l) (by simp)
    have hle := runOf_le (b :: l)
    refine ⟨b, runOf (b :: l), (b :: l).drop (runOf (b :: l)), ?_, rfl, rfl, hp, hle.2, ?_⟩
    · rw [← run_take b l _ (Nat.le_refl _), List.take_append_drop]
    · by_cases h255 : runOf (b :: l) = 255
      · exact .inl h255
      · refine .inr ?_
        rw [List.getElem?_drop, Nat.add_zero]
        exact run_end b l (by omega)

theorem enc_one (c : UInt8) : (enc [c]).length = 1 := by
  have := enc_run c 1 [] (by omega) (by omega) (.inr (by simp))
  simpa [cost, enc_nil] using this

theorem enc_snoc : ∀ (f : Nat) (l : List UInt8) (c : UInt8), l.length ≤ f → (enc l).length ≤ (enc (l ++ [c])).length ∧ (enc (l ++ [c])).length ≤ (enc l).length + 2 := by
  intro f
  induction f with
  | zero =>
    intro l c h
    have : l = [] := List.eq_nil_of_length_eq_zero (by omega)
    subst this
    rw [List.nil_append, enc_one, enc_nil]
    simp
  | succ f ih =>
    intro l c h
    by_cases hl : l = []
    · subst hl
      rw [List.nil_append, enc_one, enc_nil]
      simp
    obtain ⟨b, n, s, rfl, _, _, h1, h2, h3⟩ := run_split l hl
    rw [enc_run b n s h1 h2 h3, List.append_assoc]
    by_cases hs : s = []
    · subst hs
      rw [List.nil_append, enc_nil]
      by_cases hc : n ≠ 255 ∧ c = b
      · obtain ⟨hc1, rfl⟩ := hc
        have e : List.replicate n c ++ [c] = List.replicate (n + 1) c ++ [] := by rw [List.append_nil, List.replicate_succ']
        rw [e, enc_run c (n + 1) [] (by omega) (by omega) (.inr (by simp)), enc_nil]
        simp only [cost, List.length_nil]
        split <;> split <;> omega
      · rw [enc_run b n [c] h1 h2 ?_, enc_one]
        · simp
        · by_cases h4 : n = 255
          · exact .inl h4
          · refine .inr ?_
            intro h5
            simp only [List.getElem?_cons_zero, Option.some.injEq] at h5
            exact hc ⟨h4, h5⟩
    · have hh := ih s c (by simp at h; omega)
      have e : (s ++ [c])[0]? = s[0]? := by
        rw [List.getElem?_append_left]
        cases s with
        | nil => exact absurd rfl hs
        | cons _ _ => simp
      rw [enc_run b n (s ++ [c]) h1 h2 (by rw [e]; exact h3)]
      omega

theorem enc_snoc' (l : List UInt8) (c : UInt8) : (enc l).length ≤ (enc (l ++ [c])).length ∧ (enc (l ++ [c])).length ≤ (enc l).length + 2 := enc_snoc l.length l c (Nat.le_refl _)

theorem take_snoc (l : List UInt8) (k : Nat) (h : k < l.length) : l.take (k + 1) = l.take k ++ [l[k]] := by
  rw [List.take_add_one, List.getElem?_eq_getElem h]; rfl

theorem enc_mono (l : List UInt8) : ∀ (d k : Nat), k + d ≤ l.length → (enc (l.take k)).length ≤ (enc (l.take (k + d))).length
  | 0, k, _ => Nat.le_refl _
  | d + 1, k, h => by
    have h1 := enc_mono l d k (by omega)
    have h2 := (enc_snoc' (l.take (k + d)) l[k + d]).1
    rw [← take_snoc l (k + d) (by omega)] at h2
    rw [← Nat.add_assoc]
    omega

/-- What fits, fits; one more does not. -/
theorem fit_ok : ∀ (f : Nat) (l : List UInt8) (left : Int), l.length ≤ f →
    fit l left ≤ l.length ∧ ((enc (l.take (fit l left))).length : Int) ≤ max left 0 ∧ (left < 0 → fit l left = 0) ∧ (fit l left = l.length ∨ left < ((enc (l.take (fit l left + 1))).length : Int)) := by
  intro f
  induction f with
  | zero =>
    intro l left h
    have : l = [] := List.eq_nil_of_length_eq_zero (by omega)
    subst this
    simp [fit_nil, enc_nil]
    omega
  | succ f ih =>
    intro l left h
    by_cases hl : l = []
    · subst hl
      simp [fit_nil, enc_nil]
      omega
    rw [fit_step l left hl]
    obtain ⟨b, n, s, hls, hn, hd, h1, h2, h3⟩ := run_split l hl
    rw [hn, ← hd]
    have hlen : l.length = n + s.length := by rw [hls]; simp
    -- within the run
    have inrun : ∀ k, 1 ≤ k → k ≤ n → (enc (l.take k)).length = cost k := by
      intro k hk1 hk2
      have e : l.take k = List.replicate k b ++ [] := by
        rw [hls, List.take_append_of_le_length (by simp; omega), List.take_replicate, List.append_nil]
        congr 1; omega
      rw [e, enc_run b k [] hk1 (by omega) (.inr (by simp)), enc_nil]; rfl
    have behind : ∀ k, (enc (l.take (n + k))).length = cost n + (enc (s.take k)).length := by
      intro k
      have e : l.take (n + k) = List.replicate n b ++ s.take k := by
        rw [hls, List.take_append]; simp
      by_cases hk : k = 0
      · subst hk
        rw [e, enc_run b n _ h1 h2 (.inr (by simp))]
      · rw [e, enc_run b n _ h1 h2 ?_]
        rw [List.getElem?_take, if_pos (by omega)]
        exact h3
    by_cases hc : left < (cost n : Int)
    · rw [if_pos hc]
      generalize hk : (max 0 (min left 3)).toNat = k
      have hkn : k < n := by simp only [cost] at hc; split at hc <;> omega
      have hk3 : k ≤ 3 := by omega
      refine ⟨by omega, ?_, by omega, .inr ?_⟩
      · by_cases hk0 : k = 0
        · subst hk0; rw [List.take_zero, enc_nil]; simp; omega
        · rw [inrun k (by omega) (by omega), cost, if_pos hk3]; omega
      · rw [inrun (k + 1) (by omega) (by omega)]
        simp only [cost] at hc ⊢
        split at hc <;> split <;> omega
    · rw [if_neg hc]
      obtain ⟨g1, g2, g3, g4⟩ := ih s (left - cost n) (by omega)
      refine ⟨by omega, ?_, by omega, ?_⟩
      · rw [behind]; omega
      · rcases g4 with g4 | g4
        · exact .inl (by omega)
        · refine .inr ?_
          rw [Nat.add_assoc, behind]; omega
end Go.Proofs.Ytgepfjlecmmokaa
