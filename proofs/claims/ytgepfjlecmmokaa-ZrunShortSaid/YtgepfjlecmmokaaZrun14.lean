/- Runs of noughts: what was told is read as it was. Plain numbers. No conditions. -/
import Derived.Test.YtgepfjlecmmokaaZrun13
namespace Go.Proofs.Ytgepfjlecmmokaa
open Go Go.Eng

theorem zdec_digits (n most : Int) (hn : 1 ≤ n) : ∀ (f z : Nat), z ≤ f → ∀ (wt : Nat) (out r : List Int), 1 ≤ wt → (out.length : Int) ≤ most →
    zdec n most out wt (dig z ++ r) = if (out.length : Int) + wt * z ≤ most then zdec n most (out ++ List.replicate (wt * z) 0) (wt * 2 ^ (dig z).length) r else ([], 3) := by
  intro f
  induction f with
  | zero =>
    intro z hz wt out r h1 h2
    have : z = 0 := by omega
    subst this
    simp [dig_zero, h2]
  | succ f ih =>
    intro z hz wt out r h1 h2
    cases z with
    | zero => simp [dig_zero, h2]
    | succ k =>
      have hk : ((k % 2 : Nat) : Int) = 0 ∨ ((k % 2 : Nat) : Int) = 1 := by omega
      have e1 : (((k % 2 : Nat) : Int) + 1) * wt = ((wt * (k % 2 + 1) : Nat) : Int) := by push_cast; rw [Int.mul_comm]
      have e2 : wt * (k + 1) = wt * (k % 2 + 1) + 2 * wt * (k / 2) := by
        have : k + 1 = k % 2 + 1 + 2 * (k / 2) := by omega
        rw [this, Nat.mul_add]
        have : wt * (2 * (k / 2)) = 2 * wt * (k / 2) := by rw [Nat.mul_left_comm, Nat.mul_assoc]
        omega
      rw [dig_succ, List.cons_append, zdec, if_neg (by omega), if_pos (by omega), e1, Int.toNat_natCast]
      have e2' : (wt : Int) * ((k + 1 : Nat) : Int) = ((wt * (k % 2 + 1) : Nat) : Int) + ((2 * wt * (k / 2) : Nat) : Int) := by
        rw [← Int.natCast_mul, e2]; simp
      have e3 : ((2 * wt : Nat) : Int) * ((k / 2 : Nat) : Int) = ((2 * wt * (k / 2) : Nat) : Int) := by rw [← Int.natCast_mul]
      rw [e2', e2]
      clear e1 e2 e2'
      generalize wt * (k % 2 + 1) = p
      have ihk := ih (k / 2) (by omega) (2 * wt) (out ++ List.replicate p 0) r (by omega)
      rw [e3] at ihk
      generalize 2 * wt * (k / 2) = q at *
      by_cases h3 : most - (out.length : Int) < (p : Int)
      · rw [if_pos h3, if_neg (by omega)]
      · rw [if_neg h3, ihk (by simp; omega)]
        rw [List.length_append, List.length_replicate]
        by_cases h4 : (out.length : Int) + ((p : Int) + (q : Int)) ≤ most
        · rw [if_pos (by omega), if_pos h4, List.append_assoc, List.replicate_append_replicate, List.length_cons, Nat.pow_succ]
          congr 1
          rw [Nat.mul_comm 2 wt, Nat.mul_assoc, Nat.mul_comm 2]
        · rw [if_neg (by omega), if_neg h4]

theorem zgo_back (n : Int) (hn : 1 ≤ n) (hn2 : n ≤ 256) : ∀ (l : List Int) (o : List Int) (z : Nat) (s : List Int), zgo n o z l = (s, 0) →
    ∃ t, s = o ++ t ∧ ∀ (out : List Int) (most : Int), (out.length : Int) ≤ most → zdec n most out 1 t = if (out.length : Int) + z + l.length ≤ most then (out ++ List.replicate z 0 ++ l, 0) else ([], 3)
  | [], o, z, s, h => by
    rw [zgo] at h
    obtain ⟨rfl, _⟩ := Prod.mk.inj h
    refine ⟨dig z ++ [n + 1], by simp, fun out most ho => ?_⟩
    rw [zdec_digits n most hn z z (Nat.le_refl _) 1 out _ (Nat.le_refl _) ho]
    have e : ((1 : Nat) : Int) * (z : Int) = z := by simp
    rw [e, Nat.one_mul]
    simp only [List.length_nil, Int.natCast_zero, Int.add_zero, List.append_nil]
    split
    · rw [zdec, if_neg (by omega), if_neg (by omega), if_pos rfl, zend]
    · rfl
  | v :: r, o, z, s, h => by
    rw [zgo] at h
    split at h
    · rename_i hv
      subst hv
      obtain ⟨t, ht, hd⟩ := zgo_back n hn hn2 r o (z + 1) s h
      refine ⟨t, ht, fun out most ho => ?_⟩
      rw [hd out most ho]
      have e : List.replicate (z + 1) (0 : Int) ++ r = List.replicate z 0 ++ 0 :: r := by
        rw [List.replicate_succ', List.append_assoc]; rfl
      rw [List.append_assoc, e, ← List.append_assoc]
      simp only [List.length_cons]
      by_cases hc : (out.length : Int) + ((z + 1 : Nat) : Int) + r.length ≤ most
      · rw [if_pos hc, if_pos (by omega)]
      · rw [if_neg hc, if_neg (by omega)]
    · rename_i hv
      split at h
      · cases h
      · rename_i hr
        obtain ⟨t, ht, hd⟩ := zgo_back n hn hn2 r _ 0 s h
        refine ⟨dig z ++ (v + 1) :: t, by rw [ht]; simp, fun out most ho => ?_⟩
        rw [zdec_digits n most hn z z (Nat.le_refl _) 1 out _ (Nat.le_refl _) ho]
        have e : ((1 : Nat) : Int) * (z : Int) = z := by simp
        rw [e, Nat.one_mul]
        simp only [List.length_cons]
        by_cases hc : (out.length : Int) + z ≤ most
        · rw [if_pos hc, zdec, if_neg (by omega), if_neg (by omega), if_neg (by omega), show v + 1 - 1 = v by omega]
          simp only [List.length_append, List.length_replicate]
          by_cases hc2 : most ≤ ((out.length + z : Nat) : Int)
          · rw [if_pos hc2, if_neg (by omega)]
          · rw [if_neg hc2, hd _ most (by simp; omega)]
            simp only [List.length_append, List.length_replicate, List.length_cons, List.length_nil, List.replicate_zero, List.append_nil]
            by_cases hc3 : (out.length : Int) + z + ((r.length + 1 : Nat) : Int) ≤ most
            · rw [if_pos (by omega), if_pos hc3, List.append_assoc]; rfl
            · rw [if_neg (by omega), if_neg hc3]
        · rw [if_neg hc, if_neg (by omega)]

theorem zgo_ends (n : Int) : ∀ (l o : List Int) (z : Nat), (∃ e, zgo n o z l = ([], e) ∧ e ≠ 0) ∨ ∃ t, zgo n o z l = (t ++ [n + 1], 0)
  | [], o, z => .inr ⟨o ++ dig z, rfl⟩
  | v :: r, o, z => by
    rw [zgo]
    split
    · exact zgo_ends n r o (z + 1)
    · split
      · exact .inl ⟨60, rfl, by decide⟩
      · exact zgo_ends n r _ 0

/-- Either refused, and then nothing; or the last one is the end's. -/
theorem zenc_ends (n : Int) (l : List Int) : (∃ e, zenc n l = ([], e) ∧ e ≠ 0) ∨ ∃ t, zenc n l = (t ++ [n + 1], 0) := by
  rw [zenc]
  split
  · exact .inl ⟨2, rfl, by decide⟩
  · exact zgo_ends n l [] 0

theorem zback (n : Int) (l s : List Int) (h : zenc n l = (s, 0)) (most : Int) (h0 : 0 ≤ most) (h1 : most ≤ 262144) :
    zdecode n most s = if (l.length : Int) ≤ most then (l, 0) else ([], 3) := by
  rw [zenc] at h
  split at h
  · cases h
  · rename_i hc
    obtain ⟨t, ht, hd⟩ := zgo_back n (by omega) (by omega) l [] 0 s h
    have := hd [] most (by simpa using h0)
    rw [List.nil_append] at ht
    subst ht
    rw [zdecode, if_neg (by omega), this]
    simp

theorem dig_pow : ∀ (f k : Nat), k ≤ f → 2 ^ (dig k).length ≤ k + 1 ∧ k + 1 < 2 ^ ((dig k).length + 1)
  | 0, k, h => by
    have : k = 0 := by omega
    subst this; simp [dig_zero]
  | f + 1, 0, _ => by simp [dig_zero]
  | f + 1, k + 1, h => by
    have := dig_pow f (k / 2) (by omega)
    rw [dig_succ, List.length_cons, Nat.pow_succ, Nat.pow_succ]
    rw [Nat.pow_succ] at this
    omega
end Go.Proofs.Ytgepfjlecmmokaa
