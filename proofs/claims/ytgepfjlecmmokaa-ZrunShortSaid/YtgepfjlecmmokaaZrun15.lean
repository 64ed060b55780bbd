/- Runs of noughts: the walks of the two laws without the reference. -/
import Derived.Test.YtgepfjlecmmokaaZrun14
namespace Go.Proofs.Ytgepfjlecmmokaa
open Go Go.Eng
set_option maxRecDepth 100000
set_option linter.unusedSimpArgs false
set_option linter.unusedVariables false

theorem dig_bd : ∀ (f k : Nat), k ≤ f → ∀ v ∈ dig k, 0 ≤ v ∧ v ≤ 257
  | 0, k, h => by
    have : k = 0 := by omega
    subst this; simp [dig_zero]
  | f + 1, 0, _ => by simp [dig_zero]
  | f + 1, k + 1, h => by
    have := dig_bd f (k / 2) (by omega)
    rw [dig_succ]
    intro v hv
    rcases List.mem_cons.1 hv with rfl | hv
    · omega
    · exact this v hv
theorem zgo_bd (n : Int) (hn : 1 ≤ n) (hn2 : n ≤ 256) : ∀ (l o : List Int) (z : Nat), (∀ v ∈ o, 0 ≤ v ∧ v ≤ 257) → ∀ v ∈ (zgo n o z l).1, 0 ≤ v ∧ v ≤ 257
  | [], o, z, h => by
    intro v hv
    rw [zgo] at hv
    simp only [List.mem_append, List.mem_singleton] at hv
    rcases hv with (hv | hv) | rfl
    · exact h v hv
    · exact dig_bd z z (Nat.le_refl _) v hv
    · omega
  | x :: r, o, z, h => by
    rw [zgo]
    split
    · exact zgo_bd n hn hn2 r o _ h
    · split
      · simp
      · refine zgo_bd n hn hn2 r _ _ fun v hv => ?_
        simp only [List.mem_append, List.mem_singleton] at hv
        rcases hv with (hv | hv) | rfl
        · exact h v hv
        · exact dig_bd z z (Nat.le_refl _) v hv
        · omega
theorem zenc_i64 (n : Int) (l : List Int) : ∀ v ∈ (zenc n l).1, I64 v := by
  intro v hv
  rw [zenc] at hv
  split at hv
  · simp at hv
  · have := zgo_bd n (by omega) (by omega) l [] 0 (by simp) v hv
    exact ⟨by omega, by omega⟩

theorem law12_does (n : Int) (l : List Int) (la : Option Addr) (lc : Nat) (most : Int) (hn : I64 n) (hm : I64 most) (w : World) (hl : RS w la l.length 1 (intsV l)) (hi : ∀ v ∈ l, I64 v) : Does Try.prog 12 #[.int .i64 n, .slice la l.length lc, .int .i64 most] w fun v w' => Heap w [] w' [] ∧ v = .bool true := by
  refine Does_enter (args := [.int .i64 n, .slice la l.length lc, .int .i64 most]) 71 Try.func12 rfl rfl (of_decide_eq_true rfl) ?_
  simp only [Env.ofArgs]
  (repeat refine VC_seq ?_); refine VC_region [0, 1, 2] rfl fun K hK => ?_; simp -implicitDefEqProofs only [go_sem, ↓reduceIte, Nat.reduceEqDiff, Nat.mul_one, Nat.zero_add]
  ((repeat (first | refine ⟨by omega, ?_⟩ | refine ⟨I64.mk (by omega) (by omega), ?_⟩)); refine hK _ _ ?_; clear hK; try clear K)
  (repeat refine VC_seq ?_); refine VC_region [0, 1, 2, 13] rfl fun K hK => ?_; simp -implicitDefEqProofs only [go_sem, ↓reduceIte, Nat.reduceEqDiff, Nat.mul_one, Nat.zero_add]
  ((repeat (first | refine ⟨by omega, ?_⟩ | refine ⟨I64.mk (by omega) (by omega), ?_⟩)); refine hK _ _ ?_; clear hK; try clear K)
  refine VC_cond rfl rfl (fun h => ?_) (fun h => VC_skip ?_) -- t13
  · (repeat refine VC_seq ?_); refine VC_region [6] rfl fun K hK => ?_; simp -implicitDefEqProofs only [go_sem, ↓reduceIte, Nat.reduceEqDiff, Nat.mul_one, Nat.zero_add]
    refine MemK_call Try.call24 ?_; simp -implicitDefEqProofs only [go_sem, ↓reduceIte, Nat.reduceEqDiff, Nat.mul_one, Nat.zero_add]; refine CallK.mk (zawake_does w) ?_
    rintro v w2 ⟨hH, rfl⟩
    (try simp -implicitDefEqProofs only [go_sem, ↓reduceIte, Nat.reduceEqDiff, Nat.mul_one, Nat.zero_add])
    (refine hK _ _ ?_; clear hK; try clear K)
    exact VC_ret (VX_ret1 rfl rfl ⟨hH, rfl⟩)
  simp only [decide_eq_false_iff_not] at h
  have hlen := zenc_length n l
  have hends := zenc_ends n l
  have hback := fun s h m h0 h1 => zback n l s h m h0 h1
  have hsi := zenc_i64 n l
  generalize hp : zenc n l = p at hlen hends hback hsi
  (repeat refine VC_seq ?_); refine VC_region [0, 1, 2, 7, 8] rfl fun K hK => ?_; simp -implicitDefEqProofs only [go_sem, ↓reduceIte, Nat.reduceEqDiff, Nat.mul_one, Nat.zero_add]
  refine MemK_call Try.call25 ?_; simp -implicitDefEqProofs only [go_sem, ↓reduceIte, Nat.reduceEqDiff, Nat.mul_one, Nat.zero_add]; refine CallK.mk (zenc_does n l la lc hn w hl (by omega) hi) ?_
  rw [hp]
  rintro v w2 ⟨a1, c1, hH1, rfl⟩
  (try simp -implicitDefEqProofs only [go_sem, ↓reduceIte, Nat.reduceEqDiff, Nat.mul_one, Nat.zero_add])
  (refine hK _ _ ?_; clear hK; try clear K)
  (repeat refine VC_seq ?_); refine VC_region [0, 1, 2, 7, 22] rfl fun K hK => ?_; simp -implicitDefEqProofs only [go_sem, ↓reduceIte, Nat.reduceEqDiff, Nat.mul_one, Nat.zero_add]
  ((repeat (first | refine ⟨by omega, ?_⟩ | refine ⟨I64.mk (by omega) (by omega), ?_⟩)); refine hK _ _ ?_; clear hK; try clear K)
  refine VC_cond rfl rfl (fun h => ?_) (fun h => VC_skip ?_) -- t22
  · simp only [decide_eq_true_eq] at h
    have hp1 : p.1.length = 0 := by
      rcases hends with ⟨e, rfl, _⟩ | ⟨t, rfl⟩
      · rfl
      · exact absurd rfl h
    (repeat refine VC_seq ?_); refine VC_region [6] rfl fun K hK => ?_; simp -implicitDefEqProofs only [go_sem, ↓reduceIte, Nat.reduceEqDiff, Nat.mul_one, Nat.zero_add]
    rw [hp1]
    (try simp only [true_implies, false_implies, implies_true, and_true, true_and, not_true_eq_false, not_false_eq_true, reduceCtorEq, decide_true, Int.natCast_zero])
    refine MemK_call Try.call24 ?_; simp -implicitDefEqProofs only [go_sem, ↓reduceIte, Nat.reduceEqDiff, Nat.mul_one, Nat.zero_add]; refine CallK.mk (zawake_does w2) ?_
    rintro v w3 ⟨hH, rfl⟩
    (try simp -implicitDefEqProofs only [go_sem, ↓reduceIte, Nat.reduceEqDiff, Nat.mul_one, Nat.zero_add])
    (refine hK _ _ ?_; clear hK; try clear K)
    exact VC_ret (VX_ret1 rfl rfl ⟨(hH1.call0 hH).sub (by simp), rfl⟩)
  simp only [decide_eq_false_iff_not, Decidable.not_not] at h
  obtain ⟨s, e⟩ := p
  simp only at h hlen hH1 hsi
  subst h
  have hb1 := hback s rfl l.length (by omega) (by omega)
  rw [if_pos (Int.le_refl _)] at hb1
  (repeat refine VC_seq ?_); refine VC_region [0, 1, 2, 7, 9, 10] rfl fun K hK => ?_; simp -implicitDefEqProofs only [go_sem, ↓reduceIte, Nat.reduceEqDiff, Nat.mul_one, Nat.zero_add]
  refine MemK_call Try.call27 ?_; simp -implicitDefEqProofs only [go_sem, ↓reduceIte, Nat.reduceEqDiff, Nat.mul_one, Nat.zero_add]; refine CallK.mk (zdec_does n l.length s a1 c1 hn (I64.mk (by omega) (by omega)) w2 (row_rs (hH1.at 0 rfl)) (by omega) hsi) ?_
  rw [hb1]
  rintro v w3 ⟨a2, c2, hH2, rfl⟩
  (try simp -implicitDefEqProofs only [go_sem, ↓reduceIte, Nat.reduceEqDiff, Nat.mul_one, Nat.zero_add])
  (refine hK _ _ ?_; clear hK; try clear K)
  have hH3 := hH1.call0 hH2
  (repeat refine VC_seq ?_); refine VC_region [0, 1, 2, 7, 44] rfl fun K hK => ?_; simp -implicitDefEqProofs only [go_sem, ↓reduceIte, Nat.reduceEqDiff, Nat.mul_one, Nat.zero_add]
  (try simp only [true_implies, false_implies, implies_true, and_true, true_and, not_true_eq_false, not_false_eq_true, reduceCtorEq, decide_true, Int.natCast_zero])
  refine MemK_call Try.call23 ?_; simp -implicitDefEqProofs only [go_sem, ↓reduceIte, Nat.reduceEqDiff, Nat.mul_one, Nat.zero_add]; refine CallK.mk (ints_does l l a2 la c2 lc w3 (row_rs (hH3.at 0 rfl)) (hH3.rs' hl) (by omega) (by omega)) ?_
  rintro v w4 ⟨rfl, rfl⟩
  (try simp only [true_implies, false_implies, implies_true, and_true, true_and, not_true_eq_false, not_false_eq_true, reduceCtorEq, decide_true, Int.natCast_zero])
  (try simp -implicitDefEqProofs only [go_sem, ↓reduceIte, Nat.reduceEqDiff, Nat.mul_one, Nat.zero_add])
  (try simp only [true_implies, false_implies, implies_true, and_true, true_and, not_true_eq_false, not_false_eq_true, reduceCtorEq, decide_true, Int.natCast_zero])
  (refine hK _ _ ?_; clear hK; try clear K)
  refine VC_cond rfl rfl (fun h => by cases h) (fun h => VC_skip ?_) -- t44
  (repeat refine VC_seq ?_); refine VC_region [0, 2, 7, 52] rfl fun K hK => ?_; simp -implicitDefEqProofs only [go_sem, ↓reduceIte, Nat.reduceEqDiff, Nat.mul_one, Nat.zero_add]
  suffices out : ∀ b : Bool, (b = true ↔ most < 0 ∨ (l.length : Int) ≤ most) → K [(0, .int .i64 n), (2, .int .i64 most), (7, .slice a1 s.length c1), (52, .bool b)] w4 by (repeat' (first | exact out _ _ (by first | omega | (simp; done) | (simp; omega)) | exact out _ (by first | omega | (simp; done) | (simp; omega)) | refine ⟨fun _ => ?_, fun _ => ?_⟩ | refine ⟨by omega, ?_⟩ | refine ⟨I64.mk (by omega) (by omega), ?_⟩ | refine ⟨⟨by omega, by omega⟩, ?_⟩))
  intro b hb
  (refine hK _ _ ?_; clear hK; try clear K)
  refine VC_cond rfl rfl (fun h => ?_) (fun h => VC_skip ?_) -- t52
  · (repeat refine VC_seq ?_); refine VC_region [6] rfl fun K hK => ?_; simp -implicitDefEqProofs only [go_sem, ↓reduceIte, Nat.reduceEqDiff, Nat.mul_one, Nat.zero_add]
    refine MemK_call Try.call24 ?_; simp -implicitDefEqProofs only [go_sem, ↓reduceIte, Nat.reduceEqDiff, Nat.mul_one, Nat.zero_add]; refine CallK.mk (zawake_does w4) ?_
    rintro v w5 ⟨hH4, rfl⟩
    (try simp -implicitDefEqProofs only [go_sem, ↓reduceIte, Nat.reduceEqDiff, Nat.mul_one, Nat.zero_add])
    (refine hK _ _ ?_; clear hK; try clear K)
    exact VC_ret (VX_ret1 rfl rfl ⟨(hH3.call0 hH4).sub (by simp), rfl⟩)
  have hg : ¬ (most < 0 ∨ (l.length : Int) ≤ most) := fun h' => by rw [hb.2 h'] at h; cases h
  clear h hb
  have hb2 := hback s rfl most (by omega) (by omega)
  rw [if_neg (by omega)] at hb2
  (repeat refine VC_seq ?_); refine VC_region [9, 10] rfl fun K hK => ?_; simp -implicitDefEqProofs only [go_sem, ↓reduceIte, Nat.reduceEqDiff, Nat.mul_one, Nat.zero_add]
  refine MemK_call Try.call27 ?_; simp -implicitDefEqProofs only [go_sem, ↓reduceIte, Nat.reduceEqDiff, Nat.mul_one, Nat.zero_add]; refine CallK.mk (zdec_does n most s a1 c1 hn hm w4 (row_rs (hH3.at 1 rfl)) (by omega) hsi) ?_
  rw [hb2]
  rintro v w5 ⟨a3, c3, hH4, rfl⟩
  (try simp -implicitDefEqProofs only [go_sem, ↓reduceIte, Nat.reduceEqDiff, Nat.mul_one, Nat.zero_add])
  (refine hK _ _ ?_; clear hK; try clear K)
  have hH5 := hH3.call0 hH4
  (repeat refine VC_seq ?_); refine VC_region [6] rfl fun K hK => ?_; simp -implicitDefEqProofs only [go_sem, ↓reduceIte, Nat.reduceEqDiff, Nat.mul_one, Nat.zero_add]
  simp only [List.length_nil]
  (try simp only [true_implies, false_implies, implies_true, and_true, true_and, not_true_eq_false, not_false_eq_true, reduceCtorEq, decide_true, Int.natCast_zero])
  refine MemK_call Try.call24 ?_; simp -implicitDefEqProofs only [go_sem, ↓reduceIte, Nat.reduceEqDiff, Nat.mul_one, Nat.zero_add]; refine CallK.mk (zawake_does w5) ?_
  rintro v w6 ⟨hH6, rfl⟩
  (try simp -implicitDefEqProofs only [go_sem, ↓reduceIte, Nat.reduceEqDiff, Nat.mul_one, Nat.zero_add])
  (refine hK _ _ ?_; clear hK; try clear K)
  exact VC_ret (VX_ret1 rfl rfl ⟨(hH5.call0 hH6).sub (by simp), rfl⟩)

theorem pow_le32 {m : Nat} (h : m ≤ 32) : 2 ^ m ≤ 4294967296 := by
  have := Nat.pow_le_pow_right (n := 2) (by omega) h
  rwa [show 2 ^ 32 = 4294967296 from rfl] at this

theorem zshort (k : Int) (h0 : 0 ≤ k) (h1 : k ≤ 2147483647) : (dig k.toNat).length ≤ 31 ∧ ∃ q1 q2 : Nat,
    (1 : Int) * 2 ^ shN IntKind.i64 (((dig k.toNat).length : Int) % 18446744073709551616) = q1 ∧ (1 : Int) * 2 ^ shN IntKind.i64 ((((dig k.toNat).length : Int) + 1) % 18446744073709551616) = q2 ∧ (q1 : Int) ≤ k + 1 ∧ k + 1 < q2 ∧ q2 ≤ 4294967296 := by
  obtain ⟨hp1, hp2⟩ := dig_pow k.toNat k.toNat (Nat.le_refl _)
  generalize (dig k.toNat).length = m at *
  have hd31 : m ≤ 31 := by
    apply Nat.le_of_not_lt
    intro hc
    have := Nat.pow_le_pow_right (n := 2) (by omega) (show 32 ≤ m from hc)
    rw [show 2 ^ 32 = 4294967296 from rfl] at this
    omega
  have s2 := one_shl (m + 1) (by omega)
  rw [Int.natCast_add, Int.natCast_one] at s2
  exact ⟨hd31, _, _, one_shl m (by omega), s2, by omega, by omega, pow_le32 (by omega)⟩

theorem law13_does (k n : Int) (l : List Int) (la : Option Addr) (lc : Nat) (hk : I64 k) (hn : I64 n) (w : World) (hl : RS w la l.length 1 (intsV l)) (hi : ∀ v ∈ l, I64 v) (hs : l.length ≤ 17592186044400) : Does Try.prog 13 #[.int .i64 k, .int .i64 n, .slice la l.length lc] w fun v w' => Heap w [] w' [] ∧ v = .bool true := by
  have hn' := hn
  obtain ⟨hn1, hn2⟩ := hn'
  refine Does_enter (args := [.int .i64 k, .int .i64 n, .slice la l.length lc]) 79 Try.func13 rfl rfl (of_decide_eq_true rfl) ?_
  simp only [Env.ofArgs]
  (repeat refine VC_seq ?_); refine VC_region [0, 1, 2] rfl fun K hK => ?_; simp -implicitDefEqProofs only [go_sem, ↓reduceIte, Nat.reduceEqDiff, Nat.mul_one, Nat.zero_add]
  ((repeat (first | refine ⟨by omega, ?_⟩ | refine ⟨I64.mk (by omega) (by omega), ?_⟩)); refine hK _ _ ?_; clear hK; try clear K)
  have hrun : (runS k).2 = 0 → 0 ≤ k ∧ k ≤ 2147483647 ∧ (runS k).1 = dig k.toNat := by
    rw [runS]
    split
    · simp
    · intro _; exact ⟨by omega, by omega, rfl⟩
  have hshort := fun h : 0 ≤ k ∧ k ≤ 2147483647 => zshort k h.1 h.2
  generalize hp : runS k = p at hrun
  (repeat refine VC_seq ?_); refine VC_region [0, 1, 2, 7, 8] rfl fun K hK => ?_; simp -implicitDefEqProofs only [go_sem, ↓reduceIte, Nat.reduceEqDiff, Nat.mul_one, Nat.zero_add]
  refine MemK_call Try.call21 ?_; simp -implicitDefEqProofs only [go_sem, ↓reduceIte, Nat.reduceEqDiff, Nat.mul_one, Nat.zero_add]; refine CallK.mk (run_z_does k hk w) ?_
  rw [hp]
  rintro v w2 ⟨a1, c1, hH1, rfl⟩
  (try simp -implicitDefEqProofs only [go_sem, ↓reduceIte, Nat.reduceEqDiff, Nat.mul_one, Nat.zero_add])
  (refine hK _ _ ?_; clear hK; try clear K)
  (repeat refine VC_seq ?_); refine VC_region [0, 1, 2, 7, 17] rfl fun K hK => ?_; simp -implicitDefEqProofs only [go_sem, ↓reduceIte, Nat.reduceEqDiff, Nat.mul_one, Nat.zero_add]
  ((repeat (first | refine ⟨by omega, ?_⟩ | refine ⟨I64.mk (by omega) (by omega), ?_⟩)); refine hK _ _ ?_; clear hK; try clear K)
  (repeat refine VC_seq ?_)
  refine VC_cut [1, 2] (fun e w' => Is e [(1, .int .i64 n), (2, .slice la l.length lc)] ∧ Is w' w2) ?_ ?_ -- CUT if
  · refine VC_cond rfl rfl (fun h => ?_) (fun h => VC_skip ?_) -- t17
    · simp only [decide_eq_true_eq] at h
      obtain ⟨r1, r2, r3⟩ := hrun h
      obtain ⟨d, e⟩ := p
      simp only at h r3 hH1
      subst h
      subst r3
      generalize hd : dig k.toNat = d at *
      obtain ⟨hd31, q1, q2, s1, s2, hq1, hq2, hq3⟩ := hshort ⟨r1, r2⟩
      (repeat refine VC_seq ?_); refine VC_region [1, 2, 43] rfl fun K hK => ?_; simp -implicitDefEqProofs only [go_sem, ↓reduceIte, Nat.reduceEqDiff, Nat.mul_one, Nat.zero_add]
      rw [s1, s2]
      suffices out : ∀ b : Bool, (b = true ↔ False) → K [(1, .int .i64 n), (2, .slice la l.length lc), (43, .bool b)] w2 by (repeat' (first | exact out _ _ (by first | omega | (simp; done) | (simp; omega)) | exact out _ (by first | omega | (simp; done) | (simp; omega)) | refine ⟨fun _ => ?_, fun _ => ?_⟩ | refine ⟨by omega, ?_⟩ | refine ⟨I64.mk (by omega) (by omega), ?_⟩ | refine ⟨⟨by omega, by omega⟩, ?_⟩))
      intro b hb
      (refine hK _ _ ?_; clear hK; try clear K)
      refine VC_cond rfl rfl (fun h => (hb.1 h).elim) (fun h => VC_skip ?_)
      refine VC_again ?_
      simp -implicitDefEqProofs only [go_sem, ↓reduceIte, Nat.reduceEqDiff, Nat.mul_one, Nat.zero_add]
      exact ⟨rfl, rfl⟩
    · refine VC_again ?_
      simp -implicitDefEqProofs only [go_sem, ↓reduceIte, Nat.reduceEqDiff, Nat.mul_one, Nat.zero_add]
      exact ⟨rfl, rfl⟩
  rintro e w' ⟨rfl, rfl⟩
  have hlen := zenc_length n l
  have hends := zenc_ends n l
  generalize hp2 : zenc n l = p2 at hlen hends
  (repeat refine VC_seq ?_); refine VC_region [1, 2, 9, 10] rfl fun K hK => ?_; simp -implicitDefEqProofs only [go_sem, ↓reduceIte, Nat.reduceEqDiff, Nat.mul_one, Nat.zero_add]
  refine MemK_call Try.call25 ?_; simp -implicitDefEqProofs only [go_sem, ↓reduceIte, Nat.reduceEqDiff, Nat.mul_one, Nat.zero_add]; refine CallK.mk (zenc_does n l la lc hn w' (hH1.rs' hl) (by omega) hi) ?_
  rw [hp2]
  rintro v w3 ⟨a2, c2, hH2, rfl⟩
  (try simp -implicitDefEqProofs only [go_sem, ↓reduceIte, Nat.reduceEqDiff, Nat.mul_one, Nat.zero_add])
  (refine hK _ _ ?_; clear hK; try clear K)
  have hH3 := hH1.call0 hH2
  rcases hends with ⟨e, rfl, he⟩ | ⟨t, rfl⟩
  · (repeat refine VC_seq ?_); refine VC_region [6] rfl fun K hK => ?_; simp -implicitDefEqProofs only [go_sem, ↓reduceIte, Nat.reduceEqDiff, Nat.mul_one, Nat.zero_add]
    (try simp only [true_implies, false_implies, implies_true, and_true, true_and, not_true_eq_false, not_false_eq_true, reduceCtorEq, decide_true, Int.natCast_zero])
    refine ⟨fun h => by simp at h; exact absurd h he, fun _ => ?_⟩
    refine MemK_call Try.call24 ?_; simp -implicitDefEqProofs only [go_sem, ↓reduceIte, Nat.reduceEqDiff, Nat.mul_one, Nat.zero_add]; refine CallK.mk (zawake_does w3) ?_
    rintro v w6 ⟨hH6, rfl⟩
    (try simp -implicitDefEqProofs only [go_sem, ↓reduceIte, Nat.reduceEqDiff, Nat.mul_one, Nat.zero_add])
    (refine hK _ _ ?_; clear hK; try clear K)
    exact VC_ret (VX_ret1 rfl rfl ⟨(hH3.call0 hH6).sub (by simp), rfl⟩)
  · simp only at hlen
    obtain ⟨q, rfl⟩ := rs_pos (row_rs (hH2.at 0 rfl)) (by simp)
    have hc := rs_int (row_rs (hH3.at 0 rfl)) (i := t.length) (by simp)
    have hlast : (t ++ [n + 1]).getD t.length 0 = n + 1 := by simp [List.getD_eq_getElem?_getD]
    rw [hlast] at hc
    have hn3 : n ≤ 256 := by
      refine Int.not_lt.1 fun hc => ?_
      rw [zenc, if_pos (by omega)] at hp2
      have := congrArg (fun p => p.2) hp2
      simp at this
    have hl1 : ((t ++ [n + 1]).length : Int) - 1 = t.length := by simp
    have hl2 : (t ++ [n + 1]).length = t.length + 1 := by simp
    (repeat refine VC_seq ?_); refine VC_region [6] rfl fun K hK => ?_; simp -implicitDefEqProofs only [go_sem, ↓reduceIte, Nat.reduceEqDiff, Nat.mul_one, Nat.zero_add]
    simp only [hl2] at *
    (try simp only [true_implies, false_implies, implies_true, and_true, true_and, not_true_eq_false, not_false_eq_true, reduceCtorEq, decide_true, Int.natCast_zero])
    refine ⟨I64.mk (by omega) (by omega), fun _ => ⟨fun _ => ⟨I64.mk (by omega) (by omega), ⟨by omega, by omega⟩, .int .i64 (n + 1), hc, I64.mk (by omega) (by omega), ?_⟩, fun h => absurd (by omega) h⟩, fun h => absurd (by omega) h⟩
    (try simp -implicitDefEqProofs only [go_sem, ↓reduceIte, Nat.reduceEqDiff, Nat.mul_one, Nat.zero_add])
    have e1 : decide (((t.length + 1 : Nat) : Int) ≤ (l.length : Int) + 1) = true := decide_eq_true (by omega)
    have e2 : decide ((0 : Int) < ((t.length + 1 : Nat) : Int)) = true := decide_eq_true (by omega)
    rw [e1, e2]
    (try simp only [true_implies, false_implies, implies_true, and_true, true_and, not_true_eq_false, not_false_eq_true, reduceCtorEq, decide_true, Int.natCast_zero])
    refine MemK_call Try.call24 ?_; simp -implicitDefEqProofs only [go_sem, ↓reduceIte, Nat.reduceEqDiff, Nat.mul_one, Nat.zero_add]; refine CallK.mk (zawake_does w3) ?_
    rintro v w6 ⟨hH6, rfl⟩
    (try simp -implicitDefEqProofs only [go_sem, ↓reduceIte, Nat.reduceEqDiff, Nat.mul_one, Nat.zero_add])
    (refine hK _ _ ?_; clear hK; try clear K)
    exact VC_ret (VX_ret1 rfl rfl ⟨(hH3.call0 hH6).sub (by simp), rfl⟩)
end Go.Proofs.Ytgepfjlecmmokaa
