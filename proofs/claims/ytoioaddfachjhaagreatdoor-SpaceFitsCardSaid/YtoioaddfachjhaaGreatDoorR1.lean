/- What the proof leans on, part 1: no conditions. -/
import Derived.Test.YtoioaddfachjhaaGreatDoorQ1
namespace Go.Proofs.YtoioaddfachjhaaGreatDoor
open Go Go.Eng Go.Ev
set_option maxRecDepth 100000
set_option linter.unusedSimpArgs false
set_option linter.unusedVariables false
def sumE (l : List Ex) : Int := l.foldl (fun m x => m + x.2) 0
theorem sumE_go : ∀ (l : List Ex) (m : Int), l.foldl (fun m x => m + x.2) m = m + sumE l := by
  intro l
  induction l with
  | nil => intro m; simp [sumE]
  | cons x l ih => intro m; simp only [sumE, List.foldl_cons]; rw [ih, ih (0 + x.2)]; omega
theorem sumE_append (l m : List Ex) : sumE (l ++ m) = sumE l + sumE m := by
  rw [sumE, List.foldl_append, sumE_go]; rfl
theorem sumE_cons (x : Ex) (l : List Ex) : sumE (x :: l) = x.2 + sumE l := by
  rw [sumE, List.foldl_cons, sumE_go]; omega
theorem sumE_one (x : Ex) : sumE [x] = x.2 := by simp [sumE]
def cnt (p : Nat → Bool) (a : Nat) : Nat → Int
  | 0 => 0
  | d + 1 => cnt p a d + if p (a + d) then 1 else 0
theorem cnt_congr {p q : Nat → Bool} {a : Nat} : ∀ d, (∀ k, a ≤ k → k < a + d → p k = q k) → cnt p a d = cnt q a d := by
  intro d
  induction d with
  | zero => intro _; rfl
  | succ d ih => intro h; simp only [cnt]; rw [ih fun k h1 h2 => h k h1 (by omega), h (a + d) (by omega) (by omega)]
theorem cnt_not (p : Nat → Bool) (a : Nat) : ∀ d, cnt p a d + cnt (fun k => !p k) a d = d := by
  intro d
  induction d with
  | zero => rfl
  | succ d ih =>
    simp only [cnt]
    by_cases hp : p (a + d) = true <;> simp [hp] <;> omega
theorem cnt_or {p q : Nat → Bool} {a : Nat} : ∀ d, (∀ k, p k = true → q k = true → False) → cnt (fun k => p k || q k) a d = cnt p a d + cnt q a d := by
  intro d h
  induction d with
  | zero => rfl
  | succ d ih =>
    simp only [cnt]
    rw [ih]
    have := h (a + d)
    by_cases hp : p (a + d) = true <;> by_cases hq : q (a + d) = true
    · exact (this hp hq).elim
    · simp [hp, hq]; omega
    · simp [hp, hq]; omega
    · simp [hp, hq]
theorem cnt_in (x : Ex) {a : Nat} (h1 : (a : Int) ≤ x.1) (h2 : 0 ≤ x.2) : ∀ d, cnt (fun k : Nat => inE (k : Int) x) a d = max 0 (min (x.1 + x.2) (a + d) - x.1) := by
  intro d
  induction d with
  | zero => simp only [cnt]; omega
  | succ d ih =>
    simp only [cnt]
    rw [ih]
    simp only [inE, decide_eq_true_eq]
    split <;> omega
theorem cnt_us : ∀ (l : List Ex) {n : Nat}, May n l → cnt (us l) 30 (n - 30) = sumE l := by
  intro l
  induction l with
  | nil =>
    intro n _
    have : ∀ d, cnt (us []) 30 d = 0 := by
      intro d
      induction d with
      | zero => rfl
      | succ d ih => simp only [cnt]; rw [ih]; simp [us]
    rw [this]; rfl
  | cons x l ih =>
    intro n hm
    obtain ⟨p1, p2⟩ := List.pairwise_cons.1 hm.2
    obtain ⟨q1, q2, q3⟩ := hm.1 x List.mem_cons_self
    have e : us (x :: l) = fun k : Nat => (inE (k : Int) x || us l k) := by funext k; simp [us]
    rw [e, cnt_or, cnt_in x (by omega) (by omega), ih ⟨fun y hy => hm.1 y (List.mem_cons_of_mem _ hy), p2⟩, sumE_cons]
    · omega
    · intro k h1 h2
      obtain ⟨y, hy, h3, h4⟩ := us_iff.1 h2
      have h5 := p1 y hy
      simp only [inE, decide_eq_true_eq] at h1
      unfold dj at h5
      omega
theorem runs_good (u : Nat → Bool) (a : Nat) : ∀ d,
    (∀ x ∈ runsGo u a d, (a : Int) ≤ x.1 ∧ 1 ≤ x.2 ∧ x.1 + x.2 ≤ a + d ∧ ∀ k : Nat, x.1 ≤ k → (k : Int) < x.1 + x.2 → u k = false) ∧
    (runsGo u a d).Pairwise (fun x y => x.1 + x.2 ≤ y.1) ∧ sumE (runsGo u a d) = cnt (fun k => !u k) a d ∧
    (∀ k m : Nat, a ≤ k → 1 ≤ m → k + m ≤ a + d → (∀ j, k ≤ j → j < k + m → u j = false) → ∃ x ∈ runsGo u a d, x.1 ≤ k ∧ (k : Int) + m ≤ x.1 + x.2) ∧
    (0 < d → u (a + d - 1) = false → ∃ (P : List Ex) (y : Ex), runsGo u a d = P ++ [y] ∧ y.1 + y.2 = (a : Int) + d) := by
  intro d
  induction d with
  | zero => exact ⟨by simp [runsGo], .nil, rfl, fun k m h1 h2 h3 => by omega, fun h => by omega⟩
  | succ d ih =>
    obtain ⟨i1, i2, i3, i4, i5⟩ := ih
    rw [show a + (d + 1) - 1 = a + d by omega]
    by_cases hu : u (a + d) = true
    · have e : runsGo u a (d + 1) = runsGo u a d := by rw [runsGo, if_pos hu]
      rw [e]
      refine ⟨fun x hx => ?_, i2, ?_, fun k m h1 h2 h3 h4 => ?_, fun _ h => by rw [hu] at h; cases h⟩
      · obtain ⟨j1, j2, j3, j4⟩ := i1 x hx
        exact ⟨j1, j2, by omega, j4⟩
      · rw [i3, cnt, hu]; simp
      · by_cases hk : k + m ≤ a + d
        · exact i4 k m h1 h2 hk h4
        · have := h4 (a + d) (by omega) (by omega)
          rw [hu] at this; cases this
    · have hu : u (a + d) = false := by simpa using hu
      by_cases hp : 0 < d ∧ u (a + d - 1) = false
      · obtain ⟨P, y, i5, i6⟩ := i5 hp.1 hp.2
        have e : runsGo u a (d + 1) = P ++ [(y.1, y.2 + 1)] := by
          rw [runsGo, hu]
          simp only [Bool.false_eq_true, if_false]
          rw [if_pos hp, i5, bump_snoc]
        rw [e]
        rw [i5] at i1 i2 i3 i4
        obtain ⟨y1, y2, y3, y4⟩ := i1 y (by simp)
        obtain ⟨w1, _, w2⟩ := List.pairwise_append.1 i2
        have w2 : ∀ x ∈ P, x.1 + x.2 ≤ y.1 := fun x hx => w2 x hx y (by simp)
        refine ⟨fun x hx => ?_, ?_, ?_, fun k m h1 h2 h3 h4 => ?_, fun _ _ => ⟨P, (y.1, y.2 + 1), rfl, by simp only; omega⟩⟩
        · rcases List.mem_append.1 hx with hx | hx
          · obtain ⟨j1, j2, j3, j4⟩ := i1 x (List.mem_append_left _ hx)
            exact ⟨j1, j2, by omega, j4⟩
          · simp at hx; subst hx
            refine ⟨y1, by simp only; omega, by simp only; omega, fun k h1 h2 => ?_⟩
            simp only at h1 h2
            by_cases hk : (k : Int) < y.1 + y.2
            · exact y4 k h1 hk
            · obtain rfl : k = a + d := by omega
              exact hu
        · refine List.pairwise_append.2 ⟨w1, List.pairwise_singleton _ _, fun x hx z hz => ?_⟩
          simp at hz; subst hz; exact w2 x hx
        · rw [sumE_append, sumE_one] at i3 ⊢
          rw [cnt, hu]
          simp only [Bool.not_false, if_true]
          omega
        · by_cases hk : k + m ≤ a + d
          · obtain ⟨x, hx, h5, h6⟩ := i4 k m h1 h2 hk h4
            rcases List.mem_append.1 hx with hx | hx
            · exact ⟨x, List.mem_append_left _ hx, h5, h6⟩
            · simp at hx; subst hx
              exact ⟨(x.1, x.2 + 1), by simp, h5, by simp only; omega⟩
          · by_cases hm : m = 1
            · exact ⟨(y.1, y.2 + 1), by simp, by simp only; omega, by simp only; omega⟩
            · obtain ⟨x, hx, h5, h6⟩ := i4 k (m - 1) h1 (by omega) (by omega) fun j h7 h8 => h4 j h7 (by omega)
              rcases List.mem_append.1 hx with hx | hx
              · have := w2 x hx; omega
              · simp at hx; subst hx
                exact ⟨(x.1, x.2 + 1), by simp, h5, by simp only; omega⟩
      · have e : runsGo u a (d + 1) = runsGo u a d ++ [((a : Int) + d, 1)] := by
          rw [runsGo, hu]
          simp only [Bool.false_eq_true, if_false]
          rw [if_neg hp]
        rw [e]
        refine ⟨fun x hx => ?_, ?_, ?_, fun k m h1 h2 h3 h4 => ?_, fun _ _ => ⟨runsGo u a d, ((a : Int) + d, 1), rfl, by simp only; omega⟩⟩
        · rcases List.mem_append.1 hx with hx | hx
          · obtain ⟨j1, j2, j3, j4⟩ := i1 x hx
            exact ⟨j1, j2, by omega, j4⟩
          · simp at hx; subst hx
            refine ⟨by simp only; omega, by simp only; omega, by simp only; omega, fun k h1 h2 => ?_⟩
            simp only at h1 h2
            obtain rfl : k = a + d := by omega
            exact hu
        · refine List.pairwise_append.2 ⟨i2, List.pairwise_singleton _ _, fun x hx z hz => ?_⟩
          simp at hz; subst hz
          obtain ⟨j1, j2, j3, j4⟩ := i1 x hx
          exact j3
        · rw [sumE_append, sumE_one, i3, cnt, hu]; rfl
        · by_cases hk : k + m ≤ a + d
          · obtain ⟨x, hx, h5⟩ := i4 k m h1 h2 hk h4
            exact ⟨x, List.mem_append_left _ hx, h5⟩
          · by_cases hm : m = 1
            · exact ⟨((a : Int) + d, 1), by simp, by simp only; omega, by simp only; omega⟩
            · have h5 := h4 (a + d - 1) (by omega) (by omega)
              exact absurd ⟨by omega, h5⟩ hp
theorem may_room {n : Nat} {l : List Ex} (hm : May n l) : May n (l ++ runsGo (us l) 30 (n - 30)) := by
  obtain ⟨g1, g2, _, _, _⟩ := runs_good (us l) 30 (n - 30)
  refine ⟨fun x hx => ?_, List.pairwise_append.2 ⟨hm.2, ?_, fun x hx y hy => ?_⟩⟩
  · rcases List.mem_append.1 hx with hx | hx
    · exact hm.1 x hx
    · obtain ⟨j1, j2, j3, j4⟩ := g1 x hx
      exact ⟨by omega, j2, by omega⟩
  · exact g2.imp fun h => by unfold dj; omega
  · obtain ⟨j1, j2, j3, j4⟩ := g1 y hy
    obtain ⟨q1, q2, q3⟩ := hm.1 x hx
    refine dj_of_none j2 q2 (by omega) (by omega) fun k h1 h2 h3 => ?_
    have h4 := j4 k h1 h2
    have h5 := us_iff.2 ⟨x, hx, h3⟩
    rw [h5] at h4; cases h4
theorem sum_room {n : Nat} {l : List Ex} (hm : May n l) : sumE l + sumE (runsGo (us l) 30 (n - 30)) = max 0 ((n : Int) - 30) := by
  obtain ⟨_, _, g3, _, _⟩ := runs_good (us l) 30 (n - 30)
  rw [g3, ← cnt_us l hm, cnt_not]
  omega
theorem end_room {n : Nat} {l : List Ex} (hm : May n l) : endS l ≤ max (n : Int) 30 := by
  obtain ⟨_, _, e3⟩ := foldl_ge l 30
  have e3 : endS l = 30 ∨ ∃ x ∈ l, x.1 + x.2 = endS l := e3
  rcases e3 with h | ⟨x, hx, h⟩
  · omega
  · have := (hm.1 x hx).2.2; omega
theorem firS_spec {need : Int} : ∀ {F : List Ex}, F.Pairwise (fun x y => x.1 + x.2 ≤ y.1) → (∀ x ∈ F, 1 ≤ x.2) →
    ((firS need F).2 = 0 ∧ (∃ x ∈ F, (firS need F).1 = x.1 ∧ need ≤ x.2) ∧ ∀ x ∈ F, need ≤ x.2 → (firS need F).1 ≤ x.1) ∨ ((firS need F).2 = 220 ∧ ∀ x ∈ F, ¬ need ≤ x.2) := by
  intro F
  induction F with
  | nil => intro _ _; exact .inr ⟨rfl, by simp⟩
  | cons x F ih =>
    intro h1 h2
    obtain ⟨p1, p2⟩ := List.pairwise_cons.1 h1
    by_cases hx : need ≤ x.2
    · refine .inl ?_
      rw [firS, if_pos hx]
      refine ⟨rfl, ⟨x, List.mem_cons_self, rfl, hx⟩, fun y hy _ => ?_⟩
      have := h2 x List.mem_cons_self
      rcases List.mem_cons.1 hy with rfl | hy
      · exact Int.le_refl _
      · have := p1 y hy; simp only; omega
    · rw [firS, if_neg hx]
      rcases ih p2 (fun y hy => h2 y (List.mem_cons_of_mem _ hy)) with ⟨h3, ⟨y, hy, h4⟩, h5⟩ | ⟨h3, h4⟩
      · refine .inl ⟨h3, ⟨y, List.mem_cons_of_mem _ hy, h4⟩, fun z hz hn => ?_⟩
        rcases List.mem_cons.1 hz with rfl | hz
        · exact absurd hn hx
        · exact h5 z hz hn
      · refine .inr ⟨h3, fun z hz => ?_⟩
        rcases List.mem_cons.1 hz with rfl | hz
        · exact hx
        · exact h4 z hz
theorem fit_may {n : Nat} {l : List Ex} (hm : May n l) {need : Int} (hn : 1 ≤ need) {x : Ex} (hx : x ∈ runsGo (us l) 30 (n - 30)) (hf : need ≤ x.2) : May n (l ++ [(x.1, need)]) := by
  obtain ⟨g1, _, _, _, _⟩ := runs_good (us l) 30 (n - 30)
  obtain ⟨j1, j2, j3, j4⟩ := g1 x hx
  refine may_snoc.2 ⟨hm, ⟨by simp only; omega, hn, by simp only; omega⟩, fun y hy => ?_⟩
  obtain ⟨q1, q2, q3⟩ := hm.1 y hy
  refine dj_of_none hn q2 (by simp only; omega) (by omega) fun k h1 h2 h3 => ?_
  have h4 := j4 k h1 (by simp only at h2; omega)
  have h5 := us_iff.2 ⟨y, hy, h3⟩
  rw [h5] at h4; cases h4
theorem may_fit {n : Nat} {l : List Ex} {need : Int} {k : Nat} (h : May n (l ++ [((k : Int), need)])) : 1 ≤ need ∧ ∃ x ∈ runsGo (us l) 30 (n - 30), x.1 ≤ k ∧ need ≤ x.2 := by
  obtain ⟨hm, ⟨h1, h2, h3⟩, h4⟩ := may_snoc.1 h
  simp only at h1 h2 h3
  obtain ⟨_, _, _, g4, _⟩ := runs_good (us l) 30 (n - 30)
  obtain ⟨x, hx, h5, h6⟩ := g4 k need.toNat (by omega) (by omega) (by omega) fun j h5 h6 => by
    cases hq : us l j with
    | false => rfl
    | true =>
      obtain ⟨y, hy, h7, h8⟩ := us_iff.1 hq
      have := h4 y hy
      unfold dj at this
      simp only at this
      omega
  exact ⟨h2, x, hx, h5, by omega⟩
end Go.Proofs.YtoioaddfachjhaaGreatDoor
namespace Go.Proofs.YtoioaddfachjhaaGreatDoor
open Go Go.Eng Go.Ev
set_option maxRecDepth 100000
set_option linter.unusedSimpArgs false
set_option linter.unusedVariables false
theorem first_means {n : Nat} {l : List Ex} (hn : n ≤ 4096) (hm : May n l) {need at_ f : Int} (h : (need < 1 ∧ at_ = 0 ∧ f = 2) ∨ (1 ≤ need ∧ at_ = (firS need (runsGo (us l) 30 (n - 30))).1 ∧ f = (firS need (runsGo (us l) 30 (n - 30))).2)) :
    (f = 0 → May n (l ++ [(at_, need)])) ∧ (∀ k : Nat, (f ≠ 0 ∨ (k : Int) < at_) → ¬ May n (l ++ [((k : Int), need)])) ∧ (f = 0 ∨ f = 2 ∨ f = 220) ∧ (f = 0 → 0 ≤ at_ ∧ at_ ≤ 4096) := by
  obtain ⟨g1, g2, _, _, _⟩ := runs_good (us l) 30 (n - 30)
  rcases h with ⟨h1, rfl, rfl⟩ | ⟨h1, rfl, rfl⟩
  · refine ⟨fun h => by omega, fun k _ h => ?_, .inr (.inl rfl), fun h => by omega⟩
    have := (may_fit h).1
    omega
  · rcases firS_spec g2 (fun x hx => (g1 x hx).2.1) with ⟨h3, ⟨x, hx, h4, h5⟩, h6⟩ | ⟨h3, h4⟩
    · rw [h3]
      refine ⟨fun _ => ?_, fun k hk h => ?_, .inl rfl, fun _ => ?_⟩
      · rw [h4]; exact fit_may hm h1 hx h5
      · obtain ⟨_, y, hy, h7, h8⟩ := may_fit h
        have := h6 y hy h8
        omega
      · have := g1 x hx
        omega
    · rw [h3]
      refine ⟨fun h => by omega, fun k hk h => ?_, .inr (.inr rfl), fun h => by omega⟩
      obtain ⟨_, y, hy, h7, h8⟩ := may_fit h
      exact h4 y hy h8
theorem spaceFits_law (l : List Ex) (a : Option Addr) (c : Nat) (cap need : Int) (w : World) (hl : RS w a l.length 2 (extsV l)) (hlen : l.length ≤ 8796093022208) (hok : ∀ x ∈ l, XOk x) (hcap : I64 cap) (hneed : I64 need) :
    Does Tryz.prog 6 #[.slice a l.length c, .int .i64 cap, .int .i64 need] w fun v w' => Heap w [] w' [] ∧ v = .bool true := by
  refine En [.slice a l.length c, .int .i64 cap, .int .i64 need] 129 Tryz.func6 ?_
  refine VS [0, 1, 2] ?_
  refine VQ [0, 1, 2, 23] fun K hK => ?_
  suffices out : ∀ (b : Bool) (w2 : World), Heap w [] w2 [] → (b = true ∨ (b = false ∧ l.length ≤ 100 ∧ 1 ≤ cap ∧ cap ≤ 4096 ∧ May cap l)) → K [(0, .slice a l.length c), (1, .int .i64 cap), (2, .int .i64 need), (23, .bool b)] w2 by
    refine ⟨fun h1 => ?_, fun h1 => ?_⟩
    · refine MemK_call Tryz.call12 ?_; refine Qs ?_; refine CallK.mk (check_does l a c cap w hl hlen hok hcap) ?_
      rintro v w2 ⟨hH, n, rfl, hck⟩
      (try refine Qs ?_)
      refine out _ _ hH ?_
      simp only [decide_eq_true_eq, decide_eq_false_iff_not]
      rcases hck with ⟨⟨h2, h3, h4⟩, h5⟩ | ⟨_, h2⟩
      · exact .inr ⟨by omega, by omega, h2, h3, h4⟩
      · exact .inl (by omega)
    · exact out _ _ (Heap.start w) (.inl rfl)
  intro b w2 hH hb
  apply hK; clear hK
  refine Vi (fun h => ?_) (fun h => VC_skip ?_)
  · refine VQ [6] fun K hK => ?_
    refine MemK_call Tryz.call8 ?_; refine Qs ?_; refine CallK.mk (awake22_does w2) ?_
    rintro v w3 ⟨hH2, rfl⟩
    (try refine Qs ?_)
    apply hK; clear hK
    exact VC_ret (VX_ret1 rfl rfl ⟨hH.call0 hH2, rfl⟩)
  subst h
  rcases hb with hb | ⟨_, hln, hc1, hc2, hm⟩
  · cases hb
  clear hlen
  obtain ⟨n, rfl⟩ : ∃ n : Nat, cap = n := ⟨cap.toNat, by omega⟩
  refine VQ [0, 1, 2, 7, 8] fun K hK => ?_
  refine MemK_call Tryz.call9 ?_; refine Qs ?_; refine CallK.mk (free_does' l a c n w2 (hH.rs' hl) (by omega) hok hcap) ?_
  rintro v w3 ⟨F, n1, a1, c1, rfl, hH3, hF0⟩
  have hH3 := hH.call0 hH3
  clear hH
  have hFl := hF0.len
  obtain ⟨hF, rfl⟩ : F = runsGo (us l) 30 (n - 30) ∧ n1 = 0 := by
    rcases hF0 with ⟨h, _⟩ | ⟨_, h1, h2⟩
    · exact absurd ⟨hc1, hc2, hm⟩ h
    · rw [Int.toNat_natCast] at h1; exact ⟨h1, h2⟩
  obtain ⟨g1, g2, _, _, _⟩ := runs_good (us l) 30 (n - 30)
  rw [← hF] at g1 g2
  have hFok : ∀ x ∈ F, XOk x := fun x hx => by
    obtain ⟨j1, j2, j3, _⟩ := g1 x hx
    unfold XOk I64; omega
  (try refine Qs ?_)
  apply hK; clear hK
  refine VQ [0, 1, 2, 7, 42] fun K hK => ?_
  refine ⟨fun _ => ?_, fun h => absurd trivial h⟩
  refine MemK_lit0 hH3 2 Tryz.underlying22 sz35 (z := .agg #[.int .i64 0, .int .i64 0]) (by kernel_rfl) rfl fun g w4 hH4 => ?_
  (try refine Qs ?_)
  refine MemK_append ?_
  refine Qs ?_
  refine AppK_row (zs := #[.int .i64 0, .int .i64 0]) (bytes := 16) hH4 0 rfl Tryz.underlying22 (by kernel_rfl) rfl (m := l.length) (news := extsV l) ⟨rfl, hH4.rs' hl, 35, Tryz.underlying22⟩ (extsV_one l) (fun h => by omega) fun ao co w5 hc' hH5 => ?_
  simp only [List.set_cons_zero, List.nil_append, Nat.zero_add] at hH5
  rw [Nat.zero_add]
  clear hH4
  (try refine Qs ?_)
  refine MemK_append ?_
  refine Qs ?_
  refine AppK_row (zs := #[.int .i64 0, .int .i64 0]) (bytes := 16) hH5 0 rfl Tryz.underlying22 (by kernel_rfl) rfl (m := F.length) (news := extsV F) ⟨rfl, row_rs (hH5.at 1 rfl), 35, Tryz.underlying22⟩ (extsV_one F) (fun h => by omega) fun ao2 co2 w6 hc'2 hH6 => ?_
  simp only [List.set_cons_zero] at hH6
  clear hH5
  (try refine Qs ?_)
  have hU : RS w6 ao2 (l ++ F).length 2 (extsV (l ++ F)) := by
    rw [List.length_append, extsV_append]; exact row_rs (hH6.at 0 rfl)
  rw [← List.length_append]
  have hmU : May n (l ++ F) := hF ▸ may_room hm
  refine MemK_call Tryz.call12 ?_; refine Qs ?_; refine CallK.mk (check_does (l ++ F) ao2 co2 n w6 hU (by rw [List.length_append]; omega) (fun x hx => (List.mem_append.1 hx).elim (hok x) (hFok x)) hcap) ?_
  rintro v w7 ⟨hH7, n1, rfl, hck⟩
  have hH7 := hH6.call0 hH7
  clear hU
  obtain rfl : n1 = 0 := by
    rcases hck with ⟨_, h⟩ | ⟨h, _⟩
    · exact h
    · exact absurd ⟨hc1, hc2, hmU⟩ h
  clear hck
  (try refine Qs ?_)
  apply hK; clear hK
  refine VC_cond rfl rfl (fun h => by simp at h) (fun h => VC_skip ?_)
  clear h
  have hH8 : Heap w [] w7 [Res.row 35 2 a1 F.length c1 (extsV F)] := hH7.sub (by simp)
  clear hH6 hH7
  have hsl : ∀ i, i ≤ l.length → 0 ≤ sumE (l.take i) ∧ sumE (l.take i) ≤ 4096 * i := by
    intro i
    induction i with
    | zero => intro _; simp [sumE]
    | succ i ih =>
      intro hi
      obtain ⟨x, hx⟩ : ∃ x, l[i]? = some x := ⟨_, List.getElem?_eq_getElem (by omega)⟩
      rw [List.take_add_one, hx, Option.toList_some, sumE_append, sumE_one]
      have := ih (by omega)
      obtain ⟨j1, j2, j3⟩ := hm.1 x (List.mem_of_getElem? hx)
      omega
  have hsf : ∀ i, i ≤ F.length → 0 ≤ sumE (F.take i) ∧ sumE (F.take i) ≤ 4096 * i := by
    intro i
    induction i with
    | zero => intro _; simp [sumE]
    | succ i ih =>
      intro hi
      obtain ⟨x, hx⟩ : ∃ x, F[i]? = some x := ⟨_, List.getElem?_eq_getElem (by omega)⟩
      rw [List.take_add_one, hx, Option.toList_some, sumE_append, sumE_one]
      have := ih (by omega)
      obtain ⟨j1, j2, j3, j4⟩ := g1 x (List.mem_of_getElem? hx)
      omega
  refine VS [0, 1, 2, 7, 9] ?_
  refine VS [0, 1, 2, 7, 9, 10] ?_
  refine VB ?_
  refine VC_loopS [0, 1, 2, 7, 9, 10] (fun m e w' => ∃ (i : Nat), Is e [(0, .slice a l.length c), (1, .int .i64 n), (2, .int .i64 need), (7, .slice a1 F.length c1), (9, .int .i64 (sumE (l.take i))), (10, .int .i64 i)] ∧ Heap w [] w' [Res.row 35 2 a1 F.length c1 (extsV F)] ∧ i ≤ l.length ∧ m = l.length - i) l.length ?_ ?_
  · refine Qs ?_
    exact ⟨0, rfl, hH8, by omega, rfl⟩
  clear hH8
  rintro m e w8 ⟨i, rfl, hH, hi, rfl⟩
  refine VS [0, 1, 2, 7, 9, 10, 46] ?_
  refine VD (fun h => ?_) (fun h => ?_)
  ·
    refine VC_skip ?_
    refine VB ?_
    have hi' : i < l.length := by omega
    obtain ⟨x, hx⟩ : ∃ x, l[i]? = some x := ⟨_, List.getElem?_eq_getElem hi'⟩
    obtain ⟨p, rfl⟩ := rs_pos hl (by omega)
    have hrd := rs_ext (hH.rs' hl) hx
    have c2 : w8.cell? ((p.add (i * 2)).add 1) = some (.int .i64 x.2) := hrd 1 _ rfl
    have htk : sumE (l.take (i + 1)) = sumE (l.take i) + x.2 := by rw [List.take_add_one, hx, Option.toList_some, sumE_append, sumE_one]
    have hs1 := hsl i (by omega)
    have hs2 := hsl (i + 1) (by omega)
    rw [htk] at hs2
    refine VQ [0, 1, 2, 7, 9, 10] fun K hK => ?_
    refine ⟨⟨by omega, by omega⟩, _, c2, ?_⟩
    (try refine Qs ?_)
    refine ⟨I64.mk (by omega) (by omega), ?_⟩
    apply hK; clear hK
    refine VC_blk ?_
    refine VS [0, 1, 2, 7, 9, 10] ?_
    refine VC_again ?_
    refine Qs ?_
    exact ⟨l.length - (i + 1), by omega, i + 1, by rw [htk]; rfl, hH, by omega, rfl⟩
  obtain rfl : i = l.length := by omega
  rw [List.take_length]
  refine VC_exit rfl ?_
  clear h
  refine VS [0, 1, 2, 7, 9, 11] ?_
  refine VB ?_
  have hsl2 := hsl l.length (Nat.le_refl _)
  rw [List.take_length] at hsl2
  refine VC_loopS [0, 1, 2, 7, 9, 11] (fun m e w' => ∃ (i : Nat), Is e [(0, .slice a l.length c), (1, .int .i64 n), (2, .int .i64 need), (7, .slice a1 F.length c1), (9, .int .i64 (sumE l + sumE (F.take i))), (11, .int .i64 i)] ∧ Heap w [] w' [Res.row 35 2 a1 F.length c1 (extsV F)] ∧ i ≤ F.length ∧ m = F.length - i) F.length ?_ ?_
  · refine Qs ?_
    exact ⟨0, by simp [sumE, Is], hH, by omega, rfl⟩
  clear hH
  rintro m e w9 ⟨i, rfl, hH, hi, rfl⟩
  refine VS [0, 1, 2, 7, 9, 11, 59] ?_
  refine VD (fun h => ?_) (fun h => ?_)
  ·
    refine VC_skip ?_
    refine VB ?_
    have hi' : i < F.length := by omega
    obtain ⟨x, hx⟩ : ∃ x, F[i]? = some x := ⟨_, List.getElem?_eq_getElem hi'⟩
    obtain ⟨gf, rfl⟩ := row_pos (hH.at 0 rfl) (by omega)
    have hrd := rowsV_reads (k := 2) extV_len (row_rs (hH.at 0 rfl)) rfl hx
    rw [addr_add, Nat.zero_add] at hrd
    have c2 : w9.cell? ⟨gf, i * 2 + 1, none⟩ = some (.int .i64 x.2) := hrd 1 _ rfl
    have htk : sumE (F.take (i + 1)) = sumE (F.take i) + x.2 := by rw [List.take_add_one, hx, Option.toList_some, sumE_append, sumE_one]
    have hs1 := hsf i (by omega)
    have hs2 := hsf (i + 1) (by omega)
    rw [htk] at hs2
    refine VQ [0, 1, 2, 7, 9, 11] fun K hK => ?_
    refine ⟨⟨by omega, by omega⟩, _, c2, ?_⟩
    (try refine Qs ?_)
    refine ⟨I64.mk (by omega) (by omega), ?_⟩
    apply hK; clear hK
    refine VC_blk ?_
    refine VS [0, 1, 2, 7, 9, 11] ?_
    refine VC_again ?_
    refine Qs ?_
    exact ⟨F.length - (i + 1), by omega, i + 1, by rw [htk, ← Int.add_assoc]; rfl, hH, by omega, rfl⟩
  obtain rfl : i = F.length := by omega
  rw [List.take_length]
  refine VC_exit rfl ?_
  clear h
  have hsum : sumE l + sumE F = max 0 ((n : Int) - 30) := hF ▸ sum_room hm
  rw [hsum]
  have hend := end_room hm
  refine VQ [0, 1, 2, 80] fun K hK => ?_
  refine ⟨I64.mk (by omega) (by omega), fun _ => ?_, fun h => absurd trivial h⟩
  refine MemK_call Tryz.call14 ?_; refine Qs ?_; refine CallK.mk (end_does l a c w9 (hH.rs' hl) (by omega) hok) ?_
  rintro v w10 ⟨hH10, n3, rfl, hn3⟩
  have hH10 := hH.call0 hH10
  clear hH
  obtain rfl : n3 = endS l := by
    rcases hn3 with ⟨_, h⟩ | ⟨h, _⟩
    · exact h
    · exact absurd (hm.mono hc2) h
  clear hn3
  (try refine Qs ?_)
  apply hK; clear hK
  refine Vi (fun h => ?_) (fun h => VC_skip ?_)
  · simp only [decide_eq_true_eq] at h
    omega
  clear h
  refine VQ [0, 1, 2, 12, 13] fun K hK => ?_
  refine MemK_call Tryz.call16 ?_; refine Qs ?_; refine CallK.mk (first_does l a c n need w10 (hH10.rs' hl) (by omega) hok hcap hneed) ?_
  rintro v w11 ⟨hH11, hv⟩
  have hH11 := (hH10.call0 hH11).sub (List.nil_sublist _)
  clear hH10
  obtain ⟨at_, f, hv0, hv1⟩ : ∃ at_ f : Int, v = .tuple #[.int .i64 at_, .int .i64 f] ∧ ((need < 1 ∧ at_ = 0 ∧ f = 2) ∨ (1 ≤ need ∧ at_ = (firS need (runsGo (us l) 30 (n - 30))).1 ∧ f = (firS need (runsGo (us l) 30 (n - 30))).2)) := by
    rcases hv with ⟨h1, rfl⟩ | ⟨h1, h2, rfl⟩ | ⟨h1, h2, T, hp, hs, rfl⟩
    · exact ⟨_, _, rfl, .inl ⟨h1, rfl, rfl⟩⟩
    · exact absurd ⟨hc1, hc2, hm⟩ h2
    · refine ⟨_, _, rfl, .inr ⟨h1, ?_, ?_⟩⟩ <;> rw [← freeS_runs hp hs hm]
  clear hv
  subst hv0
  obtain ⟨f1, f2, f3, f4⟩ := first_means (by omega) hm hv1
  clear hv1
  (try refine Qs ?_)
  apply hK; clear hK
  refine VQ [0, 1, 2, 12, 13, 102] fun K hK => ?_
  suffices out : ∀ w', Heap w [] w' [] → K [(0, .slice a l.length c), (1, .int .i64 n), (2, .int .i64 need), (12, .int .i64 at_), (13, .int .i64 f), (102, .bool false)] w' by
    refine ⟨fun h1 => ?_, fun h1 => ?_⟩
    · subst h1
      have f4 := f4 rfl
      refine MemK_lit0 hH11 2 Tryz.underlying22 sz35 (z := .agg #[.int .i64 0, .int .i64 0]) (by kernel_rfl) rfl fun g w4 hH4 => ?_
      (try refine Qs ?_)
      refine MemK_append ?_
      refine Qs ?_
      refine AppK_row (zs := #[.int .i64 0, .int .i64 0]) (bytes := 16) hH4 0 rfl Tryz.underlying22 (by kernel_rfl) rfl (m := l.length) (news := extsV l) ⟨rfl, hH4.rs' hl, 35, Tryz.underlying22⟩ (extsV_one l) (fun h => by omega) fun ao co w5 hc' hH5 => ?_
      simp only [List.set_cons_zero, List.nil_append, Nat.zero_add] at hH5
      rw [Nat.zero_add]
      clear hH4
      (try refine Qs ?_)
      refine MemK_litK hH5 2 (extV (at_, need)) (xs := [.tmp 96]) Tryz.underlying22 sz35 rfl rfl rfl (by omega) (by omega) ?_
      refine Qs ?_
      refine ⟨rfl, by simp [Value.cells], fun g2 w6 hH6 => ?_⟩
      (try refine Qs ?_)
      refine MemK_append ?_
      refine Qs ?_
      refine AppK_row (zs := #[.int .i64 0, .int .i64 0]) (bytes := 16) hH6 1 rfl Tryz.underlying22 (by kernel_rfl) rfl ⟨rfl, row_rs (hH6.at 0 rfl), 35, Tryz.underlying22⟩ (extV_one _) (fun h => by omega) fun a3 c3 w7 hc'2 hH7 => ?_
      simp only [List.set_cons_succ, List.set_cons_zero] at hH7
      (try refine Qs ?_)
      have hU : RS w7 a3 (l ++ [(at_, need)]).length 2 (extsV (l ++ [(at_, need)])) := by
        rw [List.length_append, extsV_append, extsV_sing]; exact row_rs (hH7.at 1 rfl)
      rw [show l.length + 1 = (l ++ [(at_, need)]).length by simp]
      refine MemK_call Tryz.call12 ?_; refine Qs ?_; refine CallK.mk (check_does (l ++ [(at_, need)]) a3 c3 n w7 hU (by rw [List.length_append, List.length_singleton]; omega) (fun x hx => (List.mem_append.1 hx).elim (hok x) fun h => by simp at h; subst h; exact ⟨by unfold I64; simp only; omega, hneed⟩) hcap) ?_
      rintro v w8 ⟨hH8, n1, rfl, hck⟩
      have hH8 := (hH7.call0 hH8).sub (List.nil_sublist _)
      obtain rfl : n1 = 0 := by
        rcases hck with ⟨_, h⟩ | ⟨h, _⟩
        · exact h
        · exact absurd ⟨hc1, hc2, f1 rfl⟩ h
      (try refine Qs ?_)
      exact out _ hH8
    · exact out _ hH11
  clear hH11
  intro w12 hH12
  apply hK; clear hK
  refine VC_cond rfl rfl (fun h => by simp at h) (fun h => VC_skip ?_)
  clear h
  refine VS [0, 1, 2, 12, 13, 14] ?_
  refine VB ?_
  refine VC_loopS [0, 1, 2, 12, 13, 14] (fun m e w' => ∃ (k : Nat), Is e [(0, .slice a l.length c), (1, .int .i64 n), (2, .int .i64 need), (12, .int .i64 at_), (13, .int .i64 f), (14, .int .i64 k)] ∧ Heap w [] w' [] ∧ (30 ≤ k ∧ (k = 30 ∨ k ≤ n)) ∧ m = n - k) (n - 30) ?_ ?_
  · refine Qs ?_
    exact ⟨30, rfl, hH12, by omega, rfl⟩
  clear hH12
  rintro m e w13 ⟨k, rfl, hH, hk, rfl⟩
  refine VQ [0, 1, 2, 12, 13, 14, 114] fun K hK => ?_
  suffices out : ∀ b : Bool, (b = true ↔ ((k : Int) < n ∧ (f ≠ 0 ∨ (k : Int) < at_))) → K [(0, .slice a l.length c), (1, .int .i64 n), (2, .int .i64 need), (12, .int .i64 at_), (13, .int .i64 f), (14, .int .i64 k), (114, .bool b)] w13 by
    refine ⟨fun h1 => ⟨fun h2 => ?_, fun h2 => ?_⟩, fun h1 => ?_⟩
    · exact out _ (by simp only [decide_eq_true_eq]; omega)
    · exact out _ (by simp only [true_iff]; omega)
    · exact out _ (by simp only [Bool.false_eq_true, false_iff]; omega)
  intro b hb
  apply hK; clear hK
  refine Vi (fun h => ?_) (fun h => ?_)
  · obtain ⟨h1, h2⟩ := hb.1 h
    clear hb h
    have f2 := f2 k h2
    refine VC_skip ?_
    refine VB ?_
    refine VQ [0, 1, 2, 12, 13, 14, 127] fun K hK => ?_
    refine MemK_lit0 hH 2 Tryz.underlying22 sz35 (z := .agg #[.int .i64 0, .int .i64 0]) (by kernel_rfl) rfl fun g w4 hH4 => ?_
    (try refine Qs ?_)
    refine MemK_append ?_
    refine Qs ?_
    refine AppK_row (zs := #[.int .i64 0, .int .i64 0]) (bytes := 16) hH4 0 rfl Tryz.underlying22 (by kernel_rfl) rfl (m := l.length) (news := extsV l) ⟨rfl, hH4.rs' hl, 35, Tryz.underlying22⟩ (extsV_one l) (fun h => by omega) fun ao co w5 hc' hH5 => ?_
    simp only [List.set_cons_zero, List.nil_append, Nat.zero_add] at hH5
    rw [Nat.zero_add]
    clear hH4
    (try refine Qs ?_)
    refine MemK_litK hH5 2 (extV ((k : Int), need)) (xs := [.tmp 122]) Tryz.underlying22 sz35 rfl rfl rfl (by omega) (by omega) ?_
    refine Qs ?_
    refine ⟨rfl, by simp [Value.cells], fun g2 w6 hH6 => ?_⟩
    (try refine Qs ?_)
    refine MemK_append ?_
    refine Qs ?_
    refine AppK_row (zs := #[.int .i64 0, .int .i64 0]) (bytes := 16) hH6 1 rfl Tryz.underlying22 (by kernel_rfl) rfl ⟨rfl, row_rs (hH6.at 0 rfl), 35, Tryz.underlying22⟩ (extV_one _) (fun h => by omega) fun a3 c3 w7 hc'2 hH7 => ?_
    simp only [List.set_cons_succ, List.set_cons_zero] at hH7
    (try refine Qs ?_)
    have hU : RS w7 a3 (l ++ [((k : Int), need)]).length 2 (extsV (l ++ [((k : Int), need)])) := by
      rw [List.length_append, extsV_append, extsV_sing]; exact row_rs (hH7.at 1 rfl)
    rw [show l.length + 1 = (l ++ [((k : Int), need)]).length by simp]
    refine MemK_call Tryz.call12 ?_; refine Qs ?_; refine CallK.mk (check_does (l ++ [((k : Int), need)]) a3 c3 n w7 hU (by rw [List.length_append, List.length_singleton]; omega) (fun x hx => (List.mem_append.1 hx).elim (hok x) fun h => by simp at h; subst h; exact ⟨by unfold I64; simp only; omega, hneed⟩) hcap) ?_
    rintro v w8 ⟨hH8, n1, rfl, hck⟩
    have hH8 := (hH7.call0 hH8).sub (List.nil_sublist _)
    obtain rfl : n1 = 220 := by
      rcases hck with ⟨h, _⟩ | ⟨_, h⟩
      · exact absurd h.2.2 f2
      · exact h
    (try refine Qs ?_)
    apply hK; clear hK
    refine VC_cond rfl rfl (fun h => by simp at h) (fun h => VC_skip ?_)
    clear h
    refine VC_blk ?_
    refine VS [0, 1, 2, 12, 13, 14] ?_
    refine VC_again ?_
    refine Qs ?_
    exact ⟨n - (k + 1), by omega, k + 1, rfl, hH8, by omega, rfl⟩
  · refine VC_exit rfl ?_
    refine VQ [6] fun K hK => ?_
    refine MemK_call Tryz.call8 ?_; refine Qs ?_; refine CallK.mk (awake22_does w13) ?_
    rintro v w14 ⟨hH2, rfl⟩
    (try refine Qs ?_)
    apply hK; clear hK
    exact VC_ret (VX_ret1 rfl rfl ⟨hH.call0 hH2, rfl⟩)
end Go.Proofs.YtoioaddfachjhaaGreatDoor
