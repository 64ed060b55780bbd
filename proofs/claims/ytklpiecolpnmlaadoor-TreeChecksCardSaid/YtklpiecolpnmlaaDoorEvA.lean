/- The evaluator: regions whose order is open: whatever comes up. -/
import Derived.Test.YtklpiecolpnmlaaDoorEv9
import Derived.OrdersIn
namespace Go.Ev
open Go Go.Eng
set_option linter.unusedVariables false
set_option linter.constructorNameAsVariable false
set_option linter.unusedSimpArgs false
section
variable {C : Cfg} {w0 w w' : World} {s : Mp} {h h' : Hp} {n : Rg} {N : Nat} {e : Env'} {a av : Act} {L : Option Nat} {A : Array Oper} {I : List IO'}

theorem stills_s {P : Program} {ops : List Oper} : ∀ {l : List Nat}, stillsK P ops e h l = true → ∀ q ∈ l, stillK P ops e h q = true := by
  intro l
  induction l with
  | nil => intro _ q hq; simp at hq
  | cons a l ih =>
    intro hk q hq
    obtain ⟨h1, h2⟩ := brec_f (show (Bool.rec false (stillsK P ops e h l) (stillK P ops e h a) : Bool) = true from hk)
    rcases List.mem_cons.1 hq with rfl | hq
    · exact h1
    · exact ih h2 q hq
theorem chk_s {i q : Nat} {x y : IO'} (hx : I[i]? = some x) (hy : I[q]? = some y) (hl : looksM y.o.op = true) : ∀ {ears : List Nat}, q ∈ ears → ancI I q 20 x.af = true ∨ q ∈ chkOf I i ears := by
  intro ears
  induction ears with
  | nil => intro h; simp at h
  | cons p l ih =>
    intro h
    have e1 : chkOf I i (p :: l) = (Bool.rec (chkOf I i l) (p :: chkOf I i l) (Option.rec false (fun y => looksM y.o.op && not (Option.rec false (fun x => ancI I p 20 x.af) (getL I i))) (getL I p)) : List Nat) := rfl
    rw [e1]
    rcases List.mem_cons.1 h with rfl | h
    · simp only [getL_eq, hy, hx]
      cases ha : ancI I q 20 x.af with
      | true => exact .inl rfl
      | false =>
        right
        show q ∈ (Bool.rec (chkOf I i l) (q :: chkOf I i l) (looksM y.o.op && !false) : List Nat)
        rw [hl]
        exact List.mem_cons_self
    · rcases ih h with h1 | h1
      · exact .inl h1
      · right
        cases (Option.rec false (fun y => looksM y.o.op && not (Option.rec false (fun x => ancI I p 20 x.af) (getL I i))) (getL I p) : Bool) with
        | true => exact List.mem_cons_of_mem _ h1
        | false => exact h1

theorem early_now {o : Oper} {v : Value} (hs : ∀ cs b, o.op ≠ .select cs b) (hv : av.tmps.size = N) (hN : ∀ t, o.dst = some t → t < N) (hself : ∀ d, o.dst = some d → d ∉ o.looksAt A) (hw : Region.wanted o (yielded A av.tmps) = true) (hr : (execOp av.eval o).run C.P w = .ok (.value v) w)
    (ha : looksM o.op = false → ∀ w', (execOp av.eval o).run C.P w' = .ok (.value v) w') : Now C.P A o (av.put o.dst v) w := by
  obtain ⟨e1, e2⟩ := put_eval_out (A := A) (a := av) hs o.dst v hv hN hself
  refine .inl ⟨by rw [e2]; exact hw, v, by rw [e1]; exact hr, fun t ht => ?_, fun hl w' => by rw [e1]; exact ha hl w'⟩
  rw [put_getD av hv _ _ hN, if_pos ht]
theorem early_not {o : Oper} (hs : ∀ cs b, o.op ≠ .select cs b) (hv : av.tmps.size = N) (hN : ∀ t, o.dst = some t → t < N) (hself : ∀ d, o.dst = some d → d ∉ o.looksAt A) (hw : Region.wanted o (yielded A av.tmps) = false) : Now C.P A o (av.put o.dst undef) w := by
  obtain ⟨e1, e2⟩ := put_eval_out (A := A) (a := av) hs o.dst undef hv hN hself
  refine .inr ⟨by rw [e2]; exact hw, fun t ht => ?_⟩
  rw [put_getD av hv _ _ hN, if_pos ht]

/-- The numbers of the i-th operation. -/
def rg (n0 : Rg) (i : Nat) : Rg := (n0.1 + i * 4096, n0.1 + i * 4096 + 4096)
def Fresh (A : Array Oper) (fk : Bool) (n0 : Rg) (m : Nat) (s : Mp) : Prop := fk = true → ∀ i, i < A.size → bit m i = false → ∀ j, (rg n0 i).1 ≤ j → j < (rg n0 i).2 → s j = none

/-- What is behind a step. -/
noncomputable def contP (C : Cfg) (rec : CT) (N : Nat) (A : Array Oper) (fk : Bool) (n0 : Rg) (k : KX) (f m : Nat) (ears : List Nat) (i : Nat) (e : Env') (h : Hp) (n : Rg) : Bool :=
  Bool.rec false (forceN (add1 m i) fun m => planK C rec N A.toList (infoOf A A.toList) fk n0 f m ears e h n k) (stillsK C.P A.toList e h (chkOf (infoOf A A.toList) i ears))

/-- Where all that may be taken early has been taken: all is done, or one of these comes up. -/
def Head (C : Cfg) (rec : CT) (N : Nat) (A : Array Oper) (fk : Bool) (n0 : Rg) (k : KX) (m : Nat) (ears : List Nat) (e : Env') (h : Hp) (n : Rg) : Prop :=
  ((∀ j, j < A.size → bit m j = true) ∧ flushK e (fun e => k .norm e h n) = true) ∨
  ((∃ j, j < A.size ∧ bit m j = false) ∧ ∃ f, ∀ i o, A[i]? = some o → bit m i = false → (∀ j, DA o j → bit m j = true) →
    (fk = false → stepK C rec N A.toList o e h n (contP C rec N A fk n0 k f m ears i) = true) ∧
    (fk = true → stepK C rec N A.toList o e h (rg n0 i) (fun e h _ => contP C rec N A fk n0 k f m ears i e h n) = true))

theorem allI_f {f : Nat → IO' → Bool} : ∀ (l : List IO') (k : Nat), allI l k f = false → ∃ i x, l[i]? = some x ∧ f (k + i) x = false := by
  intro l
  induction l with
  | nil => intro k h; cases h
  | cons y l ih =>
    intro k h
    have h : (Bool.rec false (allI l (Nat.succ k) f) (f k y) : Bool) = false := h
    cases hf : f k y with
    | false => exact ⟨0, y, rfl, hf⟩
    | true =>
      rw [hf] at h
      obtain ⟨i, x, h1, h2⟩ := ih _ h
      exact ⟨i + 1, x, by simpa using h1, by rw [show k + (i + 1) = Nat.succ k + i by omega]; exact h2⟩

theorem adv {rec : CT} {fk : Bool} {n0 : Rg} {k : KX} {Lp : Array Bool} (hsel : Region.noSelect A = true) (H : SH C.P w0 s h n w) : ∀ (f m : Nat) (ears : List Nat) (e : Env') (pend : List Nat) (av : Act),
    planK C rec N A.toList (infoOf A A.toList) fk n0 f m ears e h n k = true → FE N s e av → Inv C.P N A pend Lp m ears a av w → Fresh A fk n0 m s →
    ∃ m' ears' e' pend' av', FE N s e' av' ∧ Inv C.P N A pend' Lp m' ears' a av' w ∧ Fresh A fk n0 m' s ∧ Head C rec N A fk n0 k m' ears' e' h n ∧ e'.df = e.df := by
  intro f
  induction f with
  | zero => intro m ears e pend av hk; cases hk
  | succ f ih =>
    intro m ears e pend av hk F J hf
    have hk : (Option.rec
      (Bool.rec
        (allN (allOf (fun j y => Bool.rec (sub y.af m) false (bit m j)) (infoOf A A.toList) 0) fun i => Option.rec false (fun o =>
          Bool.rec (stepK C rec N A.toList o e h n fun e h n => contP C rec N A fk n0 k f m ears i e h n)
            (rngOf n0 i fun ni => stepK C rec N A.toList o e h ni fun e h _ => contP C rec N A fk n0 k f m ears i e h n) fk) (getL A.toList i))
        (flushK e fun e => k .norm e h n) (allI (infoOf A A.toList) 0 fun j _ => bit m j))
      (fun i => Option.rec false (fun o => forceN (add1 m i) fun m => guardK A.toList o.guard e (pureK C.P o.op e h fun v => putK N e o.dst v fun e => planK C rec N A.toList (infoOf A A.toList) fk n0 f m (i :: ears) e h n k) (putK N e o.dst (.tup []) fun e => planK C rec N A.toList (infoOf A A.toList) fk n0 f m (i :: ears) e h n k)) (getL A.toList i))
      (findI (earlyOk C.P (infoOf A A.toList) m ears) (infoOf A A.toList) 0) : Bool) = true := hk
    cases hfi : findI (earlyOk C.P (infoOf A A.toList) m ears) (infoOf A A.toList) 0 with
    | some i =>
      rw [hfi] at hk
      obtain ⟨x, _, hx, hok⟩ := findI_s _ _ _ hfi
      simp only [Nat.sub_zero] at hx
      obtain ⟨hA, haf, hlk, hwm⟩ := info_at A hx
      obtain ⟨o, ho, hk2⟩ := orec_f hk
      rw [getL_eq] at ho
      have ho2 : A[i]? = some o := by simpa using ho
      rw [hA] at ho2; cases ho2
      rw [forceN_eq] at hk2
      have hsx := fun cs b => Region.noSelect_spec hsel i x.o cs b hA
      have hself : ∀ d, x.o.dst = some d → d ∉ x.o.looksAt A := by
        unfold earlyOk at hok
        rcases brec_t hok with ⟨_, hok⟩ | ⟨hb, hok⟩
        · cases hok
        obtain ⟨_, hok⟩ := brec_f hok
        obtain ⟨_, hok⟩ := brec_f hok
        obtain ⟨hs, _⟩ := brec_f hok
        exact outSelf_s hwm hlk hs
      have hfr : Fresh A fk n0 (add1 m i) s := fun hfk j hj hb => hf hfk j hj (by rw [bit_add1] at hb; simp at hb; exact hb.1)
      rcases guardK_s F hk2 with ⟨h1, h2⟩ | ⟨h1, h2⟩
      · rw [Array.toArray_toList] at h2
        obtain ⟨v, ⟨u, h3, h4⟩, h5⟩ := vcOp_run H F h1
        have hN := putK_lt h3
        obtain ⟨e', h6, h7, _, h77⟩ := putK_s h3
        have hany : looksM x.o.op = false → ∀ w', (execOp av.eval x.o).run C.P w' = .ok (.value v) w' := fun hl => by
          obtain ⟨v', _, h8⟩ := pure_any hl F h1
          have := h8 w
          rw [h5] at this
          cases this
          exact h8
        obtain ⟨m', ears', e2, pend', av', r1, r2, r3, r4, r5⟩ := ih _ _ e' _ _ h6 (h7 s av v F h4) (J.early hsel hx hok hN (early_now hsx J.vsz hN hself h2 h5 hany)) hfr
        exact ⟨m', ears', e2, pend', av', r1, r2, r3, r4, r5.trans h77⟩
      · rw [Array.toArray_toList] at h2
        have hN := putK_lt h1
        obtain ⟨e', h6, h7, _, h77⟩ := putK_s h1
        obtain ⟨m', ears', e2, pend', av', r1, r2, r3, r4, r5⟩ := ih _ _ e' _ _ h6 (h7 s av undef F (.tup .nil)) (J.early hsel hx hok hN (early_not hsx J.vsz hN hself h2)) hfr
        exact ⟨m', ears', e2, pend', av', r1, r2, r3, r4, r5.trans h77⟩
    | none =>
      rw [hfi] at hk
      refine ⟨m, ears, e, pend, av, F, J, hf, ?_, rfl⟩
      rcases brec_t hk with ⟨h1, h2⟩ | ⟨h1, h2⟩
      · refine .inl ⟨fun j hj => ?_, h2⟩
        have := allI_s _ 0 h1 j _ (info_of A (Array.getElem?_eq_getElem hj))
        simpa using this
      · right
        obtain ⟨j, x, hj, hb⟩ := allI_f _ 0 h1
        refine ⟨⟨j, (Array.getElem?_eq_some_iff.1 (info_at A hj).1).1, by simpa using hb⟩, f, fun i o ho hbi hda => ?_⟩
        have hin := info_of A ho
        have hmem : i ∈ allOf (fun j y => Bool.rec (sub y.af m) false (bit m j)) (infoOf A A.toList) 0 := by
          have := allOf_s (f := fun j y => Bool.rec (sub y.af m) false (bit m j)) (infoOf A A.toList) 0 i _ hin (by
            simp only [Nat.zero_add]
            rw [hbi]
            exact sub_of fun q hq => hda q (by obtain ⟨e, he, h3, h4⟩ := (bit_mask o q).1 hq; exact ⟨e, he, h3, h4⟩))
          simpa using this
        have h3 := allN_s h2 i hmem
        obtain ⟨o', ho', h4⟩ := orec_f h3
        rw [getL_eq] at ho'
        have ho2 : A[i]? = some o' := by simpa using ho'
        rw [ho] at ho2; cases ho2
        refine ⟨fun hfk => ?_, fun hfk => ?_⟩
        · rw [hfk] at h4; rw [hfk]; exact h4
        · rw [hfk] at h4; rw [hfk]
          have h5 : rngOf n0 i (fun ni => stepK C rec N A.toList o e h ni fun e h _ => contP C rec N A true n0 k f m ears i e h n) = true := h4
          unfold rngOf at h5
          rw [forceN_eq, forceN_eq] at h5
          exact h5

theorem ordI_s (h : ordI (infoOf A A.toList) = true) {j i : Nat} {o : Oper} (ho : A[j]? = some o) (hd : DA o i) : i < j := by
  have h1 := Nat.blt_eq.mp (allI_s _ 0 h j _ (info_of A ho))
  simp only [Nat.zero_add] at h1
  obtain ⟨e, he, h2, rfl⟩ := hd
  have hb := (bit_mask o e.on).2 ⟨e, he, h2, rfl⟩
  rw [testBit_bit] at hb
  have := Nat.ge_two_pow_of_testBit hb
  have h1 : maskOf o < 2 ^ j := h1
  rcases Nat.lt_or_ge e.on j with h | h
  · exact h
  · have := Nat.pow_le_pow_right (n := 2) (by omega) h
    omega
theorem dn_of {l : Array Bool} {i : Nat} (hi : i < l.size) (h : ¬ l.getD i true = false) : Dn l i := by
  by_cases hd : Dn l i
  · exact hd
  · exact absurd ((not_dn hi).2 hd) h

/-- Where nothing can come up all is done. -/
theorem Inv.all {pend : List Nat} {Lp : Array Bool} {m : Nat} {ears : List Nat} (J : Inv C.P N A pend Lp m ears a av w) (hord : ordI (infoOf A A.toList) = true) (hr : Region.ready .any A Lp = []) : pend = [] ∧ ∀ j, j < A.size → bit m j = true := by
  have hnr : ∀ i o, A[i]? = some o → (∀ j, DA o j → Dn Lp j) → Dn Lp i := by
    intro i o ho hd
    have hi : i < Lp.size := by rw [J.size]; exact (Array.getElem?_eq_some_iff.1 ho).1
    refine dn_of hi fun hu => ?_
    have : i ∈ Region.ready .any A Lp := mem_ready.2 ⟨hu, o, ho, fun e he hb => hd e.on ⟨e, he, hb, rfl⟩⟩
    rw [hr] at this; cases this
  have key : ∀ k i, i < k → i < A.size → Dn Lp i := by
    intro k
    induction k with
    | zero => intro i h; omega
    | succ k ih =>
      intro i hik hi
      have ho := Array.getElem?_eq_getElem hi
      exact hnr i _ ho fun j hj => by
        have hlt := ordI_s hord ho hj
        exact ih j (by omega) (by omega)
  have hall : ∀ i, i < A.size → Dn Lp i := fun i hi => key (i + 1) i (by omega) hi
  refine ⟨List.eq_nil_iff_forall_not_mem.2 fun p hp => (J.pl p hp).2.1 (hall p (J.pl p hp).1), fun j hj => (J.mem j hj).2 (.inl (hall j hj))⟩

theorem SH.range {n' : Rg} (H : SH C.P w0 s h n w) (hf : ∀ j, n'.1 ≤ j → j < n'.2 → s j = none) : SH C.P w0 s h n' w := ⟨H.upd, H.blk, H.inj, hf, H.lps, H.lin⟩

/-- WHATEVER COMES UP. -/
theorem any_s {rec : CT} (hrec : CallOk C.P w0 (callK C.P rec)) (hyl : YieldOk C w0 rec) (hkn : KnOk C) (hsel : Region.noSelect A = true) (hord : ordI (infoOf A A.toList) = true) {fk : Bool} {n0 : Rg} {s0 : Mp} {D0 : Option (List Nat)} {k : KX} {Q : Exit → Act → World → Prop}
    (hq : ∀ s' e' h' n' a' w', Ls n0 s0 n' s' → FE N s' e' a' → SH C.P w0 s' h' n' w' → e'.df = D0 → k .norm e' h' n' = true → Q .normal a' w') :
    ∀ (X : Nat) (U : List Nat) (m : Nat) (ears : List Nat) (e : Env') (h : Hp) (n : Rg) (pend : List Nat) (Lp : Array Bool) (s : Mp) (a av : Act) (w : World), U.length ≤ X → (∀ i, i < A.size → ¬ Dn Lp i → i ∈ U) →
      Ls n0 s0 n s → (fk = true → n.1 = n0.1 + A.size * 4096 ∧ n.1 ≤ n.2) → FE N s e av → SH C.P w0 s h n w → Inv C.P N A pend Lp m ears a av w → Fresh A fk n0 m s → e.df = D0 → Head C rec N A fk n0 k m ears e h n →
      wpAnyIn (wideR L) 0 C.P .any A Q X Lp a w := by
  intro X
  have fin : ∀ (m : Nat) (ears : List Nat) (e : Env') (h : Hp) (n : Rg) (pend : List Nat) (Lp : Array Bool) (s : Mp) (a av : Act) (w : World), Ls n0 s0 n s → FE N s e av → SH C.P w0 s h n w → Inv C.P N A pend Lp m ears a av w → e.df = D0 → Head C rec N A fk n0 k m ears e h n →
      Region.ready .any A Lp = [] → Q .normal a w := by
    intro m ears e h n pend Lp s a av w hls F H J hdf hh hr
    obtain ⟨rfl, hb⟩ := J.all hord hr
    rcases hh with ⟨_, h2⟩ | ⟨⟨j, hj, h3⟩, _⟩
    · obtain ⟨e', h4, h5, h55⟩ := flushK_s h2
      refine hq s e' h n a w hls ⟨J.asz, fun t v ht => ?_, by rw [h55, J.adef]; exact F.df⟩ H (h55.trans hdf) h4
      obtain ⟨h6, h7⟩ := F.at_ t v (h5 t v ht)
      refine ⟨h6, ?_⟩
      rcases J.agree t with h8 | ⟨p, hp, _⟩
      · rw [h8]; exact h7
      · cases hp
    · rw [hb j hj] at h3; cases h3
  induction X with
  | zero =>
    intro U m ears e h n pend Lp s a av w hU hUm hls hn F H J hf hdf hh
    have hU0 : U = [] := List.eq_nil_of_length_eq_zero (by omega)
    have hr : Region.ready .any A Lp = [] := List.eq_nil_iff_forall_not_mem.2 fun i hi => by
      obtain ⟨h1, o, ho, _⟩ := mem_ready.1 hi
      have hiA := (Array.getElem?_eq_some_iff.1 ho).1
      have := hUm i hiA ((not_dn (by rw [J.size]; exact hiA)).1 h1)
      rw [hU0] at this; cases this
    exact ⟨hr, fin m ears e h n pend Lp s a av w hls F H J hdf hh hr⟩
  | succ X ih =>
    intro U m ears e h n pend Lp s a av w hU hUm hls hn F H J hf hdf hh
    refine ⟨fun hr => fin m ears e h n pend Lp s a av w hls F H J hdf hh hr, fun i hi => ?_⟩
    obtain ⟨h1, o, ho, hd⟩ := mem_ready.1 hi
    have hiA := (Array.getElem?_eq_some_iff.1 ho).1
    have his : i < Lp.size := by rw [J.size]; exact hiA
    have hnd : ¬ Dn Lp i := (not_dn his).1 h1
    have hda : ∀ j, DA o j → Dn Lp j := fun j ⟨e, he, hb, hj⟩ => by subst hj; exact hd e he hb
    have hsx := fun cs b => Region.noSelect_spec hsel i o cs b ho
    have hU2 : (U.erase i).length ≤ X := by rw [List.length_erase_of_mem (hUm i hiA hnd)]; omega
    have hUm2 : ∀ j, j < A.size → ¬ Dn (Lp.setIfInBounds i true) j → j ∈ U.erase i := fun j hj hdj => by
      rw [dn_set his] at hdj
      refine (List.mem_erase_of_ne fun he => hdj (.inl he)).2 (hUm j hj fun h2 => hdj (.inr h2))
    unfold wpOpIn
    rw [ho]
    simp only
    by_cases hp : i ∈ pend
    · -- taken early before
      obtain ⟨e1, e2⟩ := agree_exec hsx (J.asz.trans J.vsz.symm) (J.looksP hp ho hda)
      obtain ⟨hN, hpp⟩ := J.dlt i hp o ho
      rcases J.now i hp o ho with ⟨h2, v, h3, h4, _⟩ | ⟨h2, h4⟩
      · rw [if_pos (by rw [e2]; exact h2)]
        refine comes_in (R := fun v' w' => v' = v ∧ w' = w) ?_ (.inl ⟨v, w, by rw [e1]; exact h3, rfl, rfl⟩) ?_
        · intro d hd; rw [hd] at hpp; cases hpp
        · rintro v' w' ⟨rfl, rfl⟩
          exact ih (U.erase i) m ears e h n (pend.erase i) _ s _ av w' hU2 hUm2 hls hn F H (J.take hp ho hda hN h4) hf hdf hh
      · rw [if_neg (by rw [e2, h2]; simp)]
        exact ⟨fun _ _ => trivial, ih (U.erase i) m ears e h n (pend.erase i) _ s _ av w hU2 hUm2 hls hn F H (J.take hp ho hda hN h4) hf hdf hh⟩
    · -- one that is not taken early
      have hbi : bit m i = false := by
        cases hb : bit m i with
        | false => rfl
        | true => rcases (J.mem i hiA).1 hb with h2 | h2; exact absurd h2 hnd; exact absurd h2 hp
      obtain ⟨e1, e2⟩ := agree_exec hsx (J.asz.trans J.vsz.symm) (J.looks ho hbi hda)
      rcases hh with ⟨hb, _⟩ | ⟨_, f, hstep⟩
      · rw [hb i hiA] at hbi; cases hbi
      have hdm : ∀ j, DA o j → bit m j = true := fun j hj => by
        have hlt := ordI_s hord ho hj
        exact (J.mem j (by omega)).2 (.inl (hda j hj))
      obtain ⟨hs1, hs2⟩ := hstep i o ho hbi hdm
      -- what comes behind
      have go : ∀ (e' : Env') (h' : Hp) (n' : Rg) (s' : Mp) (v : Value) (w' : World), e'.df = D0 → (∀ t, o.dst = some t → t < N) → FE N s' e' (av.put o.dst v) → SH C.P w0 s' h' n' w' → Ls n0 s0 n' s' → (fk = true → n'.1 = n0.1 + A.size * 4096 ∧ n'.1 ≤ n'.2) → Fresh A fk n0 (add1 m i) s' →
          contP C rec N A fk n0 k f m ears i e' h' n' = true → wpAnyIn (wideR L) 0 C.P .any A Q X (Lp.setIfInBounds i true) (a.put o.dst v) w' := by
        intro e' h' n' s' v w' hdf' hN F' H' hls' hn' hf' hc
        obtain ⟨h2, h3⟩ := brec_f hc
        rw [forceN_eq] at h3
        have J' : Inv C.P N A pend (Lp.setIfInBounds i true) (add1 m i) ears (a.put o.dst v) (av.put o.dst v) w' := by
          refine J.strict ho hbi hda hN fun p hpp x hx => ?_
          have hsp := fun cs b => Region.noSelect_spec hsel p x cs b hx
          have hout : ∀ t, o.dst = some t → t ∉ x.looksAt A ∧ x.dst ≠ some t := by
            rcases J.ap p hpp x hx i o ho hbi with h4 | ⟨_, h4⟩
            · exact absurd (hda p h4) (J.pl p hpp).2.1
            · exact h4
          refine still_s hx F' H' ((J.now p hpp x hx).put hsp J.vsz hN hout) ?_
          cases hl : looksM x.op with
          | false => exact .inl rfl
          | true =>
            right
            rcases chk_s (info_of A ho) (info_of A hx) hl (J.pl p hpp).2.2 with h5 | h5
            · exfalso
              refine (J.pl p hpp).2.1 (ancI_s (D := Dn Lp) (fun j y hj hdj q hb => ?_) 20 _ h5 fun q hb => ?_)
              · obtain ⟨g1, g2, _⟩ := info_at A hj
                rw [g2] at hb
                obtain ⟨e, he, h6, h7⟩ := (bit_mask y.o q).1 hb
                exact J.clo j y.o g1 hdj q ⟨e, he, h6, h7⟩
              · obtain ⟨e, he, h6, h7⟩ := (bit_mask o q).1 hb
                exact hda q ⟨e, he, h6, h7⟩
            · exact stills_s h2 p h5
        obtain ⟨m2, ears2, e2, pend2, av2, F2, J2, f2, hh2, hd2⟩ := adv (a := a.put o.dst v) hsel H' f _ _ _ _ _ h3 F' J' hf'
        exact ih (U.erase i) m2 ears2 e2 h' n' pend2 _ s' _ av2 w' hU2 hUm2 hls' hn' F2 H' J2 f2 (hd2.trans hdf') hh2
      have hrg : i * 4096 + 4096 ≤ A.size * 4096 := by omega
      have bk : fk = true → ∀ {s' : Mp} {h' : Hp} {n' : Rg} {w' : World}, Ls (rg n0 i) s n' s' → SH C.P w0 s' h' n' w' → SH C.P w0 s' h' n w' ∧ Ls n0 s0 n s' ∧ Fresh A fk n0 (add1 m i) s' := by
        intro hfk s' h' n' w' g1 g3
        obtain ⟨hn1, hn2⟩ := hn hfk
        obtain ⟨l1, l2, l3, l4⟩ := hls
        obtain ⟨m1, m2, _, _⟩ := g1
        have hsame : ∀ j, j < n0.1 + i * 4096 ∨ n0.1 + i * 4096 + 4096 ≤ j → s' j = s j := m2
        refine ⟨g3.range fun j h1 h2 => ?_, ⟨l1.trans m1, fun j hj => ?_, l3, l4⟩, fun hfk2 i' hi' hb' j h1 h2 => ?_⟩
        · rw [hsame j (by omega)]; exact H.fresh j h1 h2
        · rw [hsame j (by omega)]; exact l2 j hj
        · rw [bit_add1] at hb'; simp at hb'
          have h1 : n0.1 + i' * 4096 ≤ j := h1
          have h2 : j < n0.1 + i' * 4096 + 4096 := h2
          rw [hsame j (by have := hb'.2; omega)]
          exact hf hfk i' hi' hb'.1 j h1 h2
      rcases (show fk = false ∨ fk = true by cases fk <;> simp) with hfk | hfk
      · have hs := hs1 hfk
        have hn' : ∀ {n' : Rg}, fk = true → n'.1 = n0.1 + A.size * 4096 ∧ n'.1 ≤ n'.2 := fun h => by rw [hfk] at h; cases h
        have hf' : ∀ {s' : Mp}, Fresh A fk n0 (add1 m i) s' := fun h => by rw [hfk] at h; cases h
        rcases guardK_s F hs with ⟨h1, h2⟩ | ⟨h1, h2⟩
        · rw [Array.toArray_toList] at h2
          rw [if_pos (by rw [e2]; exact h2)]
          refine comes_in (opK_nd h1) (by rw [e1]; exact opK_s hrec hyl hkn H F h1) ?_
          rintro v w' ⟨s', x, h', n', g1, g2, g3, g4⟩
          have hN := putK_lt g4
          obtain ⟨e', g5, g6, _, g7⟩ := putK_s g4
          exact go e' h' n' s' v w' (g7.trans hdf) hN (g6 s' av v (F.mono g1.1) g2) g3 (hls.trans g1) hn' hf' g5
        · rw [Array.toArray_toList] at h2
          rw [if_neg (by rw [e2, h2]; simp)]
          refine ⟨fun _ _ => trivial, ?_⟩
          have hN := putK_lt h1
          obtain ⟨e', g5, g6, _, g7⟩ := putK_s h1
          exact go e' h n s undef w (g7.trans hdf) hN (g6 s av undef F (.tup .nil)) H hls hn' hf' g5
      · have hs := hs2 hfk
        have H2 : SH C.P w0 s h (rg n0 i) w := H.range (hf hfk i hiA hbi)
        rcases guardK_s F hs with ⟨h1, h2⟩ | ⟨h1, h2⟩
        · rw [Array.toArray_toList] at h2
          rw [if_pos (by rw [e2]; exact h2)]
          refine comes_in (opK_nd h1) (by rw [e1]; exact opK_s hrec hyl hkn H2 F h1) ?_
          rintro v w' ⟨s', x, h', n', g1, g2, g3, g4⟩
          have hN := putK_lt g4
          obtain ⟨e', g5, g6, _, g7⟩ := putK_s g4
          obtain ⟨b1, b2, b3⟩ := bk hfk g1 g3
          exact go e' h' n s' v w' (g7.trans hdf) hN (g6 s' av v (F.mono g1.1) g2) b1 b2 hn b3 g5
        · rw [Array.toArray_toList] at h2
          rw [if_neg (by rw [e2, h2]; simp)]
          refine ⟨fun _ _ => trivial, ?_⟩
          have hN := putK_lt h1
          obtain ⟨e', g5, g6, _, g7⟩ := putK_s h1
          obtain ⟨b1, b2, b3⟩ := bk hfk (Ls.refl _ s) H2
          exact go e' h n s undef w (g7.trans hdf) hN (g6 s av undef F (.tup .nil)) b1 b2 hn b3 g5
end
end Go.Ev
