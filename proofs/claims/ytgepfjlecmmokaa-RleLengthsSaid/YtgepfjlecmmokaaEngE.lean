/- A program logic over the model: what is left to do, what is known of the frame, what the call holds of memory. No conditions: a library of lemmas. -/
import Derived.Test.YtgepfjlecmmokaaEngD
set_option linter.unusedSimpArgs false
set_option linter.unusedVariables false
/-! The engine, part 12: regions in which two operations may come up side by side: every order is asked. -/
namespace Go.Eng
open Go

/-- What is listed behind a plan, if each of its operations may be taken first or is the only one that may come up. -/
def planTo (ops : Array Oper) : List (Nat × Bool) → Array Bool → Option (Array Bool)
  | [], listed => some listed
  | (i, t) :: plan, listed =>
    if (decide (i < ops.size) && (match t with
      | true => Region.free .any ops listed i && (Region.ready .any ops listed).contains i
      | false => Region.ready .any ops listed == [i])) = true then planTo ops plan (listed.setIfInBounds i true) else none

theorem ite_some {α : Type} {c : Prop} [Decidable c] {a : Option α} {x : α} (h : (if c then a else none) = some x) : c ∧ a = some x := by
  by_cases hc : c
  · rw [if_pos hc] at h; exact ⟨hc, h⟩
  · rw [if_neg hc] at h; cases h

inductive Tree where
  | seq (pre : List (Nat × Bool)) : Tree
  | two (pre : List (Nat × Bool)) (i j : Nat) (k k' : Tree) : Tree

def treeOk (ops : Array Oper) : Tree → Nat → Array Bool → Bool
  | .seq pre, fuel, listed => decide (pre.length ≤ fuel) && match planTo ops pre listed with
    | some l => (Region.ready .any ops l).isEmpty
    | none => false
  | .two pre i j k k', fuel, listed => decide (pre.length + 1 ≤ fuel) && match planTo ops pre listed with
    | some l => Region.ready .any ops l == [i, j] && decide (i < ops.size) && decide (j < ops.size) && treeOk ops k (fuel - pre.length - 1) (l.setIfInBounds i true) && treeOk ops k' (fuel - pre.length - 1) (l.setIfInBounds j true)
    | none => false

def vcT (P : Program) (N : Nat) (ops : List Oper) (w0 : World) : Tree → Env → World → (Env → World → Prop) → Prop
  | .seq pre, e, w, K => vcH P N ops w0 (planned ops pre) e w K
  | .two pre i j k k', e, w, K => vcH P N ops w0 (planned ops pre) e w fun e w =>
      vcH P N ops w0 (planned ops [(i, false)]) e w (fun e w => vcT P N ops w0 k e w K) ∧ vcH P N ops w0 (planned ops [(j, false)]) e w (fun e w => vcT P N ops w0 k' e w K)

section
variable {P : Program} {N : Nat} {ops : List Oper} {w0 : World} {Q : Exit → Act → World → Prop}

/-- One of those that may come up comes up. -/
theorem vcH_pick {K : Env → World → Prop} (hN : ops.all (dstOk N) = true) {i : Nat} (hi : i < ops.length) {R : Act → World → Prop} {e : Env} {a : Act} {w : World} {n : Nat} (ha : Fits N e a) (hx : Ext w0 w)
    (h : vcH P N ops w0 (planned ops [(i, false)]) e w K) (hR : ∀ e a w n, Fits N e a → Ext w0 w → K e w → R a (w.drewN n)) : wpOp P ops.toArray Q i R a (w.drewN n) := by
  obtain ⟨o, ho⟩ : ∃ o, ops[i]? = some o := ⟨ops[i], List.getElem?_eq_getElem hi⟩
  have hoa : ops.toArray[i]? = some o := by simpa using ho
  have hod : dstOk N o = true := by
    rw [List.all_eq_true] at hN
    exact hN o (List.mem_of_getElem? ho)
  have hpl : planned ops [(i, false)] = [(false, o)] := by simp [planned, ho]
  rw [hpl] at h
  rcases vGuard_sound ha h with ⟨e', ha', h', hw⟩ | ⟨e', ha', h', hw⟩
  · unfold wpOp
    simp only [hoa, hw, if_true]
    refine .inl ?_
    have h' : vcStepH P N (isPure P o.op) false o e' w0 w (vcH P N ops w0 []) K := h'
    cases hpo : isPure P o.op with
    | true =>
      rw [hpo] at h'
      simp only [vcStepH, pw] at h'
      obtain ⟨v, hv, hr⟩ := vcOp_sound ha' h'
      unfold Oper.wp
      rw [hr (w.drewN n) (Ext.drewN w n)]
      exact hR _ _ w n (ha'.put' hod v) hx hv
    | false =>
      rw [hpo] at h'
      have h' : MemH P N o e' w0 w (vcH P N ops w0 []) K := h'
      exact h' a n _ Q ha' fun v w' m hv => hR _ _ w' m (ha'.put' hod v) hv.1 hv.2
  · unfold wpOp
    simp only [hoa, hw, Bool.false_eq_true, if_false]
    exact hR _ _ w n (ha'.put' hod undef) hx h'

theorem vcH_then {K : Env → World → Prop} (hN : ops.all (dstOk N) = true) (hsel : Region.noSelect ops.toArray = true)
    (hQ : ∀ c a w (d : Option Tmp) v, Q (.panic c) (a.put d v) w → Q (.panic c) a w) : ∀ (plan : List (Nat × Bool)) (fuel : Nat) (listed l' : Array Bool) (e : Env) (a : Act) (w : World) (n : Nat),
      plan.length ≤ fuel → planTo ops.toArray plan listed = some l' → Fits N e a → Ext w0 w → vcH P N ops w0 (planned ops plan) e w K →
      (∀ e a w n, Fits N e a → Ext w0 w → K e w → wpAnyH P .any ops.toArray Q (fun w' => Ext w0 w') (fuel - plan.length) l' a (w.drewN n)) →
      wpAnyH P .any ops.toArray Q (fun w' => Ext w0 w') fuel listed a (w.drewN n) := by
  intro plan
  induction plan with
  | nil =>
    intro fuel listed l' e a w n _ hp ha hx h hK
    simp only [planTo, Option.some.injEq] at hp
    subst hp
    exact hK e a w n ha hx h
  | cons p plan ih =>
    obtain ⟨i, t⟩ := p
    intro fuel listed l' e a w n hf hp ha hx h hK
    simp only [planTo] at hp
    obtain ⟨hstep, hp2⟩ := ite_some hp
    clear hp
    simp only [Bool.and_eq_true, decide_eq_true_eq] at hstep
    obtain ⟨hi, hstep⟩ := hstep
    have hi' : i < ops.length := by simpa using hi
    obtain ⟨o, ho⟩ : ∃ o, ops[i]? = some o := ⟨ops[i], List.getElem?_eq_getElem hi'⟩
    have hoa : ops.toArray[i]? = some o := by simpa using ho
    have hod : dstOk N o = true := by
      rw [List.all_eq_true] at hN
      exact hN o (List.mem_of_getElem? ho)
    have hpl : planned ops ((i, t) :: plan) = (t, o) :: planned ops plan := by simp [planned, ho]
    cases fuel with
    | zero => simp at hf
    | succ fuel =>
    have hf' : plan.length ≤ fuel := by simpa using hf
    have hK' : ∀ e a w n, Fits N e a → Ext w0 w → K e w → wpAnyH P .any ops.toArray Q (fun w' => Ext w0 w') (fuel - plan.length) l' a (w.drewN n) := by
      intro e a w n h1 h2 h3
      have := hK e a w n h1 h2 h3
      simpa using this
    cases t with
    | true =>
      rw [hpl] at h
      simp only [Bool.and_eq_true] at hstep
      rcases vGuard_sound ha h with ⟨e', ha', h', hw⟩ | ⟨e', ha', h', hw⟩
      · have h' : vcStepH P N (isPure P o.op) true o e' w0 w (vcH P N ops w0 (planned ops plan)) K := h'
        cases hpo : isPure P o.op with
        | true =>
          rw [hpo] at h'
          simp only [vcStepH, pw] at h'
          obtain ⟨v, hv, hr⟩ := vcOp_sound ha' h'
          refine wpAnyH_take hoa hsel hstep.1 hstep.2 (fun c a w => hQ c a w o.dst v) (.inl ⟨hw, fun w' hw' => hr w' hw'⟩) (hx.trans (Ext.drewN w n)) ?_
          exact ih fuel _ _ _ _ w n hf' hp2 (ha'.put' hod v) hx hv hK'
        | false => rw [hpo] at h'; exact h'.elim
      · exact wpAnyH_take hoa hsel hstep.1 hstep.2 (fun c a w => hQ c a w o.dst undef) (.inr ⟨hw, rfl⟩) (hx.trans (Ext.drewN w n)) (ih fuel _ _ _ _ w n hf' hp2 (ha'.put' hod undef) hx h' hK')
    | false =>
      simp only [beq_iff_eq] at hstep
      refine wpAnyH_all hstep (by simp) ?_
      intro j hj
      simp only [List.mem_singleton] at hj
      subst hj
      have h2 : vcH P N ops w0 (planned ops [(j, false)]) e w (fun e w => vcH P N ops w0 (planned ops plan) e w K) := by
        rw [hpl] at h
        have hp1 : planned ops [(j, false)] = [(false, o)] := by simp [planned, ho]
        rw [hp1]
        exact h
      exact vcH_pick hN hi' ha hx h2 fun e a w n h1 h2 h3 => ⟨h2.trans (Ext.drewN w n), ih fuel _ _ _ _ w n hf' hp2 h1 h2 h3 hK'⟩

theorem vcT_sound {K : Env → World → Prop} (hN : ops.all (dstOk N) = true) (hsel : Region.noSelect ops.toArray = true)
    (hQ : ∀ c a w (d : Option Tmp) v, Q (.panic c) (a.put d v) w → Q (.panic c) a w)
    (hK : ∀ e a w n, Fits N e a → K e w → Q .normal a (w.drewN n)) : ∀ (t : Tree) (fuel : Nat) (listed : Array Bool) (e : Env) (a : Act) (w : World) (n : Nat),
      treeOk ops.toArray t fuel listed = true → Fits N e a → Ext w0 w → vcT P N ops w0 t e w K →
      wpAnyH P .any ops.toArray Q (fun w' => Ext w0 w') fuel listed a (w.drewN n) := by
  intro t
  induction t with
  | seq pre =>
    intro fuel listed e a w n ht ha hx h
    simp only [treeOk, Bool.and_eq_true, decide_eq_true_eq] at ht
    obtain ⟨hf, ht⟩ := ht
    cases hp : planTo ops.toArray pre listed with
    | none => rw [hp] at ht; cases ht
    | some l =>
      rw [hp] at ht
      simp only [List.isEmpty_iff] at ht
      exact vcH_then hN hsel hQ pre fuel listed l e a w n hf hp ha hx h fun e a w n h1 _ h3 => wpAnyH_done ht (hK e a w n h1 h3) _
  | two pre i j k k' ihk ihk' =>
    intro fuel listed e a w n ht ha hx h
    simp only [treeOk, Bool.and_eq_true, decide_eq_true_eq] at ht
    obtain ⟨hf, ht⟩ := ht
    cases hp : planTo ops.toArray pre listed with
    | none => rw [hp] at ht; cases ht
    | some l =>
      rw [hp] at ht
      simp only [Bool.and_eq_true, beq_iff_eq, decide_eq_true_eq] at ht
      obtain ⟨⟨⟨⟨hr, hi⟩, hj⟩, h1⟩, h2⟩ := ht
      refine vcH_then hN hsel hQ pre fuel listed l e a w n (by omega) hp ha hx h fun e a w n g1 g2 g3 => ?_
      obtain ⟨m, hm⟩ : ∃ m, fuel - pre.length = m + 1 := ⟨fuel - pre.length - 1, by omega⟩
      rw [hm]
      have hm' : fuel - pre.length - 1 = m := by omega
      rw [hm'] at h1 h2
      refine wpAnyH_all hr (by simp) ?_
      intro x hx2
      simp only [List.mem_cons, List.not_mem_nil, or_false] at hx2
      rcases hx2 with rfl | rfl
      · exact vcH_pick hN (by simpa using hi) g1 g2 g3.1 fun e a w n f1 f2 f3 => ⟨f2.trans (Ext.drewN w n), ihk m _ e a w n h1 f1 f2 f3⟩
      · exact vcH_pick hN (by simpa using hj) g1 g2 g3.2 fun e a w n f1 f2 f3 => ⟨f2.trans (Ext.drewN w n), ihk' m _ e a w n h2 f1 f2 f3⟩
end

/-- A region whose order is open, in every order that the tree names. -/
theorem VC_regionT {P : Program} {fn : Func} {F : Value → World → Prop} {N : Nat} {k : List It} {e : Env} {w : World} (w0 : World) (hx : Ext w0 w) (ks : List Nat) (t : Tree) {id : Nat} {ops : List Oper}
    (hm : P.follows .mixedOrders = true) (hB : (treeOk ops.toArray t ops.toArray.size (Array.replicate ops.toArray.size false) && Region.noSelect ops.toArray) = true) (hN : ops.all (dstOk N) = true)
    (h : ∀ K : Env → World → Prop, (∀ e w, VC ⟨P, fn, F, N⟩ k e w → K e w) → vcT P N ops w0 t e w (selC ks K)) : VC ⟨P, fn, F, N⟩ (.code (.region id ops.toArray true) :: k) e w := by
  intro a n ha
  simp only [Bool.and_eq_true] at hB
  obtain ⟨hB1, hB2⟩ := hB
  refine wp_region_held (S := fun w' => Ext w0 w') hm ?_
  refine vcT_sound (K := selC ks (VC ⟨P, fn, F, N⟩ k)) hN hB2 (fun c a w d v hq => cont_panic d v hq) (fun e a w n ha hv => ?_) t _ _ e a w (n + 1) hB1 ha hx (h _ fun _ _ hv => hv)
  exact ((selK_spec ks e _).1 hv) a n (ha.sel ks)
end Go.Eng
