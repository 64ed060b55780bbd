/- A program logic over the model: what is left to do, what is known of the frame, what the call holds of memory. No conditions: a library of lemmas. -/
import Derived.Test.YtklpiecolpnmlaaDoorEngE
set_option linter.unusedSimpArgs false
set_option linter.unusedVariables false
/-! The engine, part 18: regions whose order is open: what looks at no memory is taken first; a load is taken first where whatever is left waits for it or is a load. -/
namespace Go.Eng
open Go

/-- Whoever comes to a value leaves the world as it was. -/
def Keeps {α : Type} (P : Program) (s : Sem α) : Prop := ∀ w a w', s.run P w = .ok a w' → w' = w

section
variable {P : Program}
theorem Keeps.pure {α : Type} (a : α) : Keeps P (Pure.pure a : Sem α) := by
  intro w b w' h
  simp only [Sem.run_pure, Result.ok.injEq] at h
  exact h.2.symm
theorem Keeps.bind {α β : Type} {s : Sem α} {f : α → Sem β} (h : Keeps P s) (k : ∀ a, Keeps P (f a)) : Keeps P (s >>= f) := by
  intro w b w' hr
  rw [Sem.run_bind] at hr
  cases hs : s.run P w with
  | ok a w1 =>
    rw [hs, Result.andThen_ok] at hr
    rw [k a w1 b w' hr, h w a w1 hs]
  | halt x w1 => rw [hs] at hr; simp [Result.andThen] at hr
theorem Keeps.load (a : Addr) : Keeps P (Go.load a) := by
  intro w v w' h
  unfold Go.load at h
  cases hc : w.cell? a with
  | none =>
    simp only [Sem.run, hc] at h
    cases hf : World.farLoad P w a (Mode.plain == Mode.atomic) with
    | ok x => obtain ⟨x1, x2⟩ := x; rw [hf] at h; simp only [Result.ok.injEq] at h; exact h.2.symm
    | error x => rw [hf] at h; simp at h
  | some x => simp [Sem.run, hc] at h; exact h.2.symm
theorem Keeps.stuck {α : Type} (why : String) : Keeps P (Go.stuck why : Sem α) := by
  intro w v w' h
  simp at h
theorem Keeps.program {α : Type} {f : Program → Sem α} (h : ∀ p, Keeps P (f p)) : Keeps P (Go.program >>= f) := by
  refine Keeps.bind ?_ h
  intro w v w' h
  simp [Go.program, Sem.run] at h
  exact h.2.symm
theorem Keeps.underlying (T : TypeId) : Keeps P (Go.underlying T) := by
  refine Keeps.program fun p => ?_
  cases p.underlying T with
  | some d => exact Keeps.pure d
  | none => exact Keeps.stuck _
theorem Keeps.typeInfo (T : TypeId) : Keeps P (Go.typeInfo T) := by
  refine Keeps.program fun p => ?_
  cases p.info? T with
  | some d => exact Keeps.pure d
  | none => exact Keeps.stuck _
theorem Keeps.sizeOf (T : TypeId) : Keeps P (Go.sizeOf T) := Keeps.bind (Keeps.typeInfo T) fun _ => Keeps.pure _
theorem Keeps.isAgg (T : TypeId) : Keeps P (Go.isAgg T) := by
  refine Keeps.bind (Keeps.underlying T) fun d => ?_
  cases d <;> exact Keeps.pure _
theorem Keeps.loadCellsFrom (a : Addr) : ∀ (n i : Nat) (acc : Array Value), Keeps P (Go.loadCellsFrom a i n acc)
  | 0, _, acc => Keeps.pure acc
  | n + 1, i, acc => Keeps.bind (Keeps.load _) fun v => Keeps.loadCellsFrom a n (i + 1) (acc.push v)
theorem Keeps.loadVar (T : TypeId) (a : Addr) : Keeps P (Go.loadVar T a) := by
  refine Keeps.bind (Keeps.isAgg T) fun b => ?_
  cases b with
  | true => exact Keeps.bind (Keeps.sizeOf T) fun n => Keeps.bind (Keeps.loadCellsFrom a n 0 #[]) fun _ => Keeps.pure _
  | false => exact Keeps.load a
theorem Keeps.loadAt (T : TypeId) (x : Value) : Keeps P (Instr.loadAt T x) := by
  unfold Instr.loadAt
  refine Keeps.bind ?_ fun a => Keeps.loadVar T a
  unfold Instr.sureAddr
  split
  · exact Keeps.pure _
  · exact Keeps.stuck _

/-- A load comes to a value in the same world, or to no end at all. -/
theorem wpOp_load {ops : Array Oper} {Q : Exit → Act → World → Prop} {j : Nat} {o : Oper} {T : TypeId} {x : Operand} {K : Act → World → Prop} {a : Act} {w : World} (hj : ops[j]? = some o) (ho : o.op = .load T x)
    (h : wpOp P ops Q j K a w) : wpOp P ops Q j (fun a' w' => w' = w ∧ K a' w') a w := by
  unfold wpOp at *
  simp only [hj] at *
  split
  · rename_i hw
    simp only [hw, if_true] at h
    rcases h with h | h
    · refine .inl ?_
      unfold Oper.wp at *
      have e : execOp a.eval o = (do pure (.value (← Instr.loadAt T (a.eval x))) : Sem Next) := by simp only [execOp, ho]
      rw [e] at h ⊢
      cases hr : (Instr.loadAt T (a.eval x)).run P w with
      | ok v w' =>
        have hk := Keeps.loadAt (P := P) T (a.eval x) w v w' hr
        subst hk
        simp only [Sem.run_bind, hr, Result.andThen_ok, Sem.run_pure, Oper.upon] at h ⊢
        exact ⟨trivial, h⟩
      | halt e w' =>
        simp only [Sem.run_bind, hr, Result.andThen] at h ⊢
        cases e <;> first | (simp at h; done) | exact h
    · exact .inr h
  · rename_i hw
    simp only [hw] at h
    exact ⟨trivial, h⟩

theorem wpAny_firstL {ops : Array Oper} {md : Region.Mode} {Q : Exit → Act → World → Prop} {i : Nat} {oi : Oper} {v : Value} {w : World} (hi : ops[i]? = some oi) (hsel : ∀ (j : Nat) (o : Oper) cs b, ops[j]? = some o → o.op ≠ .select cs b)
    (hQ : ∀ c a w, Q (.panic c) (a.put oi.dst v) w → Q (.panic c) a w) :
    ∀ (fuel : Nat) (listed : Array Bool) (a : Act),
      (∀ j oj, ops[j]? = some oj → j ≠ i → listed.getD j true = false → (∀ e ∈ oj.after, Region.binds md e = true → e.on ≠ i) → oi.apart ops oj = true ∧ ∃ T x, oj.op = .load T x) →
      i ∈ Region.ready md ops listed → YieldsIf P ops (fun w' => w' = w) oi v a →
      wpAny P md ops Q fuel (listed.setIfInBounds i true) (a.put oi.dst v) w → wpAny P md ops Q (fuel + 1) listed a w := by
  intro fuel
  induction fuel with
  | zero =>
    intro listed a _ hr hy H
    refine ⟨fun h => (by rw [h] at hr; cases hr), fun j hj => ?_⟩
    by_cases hji : j = i
    · subst hji; exact hy.wpOp hi rfl H
    · have := ready_mono hj hji
      rw [H.1] at this
      cases this
  | succ fuel ih =>
    intro listed a hfree hr hy H
    refine ⟨fun h => (by rw [h] at hr; cases hr), fun j hj => ?_⟩
    by_cases hji : j = i
    · subst hji; exact hy.wpOp hi rfl H
    · have h1 := H.2 j (ready_mono hj hji)
      obtain ⟨hjun, oj, hoj, hall⟩ := mem_ready.1 hj
      have hnot : ∀ e ∈ oj.after, Region.binds md e = true → e.on ≠ i := fun e he hb heq => by
        have h1 := hall e he hb
        have h0 := (mem_ready.1 hr).1
        rw [heq] at h1
        rcases Nat.lt_or_ge i listed.size with h' | h'
        · simp [h'] at h0 h1; rw [h0] at h1; cases h1
        · simp [Array.getElem?_eq_none h'] at h1
      obtain ⟨hap, T, x, hop⟩ := hfree j oj hoj hji hjun hnot
      have h2 := wpOp_load hoj hop (wpOp_putIf hoj hap (fun cs b => hsel i oi cs b hi) (fun cs b => hsel j oj cs b hoj) hQ hy h1)
      refine wpOp_mono (fun a' w' h3 => ?_) h2
      obtain ⟨rfl, h4, h5⟩ := h3
      refine ih (listed.setIfInBounds j true) a' (fun k ok hk hki hun hno => ?_) (ready_mono hr (Ne.symm hji)) h4 ?_
      · refine hfree k ok hk hki ?_ hno
        by_cases hjk : j = k
        · subst hjk; exact hjun
        · rw [getD_set_ne true hjk] at hun; exact hun
      · rw [Array.setIfInBounds_comm _ _ hji]
        exact h5
end

/-- Whatever is left waits for it or is a load apart from it. -/
def freeL (ops : Array Oper) (listed : Array Bool) (i : Nat) : Bool :=
  match ops[i]? with
  | none => false
  | some oi => (List.range ops.size).all fun j => j == i || listed.getD j true || match ops[j]? with
      | some oj => oj.after.any (fun e => Region.binds .any e && e.on == i) || (oi.apart ops oj && match oj.op with | .load .. => true | _ => false)
      | none => true

theorem freeL_spec {ops : Array Oper} {i : Nat} {oi : Oper} {listed : Array Bool} (hi : ops[i]? = some oi) (h : freeL ops listed i = true) (j : Nat) (oj : Oper)
    (hj : ops[j]? = some oj) (hne : j ≠ i) (hun : listed.getD j true = false) (hno : ∀ e ∈ oj.after, Region.binds .any e = true → e.on ≠ i) :
    oi.apart ops oj = true ∧ ∃ T x, oj.op = .load T x := by
  simp only [freeL, hi, List.all_eq_true, List.mem_range] at h
  have h1 := h j (Array.getElem?_eq_some_iff.1 hj).1
  simp only [hj, Bool.or_eq_true, beq_iff_eq, hne, false_or, hun, Bool.false_eq_true] at h1
  rcases h1 with h1 | h1
  · obtain ⟨e, he, hb⟩ := Array.any_eq_true'.1 h1
    simp only [Bool.and_eq_true, beq_iff_eq] at hb
    exact absurd hb.2 (hno e he hb.1)
  · simp only [Bool.and_eq_true] at h1
    refine ⟨h1.1, ?_⟩
    cases hop : oj.op <;> simp [hop] at h1 ⊢

/-- Kinds: 0: taken first, looks at no memory; 1: taken first, a load; else: the only one that may come up. -/
def planB (ops : Array Oper) : List (Nat × Nat) → Array Bool → Bool
  | [], listed => (Region.ready .any ops listed).isEmpty
  | (i, t) :: plan, listed =>
    (decide (i < ops.size)) && (match t with
      | 0 => Region.free .any ops listed i && (Region.ready .any ops listed).contains i
      | 1 => (((ops[i]?).map fun o => match o.op with | .load .. => true | _ => false).getD false && freeL ops listed i) && (Region.ready .any ops listed).contains i
      | _ => Region.ready .any ops listed == [i]) && planB ops plan (listed.setIfInBounds i true)

/-- A world without memory. -/
def bare (w : World) : World := { w with heap := #[] }
theorem ext_bare (w w' : World) : Ext (bare w) w' := ⟨fun i o h => by simp [bare] at h⟩
theorem extR_bare (w : World) (R : Env → World → (Env → World → Prop) → Prop) : extR (bare w) R = R := by
  funext e w' K
  exact propext ⟨fun h => h.2, fun h => ⟨ext_bare _ _, h⟩⟩

theorem vcB_sound {P : Program} {N : Nat} {ops : List Oper} {w0 : World} {Q : Exit → Act → World → Prop} {K : Env → World → Prop} (hN : ops.all (dstOk N) = true) (hsel : Region.noSelect ops.toArray = true)
    (hQ : ∀ c a w (d : Option Tmp) v, Q (.panic c) (a.put d v) w → Q (.panic c) a w)
    (hK : ∀ e a w n, Fits N e a → K e w → Q .normal a (w.drewN n)) : ∀ (plan : List (Nat × Nat)) (fuel : Nat) (listed : Array Bool) (e : Env) (a : Act) (w : World) (n : Nat),
      plan.length ≤ fuel → planB ops.toArray plan listed = true → Fits N e a → vcH P N ops (bare w0) (planned ops (plan.map fun p => (p.1, p.2 == 0))) e w K →
      wpAny P .any ops.toArray Q fuel listed a (w.drewN n) := by
  intro plan
  induction plan with
  | nil =>
    intro fuel listed e a w n _ hp ha h
    simp only [planB, List.isEmpty_iff] at hp
    exact wpAny_done hp (hK e a w n ha h) fuel
  | cons p plan ih =>
    obtain ⟨i, t⟩ := p
    intro fuel listed e a w n hf hp ha h
    simp only [planB, Bool.and_eq_true, decide_eq_true_eq] at hp
    obtain ⟨⟨hi, hstep⟩, hp⟩ := hp
    have hi' : i < ops.length := by simpa using hi
    obtain ⟨o, ho⟩ : ∃ o, ops[i]? = some o := ⟨ops[i], List.getElem?_eq_getElem hi'⟩
    have hoa : ops.toArray[i]? = some o := by simpa using ho
    have hod : dstOk N o = true := by
      rw [List.all_eq_true] at hN
      exact hN o (List.mem_of_getElem? ho)
    have hpl : planned ops (((i, t) :: plan).map fun p => (p.1, p.2 == 0)) = (t == 0, o) :: planned ops (plan.map fun p => (p.1, p.2 == 0)) := by simp [planned, ho]
    rw [hpl] at h
    cases fuel with
    | zero => simp at hf
    | succ fuel =>
    have hf' : plan.length ≤ fuel := by simpa using hf
    rcases vGuard_sound ha h with ⟨e', ha', h', hw⟩ | ⟨e', ha', h', hw⟩
    · have h' : vcStepH P N (isPure P o.op) (t == 0) o e' (bare w0) w (vcH P N ops (bare w0) (planned ops (plan.map fun p => (p.1, p.2 == 0)))) K := h'
      match t, hstep, h' with
      | 0, hstep, h' =>
        simp only [Bool.and_eq_true] at hstep
        cases hpo : isPure P o.op with
        | true =>
          rw [hpo] at h'
          simp only [vcStepH, pw, beq_self_eq_true] at h'
          obtain ⟨v, hv, hr⟩ := vcOp_sound ha' h'
          refine wpAny_take hoa hsel hstep.1 hstep.2 (fun c a w => hQ c a w o.dst v) (.inl ⟨hw, fun w' => hr w' (ext_bare _ _)⟩) ?_
          exact ih fuel _ _ _ w n hf' hp (ha'.put' hod v) hv
        | false => rw [hpo] at h'; exact h'.elim
      | 1, hstep, h' =>
        simp only [Bool.and_eq_true] at hstep
        have hpo : isPure P o.op = true := by
          have h1 := hstep.1.1
          rw [hoa] at h1
          simp only [Option.map_some, Option.getD_some] at h1
          cases hop : o.op <;> simp [hop] at h1 <;> rfl
        rw [hpo] at h'
        simp only [vcStepH, pw, show ((1 : Nat) == 0) = false from rfl] at h'
        obtain ⟨v, hv, hr⟩ := vcOp_sound ha' h'
        refine wpAny_firstL hoa (Region.noSelect_spec hsel) (fun c a w => hQ c a w o.dst v) fuel listed a (freeL_spec hoa hstep.1.2) (by simpa using hstep.2) (.inl ⟨hw, fun w' hw' => by subst hw'; exact hr _ (Ext.drewN w n)⟩) ?_
        exact ih fuel _ _ _ w n hf' hp (ha'.put' hod v) hv
      | t + 2, hstep, h' =>
        simp only [beq_iff_eq] at hstep
        refine wpAny_all hstep (by simp) ?_
        intro j hj
        simp only [List.mem_singleton] at hj
        subst hj
        unfold wpOp
        simp only [hoa, hw, if_true]
        refine .inl ?_
        rw [show ((t + 2 : Nat) == 0) = false from rfl] at h'
        cases hpo : isPure P o.op with
        | true =>
          rw [hpo] at h'
          simp only [vcStepH, pw] at h'
          obtain ⟨v, hv, hr⟩ := vcOp_sound ha' h'
          unfold Oper.wp
          rw [hr (w.drewN n) (Ext.drewN w n)]
          exact ih fuel _ _ _ w n hf' hp (ha'.put' hod v) hv
        | false =>
          rw [hpo] at h'
          have h' : MemH P N o e' (bare w0) w (vcH P N ops (bare w0) (planned ops (plan.map fun p => (p.1, p.2 == 0)))) K := h'
          exact h' a n _ Q ha' fun v w' m hv => ih fuel _ _ _ w' m hf' hp (ha'.put' hod v) hv.2
    · have hnext : wpAny P .any ops.toArray Q fuel (listed.setIfInBounds i true) (a.put o.dst undef) (w.drewN n) :=
        ih fuel _ _ _ w n hf' hp (ha'.put' hod undef) h'
      match t, hstep with
      | 0, hstep =>
        simp only [Bool.and_eq_true] at hstep
        exact wpAny_take hoa hsel hstep.1 hstep.2 (fun c a w => hQ c a w o.dst undef) (.inr ⟨hw, rfl⟩) hnext
      | 1, hstep =>
        simp only [Bool.and_eq_true] at hstep
        exact wpAny_firstL hoa (Region.noSelect_spec hsel) (fun c a w => hQ c a w o.dst undef) fuel listed a (freeL_spec hoa hstep.1.2) (by simpa using hstep.2) (.inr ⟨hw, rfl⟩) hnext
      | t + 2, hstep =>
        simp only [beq_iff_eq] at hstep
        refine wpAny_all hstep (by simp) ?_
        intro j hj
        simp only [List.mem_singleton] at hj
        subst hj
        unfold wpOp
        simp only [hoa, hw, Bool.false_eq_true, if_false]
        exact hnext

/-- A region whose order is open, by such a plan. -/
theorem VC_regionB {P : Program} {fn : Func} {F : Value → World → Prop} {N : Nat} {k : List It} {e : Env} {w : World} (ks : List Nat) (plan : List (Nat × Nat)) {id : Nat} {ops : List Oper} {l : List (Bool × Oper)}
    (hm : P.follows .mixedOrders = true) (hB : (planB ops.toArray plan (Array.replicate ops.toArray.size false) && Region.noSelect ops.toArray && decide (plan.length ≤ ops.length)) = true) (hN : ops.all (dstOk N) = true) (hl : planned ops (plan.map fun p => (p.1, p.2 == 0)) = l)
    (h : ∀ K : Env → World → Prop, (∀ e w, VC ⟨P, fn, F, N⟩ k e w → K e w) → vcH P N ops (bare w) l e w (selC ks K)) : VC ⟨P, fn, F, N⟩ (.code (.region id ops.toArray true) :: k) e w := by
  intro a n ha
  simp only [Bool.and_eq_true, decide_eq_true_eq] at hB
  obtain ⟨⟨hB1, hB2⟩, hB3⟩ := hB
  refine wp_region_any (P := P) hm ?_
  subst hl
  refine vcB_sound (w0 := w) (K := selC ks (VC ⟨P, fn, F, N⟩ k)) hN hB2 (fun c a w d v hq => cont_panic d v hq) (fun e a w n ha hv => ?_) plan _ _ e a w (n + 1) (by simpa using hB3) hB1 ha (h _ fun _ _ hv => hv)
  exact ((selK_spec ks e _).1 hv) a n (ha.sel ks)
attribute [go_sem] extR_bare
end Go.Eng
