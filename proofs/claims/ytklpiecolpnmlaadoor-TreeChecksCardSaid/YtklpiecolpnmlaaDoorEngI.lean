/- A program logic over the model: what is left to do, what is known of the frame, what the call holds of memory. No conditions: a library of lemmas. -/
import Derived.Test.YtklpiecolpnmlaaDoorEngH
import Derived.RangeFuncLeaves
import Derived.RangeFuncRecord
import Derived.RangeFuncNested
import Derived.RecoverIn
import Derived.TacticsIn
set_option linter.unusedSimpArgs false
set_option linter.unusedVariables false
/-! The engine, part 21: the general judgement: what a frame must come to, whatever its end (rounds, deferred calls, panics). -/
namespace Go.Eng
open Go

/-- No fence; the frame is a function's, or a round's. -/
def wideR (L : Option Nat) : Fence := { Fence.wide with round := L }
theorem comesIn_wideR {L : Option Nat} {P : Program} {m m' : Machine} {e : Ending} (h : Comes P m m' e) : ComesIn (Machine.fenced P (wideR L)) P m m' e := comesIn_wide.2 h
theorem callsIn_wideR {L : Option Nat} {n : Nat} {P : Program} {f : FuncId} {args : Array Value} {w : World} {R : Ending → World → Prop} (h : Calls P f args w R) : CallsIn (wideR L) n P f args w R :=
  ⟨trivial, fun cs _ => let ⟨e, w', fr, r, s, x⟩ := h cs; ⟨e, w', fr, r, comesIn_wideR s, x⟩⟩
theorem stepsIn_wideR {L : Option Nat} {P : Program} {m m' : Machine} (h : Steps P m m') : StepsIn (Machine.fenced P (wideR L)) P m m' := stepsIn_wide.2 h
theorem rowsIn_wideR {L : Option Nat} {n : Nat} {P : Program} {row : String} {args : Array Value} {w : World} {R : Value → World → Prop} (h : Rows P row args w R) : RowsIn (wideR L) n P row args w R :=
  fun c cs _ => let ⟨v, w', r, s⟩ := h c cs; ⟨v, w', r, stepsIn_wideR s⟩

def noDefer (o : Oper) : Bool := match o.op with | .defer _ => false | _ => true
theorem noDefer_spec {o : Oper} (h : noDefer o = true) : ∀ c, o.op ≠ .defer c := by
  intro c hc; simp [noDefer, hc] at h

/-- More deferred calls than are looked at. -/
def _root_.Go.Act.app (a : Act) (D : List Deferred) : Act := { a with defers := a.defers ++ D }
theorem app_put (a : Act) (D : List Deferred) (d : Option Tmp) (v : Value) : (a.put d v).app D = (a.app D).put d v := by cases d <;> rfl
theorem app_eval (a : Act) (D : List Deferred) : (a.app D).eval = a.eval := by funext x; cases x <;> rfl

def Qapp (D : List Deferred) (Q : Exit → Act → World → Prop) : Exit → Act → World → Prop
  | .normal, a, w => a.defers = [] ∧ Q .normal (a.app D) w
  | .panic c, a, w => Q (.panic c) (a.app D) w
  | _, _, _ => False

theorem op_app {P : Program} {L : Option Nat} {D : List Deferred} {Q : Exit → Act → World → Prop} {o : Oper} {a : Act} {w : World} {next next' : Act → World → Prop} (hd : noDefer o = true)
    (hn : ∀ a w, next a w → next' (a.app D) w) (h : o.wp P a w next (Qapp D Q)) : o.wpIn (wideR L) 0 P (a.app D) w next' Q := by
  refine ⟨fun _ _ => trivial, ?_⟩
  rw [Oper.semAt_eq _ _ _ (noDefer_spec hd), app_eval]
  unfold Oper.wp at h
  generalize (execOp a.eval o).run P w = r at *
  have hdep : (wideR L).depth.isSome = true → 1 ≤ 0 := by simp [wideR, Fence.wide]
  cases r with
  | ok x w' =>
    cases x <;> simp only [Oper.upon, Oper.uponIn] at h ⊢
    case value v => rw [← app_put]; exact hn _ _ h
    case skip => rw [← app_put]; exact hn _ _ h
    case defer d => have h2 := hn _ _ h; rw [app_put] at h2; exact h2
    case enter f args =>
      refine ⟨hdep, callsIn_wideR (h.mono fun e w'' he => ?_)⟩
      cases e with
      | returned v => have h2 := hn _ _ he; rw [app_put] at h2; exact h2
      | panicked c => exact he
      | outgrown => obtain ⟨_, _, he⟩ := he; exact he.elim
    case row row args => exact ⟨hdep, rowsIn_wideR (h.mono fun v w'' he => by have h2 := hn _ _ he; rw [app_put] at h2; exact h2)⟩
  | halt x w' => cases x <;> simp only [Oper.upon, Oper.uponIn] at h ⊢ <;> exact h

theorem wpOps_app {P : Program} {L : Option Nat} {D : List Deferred} {Q : Exit → Act → World → Prop} {ops : Array Oper} (hd : ops.toList.all noDefer = true) : ∀ (l : List Nat) (a : Act) (w : World),
    wpOps P ops (Qapp D Q) l a w → wpOpsIn (wideR L) 0 P ops Q l (a.app D) w := by
  intro l
  induction l with
  | nil => intro a w h; exact h.2
  | cons i rest ih =>
    intro a w h
    simp only [wpOps, wpOpsIn] at h ⊢
    cases ho : ops[i]? with
    | none => simp only [ho] at h ⊢; exact ih _ _ h
    | some o =>
      simp only [ho] at h ⊢
      have hdo : noDefer o = true := by
        rw [List.all_eq_true] at hd
        exact hd o (by rw [Array.mem_toList_iff]; exact Array.mem_of_getElem? ho)
      have ht : (a.app D).tmps = a.tmps := rfl
      rw [ht]
      split
      · rename_i hw
        rw [if_pos hw] at h
        rcases h with h | ⟨_, _, _, h⟩
        · exact op_app hdo ih h
        · exact h.elim
      · rename_i hw
        rw [if_neg hw] at h
        have h2 := ih _ _ h; rw [app_put] at h2; exact ⟨fun _ _ => trivial, h2⟩

theorem wpG_region {P : Program} {L : Option Nat} {D : List Deferred} {Q : Exit → Act → World → Prop} {id : Nat} {l : List Oper} {a : Act} {w : World} (hd : l.all noDefer = true)
    (h : wpList P l.toArray (Qapp D Q) l a w) : (Code.region id l.toArray false).wpIn (wideR L) 0 P Q (a.app D) w := by
  refine wpIn_region (wpOps_app (by simpa using hd) _ a w ?_)
  rw [List.range_eq_range', ← Array.length_toList, wpOps_eq_wpList l.toArray.toList 0 (by simp)]
  simpa using h

theorem wpG_region_any {P : Program} {L : Option Nat} {D : List Deferred} {Q : Exit → Act → World → Prop} {id : Nat} {ops : Array Oper} {a : Act} {w : World} (hm : P.follows .mixedOrders = true) (hd : ops.toList.all noDefer = true)
    (h : wpAny P .any ops (Qapp D Q) ops.size (Array.replicate ops.size false) a { w with drawn := w.drawn + 1 }) : (Code.region id ops true).wpIn (wideR L) 0 P Q (a.app D) w :=
  wpIn_region_draw fun t => wpOps_app hd _ a _ (by
    simp only [Region.schedule, hm, Bool.true_or, if_true]
    exact wpAny_sound ops.size t _ a _ h)

/-! ## The judgement -/

structure CtxG where
  P : Program
  N : Nat
  L : Option Nat
  D : List Deferred
  post : Exit → Act → World → Prop

structure FitsG (N : Nat) (D : List Deferred) (e : Env) (a : Act) : Prop where
  size : a.tmps.size = N
  defers : a.defers = D
  at_ : ∀ t v, e.find? t = some v → a.tmps.getD t undef = v

theorem FitsG.bare {N : Nat} {D : List Deferred} {e : Env} {a : Act} (h : FitsG N D e a) : Fits N e { a with defers := [] } := ⟨h.size, rfl, h.at_⟩
theorem FitsG.of {N : Nat} {D : List Deferred} {e : Env} {a : Act} (h : Fits N e a) : FitsG N D e (a.app D) := ⟨h.size, by simp [Act.app, h.defers], h.at_⟩
theorem FitsG.app {N : Nat} {D : List Deferred} {e : Env} {a : Act} (h : FitsG N D e a) : ({ a with defers := [] } : Act).app D = a := by
  cases a; have := h.defers; simp only at this; subst this; rfl
theorem FitsG.weaken {N : Nat} {D : List Deferred} {e e' : Env} {a : Act} (h : FitsG N D e a) (hs : ∀ t v, e'.find? t = some v → e.find? t = some v) : FitsG N D e' a :=
  ⟨h.size, h.defers, fun t v ht => h.at_ t v (hs t v ht)⟩
theorem FitsG.sel {N : Nat} {D : List Deferred} {e : Env} {a : Act} (h : FitsG N D e a) (ks : List Nat) : FitsG N D (e.sel ks) a := h.weaken fun t v ht => Env.find?_sel ks e t v ht
theorem FitsG.eval {N : Nat} {D : List Deferred} {e : Env} {a : Act} {x : Operand} {K : Value → Prop} (ha : FitsG N D e a) (h : arg e x K) : K (a.eval x) := by
  have h1 := arg_sound ha.bare h
  cases x <;> exact h1

def contG (C : CtxG) : List It → Exit → Act → World → Prop
  | [], ex, a, w => C.post ex a w
  | .code c :: k, ex, a, w => match ex with
    | .normal => c.wpIn (wideR C.L) 0 C.P (fun ex a w => contG C k ex a w) a w
    | ex => contG C k ex a w
  | .blk id :: k, ex, a, w => match ex with
    | .exit id' => if id' = id then contG C k .normal a w else contG C k (.exit id') a w
    | ex => contG C k ex a w
  | .again I :: k, ex, a, w => match ex with
    | .normal => ∃ e w0 n, w = w0.drewN n ∧ FitsG C.N C.D e a ∧ I e w0
    | ex => contG C k ex a w

def VG (C : CtxG) (k : List It) (e : Env) (w : World) : Prop := ∀ a n, FitsG C.N C.D e a → contG C k .normal a (w.drewN n)

section
variable {C : CtxG} {k : List It} {e : Env} {w : World}

theorem VG_seq {x y : Code} (h : VG C (.code x :: .code y :: k) e w) : VG C (.code (.seq x y) :: k) e w := by
  intro a n ha
  have h1 := h a n ha
  simp only [contG] at h1 ⊢
  refine wpIn_seq (wpIn_mono h1 fun ex a w hq => ?_)
  cases ex <;> exact hq

theorem VG_block {id : Nat} {c : Code} (h : VG C (.code c :: .blk id :: k) e w) : VG C (.code (.block id c) :: k) e w := by
  intro a n ha
  have h1 := h a n ha
  simp only [contG] at h1 ⊢
  refine wpIn_block (wpIn_mono h1 fun ex a w hq => ?_)
  cases ex <;> exact hq

theorem VG_blk {id : Nat} (h : VG C k e w) : VG C (.blk id :: k) e w := fun a n ha => h a n ha
theorem VG_skip (h : VG C k e w) : VG C (.code .skip :: k) e w := fun a n ha => wpIn_skip (h a n ha)
theorem VG_label {l : Nat} (h : VG C k e w) : VG C (.code (.label l) :: k) e w := fun a n ha => wpIn_label (h a n ha)
theorem VG_again {I : Env → World → Prop} (h : I e w) : VG C (.again I :: k) e w := fun _ n ha => ⟨e, w, n, rfl, ha, h⟩

theorem contG_popTo {id : Nat} {k k' : List It} (hp : popTo id k = some k') {a : Act} (h : contG C k' .normal a w) : contG C k (.exit id) a w := by
  induction k with
  | nil => simp [popTo] at hp
  | cons x k ih =>
    cases x with
    | code c => exact ih (by simpa [popTo] using hp)
    | again I => exact ih (by simpa [popTo] using hp)
    | blk id' =>
      simp only [contG]
      by_cases hid : id = id'
      · simp only [popTo, hid, if_true] at hp
        cases hp
        simp only [hid, if_true]; exact h
      · simp only [popTo, hid, if_false] at hp
        simp only [hid, if_false]; exact ih hp
theorem VG_exit {id : Nat} {k' : List It} (hp : popTo id k = some k') (h : VG C k' e w) : VG C (.code (.exit id) :: k) e w :=
  fun a n ha => wpIn_exit (contG_popTo hp (h a n ha))
theorem contG_out {id : Nat} {k : List It} (hp : popTo id k = none) {a : Act} (h : C.post (.exit id) a w) : contG C k (.exit id) a w := by
  induction k with
  | nil => exact h
  | cons x k ih =>
    cases x with
    | code c => exact ih (by simpa [popTo] using hp)
    | again I => exact ih (by simpa [popTo] using hp)
    | blk id' =>
      simp only [contG]
      by_cases hid : id = id'
      · simp only [popTo, hid, if_true] at hp; cases hp
      · simp only [popTo, hid, if_false] at hp
        simp only [hid, if_false]; exact ih hp
theorem VG_exitOut {id : Nat} (hp : popTo id k = none) (h : ∀ a n, FitsG C.N C.D e a → C.post (.exit id) a (w.drewN n)) : VG C (.code (.exit id) :: k) e w :=
  fun a n ha => wpIn_exit (contG_out hp (h a n ha))
theorem contG_ret {k : List It} {a : Act} (h : C.post .ret a w) : contG C k .ret a w := by
  induction k with
  | nil => exact h
  | cons x k ih => cases x <;> exact ih
theorem contG_panic {k : List It} {c : List PanicEntry} {a : Act} : contG C k (.panic c) a w ↔ C.post (.panic c) a w := by
  induction k with
  | nil => exact Iff.rfl
  | cons x k ih => cases x <;> exact ih
theorem VG_ret (h : ∀ a n, FitsG C.N C.D e a → C.post .ret a (w.drewN n)) : VG C (.code .ret :: k) e w := fun a n ha => wpIn_ret (contG_ret (h a n ha))
theorem VG_nil (h : ∀ a n, FitsG C.N C.D e a → C.post .normal a (w.drewN n)) : VG C [] e w := fun a n ha => h a n ha

theorem VG_cond {c : Operand} {t : Tmp} {b : Bool} {x y : Code} (hc : c = .tmp t) (hv : e.find? t = some (.bool b))
    (ht : b = true → VG C (.code x :: k) e w) (hf : b = false → VG C (.code y :: k) e w) : VG C (.code (.cond c x y) :: k) e w := by
  intro a n ha
  subst hc
  exact wpIn_cond_split (t := b) (ha.at_ t _ hv) (fun h => ht h a n ha) (fun h => hf h a n ha)

theorem VG_weaken {e' : Env} (hs : ∀ t v, e'.find? t = some v → e.find? t = some v) (h : VG C k e' w) : VG C k e w := fun a n ha => h a n (ha.weaken hs)
end

theorem wpIn_loop_any {F : Fence} {n0 : Nat} {P : Program} {Q : Exit → Act → World → Prop} {a : Act} {w : World} {c : Code} (I : Nat → Act → World → Prop) (n : Nat) (h₀ : I n a w)
    (round : ∀ n a w, I n a w → c.wpIn F n0 P (Exit.then (fun a' w' => ∃ m, m < n ∧ I m a' w') Q) a w) : (Code.loop c).wpIn F n0 P Q a w := by
  intro b k cs hro hb hr
  have key : ∀ j a w, I j a w →
      ∃ e a' w', Q e a' w' ∧ ArrivesIn (Machine.fenced P F) P (lone (b.atR a (.code c :: .inLoop c :: k)) cs w) b k cs e a' w' := by
    intro j
    induction j using Nat.strongRecOn with
    | _ j ih =>
      intro a w hI
      obtain ⟨e, a₁, w₁, hq, harr⟩ := round j a w hI b (.inLoop c :: k) cs hro hb hr
      cases e with
      | normal =>
        obtain ⟨m, hlt, hI₁⟩ := hq
        obtain ⟨e₂, a₂, w₂, hq₂, harr₂⟩ := ih m hlt a₁ w₁ hI₁
        exact ⟨e₂, a₂, w₂, hq₂, .of_steps (StepsIn.trans harr (.one (fenced_calm hb hr rfl) stepR_inLoop)) harr₂⟩
      | exit id => exact ⟨_, a₁, w₁, hq, .pass (x := .inLoop c) rfl (fun _ _ => .inl (by simp)) harr⟩
      | goto l => exact ⟨_, a₁, w₁, hq, .pass (x := .inLoop c) rfl (fun _ _ => .inl (by simp)) harr⟩
      | ret => exact ⟨_, a₁, w₁, hq, .pass (x := .inLoop c) rfl (fun _ _ => .inl (by simp)) harr⟩
      | panic ch => exact ⟨_, a₁, w₁, hq, .pass (x := .inLoop c) rfl (fun _ _ => .inl (by simp)) harr⟩
      | outgrown => exact ⟨_, a₁, w₁, hq, .pass (x := .inLoop c) rfl (fun _ _ => .inl (by simp)) harr⟩
  obtain ⟨e, a', w', hq, harr⟩ := key _ a w h₀
  exact ⟨e, a', w', hq, .of_steps (.one (fenced_calm hb hr rfl) stepR_loop) harr⟩

section
variable {C : CtxG} {k : List It} {e : Env} {w : World}

theorem VG_loopS (ks : List Nat) {body : Code} (I : Nat → Env → World → Prop) (n : Nat) (h0 : selK ks e fun e => I n e w)
    (round : ∀ n e w, I n e w → VG C (.code body :: .again (fun e' w' => selK ks e' fun e' => ∃ m, m < n ∧ I m e' w') :: k) e w) : VG C (.code (.loop body) :: k) e w := by
  intro a d ha
  refine wpIn_loop_any (fun n a w => ∃ e w0 d, w = w0.drewN d ∧ FitsG C.N C.D e a ∧ I n e w0) n ⟨_, w, d, rfl, ha.sel ks, (selK_spec ks e _).1 h0⟩ ?_
  rintro n a w ⟨e, w0, d, rfl, ha, hI⟩
  have h1 := round n e w0 hI a d ha
  simp only [contG] at h1
  refine wpIn_mono h1 fun ex a w hq => ?_
  cases ex with
  | normal => obtain ⟨e', w1, d', hw, hf, hI'⟩ := hq; obtain ⟨m, hm, hI'⟩ := (selK_spec ks e' _).1 hI'; exact ⟨m, hm, _, w1, d', hw, hf.sel ks, hI'⟩
  | _ => exact hq

theorem VG_cut (ks : List Nat) {c : Code} (J : Env → World → Prop) (h : VG C (.code c :: .again (fun e w => selK ks e fun e => J e w) :: k) e w)
    (hJ : ∀ e w, J e w → VG C k e w) : VG C (.code c :: k) e w := by
  intro a d ha
  have h1 := h a d ha
  simp only [contG] at h1 ⊢
  refine wpIn_mono h1 fun ex a w hq => ?_
  cases ex with
  | normal => obtain ⟨e', w0, d', rfl, hf, hI'⟩ := hq; exact hJ _ _ ((selK_spec ks e' _).1 hI') a d' (hf.sel ks)
  | _ => exact hq

/-- The region's end, for the walks of regions. -/
def endG (C : CtxG) (k : List It) : Exit → Act → World → Prop := fun ex a w => match ex with | .normal => contG C k .normal a w | _ => False
theorem endG_mono (ex : Exit) (a : Act) (w : World) (h : endG C k ex a w) : contG C k ex a w := by
  cases ex <;> first | exact h | exact h.elim
theorem endG_normal (ks : List Nat) {e : Env} {a : Act} {w : World} {n : Nat} (ha : Fits C.N e a) (hv : selC ks (VG C k) e w) : Qapp C.D (endG C k) .normal a (w.drewN n) :=
  ⟨ha.defers, ((selK_spec ks e _).1 hv) _ n ((FitsG.of ha).sel ks)⟩

theorem VG_region (ks : List Nat) {id : Nat} {ops : List Oper} (hN : (ops.all (dstOk C.N) && ops.all noDefer) = true)
    (h : ∀ K : Env → World → Prop, (∀ e w, VG C k e w → K e w) → vcOps C.P C.N ops ops e w (selC ks K)) : VG C (.code (.region id ops.toArray false) :: k) e w := by
  intro a n ha
  simp only [Bool.and_eq_true] at hN
  rw [← ha.app]
  refine wpIn_mono (wpG_region (Q := endG C k) hN.2 ?_) endG_mono
  exact vcOps_sound (K := selC ks (VG C k)) (fun e a w n ha hv => endG_normal ks ha hv) ops e _ w n hN.1 ha.bare (h _ fun _ _ hv => hv)

theorem VG_regionQ (ks : List Nat) {id : Nat} {ops : List Oper} (hm : C.P.follows .mixedOrders = true) (hB : Region.lexB .any ops.toArray = true) (hN : (ops.all (dstOk C.N) && ops.all noDefer) = true)
    (h : ∀ K : Env → Prop, (∀ e, VG C k e w → K e) → vcQ C.P C.N ops ops e w (selQ ks K)) : VG C (.code (.region id ops.toArray true) :: k) e w := by
  intro a n ha
  simp only [Bool.and_eq_true] at hN
  rw [← ha.app]
  refine wpIn_mono (wpG_region_any (Q := endG C k) hm (by simpa using hN.2) ?_) endG_mono
  simp only [Region.lexB, Bool.and_eq_true] at hB
  refine wpAny_of_quiet (C := fun w' => ∃ n, w' = w.drewN n) (Q := fun a' => ∀ w', (∃ n, w' = w.drewN n) → Qapp C.D (endG C k) .normal a' w') (fun _ w' hw' h => h w' hw') _ _ _ _ ⟨n + 1, rfl⟩ ?_
  have := wpAnyQ_lex (C := fun w' => ∃ n, w' = w.drewN n) (P := C.P) (Q := fun a' => ∀ w', (∃ n, w' = w.drewN n) → Qapp C.D (endG C k) .normal a' w') (md := .any) hB.1 ops.toArray.toList 0 (Array.replicate ops.toArray.size false) { a with defers := [] } (by simp) (by simpa using hB.2) ?_
  · simpa using this
  · refine vcQ_sound (K := fun e => selK ks e fun e => VG C k e w) (fun e a ha hv => ?_) ops e _ hN.1 ha.bare (h _ fun _ hv => hv)
    rintro w' ⟨m, rfl⟩
    exact endG_normal ks ha hv

theorem VG_regionH (w0 : World) (hx : Ext w0 w) (ks : List Nat) (plan : List (Nat × Bool)) {id : Nat} {ops : List Oper} {l : List (Bool × Oper)}
    (hm : C.P.follows .mixedOrders = true) (hB : (planOk ops.toArray plan (Array.replicate ops.toArray.size false) && Region.noSelect ops.toArray && decide (plan.length ≤ ops.length)) = true) (hN : (ops.all (dstOk C.N) && ops.all noDefer) = true) (hl : planned ops plan = l)
    (h : ∀ K : Env → World → Prop, (∀ e w, VG C k e w → K e w) → vcH C.P C.N ops w0 l e w (selC ks K)) : VG C (.code (.region id ops.toArray true) :: k) e w := by
  intro a n ha
  simp only [Bool.and_eq_true, decide_eq_true_eq] at hB hN
  obtain ⟨⟨hB1, hB2⟩, hB3⟩ := hB
  rw [← ha.app]
  refine wpIn_mono (wpG_region_any (Q := endG C k) hm (by simpa using hN.2) (wpAny_of_held (S := fun w' => Ext w0 w') _ _ _ _ ?_)) endG_mono
  subst hl
  exact vcH_sound (K := selC ks (VG C k)) hN.1 hB2 (fun c a w d v hq => hq.elim) (fun e a w n ha hv => endG_normal ks ha hv) plan _ _ e _ w (n + 1) (by simpa using hB3) hB1 ha.bare hx (h _ fun _ _ hv => hv)

theorem VG_regionT (w0 : World) (hx : Ext w0 w) (ks : List Nat) (t : Tree) {id : Nat} {ops : List Oper}
    (hm : C.P.follows .mixedOrders = true) (hB : (treeOk ops.toArray t ops.toArray.size (Array.replicate ops.toArray.size false) && Region.noSelect ops.toArray) = true) (hN : (ops.all (dstOk C.N) && ops.all noDefer) = true)
    (h : ∀ K : Env → World → Prop, (∀ e w, VG C k e w → K e w) → vcT C.P C.N ops w0 t e w (selC ks K)) : VG C (.code (.region id ops.toArray true) :: k) e w := by
  intro a n ha
  simp only [Bool.and_eq_true] at hB hN
  obtain ⟨hB1, hB2⟩ := hB
  rw [← ha.app]
  refine wpIn_mono (wpG_region_any (Q := endG C k) hm (by simpa using hN.2) (wpAny_of_held (S := fun w' => Ext w0 w') _ _ _ _ ?_)) endG_mono
  exact vcT_sound (K := selC ks (VG C k)) hN.1 hB2 (fun c a w d v hq => hq.elim) (fun e a w n ha hv => endG_normal ks ha hv) t _ _ e _ w (n + 1) hB1 ha.bare hx (h _ fun _ _ hv => hv)
end
end Go.Eng

/-! The engine, part 22: calls that may panic, yield, ranges over functions, rounds, functions by the general judgement. -/
namespace Go.Eng
open Go

/-! ## What a call does, panics and all -/

def endsP (F : Value → World → Prop) (Pn : List PanicEntry → World → Prop) (e : Ending) (w' : World) : Prop :=
  match e with
  | .returned v => ∃ w n, w' = w.drewN n ∧ F v w
  | .panicked c => ∃ w n, w' = w.drewN n ∧ Pn c w
  | .outgrown => False

def DoesP (P : Program) (f : FuncId) (args : Array Value) (w : World) (F : Value → World → Prop) (Pn : List PanicEntry → World → Prop) : Prop :=
  ∀ n, Calls P f args (w.drewN n) (endsP F Pn)

def noPn : List PanicEntry → World → Prop := fun _ _ => False

theorem DoesP.does {P : Program} {f : FuncId} {args : Array Value} {w : World} {F : Value → World → Prop} (h : DoesP P f args w F noPn) : Does P f args w F :=
  fun n => (h n).mono fun e w' he => by
    cases e with
    | returned v => obtain ⟨w1, m, rfl, hF⟩ := he; exact ⟨v, w1, m, rfl, rfl, hF⟩
    | panicked c => obtain ⟨_, _, _, hF⟩ := he; exact hF.elim
    | outgrown => exact he.elim
theorem Does.doesP {P : Program} {f : FuncId} {args : Array Value} {w : World} {F : Value → World → Prop} {Pn : List PanicEntry → World → Prop} (h : Does P f args w F) : DoesP P f args w F Pn :=
  fun n => (h n).mono fun _ _ ⟨_, w1, m, he, hw, hF⟩ => by subst he; exact ⟨w1, m, hw, hF⟩
theorem DoesP.mono {P : Program} {f : FuncId} {args : Array Value} {w : World} {F G : Value → World → Prop} {Pn Qn : List PanicEntry → World → Prop} (h : DoesP P f args w F Pn) (hg : ∀ v w', F v w' → G v w') (hp : ∀ c w', Pn c w' → Qn c w') : DoesP P f args w G Qn :=
  fun n => (h n).mono fun e w' he => by
    cases e with
    | returned v => obtain ⟨w1, m, hw, hF⟩ := he; exact ⟨w1, m, hw, hg _ _ hF⟩
    | panicked c => obtain ⟨w1, m, hw, hF⟩ := he; exact ⟨w1, m, hw, hp _ _ hF⟩
    | outgrown => exact he.elim

abbrev postG (P : Program) (fn : Func) (F : Value → World → Prop) (Pn : List PanicEntry → World → Prop) : Exit → Act → World → Prop := bodyPostM Fence.wide 0 P fn (endsP F Pn)

theorem DoesP_enter {P : Program} {f : FuncId} {fn : Func} {c : Code} {args : List Value} {w : World} {F : Value → World → Prop} {Pn : List PanicEntry → World → Prop} (N : Nat)
    (hf : P.funcs[f]? = some fn) (hb : fn.body = some c) (hN : fn.ntmps = N) (hle : args.length ≤ N)
    (h : VG ⟨P, N, none, [], postG P fn F Pn⟩ [.code c] (Env.ofArgs 0 args) w) : DoesP P f args.toArray w F Pn := by
  intro n
  refine callsIn_wide.1 (callsIn_of_wp_marks (F := Fence.wide) (n := 0) hf hb trivial ?_ rfl)
  have h1 := h { tmps := args.toArray ++ Array.replicate (fn.ntmps - args.toArray.size) undef, defers := [] } n ⟨by simp [hN]; omega, rfl, fun t v ht => ?_⟩
  · exact wpIn_mono (F := Fence.wide) h1 fun ex a w hq => hq
  · have := (Env.find?_ofArgs args 0 t v ht).2
    rw [Array.getD_eq_getD_getElem?, Array.getElem?_append]
    have hlt : t < args.toArray.size := by
      have h2 := (List.getElem?_eq_some_iff.1 this).1
      simpa using h2
    simp only [hlt, if_true]
    simp at this ⊢
    simp [this]

theorem Does_enterG {P : Program} {f : FuncId} {fn : Func} {c : Code} {args : List Value} {w : World} {F : Value → World → Prop} (N : Nat)
    (hf : P.funcs[f]? = some fn) (hb : fn.body = some c) (hN : fn.ntmps = N) (hle : args.length ≤ N)
    (h : VG ⟨P, N, none, [], postG P fn F noPn⟩ [.code c] (Env.ofArgs 0 args) w) : Does P f args.toArray w F := (DoesP_enter N hf hb hN hle h).does

/-! ends -/
def markD (r : Nat) : Deferred := { target := .collected r, args := #[] }

theorem post_res {P : Program} {fn : Func} {F : Value → World → Prop} {Pn : List PanicEntry → World → Prop} {N : Nat} {e : Env} {w : World} {D : List Deferred} (hx : VX ⟨P, fn, F, N⟩ [] .ret e w) {a : Act} {n : Nat} (ha : FitsG N D e a) :
    LeavesInM Fence.wide 0 P fn a.tmps (endsP F Pn) [] .returning (w.drewN n) := by
  obtain ⟨_, v, hr, v', w1, m, he, hw, hF⟩ := hx _ n ha.bare
  cases he
  exact ⟨v, hr, w1, m, hw, hF⟩

theorem ret0 {P : Program} {fn : Func} {F : Value → World → Prop} {Pn : List PanicEntry → World → Prop} {N : Nat} {e : Env} {w : World} (hx : VX ⟨P, fn, F, N⟩ [] .ret e w) :
    ∀ a n, FitsG N [] e a → postG P fn F Pn .ret a (w.drewN n) := fun a n ha => by
  show LeavesInM _ _ _ _ _ _ a.defers _ _
  rw [ha.defers]
  exact post_res hx ha
theorem nil0 {P : Program} {fn : Func} {F : Value → World → Prop} {Pn : List PanicEntry → World → Prop} {N : Nat} {e : Env} {w : World} (hx : VX ⟨P, fn, F, N⟩ [] .ret e w) :
    ∀ a n, FitsG N [] e a → postG P fn F Pn .normal a (w.drewN n) := ret0 hx

theorem drewN_putObj (w : World) (n r : Nat) (o : Obj) : (w.drewN n).putObj r o = (w.putObj r o).drewN n := rfl
theorem ret1 {P : Program} {fn : Func} {F : Value → World → Prop} {Pn : List PanicEntry → World → Prop} {N : Nat} {e : Env} {w : World} {r : Nat} (hm : w.heap[r]? = some (.deferred (some []))) (hx : VX ⟨P, fn, F, N⟩ [] .ret e (w.putObj r (.deferred none))) :
    ∀ a n, FitsG N [markD r] e a → postG P fn F Pn .ret a (w.drewN n) := fun a n ha => by
  show LeavesInM _ _ _ _ _ _ a.defers _ _
  rw [ha.defers]
  exact ⟨by simp, .inl ⟨r, (w.putObj r (.deferred none)).drewN n, rfl, run_takeDeferred (w := w.drewN n) hm, post_res hx ha⟩⟩
theorem panic0 {P : Program} {fn : Func} {F : Value → World → Prop} {Pn : List PanicEntry → World → Prop} {N : Nat} {e : Env} {w : World} {c : List PanicEntry} (hx : Pn c w) :
    ∀ a n, FitsG N [] e a → postG P fn F Pn (.panic c) a (w.drewN n) := fun a n ha => by
  show LeavesInM _ _ _ _ _ _ a.defers _ _
  rw [ha.defers]
  exact ⟨w, n, rfl, hx⟩

/-! ## One operation out of the common in a region -/

def SpecK (C : CtxG) (o : Oper) (e : Env) (w : World) (R : Value → World → Prop) : Prop :=
  ∀ (a : Act) (n : Nat) (next : Act → World → Prop) (Q : Exit → Act → World → Prop), FitsG C.N C.D e a → (∀ (v : Value) (w' : World) (m : Nat), R v w' → next (a.put o.dst v) (w'.drewN m)) →
    (∀ (c : List PanicEntry) (w' : World) (m : Nat), C.post (.panic c) a (w'.drewN m) → Q (.panic c) a (w'.drewN m)) → o.wpIn (wideR C.L) 0 C.P a (w.drewN n) next Q

def spC (A : Env → World → Prop) : Env → World → Prop := A
theorem o_nilSp {P : Program} {N : Nat} {ops : List Oper} {e : Env} {w : World} (A : Env → World → Prop) : vcOps P N ops [] e w (spC A) = A e w := rfl

theorem wpListIn_append {F : Fence} {n : Nat} {P : Program} {ops : Array Oper} {Q : Exit → Act → World → Prop} (l2 : List Oper) : ∀ (l1 : List Oper) (a : Act) (w : World),
    wpListIn F n P ops (Exit.then (wpListIn F n P ops Q l2) Q) l1 a w → wpListIn F n P ops Q (l1 ++ l2) a w := by
  intro l1
  induction l1 with
  | nil => intro a w h; exact h
  | cons o l1 ih =>
    intro a w h
    simp only [wpListIn, List.cons_append] at h ⊢
    split
    · rename_i hw
      rw [if_pos hw] at h
      obtain ⟨h1, h2⟩ := h
      refine ⟨h1, ?_⟩
      revert h2
      generalize (o.semAt F.round a.eval).run P w = r
      intro h2
      cases r with
      | ok x w' =>
        cases x <;> simp only [Oper.uponIn] at h2 ⊢ <;>
          first
            | exact ih _ _ h2
            | exact ⟨h2.1, CallsIn.mono h2.2 (fun e w'' he => by cases e <;> first | exact ih _ _ he | exact he | (obtain ⟨a0, w0, he⟩ := he; exact ⟨a0, w0, he⟩))⟩
            | exact ⟨h2.1, RowsIn.mono h2.2 (fun _ _ he => ih _ _ he)⟩
            | exact ⟨h2.1, RoundIn.mono h2.2 (fun e w'' he => by cases e <;> first | exact ih _ _ he | exact he | (obtain ⟨a0, w0, he⟩ := he; exact ⟨a0, w0, he⟩))⟩
            | exact h2
      | halt x w' => cases x <;> simp only [Oper.uponIn] at h2 ⊢ <;> exact h2
    · rename_i hw
      rw [if_neg hw] at h
      exact ⟨h.1, ih _ _ h.2⟩

theorem wpList_app {P : Program} {L : Option Nat} {D : List Deferred} {Q : Exit → Act → World → Prop} {ops : Array Oper} : ∀ (l : List Oper) (a : Act) (w : World), l.all noDefer = true →
    wpList P ops (Qapp D Q) l a w → wpListIn (wideR L) 0 P ops Q l (a.app D) w := by
  intro l
  induction l with
  | nil => intro a w _ h; exact h.2
  | cons o l ih =>
    intro a w hd h
    simp only [List.all_cons, Bool.and_eq_true] at hd
    simp only [wpList, wpListIn] at h ⊢
    have ht : (a.app D).tmps = a.tmps := rfl
    rw [ht]
    split
    · rename_i hw
      rw [if_pos hw] at h
      rcases h with h | ⟨_, _, _, h⟩
      · exact op_app hd.1 (fun a w => ih a w hd.2) h
      · exact h.elim
    · rename_i hw
      rw [if_neg hw] at h
      have h2 := ih _ _ hd.2 h; rw [app_put] at h2; exact ⟨fun _ _ => trivial, h2⟩

theorem wpListIn_mono {F : Fence} {n : Nat} {P : Program} {ops : Array Oper} {Q Q' : Exit → Act → World → Prop} (hq : ∀ ex a w, Q ex a w → Q' ex a w) : ∀ (l : List Oper) (a : Act) (w : World), wpListIn F n P ops Q l a w → wpListIn F n P ops Q' l a w := by
  intro l
  induction l with
  | nil => intro a w h; exact hq _ _ _ h
  | cons x l ih =>
    intro a w h
    simp only [wpListIn] at h ⊢
    split
    · rename_i hw
      rw [if_pos hw] at h
      obtain ⟨g1, g2⟩ := h
      refine ⟨g1, ?_⟩
      revert g2
      generalize (x.semAt F.round a.eval).run P w = r
      intro g2
      cases r with
      | ok y w' =>
        cases y <;> simp only [Oper.uponIn] at g2 ⊢ <;>
          first
            | exact ih _ _ g2
            | exact ⟨g2.1, CallsIn.mono g2.2 (fun e w'' he => by cases e <;> first | exact ih _ _ he | exact hq _ _ _ he | (obtain ⟨a0, w0, he⟩ := he; exact ⟨a0, w0, hq _ _ _ he⟩))⟩
            | exact ⟨g2.1, RowsIn.mono g2.2 (fun _ _ he => ih _ _ he)⟩
            | exact ⟨g2.1, RoundIn.mono g2.2 (fun e w'' he => by cases e <;> first | exact ih _ _ he | exact hq _ _ _ he | (obtain ⟨a0, w0, he⟩ := he; exact ⟨a0, w0, hq _ _ _ he⟩))⟩
            | exact g2
      | halt y w' => cases y <;> simp only [Oper.uponIn] at g2 ⊢ <;> first | exact hq _ _ _ g2 | exact g2
    · rename_i hw
      rw [if_neg hw] at h
      exact ⟨h.1, ih _ _ h.2⟩

/-- Operations out of the common: how many of the usual ones stand ahead of each. -/
def SpecAt (C : CtxG) (ops : List Oper) (R : List Oper → Env → World → Prop) (l : List Oper) (e : Env) (w : World) : Prop :=
  match l with
  | o :: l' => vGuard ops o.guard e (fun e => SpecK C o e w fun v w => R l' (e.put o.dst v) w) (fun e => R l' (e.put o.dst undef) w)
  | [] => False
def vcSegs (C : CtxG) (ops : List Oper) (K : Env → World → Prop) : List Nat → List Oper → Env → World → Prop
  | [], l, e, w => vcOps C.P C.N ops l e w K
  | i :: is, l, e, w => vcOps C.P C.N ops (l.take i) e w (spC fun e w => SpecAt C ops (vcSegs C ops K is) (l.drop i) e w)
def okSegs (N : Nat) : List Nat → List Oper → Bool
  | [], l => l.all (dstOk N) && l.all noDefer
  | i :: is, l => (l.take i).all (dstOk N) && (l.take i).all noDefer && match l.drop i with
    | o :: l' => dstOk N o && okSegs N is l'
    | [] => false

theorem sg_nil {C : CtxG} {ops l : List Oper} {K : Env → World → Prop} {e : Env} {w : World} : vcSegs C ops K [] l e w = vcOps C.P C.N ops l e w K := rfl
theorem sg_cons {C : CtxG} {ops l : List Oper} {K : Env → World → Prop} {e : Env} {w : World} (i : Nat) (is : List Nat) : vcSegs C ops K (i :: is) l e w = vcOps C.P C.N ops (l.take i) e w (spC fun e w => SpecAt C ops (vcSegs C ops K is) (l.drop i) e w) := rfl
theorem sg_at {C : CtxG} {ops l : List Oper} {R : List Oper → Env → World → Prop} {e : Env} {w : World} (d : Option Tmp) (op : Op) (ty : Nat) (pos : String) (af : Array Edge) : SpecAt C ops R (⟨d, op, ty, pos, af, none⟩ :: l) e w = SpecK C ⟨d, op, ty, pos, af, none⟩ e w fun v w => R l (e.put d v) w := rfl
theorem sg_atg {C : CtxG} {ops l : List Oper} {R : List Oper → Env → World → Prop} {e : Env} {w : World} (d : Option Tmp) (op : Op) (ty : Nat) (pos : String) (af : Array Edge) (j : Nat) (b : Bool) : SpecAt C ops R (⟨d, op, ty, pos, af, some (j, b)⟩ :: l) e w = vGuardL ops j b e (fun e => SpecK C ⟨d, op, ty, pos, af, some (j, b)⟩ e w fun v w => R l (e.put d v) w) (fun e => R l (e.put d undef) w) := by
  rw [← vGuardL_eq]; rfl

theorem segs_sound {C : CtxG} {ops : List Oper} {Q : Exit → Act → World → Prop} {K : Env → World → Prop} (hQ : ∀ c a w, C.post (.panic c) a w → Q (.panic c) a w)
    (hK : ∀ e a w n, FitsG C.N C.D e a → K e w → Q .normal a (w.drewN n)) : ∀ (is : List Nat) (l : List Oper) (e : Env) (a : Act) (w : World) (n : Nat), okSegs C.N is l = true → FitsG C.N C.D e a →
      vcSegs C ops K is l e w → wpListIn (wideR C.L) 0 C.P ops.toArray Q l a (w.drewN n) := by
  intro is
  induction is with
  | nil =>
    intro l e a w n hl ha h
    simp only [okSegs, Bool.and_eq_true] at hl
    have hA := vcOps_sound (P := C.P) (N := C.N) (ops := ops) (Q := Qapp C.D fun ex a w => match ex with | .normal => Q .normal a w | _ => False) (K := K)
      (fun e a w n ha hv => ⟨ha.defers, hK e _ w n (FitsG.of ha) hv⟩) l e _ w n hl.1 ha.bare h
    have hB := wpList_app (L := C.L) _ _ _ hl.2 hA
    rw [ha.app] at hB
    refine wpListIn_mono (fun ex a w hq => ?_) _ _ _ hB
    cases ex <;> first | exact hq | exact hq.elim
  | cons i is ih =>
    intro l e a w n hl ha h
    simp only [okSegs, Bool.and_eq_true] at hl
    obtain ⟨⟨h1, h2⟩, h3⟩ := hl
    cases hd : l.drop i with
    | nil => rw [hd] at h3; cases h3
    | cons o l' =>
      rw [hd] at h3
      simp only [Bool.and_eq_true] at h3
      rw [← List.take_append_drop i l, hd]
      refine wpListIn_append _ _ _ _ ?_
      rw [sg_cons, hd] at h
      have hA := vcOps_sound (P := C.P) (N := C.N) (ops := ops) (Q := Qapp C.D fun ex a w => match ex with
          | .normal => ∃ e w0 n, w = w0.drewN n ∧ FitsG C.N C.D e a ∧ SpecAt C ops (vcSegs C ops K is) (o :: l') e w0
          | _ => False)
        (fun e a w n ha hv => ⟨ha.defers, e, w, n, rfl, FitsG.of ha, hv⟩) (l.take i) e _ w n h1 ha.bare h
      have hB := wpList_app (L := C.L) _ _ _ h2 hA
      rw [ha.app] at hB
      refine wpListIn_mono (fun ex a w hq => ?_) _ _ _ hB
      cases ex with
      | normal =>
        obtain ⟨e1, w1, m, rfl, hf, hs⟩ := hq
        show wpListIn _ _ _ _ _ (o :: l') a _
        simp only [wpListIn]
        have hput : ∀ (e2 : Env) (v : Value), FitsG C.N C.D e2 a → FitsG C.N C.D (e2.put o.dst v) (a.put o.dst v) := fun e2 v hf2 => by
          have g1 := hf2.bare.put' h3.1 v
          have g2 := FitsG.of (D := C.D) g1
          rw [app_put, hf2.app] at g2
          exact g2
        have hfa : ∀ e2, Fits C.N e2 { a with defers := [] } → FitsG C.N C.D e2 a := fun e2 g => ⟨g.size, hf.defers, g.at_⟩
        have hs' : vGuard ops o.guard e1 (fun e => SpecK C o e w1 fun v w => vcSegs C ops K is l' (e.put o.dst v) w) (fun e => vcSegs C ops K is l' (e.put o.dst undef) w1) := hs
        rcases vGuard_sound hf.bare hs' with ⟨e2, g1, g2, hw⟩ | ⟨e2, g1, g2, hw⟩
        · rw [if_pos hw]
          exact g2 a m _ _ (hfa e2 g1) (fun v w' m' hv => ih l' _ _ w' m' h3.2 (hput e2 v (hfa e2 g1)) hv) (fun c w' m' hp => hQ _ _ _ hp)
        · rw [if_neg (by rw [hw]; simp)]
          exact ⟨fun _ _ => trivial, ih l' _ _ w1 m h3.2 (hput e2 undef (hfa e2 g1)) g2⟩
      | _ => exact hq.elim

section
variable {C : CtxG} {k : List It} {e : Env} {w : World}

/-- A region with operations out of the common. -/
theorem VG_regionS (ks : List Nat) (is : List Nat) {id : Nat} {ops : List Oper} (hN : okSegs C.N is ops = true)
    (h : ∀ K : Env → World → Prop, (∀ e w, VG C k e w → K e w) → vcSegs C ops (selC ks K) is ops e w) : VG C (.code (.region id ops.toArray false) :: k) e w := by
  intro a n ha
  refine wpIn_region_lit ?_
  exact segs_sound (Q := fun ex a w => contG C k ex a w) (K := selC ks (VG C k)) (fun c a w hp => contG_panic.2 hp) (fun e a w n ha hv => ((selK_spec ks e _).1 hv) a n (ha.sel ks)) is ops e a w n hN ha (h _ fun _ _ hv => hv)

variable {d : Option Tmp} {ty : Nat} {pos : String} {af : Array Edge} {gd : Option (Nat × Bool)} {R : Value → World → Prop}

/-- A call, by its contract, that may panic. -/
def CallP (C : CtxG) (e : Env) (fv : Value) (vs : List Value) (w : World) (R : Value → World → Prop) : Prop :=
  ∃ f first cs, fv = .func (.func f) first cs ∧ (∀ args w, (callFunc f args).run C.P w = .ok (.enter f args) w) ∧ ∃ F Pn, DoesP C.P f (first.toList ++ vs ++ cs.toList).toArray w F Pn ∧ (∀ v w', F v w' → R v w') ∧ (∀ c w', Pn c w' → ∀ a n, FitsG C.N C.D e a → C.post (.panic c) a (w'.drewN n))

theorem CallP.mk {f : FuncId} {first cs : Array Value} {vs : List Value} {F : Value → World → Prop} {Pn : List PanicEntry → World → Prop} (hf : ∀ args w, (callFunc f args).run C.P w = .ok (.enter f args) w)
    (h : DoesP C.P f (first.toList ++ vs ++ cs.toList).toArray w F Pn) (hc : ∀ v w', F v w' → R v w') (hp : ∀ c w', Pn c w' → ∀ a n, FitsG C.N C.D e a → C.post (.panic c) a (w'.drewN n)) : CallP C e (.func (.func f) first cs) vs w R :=
  ⟨f, first, cs, rfl, hf, F, Pn, h, hc, hp⟩

theorem SpecK_callv {x : Operand} {as : Array Operand} {ts : Array TypeId}
    (h : arg e x fun fv => argL e as.toList fun vs => CallP C e fv vs w R) :
    SpecK C ⟨d, .call { callee := .value x, args := as, argTypes := ts }, ty, pos, af, gd⟩ e w R := by
  intro a n next Q ha hK hP
  have h0 := arg_sound ha.bare h
  have h1 := argL_sound ha.bare h0
  obtain ⟨f, first, cs, hx, hf, F, Pn, hD, hC, hpn⟩ := h1
  have ev : ({ a with defers := [] } : Act).eval = a.eval := by funext x; cases x <;> rfl
  rw [ev] at hx hD
  have hm : (as.map a.eval) = (as.toList.map a.eval).toArray := map_eval as a
  have e1 : first ++ (as.toList.map a.eval).toArray ++ cs = (first.toList ++ as.toList.map a.eval ++ cs.toList).toArray := by
    apply Array.ext'; simp
  have hrun : (execOp a.eval ⟨d, .call { callee := .value x, args := as, argTypes := ts }, ty, pos, af, gd⟩).run C.P (w.drewN n) = .ok (.enter f (first.toList ++ as.toList.map a.eval ++ cs.toList).toArray) (w.drewN n) := by
    simp only [execOp, resolve, hx, Deferred.ofValue, Sem.run_bind, Sem.run_pure, Result.andThen_ok, invoke, hm, e1]
    simp [hf]
  refine ⟨fun _ _ => trivial, ?_⟩
  rw [Oper.semAt_eq _ _ _ (fun c hc => by cases hc), hrun]
  refine ⟨by simp [wideR, Fence.wide], callsIn_wideR ((hD n).mono fun e' w' he => ?_)⟩
  cases e' with
  | returned v => obtain ⟨w1, m, rfl, hF⟩ := he; exact hK v w1 m (hC v w1 hF)
  | panicked c => obtain ⟨w1, m, rfl, hF⟩ := he; exact hP c w1 m (hpn c w1 hF a m ha)
  | outgrown => exact he.elim

/-- yield, by what the round does. -/
def YieldK (P : Program) (l : Nat) (vs : List Value) (w : World) (R : Value → World → Prop) : Prop :=
  ∀ n, ∃ fn tmps assign body, (Instr.yield l vs.toArray).run P (w.drewN n) = .ok (.round l fn tmps assign body) (w.drewN n) ∧
    RoundIn Fence.wide 0 P l fn tmps assign body (w.drewN n) fun e w' => ∃ v w1 m, e = .returned v ∧ w' = w1.drewN m ∧ R v w1
theorem YieldK.mono {P : Program} {l : Nat} {vs : List Value} {w : World} {R R' : Value → World → Prop} (h : YieldK P l vs w R) (hr : ∀ v w', R v w' → R' v w') : YieldK P l vs w R' := fun n => by
  obtain ⟨fn, tmps, as, bd, h1, h2⟩ := h n
  exact ⟨fn, tmps, as, bd, h1, h2.mono fun e w' ⟨v, w1, m, he, hw, hR⟩ => ⟨v, w1, m, he, hw, hr _ _ hR⟩⟩

theorem SpecK_yield {x : Operand} {as : Array Operand} {ts : Array TypeId}
    (h : arg e x fun fv => argL e as.toList fun vs => ∃ l, fv = .func (.yield l) #[] #[] ∧ YieldK C.P l vs w R) :
    SpecK C ⟨d, .call { callee := .value x, args := as, argTypes := ts }, ty, pos, af, gd⟩ e w R := by
  intro a n next Q ha hK hP
  have h0 := arg_sound ha.bare h
  have h1 := argL_sound ha.bare h0
  obtain ⟨l, hx, hY⟩ := h1
  have ev : ({ a with defers := [] } : Act).eval = a.eval := by funext x; cases x <;> rfl
  rw [ev] at hx hY
  obtain ⟨fn, tmps, asg, bd, hy, hR⟩ := hY n
  have hm : (as.map a.eval) = (as.toList.map a.eval).toArray := map_eval as a
  have hrun : (execOp a.eval ⟨d, .call { callee := .value x, args := as, argTypes := ts }, ty, pos, af, gd⟩).run C.P (w.drewN n) = .ok (.round l fn tmps asg bd) (w.drewN n) := by
    simp only [execOp, resolve, hx, Deferred.ofValue, Sem.run_bind, Sem.run_pure, Result.andThen_ok, invoke, hm]
    simpa using hy
  refine ⟨fun _ _ => trivial, ?_⟩
  rw [Oper.semAt_eq _ _ _ (fun c hc => by cases hc), hrun]
  refine ⟨by simp [wideR, Fence.wide], ?_⟩
  refine RoundIn.mono (F := wideR C.L) (show RoundIn (wideR C.L) (0 - 1) C.P l fn tmps asg bd (w.drewN n) _ from hR) fun e' w' he => ?_
  obtain ⟨v, w1, m, rfl, rfl, hv⟩ := he
  exact hK v w1 m hv

theorem SpecK_panic {x : Operand} (h : arg e x fun v => (∃ t u, v = .iface t u) ∧ ∀ a n, FitsG C.N C.D e a → C.post (.panic [{ v := v, recovered := false }]) a (w.drewN n)) :
    SpecK C ⟨d, .panic x, ty, pos, af, gd⟩ e w R := by
  intro a n next Q ha hK hP
  obtain ⟨⟨t, u, hx⟩, hp⟩ := arg_sound ha.bare h
  have ev : ({ a with defers := [] } : Act).eval = a.eval := by funext x; cases x <;> rfl
  rw [ev] at hx hp
  have hrun : (execOp a.eval ⟨d, .panic x, ty, pos, af, gd⟩).run C.P (w.drewN n) = .halt (.panic (a.eval x)) (w.drewN n) := by
    simp only [execOp, hx, Instr.panic]
    rfl
  refine ⟨fun _ _ => trivial, ?_⟩
  rw [Oper.semAt_eq _ _ _ (fun c hc => by cases hc), hrun]
  exact hP _ w n (hp a n ha)

/-! ## Deferred calls: the context changes -/

def noAgain : List It → Bool
  | [] => true
  | .again _ :: _ => false
  | _ :: k => noAgain k

theorem contG_D (D : List Deferred) {k : List It} (hk : noAgain k = true) : ∀ {ex : Exit} {a : Act} {w : World}, contG { C with D := D } k ex a w ↔ contG C k ex a w := by
  induction k with
  | nil => intro ex a w; exact Iff.rfl
  | cons x k ih =>
    intro ex a w
    cases x with
    | again I => cases hk
    | blk id =>
      have ih := fun {ex a w} => @ih hk ex a w
      cases ex <;> first | exact ih | skip
      rename_i id'
      simp only [contG]
      split
      · exact ih
      · exact ih
    | code c =>
      have ih := fun {ex a w} => @ih hk ex a w
      cases ex <;> first | exact ih | skip
      simp only [contG]
      constructor
      · exact fun h => wpIn_mono h fun ex a w hq => ih.1 hq
      · exact fun h => wpIn_mono h fun ex a w hq => ih.2 hq

/-- A region that ends in a defer statement. -/
theorem VG_regionD {P : Program} {N : Nat} {D : List Deferred} {post : Exit → Act → World → Prop} (ks : List Nat) (i : Nat) {id : Nat} {ops : List Oper} {x : Operand} {as : Array Operand} {ts : Array TypeId} (hk : noAgain k = true)
    (hN : ((ops.take i).all (dstOk N) && (ops.take i).all noDefer) = true) (hl : ops.drop i = [⟨none, .defer { callee := .value x, args := as, argTypes := ts }, ty, pos, af, none⟩])
    (h : ∀ K : Deferred → Env → World → Prop, (∀ d e w, VG ⟨P, N, none, d :: D, post⟩ k e w → K d e w) →
      vcOps P N ops (ops.take i) e w (spC fun e w => arg e x fun fv => argL e as.toList fun vs => ∃ f first cs, fv = .func (.func f) first cs ∧ selK ks e fun e => K { target := .fn (.func f) cs, args := first ++ vs.toArray } e w)) : VG ⟨P, N, none, D, post⟩ (.code (.region id ops.toArray false) :: k) e w := by
  intro a n ha
  simp only [Bool.and_eq_true] at hN
  refine wpIn_region_lit ?_
  have key : wpListIn (wideR none) 0 P ops.toArray (fun ex a w => contG ⟨P, N, none, D, post⟩ k ex a w) (ops.take i ++ [⟨none, .defer { callee := .value x, args := as, argTypes := ts }, ty, pos, af, none⟩]) a (w.drewN n) := by
    refine wpListIn_append _ _ _ _ ?_
    have hA := vcOps_sound (P := P) (N := N) (ops := ops) (Q := Qapp D fun ex a w => match ex with
        | .normal => ∃ e w0 n, w = w0.drewN n ∧ FitsG N D e a ∧ arg e x fun fv => argL e as.toList fun vs => ∃ f first cs, fv = .func (.func f) first cs ∧ selK ks e fun e => VG ⟨P, N, none, { target := .fn (.func f) cs, args := first ++ vs.toArray } :: D, post⟩ k e w0
        | _ => False)
      (fun e a w n ha hv => ⟨ha.defers, e, w, n, rfl, FitsG.of ha, hv⟩) (ops.take i) e _ w n hN.1 ha.bare (h _ fun _ _ _ hv => hv)
    have hB := wpList_app (L := none) _ _ _ hN.2 hA
    rw [FitsG.app ha] at hB
    refine wpListIn_mono (fun ex a w hq => ?_) _ _ _ hB
    cases ex with
    | normal =>
      obtain ⟨e1, w1, m, rfl, hf, hs⟩ := hq
      show wpListIn _ _ _ _ _ [_] a _
      simp only [wpListIn]
      rw [if_pos (by simp [Region.wanted])]
      have h0 := arg_sound hf.bare hs
      have h1 := argL_sound hf.bare h0
      obtain ⟨f, first, cs, hx, hv⟩ := h1
      have ev : ({ a with defers := [] } : Act).eval = a.eval := by funext x; cases x <;> rfl
      rw [ev] at hx hv
      have hm : (as.map a.eval) = (as.toList.map a.eval).toArray := map_eval as a
      refine ⟨fun _ _ => trivial, ?_⟩
      have hrun : (Oper.semAt (wideR none).round a.eval ⟨none, .defer { callee := .value x, args := as, argTypes := ts }, ty, pos, af, none⟩).run P (w1.drewN m) = .ok (.defer { target := .fn (.func f) cs, args := first ++ (as.toList.map a.eval).toArray }) (w1.drewN m) := by
        rw [show (wideR none).round = none from rfl, Oper.semAt_none]
        simp only [execOp, resolve, hx, Deferred.ofValue, Sem.run_bind, Sem.run_pure, Result.andThen_ok, hm]
      rw [hrun]
      refine (contG_D (C := ⟨P, N, none, D, post⟩) _ hk).1 (((selK_spec ks e1 _).1 hv) _ m (FitsG.sel ?_ ks))
      exact ⟨hf.size, by simp [Act.put, hf.defers], hf.at_⟩
    | _ => exact hq.elim
  rw [← hl, List.take_append_drop] at key
  exact key

/-! ## A range over a function -/

theorem VG_rangeFunc {P : Program} {N : Nat} {D : List Deferred} {post : Exit → Act → World → Prop} {g : Operand} {ps : Array Tmp} {assign body : Code} (hk : noAgain k = true) {gf : FuncId} {first cs : Array Value}
    (hg : arg e g fun v => v = Value.func (.func gf) first cs) (hf : ∀ args w, (callFunc gf args).run P w = .ok (.enter gf args) w)
    (h : ∀ r : Loop, r.state = .ready → r.pending = none → r.params = ps → r.assign = assign → r.body = body → r.defers = w.heap.size → r.tmps.size = N → (∀ t v, e.find? t = some v → r.tmps.getD t undef = v) →
      DoesP P gf (first.toList ++ [Value.func (.yield (w.heap.size + 1)) #[] #[]] ++ cs.toList).toArray ((w.alloc (.deferred (some []))).alloc (.loop r))
        (fun _ w2 => ∃ st pd, w2.heap[w.heap.size + 1]? = some (Obj.loop { r with state := st, pending := pd }) ∧ st ≠ .busy ∧
          match pd with
          | none => VG ⟨P, N, none, markD w.heap.size :: D, post⟩ k e (w2.putObj (w.heap.size + 1) (.loop { r with state := .exhausted, pending := none }))
          | some c => VG ⟨P, N, none, markD w.heap.size :: D, post⟩ (.code c :: k) e (w2.putObj (w.heap.size + 1) (.loop { r with state := .exhausted, pending := some c }))) noPn) :
    VG ⟨P, N, none, D, post⟩ (.code (.rangeFunc g ps assign body) :: k) e w := by
  intro a n ha
  have hge := ha.eval hg
  have hdep : (wideR none).depth.isSome = true → 1 ≤ 0 := by simp [wideR, Fence.wide]
  refine wpIn_rangeFunc fun fn _ => ?_
  have hh := h { state := .ready, pending := none, fn := fn, tmps := a.tmps, params := ps, assign := assign, body := body, defers := w.heap.size } rfl rfl rfl rfl rfl rfl ha.size ha.at_
  generalize hr : ({ state := .ready, pending := none, fn := fn, tmps := a.tmps, params := ps, assign := assign, body := body, defers := w.heap.size } : Loop) = r at hh
  have he := run_enterLoop_outer (P := P) (w := w.drewN n) fn a.tmps ps assign body
  have hsz : (w.drewN n).heap.size = w.heap.size := rfl
  rw [hsz, hr] at he
  have e1 : first ++ #[Value.func (.yield (w.heap.size + 1)) #[] #[]] ++ cs = (first.toList ++ [Value.func (.yield (w.heap.size + 1)) #[] #[]] ++ cs.toList).toArray := by
    apply Array.ext'; simp
  refine ⟨w.heap.size + 1, [markD w.heap.size], _, { target := .fn (.func gf) cs, args := first ++ #[Value.func (.yield (w.heap.size + 1)) #[] #[]] }, ((w.alloc (Obj.deferred (some []))).alloc (Obj.loop r)).drewN n, gf, (first.toList ++ [Value.func (.yield (w.heap.size + 1)) #[] #[]] ++ cs.toList).toArray, _, he, ?_, fun _ _ => trivial, ?_, hdep, callsIn_wideR (((hh n)).mono fun ex w3 hex => ?_)⟩
  · have hc : (rangeCall g (w.heap.size + 1)).args.map a.eval = #[Value.func (.yield (w.heap.size + 1)) #[] #[]] := by simp [rangeCall, Act.eval]
    simp only [resolve, hge, Deferred.ofValue, Sem.run_bind, Sem.run_pure, Result.andThen_ok, hc]
    rfl
  · simp only [invoke]
    rw [← e1]
    exact hf _ _
  · cases ex with
    | outgrown => exact hex.elim
    | panicked c => obtain ⟨_, _, _, hx⟩ := hex; exact hx.elim
    | returned v =>
      obtain ⟨w2, m, rfl, st, pd, hl, hst, hv⟩ := hex
      have hen := run_endLoop (P := P) (w := w2.drewN m) (l := w.heap.size + 1) (r := { r with state := st, pending := pd }) hl hst
      refine ⟨pd, _, hen, ?_⟩
      have hfit : FitsG N (markD w.heap.size :: D) e { a with defers := [markD w.heap.size] ++ a.defers } := ⟨ha.size, by simp [ha.defers], ha.at_⟩
      cases pd with
      | none => exact (contG_D (C := ⟨P, N, none, D, post⟩) (markD w.heap.size :: D) hk).1 (hv _ m hfit)
      | some c => exact wpIn_mono (hv _ m hfit) fun ex a _ hq => (contG_D (C := ⟨P, N, none, D, post⟩) (markD w.heap.size :: D) hk).1 hq

end

/-! ## One round -/

/-- What is asked at a round's end: the record's new state. -/
def roundP (P : Program) (l : Nat) (r : Loop) (R : Value → World → Prop) : Exit → Act → World → Prop
  | .normal, _, w => ∃ (w0 : World) (n : Nat), w = w0.drewN n ∧ w0.heap[l]? = some (.loop { r with state := .busy }) ∧ R (.bool true) (w0.putObj l (.loop { r with state := .ready, pending := none }))
  | .ret, _, w => ∃ (w0 : World) (n : Nat), w = w0.drewN n ∧ w0.heap[l]? = some (.loop { r with state := .busy }) ∧ R (.bool false) (w0.putObj l (.loop { r with state := .done, pending := some .ret }))
  | .exit id, _, w => ∃ (w0 : World) (n : Nat), w = w0.drewN n ∧ w0.heap[l]? = some (.loop { r with state := .busy }) ∧ R (.bool false) (w0.putObj l (.loop { r with state := .done, pending := some (.exit id) }))
  | _, _, _ => False

theorem YieldK_round {P : Program} {N l : Nat} {r : Loop} {vs : List Value} {w : World} {R : Value → World → Prop} {e : Env} (hl : w.heap[l]? = some (Obj.loop r)) (hst : r.state = .ready) (hsz : r.tmps.size = N) (hps : vs.length = r.params.size)
    (he : ∀ t v, e.find? t = some v → ((r.params.zip vs.toArray).foldl (fun tmps (t, a) => tmps.setIfInBounds t a) r.tmps).getD t undef = v)
    (h : VG ⟨P, N, some l, [], fun ex a w => ex = .normal ∧ ∃ (e0 : Env) (w0 : World) (n : Nat), w = w0.drewN n ∧ FitsG N [] e0 a ∧ w0.heap[l]? = some (.loop r) ∧ VG ⟨P, N, some l, [], roundP P l r R⟩ [.code r.body] e0 (w0.putObj l (.loop { r with state := .busy }))⟩ [.code r.assign] e w) :
    YieldK P l vs w R := by
  intro n
  have hy := run_yield (P := P) (w := w.drewN n) (l := l) (r := r) (args := vs.toArray) hl (by simpa using hps)
  refine ⟨_, _, _, _, hy, roundIn_of_wpIn trivial ?_⟩
  have hszT : ((r.params.zip vs.toArray).foldl (fun tmps (t, a) => tmps.setIfInBounds t a) r.tmps).size = N := by
    have key : ∀ (l : List (Tmp × Value)) (T : Array Value), (l.foldl (fun tmps (x : Tmp × Value) => tmps.setIfInBounds x.1 x.2) T).size = T.size := by
      intro l
      induction l with
      | nil => intro T; rfl
      | cons x l ih => intro T; rw [List.foldl_cons, ih]; simp
    rw [← Array.foldl_toList]
    rw [← hsz]
    exact key _ _
  have h1 := h { tmps := (r.params.zip vs.toArray).foldl (fun tmps (t, a) => tmps.setIfInBounds t a) r.tmps, defers := [] } n ⟨hszT, rfl, he⟩
  refine wpIn_mono (F := Fence.wide.inRound l) h1 fun ex a w' hq => ?_
  obtain ⟨rfl, e0, w0, m, rfl, hf, hl0, hb⟩ := hq
  refine ⟨_, run_beginRound (P := P) (w := w0.drewN m) hl0 hst, ?_⟩
  refine wpIn_mono (F := Fence.wide.inRound l) (hb a m hf) fun ex a w' hq => ?_
  cases ex with
  | normal =>
    obtain ⟨w1, m1, rfl, hl1, hR⟩ := hq
    exact ⟨_, _, run_endRound (P := P) (w := w1.drewN m1) none hl1, _, _, m1, rfl, rfl, hR⟩
  | ret =>
    obtain ⟨w1, m1, rfl, hl1, hR⟩ := hq
    exact ⟨_, _, run_endRound (P := P) (w := w1.drewN m1) (some .ret) hl1, _, _, m1, rfl, rfl, hR⟩
  | exit id =>
    obtain ⟨w1, m1, rfl, hl1, hR⟩ := hq
    exact ⟨_, _, run_endRound (P := P) (w := w1.drewN m1) (some (.exit id)) hl1, _, _, m1, rfl, rfl, hR⟩
  | goto t => exact hq.elim
  | panic c => exact hq.elim
  | outgrown => exact hq.elim

end Go.Eng

namespace Go.Eng
open Go
attribute [go_sem ↓] o_nilSp sg_nil sg_cons sg_at sg_atg

/-! ## Functions that recover -/

/-- A deferred function that calls recover first. -/
theorem callsD_rec {P : Program} {f : FuncId} {fn : Func} {id : Nat} {t s : Tmp} {ts : Array TypeId} {ty1 ty2 : Nat} {p1 p2 : String} {a1 a2 : Array Edge} {rest : Code} {N : Nat} {args : List Value} {u u' : FrameMode} {v : Value} {w : World} {R : World → Prop}
    (hf : P.funcs[f]? = some fn) (hb : fn.body = some (.seq (.region id #[⟨some t, .call { callee := .builtin .recover, args := #[], argTypes := ts }, ty1, p1, a1, none⟩, ⟨some s, .assign (.tmp t), ty2, p2, a2, none⟩] false) rest)) (hres : fn.results = #[]) (hN : fn.ntmps = N) (hle : args.length ≤ N) (ht : t < N) (hs : s < N)
    (hu : u = .returning ∧ u' = .returning ∧ v = .nilIface ∨ u = .panicking [{ v := v, recovered := false }] ∧ u' = .panicking [{ v := v, recovered := true }])
    (h : VG ⟨P, N, none, [], fun ex a w' => (ex = .normal ∨ ex = .ret) ∧ a.defers = [] ∧ ∃ w1 m, w' = w1.drewN m ∧ R w1⟩ [.code rest] ((s, v) :: (t, v) :: Env.ofArgs 0 args) w) :
    ∀ n, CallsDIn Fence.wide 0 P f args.toArray u (w.drewN n) (fun e u2 w' => (∃ x, e = .returned x) ∧ u2 = u' ∧ ∃ w1 m, w' = w1.drewN m ∧ R w1) := by
  intro n
  refine callsDIn_of_wpSIn hf hb trivial fun c₀ cs hm => ?_
  generalize ha0 : ({ tmps := args.toArray ++ Array.replicate (fn.ntmps - args.toArray.size) undef, defers := [] } : Act) = a0
  have hfit0 : Fits N (Env.ofArgs 0 args) a0 := by
    subst ha0
    refine ⟨by simp [hN]; omega, rfl, fun t v ht => ?_⟩
    have := (Env.find?_ofArgs args 0 t v ht).2
    rw [Array.getD_eq_getD_getElem?, Array.getElem?_append]
    have hlt : t < args.toArray.size := by
      have h2 := (List.getElem?_eq_some_iff.1 this).1
      simpa using h2
    simp only [hlt, if_true]
    simp at this ⊢
    simp [this]
  refine wpSIn_seq (wpSIn_region ?_)
  have hfit1 : Fits N ((t, v) :: Env.ofArgs 0 args) (a0.put (some t) v) := hfit0.put (some t) v fun x hx => by cases hx; exact ht
  have hfit2 : Fits N ((s, v) :: (t, v) :: Env.ofArgs 0 args) ((a0.put (some t) v).put (some s) v) := hfit1.put (some s) v fun x hx => by cases hx; exact hs
  have hev : (a0.put (some t) v).eval (.tmp t) = v := hfit1.at_ t v (by simp [Env.find?])
  have hcs : ∃ cs', (recoverD (c₀ :: cs) = some (v, cs') ∨ recoverD (c₀ :: cs) = none ∧ v = .nilIface ∧ cs' = c₀ :: cs) ∧ cs' = { c₀ with mode := u' } :: cs := by
    rcases hu with ⟨h1, h2, h3⟩ | ⟨h1, h2⟩
    · refine ⟨c₀ :: cs, .inr ⟨?_, h3, rfl⟩, ?_⟩
      · simp only [recoverD, hm, h1]
      · have : c₀.mode = u' := by rw [hm, h1, h2]
        cases c₀; simp only at this; subst this; rfl
    · refine ⟨{ c₀ with mode := u' } :: cs, .inl ?_, rfl⟩
      simp only [recoverD, hm, h1, h2]
  obtain ⟨cs', hrec, hcs'⟩ := hcs
  have hrun2 : ∀ w, (execOp (a0.put (some t) v).eval ⟨some s, .assign (.tmp t), ty2, p2, a2, none⟩).run P w = .ok (.value v) w := fun w => by
    simp only [execOp, hev]
    rfl
  have hlast : Exit.thenS (rest.wpSIn Fence.wide 0 P (bodyPostS P fn c₀ cs fun e u2 w' => (∃ x, e = .returned x) ∧ u2 = u' ∧ ∃ w1 m, w' = w1.drewN m ∧ R w1)) (bodyPostS P fn c₀ cs fun e u2 w' => (∃ x, e = .returned x) ∧ u2 = u' ∧ ∃ w1 m, w' = w1.drewN m ∧ R w1) .normal ((a0.put (some t) v).put (some s) v) cs' (w.drewN n) := by
    refine wpSIn_of_wpIn rfl (wpIn_mono (F := Fence.wide) (h _ n ⟨hfit2.size, hfit2.defers, hfit2.at_⟩) fun ex a w' hq => ?_)
    obtain ⟨hex, hd, w1, m, rfl, hR⟩ := hq
    have hr := results_none hres a.tmps P (w1.drewN m)
    rcases hex with rfl | rfl
    · exact ⟨hd, u', hcs', _, hr, ⟨_, rfl⟩, rfl, w1, m, rfl, hR⟩
    · exact ⟨hd, u', hcs', _, hr, ⟨_, rfl⟩, rfl, w1, m, rfl, hR⟩
  have hsz : (#[⟨some t, .call { callee := .builtin .recover, args := #[], argTypes := ts }, ty1, p1, a1, none⟩, ⟨some s, .assign (.tmp t), ty2, p2, a2, none⟩] : Array Oper).size = 2 := rfl
  rw [hsz]
  simp only [show List.range 2 = [0, 1] from rfl, wpOpsSIn, List.getElem?_toArray, List.getElem?_cons_zero, List.getElem?_cons_succ]
  refine ⟨fun _ _ => trivial, ?_⟩
  rw [if_pos (by simp [Region.wanted])]
  have hrun1 : (execOp a0.eval ⟨some t, .call { callee := .builtin .recover, args := #[], argTypes := ts }, ty1, p1, a1, none⟩).run P (w.drewN n) = .ok .recover (w.drewN n) := by
    simp only [execOp, resolve, invoke, builtin, Sem.run_bind, Sem.run_pure, Result.andThen_ok]
  rw [hrun1]
  simp only []
  rcases hrec with hrec | ⟨hrec, hv, rfl⟩
  · rw [hrec]
    simp only []
    refine ⟨fun _ _ => trivial, ?_⟩
    rw [if_pos (by simp [Region.wanted]), hrun2]
    exact hlast
  · rw [hrec]
    simp only []
    refine ⟨fun _ _ => trivial, ?_⟩
    rw [← hv]
    rw [if_pos (by simp [Region.wanted]), hrun2]
    exact hlast

/-- The end of a function with one deferred function that recovers (or has nothing to recover). -/
theorem leave_rec {P : Program} {fn : Func} {F : Value → World → Prop} {Pn : List PanicEntry → World → Prop} {N : Nat} {e : Env} {w : World} {D : List Deferred} {f : FuncId} {cs : Array Value} {args : Array Value} {R : World → Prop} {u : FrameMode}
    (hi : ∀ args w, (callFunc f args).run P w = .ok (.enter f args) w) (hu : u ≠ .run) (hD : D = [{ target := .fn (.func f) cs, args := args }])
    (hc : ∀ n, CallsDIn Fence.wide 0 P f (args ++ cs) u (w.drewN n) (fun e u2 w' => (∃ x, e = .returned x) ∧ settle u2 = .returning ∧ ∃ w1 m, w' = w1.drewN m ∧ R w1))
    (hx : ∀ w1, R w1 → VX ⟨P, fn, F, N⟩ [] .ret e w1) : ∀ a n, FitsG N D e a → LeavesInM Fence.wide 0 P fn a.tmps (endsP F Pn) a.defers u (w.drewN n) := by
  intro a n ha
  rw [ha.defers, hD]
  refine ⟨hu, .inr ⟨by simp [Fence.wide], .func f, cs, f, args ++ cs, rfl, ?_, fun _ _ => trivial, ?_⟩⟩
  · simp only [invoke]; exact hi _ _
  · obtain ⟨_, hc⟩ := hc n
    refine ⟨trivial, fun c cs hm hroom => ?_⟩
    obtain ⟨e2, u2, w2, fr, hR, h1, h2, h3, h4⟩ := hc c cs hm hroom
    refine ⟨e2, u2, w2, fr, ?_, h1, h2, h3, h4⟩
    obtain ⟨⟨x, rfl⟩, hs, w1, m, rfl, hR⟩ := hR
    show LeavesInM _ _ _ _ _ _ [] (settle u2) _
    rw [hs]
    exact post_res (hx w1 hR) ha

end Go.Eng

namespace Go.Eng
open Go
def notIface (d : Option TypeDesc) : Bool :=
  match d with
  | some (.interface _) => false
  | some _ => true
  | none => false
theorem MemK_assert {P : Program} {N : Nat} {d : Option Tmp} {ty : Nat} {pos : String} {af : Array Edge} {gd : Option (Nat × Bool)} {e : Env} {w : World} {R : Env → World → (Env → World → Prop) → Prop} {K : Env → World → Prop} {x : Operand} {T T' : TypeId}
    (h : arg e x fun u => ∃ v, u = .iface T' v ∧ notIface (P.underlying T') = true ∧ R (e.put d (.tuple #[v, .bool true])) w K) : MemK P N ⟨d, .typeAssert x T T' true, ty, pos, af, gd⟩ e w R K :=
  Mem_of_run fun a n ha => by
    obtain ⟨v, hx, hu, hR⟩ := arg_sound ha h
    refine ⟨_, w, n, ?_, hR⟩
    simp only [execOp, hx, Instr.typeAssert]
    cases hd : P.underlying T' with
    | none => rw [hd] at hu; cases hu
    | some t => cases t <;> first | (rw [hd] at hu; cases hu; done) | simp [run_underlying hd]
end Go.Eng

/-! comparisons of interface values with nil -/
namespace Go.Eng
open Go
section
variable {P : Program} {w : World} {KV : Value → Prop}
theorem run_eqIn_if {T : TypeId} {ms : Array (String × TypeId)} (hu : P.underlying T = some (.interface ms)) (d : Nat) (t : TypeId) (v : Value) (w : World) : (Op.equalIn (d + 1) T (.iface t v) .nilIface).run P w = .ok false w := by
  unfold Op.equalIn
  simp [run_underlying hu]
theorem run_eq_if {T : TypeId} {ms : Array (String × TypeId)} (hu : P.underlying T = some (.interface ms)) (t : TypeId) (v : Value) (w : World) : (Op.equal T (.iface t v) .nilIface).run P w = .ok false w := run_eqIn_if hu 9999 t v w
theorem run_eqIn_nif {T : TypeId} {ms : Array (String × TypeId)} (hu : P.underlying T = some (.interface ms)) (d : Nat) (w : World) : (Op.equalIn (d + 1) T .nilIface .nilIface).run P w = .ok true w := by
  unfold Op.equalIn
  simp [run_underlying hu]
theorem run_eq_nif {T : TypeId} {ms : Array (String × TypeId)} (hu : P.underlying T = some (.interface ms)) (w : World) : (Op.equal T .nilIface .nilIface).run P w = .ok true w := run_eqIn_nif hu 9999 w
theorem bn_if {T : TypeId} {ms : Array (String × TypeId)} (hu : P.underlying T = some (.interface ms)) (t : TypeId) (v : Value) (xo yo : Operand) : vBinO P .neq T xo yo (.iface t v) .nilIface w KV = KV (.bool true) := by
  refine EqR_of fun w' => ?_
  simp only [Sem.run_bind]
  rw [eqGuard_free ⟨by simp, by simp⟩]
  simp only [Result.andThen_ok, binOp, Sem.run_bind, run_eq_if hu, Sem.run_pure]
  rfl
theorem bn_nif {T : TypeId} {ms : Array (String × TypeId)} (hu : P.underlying T = some (.interface ms)) (xo : Operand) (c : Value) : vBinO P .neq T xo (.const c) .nilIface .nilIface w KV = KV (.bool false) := by
  refine EqR_of fun w' => ?_
  have hg : (eqGuard .neq T xo (.const c) .nilIface .nilIface).run P w' = .ok () w' := by
    unfold eqGuard
    simp
  simp only [Sem.run_bind]
  rw [hg]
  simp only [Result.andThen_ok, binOp, Sem.run_bind, run_eq_nif hu, Sem.run_pure]
  rfl
end
end Go.Eng
