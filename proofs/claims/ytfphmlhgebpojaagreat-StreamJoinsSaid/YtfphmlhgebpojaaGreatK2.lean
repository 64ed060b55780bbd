/- A program logic over the model, and what this program's functions do by it: part 2. No conditions: a library of lemmas. -/
import Derived.Test.YtfphmlhgebpojaaGreatK1
import Derived.RangeFuncLeaves
import Derived.RangeFuncNested
import Derived.RangeFuncRecord
import Derived.RecoverIn
import Derived.TacticsIn
import Derived.Test.YtfphmlhgebpojaaGreatChecked
open Nat (reduceEqDiff)
set_option linter.unusedSimpArgs false
set_option linter.unusedVariables false
set_option maxRecDepth 100000
namespace Go.Eng
open Go
def Qgh (L : Option Nat) : Fence := { Fence.wide with round := L }
theorem Qri {L : Option Nat} {P : Program} {m m' : Machine} {e : Ending} (h : Comes P m m' e) : ComesIn (Machine.fenced P (Qgh L)) P m m' e := comesIn_wide.2 h
theorem Qhq {L : Option Nat} {n : Nat} {P : Program} {f : FuncId} {args : Array Value} {w : World} {R : Ending -> World -> Prop} (h : Calls P f args w R) : CallsIn (Qgh L) n P f args w R :=
 ⟨trivial, fun cs _ => let ⟨e, w', fr, r, s, x⟩ := h cs;⟨e, w', fr, r, Qri s, x⟩⟩
theorem Qrj {L : Option Nat} {P : Program} {m m' : Machine} (h : Steps P m m') : StepsIn (Machine.fenced P (Qgh L)) P m m' := stepsIn_wide.2 h
theorem Qtp {L : Option Nat} {n : Nat} {P : Program} {row : String} {args : Array Value} {w : World} {R : Value -> World -> Prop} (h : Rows P row args w R) : RowsIn (Qgh L) n P row args w R :=
 fun c cs _ => let ⟨v, w', r, s⟩ := h c cs;⟨v, w', r, Qrj s⟩
def Qek (o : Oper) : Bool := match o.op with | .defer _ => false | _ => true
theorem Qtq {o : Oper} (h : Qek o = true) : ∀ c, o.op ≠ .defer c := by
 intro c hc;simp [Qek, hc] at h
def _root_.Go.Act.app (a : Act) (D : List Deferred) : Act := { a with defers := a.defers ++ D }
theorem Qip (a : Act) (D : List Deferred) (d : Option Tmp) (v : Value) : (a.put d v).app D = (a.app D).put d v := by cases d <;> rfl
theorem QGn (a : Act) (D : List Deferred) : (a.app D).eval = a.eval := by funext x;cases x <;> rfl
def Qapp (D : List Deferred) (Q : Exit -> Act -> World -> Prop) : Exit -> Act -> World -> Prop
 | .normal, a, w => a.defers = [] /\ Q .normal (a.app D) w
 | .panic c, a, w => Q (.panic c) (a.app D) w
 | _, _, _ => False
theorem QH7 {P : Program} {L : Option Nat} {D : List Deferred} {Q : Exit -> Act -> World -> Prop} {o : Oper} {a : Act} {w : World} {next next' : Act -> World -> Prop} (hd : Qek o = true)
  (hn : ∀ a w, next a w -> next' (a.app D) w) (h : o.wp P a w next (Qapp D Q)) : o.wpIn (Qgh L) 0 P (a.app D) w next' Q := by
 refine ⟨fun _ _ => trivial, ?_⟩
 rw [Oper.semAt_eq _ _ _ (Qtq hd), QGn]
 unfold Oper.wp at h
 generalize (execOp a.eval o).run P w = r at *
 have hdep : (Qgh L).depth.isSome = true -> 1 <= 0 := by simp [Qgh, Fence.wide]
 cases r with
 | ok x w' =>
  cases x <;> simp only [Oper.upon, Oper.uponIn] at h ⊢
  case value v => rw [<- Qip];exact hn _ _ h
  case skip => rw [<- Qip];exact hn _ _ h
  case defer d => have h2 := hn _ _ h;rw [Qip] at h2;exact h2
  case enter f args =>
   refine ⟨hdep, Qhq (h.mono fun e w'' he => ?_)⟩
   cases e with
   | returned v => have h2 := hn _ _ he;rw [Qip] at h2;exact h2
   | panicked c => exact he
   | outgrown => obtain ⟨_, _, he⟩ := he;exact he.elim
  case row row args => exact ⟨hdep, Qtp (h.mono fun v w'' he => by have h2 := hn _ _ he;rw [Qip] at h2;exact h2)⟩
 | halt x w' => cases x <;> simp only [Oper.upon, Oper.uponIn] at h ⊢ <;> exact h
theorem Qtr {P : Program} {L : Option Nat} {D : List Deferred} {Q : Exit -> Act -> World -> Prop} {ops : Array Oper} (hd : ops.toList.all Qek = true) : ∀ (l : List Nat) (a : Act) (w : World),
  wpOps P ops (Qapp D Q) l a w -> wpOpsIn (Qgh L) 0 P ops Q l (a.app D) w := by
 intro l
 induction l with
 | nil => intro a w h;exact h.2
 | cons i rest ih =>
  intro a w h
  simp only [wpOps, wpOpsIn] at h ⊢
  cases ho : ops[i]? with
  | none => simp only [ho] at h ⊢;exact ih _ _ h
  | some o =>
   simp only [ho] at h ⊢
   have hdo : Qek o = true := by
    rw [List.all_eq_true] at hd
    exact hd o (by rw [Array.mem_toList_iff];exact Array.mem_of_getElem? ho)
   have ht : (a.app D).tmps = a.tmps := rfl
   rw [ht]
   split
   ·
    rename_i hw
    rw [if_pos hw] at h
    rcases h with h | ⟨_, _, _, h⟩
    ·
     exact QH7 hdo ih h
    ·
     exact h.elim
   ·
    rename_i hw
    rw [if_neg hw] at h
    have h2 := ih _ _ h;rw [Qip] at h2;exact ⟨fun _ _ => trivial, h2⟩
theorem QAj {P : Program} {L : Option Nat} {D : List Deferred} {Q : Exit -> Act -> World -> Prop} {id : Nat} {l : List Oper} {a : Act} {w : World} (hd : l.all Qek = true)
  (h : wpList P l.toArray (Qapp D Q) l a w) : (Code.region id l.toArray false).wpIn (Qgh L) 0 P Q (a.app D) w := by
 refine wpIn_region (Qtr (by simpa using hd) _ a w ?_)
 rw [List.range_eq_range', <- Array.length_toList, wpOps_eq_wpList l.toArray.toList 0 (by simp)]
 simpa using h
theorem Qjl {P : Program} {L : Option Nat} {D : List Deferred} {Q : Exit -> Act -> World -> Prop} {id : Nat} {ops : Array Oper} {a : Act} {w : World} (hm : P.follows .mixedOrders = true) (hd : ops.toList.all Qek = true)
  (h : wpAny P .any ops (Qapp D Q) ops.size (Array.replicate ops.size false) a { w with drawn := w.drawn + 1 }) : (Code.region id ops true).wpIn (Qgh L) 0 P Q (a.app D) w :=
 wpIn_region_draw fun t => Qtr hd _ a _ (by
  simp only [Region.schedule, hm, Bool.true_or, if_true]
  exact wpAny_sound ops.size t _ a _ h)
structure CtxG where
 P : Program
 N : Nat
 L : Option Nat
 D : List Deferred
 post : Exit -> Act -> World -> Prop
structure FitsG (N : Nat) (D : List Deferred) (e : Env) (a : Act) : Prop where
 size : a.tmps.size = N
 defers : a.defers = D
 at_ : ∀ t v, e.find? t = some v -> a.tmps.getD t undef = v
theorem FitsG.bare {N : Nat} {D : List Deferred} {e : Env} {a : Act} (h : FitsG N D e a) : Fits N e { a with defers := [] } := ⟨h.size, rfl, h.at_⟩
theorem FitsG.of {N : Nat} {D : List Deferred} {e : Env} {a : Act} (h : Fits N e a) : FitsG N D e (a.app D) := ⟨h.size, by simp [Act.app, h.defers], h.at_⟩
theorem FitsG.app {N : Nat} {D : List Deferred} {e : Env} {a : Act} (h : FitsG N D e a) : ({ a with defers := [] } : Act).app D = a := by
 cases a;have := h.defers;simp only at this;subst this;rfl
theorem FitsG.weaken {N : Nat} {D : List Deferred} {e e' : Env} {a : Act} (h : FitsG N D e a) (hs : ∀ t v, e'.find? t = some v -> e.find? t = some v) : FitsG N D e' a :=
 ⟨h.size, h.defers, fun t v ht => h.at_ t v (hs t v ht)⟩
theorem FitsG.sel {N : Nat} {D : List Deferred} {e : Env} {a : Act} (h : FitsG N D e a) (ks : List Nat) : FitsG N D (e.sel ks) a := h.weaken fun t v ht => Env.find?_sel ks e t v ht
theorem FitsG.eval {N : Nat} {D : List Deferred} {e : Env} {a : Act} {x : Operand} {K : Value -> Prop} (ha : FitsG N D e a) (h : arg e x K) : K (a.eval x) := by
 have h1 := Qa6 ha.bare h
 cases x <;> exact h1
def Qgi (C : CtxG) : List It -> Exit -> Act -> World -> Prop
 | [], ex, a, w => C.post ex a w
 | .code c :: k, ex, a, w => match ex with
  | .normal => c.wpIn (Qgh C.L) 0 C.P (fun ex a w => Qgi C k ex a w) a w
  | ex => Qgi C k ex a w
 | .blk id :: k, ex, a, w => match ex with
  | .exit id' => if id' = id then Qgi C k .normal a w else Qgi C k (.exit id') a w
  | ex => Qgi C k ex a w
 | .again I :: k, ex, a, w => match ex with
  | .normal => ∃ e w0 n, w = w0.drewN n /\ FitsG C.N C.D e a /\ I e w0
  | ex => Qgi C k ex a w
def VG (C : CtxG) (k : List It) (e : Env) (w : World) : Prop := ∀ a n, FitsG C.N C.D e a -> Qgi C k .normal a (w.drewN n)
section
variable {C : CtxG} {k : List It} {e : Env} {w : World}
theorem Qcz {x y : Code} (h : VG C (.code x :: .code y :: k) e w) : VG C (.code (.seq x y) :: k) e w := by
 intro a n ha
 have h1 := h a n ha
 simp only [Qgi] at h1 ⊢
 refine wpIn_seq (wpIn_mono h1 fun ex a w hq => ?_)
 cases ex <;> exact hq
theorem Qm4 {id : Nat} {c : Code} (h : VG C (.code c :: .blk id :: k) e w) : VG C (.code (.block id c) :: k) e w := by
 intro a n ha
 have h1 := h a n ha
 simp only [Qgi] at h1 ⊢
 refine wpIn_block (wpIn_mono h1 fun ex a w hq => ?_)
 cases ex <;> exact hq
theorem QC1 {id : Nat} (h : VG C k e w) : VG C (.blk id :: k) e w := fun a n ha => h a n ha
theorem Qg6 (h : VG C k e w) : VG C (.code .skip :: k) e w := fun a n ha => wpIn_skip (h a n ha)
theorem QGo {I : Env -> World -> Prop} (h : I e w) : VG C (.again I :: k) e w := fun _ n ha => ⟨e, w, n, rfl, ha, h⟩
theorem Qwn {id : Nat} {k k' : List It} (hp : Qic id k = some k') {a : Act} (h : Qgi C k' .normal a w) : Qgi C k (.exit id) a w := by
 induction k with
 | nil => simp [Qic] at hp
 | cons x k ih =>
  cases x with
  | code c => exact ih (by simpa [Qic] using hp)
  | again I => exact ih (by simpa [Qic] using hp)
  | blk id' =>
   simp only [Qgi]
   by_cases hid : id = id'
   ·
    simp only [Qic, hid, if_true] at hp
    cases hp
    simp only [hid, if_true];exact h
   ·
    simp only [Qic, hid, if_false] at hp
    simp only [hid, if_false];exact ih hp
theorem QJ0 {id : Nat} {k' : List It} (hp : Qic id k = some k') (h : VG C k' e w) : VG C (.code (.exit id) :: k) e w :=
 fun a n ha => wpIn_exit (Qwn hp (h a n ha))
theorem QC2 {k : List It} {a : Act} (h : C.post .ret a w) : Qgi C k .ret a w := by
 induction k with
 | nil => exact h
 | cons x k ih => cases x <;> exact ih
theorem Qwo {k : List It} {c : List PanicEntry} {a : Act} : Qgi C k (.panic c) a w ↔ C.post (.panic c) a w := by
 induction k with
 | nil => exact Iff.rfl
 | cons x k ih => cases x <;> exact ih
theorem Qts (h : ∀ a n, FitsG C.N C.D e a -> C.post .ret a (w.drewN n)) : VG C (.code .ret :: k) e w := fun a n ha => wpIn_ret (QC2 (h a n ha))
theorem Qqc (h : ∀ a n, FitsG C.N C.D e a -> C.post .normal a (w.drewN n)) : VG C [] e w := fun a n ha => h a n ha
theorem Qfp {c : Operand} {t : Tmp} {b : Bool} {x y : Code} (hc : c = .tmp t) (hv : e.find? t = some (.bool b))
  (ht : b = true -> VG C (.code x :: k) e w) (hf : b = false -> VG C (.code y :: k) e w) : VG C (.code (.cond c x y) :: k) e w := by
 intro a n ha
 subst hc
 exact wpIn_cond_split (t := b) (ha.at_ t _ hv) (fun h => ht h a n ha) (fun h => hf h a n ha)
end
theorem Qrk {F : Fence} {n0 : Nat} {P : Program} {Q : Exit -> Act -> World -> Prop} {a : Act} {w : World} {c : Code} (I : Nat -> Act -> World -> Prop) (n : Nat) (h₀ : I n a w)
  (round : ∀ n a w, I n a w -> c.wpIn F n0 P (Exit.then (fun a' w' => ∃ m, m < n /\ I m a' w') Q) a w) : (Code.loop c).wpIn F n0 P Q a w := by
 intro b k cs hro hb hr
 have key : ∀ j a w, I j a w ->
   ∃ e a' w', Q e a' w' /\ ArrivesIn (Machine.fenced P F) P (lone (b.atR a (.code c :: .inLoop c :: k)) cs w) b k cs e a' w' := by
  intro j
  induction j using Nat.strongRecOn with
  | _ j ih =>
   intro a w hI
   obtain ⟨e, a₁, w₁, hq, harr⟩ := round j a w hI b (.inLoop c :: k) cs hro hb hr
   cases e with
   | normal =>
    obtain ⟨m, hlt, hI₁⟩ := hq
    obtain ⟨e₂, a₂, w₂, hq₂, harr₂⟩ := ih m hlt a₁ w₁ hI₁
    exact ⟨e₂, a₂, w₂, hq₂, .of_steps (StepsIn.trans harr (.one (fenced_calm hb hr rfl) stepR_inLoop)) harr₂⟩
   | exit id => exact ⟨_, a₁, w₁, hq, .pass (x := .inLoop c) rfl (fun _ _ => .inl (by simp)) harr⟩
   | goto l => exact ⟨_, a₁, w₁, hq, .pass (x := .inLoop c) rfl (fun _ _ => .inl (by simp)) harr⟩
   | ret => exact ⟨_, a₁, w₁, hq, .pass (x := .inLoop c) rfl (fun _ _ => .inl (by simp)) harr⟩
   | panic ch => exact ⟨_, a₁, w₁, hq, .pass (x := .inLoop c) rfl (fun _ _ => .inl (by simp)) harr⟩
   | outgrown => exact ⟨_, a₁, w₁, hq, .pass (x := .inLoop c) rfl (fun _ _ => .inl (by simp)) harr⟩
 obtain ⟨e, a', w', hq, harr⟩ := key _ a w h₀
 exact ⟨e, a', w', hq, .of_steps (.one (fenced_calm hb hr rfl) stepR_loop) harr⟩
section
variable {C : CtxG} {k : List It} {e : Env} {w : World}
theorem QGp (ks : List Nat) {body : Code} (I : Nat -> Env -> World -> Prop) (n : Nat) (h0 : selK ks e fun e => I n e w)
  (round : ∀ n e w, I n e w -> VG C (.code body :: .again (fun e' w' => selK ks e' fun e' => ∃ m, m < n /\ I m e' w') :: k) e w) : VG C (.code (.loop body) :: k) e w := by
 intro a d ha
 refine Qrk (fun n a w => ∃ e w0 d, w = w0.drewN d /\ FitsG C.N C.D e a /\ I n e w0) n ⟨_, w, d, rfl, ha.sel ks, (Qct ks e _).1 h0⟩ ?_
 rintro n a w ⟨e, w0, d, rfl, ha, hI⟩
 have h1 := round n e w0 hI a d ha
 simp only [Qgi] at h1
 refine wpIn_mono h1 fun ex a w hq => ?_
 cases ex with
 | normal => obtain ⟨e', w1, d', hw, hf, hI'⟩ := hq;obtain ⟨m, hm, hI'⟩ := (Qct ks e' _).1 hI';exact ⟨m, hm, _, w1, d', hw, hf.sel ks, hI'⟩
 | _ => exact hq
def endG (C : CtxG) (k : List It) : Exit -> Act -> World -> Prop := fun ex a w => match ex with | .normal => Qgi C k .normal a w | _ => False
theorem Qnz (ex : Exit) (a : Act) (w : World) (h : endG C k ex a w) : Qgi C k ex a w := by
 cases ex <;> first | exact h | exact h.elim
theorem Qjr (ks : List Nat) {e : Env} {a : Act} {w : World} {n : Nat} (ha : Fits C.N e a) (hv : selC ks (VG C k) e w) : Qapp C.D (endG C k) .normal a (w.drewN n) :=
 ⟨ha.defers, ((Qct ks e _).1 hv) _ n ((FitsG.of ha).sel ks)⟩
theorem Qtt (ks : List Nat) {id : Nat} {ops : List Oper} (hN : (ops.all (Qdn C.N) && ops.all Qek) = true)
  (h : ∀ K : Env -> World -> Prop, (∀ e w, VG C k e w -> K e w) -> Qa0 C.P C.N ops ops e w (selC ks K)) : VG C (.code (.region id ops.toArray false) :: k) e w := by
 intro a n ha
 simp only [Bool.and_eq_true] at hN
 rw [<- ha.app]
 refine wpIn_mono (QAj (Q := endG C k) hN.2 ?_) Qnz
 exact Qfn (K := selC ks (VG C k)) (fun e a w n ha hv => Qjr ks ha hv) ops e _ w n hN.1 ha.bare (h _ fun _ _ hv => hv)
theorem Qqd (w0 : World) (hx : Ext w0 w) (ks : List Nat) (plan : List (Nat × Bool)) {id : Nat} {ops : List Oper} {l : List (Bool × Oper)}
  (hm : C.P.follows .mixedOrders = true) (hB : (Qnt ops.toArray plan (Array.replicate ops.toArray.size false) && Region.noSelect ops.toArray && decide (plan.length <= ops.length)) = true) (hN : (ops.all (Qdn C.N) && ops.all Qek) = true) (hl : Qa9 ops plan = l)
  (h : ∀ K : Env -> World -> Prop, (∀ e w, VG C k e w -> K e w) -> vcH C.P C.N ops w0 l e w (selC ks K)) : VG C (.code (.region id ops.toArray true) :: k) e w := by
 intro a n ha
 simp only [Bool.and_eq_true, decide_eq_true_eq] at hB hN
 obtain ⟨⟨hB1, hB2⟩, hB3⟩ := hB
 rw [<- ha.app]
 refine wpIn_mono (Qjl (Q := endG C k) hm (by simpa using hN.2) (wpAny_of_held (S := fun w' => Ext w0 w') _ _ _ _ ?_)) Qnz
 subst hl
 exact Qtc (K := selC ks (VG C k)) hN.1 hB2 (fun c a w d v hq => hq.elim) (fun e a w n ha hv => Qjr ks ha hv) plan _ _ e _ w (n + 1) (by simpa using hB3) hB1 ha.bare hx (h _ fun _ _ hv => hv)
theorem Qqe (w0 : World) (hx : Ext w0 w) (ks : List Nat) (t : Tree) {id : Nat} {ops : List Oper}
  (hm : C.P.follows .mixedOrders = true) (hB : (Qp7 ops.toArray t ops.toArray.size (Array.replicate ops.toArray.size false) && Region.noSelect ops.toArray) = true) (hN : (ops.all (Qdn C.N) && ops.all Qek) = true)
  (h : ∀ K : Env -> World -> Prop, (∀ e w, VG C k e w -> K e w) -> vcT C.P C.N ops w0 t e w (selC ks K)) : VG C (.code (.region id ops.toArray true) :: k) e w := by
 intro a n ha
 simp only [Bool.and_eq_true] at hB hN
 obtain ⟨hB1, hB2⟩ := hB
 rw [<- ha.app]
 refine wpIn_mono (Qjl (Q := endG C k) hm (by simpa using hN.2) (wpAny_of_held (S := fun w' => Ext w0 w') _ _ _ _ ?_)) Qnz
 exact QCr (K := selC ks (VG C k)) hN.1 hB2 (fun c a w d v hq => hq.elim) (fun e a w n ha hv => Qjr ks ha hv) t _ _ e _ w (n + 1) hB1 ha.bare hx (h _ fun _ _ hv => hv)
end
def QGq (F : Value -> World -> Prop) (Pn : List PanicEntry -> World -> Prop) (e : Ending) (w' : World) : Prop :=
 match e with
 | .returned v => ∃ w n, w' = w.drewN n /\ F v w
 | .panicked c => ∃ w n, w' = w.drewN n /\ Pn c w
 | .outgrown => False
def DoesP (P : Program) (f : FuncId) (args : Array Value) (w : World) (F : Value -> World -> Prop) (Pn : List PanicEntry -> World -> Prop) : Prop :=
 ∀ n, Calls P f args (w.drewN n) (QGq F Pn)
def noPn : List PanicEntry -> World -> Prop := fun _ _ => False
theorem DoesP.does {P : Program} {f : FuncId} {args : Array Value} {w : World} {F : Value -> World -> Prop} (h : DoesP P f args w F noPn) : Does P f args w F :=
 fun n => (h n).mono fun e w' he => by
  cases e with
  | returned v => obtain ⟨w1, m, rfl, hF⟩ := he;exact ⟨v, w1, m, rfl, rfl, hF⟩
  | panicked c => obtain ⟨_, _, _, hF⟩ := he;exact hF.elim
  | outgrown => exact he.elim
theorem DoesP.mono {P : Program} {f : FuncId} {args : Array Value} {w : World} {F G : Value -> World -> Prop} {Pn Qn : List PanicEntry -> World -> Prop} (h : DoesP P f args w F Pn) (hg : ∀ v w', F v w' -> G v w') (hp : ∀ c w', Pn c w' -> Qn c w') : DoesP P f args w G Qn :=
 fun n => (h n).mono fun e w' he => by
  cases e with
  | returned v => obtain ⟨w1, m, hw, hF⟩ := he;exact ⟨w1, m, hw, hg _ _ hF⟩
  | panicked c => obtain ⟨w1, m, hw, hF⟩ := he;exact ⟨w1, m, hw, hp _ _ hF⟩
  | outgrown => exact he.elim
abbrev Qtu (P : Program) (fn : Func) (F : Value -> World -> Prop) (Pn : List PanicEntry -> World -> Prop) : Exit -> Act -> World -> Prop := bodyPostM Fence.wide 0 P fn (QGq F Pn)
theorem Qhr {P : Program} {f : FuncId} {fn : Func} {c : Code} {args : List Value} {w : World} {F : Value -> World -> Prop} {Pn : List PanicEntry -> World -> Prop} (N : Nat)
  (hf : P.funcs[f]? = some fn) (hb : fn.body = some c) (hN : fn.ntmps = N) (hle : args.length <= N)
  (h : VG ⟨P, N, none, [], Qtu P fn F Pn⟩ [.code c] (Env.ofArgs 0 args) w) : DoesP P f args.toArray w F Pn := by
 intro n
 refine callsIn_wide.1 (callsIn_of_wp_marks (F := Fence.wide) (n := 0) hf hb trivial ?_ rfl)
 have h1 := h { tmps := args.toArray ++ Array.replicate (fn.ntmps - args.toArray.size) undef, defers := [] } n ⟨by simp [hN];omega, rfl, fun t v ht => ?_⟩
 ·
  exact wpIn_mono (F := Fence.wide) h1 fun ex a w hq => hq
 ·
  have := (Env.find?_ofArgs args 0 t v ht).2
  rw [Array.getD_eq_getD_getElem?, Array.getElem?_append]
  have hlt : t < args.toArray.size := by
   have h2 := (List.getElem?_eq_some_iff.1 this).1
   simpa using h2
  simp only [hlt, if_true]
  simp at this ⊢
  simp [this]
theorem Qn0 {P : Program} {f : FuncId} {fn : Func} {c : Code} {args : List Value} {w : World} {F : Value -> World -> Prop} (N : Nat)
  (hf : P.funcs[f]? = some fn) (hb : fn.body = some c) (hN : fn.ntmps = N) (hle : args.length <= N)
  (h : VG ⟨P, N, none, [], Qtu P fn F noPn⟩ [.code c] (Env.ofArgs 0 args) w) : Does P f args.toArray w F := (Qhr N hf hb hN hle h).does
def Qtv (r : Nat) : Deferred := { target := .collected r, args := #[] }
theorem Qrl {P : Program} {fn : Func} {F : Value -> World -> Prop} {Pn : List PanicEntry -> World -> Prop} {N : Nat} {e : Env} {w : World} {D : List Deferred} (hx : VX ⟨P, fn, F, N⟩ [] .ret e w) {a : Act} {n : Nat} (ha : FitsG N D e a) :
  LeavesInM Fence.wide 0 P fn a.tmps (QGq F Pn) [] .returning (w.drewN n) := by
 obtain ⟨_, v, hr, v', w1, m, he, hw, hF⟩ := hx _ n ha.bare
 cases he
 exact ⟨v, hr, w1, m, hw, hF⟩
theorem ret0 {P : Program} {fn : Func} {F : Value -> World -> Prop} {Pn : List PanicEntry -> World -> Prop} {N : Nat} {e : Env} {w : World} (hx : VX ⟨P, fn, F, N⟩ [] .ret e w) :
  ∀ a n, FitsG N [] e a -> Qtu P fn F Pn .ret a (w.drewN n) := fun a n ha => by
 show LeavesInM _ _ _ _ _ _ a.defers _ _
 rw [ha.defers]
 exact Qrl hx ha
theorem nil0 {P : Program} {fn : Func} {F : Value -> World -> Prop} {Pn : List PanicEntry -> World -> Prop} {N : Nat} {e : Env} {w : World} (hx : VX ⟨P, fn, F, N⟩ [] .ret e w) :
  ∀ a n, FitsG N [] e a -> Qtu P fn F Pn .normal a (w.drewN n) := ret0 hx
theorem ret1 {P : Program} {fn : Func} {F : Value -> World -> Prop} {Pn : List PanicEntry -> World -> Prop} {N : Nat} {e : Env} {w : World} {r : Nat} (hm : w.heap[r]? = some (.deferred (some []))) (hx : VX ⟨P, fn, F, N⟩ [] .ret e (w.putObj r (.deferred none))) :
  ∀ a n, FitsG N [Qtv r] e a -> Qtu P fn F Pn .ret a (w.drewN n) := fun a n ha => by
 show LeavesInM _ _ _ _ _ _ a.defers _ _
 rw [ha.defers]
 exact ⟨by simp, .inl ⟨r, (w.putObj r (.deferred none)).drewN n, rfl, run_takeDeferred (w := w.drewN n) hm, Qrl hx ha⟩⟩
theorem QH8 {P : Program} {fn : Func} {F : Value -> World -> Prop} {Pn : List PanicEntry -> World -> Prop} {N : Nat} {e : Env} {w : World} {c : List PanicEntry} (hx : Pn c w) :
  ∀ a n, FitsG N [] e a -> Qtu P fn F Pn (.panic c) a (w.drewN n) := fun a n ha => by
 show LeavesInM _ _ _ _ _ _ a.defers _ _
 rw [ha.defers]
 exact ⟨w, n, rfl, hx⟩
def Qwp (C : CtxG) (o : Oper) (e : Env) (w : World) (R : Value -> World -> Prop) : Prop :=
 ∀ (a : Act) (n : Nat) (next : Act -> World -> Prop) (Q : Exit -> Act -> World -> Prop), FitsG C.N C.D e a -> (∀ (v : Value) (w' : World) (m : Nat), R v w' -> next (a.put o.dst v) (w'.drewN m)) ->
  (∀ (c : List PanicEntry) (w' : World) (m : Nat), C.post (.panic c) a (w'.drewN m) -> Q (.panic c) a (w'.drewN m)) -> o.wpIn (Qgh C.L) 0 C.P a (w.drewN n) next Q
def spC (A : Env -> World -> Prop) : Env -> World -> Prop := A
theorem QJ1 {P : Program} {N : Nat} {ops : List Oper} {e : Env} {w : World} (A : Env -> World -> Prop) : Qa0 P N ops [] e w (spC A) = A e w := rfl
theorem Qiq {F : Fence} {n : Nat} {P : Program} {ops : Array Oper} {Q : Exit -> Act -> World -> Prop} (l2 : List Oper) : ∀ (l1 : List Oper) (a : Act) (w : World),
  wpListIn F n P ops (Exit.then (wpListIn F n P ops Q l2) Q) l1 a w -> wpListIn F n P ops Q (l1 ++ l2) a w := by
 intro l1
 induction l1 with
 | nil => intro a w h;exact h
 | cons o l1 ih =>
  intro a w h
  simp only [wpListIn, List.cons_append] at h ⊢
  split
  ·
   rename_i hw
   rw [if_pos hw] at h
   obtain ⟨h1, h2⟩ := h
   refine ⟨h1, ?_⟩
   revert h2
   generalize (o.semAt F.round a.eval).run P w = r
   intro h2
   cases r with
   | ok x w' =>
    cases x <;> simp only [Oper.uponIn] at h2 ⊢ <;>
     first
      | exact ih _ _ h2
      | exact ⟨h2.1, CallsIn.mono h2.2 (fun e w'' he => by cases e <;> first | exact ih _ _ he | exact he | (obtain ⟨a0, w0, he⟩ := he;exact ⟨a0, w0, he⟩))⟩
      | exact ⟨h2.1, RowsIn.mono h2.2 (fun _ _ he => ih _ _ he)⟩
      | exact ⟨h2.1, RoundIn.mono h2.2 (fun e w'' he => by cases e <;> first | exact ih _ _ he | exact he | (obtain ⟨a0, w0, he⟩ := he;exact ⟨a0, w0, he⟩))⟩
      | exact h2
   | halt x w' => cases x <;> simp only [Oper.uponIn] at h2 ⊢ <;> exact h2
  ·
   rename_i hw
   rw [if_neg hw] at h
   exact ⟨h.1, ih _ _ h.2⟩
theorem Qlh {P : Program} {L : Option Nat} {D : List Deferred} {Q : Exit -> Act -> World -> Prop} {ops : Array Oper} : ∀ (l : List Oper) (a : Act) (w : World), l.all Qek = true ->
  wpList P ops (Qapp D Q) l a w -> wpListIn (Qgh L) 0 P ops Q l (a.app D) w := by
 intro l
 induction l with
 | nil => intro a w _ h;exact h.2
 | cons o l ih =>
  intro a w hd h
  simp only [List.all_cons, Bool.and_eq_true] at hd
  simp only [wpList, wpListIn] at h ⊢
  have ht : (a.app D).tmps = a.tmps := rfl
  rw [ht]
  split
  ·
   rename_i hw
   rw [if_pos hw] at h
   rcases h with h | ⟨_, _, _, h⟩
   ·
    exact QH7 hd.1 (fun a w => ih a w hd.2) h
   ·
    exact h.elim
  ·
   rename_i hw
   rw [if_neg hw] at h
   have h2 := ih _ _ hd.2 h;rw [Qip] at h2;exact ⟨fun _ _ => trivial, h2⟩
theorem Qhs {F : Fence} {n : Nat} {P : Program} {ops : Array Oper} {Q Q' : Exit -> Act -> World -> Prop} (hq : ∀ ex a w, Q ex a w -> Q' ex a w) : ∀ (l : List Oper) (a : Act) (w : World), wpListIn F n P ops Q l a w -> wpListIn F n P ops Q' l a w := by
 intro l
 induction l with
 | nil => intro a w h;exact hq _ _ _ h
 | cons x l ih =>
  intro a w h
  simp only [wpListIn] at h ⊢
  split
  ·
   rename_i hw
   rw [if_pos hw] at h
   obtain ⟨g1, g2⟩ := h
   refine ⟨g1, ?_⟩
   revert g2
   generalize (x.semAt F.round a.eval).run P w = r
   intro g2
   cases r with
   | ok y w' =>
    cases y <;> simp only [Oper.uponIn] at g2 ⊢ <;>
     first
      | exact ih _ _ g2
      | exact ⟨g2.1, CallsIn.mono g2.2 (fun e w'' he => by cases e <;> first | exact ih _ _ he | exact hq _ _ _ he | (obtain ⟨a0, w0, he⟩ := he;exact ⟨a0, w0, hq _ _ _ he⟩))⟩
      | exact ⟨g2.1, RowsIn.mono g2.2 (fun _ _ he => ih _ _ he)⟩
      | exact ⟨g2.1, RoundIn.mono g2.2 (fun e w'' he => by cases e <;> first | exact ih _ _ he | exact hq _ _ _ he | (obtain ⟨a0, w0, he⟩ := he;exact ⟨a0, w0, hq _ _ _ he⟩))⟩
      | exact g2
   | halt y w' => cases y <;> simp only [Oper.uponIn] at g2 ⊢ <;> first | exact hq _ _ _ g2 | exact g2
  ·
   rename_i hw
   rw [if_neg hw] at h
   exact ⟨h.1, ih _ _ h.2⟩
def Qtw (C : CtxG) (ops : List Oper) (R : List Oper -> Env -> World -> Prop) (l : List Oper) (e : Env) (w : World) : Prop :=
 match l with
 | o :: l' => Qii ops o.guard e (fun e => Qwp C o e w fun v w => R l' (e.put o.dst v) w) (fun e => R l' (e.put o.dst undef) w)
 | [] => False
def Qkj (C : CtxG) (ops : List Oper) (K : Env -> World -> Prop) : List Nat -> List Oper -> Env -> World -> Prop
 | [], l, e, w => Qa0 C.P C.N ops l e w K
 | i :: is, l, e, w => Qa0 C.P C.N ops (l.take i) e w (spC fun e w => Qtw C ops (Qkj C ops K is) (l.drop i) e w)
def Qtx (N : Nat) : List Nat -> List Oper -> Bool
 | [], l => l.all (Qdn N) && l.all Qek
 | i :: is, l => (l.take i).all (Qdn N) && (l.take i).all Qek && match l.drop i with
  | o :: l' => Qdn N o && Qtx N is l'
  | [] => false
theorem QNm {C : CtxG} {ops l : List Oper} {K : Env -> World -> Prop} {e : Env} {w : World} : Qkj C ops K [] l e w = Qa0 C.P C.N ops l e w K := rfl
theorem QC3 {C : CtxG} {ops l : List Oper} {K : Env -> World -> Prop} {e : Env} {w : World} (i : Nat) (is : List Nat) : Qkj C ops K (i :: is) l e w = Qa0 C.P C.N ops (l.take i) e w (spC fun e w => Qtw C ops (Qkj C ops K is) (l.drop i) e w) := rfl
theorem QQh {C : CtxG} {ops l : List Oper} {R : List Oper -> Env -> World -> Prop} {e : Env} {w : World} (d : Option Tmp) (op : Op) (ty : Nat) (pos : String) (af : Array Edge) : Qtw C ops R (⟨d, op, ty, pos, af, none⟩ :: l) e w = Qwp C ⟨d, op, ty, pos, af, none⟩ e w fun v w => R l (e.put d v) w := rfl
theorem QNn {C : CtxG} {ops l : List Oper} {R : List Oper -> Env -> World -> Prop} {e : Env} {w : World} (d : Option Tmp) (op : Op) (ty : Nat) (pos : String) (af : Array Edge) (j : Nat) (b : Bool) : Qtw C ops R (⟨d, op, ty, pos, af, some (j, b)⟩ :: l) e w = Qbe ops j b e (fun e => Qwp C ⟨d, op, ty, pos, af, some (j, b)⟩ e w fun v w => R l (e.put d v) w) (fun e => R l (e.put d undef) w) := by
 rw [<- Qay];rfl
theorem QAk {C : CtxG} {ops : List Oper} {Q : Exit -> Act -> World -> Prop} {K : Env -> World -> Prop} (hQ : ∀ c a w, C.post (.panic c) a w -> Q (.panic c) a w)
  (hK : ∀ e a w n, FitsG C.N C.D e a -> K e w -> Q .normal a (w.drewN n)) : ∀ (is : List Nat) (l : List Oper) (e : Env) (a : Act) (w : World) (n : Nat), Qtx C.N is l = true -> FitsG C.N C.D e a ->
   Qkj C ops K is l e w -> wpListIn (Qgh C.L) 0 C.P ops.toArray Q l a (w.drewN n) := by
 intro is
 induction is with
 | nil =>
  intro l e a w n hl ha h
  simp only [Qtx, Bool.and_eq_true] at hl
  have hA := Qfn (P := C.P) (N := C.N) (ops := ops) (Q := Qapp C.D fun ex a w => match ex with | .normal => Q .normal a w | _ => False) (K := K)
   (fun e a w n ha hv => ⟨ha.defers, hK e _ w n (FitsG.of ha) hv⟩) l e _ w n hl.1 ha.bare h
  have hB := Qlh (L := C.L) _ _ _ hl.2 hA
  rw [ha.app] at hB
  refine Qhs (fun ex a w hq => ?_) _ _ _ hB
  cases ex <;> first | exact hq | exact hq.elim
 | cons i is ih =>
  intro l e a w n hl ha h
  simp only [Qtx, Bool.and_eq_true] at hl
  obtain ⟨⟨h1, h2⟩, h3⟩ := hl
  cases hd : l.drop i with
  | nil => rw [hd] at h3;cases h3
  | cons o l' =>
   rw [hd] at h3
   simp only [Bool.and_eq_true] at h3
   rw [<- List.take_append_drop i l, hd]
   refine Qiq _ _ _ _ ?_
   rw [QC3, hd] at h
   have hA := Qfn (P := C.P) (N := C.N) (ops := ops) (Q := Qapp C.D fun ex a w => match ex with
     | .normal => ∃ e w0 n, w = w0.drewN n /\ FitsG C.N C.D e a /\ Qtw C ops (Qkj C ops K is) (o :: l') e w0
     | _ => False)
    (fun e a w n ha hv => ⟨ha.defers, e, w, n, rfl, FitsG.of ha, hv⟩) (l.take i) e _ w n h1 ha.bare h
   have hB := Qlh (L := C.L) _ _ _ h2 hA
   rw [ha.app] at hB
   refine Qhs (fun ex a w hq => ?_) _ _ _ hB
   cases ex with
   | normal =>
    obtain ⟨e1, w1, m, rfl, hf, hs⟩ := hq
    show wpListIn _ _ _ _ _ (o :: l') a _
    simp only [wpListIn]
    have hput : ∀ (e2 : Env) (v : Value), FitsG C.N C.D e2 a -> FitsG C.N C.D (e2.put o.dst v) (a.put o.dst v) := fun e2 v hf2 => by
     have g1 := hf2.bare.put' h3.1 v
     have g2 := FitsG.of (D := C.D) g1
     rw [Qip, hf2.app] at g2
     exact g2
    have hfa : ∀ e2, Fits C.N e2 { a with defers := [] } -> FitsG C.N C.D e2 a := fun e2 g => ⟨g.size, hf.defers, g.at_⟩
    have hs' : Qii ops o.guard e1 (fun e => Qwp C o e w1 fun v w => Qkj C ops K is l' (e.put o.dst v) w) (fun e => Qkj C ops K is l' (e.put o.dst undef) w1) := hs
    rcases Qdp hf.bare hs' with ⟨e2, g1, g2, hw⟩ | ⟨e2, g1, g2, hw⟩
    ·
     rw [if_pos hw]
     exact g2 a m _ _ (hfa e2 g1) (fun v w' m' hv => ih l' _ _ w' m' h3.2 (hput e2 v (hfa e2 g1)) hv) (fun c w' m' hp => hQ _ _ _ hp)
    ·
     rw [if_neg (by rw [hw];simp)]
     exact ⟨fun _ _ => trivial, ih l' _ _ w1 m h3.2 (hput e2 undef (hfa e2 g1)) g2⟩
   | _ => exact hq.elim
section
variable {C : CtxG} {k : List It} {e : Env} {w : World}
theorem Qe0 (ks : List Nat) (is : List Nat) {id : Nat} {ops : List Oper} (hN : Qtx C.N is ops = true)
  (h : ∀ K : Env -> World -> Prop, (∀ e w, VG C k e w -> K e w) -> Qkj C ops (selC ks K) is ops e w) : VG C (.code (.region id ops.toArray false) :: k) e w := by
 intro a n ha
 refine wpIn_region_lit ?_
 exact QAk (Q := fun ex a w => Qgi C k ex a w) (K := selC ks (VG C k)) (fun c a w hp => Qwo.2 hp) (fun e a w n ha hv => ((Qct ks e _).1 hv) a n (ha.sel ks)) is ops e a w n hN ha (h _ fun _ _ hv => hv)
variable {d : Option Tmp} {ty : Nat} {pos : String} {af : Array Edge} {gd : Option (Nat × Bool)} {R : Value -> World -> Prop}
def CallP (C : CtxG) (e : Env) (fv : Value) (vs : List Value) (w : World) (R : Value -> World -> Prop) : Prop :=
 ∃ f first cs, fv = .func (.func f) first cs /\ (∀ args w, (callFunc f args).run C.P w = .ok (.enter f args) w) /\ ∃ F Pn, DoesP C.P f (first.toList ++ vs ++ cs.toList).toArray w F Pn /\ (∀ v w', F v w' -> R v w') /\ (∀ c w', Pn c w' -> ∀ a n, FitsG C.N C.D e a -> C.post (.panic c) a (w'.drewN n))
theorem CallP.mk {f : FuncId} {first cs : Array Value} {vs : List Value} {F : Value -> World -> Prop} {Pn : List PanicEntry -> World -> Prop} (hf : ∀ args w, (callFunc f args).run C.P w = .ok (.enter f args) w)
  (h : DoesP C.P f (first.toList ++ vs ++ cs.toList).toArray w F Pn) (hc : ∀ v w', F v w' -> R v w') (hp : ∀ c w', Pn c w' -> ∀ a n, FitsG C.N C.D e a -> C.post (.panic c) a (w'.drewN n)) : CallP C e (.func (.func f) first cs) vs w R :=
 ⟨f, first, cs, rfl, hf, F, Pn, h, hc, hp⟩
theorem Qfq {x : Operand} {az : Array Operand} {ts : Array TypeId}
  (h : arg e x fun fv => argL e az.toList fun vs => CallP C e fv vs w R) :
  Qwp C ⟨d, .call { callee := .value x, args := az, argTypes := ts }, ty, pos, af, gd⟩ e w R := by
 intro a n next Q ha hK hP
 have h0 := Qa6 ha.bare h
 have h1 := Qcm ha.bare h0
 obtain ⟨f, first, cs, hx, hf, F, Pn, hD, hC, hpn⟩ := h1
 have ev : ({ a with defers := [] } : Act).eval = a.eval := by funext x;cases x <;> rfl
 rw [ev] at hx hD
 have hm : (az.map a.eval) = (az.toList.map a.eval).toArray := Qep az a
 have e1 : first ++ (az.toList.map a.eval).toArray ++ cs = (first.toList ++ az.toList.map a.eval ++ cs.toList).toArray := by
  apply Array.ext';simp
 have hrun : (execOp a.eval ⟨d, .call { callee := .value x, args := az, argTypes := ts }, ty, pos, af, gd⟩).run C.P (w.drewN n) = .ok (.enter f (first.toList ++ az.toList.map a.eval ++ cs.toList).toArray) (w.drewN n) := by
  simp only [execOp, resolve, hx, Deferred.ofValue, Sem.run_bind, Sem.run_pure, Result.andThen_ok, invoke, hm, e1]
  simp [hf]
 refine ⟨fun _ _ => trivial, ?_⟩
 rw [Oper.semAt_eq _ _ _ (fun c hc => by cases hc), hrun]
 refine ⟨by simp [Qgh, Fence.wide], Qhq ((hD n).mono fun e' w' he => ?_)⟩
 cases e' with
 | returned v => obtain ⟨w1, m, rfl, hF⟩ := he;exact hK v w1 m (hC v w1 hF)
 | panicked c => obtain ⟨w1, m, rfl, hF⟩ := he;exact hP c w1 m (hpn c w1 hF a m ha)
 | outgrown => exact he.elim
def YieldK (P : Program) (l : Nat) (vs : List Value) (w : World) (R : Value -> World -> Prop) : Prop :=
 ∀ n, ∃ fn tmps assign body, (Instr.yield l vs.toArray).run P (w.drewN n) = .ok (.round l fn tmps assign body) (w.drewN n) /\
  RoundIn Fence.wide 0 P l fn tmps assign body (w.drewN n) fun e w' => ∃ v w1 m, e = .returned v /\ w' = w1.drewN m /\ R v w1
theorem YieldK.mono {P : Program} {l : Nat} {vs : List Value} {w : World} {R R' : Value -> World -> Prop} (h : YieldK P l vs w R) (hr : ∀ v w', R v w' -> R' v w') : YieldK P l vs w R' := fun n => by
 obtain ⟨fn, tmps, az, bd, h1, h2⟩ := h n
 exact ⟨fn, tmps, az, bd, h1, h2.mono fun e w' ⟨v, w1, m, he, hw, hR⟩ => ⟨v, w1, m, he, hw, hr _ _ hR⟩⟩
theorem Qwq {x : Operand} {az : Array Operand} {ts : Array TypeId}
  (h : arg e x fun fv => argL e az.toList fun vs => ∃ l, fv = .func (.yield l) #[] #[] /\ YieldK C.P l vs w R) :
  Qwp C ⟨d, .call { callee := .value x, args := az, argTypes := ts }, ty, pos, af, gd⟩ e w R := by
 intro a n next Q ha hK hP
 have h0 := Qa6 ha.bare h
 have h1 := Qcm ha.bare h0
 obtain ⟨l, hx, hY⟩ := h1
 have ev : ({ a with defers := [] } : Act).eval = a.eval := by funext x;cases x <;> rfl
 rw [ev] at hx hY
 obtain ⟨fn, tmps, asg, bd, hy, hR⟩ := hY n
 have hm : (az.map a.eval) = (az.toList.map a.eval).toArray := Qep az a
 have hrun : (execOp a.eval ⟨d, .call { callee := .value x, args := az, argTypes := ts }, ty, pos, af, gd⟩).run C.P (w.drewN n) = .ok (.round l fn tmps asg bd) (w.drewN n) := by
  simp only [execOp, resolve, hx, Deferred.ofValue, Sem.run_bind, Sem.run_pure, Result.andThen_ok, invoke, hm]
  simpa using hy
 refine ⟨fun _ _ => trivial, ?_⟩
 rw [Oper.semAt_eq _ _ _ (fun c hc => by cases hc), hrun]
 refine ⟨by simp [Qgh, Fence.wide], ?_⟩
 refine RoundIn.mono (F := Qgh C.L) (show RoundIn (Qgh C.L) (0 - 1) C.P l fn tmps asg bd (w.drewN n) _ from hR) fun e' w' he => ?_
 obtain ⟨v, w1, m, rfl, rfl, hv⟩ := he
 exact hK v w1 m hv
theorem Qjs {x : Operand} (h : arg e x fun v => (∃ t u, v = .iface t u) /\ ∀ a n, FitsG C.N C.D e a -> C.post (.panic [{ v := v, recovered := false }]) a (w.drewN n)) :
  Qwp C ⟨d, .panic x, ty, pos, af, gd⟩ e w R := by
 intro a n next Q ha hK hP
 obtain ⟨⟨t, u, hx⟩, hp⟩ := Qa6 ha.bare h
 have ev : ({ a with defers := [] } : Act).eval = a.eval := by funext x;cases x <;> rfl
 rw [ev] at hx hp
 have hrun : (execOp a.eval ⟨d, .panic x, ty, pos, af, gd⟩).run C.P (w.drewN n) = .halt (.panic (a.eval x)) (w.drewN n) := by
  simp only [execOp, hx, Instr.panic]
  rfl
 refine ⟨fun _ _ => trivial, ?_⟩
 rw [Oper.semAt_eq _ _ _ (fun c hc => by cases hc), hrun]
 exact hP _ w n (hp a n ha)
def Qrm : List It -> Bool
 | [] => true
 | .again _ :: _ => false
 | _ :: k => Qrm k
theorem Qwr (D : List Deferred) {k : List It} (hk : Qrm k = true) : ∀ {ex : Exit} {a : Act} {w : World}, Qgi { C with D := D } k ex a w ↔ Qgi C k ex a w := by
 induction k with
 | nil => intro ex a w;exact Iff.rfl
 | cons x k ih =>
  intro ex a w
  cases x with
  | again I => cases hk
  | blk id =>
   have ih := fun {ex a w} => @ih hk ex a w
   cases ex <;> first | exact ih | skip
   rename_i id'
   simp only [Qgi]
   split
   ·
    exact ih
   ·
    exact ih
  | code c =>
   have ih := fun {ex a w} => @ih hk ex a w
   cases ex <;> first | exact ih | skip
   simp only [Qgi]
   constructor
   ·
    exact fun h => wpIn_mono h fun ex a w hq => ih.1 hq
   ·
    exact fun h => wpIn_mono h fun ex a w hq => ih.2 hq
theorem QAl {P : Program} {N : Nat} {D : List Deferred} {post : Exit -> Act -> World -> Prop} (ks : List Nat) (i : Nat) {id : Nat} {ops : List Oper} {x : Operand} {az : Array Operand} {ts : Array TypeId} (hk : Qrm k = true)
  (hN : ((ops.take i).all (Qdn N) && (ops.take i).all Qek) = true) (hl : ops.drop i = [⟨none, .defer { callee := .value x, args := az, argTypes := ts }, ty, pos, af, none⟩])
  (h : ∀ K : Deferred -> Env -> World -> Prop, (∀ d e w, VG ⟨P, N, none, d :: D, post⟩ k e w -> K d e w) ->
   Qa0 P N ops (ops.take i) e w (spC fun e w => arg e x fun fv => argL e az.toList fun vs => ∃ f first cs, fv = .func (.func f) first cs /\ selK ks e fun e => K { target := .fn (.func f) cs, args := first ++ vs.toArray } e w)) : VG ⟨P, N, none, D, post⟩ (.code (.region id ops.toArray false) :: k) e w := by
 intro a n ha
 simp only [Bool.and_eq_true] at hN
 refine wpIn_region_lit ?_
 have key : wpListIn (Qgh none) 0 P ops.toArray (fun ex a w => Qgi ⟨P, N, none, D, post⟩ k ex a w) (ops.take i ++ [⟨none, .defer { callee := .value x, args := az, argTypes := ts }, ty, pos, af, none⟩]) a (w.drewN n) := by
  refine Qiq _ _ _ _ ?_
  have hA := Qfn (P := P) (N := N) (ops := ops) (Q := Qapp D fun ex a w => match ex with
    | .normal => ∃ e w0 n, w = w0.drewN n /\ FitsG N D e a /\ arg e x fun fv => argL e az.toList fun vs => ∃ f first cs, fv = .func (.func f) first cs /\ selK ks e fun e => VG ⟨P, N, none, { target := .fn (.func f) cs, args := first ++ vs.toArray } :: D, post⟩ k e w0
    | _ => False)
   (fun e a w n ha hv => ⟨ha.defers, e, w, n, rfl, FitsG.of ha, hv⟩) (ops.take i) e _ w n hN.1 ha.bare (h _ fun _ _ _ hv => hv)
  have hB := Qlh (L := none) _ _ _ hN.2 hA
  rw [FitsG.app ha] at hB
  refine Qhs (fun ex a w hq => ?_) _ _ _ hB
  cases ex with
  | normal =>
   obtain ⟨e1, w1, m, rfl, hf, hs⟩ := hq
   show wpListIn _ _ _ _ _ [_] a _
   simp only [wpListIn]
   rw [if_pos (by simp [Region.wanted])]
   have h0 := Qa6 hf.bare hs
   have h1 := Qcm hf.bare h0
   obtain ⟨f, first, cs, hx, hv⟩ := h1
   have ev : ({ a with defers := [] } : Act).eval = a.eval := by funext x;cases x <;> rfl
   rw [ev] at hx hv
   have hm : (az.map a.eval) = (az.toList.map a.eval).toArray := Qep az a
   refine ⟨fun _ _ => trivial, ?_⟩
   have hrun : (Oper.semAt (Qgh none).round a.eval ⟨none, .defer { callee := .value x, args := az, argTypes := ts }, ty, pos, af, none⟩).run P (w1.drewN m) = .ok (.defer { target := .fn (.func f) cs, args := first ++ (az.toList.map a.eval).toArray }) (w1.drewN m) := by
    rw [show (Qgh none).round = none from rfl, Oper.semAt_none]
    simp only [execOp, resolve, hx, Deferred.ofValue, Sem.run_bind, Sem.run_pure, Result.andThen_ok, hm]
   rw [hrun]
   refine (Qwr (C := ⟨P, N, none, D, post⟩) _ hk).1 (((Qct ks e1 _).1 hv) _ m (FitsG.sel ?_ ks))
   exact ⟨hf.size, by simp [Act.put, hf.defers], hf.at_⟩
  | _ => exact hq.elim
 rw [<- hl, List.take_append_drop] at key
 exact key
theorem Qtz {P : Program} {N : Nat} {D : List Deferred} {post : Exit -> Act -> World -> Prop} {g : Operand} {ps : Array Tmp} {assign body : Code} (hk : Qrm k = true) {gf : FuncId} {first cs : Array Value}
  (hg : arg e g fun v => v = Value.func (.func gf) first cs) (hf : ∀ args w, (callFunc gf args).run P w = .ok (.enter gf args) w)
  (h : ∀ r : Loop, r.state = .ready -> r.pending = none -> r.params = ps -> r.assign = assign -> r.body = body -> r.defers = w.heap.size -> r.tmps.size = N -> (∀ t v, e.find? t = some v -> r.tmps.getD t undef = v) ->
   DoesP P gf (first.toList ++ [Value.func (.yield (w.heap.size + 1)) #[] #[]] ++ cs.toList).toArray ((w.alloc (.deferred (some []))).alloc (.loop r))
    (fun _ w2 => ∃ st pd, w2.heap[w.heap.size + 1]? = some (Obj.loop { r with state := st, pending := pd }) /\ st ≠ .busy /\
     match pd with
     | none => VG ⟨P, N, none, Qtv w.heap.size :: D, post⟩ k e (w2.putObj (w.heap.size + 1) (.loop { r with state := .exhausted, pending := none }))
     | some c => VG ⟨P, N, none, Qtv w.heap.size :: D, post⟩ (.code c :: k) e (w2.putObj (w.heap.size + 1) (.loop { r with state := .exhausted, pending := some c }))) noPn) :
  VG ⟨P, N, none, D, post⟩ (.code (.rangeFunc g ps assign body) :: k) e w := by
 intro a n ha
 have hge := ha.eval hg
 have hdep : (Qgh none).depth.isSome = true -> 1 <= 0 := by simp [Qgh, Fence.wide]
 refine wpIn_rangeFunc fun fn _ => ?_
 have hh := h { state := .ready, pending := none, fn := fn, tmps := a.tmps, params := ps, assign := assign, body := body, defers := w.heap.size } rfl rfl rfl rfl rfl rfl ha.size ha.at_
 generalize hr : ({ state := .ready, pending := none, fn := fn, tmps := a.tmps, params := ps, assign := assign, body := body, defers := w.heap.size } : Loop) = r at hh
 have he := run_enterLoop_outer (P := P) (w := w.drewN n) fn a.tmps ps assign body
 have hsz : (w.drewN n).heap.size = w.heap.size := rfl
 rw [hsz, hr] at he
 have e1 : first ++ #[Value.func (.yield (w.heap.size + 1)) #[] #[]] ++ cs = (first.toList ++ [Value.func (.yield (w.heap.size + 1)) #[] #[]] ++ cs.toList).toArray := by
  apply Array.ext';simp
 refine ⟨w.heap.size + 1, [Qtv w.heap.size], _, { target := .fn (.func gf) cs, args := first ++ #[Value.func (.yield (w.heap.size + 1)) #[] #[]] }, ((w.alloc (Obj.deferred (some []))).alloc (Obj.loop r)).drewN n, gf, (first.toList ++ [Value.func (.yield (w.heap.size + 1)) #[] #[]] ++ cs.toList).toArray, _, he, ?_, fun _ _ => trivial, ?_, hdep, Qhq (((hh n)).mono fun ex w3 hex => ?_)⟩
 ·
  have hc : (rangeCall g (w.heap.size + 1)).args.map a.eval = #[Value.func (.yield (w.heap.size + 1)) #[] #[]] := by simp [rangeCall, Act.eval]
  simp only [resolve, hge, Deferred.ofValue, Sem.run_bind, Sem.run_pure, Result.andThen_ok, hc]
  rfl
 ·
  simp only [invoke]
  rw [<- e1]
  exact hf _ _
 ·
  cases ex with
  | outgrown => exact hex.elim
  | panicked c => obtain ⟨_, _, _, hx⟩ := hex;exact hx.elim
  | returned v =>
   obtain ⟨w2, m, rfl, st, pd, hl, hst, hv⟩ := hex
   have hen := run_endLoop (P := P) (w := w2.drewN m) (l := w.heap.size + 1) (r := { r with state := st, pending := pd }) hl hst
   refine ⟨pd, _, hen, ?_⟩
   have hfit : FitsG N (Qtv w.heap.size :: D) e { a with defers := [Qtv w.heap.size] ++ a.defers } := ⟨ha.size, by simp [ha.defers], ha.at_⟩
   cases pd with
   | none => exact (Qwr (C := ⟨P, N, none, D, post⟩) (Qtv w.heap.size :: D) hk).1 (hv _ m hfit)
   | some c => exact wpIn_mono (hv _ m hfit) fun ex a _ hq => (Qwr (C := ⟨P, N, none, D, post⟩) (Qtv w.heap.size :: D) hk).1 hq
end
def QNp (P : Program) (l : Nat) (r : Loop) (R : Value -> World -> Prop) : Exit -> Act -> World -> Prop
 | .normal, _, w => ∃ (w0 : World) (n : Nat), w = w0.drewN n /\ w0.heap[l]? = some (.loop { r with state := .busy }) /\ R (.bool true) (w0.putObj l (.loop { r with state := .ready, pending := none }))
 | .ret, _, w => ∃ (w0 : World) (n : Nat), w = w0.drewN n /\ w0.heap[l]? = some (.loop { r with state := .busy }) /\ R (.bool false) (w0.putObj l (.loop { r with state := .done, pending := some .ret }))
 | .exit id, _, w => ∃ (w0 : World) (n : Nat), w = w0.drewN n /\ w0.heap[l]? = some (.loop { r with state := .busy }) /\ R (.bool false) (w0.putObj l (.loop { r with state := .done, pending := some (.exit id) }))
 | _, _, _ => False
theorem Qt0 {P : Program} {N l : Nat} {r : Loop} {vs : List Value} {w : World} {R : Value -> World -> Prop} {e : Env} (hl : w.heap[l]? = some (Obj.loop r)) (hst : r.state = .ready) (hsz : r.tmps.size = N) (hps : vs.length = r.params.size)
  (he : ∀ t v, e.find? t = some v -> ((r.params.zip vs.toArray).foldl (fun tmps (t, a) => tmps.setIfInBounds t a) r.tmps).getD t undef = v)
  (h : VG ⟨P, N, some l, [], fun ex a w => ex = .normal /\ ∃ (e0 : Env) (w0 : World) (n : Nat), w = w0.drewN n /\ FitsG N [] e0 a /\ w0.heap[l]? = some (.loop r) /\ VG ⟨P, N, some l, [], QNp P l r R⟩ [.code r.body] e0 (w0.putObj l (.loop { r with state := .busy }))⟩ [.code r.assign] e w) :
  YieldK P l vs w R := by
 intro n
 have hy := run_yield (P := P) (w := w.drewN n) (l := l) (r := r) (args := vs.toArray) hl (by simpa using hps)
 refine ⟨_, _, _, _, hy, roundIn_of_wpIn trivial ?_⟩
 have hszT : ((r.params.zip vs.toArray).foldl (fun tmps (t, a) => tmps.setIfInBounds t a) r.tmps).size = N := by
  have key : ∀ (l : List (Tmp × Value)) (T : Array Value), (l.foldl (fun tmps (x : Tmp × Value) => tmps.setIfInBounds x.1 x.2) T).size = T.size := by
   intro l
   induction l with
   | nil => intro T;rfl
   | cons x l ih => intro T;rw [List.foldl_cons, ih];simp
  rw [<- Array.foldl_toList]
  rw [<- hsz]
  exact key _ _
 have h1 := h { tmps := (r.params.zip vs.toArray).foldl (fun tmps (t, a) => tmps.setIfInBounds t a) r.tmps, defers := [] } n ⟨hszT, rfl, he⟩
 refine wpIn_mono (F := Fence.wide.inRound l) h1 fun ex a w' hq => ?_
 obtain ⟨rfl, e0, w0, m, rfl, hf, hl0, hb⟩ := hq
 refine ⟨_, run_beginRound (P := P) (w := w0.drewN m) hl0 hst, ?_⟩
 refine wpIn_mono (F := Fence.wide.inRound l) (hb a m hf) fun ex a w' hq => ?_
 cases ex with
 | normal =>
  obtain ⟨w1, m1, rfl, hl1, hR⟩ := hq
  exact ⟨_, _, run_endRound (P := P) (w := w1.drewN m1) none hl1, _, _, m1, rfl, rfl, hR⟩
 | ret =>
  obtain ⟨w1, m1, rfl, hl1, hR⟩ := hq
  exact ⟨_, _, run_endRound (P := P) (w := w1.drewN m1) (some .ret) hl1, _, _, m1, rfl, rfl, hR⟩
 | exit id =>
  obtain ⟨w1, m1, rfl, hl1, hR⟩ := hq
  exact ⟨_, _, run_endRound (P := P) (w := w1.drewN m1) (some (.exit id)) hl1, _, _, m1, rfl, rfl, hR⟩
 | goto t => exact hq.elim
 | panic c => exact hq.elim
 | outgrown => exact hq.elim
attribute [go_sem ↓] QJ1 QNm QC3 QQh QNn
theorem Qqf {P : Program} {f : FuncId} {fn : Func} {id : Nat} {t s : Tmp} {ts : Array TypeId} {ty1 ty2 : Nat} {p1 p2 : String} {a1 a2 : Array Edge} {rest : Code} {N : Nat} {args : List Value} {u u' : FrameMode} {v : Value} {w : World} {R : World -> Prop}
  (hf : P.funcs[f]? = some fn) (hb : fn.body = some (.seq (.region id #[⟨some t, .call { callee := .builtin .recover, args := #[], argTypes := ts }, ty1, p1, a1, none⟩, ⟨some s, .assign (.tmp t), ty2, p2, a2, none⟩] false) rest)) (hres : fn.results = #[]) (hN : fn.ntmps = N) (hle : args.length <= N) (ht : t < N) (hs : s < N)
  (hu : u = .returning /\ u' = .returning /\ v = .nilIface ∨ u = .panicking [{ v := v, recovered := false }] /\ u' = .panicking [{ v := v, recovered := true }])
  (h : VG ⟨P, N, none, [], fun ex a w' => (ex = .normal ∨ ex = .ret) /\ a.defers = [] /\ ∃ w1 m, w' = w1.drewN m /\ R w1⟩ [.code rest] ((s, v) :: (t, v) :: Env.ofArgs 0 args) w) :
  ∀ n, CallsDIn Fence.wide 0 P f args.toArray u (w.drewN n) (fun e u2 w' => (∃ x, e = .returned x) /\ u2 = u' /\ ∃ w1 m, w' = w1.drewN m /\ R w1) := by
 intro n
 refine callsDIn_of_wpSIn hf hb trivial fun c₀ cs hm => ?_
 generalize ha0 : ({ tmps := args.toArray ++ Array.replicate (fn.ntmps - args.toArray.size) undef, defers := [] } : Act) = a0
 have hfit0 : Fits N (Env.ofArgs 0 args) a0 := by
  subst ha0
  refine ⟨by simp [hN];omega, rfl, fun t v ht => ?_⟩
  have := (Env.find?_ofArgs args 0 t v ht).2
  rw [Array.getD_eq_getD_getElem?, Array.getElem?_append]
  have hlt : t < args.toArray.size := by
   have h2 := (List.getElem?_eq_some_iff.1 this).1
   simpa using h2
  simp only [hlt, if_true]
  simp at this ⊢
  simp [this]
 refine wpSIn_seq (wpSIn_region ?_)
 have hfit1 : Fits N ((t, v) :: Env.ofArgs 0 args) (a0.put (some t) v) := hfit0.put (some t) v fun x hx => by cases hx;exact ht
 have hfit2 : Fits N ((s, v) :: (t, v) :: Env.ofArgs 0 args) ((a0.put (some t) v).put (some s) v) := hfit1.put (some s) v fun x hx => by cases hx;exact hs
 have hev : (a0.put (some t) v).eval (.tmp t) = v := hfit1.at_ t v (by simp [Env.find?])
 have hcs : ∃ cs', (recoverD (c₀ :: cs) = some (v, cs') ∨ recoverD (c₀ :: cs) = none /\ v = .nilIface /\ cs' = c₀ :: cs) /\ cs' = { c₀ with mode := u' } :: cs := by
  rcases hu with ⟨h1, h2, h3⟩ | ⟨h1, h2⟩
  ·
   refine ⟨c₀ :: cs, .inr ⟨?_, h3, rfl⟩, ?_⟩
   ·
    simp only [recoverD, hm, h1]
   ·
    have : c₀.mode = u' := by rw [hm, h1, h2]
    cases c₀;simp only at this;subst this;rfl
  ·
   refine ⟨{ c₀ with mode := u' } :: cs, .inl ?_, rfl⟩
   simp only [recoverD, hm, h1, h2]
 obtain ⟨cs', hrec, hcs'⟩ := hcs
 have hrun2 : ∀ w, (execOp (a0.put (some t) v).eval ⟨some s, .assign (.tmp t), ty2, p2, a2, none⟩).run P w = .ok (.value v) w := fun w => by
  simp only [execOp, hev]
  rfl
 have hlast : Exit.thenS (rest.wpSIn Fence.wide 0 P (bodyPostS P fn c₀ cs fun e u2 w' => (∃ x, e = .returned x) /\ u2 = u' /\ ∃ w1 m, w' = w1.drewN m /\ R w1)) (bodyPostS P fn c₀ cs fun e u2 w' => (∃ x, e = .returned x) /\ u2 = u' /\ ∃ w1 m, w' = w1.drewN m /\ R w1) .normal ((a0.put (some t) v).put (some s) v) cs' (w.drewN n) := by
  refine wpSIn_of_wpIn rfl (wpIn_mono (F := Fence.wide) (h _ n ⟨hfit2.size, hfit2.defers, hfit2.at_⟩) fun ex a w' hq => ?_)
  obtain ⟨hex, hd, w1, m, rfl, hR⟩ := hq
  have hr := results_none hres a.tmps P (w1.drewN m)
  rcases hex with rfl | rfl
  ·
   exact ⟨hd, u', hcs', _, hr, ⟨_, rfl⟩, rfl, w1, m, rfl, hR⟩
  ·
   exact ⟨hd, u', hcs', _, hr, ⟨_, rfl⟩, rfl, w1, m, rfl, hR⟩
 have hsz : (#[⟨some t, .call { callee := .builtin .recover, args := #[], argTypes := ts }, ty1, p1, a1, none⟩, ⟨some s, .assign (.tmp t), ty2, p2, a2, none⟩] : Array Oper).size = 2 := rfl
 rw [hsz]
 simp only [show List.range 2 = [0, 1] from rfl, wpOpsSIn, List.getElem?_toArray, List.getElem?_cons_zero, List.getElem?_cons_succ]
 refine ⟨fun _ _ => trivial, ?_⟩
 rw [if_pos (by simp [Region.wanted])]
 have hrun1 : (execOp a0.eval ⟨some t, .call { callee := .builtin .recover, args := #[], argTypes := ts }, ty1, p1, a1, none⟩).run P (w.drewN n) = .ok .recover (w.drewN n) := by
  simp only [execOp, resolve, invoke, builtin, Sem.run_bind, Sem.run_pure, Result.andThen_ok]
 rw [hrun1]
 simp only []
 rcases hrec with hrec | ⟨hrec, hv, rfl⟩
 ·
  rw [hrec]
  simp only []
  refine ⟨fun _ _ => trivial, ?_⟩
  rw [if_pos (by simp [Region.wanted]), hrun2]
  exact hlast
 ·
  rw [hrec]
  simp only []
  refine ⟨fun _ _ => trivial, ?_⟩
  rw [<- hv]
  rw [if_pos (by simp [Region.wanted]), hrun2]
  exact hlast
theorem Qt1 {P : Program} {fn : Func} {F : Value -> World -> Prop} {Pn : List PanicEntry -> World -> Prop} {N : Nat} {e : Env} {w : World} {D : List Deferred} {f : FuncId} {cs : Array Value} {args : Array Value} {R : World -> Prop} {u : FrameMode}
  (hi : ∀ args w, (callFunc f args).run P w = .ok (.enter f args) w) (hu : u ≠ .run) (hD : D = [{ target := .fn (.func f) cs, args := args }])
  (hc : ∀ n, CallsDIn Fence.wide 0 P f (args ++ cs) u (w.drewN n) (fun e u2 w' => (∃ x, e = .returned x) /\ settle u2 = .returning /\ ∃ w1 m, w' = w1.drewN m /\ R w1))
  (hx : ∀ w1, R w1 -> VX ⟨P, fn, F, N⟩ [] .ret e w1) : ∀ a n, FitsG N D e a -> LeavesInM Fence.wide 0 P fn a.tmps (QGq F Pn) a.defers u (w.drewN n) := by
 intro a n ha
 rw [ha.defers, hD]
 refine ⟨hu, .inr ⟨by simp [Fence.wide], .func f, cs, f, args ++ cs, rfl, ?_, fun _ _ => trivial, ?_⟩⟩
 ·
  simp only [invoke];exact hi _ _
 ·
  obtain ⟨_, hc⟩ := hc n
  refine ⟨trivial, fun c cs hm hroom => ?_⟩
  obtain ⟨e2, u2, w2, fr, hR, h1, h2, h3, h4⟩ := hc c cs hm hroom
  refine ⟨e2, u2, w2, fr, ?_, h1, h2, h3, h4⟩
  obtain ⟨⟨x, rfl⟩, hs, w1, m, rfl, hR⟩ := hR
  show LeavesInM _ _ _ _ _ _ [] (settle u2) _
  rw [hs]
  exact Qrl (hx w1 hR) ha
def QGr (d : Option TypeDesc) : Bool :=
 match d with
 | some (.interface _) => false
 | some _ => true
 | none => false
theorem Qws {P : Program} {N : Nat} {d : Option Tmp} {ty : Nat} {pos : String} {af : Array Edge} {gd : Option (Nat × Bool)} {e : Env} {w : World} {R : Env -> World -> (Env -> World -> Prop) -> Prop} {K : Env -> World -> Prop} {x : Operand} {T T' : TypeId}
  (h : arg e x fun u => ∃ v, u = .iface T' v /\ QGr (P.underlying T') = true /\ R (e.put d (.tuple #[v, .bool true])) w K) : MemK P N ⟨d, .typeAssert x T T' true, ty, pos, af, gd⟩ e w R K :=
 Qdw fun a n ha => by
  obtain ⟨v, hx, hu, hR⟩ := Qa6 ha h
  refine ⟨_, w, n, ?_, hR⟩
  simp only [execOp, hx, Instr.typeAssert]
  cases hd : P.underlying T' with
  | none => rw [hd] at hu;cases hu
  | some t => cases t <;> first | (rw [hd] at hu;cases hu;done) | simp [run_underlying hd]
section
variable {P : Program} {w : World} {KV : Value -> Prop}
theorem Qwt {T : TypeId} {ms : Array (String × TypeId)} (hu : P.underlying T = some (.interface ms)) (d : Nat) (t : TypeId) (v : Value) (w : World) : (Op.equalIn (d + 1) T (.iface t v) .nilIface).run P w = .ok false w := by
 unfold Op.equalIn
 simp [run_underlying hu]
theorem QC4 {T : TypeId} {ms : Array (String × TypeId)} (hu : P.underlying T = some (.interface ms)) (t : TypeId) (v : Value) (w : World) : (Op.equal T (.iface t v) .nilIface).run P w = .ok false w := Qwt hu 9999 t v w
theorem Qt2 {T : TypeId} {ms : Array (String × TypeId)} (hu : P.underlying T = some (.interface ms)) (d : Nat) (w : World) : (Op.equalIn (d + 1) T .nilIface .nilIface).run P w = .ok true w := by
 unfold Op.equalIn
 simp [run_underlying hu]
theorem QAm {T : TypeId} {ms : Array (String × TypeId)} (hu : P.underlying T = some (.interface ms)) (w : World) : (Op.equal T .nilIface .nilIface).run P w = .ok true w := Qt2 hu 9999 w
theorem QQi {T : TypeId} {ms : Array (String × TypeId)} (hu : P.underlying T = some (.interface ms)) (t : TypeId) (v : Value) (xo yo : Operand) : Qbr P .neq T xo yo (.iface t v) .nilIface w KV = KV (.bool true) := by
 refine Qnw fun w' => ?_
 simp only [Sem.run_bind]
 rw [Qfu ⟨by simp, by simp⟩]
 simp only [Result.andThen_ok, binOp, Sem.run_bind, QC4 hu, Sem.run_pure]
 rfl
theorem QNq {T : TypeId} {ms : Array (String × TypeId)} (hu : P.underlying T = some (.interface ms)) (xo : Operand) (c : Value) : Qbr P .neq T xo (.const c) .nilIface .nilIface w KV = KV (.bool false) := by
 refine Qnw fun w' => ?_
 have hg : (eqGuard .neq T xo (.const c) .nilIface .nilIface).run P w' = .ok () w' := by
  unfold eqGuard
  simp
 simp only [Sem.run_bind]
 rw [hg]
 simp only [Result.andThen_ok, binOp, Sem.run_bind, QAm hu, Sem.run_pure]
 rfl
end
theorem Qs {P Q : Prop} (q : Q) (h : P = Q := by simp only [go_sem,↓reduceIte,reduceEqDiff];exact rfl) : P := h.mpr q
theorem Qo {A B : Prop} (b : B) (a : A := by omega) : A /\ B := ⟨a, b⟩
theorem Qp {A B C : Prop} (c : C) (a : A := by omega) (b : B := by omega) : (A /\ B) /\ C := ⟨⟨a, b⟩, c⟩
theorem VQ {P : Program} {fn : Func} {F : Value -> World -> Prop} {N : Nat} {k k' : List It} {e : Env} {w : World} (ks : List Nat) {c : Code} {id : Nat} {ops : List Oper} {Y : (Env -> World -> Prop) -> Prop}
  (h : ∀ K : Env -> World -> Prop, (∀ e w, VC ⟨P, fn, F, N⟩ k' e w -> K e w) -> Y K)
  (hp : peel c k = .code (.region id ops.toArray false) :: k' := by rfl) (hN : ops.all (Qdn N) = true := by rfl)
  (hY : ∀ K, Qa0 P N ops ops e w (selC ks K) = Y K := by intro K;simp only [go_sem,↓reduceIte,reduceEqDiff];exact rfl) : VC ⟨P, fn, F, N⟩ (.code c :: k) e w :=
 VR ks hp hN fun K hK => (hY K).mpr (h K hK)
theorem VB {C : Ctx} {k k' : List It} {e : Env} {w : World} {c d : Code} {id : Nat} (h : VC C (.code d :: .blk id :: k') e w) (hp : peel c k = .code (.block id d) :: k' := by rfl) : VC C (.code c :: k) e w :=
 Qjp c k (hp ▸ Qag h)
theorem Vi {C : Ctx} {k : List It} {e : Env} {w : World} {t : Tmp} {b : Bool} {x y : Code} (ht : b = true -> VC C (.code x :: k) e w) (hf : b = false -> VC C (.code y :: k) e w) (hv : e.find? t = some (.bool b) := by rfl) : VC C (.code (.cond (.tmp t) x y) :: k) e w :=
 Qai rfl hv ht hf
theorem Gc {w0 w : World} {B : List Nat} {G : List Res} (hH : Heap w0 B w G) {ad : Addr} {v : Value} {Q : Value -> Prop} (q : Q v)
  (h : Heap w0 B w G -> w.cell? ad = some v := by intro hH;first | exact Qaf (hH.at 0 rfl) rfl | exact Qba (hH.at 0 rfl) (bytesV_get (by omega)) | exact Qba (hH.at 0 rfl) (Qdi (by omega)) | exact Qaf (hH.at 1 rfl) rfl | exact Qba (hH.at 1 rfl) (bytesV_get (by omega)) | exact Qba (hH.at 1 rfl) (Qdi (by omega)) | exact Qaf (hH.at 2 rfl) rfl | exact Qba (hH.at 2 rfl) (bytesV_get (by omega)) | exact Qba (hH.at 2 rfl) (Qdi (by omega)) | exact Qaf (hH.at 3 rfl) rfl | exact Qba (hH.at 3 rfl) (bytesV_get (by omega)) | exact Qba (hH.at 3 rfl) (Qdi (by omega))) :
  ∃ v, w.cell? ad = some v /\ Q v := ⟨v, h hH, q⟩
theorem Qi {P Q : Prop} (q : Q) (h : P = Q := by simp -implicitDefEqProofs only [go_sem,↓reduceIte,reduceEqDiff];exact rfl) : P := h.mpr q
theorem VQi {P : Program} {fn : Func} {F : Value -> World -> Prop} {N : Nat} {k k' : List It} {e : Env} {w : World} (ks : List Nat) {c : Code} {id : Nat} {ops : List Oper} {Y : (Env -> World -> Prop) -> Prop}
  (h : ∀ K : Env -> World -> Prop, (∀ e w, VC ⟨P, fn, F, N⟩ k' e w -> K e w) -> Y K) (hp : peel c k = .code (.region id ops.toArray false) :: k' := by rfl) (hN : ops.all (Qdn N) = true := by rfl)
  (hY : ∀ K, Qa0 P N ops ops e w (selC ks K) = Y K := by intro K;simp -implicitDefEqProofs only [go_sem,↓reduceIte,reduceEqDiff];exact rfl) : VC ⟨P, fn, F, N⟩ (.code c :: k) e w := VR ks hp hN fun K hK => (hY K).mpr (h K hK)
theorem VL {P : Program} {fn : Func} {F : Value -> World -> Prop} {N : Nat} {k k' : List It} {e : Env} {w : World} (ks : List Nat) (m : Nat) {c : Code} {id : Nat} {ops : List Oper} {Y : (Env -> World -> Prop) -> Prop}
  (h : ∀ K : Env -> World -> Prop, (∀ e w, VC ⟨P, fn, F, N⟩ k' e w -> K e w) -> Y K) (hp : peel c k = .code (.region id ops.toArray true) :: k' := by rfl) (hm : P.follows .mixedOrders = true := by kernel_rfl)
  (hB : Region.lexTailB .any ops.toArray m = true := by kernel_rfl) (hq : (ops.take m).all (fun o => Qfj P o.op) = true := by kernel_rfl) (hN : ops.all (Qdn N) = true := by rfl)
  (hY : ∀ K, Qa0 P N ops ops e w (selC ks K) = Y K := by intro K;simp only [go_sem,↓reduceIte,reduceEqDiff];exact rfl) : VC ⟨P, fn, F, N⟩ (.code c :: k) e w := Qjp c k (hp ▸ Qi8 ks m hm hB hq hN fun K hK => (hY K).mpr (h K hK))
theorem Vq {P : Program} {fn : Func} {F : Value -> World -> Prop} {N : Nat} {k k' : List It} {e : Env} {w : World} (ks : List Nat) {c : Code} {id : Nat} {ops : List Oper} {Y : (Env -> Prop) -> Prop}
  (h : ∀ K : Env -> Prop, (∀ e, VC ⟨P, fn, F, N⟩ k' e w -> K e) -> Y K) (hp : peel c k = .code (.region id ops.toArray true) :: k' := by rfl) (hm : P.follows .mixedOrders = true := by kernel_rfl)
  (hB : Region.lexB .any ops.toArray = true := by kernel_rfl) (hN : ops.all (Qdn N) = true := by rfl)
  (hY : ∀ K, vcQ P N ops ops e w (selQ ks K) = Y K := by intro K;simp only [go_sem,↓reduceIte,reduceEqDiff];exact rfl) : VC ⟨P, fn, F, N⟩ (.code c :: k) e w := Qjp c k (hp ▸ Qzv ks hm hB hN fun K hK => (hY K).mpr (h K hK))
theorem VH {P : Program} {fn : Func} {F : Value -> World -> Prop} {N : Nat} {k k' : List It} {e : Env} {w : World} (w0 : World) (hx : Ext w0 w) (ks : List Nat) (plan : List (Nat × Bool)) {c : Code} {id : Nat} {ops : List Oper} {l : List (Bool × Oper)} {Y : (Env -> World -> Prop) -> Prop}
  (h : ∀ K : Env -> World -> Prop, (∀ e w, VC ⟨P, fn, F, N⟩ k' e w -> K e w) -> Y K) (hp : peel c k = .code (.region id ops.toArray true) :: k' := by rfl) (hm : P.follows .mixedOrders = true := by kernel_rfl)
  (hB : (Qnt ops.toArray plan (Array.replicate ops.toArray.size false) && Region.noSelect ops.toArray && decide (plan.length <= ops.length)) = true := by kernel_rfl) (hN : ops.all (Qdn N) = true := by rfl) (hl : Qa9 ops plan = l := by simp only [Qa9, List.filterMap_cons, List.filterMap_nil, List.getElem?_cons_succ, List.getElem?_cons_zero, Option.map_some];rfl)
  (hY : ∀ K, vcH P N ops w0 l e w (selC ks K) = Y K := by intro K;simp only [go_sem,↓reduceIte,reduceEqDiff];exact rfl) : VC ⟨P, fn, F, N⟩ (.code c :: k) e w := Qjp c k (hp ▸ Qz6 w0 hx ks plan hm hB hN hl fun K hK => (hY K).mpr (h K hK))
theorem Vb {P : Program} {fn : Func} {F : Value -> World -> Prop} {N : Nat} {k k' : List It} {e : Env} {w : World} (ks : List Nat) (plan : List (Nat × Nat)) {c : Code} {id : Nat} {ops : List Oper} {l : List (Bool × Oper)} {Y : (Env -> World -> Prop) -> Prop}
  (h : ∀ K : Env -> World -> Prop, (∀ e w, VC ⟨P, fn, F, N⟩ k' e w -> K e w) -> Y K) (hp : peel c k = .code (.region id ops.toArray true) :: k' := by rfl) (hm : P.follows .mixedOrders = true := by kernel_rfl)
  (hB : (QAe ops.toArray plan (Array.replicate ops.toArray.size false) && Region.noSelect ops.toArray && decide (plan.length <= ops.length)) = true := by kernel_rfl) (hN : ops.all (Qdn N) = true := by kernel_rfl) (hl : Qa9 ops (plan.map fun p => (p.1, p.2 == 0)) = l := by simp only [Qa9, List.map_cons, List.map_nil, beq_self_eq_true, Nat.reduceBEq, List.filterMap_cons, List.filterMap_nil, List.getElem?_cons_succ, List.getElem?_cons_zero, Option.map_some];rfl)
  (hY : ∀ K, vcH P N ops (bare w) l e w (selC ks K) = Y K := by intro K;simp only [go_sem,↓reduceIte,reduceEqDiff];exact rfl) : VC ⟨P, fn, F, N⟩ (.code c :: k) e w := Qjp c k (hp ▸ Qlg ks plan hm hB hN hl fun K hK => (hY K).mpr (h K hK))
theorem V3 {P : Program} {fn : Func} {F : Value -> World -> Prop} {N : Nat} {k k' : List It} {e : Env} {w : World} (w0 : World) (hx : Ext w0 w) (ks : List Nat) (t : Qph) {c : Code} {id : Nat} {ops : List Oper}
  (h : ∀ K : Env -> World -> Prop, (∀ e w, VC ⟨P, fn, F, N⟩ k' e w -> K e w) -> vcT3 P N ops w0 t e w (selC ks K)) (hp : peel c k = .code (.region id ops.toArray true) :: k' := by rfl) (hm : P.follows .mixedOrders = true := by kernel_rfl)
  (hB : (Qgg ops.toArray t ops.toArray.size (Array.replicate ops.toArray.size false) && Region.noSelect ops.toArray) = true := by kernel_rfl) (hN : ops.all (Qdn N) = true := by rfl) : VC ⟨P, fn, F, N⟩ (.code c :: k) e w := Qjp c k (hp ▸ Qwm w0 hx ks t hm hB hN h)
theorem QC5 {C : CtxG} {e : Env} {w : World} : ∀ (c : Code) (k : List It), VG C (peel c k) e w -> VG C (.code c :: k) e w := by
 intro c
 induction c with
 | seq a b iha ihb => intro k h;exact Qcz (iha _ h)
 | _ => intro k h;exact h
theorem GQ {C : CtxG} {k k' : List It} {e : Env} {w : World} (ks : List Nat) {c : Code} {id : Nat} {ops : List Oper} {Y : (Env -> World -> Prop) -> Prop}
  (h : ∀ K : Env -> World -> Prop, (∀ e w, VG C k' e w -> K e w) -> Y K) (hp : peel c k = .code (.region id ops.toArray false) :: k' := by rfl) (hN : (ops.all (Qdn C.N) && ops.all Qek) = true := by kernel_rfl)
  (hY : ∀ K, Qa0 C.P C.N ops ops e w (selC ks K) = Y K := by intro K;simp only [go_sem,↓reduceIte,reduceEqDiff];exact rfl) : VG C (.code c :: k) e w := QC5 c k (hp ▸ Qtt ks hN fun K hK => (hY K).mpr (h K hK))
theorem En {P : Program} {f : FuncId} {fn : Func} {c : Code} {w : World} {F : Value -> World -> Prop} {E : Env} (args : List Value) (N : Nat) (hf : P.funcs[f]? = some fn) (h : VC ⟨P, fn, F, N⟩ [.code c] E w)
  (hb : fn.body = some c := by rfl) (hN : fn.ntmps = N := by rfl) (hle : args.length <= N := by exact of_decide_eq_true rfl) (hE : Env.ofArgs 0 args = E := by simp only [Env.ofArgs];exact rfl) : Does P f args.toArray w F :=
 Qfl N hf hb hN hle (hE ▸ h)
theorem VD {C : Ctx} {k : List It} {e : Env} {w : World} {t : Tmp} {p : Prop} {d : Decidable p} {x y : Code} (ht : p -> VC C (.code x :: k) e w) (hf : ¬p -> VC C (.code y :: k) e w) (hv : e.find? t = some (.bool (decide p)) := by rfl) : VC C (.code (.cond (.tmp t) x y) :: k) e w :=
 Qai rfl hv (fun h => ht (of_decide_eq_true h)) fun h => hf (of_decide_eq_false h)
theorem VS {P : Program} {fn : Func} {F : Value -> World -> Prop} {N : Nat} {k k' : List It} {e e' : Env} {w w' : World} (ks : List Nat) {c : Code} {id : Nat} {ops : List Oper} (h : VC ⟨P, fn, F, N⟩ k' e' w')
  (hp : peel c k = .code (.region id ops.toArray false) :: k' := by rfl) (hN : ops.all (Qdn N) = true := by rfl)
  (hY : ∀ K : Env -> World -> Prop, K e' w' -> Qa0 P N ops ops e w (selC ks K) := by intro K h;simp only [go_sem,↓reduceIte,reduceEqDiff];(repeat refine Qo ?_);exact h) : VC ⟨P, fn, F, N⟩ (.code c :: k) e w :=
 VR ks hp hN fun K hK => hY K (hK _ _ h)
theorem GS {C : CtxG} {k k' : List It} {e e' : Env} {w w' : World} (ks : List Nat) {c : Code} {id : Nat} {ops : List Oper} (h : VG C k' e' w')
  (hp : peel c k = .code (.region id ops.toArray false) :: k' := by rfl) (hN : (ops.all (Qdn C.N) && ops.all Qek) = true := by kernel_rfl)
  (hY : ∀ K : Env -> World -> Prop, K e' w' -> Qa0 C.P C.N ops ops e w (selC ks K) := by intro K h;simp only [go_sem,↓reduceIte,reduceEqDiff];(repeat refine Qo ?_);exact h) : VG C (.code c :: k) e w :=
 QC5 c k (hp ▸ Qtt ks hN fun K hK => hY K (hK _ _ h))
end Go.Eng
namespace Go.Proofs.YtfphmlhgebpojaaGreat
def Qbc : Nat -> Nat -> List Bool
 | 0, _ => []
 | n + 1, v => v.testBit n :: Qbc n v
def Qwu : List Bool -> Nat -> Nat
 | [], a => a
 | b :: l, a => Qwu l (2 * a + b.toNat)
def numB (l : List Bool) : Nat := Qwu l 0
theorem Qas (n v : Nat) : (Qbc n v).length = n := by
 induction n with
 | zero => rfl
 | succ n ih => simp [Qbc, ih]
theorem QGs (l : List Bool) : ∀ a, Qwu l a = a * 2 ^ l.length + Qwu l 0 := by
 induction l with
 | nil => intro a;simp [Qwu]
 | cons b l ih =>
  intro a
  simp only [Qwu]
  rw [ih (2 * a + b.toNat), ih (2 * 0 + b.toNat), List.length_cons, Nat.pow_succ, Nat.add_mul, Nat.mul_zero, Nat.zero_add]
  rw [show 2 * a * 2 ^ l.length = a * (2 ^ l.length * 2) by rw [Nat.mul_comm 2 a, Nat.mul_assoc, Nat.mul_comm 2]]
  omega
theorem Qm5 : numB [] = 0 := rfl
theorem Qhd (b : Bool) (l : List Bool) : numB (b :: l) = b.toNat * 2 ^ l.length + numB l := by
 unfold numB;simp only [Qwu];rw [QGs l];simp
theorem Qn1 (l m : List Bool) : numB (l ++ m) = numB l * 2 ^ m.length + numB m := by
 induction l with
 | nil => simp [Qm5]
 | cons b l ih =>
  rw [List.cons_append, Qhd, ih, Qhd, List.length_append, Nat.pow_add, Nat.add_mul, Nat.mul_assoc]
  omega
theorem QC6 (l : List Bool) (b : Bool) : numB (l ++ [b]) = 2 * numB l + b.toNat := by
 rw [Qn1, Qhd];simp [Qm5, Nat.mul_comm]
theorem Qev (l : List Bool) : numB l < 2 ^ l.length := by
 induction l with
 | nil => simp [Qm5]
 | cons b l ih =>
  rw [Qhd, List.length_cons, Nat.pow_succ]
  cases b <;> simp <;> omega
theorem Qef (n v : Nat) : numB (Qbc n v) = v % 2 ^ n := by
 induction n with
 | zero => simp [Qbc, Qm5, Nat.mod_one]
 | succ n ih =>
  rw [Qbc, Qhd, ih, Qas, Nat.pow_succ, Nat.mod_mul, Nat.testBit_eq_decide_div_mod_eq]
  rcases Nat.mod_two_eq_zero_or_one (v / 2 ^ n) with h | h <;> rw [h] <;> simp
  omega
theorem Ql9 (m n v : Nat) : Qbc (m + n) v = Qbc m (v / 2 ^ n) ++ Qbc n v := by
 induction m with
 | zero => simp [Qbc]
 | succ m ih =>
  rw [show m + 1 + n = (m + n) + 1 by omega, Qbc, ih, Qbc, List.cons_append, Nat.testBit_div_two_pow, Nat.add_comm m n]
theorem Qt3 (n v : Nat) : ∀ k, n <= k -> Qbc n (v % 2 ^ k) = Qbc n v := by
 intro k
 induction n with
 | zero => intro _;rfl
 | succ n ih =>
  intro h
  rw [Qbc, Qbc, ih (by omega), Nat.testBit_mod_two_pow]
  simp [show n < k by omega]
theorem Qli (l : List Bool) : Qbc l.length (numB l) = l := by
 induction l with
 | nil => rfl
 | cons b l ih =>
  rw [List.length_cons, Qbc, Qhd]
  have h := Qev l
  have e1 : (b.toNat * 2 ^ l.length + numB l).testBit l.length = b := by
   rw [Nat.testBit_eq_decide_div_mod_eq, Nat.mul_comm, Nat.mul_add_div (Nat.two_pow_pos _), Nat.div_eq_of_lt h]
   cases b <;> simp
  have e2 : Qbc l.length (b.toNat * 2 ^ l.length + numB l) = l := by
   have := Qt3 l.length (b.toNat * 2 ^ l.length + numB l) l.length (Nat.le_refl _)
   rw [Nat.mul_comm, Nat.mul_add_mod, Nat.mod_eq_of_lt h, ih] at this
   rw [Nat.mul_comm];exact this.symm
  rw [e1, e2]
theorem Qir (n v : Nat) : ∀ i, i < n -> (Qbc n v)[i]? = some (v.testBit (n - 1 - i)) := by
 induction n with
 | zero => intro i h;omega
 | succ n ih =>
  intro i h
  rw [Qbc]
  cases i with
  | zero => simp
  | succ i =>
   rw [List.getElem?_cons_succ, ih i (by omega)]
   congr 2;omega
def Qap (l : List UInt8) : List Bool := l.flatMap fun b => Qbc 8 b.toNat
theorem Qlj : Qap [] = [] := rfl
theorem Qew (b : UInt8) (l : List UInt8) : Qap (b :: l) = Qbc 8 b.toNat ++ Qap l := rfl
theorem Qeg (l m : List UInt8) : Qap (l ++ m) = Qap l ++ Qap m := by simp [Qap]
theorem Qax (l : List UInt8) : (Qap l).length = 8 * l.length := by
 induction l with
 | nil => rfl
 | cons b l ih => rw [Qew, List.length_append, Qas, ih, List.length_cons];omega
theorem Qlk (l : List UInt8) : ∀ i, i < 8 * l.length -> (Qap l)[i]? = some ((l.getD (i / 8) 0).toNat.testBit (7 - i % 8)) := by
 induction l with
 | nil => intro i h;simp at h
 | cons b l ih =>
  intro i h
  rw [Qew]
  by_cases h8 : i < 8
  ·
   rw [List.getElem?_append_left (by rw [Qas];exact h8), Qir 8 _ i h8]
   simp [show i / 8 = 0 by omega, show i % 8 = i by omega]
  ·
   rw [List.getElem?_append_right (by rw [Qas];omega), Qas, ih (i - 8) (by simp at h;omega)]
   rw [show i / 8 = (i - 8) / 8 + 1 by omega, show (i - 8) % 8 = i % 8 by omega]
   rfl
theorem QAn {a b : UInt8} (h : Qbc 8 a.toNat = Qbc 8 b.toNat) : a = b := by
 have := congrArg numB h
 rw [Qef, Qef, Nat.mod_eq_of_lt a.toNat_lt, Nat.mod_eq_of_lt b.toNat_lt] at this
 exact UInt8.toNat_inj.1 this
theorem Qqg : ∀ (l m : List UInt8), Qap l = Qap m -> l = m
 | [], [], _ => rfl
 | [], b :: m, h => by have := congrArg List.length h;simp [Qax] at this
 | a :: l, [], h => by have := congrArg List.length h;simp [Qax] at this
 | a :: l, b :: m, h => by
  rw [Qew, Qew] at h
  obtain ⟨h1, h2⟩ := List.append_inj h (by simp [Qas])
  rw [QAn h1, Qqg l m h2]
def Qqh : List Bool -> Nat -> Nat -> List UInt8
 | [], acc, k => if k = 0 then [] else [UInt8.ofNat (acc * 2 ^ (8 - k))]
 | b :: l, acc, k => if k = 7 then UInt8.ofNat (2 * acc + b.toNat) :: Qqh l 0 0 else Qqh l (2 * acc + b.toNat) (k + 1)
def Qbv (l : List Bool) : List UInt8 := Qqh l 0 0
theorem Qll (n : Nat) : Qbc n 0 = List.replicate n false := by
 induction n with
 | zero => rfl
 | succ n ih => rw [Qbc, ih, Nat.zero_testBit];rfl
theorem Qgj {n : Nat} (h : n < 256) : (UInt8.ofNat n).toNat = n := by
 rw [UInt8.toNat_ofNat'];exact Nat.mod_eq_of_lt h
theorem Qwv (l : List Bool) : ∀ (acc k : Nat), k <= 7 -> acc < 2 ^ k ->
  Qap (Qqh l acc k) = Qbc k acc ++ l ++ List.replicate (8 * ((k + l.length + 7) / 8) - (k + l.length)) false := by
 induction l with
 | nil =>
  intro acc k hk ha
  rw [Qqh]
  by_cases h0 : k = 0
  ·
   subst h0;simp [Qlj, Qbc]
  ·
   rw [if_neg h0, Qew, Qlj, List.append_nil, List.append_nil]
   have hlt : acc * 2 ^ (8 - k) < 256 := by
    have e : 2 ^ k * 2 ^ (8 - k) = 256 := by rw [<- Nat.pow_add, show k + (8 - k) = 8 by omega]
    rw [<- e]
    exact Nat.mul_lt_mul_of_pos_right ha (Nat.two_pow_pos _)
   rw [Qgj hlt]
   have := Ql9 k (8 - k) (acc * 2 ^ (8 - k))
   rw [show k + (8 - k) = 8 by omega, Nat.mul_div_cancel _ (Nat.two_pow_pos _)] at this
   rw [this]
   congr 1
   have h2 := Qt3 (8 - k) (acc * 2 ^ (8 - k)) (8 - k) (Nat.le_refl _)
   rw [Nat.mul_mod_left, Qll] at h2
   rw [<- h2]
   congr 1
   simp only [List.length_nil];omega
 | cons b l ih =>
  intro acc k hk ha
  rw [Qqh]
  have hb : b.toNat <= 1 := by cases b <;> simp
  have hbits : Qbc (k + 1) (2 * acc + b.toNat) = Qbc k acc ++ [b] := by
   have := Ql9 k 1 (2 * acc + b.toNat)
   rw [this]
   congr 1
   ·
    congr 1;simp;omega
   ·
    simp only [Qbc];cases b <;> simp [Nat.testBit_zero]
  have hlt : 2 * acc + b.toNat < 2 ^ (k + 1) := by rw [Nat.pow_succ];omega
  by_cases h7 : k = 7
  ·
   subst h7
   rw [if_pos rfl, Qew, Qgj (by simpa using hlt), hbits, ih 0 0 (by omega) (by simp)]
   simp only [Qbc, List.nil_append, List.append_assoc, List.length_cons, List.singleton_append]
   congr 4
   omega
  ·
   rw [if_neg h7, ih _ (k + 1) (by omega) hlt, hbits]
   simp only [List.append_assoc, List.length_cons, List.singleton_append]
   rw [show k + 1 + l.length = k + (l.length + 1) by omega]
theorem Qdy (l : List Bool) : Qap (Qbv l) = l ++ List.replicate (8 * ((l.length + 7) / 8) - l.length) false := by
 have := Qwv l 0 0 (by omega) (by simp)
 simpa [Qbc, Qbv] using this
theorem Qce (l : List Bool) : (Qbv l).length = (l.length + 7) / 8 := by
 have := congrArg List.length (Qdy l)
 rw [Qax, List.length_append, List.length_replicate] at this
 omega
theorem Qm6 {o : List UInt8} {l : List Bool} (h : Qap o = l ++ List.replicate (8 * ((l.length + 7) / 8) - l.length) false) : o = Qbv l :=
 Qqg _ _ (by rw [h, Qdy])
theorem Qma (o : List UInt8) : Qbv (Qap o) = o := by
 refine (Qm6 ?_).symm
 rw [Qax, show 8 * ((8 * o.length + 7) / 8) - 8 * o.length = 0 by omega];simp
theorem Qkk (l m : List Bool) (h : l.length % 8 = 0) : Qbv (l ++ m) = Qbv l ++ Qbv m := by
 refine (Qm6 ?_).symm
 rw [Qeg, Qdy, Qdy, show 8 * ((l.length + 7) / 8) - l.length = 0 by omega, List.replicate_zero, List.append_nil, List.append_assoc, List.length_append]
 congr 3;omega
theorem Qn2 (l : List Bool) : Qbv (l ++ [false]) = if l.length % 8 = 0 then Qbv l ++ [0] else Qbv l := by
 symm
 refine Qm6 ?_
 have e : (l ++ [false]).length = l.length + 1 := by simp
 rw [e]
 split
 ·
  rename_i h
  rw [Qeg, Qdy, show 8 * ((l.length + 7) / 8) - l.length = 0 by omega, List.replicate_zero, List.append_nil, List.append_assoc]
  congr 1
  rw [show 8 * ((l.length + 1 + 7) / 8) - (l.length + 1) = 7 by omega]
  rfl
 ·
  rename_i h
  rw [Qdy, List.append_assoc]
  congr 1
  rw [show 8 * ((l.length + 7) / 8) - l.length = (8 * ((l.length + 1 + 7) / 8) - (l.length + 1)) + 1 by omega, List.replicate_succ]
  rfl
theorem Qww (k j : Nat) (hk : k <= 7) (hj : j <= 7) : (128 / 2 ^ k).testBit (7 - j) = decide (j = k) := by
 have : 128 / 2 ^ k = 2 ^ (7 - k) := by
  rw [show (128 : Nat) = 2 ^ 7 from rfl, Nat.pow_div hk (by omega)]
 rw [this, Nat.testBit_two_pow]
 by_cases h : j = k
 ·
  subst h;simp
 ·
  simp [h];omega
theorem QAo (l : List Bool) (y : UInt8) (hy : y.toNat = ((Qbv (l ++ [false])).getD (l.length / 8) 0).toNat ||| 128 / 2 ^ (l.length % 8)) :
  Qbv (l ++ [true]) = (Qbv (l ++ [false])).set (l.length / 8) y := by
 symm
 refine Qm6 ?_
 have hol : (Qbv (l ++ [false])).length = (l.length + 8) / 8 := by rw [Qce, List.length_append];rfl
 have hob := Qdy (l ++ [false])
 generalize Qbv (l ++ [false]) = o at *
 have e : (l ++ [true]).length = l.length + 1 := by simp
 have e2 : (l ++ [false]).length = l.length + 1 := by simp
 rw [e]
 rw [e2] at hob
 generalize hr : 8 * ((l.length + 1 + 7) / 8) - (l.length + 1) = r at *
 apply List.ext_getElem?
 intro j
 by_cases hj : j < 8 * o.length
 ·
  rw [Qlk _ j (by simpa using hj)]
  have h1 := Qlk o j hj
  rw [hob] at h1
  by_cases hji : j / 8 = l.length / 8
  ·
   have h2 : (o.set (l.length / 8) y).getD (j / 8) 0 = y := by
    rw [List.getD_eq_getElem?_getD, hji, List.getElem?_set_self (by omega)];rfl
   rw [h2, hy, Nat.testBit_or, Qww _ _ (by omega) (by omega), <- hji]
   by_cases hjl : j = l.length
   ·
    subst hjl
    simp
   ·
    have hm : ¬ j % 8 = l.length % 8 := by omega
    rw [decide_eq_false hm, Bool.or_false, <- h1]
    by_cases hlt : j < l.length
    ·
     rw [List.append_assoc, List.append_assoc, List.getElem?_append_left hlt, List.getElem?_append_left hlt]
    ·
     rw [List.getElem?_append_right (by simp;omega), List.getElem?_append_right (by simp;omega)];simp
  ·
   have h2 : (o.set (l.length / 8) y).getD (j / 8) 0 = o.getD (j / 8) 0 := by
    rw [List.getD_eq_getElem?_getD, List.getElem?_set_ne (fun h => hji h.symm), List.getD_eq_getElem?_getD]
   rw [h2, <- h1]
   have hjl : ¬ j = l.length := by omega
   by_cases hlt : j < l.length
   ·
    rw [List.append_assoc, List.append_assoc, List.getElem?_append_left hlt, List.getElem?_append_left hlt]
   ·
    rw [List.getElem?_append_right (by simp;omega), List.getElem?_append_right (by simp;omega)];simp
 ·
  rw [List.getElem?_eq_none (by rw [Qax];simp;omega), List.getElem?_eq_none]
  simp
  omega
theorem Qn3 (n v k : Nat) (h : k < n) : (Qbc n v).take (k + 1) = (Qbc n v).take k ++ [v.testBit (n - 1 - k)] := by
 rw [List.take_add_one, Qir n v k h];rfl
theorem Qjt (v i : Nat) : (v / 2 ^ i) % 2 = (v.testBit i).toNat := by
 rw [Nat.testBit_eq_decide_div_mod_eq]
 rcases Nat.mod_two_eq_zero_or_one (v / 2 ^ i) with h | h <;> rw [h] <;> rfl
def Qex (l : List Bool) (at_ n : Nat) : Nat × Int := if l.length < at_ + n then (0, 10) else (numB ((l.drop at_).take n), 0)
def unS : List Bool -> Nat -> Nat -> Nat × Int
 | [], _, _ => (0, 10)
 | false :: _, _, n => (n, 0)
 | true :: r, most, n => if n = most then (0, 3) else unS r most (n + 1)
open Go Go.Eng
section
variable {w : World} {KV : Value -> Prop}
theorem sz3 : Tryz.prog.szo 3 = some 1 := by kernel_rfl
theorem ld3 (a : Addr) : Qby Tryz.prog 3 (.pointer (some a)) w KV = ∃ v, w.cell? a = some v /\ KV v := Qp3 3 a .i64 Tryz.underlying3
theorem QQj (k : IntKind) (n : Int) : Qe9 Tryz.prog 3 5 (.int k n) w KV = Qd5 .u8 n KV := Qgs 3 5 _ .u8 k n Tryz.underlying3 Tryz.underlying5
theorem QQk : Qbm Tryz.prog 3 5 = true := by kernel_rfl
theorem QNr (k : IntKind) (n : Int) : Qe9 Tryz.prog 3 31 (.int k n) w KV = Qd5 .u32 n KV := Qgs 3 31 _ .u32 k n Tryz.underlying3 Tryz.underlying31
theorem QNs : Qbm Tryz.prog 3 31 = true := by kernel_rfl
theorem QNt (k : IntKind) (n : Int) : Qe9 Tryz.prog 3 71 (.int k n) w KV = Qd5 .u64 n KV := Qgs 3 71 _ .u64 k n Tryz.underlying3 Tryz.underlying71
theorem QNu : Qbm Tryz.prog 3 71 = true := by kernel_rfl
theorem QNv (k : IntKind) (n : Int) : Qe9 Tryz.prog 3 97 (.int k n) w KV = Qd5 .u64 n KV := Qgs 3 97 _ .u64 k n Tryz.underlying3 Tryz.underlying97
theorem QNw : Qbm Tryz.prog 3 97 = true := by kernel_rfl
theorem QJ2 (k : IntKind) (n : Int) : Qe9 Tryz.prog 3 228 (.int k n) w KV = Qd5 .u64 n KV := Qgs 3 228 _ .u64 k n Tryz.underlying3 Tryz.underlying228
theorem QJ3 : Qbm Tryz.prog 3 228 = true := by kernel_rfl
theorem sz4 : Tryz.prog.szo 4 = some 1 := by kernel_rfl
theorem ld4 (a : Addr) : Qby Tryz.prog 4 (.pointer (some a)) w KV = ∃ v, w.cell? a = some v /\ KV v := QJk 4 a Tryz.underlying4
theorem QQl (x y : Operand) (a b : Bool) : Qbr Tryz.prog .eql 4 x y (.bool a) (.bool b) w KV = KV (.bool (decide (a = b))) := QM4 4 x y a b Tryz.underlying4
theorem QQm (x y : Operand) (a b : Bool) : Qbr Tryz.prog .neq 4 x y (.bool a) (.bool b) w KV = KV (.bool (decide (¬ a = b))) := QM5 4 x y a b Tryz.underlying4
theorem sz5 : Tryz.prog.szo 5 = some 1 := by kernel_rfl
theorem ld5 (a : Addr) : Qby Tryz.prog 5 (.pointer (some a)) w KV = ∃ v, w.cell? a = some v /\ KV v := Qp3 5 a .u8 Tryz.underlying5
theorem QQn (k : IntKind) (n : Int) : Qe9 Tryz.prog 5 3 (.int k n) w KV = Qd5 .i64 n KV := Qgs 5 3 _ .i64 k n Tryz.underlying5 Tryz.underlying3
theorem QQo : Qbm Tryz.prog 5 3 = true := by kernel_rfl
theorem QNx (k : IntKind) (n : Int) : Qe9 Tryz.prog 5 71 (.int k n) w KV = Qd5 .u64 n KV := Qgs 5 71 _ .u64 k n Tryz.underlying5 Tryz.underlying71
theorem QNy : Qbm Tryz.prog 5 71 = true := by kernel_rfl
theorem sz9 : Tryz.prog.szo 9 = some 1 := by kernel_rfl
theorem ln9 (s : ByteArray) : vLen Tryz.prog 9 (.string s) KV = KV (.int .i64 (toL s).length) := QM6 9 s Tryz.underlying9
theorem ix9 (s : ByteArray) (k : IntKind) (n : Int) : Qd6 Tryz.prog 9 (.string s) (.int k n) KV = ((0 <= n /\ n < (toL s).length) /\ KV (.int .u8 ((toL s).getD n.toNat 0).toNat)) := QM7 9 s k n Tryz.underlying9
theorem snn9 (s : ByteArray) : Qb1 Tryz.prog 9 (.string s) none none KV = KV (.string s) := QQc 9 s Tryz.underlying9
theorem sln9 (s : ByteArray) (k : IntKind) (l : Int) : Qb1 Tryz.prog 9 (.string s) (some (.int k l)) none KV = ((0 <= l /\ l <= (toL s).length) /\ KV (Str ((toL s).drop l.toNat))) := QQd 9 s k l Tryz.underlying9
theorem snh9 (s : ByteArray) (k : IntKind) (l : Int) : Qb1 Tryz.prog 9 (.string s) none (some (.int k l)) KV = ((0 <= l /\ l <= (toL s).length) /\ KV (Str ((toL s).take l.toNat))) := QQe 9 s k l Tryz.underlying9
theorem slh9 (s : ByteArray) (k k' : IntKind) (l m : Int) : Qb1 Tryz.prog 9 (.string s) (some (.int k l)) (some (.int k' m)) KV = ((0 <= l /\ l <= m /\ m <= (toL s).length) /\ KV (Str (((toL s).drop l.toNat).take (m.toNat - l.toNat)))) := QQf 9 s k k' l m Tryz.underlying9
theorem ld9 (a : Addr) : Qby Tryz.prog 9 (.pointer (some a)) w KV = ∃ v, w.cell? a = some v /\ KV v := QM9 9 a Tryz.underlying9
theorem sz20 : Tryz.prog.szo 20 = some 1 := by kernel_rfl
theorem sz24 : Tryz.prog.szo 24 = some 2 := by kernel_rfl
theorem ld24 (a : Addr) : Qby Tryz.prog 24 (.pointer (some a)) w KV = ∃ cs : List Value, (cs.length = 2 /\ Reads w a cs) /\ KV (.agg cs.toArray) := QCg 24 2 a _ Tryz.underlying24 (by kernel_rfl)
theorem bd24 (s0 : ByteArray) (n1 : Int) : Qdh Tryz.prog 24 [(0, .string s0), (1, .int .i64 n1)] KV = KV (.agg #[.string s0, .int .i64 n1]) := Qia (by kernel_rfl)
theorem bz24 : Qdh Tryz.prog 24 [] KV = KV (.agg #[.string ⟨#[]⟩, .int .i64 0]) := Qia (by kernel_rfl)
theorem QNz (l : List Value) : Qcx Tryz.prog 24 (.agg l.toArray) 0 KV = vNth l 0 KV := Qd0 24 0 l Tryz.underlying24 rfl (by kernel_rfl) (by kernel_rfl) (by kernel_rfl)
theorem QN0 (a : Addr) : Qa3 Tryz.prog 24 (.pointer (some a)) 0 KV = KV (.pointer (some (a.add 0))) := Qgr 24 0 a (m := 0) Tryz.underlying24 rfl (by kernel_rfl)
theorem QN1 (l : List Value) : Qcx Tryz.prog 24 (.agg l.toArray) 1 KV = vNth l 1 KV := Qd0 24 1 l Tryz.underlying24 rfl (by kernel_rfl) (by kernel_rfl) (by kernel_rfl)
theorem QN2 (a : Addr) : Qa3 Tryz.prog 24 (.pointer (some a)) 1 KV = KV (.pointer (some (a.add 1))) := Qgr 24 1 a (m := 0) Tryz.underlying24 rfl (by kernel_rfl)
theorem sz25 : Tryz.prog.szo 25 = some 1 := by kernel_rfl
theorem ld25 (a : Addr) : Qby Tryz.prog 25 (.pointer (some a)) w KV = ∃ v, w.cell? a = some v /\ KV v := Qp3 25 a .i64 Tryz.underlying25
theorem sz31 : Tryz.prog.szo 31 = some 1 := by kernel_rfl
theorem ld31 (a : Addr) : Qby Tryz.prog 31 (.pointer (some a)) w KV = ∃ v, w.cell? a = some v /\ KV v := Qp3 31 a .u32 Tryz.underlying31
theorem QN3 (k : IntKind) (n : Int) : Qe9 Tryz.prog 31 5 (.int k n) w KV = Qd5 .u8 n KV := Qgs 31 5 _ .u8 k n Tryz.underlying31 Tryz.underlying5
theorem QN4 : Qbm Tryz.prog 31 5 = true := by kernel_rfl
theorem QJ4 (k : IntKind) (n : Int) : Qe9 Tryz.prog 31 71 (.int k n) w KV = Qd5 .u64 n KV := Qgs 31 71 _ .u64 k n Tryz.underlying31 Tryz.underlying71
theorem QJ5 : Qbm Tryz.prog 31 71 = true := by kernel_rfl
theorem sz36 : Tryz.prog.szo 36 = some 1 := by kernel_rfl
theorem ln36 (a : Option Addr) (n c : Nat) : vLen Tryz.prog 36 (.slice a n c) KV = KV (.int .i64 n) := Qv8 36 3 a n c Tryz.underlying36
theorem QQp (a : Option Addr) (n c : Nat) : Qb1 Tryz.prog 36 (.slice a n c) none none KV = (n <= c /\ KV (.slice a n c)) := QJg 36 3 a n c 1 Tryz.underlying36 (by kernel_rfl)
theorem QQq (a : Option Addr) (n c : Nat) (k : IntKind) (l : Int) : Qb1 Tryz.prog 36 (.slice a n c) (some (.int k l)) none KV = ((0 <= l /\ l <= n /\ n <= c) /\ KV (.slice (if c = l.toNat then a else a.map (·.add (l.toNat * 1))) (n - l.toNat) (c - l.toNat))) := QJh 36 3 a n c 1 k l Tryz.underlying36 (by kernel_rfl)
theorem QQr (a : Option Addr) (n c : Nat) (k : IntKind) (l : Int) : Qb1 Tryz.prog 36 (.slice a n c) none (some (.int k l)) KV = ((0 <= l /\ l <= c) /\ KV (.slice a l.toNat c)) := QJi 36 3 a n c 1 k l Tryz.underlying36 (by kernel_rfl)
theorem QQs (a : Option Addr) (n c : Nat) (k k' : IntKind) (l m : Int) : Qb1 Tryz.prog 36 (.slice a n c) (some (.int k l)) (some (.int k' m)) KV = ((0 <= l /\ l <= m /\ m <= c) /\ KV (.slice (if c = l.toNat then a else a.map (·.add (l.toNat * 1))) (m.toNat - l.toNat) (c - l.toNat))) := QJj 36 3 a n c 1 k k' l m Tryz.underlying36 (by kernel_rfl)
theorem ia36 (a : Addr) (n c : Nat) (k : IntKind) (i : Int) : Qbb Tryz.prog 36 (.slice (some a) n c) (.int k i) KV = ((0 <= i /\ i < n) /\ KV (.pointer (some (a.add (i.toNat * 1))))) := Qv9 36 3 a n c 1 k i Tryz.underlying36 (by kernel_rfl)
theorem ld36 (a : Addr) : Qby Tryz.prog 36 (.pointer (some a)) w KV = ∃ v, w.cell? a = some v /\ KV v := Qz3 36 3 a Tryz.underlying36
theorem sz42 : Tryz.prog.szo 42 = some 4 := by kernel_rfl
theorem ld42 (a : Addr) : Qby Tryz.prog 42 (.pointer (some a)) w KV = ∃ cs : List Value, (cs.length = 4 /\ Reads w a cs) /\ KV (.agg cs.toArray) := QGa 42 4 4 5 a Tryz.underlying42 (by kernel_rfl)
theorem QQt (l : List Value) (k : IntKind) (i : Int) : Qd6 Tryz.prog 42 (.agg l.toArray) (.int k i) KV = ((0 <= i /\ i < ((4 : Nat) : Int)) /\ vNth l i.toNat KV) := Qnx 42 l k i Tryz.underlying42 (by kernel_rfl) (by kernel_rfl) (by kernel_rfl)
theorem ia42 (a : Addr) (k : IntKind) (i : Int) : Qbb Tryz.prog 42 (.pointer (some a)) (.int k i) KV = ((0 <= i /\ i < ((4 : Nat) : Int)) /\ KV (.pointer (some (a.add (i.toNat * 1))))) := Qwa 42 5 a 4 1 k i Tryz.underlying42 (by kernel_rfl)
theorem sz43 : Tryz.prog.szo 43 = some 1 := by kernel_rfl
theorem ln43 (a : Option Addr) (n c : Nat) : vLen Tryz.prog 43 (.slice a n c) KV = KV (.int .i64 n) := Qv8 43 5 a n c Tryz.underlying43
theorem QQu (a : Option Addr) (n c : Nat) : Qb1 Tryz.prog 43 (.slice a n c) none none KV = (n <= c /\ KV (.slice a n c)) := QJg 43 5 a n c 1 Tryz.underlying43 (by kernel_rfl)
theorem QQv (a : Option Addr) (n c : Nat) (k : IntKind) (l : Int) : Qb1 Tryz.prog 43 (.slice a n c) (some (.int k l)) none KV = ((0 <= l /\ l <= n /\ n <= c) /\ KV (.slice (if c = l.toNat then a else a.map (·.add (l.toNat * 1))) (n - l.toNat) (c - l.toNat))) := QJh 43 5 a n c 1 k l Tryz.underlying43 (by kernel_rfl)
theorem QQw (a : Option Addr) (n c : Nat) (k : IntKind) (l : Int) : Qb1 Tryz.prog 43 (.slice a n c) none (some (.int k l)) KV = ((0 <= l /\ l <= c) /\ KV (.slice a l.toNat c)) := QJi 43 5 a n c 1 k l Tryz.underlying43 (by kernel_rfl)
theorem QQx (a : Option Addr) (n c : Nat) (k k' : IntKind) (l m : Int) : Qb1 Tryz.prog 43 (.slice a n c) (some (.int k l)) (some (.int k' m)) KV = ((0 <= l /\ l <= m /\ m <= c) /\ KV (.slice (if c = l.toNat then a else a.map (·.add (l.toNat * 1))) (m.toNat - l.toNat) (c - l.toNat))) := QJj 43 5 a n c 1 k k' l m Tryz.underlying43 (by kernel_rfl)
theorem ia43 (a : Addr) (n c : Nat) (k : IntKind) (i : Int) : Qbb Tryz.prog 43 (.slice (some a) n c) (.int k i) KV = ((0 <= i /\ i < n) /\ KV (.pointer (some (a.add (i.toNat * 1))))) := Qv9 43 5 a n c 1 k i Tryz.underlying43 (by kernel_rfl)
theorem ld43 (a : Addr) : Qby Tryz.prog 43 (.pointer (some a)) w KV = ∃ v, w.cell? a = some v /\ KV v := Qz3 43 5 a Tryz.underlying43
theorem QN5 (a : Option Addr) (n c : Nat) : Qe9 Tryz.prog 43 9 (.slice a n c) w KV = ∃ l, Qg9 w a n l /\ KV (Str l) := QM8 43 9 5 a n c Tryz.underlying43 Tryz.underlying9 Tryz.underlying5
theorem QN6 : Qbm Tryz.prog 43 9 = true := by kernel_rfl
theorem QN7 : Qbm Tryz.prog 9 43 = false := by kernel_rfl
theorem sz56 : Tryz.prog.szo 56 = some 1 := by kernel_rfl
theorem ln56 (a : Option Addr) (n c : Nat) : vLen Tryz.prog 56 (.slice a n c) KV = KV (.int .i64 n) := Qv8 56 9 a n c Tryz.underlying56
theorem ia56 (a : Addr) (n c : Nat) (k : IntKind) (i : Int) : Qbb Tryz.prog 56 (.slice (some a) n c) (.int k i) KV = ((0 <= i /\ i < n) /\ KV (.pointer (some (a.add (i.toNat * 1))))) := Qv9 56 9 a n c 1 k i Tryz.underlying56 (by kernel_rfl)
theorem sz63 : Tryz.prog.szo 63 = some 1 := by kernel_rfl
theorem ln63 (a : Option Addr) (n c : Nat) : vLen Tryz.prog 63 (.slice a n c) KV = KV (.int .i64 n) := Qv8 63 36 a n c Tryz.underlying63
theorem ia63 (a : Addr) (n c : Nat) (k : IntKind) (i : Int) : Qbb Tryz.prog 63 (.slice (some a) n c) (.int k i) KV = ((0 <= i /\ i < n) /\ KV (.pointer (some (a.add (i.toNat * 1))))) := Qv9 63 36 a n c 1 k i Tryz.underlying63 (by kernel_rfl)
theorem ld63 (a : Addr) : Qby Tryz.prog 63 (.pointer (some a)) w KV = ∃ v, w.cell? a = some v /\ KV v := Qz3 63 36 a Tryz.underlying63
theorem sz65 : Tryz.prog.szo 65 = some 2 := by kernel_rfl
theorem ld65 (a : Addr) : Qby Tryz.prog 65 (.pointer (some a)) w KV = ∃ cs : List Value, (cs.length = 2 /\ Reads w a cs) /\ KV (.agg cs.toArray) := QCg 65 2 a _ Tryz.underlying65 (by kernel_rfl)
theorem bd65 (a0 : Option Addr) (n0 c0 : Nat) (a1 : Option Addr) (n1 c1 : Nat) : Qdh Tryz.prog 65 [(0, .slice a0 n0 c0), (1, .slice a1 n1 c1)] KV = KV (.agg #[.slice a0 n0 c0, .slice a1 n1 c1]) := Qia (by kernel_rfl)
theorem bz65 : Qdh Tryz.prog 65 [] KV = KV (.agg #[.slice none 0 0, .slice none 0 0]) := Qia (by kernel_rfl)
theorem QN8 (l : List Value) : Qcx Tryz.prog 65 (.agg l.toArray) 0 KV = vNth l 0 KV := Qd0 65 0 l Tryz.underlying65 rfl (by kernel_rfl) (by kernel_rfl) (by kernel_rfl)
theorem QN9 (a : Addr) : Qa3 Tryz.prog 65 (.pointer (some a)) 0 KV = KV (.pointer (some (a.add 0))) := Qgr 65 0 a (m := 0) Tryz.underlying65 rfl (by kernel_rfl)
theorem QOa (l : List Value) : Qcx Tryz.prog 65 (.agg l.toArray) 1 KV = vNth l 1 KV := Qd0 65 1 l Tryz.underlying65 rfl (by kernel_rfl) (by kernel_rfl) (by kernel_rfl)
theorem QOb (a : Addr) : Qa3 Tryz.prog 65 (.pointer (some a)) 1 KV = KV (.pointer (some (a.add 1))) := Qgr 65 1 a (m := 0) Tryz.underlying65 rfl (by kernel_rfl)
theorem sz68 : Tryz.prog.szo 68 = some 1 := by kernel_rfl
theorem pe68 (a : Option Addr) (xo yo : Operand) : Qbr Tryz.prog .eql 68 xo yo (.pointer a) (.pointer none) w KV = KV (.bool a.isNone) := Qyd Tryz.underlying68 a xo yo
theorem pn68 (a : Option Addr) (xo yo : Operand) : Qbr Tryz.prog .neq 68 xo yo (.pointer a) (.pointer none) w KV = KV (.bool !a.isNone) := QH6 Tryz.underlying68 a xo yo
theorem sz71 : Tryz.prog.szo 71 = some 1 := by kernel_rfl
theorem ld71 (a : Addr) : Qby Tryz.prog 71 (.pointer (some a)) w KV = ∃ v, w.cell? a = some v /\ KV v := Qp3 71 a .u64 Tryz.underlying71
theorem QOc (k : IntKind) (n : Int) : Qe9 Tryz.prog 71 3 (.int k n) w KV = Qd5 .i64 n KV := Qgs 71 3 _ .i64 k n Tryz.underlying71 Tryz.underlying3
theorem QOd : Qbm Tryz.prog 71 3 = true := by kernel_rfl
theorem QOe (k : IntKind) (n : Int) : Qe9 Tryz.prog 71 5 (.int k n) w KV = Qd5 .u8 n KV := Qgs 71 5 _ .u8 k n Tryz.underlying71 Tryz.underlying5
theorem QOf : Qbm Tryz.prog 71 5 = true := by kernel_rfl
theorem QJ6 (k : IntKind) (n : Int) : Qe9 Tryz.prog 71 31 (.int k n) w KV = Qd5 .u32 n KV := Qgs 71 31 _ .u32 k n Tryz.underlying71 Tryz.underlying31
theorem QJ7 : Qbm Tryz.prog 71 31 = true := by kernel_rfl
theorem sz97 : Tryz.prog.szo 97 = some 1 := by kernel_rfl
theorem QOg (k : IntKind) (n : Int) : Qe9 Tryz.prog 97 3 (.int k n) w KV = Qd5 .i64 n KV := Qgs 97 3 _ .i64 k n Tryz.underlying97 Tryz.underlying3
theorem QOh : Qbm Tryz.prog 97 3 = true := by kernel_rfl
theorem QJ8 (k : IntKind) (n : Int) : Qe9 Tryz.prog 97 31 (.int k n) w KV = Qd5 .u32 n KV := Qgs 97 31 _ .u32 k n Tryz.underlying97 Tryz.underlying31
theorem QJ9 : Qbm Tryz.prog 97 31 = true := by kernel_rfl
theorem QQy : Tryz.prog.szo 100 = some 1 := by kernel_rfl
theorem QOi (a : Addr) : Qby Tryz.prog 100 (.pointer (some a)) w KV = ∃ v, w.cell? a = some v /\ KV v := QNb 100 _ _ _ a Tryz.underlying100
theorem QQz : Tryz.prog.szo 101 = some 1 := by kernel_rfl
theorem QQ0 (a : Option Addr) (n c : Nat) : vLen Tryz.prog 101 (.slice a n c) KV = KV (.int .i64 n) := Qv8 101 24 a n c Tryz.underlying101
theorem QQ1 (a : Addr) (n c : Nat) (k : IntKind) (i : Int) : Qbb Tryz.prog 101 (.slice (some a) n c) (.int k i) KV = ((0 <= i /\ i < n) /\ KV (.pointer (some (a.add (i.toNat * 2))))) := Qv9 101 24 a n c 2 k i Tryz.underlying101 (by kernel_rfl)
theorem QQ2 (a : Addr) : Qby Tryz.prog 101 (.pointer (some a)) w KV = ∃ v, w.cell? a = some v /\ KV v := Qz3 101 24 a Tryz.underlying101
theorem QQ3 : Tryz.prog.szo 102 = some 1 := by kernel_rfl
theorem QQ4 (a : Option Addr) (n c : Nat) : vLen Tryz.prog 102 (.slice a n c) KV = KV (.int .i64 n) := Qv8 102 31 a n c Tryz.underlying102
theorem QQ5 (a : Addr) (n c : Nat) (k : IntKind) (i : Int) : Qbb Tryz.prog 102 (.slice (some a) n c) (.int k i) KV = ((0 <= i /\ i < n) /\ KV (.pointer (some (a.add (i.toNat * 1))))) := Qv9 102 31 a n c 1 k i Tryz.underlying102 (by kernel_rfl)
theorem QQ6 (a : Addr) : Qby Tryz.prog 102 (.pointer (some a)) w KV = ∃ v, w.cell? a = some v /\ KV v := Qz3 102 31 a Tryz.underlying102
theorem QQ7 : Tryz.prog.szo 118 = some 256 := by kernel_rfl
theorem QOj (l : List Value) (k : IntKind) (i : Int) : Qd6 Tryz.prog 118 (.agg l.toArray) (.int k i) KV = ((0 <= i /\ i < ((256 : Nat) : Int)) /\ vNth l i.toNat KV) := Qnx 118 l k i Tryz.underlying118 (by kernel_rfl) (by kernel_rfl) (by kernel_rfl)
theorem QQ8 (a : Addr) (k : IntKind) (i : Int) : Qbb Tryz.prog 118 (.pointer (some a)) (.int k i) KV = ((0 <= i /\ i < ((256 : Nat) : Int)) /\ KV (.pointer (some (a.add (i.toNat * 1))))) := Qwa 118 4 a 256 1 k i Tryz.underlying118 (by kernel_rfl)
theorem QQ9 : Tryz.prog.szo 123 = some 2 := by kernel_rfl
theorem QRa (a0 : Option Addr) (n0 c0 : Nat) (n1 : Int) : Qdh Tryz.prog 123 [(0, .slice a0 n0 c0), (1, .int .i64 n1)] KV = KV (.agg #[.slice a0 n0 c0, .int .i64 n1]) := Qia (by kernel_rfl)
theorem QRb : Qdh Tryz.prog 123 [] KV = KV (.agg #[.slice none 0 0, .int .i64 0]) := Qia (by kernel_rfl)
theorem QKa (l : List Value) : Qcx Tryz.prog 123 (.agg l.toArray) 0 KV = vNth l 0 KV := Qd0 123 0 l Tryz.underlying123 rfl (by kernel_rfl) (by kernel_rfl) (by kernel_rfl)
theorem QKb (a : Addr) : Qa3 Tryz.prog 123 (.pointer (some a)) 0 KV = KV (.pointer (some (a.add 0))) := Qgr 123 0 a (m := 0) Tryz.underlying123 rfl (by kernel_rfl)
theorem QKc (l : List Value) : Qcx Tryz.prog 123 (.agg l.toArray) 1 KV = vNth l 1 KV := Qd0 123 1 l Tryz.underlying123 rfl (by kernel_rfl) (by kernel_rfl) (by kernel_rfl)
theorem QKd (a : Addr) : Qa3 Tryz.prog 123 (.pointer (some a)) 1 KV = KV (.pointer (some (a.add 1))) := Qgr 123 1 a (m := 0) Tryz.underlying123 rfl (by kernel_rfl)
theorem QRc : Tryz.prog.szo 124 = some 16 := by kernel_rfl
theorem QRd (a : Addr) : Qby Tryz.prog 124 (.pointer (some a)) w KV = ∃ cs : List Value, (cs.length = 16 /\ Reads w a cs) /\ KV (.agg cs.toArray) := QGa 124 16 16 71 a Tryz.underlying124 (by kernel_rfl)
theorem QOk (l : List Value) (k : IntKind) (i : Int) : Qd6 Tryz.prog 124 (.agg l.toArray) (.int k i) KV = ((0 <= i /\ i < ((16 : Nat) : Int)) /\ vNth l i.toNat KV) := Qnx 124 l k i Tryz.underlying124 (by kernel_rfl) (by kernel_rfl) (by kernel_rfl)
theorem QRe (a : Addr) (k : IntKind) (i : Int) : Qbb Tryz.prog 124 (.pointer (some a)) (.int k i) KV = ((0 <= i /\ i < ((16 : Nat) : Int)) /\ KV (.pointer (some (a.add (i.toNat * 1))))) := Qwa 124 71 a 16 1 k i Tryz.underlying124 (by kernel_rfl)
theorem QRf : Tryz.prog.szo 130 = some 1 := by kernel_rfl
theorem QRg (a : Option Addr) (xo yo : Operand) : Qbr Tryz.prog .eql 130 xo yo (.pointer a) (.pointer none) w KV = KV (.bool a.isNone) := Qyd Tryz.underlying130 a xo yo
theorem QRh (a : Option Addr) (xo yo : Operand) : Qbr Tryz.prog .neq 130 xo yo (.pointer a) (.pointer none) w KV = KV (.bool !a.isNone) := QH6 Tryz.underlying130 a xo yo
theorem QRi (a : Addr) : Qby Tryz.prog 130 (.pointer (some a)) w KV = ∃ v, w.cell? a = some v /\ KV v := QNa 130 179 a Tryz.underlying130
theorem QRj : Tryz.prog.szo 141 = some 1 := by kernel_rfl
theorem QRk (n0 : Int) : Qdh Tryz.prog 141 [(0, .int .i64 n0)] KV = KV (.agg #[.int .i64 n0]) := Qia (by kernel_rfl)
theorem QRl : Qdh Tryz.prog 141 [] KV = KV (.agg #[.int .i64 0]) := Qia (by kernel_rfl)
theorem QKe (l : List Value) : Qcx Tryz.prog 141 (.agg l.toArray) 0 KV = vNth l 0 KV := Qd0 141 0 l Tryz.underlying141 rfl (by kernel_rfl) (by kernel_rfl) (by kernel_rfl)
theorem QKf (a : Addr) : Qa3 Tryz.prog 141 (.pointer (some a)) 0 KV = KV (.pointer (some (a.add 0))) := Qgr 141 0 a (m := 0) Tryz.underlying141 rfl (by kernel_rfl)
theorem QRm : Tryz.prog.szo 143 = some 1 := by kernel_rfl
theorem QOl (a : Addr) : Qby Tryz.prog 143 (.pointer (some a)) w KV = ∃ v, w.cell? a = some v /\ KV v := QNb 143 _ _ _ a Tryz.underlying143
theorem QRn (f : Fn) (x y : Array Value) (xo yo : Operand) : Qbr Tryz.prog .eql 143 xo yo (.func f x y) .nilFunc w KV = KV (.bool false) := QNl Tryz.underlying143 f x y xo yo
theorem QRo : Tryz.prog.szo 162 = some 256 := by kernel_rfl
theorem QRp (a : Addr) : Qby Tryz.prog 162 (.pointer (some a)) w KV = ∃ cs : List Value, (cs.length = 256 /\ Reads w a cs) /\ KV (.agg cs.toArray) := QGa 162 256 256 31 a Tryz.underlying162 (by kernel_rfl)
theorem QOm (l : List Value) (k : IntKind) (i : Int) : Qd6 Tryz.prog 162 (.agg l.toArray) (.int k i) KV = ((0 <= i /\ i < ((256 : Nat) : Int)) /\ vNth l i.toNat KV) := Qnx 162 l k i Tryz.underlying162 (by kernel_rfl) (by kernel_rfl) (by kernel_rfl)
theorem QRq (a : Addr) (k : IntKind) (i : Int) : Qbb Tryz.prog 162 (.pointer (some a)) (.int k i) KV = ((0 <= i /\ i < ((256 : Nat) : Int)) /\ KV (.pointer (some (a.add (i.toNat * 1))))) := Qwa 162 31 a 256 1 k i Tryz.underlying162 (by kernel_rfl)
theorem QRr : Tryz.prog.szo 166 = some 2 := by kernel_rfl
theorem QRs (a : Addr) : Qby Tryz.prog 166 (.pointer (some a)) w KV = ∃ cs : List Value, (cs.length = 2 /\ Reads w a cs) /\ KV (.agg cs.toArray) := QCg 166 2 a _ Tryz.underlying166 (by kernel_rfl)
theorem QRt (a0 : Option Addr) (n0 c0 : Nat) (n1 : Int) : Qdh Tryz.prog 166 [(0, .slice a0 n0 c0), (1, .int .i64 n1)] KV = KV (.agg #[.slice a0 n0 c0, .int .i64 n1]) := Qia (by kernel_rfl)
theorem QRu : Qdh Tryz.prog 166 [] KV = KV (.agg #[.slice none 0 0, .int .i64 0]) := Qia (by kernel_rfl)
theorem QKg (l : List Value) : Qcx Tryz.prog 166 (.agg l.toArray) 0 KV = vNth l 0 KV := Qd0 166 0 l Tryz.underlying166 rfl (by kernel_rfl) (by kernel_rfl) (by kernel_rfl)
theorem QKh (a : Addr) : Qa3 Tryz.prog 166 (.pointer (some a)) 0 KV = KV (.pointer (some (a.add 0))) := Qgr 166 0 a (m := 0) Tryz.underlying166 rfl (by kernel_rfl)
theorem QKi (l : List Value) : Qcx Tryz.prog 166 (.agg l.toArray) 1 KV = vNth l 1 KV := Qd0 166 1 l Tryz.underlying166 rfl (by kernel_rfl) (by kernel_rfl) (by kernel_rfl)
theorem QKj (a : Addr) : Qa3 Tryz.prog 166 (.pointer (some a)) 1 KV = KV (.pointer (some (a.add 1))) := Qgr 166 1 a (m := 0) Tryz.underlying166 rfl (by kernel_rfl)
theorem QRv : Tryz.prog.szo 170 = some 1 := by kernel_rfl
theorem QRw : Tryz.prog.szo 174 = some 1 := by kernel_rfl
theorem QRx : Tryz.prog.szo 179 = some 3 := by kernel_rfl
theorem QRy (f0 : Fn) (x0 y0 : Array Value) (n1 : Int) (n2 : Int) : Qdh Tryz.prog 179 [(0, .func f0 x0 y0), (1, .int .i64 n1), (2, .int .i64 n2)] KV = KV (.agg #[.func f0 x0 y0, .int .i64 n1, .int .i64 n2]) := Qia (by kernel_rfl)
theorem QRz : Qdh Tryz.prog 179 [] KV = KV (.agg #[.nilFunc, .int .i64 0, .int .i64 0]) := Qia (by kernel_rfl)
theorem QKk (l : List Value) : Qcx Tryz.prog 179 (.agg l.toArray) 0 KV = vNth l 0 KV := Qd0 179 0 l Tryz.underlying179 rfl (by kernel_rfl) (by kernel_rfl) (by kernel_rfl)
theorem QKl (a : Addr) : Qa3 Tryz.prog 179 (.pointer (some a)) 0 KV = KV (.pointer (some (a.add 0))) := Qgr 179 0 a (m := 0) Tryz.underlying179 rfl (by kernel_rfl)
theorem QKm (l : List Value) : Qcx Tryz.prog 179 (.agg l.toArray) 1 KV = vNth l 1 KV := Qd0 179 1 l Tryz.underlying179 rfl (by kernel_rfl) (by kernel_rfl) (by kernel_rfl)
theorem QKn (a : Addr) : Qa3 Tryz.prog 179 (.pointer (some a)) 1 KV = KV (.pointer (some (a.add 1))) := Qgr 179 1 a (m := 0) Tryz.underlying179 rfl (by kernel_rfl)
theorem QKo (l : List Value) : Qcx Tryz.prog 179 (.agg l.toArray) 2 KV = vNth l 2 KV := Qd0 179 2 l Tryz.underlying179 rfl (by kernel_rfl) (by kernel_rfl) (by kernel_rfl)
theorem QKp (a : Addr) : Qa3 Tryz.prog 179 (.pointer (some a)) 2 KV = KV (.pointer (some (a.add 2))) := Qgr 179 2 a (m := 0) Tryz.underlying179 rfl (by kernel_rfl)
theorem QR0 : Tryz.prog.szo 188 = some 256 := by kernel_rfl
theorem QR1 (a : Addr) : Qby Tryz.prog 188 (.pointer (some a)) w KV = ∃ cs : List Value, (cs.length = 256 /\ Reads w a cs) /\ KV (.agg cs.toArray) := QGa 188 256 256 3 a Tryz.underlying188 (by kernel_rfl)
theorem QOn (l : List Value) (k : IntKind) (i : Int) : Qd6 Tryz.prog 188 (.agg l.toArray) (.int k i) KV = ((0 <= i /\ i < ((256 : Nat) : Int)) /\ vNth l i.toNat KV) := Qnx 188 l k i Tryz.underlying188 (by kernel_rfl) (by kernel_rfl) (by kernel_rfl)
theorem QR2 (a : Addr) (k : IntKind) (i : Int) : Qbb Tryz.prog 188 (.pointer (some a)) (.int k i) KV = ((0 <= i /\ i < ((256 : Nat) : Int)) /\ KV (.pointer (some (a.add (i.toNat * 1))))) := Qwa 188 3 a 256 1 k i Tryz.underlying188 (by kernel_rfl)
theorem QR3 : Tryz.prog.szo 190 = some 2 := by kernel_rfl
theorem QR4 (f0 : Fn) (x0 y0 : Array Value) (n1 : Int) : Qdh Tryz.prog 190 [(0, .func f0 x0 y0), (1, .int .i64 n1)] KV = KV (.agg #[.func f0 x0 y0, .int .i64 n1]) := Qia (by kernel_rfl)
theorem QR5 : Qdh Tryz.prog 190 [] KV = KV (.agg #[.nilFunc, .int .i64 0]) := Qia (by kernel_rfl)
theorem QKq (l : List Value) : Qcx Tryz.prog 190 (.agg l.toArray) 0 KV = vNth l 0 KV := Qd0 190 0 l Tryz.underlying190 rfl (by kernel_rfl) (by kernel_rfl) (by kernel_rfl)
theorem QKr (a : Addr) : Qa3 Tryz.prog 190 (.pointer (some a)) 0 KV = KV (.pointer (some (a.add 0))) := Qgr 190 0 a (m := 0) Tryz.underlying190 rfl (by kernel_rfl)
theorem QKs (l : List Value) : Qcx Tryz.prog 190 (.agg l.toArray) 1 KV = vNth l 1 KV := Qd0 190 1 l Tryz.underlying190 rfl (by kernel_rfl) (by kernel_rfl) (by kernel_rfl)
theorem QKt (a : Addr) : Qa3 Tryz.prog 190 (.pointer (some a)) 1 KV = KV (.pointer (some (a.add 1))) := Qgr 190 1 a (m := 0) Tryz.underlying190 rfl (by kernel_rfl)
theorem QR6 : Tryz.prog.szo 196 = some 4 := by kernel_rfl
theorem QOo (l : List Value) (k : IntKind) (i : Int) : Qd6 Tryz.prog 196 (.agg l.toArray) (.int k i) KV = ((0 <= i /\ i < ((4 : Nat) : Int)) /\ vNth l i.toNat KV) := Qnx 196 l k i Tryz.underlying196 (by kernel_rfl) (by kernel_rfl) (by kernel_rfl)
theorem QR7 (a : Addr) (k : IntKind) (i : Int) : Qbb Tryz.prog 196 (.pointer (some a)) (.int k i) KV = ((0 <= i /\ i < ((4 : Nat) : Int)) /\ KV (.pointer (some (a.add (i.toNat * 1))))) := Qwa 196 3 a 4 1 k i Tryz.underlying196 (by kernel_rfl)
theorem QR8 : Tryz.prog.szo 198 = some 1 := by kernel_rfl
theorem QR9 (a : Option Addr) (n c : Nat) : vLen Tryz.prog 198 (.slice a n c) KV = KV (.int .i64 n) := Qv8 198 200 a n c Tryz.underlying198
theorem QOp (a : Option Addr) (n c : Nat) : Qb1 Tryz.prog 198 (.slice a n c) none none KV = (n <= c /\ KV (.slice a n c)) := QJg 198 200 a n c 2 Tryz.underlying198 (by kernel_rfl)
theorem QOq (a : Option Addr) (n c : Nat) (k : IntKind) (l : Int) : Qb1 Tryz.prog 198 (.slice a n c) (some (.int k l)) none KV = ((0 <= l /\ l <= n /\ n <= c) /\ KV (.slice (if c = l.toNat then a else a.map (·.add (l.toNat * 2))) (n - l.toNat) (c - l.toNat))) := QJh 198 200 a n c 2 k l Tryz.underlying198 (by kernel_rfl)
theorem QOr (a : Option Addr) (n c : Nat) (k : IntKind) (l : Int) : Qb1 Tryz.prog 198 (.slice a n c) none (some (.int k l)) KV = ((0 <= l /\ l <= c) /\ KV (.slice a l.toNat c)) := QJi 198 200 a n c 2 k l Tryz.underlying198 (by kernel_rfl)
theorem QOs (a : Option Addr) (n c : Nat) (k k' : IntKind) (l m : Int) : Qb1 Tryz.prog 198 (.slice a n c) (some (.int k l)) (some (.int k' m)) KV = ((0 <= l /\ l <= m /\ m <= c) /\ KV (.slice (if c = l.toNat then a else a.map (·.add (l.toNat * 2))) (m.toNat - l.toNat) (c - l.toNat))) := QJj 198 200 a n c 2 k k' l m Tryz.underlying198 (by kernel_rfl)
theorem QSa (a : Addr) (n c : Nat) (k : IntKind) (i : Int) : Qbb Tryz.prog 198 (.slice (some a) n c) (.int k i) KV = ((0 <= i /\ i < n) /\ KV (.pointer (some (a.add (i.toNat * 2))))) := Qv9 198 200 a n c 2 k i Tryz.underlying198 (by kernel_rfl)
theorem QSb (a : Addr) : Qby Tryz.prog 198 (.pointer (some a)) w KV = ∃ v, w.cell? a = some v /\ KV v := Qz3 198 200 a Tryz.underlying198
theorem QKu : Tryz.prog.szo 200 = some 2 := by kernel_rfl
theorem QSc (a : Addr) : Qby Tryz.prog 200 (.pointer (some a)) w KV = ∃ cs : List Value, (cs.length = 2 /\ Reads w a cs) /\ KV (.agg cs.toArray) := QCg 200 2 a _ Tryz.underlying200 (by kernel_rfl)
theorem QSd (n0 : Int) (n1 : Int) : Qdh Tryz.prog 200 [(0, .int .i64 n0), (1, .int .i64 n1)] KV = KV (.agg #[.int .i64 n0, .int .i64 n1]) := Qia (by kernel_rfl)
theorem QSe : Qdh Tryz.prog 200 [] KV = KV (.agg #[.int .i64 0, .int .i64 0]) := Qia (by kernel_rfl)
theorem QKv (l : List Value) : Qcx Tryz.prog 200 (.agg l.toArray) 0 KV = vNth l 0 KV := Qd0 200 0 l Tryz.underlying200 rfl (by kernel_rfl) (by kernel_rfl) (by kernel_rfl)
theorem QKw (a : Addr) : Qa3 Tryz.prog 200 (.pointer (some a)) 0 KV = KV (.pointer (some (a.add 0))) := Qgr 200 0 a (m := 0) Tryz.underlying200 rfl (by kernel_rfl)
theorem QKx (l : List Value) : Qcx Tryz.prog 200 (.agg l.toArray) 1 KV = vNth l 1 KV := Qd0 200 1 l Tryz.underlying200 rfl (by kernel_rfl) (by kernel_rfl) (by kernel_rfl)
theorem QKy (a : Addr) : Qa3 Tryz.prog 200 (.pointer (some a)) 1 KV = KV (.pointer (some (a.add 1))) := Qgr 200 1 a (m := 0) Tryz.underlying200 rfl (by kernel_rfl)
theorem QSf : Tryz.prog.szo 202 = some 1 := by kernel_rfl
theorem QSg : Tryz.prog.szo 204 = some 1 := by kernel_rfl
theorem QSh (a : Addr) : Qby Tryz.prog 204 (.pointer (some a)) w KV = ∃ cs : List Value, (cs.length = 1 /\ Reads w a cs) /\ KV (.agg cs.toArray) := QCg 204 1 a _ Tryz.underlying204 (by kernel_rfl)
theorem QSi (a0 : Option Addr) (n0 c0 : Nat) : Qdh Tryz.prog 204 [(0, .slice a0 n0 c0)] KV = KV (.agg #[.slice a0 n0 c0]) := Qia (by kernel_rfl)
theorem QSj : Qdh Tryz.prog 204 [] KV = KV (.agg #[.slice none 0 0]) := Qia (by kernel_rfl)
theorem QKz (l : List Value) : Qcx Tryz.prog 204 (.agg l.toArray) 0 KV = vNth l 0 KV := Qd0 204 0 l Tryz.underlying204 rfl (by kernel_rfl) (by kernel_rfl) (by kernel_rfl)
theorem QK0 (a : Addr) : Qa3 Tryz.prog 204 (.pointer (some a)) 0 KV = KV (.pointer (some (a.add 0))) := Qgr 204 0 a (m := 0) Tryz.underlying204 rfl (by kernel_rfl)
theorem QSk : Tryz.prog.szo 205 = some 22 := by kernel_rfl
theorem QOt (l : List Value) (k : IntKind) (i : Int) : Qd6 Tryz.prog 205 (.agg l.toArray) (.int k i) KV = ((0 <= i /\ i < ((22 : Nat) : Int)) /\ vNth l i.toNat KV) := Qnx 205 l k i Tryz.underlying205 (by kernel_rfl) (by kernel_rfl) (by kernel_rfl)
theorem QSl (a : Addr) (k : IntKind) (i : Int) : Qbb Tryz.prog 205 (.pointer (some a)) (.int k i) KV = ((0 <= i /\ i < ((22 : Nat) : Int)) /\ KV (.pointer (some (a.add (i.toNat * 1))))) := Qwa 205 3 a 22 1 k i Tryz.underlying205 (by kernel_rfl)
theorem QSm : Tryz.prog.szo 207 = some 68 := by kernel_rfl
theorem QK1 (l : List Value) : Qcx Tryz.prog 207 (.agg l.toArray) 0 KV = KV (.agg ((l.take 1).drop 0).toArray) := Qye 207 0 l 1 Tryz.underlying207 rfl (by kernel_rfl) (by kernel_rfl) (by kernel_rfl)
theorem QK2 (a : Addr) : Qa3 Tryz.prog 207 (.pointer (some a)) 0 KV = KV (.pointer (some (a.add 0))) := Qgr 207 0 a (m := 0) Tryz.underlying207 rfl (by kernel_rfl)
theorem QK3 (l : List Value) : Qcx Tryz.prog 207 (.agg l.toArray) 1 KV = vNth l 1 KV := Qd0 207 1 l Tryz.underlying207 rfl (by kernel_rfl) (by kernel_rfl) (by kernel_rfl)
theorem QK4 (a : Addr) : Qa3 Tryz.prog 207 (.pointer (some a)) 1 KV = KV (.pointer (some (a.add 1))) := Qgr 207 1 a (m := 0) Tryz.underlying207 rfl (by kernel_rfl)
theorem QK5 (l : List Value) : Qcx Tryz.prog 207 (.agg l.toArray) 2 KV = KV (.agg ((l.take 24).drop 2).toArray) := Qye 207 2 l 22 Tryz.underlying207 rfl (by kernel_rfl) (by kernel_rfl) (by kernel_rfl)
theorem QK6 (a : Addr) : Qa3 Tryz.prog 207 (.pointer (some a)) 2 KV = KV (.pointer (some (a.add 2))) := Qgr 207 2 a (m := 21) Tryz.underlying207 rfl (by kernel_rfl)
theorem QK7 (l : List Value) : Qcx Tryz.prog 207 (.agg l.toArray) 3 KV = KV (.agg ((l.take 46).drop 24).toArray) := Qye 207 3 l 22 Tryz.underlying207 rfl (by kernel_rfl) (by kernel_rfl) (by kernel_rfl)
theorem QK8 (a : Addr) : Qa3 Tryz.prog 207 (.pointer (some a)) 3 KV = KV (.pointer (some (a.add 24))) := Qgr 207 3 a (m := 21) Tryz.underlying207 rfl (by kernel_rfl)
theorem QK9 (l : List Value) : Qcx Tryz.prog 207 (.agg l.toArray) 4 KV = KV (.agg ((l.take 68).drop 46).toArray) := Qye 207 4 l 22 Tryz.underlying207 rfl (by kernel_rfl) (by kernel_rfl) (by kernel_rfl)
theorem QLa (a : Addr) : Qa3 Tryz.prog 207 (.pointer (some a)) 4 KV = KV (.pointer (some (a.add 46))) := Qgr 207 4 a (m := 21) Tryz.underlying207 rfl (by kernel_rfl)
theorem QSn : Tryz.prog.szo 215 = some 1 := by kernel_rfl
theorem QSo : Tryz.prog.szo 228 = some 1 := by kernel_rfl
theorem QSp (a : Addr) : Qby Tryz.prog 228 (.pointer (some a)) w KV = ∃ v, w.cell? a = some v /\ KV v := Qp3 228 a .u64 Tryz.underlying228
theorem QSq : Tryz.prog.szo 232 = some 1 := by kernel_rfl
end
attribute [go_sem ↓] ld3 QQj QNr QNt QNv QJ2 ld4 QQl QQm ld5 QQn QNx ln9 ix9 snn9 sln9 snh9 slh9 ld9 ld24 bd24 bz24 QNz QN0 QN1 QN2 ld25 ld31 QN3 QJ4 ln36 QQp QQq QQr QQs ia36 ld36 ld42 QQt ia42 ln43 QQu QQv QQw QQx ia43 ld43 QN5 ln56 ia56 ln63 ia63 ld63 ld65 bd65 bz65 QN8 QN9 QOa QOb pe68 pn68 ld71 QOc QOe QJ6 QOg QJ8 QOi QQ0 QQ1 QQ2 QQ4 QQ5 QQ6 QOj QQ8 QRa QRb QKa QKb QKc QKd QRd QOk QRe QRg QRh QRi QRk QRl QKe QKf QOl QRn QRp QOm QRq QRs QRt QRu QKg QKh QKi QKj QRy QRz QKk QKl QKm QKn QKo QKp QR1 QOn QR2 QR4 QR5 QKq QKr QKs QKt QOo QR7 QR9 QOp QOq QOr QOs QSa QSb QSc QSd QSe QKv QKw QKx QKy QSh QSi QSj QKz QK0 QOt QSl QK1 QK2 QK3 QK4 QK5 QK6 QK7 QK8 QK9 QLa QSp
attribute [go_sem] sz3 QQk QNs QNu QNw QJ3 sz4 sz5 QQo QNy sz9 sz20 sz24 sz25 sz31 QN4 QJ5 sz36 sz42 sz43 QN6 QN7 sz56 sz63 sz65 sz68 sz71 QOd QOf QJ7 sz97 QOh QJ9 QQy QQz QQ3 QQ7 QQ9 QRc QRf QRj QRm QRo QRr QRv QRw QRx QR0 QR3 QR6 QR8 QKu QSf QSg QSk QSm QSn QSo QSq
theorem zi3 : (Tryz.prog.info? 3).map (fun i => (i.zero.map Value.cells, i.size, i.bytes)) = some (some #[.int .i64 0], 1, 8) := by kernel_rfl
theorem zi5 : (Tryz.prog.info? 5).map (fun i => (i.zero.map Value.cells, i.size, i.bytes)) = some (some #[.int .u8 0], 1, 1) := by kernel_rfl
theorem zi36 : (Tryz.prog.info? 36).map (fun i => (i.zero.map Value.cells, i.size, i.bytes)) = some (some #[.slice none 0 0], 1, 24) := by kernel_rfl
def wr (g : Nat) (a : Option Addr) (cap : Nat) (l : List Bool) : Res :=
 Res.pair (Res.blk g 123 [.slice a (Qbv l).length cap, .int .i64 l.length]) (Res.row 5 1 a (Qbv l).length cap (Qao (Qbv l)))
theorem Qc7 (w : World) : Does Tryz.prog 35 #[] w fun v w' => ∃ g, Heap w [] w' [wr g none 0 []] /\ v = .pointer (some ⟨g, 0, none⟩) := by
 refine En [] 3 Tryz.func35 ?_
 refine VS [] ?_
 refine VQ [0] fun K hK => ?_
 refine Qcg ?_
 refine Qs ?_
 have hH := (Qm1 (w := w) (E := 5) (sz := 1)).box 123 [.slice none 0 0, .int .i64 0]
 generalize w.alloc (Obj.cells [Value.slice none 0 0, .int .i64 0].toArray 123) = w1 at *
 apply hK;clear hK
 refine Qah (Qat rfl rfl ?_)
 exact ⟨_, hH.pair, rfl⟩
theorem Qcv (g : Nat) (a : Option Addr) (cap : Nat) (l : List Bool) (v : Nat) (n : Nat) (w : World) (hn : n <= 64) (hv : v < 2 ^ n) (hl : l.length <= 100000000000000)
  (hL : Heap w (wr g a cap l).foot w [wr g a cap l]) : Does Tryz.prog 36 #[.pointer (some ⟨g, 0, none⟩), .int .u64 v, .int .i64 n] w fun x w' => ∃ a' cap', Heap w (wr g a cap l).foot w' [wr g a' cap' (l ++ Qbc n v)] /\ x = .int .i64 0 := by
 have hv64 : v < 18446744073709551616 := Nat.lt_of_lt_of_le hv (Nat.pow_le_pow_right (n := 2) (by omega) hn)
 have hdiv : v / 2 ^ n = 0 := Nat.div_eq_of_lt hv
 refine En [.pointer (some ⟨g, 0, none⟩), .int .u64 v, .int .i64 n] 81 Tryz.func36 ?_
 refine VS [0, 1, 2] ?_
 refine VS [0, 1, 2, 9] ?_
 refine Qai rfl rfl (fun h => by cases h) (fun h => Qac ?_)
 refine VQ [0, 1, 2, 26] fun K hK => ?_
 have hsh : shN IntKind.u64 ((n : Int) % 18446744073709551616) = n := by
  rw [Int.emod_eq_of_lt (by omega) (by omega), shN, show IntKind.u64.bits = 64 from rfl];omega
 have hdv : (v : Int) / 2 ^ n = 0 := by
  have e : ((2 : Int) ^ n) = ((2 ^ n : Nat) : Int) := by push_cast;rfl
  rw [e, <- Int.natCast_ediv, hdiv];rfl
 rw [hsh, hdv]
 suffices out : ∀ b : Bool, (b = true ↔ False) -> K [(0, .pointer (some ⟨g, 0, none⟩)), (1, .int .u64 v), (2, .int .i64 n), (26, .bool b)] w by (repeat' (first | exact out _ _ (by first | omega | (simp;done) | (simp;omega)) | exact out _ (by first | omega | (simp;done) | (simp;omega)) | refine ⟨fun _ => ?_, fun _ => ?_⟩ | refine Qo ?_))
 intro b hb
 apply hK;clear hK
 refine Qai rfl rfl (fun h => (hb.1 h).elim) (fun h => Qac ?_)
 refine VS [0, 1, 7] ?_
 refine VB ?_
 refine Qaj [0, 1, 7] (fun m e w' => ∃ (k : Nat) (i : Int) (a' : Option Addr) (cap' : Nat), Is e [(0, .pointer (some ⟨g, 0, none⟩)), (1, .int .u64 v), (7, .int .i64 i)] /\ Heap w (wr g a cap l).foot w' [wr g a' cap' (l ++ (Qbc n v).take k)] /\ k <= n /\ i = (n : Int) - 1 - k /\ m = n - k) n ?_ ?_
 ·
  refine Qs ?_
  exact ⟨0, _, a, cap, rfl, by simpa using hL, by omega, by omega, rfl⟩
 rintro m e w1 ⟨k, i, a1, cap1, rfl, hH, hk, hi, rfl⟩
 refine VS [0, 1, 7, 30] ?_
 refine VD (fun h => ?_) (fun h => ?_)
 ·
  refine Qac ?_
  refine VB ?_
  have htk := Qn3 n v k (by omega)
  have hlen : (l ++ (Qbc n v).take k).length = l.length + k := by rw [List.length_append, List.length_take, Qas];omega
  generalize hl1 : l ++ (Qbc n v).take k = l1 at *
  have htl := Qce l1
  have hH1 := hH.unpair
  refine VQ [0, 1, 7, 38] fun K hK => ?_
  (repeat first | refine Qo ?_ | refine Qp ?_ | (refine Gc hH1 ?_;(try refine Qs ?_)))
  apply hK;clear hK
  (repeat refine Qaw ?_)
  refine Qdb [0, 1, 7] (fun e w' => ∃ a2 cap2, Is e [(0, .pointer (some ⟨g, 0, none⟩)), (1, .int .u64 v), (7, .int .i64 i)] /\ Heap w (wr g a cap l).foot w' [Res.row 5 1 a2 (Qbv (l1 ++ [false])).length cap2 (Qao (Qbv (l1 ++ [false]))), Res.blk g 123 [.slice a2 (Qbv (l1 ++ [false])).length cap2, .int .i64 l1.length]]) ?_ ?_
  ·
   refine VD (fun h => ?_) (fun h => Qac ?_)
   ·
    have e1 : Qbv (l1 ++ [false]) = Qbv l1 ++ [0] := by rw [Qn2, if_pos (by omega)]
    refine VQ [0, 1, 7] fun K hK => ?_
    (repeat first | refine Qo ?_ | refine Qp ?_ | (refine Gc hH1 ?_;(try refine Qs ?_)))
    refine Qde (xs := [.const (.int .u8 0)]) Tryz.underlying43 sz5 rfl rfl rfl (by omega) ?_;refine Qs ?_;refine ⟨by simp [Value.cells], ?_⟩
    refine Qau ?_;refine Qs ?_;refine Qhc hH1 1 (0) rfl Tryz.underlying43 zi5 (by first | rfl | (simp;done) | omega) (fun h => by (first | omega | (simp;done) | (simp;omega))) fun a' cap' w5 hc' hH2 => ?_;(try refine Qs ?_)
    rw [<- e1] at hH2 ⊢
    refine Qab ?_;refine Qs ?_;refine Qae hH2 0 (vs := [.slice a' (Qbv (l1 ++ [false])).length cap']) rfl rfl (by kernel_rfl) (by first | decide | (simp;done) | (simp;omega)) (by simp [Value.oneCell']) fun w6 hH3 => ?_;(try refine Qs ?_)
    apply hK;clear hK
    refine Qad ?_
    refine Qs ?_
    exact ⟨_, _, rfl, hH3.perm (List.Perm.swap _ _ _)⟩
   ·
    have e1 : Qbv (l1 ++ [false]) = Qbv l1 := by rw [Qn2, if_neg (by omega)]
    rw [e1]
    refine Qad ?_
    refine Qs ?_
    exact ⟨_, _, rfl, hH1.perm (List.Perm.swap _ _ _)⟩
  clear hH hH1
  rintro e w2 ⟨a2, cap2, rfl, hH⟩
  generalize hb : v.testBit (n - 1 - k) = b at htk
  have hi2 : i = ((n - 1 - k : Nat) : Int) := by omega
  have hsh2 : shN IntKind.u64 (i % 18446744073709551616) = n - 1 - k := by
   rw [hi2, Int.emod_eq_of_lt (by omega) (by omega), shN, show IntKind.u64.bits = 64 from rfl];omega
  have hsh3 : (v : Int) / 2 ^ (n - 1 - k) = ((v / 2 ^ (n - 1 - k) : Nat) : Int) := by
   rw [Int.natCast_ediv];push_cast;rfl
  have hle : v / 2 ^ (n - 1 - k) <= v := Nat.div_le_self _ _
  have hbit := Qjt v (n - 1 - k)
  rw [hb] at hbit
  refine VQ [0, 1, 7, 53] fun K hK => ?_
  rw [hsh2, hsh3]
  clear hsh3
  generalize v / 2 ^ (n - 1 - k) = q at *
  (repeat first | refine Qo ?_ | refine Qp ?_ | (refine Gc hH ?_;(try refine Qs ?_)))
  rw [show Int.toNat 1 = 1 from rfl, Int.toNat_natCast, Nat.and_one_is_mod, hbit]
  apply hK;clear hK
  (repeat refine Qaw ?_)
  refine Qdb [0, 1, 7] (fun e w' => Is e [(0, .pointer (some ⟨g, 0, none⟩)), (1, .int .u64 v), (7, .int .i64 i)] /\ Heap w (wr g a cap l).foot w' [Res.row 5 1 a2 (Qbv (l1 ++ [b])).length cap2 (Qao (Qbv (l1 ++ [b]))), Res.blk g 123 [.slice a2 (Qbv (l1 ++ [b])).length cap2, .int .i64 l1.length]]) ?_ ?_
  ·
   cases b with
   | false =>
    refine Qai rfl rfl (fun h => by simp at h) (fun h => Qac ?_)
    refine Qad ?_
    refine Qs ?_
    exact ⟨rfl, hH⟩
   | true =>
    refine Qai rfl rfl (fun h => ?_) (fun h => by simp at h)
    have hol : (Qbv (l1 ++ [false])).length = (l1.length + 8) / 8 := by rw [Qce, List.length_append];rfl
    have hlen2 : (Qbv (l1 ++ [true])).length = (Qbv (l1 ++ [false])).length := by rw [Qce, Qce];simp
    have htrue := QAo l1
    generalize Qbv (l1 ++ [true]) = o2 at *
    generalize Qbv (l1 ++ [false]) = o at *
    obtain ⟨ga, rfl⟩ := Qdz (hH.at 0 rfl) (by omega)
    have hsh4 : shN IntKind.u8 (((l1.length : Int) % 8) % 18446744073709551616) = l1.length % 8 := QAc (by omega) (by simp [IntKind.bits];omega) (by decide)
    refine VL [0, 1, 7] 20 fun K hK => ?_
    (repeat first | refine Qo ?_ | refine Qp ?_ | (refine Gc hH ?_;(try refine Qs ?_)))
    have e1 : ((l1.length : Int) / 8).toNat = l1.length / 8 := by omega
    rw [hsh4, e1, show (128 : Int) / 2 ^ (l1.length % 8) = ((128 / 2 ^ (l1.length % 8) : Nat) : Int) from Qgw 128 _]
    have hm128 : 128 / 2 ^ (l1.length % 8) <= 128 := Nat.div_le_self _ _
    have hx256 := (o.getD (l1.length / 8) 0).toNat_lt
    generalize hmm : 128 / 2 ^ (l1.length % 8) = mm at *
    have hy : (UInt8.ofNat ((o.getD (l1.length / 8) 0).toNat ||| mm)).toNat = (o.getD (l1.length / 8) 0).toNat ||| mm :=
     Qgj (Nat.or_lt_two_pow (n := 8) hx256 (by omega))
    have ho2 := htrue _ hy
    rw [Int.toNat_natCast, <- hy]
    generalize (UInt8.ofNat ((o.getD (l1.length / 8) 0).toNat ||| mm)) = y at *
    refine ⟨⟨by omega, by omega⟩, ⟨by omega, by omega⟩, ⟨by omega, by omega⟩, ?_⟩
    refine Qab ?_;refine Qs ?_;refine Qbf hH 0 (o := (l1.length / 8)) (vs := [.int .u8 y.toNat]) rfl (by first | exact (Qbp _ _ _).symm | rfl | simp [Qbp]) rfl (by kernel_rfl) (by first | omega | (simp;omega) | (simp [Qao, Qbn];omega) | (rw [natsV_len];simp;omega)) (by simp [Value.oneCell']) fun w6 hH2 => ?_;(try refine Qs ?_)
    simp only [List.length_singleton, Qb2 (Qao o) _ _ (show l1.length / 8 < (Qao o).length by rw [Qfo];omega), Qi9, <- ho2, List.set_cons_zero] at hH2
    apply hK;clear hK
    refine Qad ?_
    refine Qs ?_
    rw [hlen2]
    exact ⟨rfl, hH2⟩
  clear hH
  rintro e w3 ⟨rfl, hH⟩
  refine VQ [0, 1, 7] fun K hK => ?_
  (repeat first | refine Qo ?_ | refine Qp ?_ | (refine Gc hH ?_;(try refine Qs ?_)))
  refine Qab ?_;refine Qs ?_;refine Qae hH 1 (vs := [.int .i64 (l1.length + 1)]) rfl rfl (by kernel_rfl) (by first | decide | (simp;done) | (simp;omega)) (by simp [Value.oneCell']) fun w6 hH2 => ?_;(try refine Qs ?_)
  apply hK;clear hK
  refine Qar ?_
  refine VS [0, 1, 7] ?_
  refine Qad ?_
  refine Qs ?_
  refine ⟨n - (k + 1), by omega, k + 1, i - 1, a2, cap2, rfl, ?_, by omega, by omega, rfl⟩
  rw [htk, <- List.append_assoc, hl1]
  have hH3 := (hH2.perm (List.Perm.swap _ _ _)).pair
  have e : wr g a2 cap2 (l1 ++ [b]) = Res.pair (Res.blk g 123 [.slice a2 (Qbv (l1 ++ [b])).length cap2, .int .i64 (l1.length + 1)]) (Res.row 5 1 a2 (Qbv (l1 ++ [b])).length cap2 (Qao (Qbv (l1 ++ [b])))) := by simp [wr]
  rw [e]
  exact hH3
 ·
  refine Qak rfl ?_
  refine VS [6] ?_
  refine Qah (Qat rfl rfl ?_)
  have e : (Qbc n v).take k = Qbc n v := List.take_of_length_le (by rw [Qas];omega)
  rw [e] at hH
  exact ⟨_, _, hH, rfl⟩
theorem Qfv (g : Nat) (a : Option Addr) (cap : Nat) (l : List Bool) (w : World) (hL : (wr g a cap l).holds w) :
  Does Tryz.prog 37 #[.pointer (some ⟨g, 0, none⟩)] w fun x w' => w' = w /\ x = Str (Qbv l) := by
 obtain ⟨h1, h2, _⟩ := hL
 refine En [.pointer (some ⟨g, 0, none⟩)] 10 Tryz.func37 ?_
 refine VS [0] ?_
 refine VS [0, 4] ?_
 refine Qai rfl rfl (fun h => by cases h) (fun h => Qac ?_)
 refine VQ [2] fun K hK => ?_
 refine ⟨_, Qaf h1 rfl, ?_⟩
 refine Qs ?_
 refine ⟨_, Qf3 (Qa8 h2), ?_⟩
 apply hK;clear hK
 exact Qah (Qat rfl rfl ⟨rfl, rfl⟩)
theorem Qf4 (g : Nat) (a : Option Addr) (cap : Nat) (l : List Bool) (w : World) (hL : (wr g a cap l).holds w) :
  Does Tryz.prog 38 #[.pointer (some ⟨g, 0, none⟩)] w fun x w' => w' = w /\ x = .int .i64 l.length := by
 obtain ⟨h1, h2, _⟩ := hL
 refine En [.pointer (some ⟨g, 0, none⟩)] 9 Tryz.func38 ?_
 refine VS [0] ?_
 refine VS [0, 4] ?_
 refine Qai rfl rfl (fun h => by cases h) (fun h => Qac ?_)
 refine VQ [2] fun K hK => ?_
 refine ⟨_, Qaf h1 rfl, ?_⟩
 apply hK;clear hK
 exact Qah (Qat rfl rfl ⟨rfl, rfl⟩)
def rd (g gs : Nat) (s : List UInt8) (at_ : Nat) : Res :=
 Res.pair (Res.blk g 179 [.func (.func 137) #[] #[.pointer (some ⟨gs, 0, none⟩)], .int .i64 at_, .int .i64 (8 * s.length : Nat)]) (Res.blk gs 9 [Str s])
theorem Qyf (s : List UInt8) (gs i : Nat) (w : World) (hi : i < 8 * s.length) (hs : s.length <= 1000000000000000000) (hc : w.cell? ⟨gs, 0, none⟩ = some (Str s)) :
  Does Tryz.prog 137 #[.int .i64 i, .pointer (some ⟨gs, 0, none⟩)] w fun x w' => w' = w /\ x = .int .u64 ((Qap s).getD i false).toNat := by
 have hb := Qlk s i hi
 have hlt := (s.getD (i / 8) 0).toNat_lt
 have e1 : ((i : Int) / 8).toNat = i / 8 := by omega
 have hsh : shN IntKind.u64 ((7 - (i : Int) % 8) % 18446744073709551616) = 7 - i % 8 := QAc (by omega) (by simp [IntKind.bits];omega) (by decide)
 have hbit := Qjt (s.getD (i / 8) 0).toNat (7 - i % 8)
 refine En [.int .i64 i, .pointer (some ⟨gs, 0, none⟩)] 15 Tryz.func137 ?_
 refine VS [0, 1] ?_
 refine VQ [3] fun K hK => ?_
 refine ⟨_, hc, ?_⟩
 refine Qs ?_
 (repeat first | refine Qo ?_ | refine Qp ?_)
 rw [hsh, e1, Int.emod_eq_of_lt (by omega) (by omega), Qgw]
 have hle := Nat.div_le_self (s.getD (i / 8) 0).toNat (2 ^ (7 - i % 8))
 generalize (s.getD (i / 8) 0).toNat / 2 ^ (7 - i % 8) = q at *
 (repeat first | refine Qo ?_ | refine Qp ?_)
 rw [show Int.toNat 1 = 1 from rfl, Int.toNat_natCast, Nat.and_one_is_mod, hbit]
 apply hK;clear hK
 have hb2 : (Qap s).getD i false = (s.getD (i / 8) 0).toNat.testBit (7 - i % 8) := by rw [List.getD_eq_getElem?_getD, hb];rfl
 rw [hb2]
 exact Qah (Qat rfl rfl ⟨rfl, rfl⟩)
theorem Qc8 (s : List UInt8) (at_ : Int) (w : World) (ha : I64 at_) (hs : s.length <= 1000000000000000000) :
  Does Tryz.prog 86 #[Str s, .int .i64 at_] w fun v w' =>
   ((at_ < 0 ∨ 8 * (s.length : Int) < at_) /\ Heap w [] w' [] /\ v = .pointer none) ∨ (¬ (at_ < 0 ∨ 8 * (s.length : Int) < at_) /\ ∃ g gs, Heap w [] w' [rd g gs s at_.toNat] /\ v = .pointer (some ⟨g, 0, none⟩)) := by
 obtain ⟨ha1, ha2⟩ := ha
 refine En [Str s, .int .i64 at_] 21 Tryz.func86 ?_
 refine VQ [1, 2] fun K hK => ?_
 refine Qcg ?_
 refine Qs ?_
 have hH := (Heap.start w).box 9 [Str s]
 generalize w.alloc (Obj.cells [Str s].toArray 9) = w1 at *
 generalize w.heap.size = gs at *
 apply hK;clear hK
 refine VQ [1, 2, 13] fun K hK => ?_
 suffices out : ∀ b : Bool, (b = true ↔ at_ < 0 ∨ 8 * (s.length : Int) < at_) -> K [(1, .int .i64 at_), (2, .pointer (some ⟨gs, 0, none⟩)), (13, .bool b)] w1 by
  refine ⟨fun h => ⟨_, Qaf (hH.at 0 rfl) rfl, ?_⟩, fun h => out _ (by simp [h])⟩
  refine Qs ?_
  (repeat' (first | exact out _ _ (by first | omega | (simp;done) | (simp;omega)) | exact out _ (by first | omega | (simp;done) | (simp;omega)) | refine ⟨fun _ => ?_, fun _ => ?_⟩ | refine Qo ?_))
 intro b hb
 apply hK;clear hK
 refine Vi (fun h => ?_) (fun h => Qac ?_)
 ·
  refine VS [4] ?_
  exact Qah (Qat rfl rfl (.inl ⟨hb.1 h, hH.sub (by simp), rfl⟩))
 have hg : ¬ (at_ < 0 ∨ 8 * (s.length : Int) < at_) := fun h' => by rw [hb.2 h'] at h;cases h
 clear h hb
 obtain ⟨at_, rfl⟩ : ∃ n : Nat, at_ = n := ⟨at_.toNat, by omega⟩
 refine VQ [4] fun K hK => ?_
 (repeat first | refine Qo ?_ | refine Qp ?_ | (refine Gc hH ?_;(try refine Qs ?_)))
 refine Qcg ?_
 refine Qs ?_
 have hH2 := hH.box 179 [.func (.func 137) #[] #[.pointer (some ⟨gs, 0, none⟩)], .int .i64 at_, .int .i64 (8 * s.length : Nat)]
 apply hK;clear hK
 refine Qah (Qat rfl rfl (.inr ⟨hg, _, gs, ?_, rfl⟩))
 exact hH2.pair
theorem Qn4 (g gs at_ : Nat) (s : List UInt8) (w : World) (hL : (rd g gs s at_).holds w) :
  Does Tryz.prog 100 #[.pointer (some ⟨g, 0, none⟩)] w fun x w' => w' = w /\ x = .int .i64 at_ := by
 obtain ⟨h1, h2, _⟩ := hL
 refine En [.pointer (some ⟨g, 0, none⟩)] 9 Tryz.func100 ?_
 refine VS [0] ?_
 refine VS [0, 4] ?_
 refine Qai rfl rfl (fun h => by cases h) (fun h => Qac ?_)
 refine VQ [2] fun K hK => ?_
 refine ⟨_, Qaf h1 rfl, ?_⟩
 apply hK;clear hK
 exact Qah (Qat rfl rfl ⟨rfl, rfl⟩)
theorem Qeh (g gs : Nat) (s : List UInt8) (at_ n : Nat) (w : World) (hn : n <= 64) (ha : at_ <= 8 * s.length) (hs : s.length <= 1000000000000000)
  (hL : Heap w (rd g gs s at_).foot w [rd g gs s at_]) : Does Tryz.prog 87 #[.pointer (some ⟨g, 0, none⟩), .int .i64 n] w fun x w' =>
   (8 * s.length < at_ + n /\ w' = w /\ x = .tuple #[.int .u64 0, .int .i64 10]) ∨ (at_ + n <= 8 * s.length /\ Heap w (rd g gs s at_).foot w' [rd g gs s (at_ + n)] /\ x = .tuple #[.int .u64 (numB (((Qap s).drop at_).take n)), .int .i64 0]) := by
 have hH := hL.unpair
 have hbl := Qax s
 refine En [.pointer (some ⟨g, 0, none⟩), .int .i64 n] 62 Tryz.func87 ?_
 refine VS [0, 1] ?_
 refine VQ [0, 1, 16] fun K hK => ?_
 refine ⟨_, Qaf (hH.at 0 rfl) rfl, ?_⟩
 refine Qs ?_
 apply hK;clear hK
 refine Qai rfl rfl (fun h => by cases h) (fun h => Qac ?_)
 refine VQ [0, 1, 22] fun K hK => ?_
 suffices out : ∀ b : Bool, (b = true ↔ False) -> K [(0, .pointer (some ⟨g, 0, none⟩)), (1, .int .i64 n), (22, .bool b)] w by (repeat' (first | exact out _ _ (by first | omega | (simp;done) | (simp;omega)) | exact out _ (by first | omega | (simp;done) | (simp;omega)) | refine ⟨fun _ => ?_, fun _ => ?_⟩ | refine Qo ?_))
 intro b hb
 apply hK;clear hK
 refine Qai rfl rfl (fun h => (hb.1 h).elim) (fun h => Qac ?_)
 clear hb h
 refine Vq [0, 1, 33] fun K hK => ?_
 (repeat first | refine Qo ?_ | refine Qp ?_ | (refine Gc hH ?_;(try refine Qs ?_)))
 apply hK;clear hK
 refine VD (fun h => ?_) (fun h => Qac ?_)
 ·
  refine VS [4, 5] ?_
  exact Qah (Qa4 rfl rfl rfl (.inl ⟨by omega, rfl, rfl⟩))
 refine VS [0, 1, 6] ?_
 refine VS [0, 1, 6, 34, 35] ?_
 refine VB ?_
 refine Qaj [0, 1, 6, 34, 35] (fun m e w' => ∃ (k : Nat), Is e [(0, .pointer (some ⟨g, 0, none⟩)), (1, .int .i64 n), (6, .int .u64 (numB (((Qap s).drop at_).take k))), (34, .int .i64 n), (35, .int .i64 k)] /\ Is w' w /\ k <= n /\ m = n - k) n ?_ ?_
 ·
  refine Qs ?_
  exact ⟨0, rfl, rfl, by omega, rfl⟩
 rintro m e w' ⟨k, rfl, rfl, hk, rfl⟩
 refine VS [0, 1, 6, 34, 35, 36] ?_
 (repeat refine Qaw ?_)
 refine VD (fun h => ?_) (fun h => ?_)
 ·
  refine Qac ?_
  refine VB ?_
  have hlt := Qev (((Qap s).drop at_).take k)
  rw [List.length_take, List.length_drop, Nat.min_eq_left (by omega)] at hlt
  have h63 : numB (((Qap s).drop at_).take k) < 2 ^ 63 := Nat.lt_of_lt_of_le hlt (Nat.pow_le_pow_right (by omega) (by omega))
  have htk := Qds false (l := (Qap s).drop at_) (i := k) (by simp;omega)
  have hnext := QC6 (((Qap s).drop at_).take k) (((Qap s).drop at_).getD k false)
  rw [<- htk] at hnext
  have hgd : ((Qap s).drop at_).getD k false = (Qap s).getD (at_ + k) false := by simp [List.getD_eq_getElem?_getD]
  rw [hgd] at hnext
  refine VS [0, 1, 6, 7, 34, 35] ?_
  refine VH w' (Ext.refl _) [0, 1, 6, 34, 35] [(0, true), (1, true), (2, true), (3, true), (4, true), (5, true), (6, true), (7, true), (8, true), (9, true), (10, true), (11, true), (12, false), (13, true), (14, true)] fun K hK => ?_
  (repeat first | refine Qo ?_ | refine Qp ?_ | (refine Gc hH ?_;(try refine Qs ?_)))
  have hbd := Qyf s gs (at_ + k) w' (by omega) (by omega) (Qaf (hH.at 1 rfl) rfl)
  rw [Int.natCast_add] at hbd
  refine Qbg ?_;refine Qs ?_;refine FnK.mk Tryz.call137 hbd ?_
  rintro v w3 ⟨rfl, rfl⟩
  refine Qs ?_
  refine ⟨Ext.refl _, ?_⟩
  rw [show shN IntKind.u64 1 = 1 from rfl]
  generalize (Qap s).getD (at_ + k) false = b at *
  have hor : numB (((Qap s).drop at_).take k) * 2 ||| b.toNat = 2 * numB (((Qap s).drop at_).take k) + b.toNat := by
   rw [Nat.mul_comm]
   cases b
   ·
    simp
   ·
    exact (Nat.two_pow_add_eq_or_of_lt (i := 1) (b := 1) (by omega) _).symm
  rw [Nat.add_comm] at htk
  generalize numB (((Qap s).drop at_).take k) = q at *
  have e1 : (q : Int) * 2 ^ 1 % 18446744073709551616 = ((q * 2 : Nat) : Int) := by omega
  rw [e1]
  refine ⟨⟨by omega, by omega⟩, ⟨by cases b <;> simp, by cases b <;> simp⟩, ?_⟩
  simp only [Int.toNat_natCast]
  rw [hor, <- hnext]
  apply hK;clear hK
  refine Qar ?_
  refine VS [0, 1, 6, 34, 35] ?_
  refine Qad ?_
  refine Qs ?_
  exact ⟨n - (k + 1), by omega, k + 1, rfl, rfl, by omega, rfl⟩
 ·
  refine Qak rfl ?_
  refine VQ [6] fun K hK => ?_
  (repeat first | refine Qo ?_ | refine Qp ?_ | (refine Gc hH ?_;(try refine Qs ?_)))
  have hkn : k = n := by omega
  subst hkn
  refine Qab ?_;refine Qs ?_;refine Qae hH 0 (vs := [.int .i64 (at_ + k : Nat)]) rfl rfl (by kernel_rfl) (by first | decide | (simp;done) | (simp;omega)) (by simp [Value.oneCell']) fun w6 hH2 => ?_;(try refine Qs ?_)
  apply hK;clear hK
  refine VS [4, 5] ?_
  exact Qah (Qa4 rfl rfl rfl (.inr ⟨by omega, hH2.pair, rfl⟩))
theorem QAp (g gs : Nat) (s : List UInt8) (at_ most : Nat) (w : World) (hm : most <= 1000) (ha : at_ <= 8 * s.length) (hs : s.length <= 1000000000000000)
  (hL : Heap w (rd g gs s at_).foot w [rd g gs s at_]) : Does Tryz.prog 101 #[.pointer (some ⟨g, 0, none⟩), .int .i64 most] w fun x w' =>
   x = .tuple #[.int .i64 (unS ((Qap s).drop at_) most 0).1, .int .i64 (unS ((Qap s).drop at_) most 0).2] /\ (((unS ((Qap s).drop at_) most 0).2 ≠ 0 /\ w' = w) ∨ ((unS ((Qap s).drop at_) most 0).2 = 0 /\ at_ + (unS ((Qap s).drop at_) most 0).1 + 1 <= 8 * s.length /\ (unS ((Qap s).drop at_) most 0).1 <= most /\ Heap w (rd g gs s at_).foot w' [rd g gs s (at_ + (unS ((Qap s).drop at_) most 0).1 + 1)])) := by
 have hH := hL.unpair
 have hbl := Qax s
 refine En [.pointer (some ⟨g, 0, none⟩), .int .i64 most] 56 Tryz.func101 ?_
 refine VS [0, 1] ?_
 refine VQ [0, 1, 15] fun K hK => ?_
 refine ⟨_, Qaf (hH.at 0 rfl) rfl, ?_⟩
 refine Qs ?_
 apply hK;clear hK
 refine Qai rfl rfl (fun h => by cases h) (fun h => Qac ?_)
 refine VS [0, 1, 17] ?_
 refine Qai rfl rfl (fun h => by simp at h;omega) (fun h => Qac ?_)
 refine VS [0, 1, 6] ?_
 refine VB ?_
 generalize hu : unS ((Qap s).drop at_) most 0 = u at *
 refine Qaj [0, 1, 6] (fun m e w' => ∃ (k : Nat), Is e [(0, .pointer (some ⟨g, 0, none⟩)), (1, .int .i64 most), (6, .int .i64 k)] /\ Is w' w /\ k <= most /\ at_ + k <= 8 * s.length /\ unS ((Qap s).drop (at_ + k)) most k = u /\ m = 8 * s.length - (at_ + k)) (8 * s.length - at_) ?_ ?_
 ·
  refine Qs ?_
  exact ⟨0, rfl, rfl, by omega, by omega, hu, rfl⟩
 rintro m e w' ⟨k, rfl, rfl, hk, hk2, hk3, rfl⟩
 refine Vq [0, 1, 6, 28] fun K hK => ?_
 (repeat first | refine Qo ?_ | refine Qp ?_ | (refine Gc hH ?_;(try refine Qs ?_)))
 apply hK;clear hK
 refine VD (fun h => ?_) (fun h => ?_)
 ·
  refine Qac ?_
  refine VB ?_
  have hdr := drop_getD false (l := Qap s) (i := at_ + k) (by omega)
  rw [hdr] at hk3
  have hbd := Qyf s gs (at_ + k) w' (by omega) (by omega) (Qaf (hH.at 1 rfl) rfl)
  rw [Int.natCast_add] at hbd
  refine VL [0, 1, 6, 42] 10 fun K hK => ?_
  (repeat first | refine Qo ?_ | refine Qp ?_ | (refine Gc hH ?_;(try refine Qs ?_)))
  refine Qbg ?_;refine Qs ?_;refine FnK.mk Tryz.call137 hbd ?_
  rintro v w3 ⟨rfl, rfl⟩
  refine Qs ?_
  apply hK;clear hK
  generalize (Qap s).getD (at_ + k) false = b at *
  cases b with
  | false =>
   refine Qai rfl rfl (fun h => ?_) (fun h => by simp at h)
   rw [unS] at hk3
   subst hk3
   refine VQ [6] fun K hK => ?_
   (repeat first | refine Qo ?_ | refine Qp ?_ | (refine Gc hH ?_;(try refine Qs ?_)))
   refine Qab ?_;refine Qs ?_;refine Qae hH 0 (vs := [.int .i64 (at_ + k + 1 : Nat)]) rfl rfl (by kernel_rfl) (by first | decide | (simp;done) | (simp;omega)) (by simp [Value.oneCell']) fun w6 hH2 => ?_;(try refine Qs ?_)
   apply hK;clear hK
   refine VS [4, 5] ?_
   exact Qah (Qa4 rfl rfl rfl ⟨rfl, .inr ⟨rfl, by simp only;omega, hk, hH2.pair⟩⟩)
  | true =>
   refine Qai rfl rfl (fun h => by simp at h) (fun h => Qac ?_)
   rw [unS] at hk3
   refine VS [0, 1, 6, 55] ?_
   refine VD (fun h => ?_) (fun h => Qac ?_)
   ·
    rw [if_pos (by omega)] at hk3
    subst hk3
    refine VS [4, 5] ?_
    exact Qah (Qa4 rfl rfl rfl ⟨rfl, .inl ⟨by simp, rfl⟩⟩)
   rw [if_neg (by omega)] at hk3
   refine Qar ?_
   refine VS [0, 1, 6] ?_
   refine Qad ?_
   refine Qs ?_
   exact ⟨8 * s.length - (at_ + (k + 1)), by omega, k + 1, rfl, rfl, by omega, by omega, hk3, rfl⟩
 ·
  refine Qak rfl ?_
  rw [List.drop_of_length_le (by omega), unS] at hk3
  subst hk3
  refine VS [4, 5] ?_
  exact Qah (Qa4 rfl rfl rfl ⟨rfl, .inl ⟨by simp, rfl⟩⟩)
def Qa7 (l : List Bool) : List Value := [Str (Qbv l), .int .i64 l.length]
def Qkl (l : List Bool) : Value := .agg (Qa7 l).toArray
theorem QC7 (l : List Bool) (h : l.length % 8 ≠ 0) : ((Qbv l).getD ((Qbv l).length - 1) 0).toNat * 2 ^ (l.length % 8) % 256 = 0 := by
 have e : l = l.take (8 * (l.length / 8)) ++ l.drop (8 * (l.length / 8)) := (List.take_append_drop _ _).symm
 have h1 : (l.take (8 * (l.length / 8))).length % 8 = 0 := by rw [List.length_take];omega
 have h2 : (l.drop (8 * (l.length / 8))).length = l.length % 8 := by rw [List.length_drop];omega
 have h3 : Qbv l = Qbv (l.take (8 * (l.length / 8))) ++ Qbv (l.drop (8 * (l.length / 8))) := by
  conv => lhs;rw [e]
  exact Qkk _ _ h1
 generalize l.drop (8 * (l.length / 8)) = m at *
 generalize l.take (8 * (l.length / 8)) = q at *
 have h4 : (Qbv m).length = 1 := by rw [Qce, h2];omega
 have h5 := Qdy m
 match hm : Qbv m, h4 with
 | [x], _ =>
  rw [h3, hm]
  have : ((Qbv q ++ [x]).getD ((Qbv q ++ [x]).length - 1) 0) = x := by simp [List.getD_eq_getElem?_getD]
  rw [this]
  rw [hm, Qew, Qlj, List.append_nil] at h5
  have h6 := congrArg numB h5
  rw [Qef, Qn1, List.length_replicate] at h6
  have hz : numB (List.replicate (8 * ((m.length + 7) / 8) - m.length) false) = 0 := by
   rw [<- Qll, Qef, Nat.zero_mod]
  rw [hz, h2, Nat.mod_eq_of_lt x.toNat_lt, Nat.add_zero, show 8 * ((l.length % 8 + 7) / 8) - l.length % 8 = 8 - l.length % 8 by omega] at h6
  rw [h6, Nat.mul_assoc, <- Nat.pow_add, show 8 - l.length % 8 + l.length % 8 = 8 by omega]
  exact Nat.mul_mod_left _ _
theorem QGt (l : List Bool) (w : World) (hl : l.length <= 1000000000000000000) : Does Tryz.prog 85 #[Qkl l] w fun x w' => Heap w [] w' [] /\ x = .bool true := by
 have htl := Qce l
 refine En [Qkl l] 40 Tryz.func85 ?_
 refine VQ [1] fun K hK => ?_
 refine Qcg ?_
 refine Qs ?_
 have hH := (Heap.start w).box 24 (Qa7 l)
 rw [Qkl]
 refine Qs ?_
 generalize w.alloc (Obj.cells (Qa7 l).toArray 24) = w1 at *
 apply hK;clear hK
 generalize w.heap.size = g at *
 refine VQ [1, 20] fun K hK => ?_
 (repeat first | refine Qo ?_ | refine Qp ?_ | (refine Gc hH ?_;(try refine Qs ?_)))
 suffices out : ∀ b : Bool, (b = true ↔ False) -> K [(1, .pointer (some ⟨g, 0, none⟩)), (20, .bool b)] w1 by
  refine ⟨fun _ => ?_, fun h => absurd h (by omega)⟩
  (repeat first | refine Qo ?_ | refine Qp ?_ | (refine Gc hH ?_;(try refine Qs ?_)))
  exact out _ (by simp;omega)
 intro b hb
 apply hK;clear hK
 refine Qai rfl rfl (fun h => (hb.1 h).elim) (fun h => Qac ?_)
 clear h hb
 refine Vq [2] fun K hK => ?_
 (repeat first | refine Qo ?_ | refine Qp ?_ | (refine Gc hH ?_;(try refine Qs ?_)))
 suffices out : K [(2, .bool true)] by
  refine ⟨fun h => ?_, fun h => ?_⟩
  ·
   have hlb := QC7 l (by omega)
   (repeat first | refine Qo ?_ | refine Qp ?_ | (refine Gc hH ?_;(try refine Qs ?_)))
   have hsh : shN IntKind.u8 (((l.length : Int) % 8) % 18446744073709551616) = l.length % 8 := QAc (by omega) (by simp [IntKind.bits];omega) (by decide)
   rw [hsh, Qm2, show (((Qbv l).getD ((Qbv l).length - 1) 0).toNat * 2 ^ (l.length % 8) : Nat) = _ from rfl]
   have e : ((((Qbv l).getD ((Qbv l).length - 1) 0).toNat * 2 ^ (l.length % 8) : Nat) : Int) % 256 = 0 := by omega
   rw [e]
   exact out
  ·
   exact out
 apply hK;clear hK
 exact Qah (Qat rfl rfl ⟨hH.sub (by simp), rfl⟩)
def Qcu (ls : List (List Bool)) : List Value := ls.flatMap Qa7
theorem Qwx (ls : List (List Bool)) : ∀ (i : Nat) (l : List Bool), ls[i]? = some l -> ∀ j u, (Qa7 l)[j]? = some u -> (Qcu ls)[i * 2 + j]? = some u := by
 induction ls with
 | nil => intro i l h;simp at h
 | cons x ls ih =>
  intro i l h j u hu
  have hj : j < 2 := by have := (List.getElem?_eq_some_iff.1 hu).1;simpa [Qa7] using this
  cases i with
  | zero =>
   simp at h;subst h
   simp only [Qcu, List.flatMap_cons]
   rw [List.getElem?_append_left (by simp [Qa7];omega)]
   simpa using hu
  | succ i =>
   have := ih i l (by simpa using h) j u hu
   simp only [Qcu, List.flatMap_cons] at this ⊢
   rw [List.getElem?_append_right (by simp [Qa7];omega)]
   rw [<- this]
   congr 1
   simp [Qa7];omega
theorem Qn5 (ls : List (List Bool)) (p : Addr) (hp : p.spot = none) (cap : Nat) (w : World) (hl : RS w (some p) ls.length 2 (Qcu ls)) (hs : ls.flatten.length <= 10000000000000) (hls : ls.length <= 1000000000) :
  Does Tryz.prog 42 #[.slice (some p) ls.length cap] w fun x w' => Heap w [] w' [] /\ x = .tuple #[Qkl ls.flatten, .int .i64 0] := by
 refine En [.slice (some p) ls.length cap] 43 Tryz.func42 ?_
 refine VQ [0, 2] fun K hK => ?_
 refine Qal (.agg #[.string ⟨#[]⟩, .int .i64 0]) (by kernel_rfl) ?_
 refine Qs ?_
 have hH := (Heap.start w).box 24 [.string ⟨#[]⟩, .int .i64 0]
 generalize w.alloc (Obj.cells [Value.string ⟨#[]⟩, .int .i64 0].toArray 24) = w1 at *
 generalize w.heap.size = gr at *
 apply hK;clear hK
 refine VQ [0, 2, 4] fun K hK => ?_
 refine Qaa Tryz.call35 ?_;refine Qs ?_;refine CallK.mk (Qc7 w1) ?_
 rintro v w2 ⟨gw, hH2, rfl⟩
 apply hK;clear hK
 have hH3 := hH.call0 hH2
 clear hH hH2
 refine VS [2, 4, 11, 12, 13] ?_
 refine VB ?_
 refine Qaj [2, 4, 11, 12, 13] (fun m e w' => ∃ (i : Nat) (a : Option Addr) (c : Nat), Is e [(2, .pointer (some ⟨gr, 0, none⟩)), (4, .pointer (some ⟨gw, 0, none⟩)), (11, .slice (some p) ls.length cap), (12, .int .i64 ls.length), (13, .int .i64 i)] /\ Heap w [] w' [wr gw a c (ls.take i).flatten, Res.blk gr 24 [.string ⟨#[]⟩, .int .i64 0]] /\ i <= ls.length /\ m = ls.length - i) ls.length ?_ ?_
 ·
  refine Qs ?_
  exact ⟨0, none, 0, rfl, hH3, by omega, rfl⟩
 clear hH3
 rintro m e w' ⟨i, a, c, rfl, hH, hi, rfl⟩
 refine VS [2, 4, 11, 12, 13, 14] ?_
 (repeat refine Qaw ?_)
 refine VD (fun h => ?_) (fun h => ?_)
 ·
  refine Qac ?_
  refine VB ?_
  have hi' : i < ls.length := by omega
  have hli : ls[i]? = some ls[i] := List.getElem?_eq_getElem hi'
  have htk : (ls.take (i + 1)).flatten = (ls.take i).flatten ++ ls[i] := by rw [List.take_add_one, hli, Option.toList_some, List.flatten_append, List.flatten_singleton]
  have hfl : (ls.take (i + 1)).flatten.length <= ls.flatten.length := by
   have : ls.flatten = (ls.take (i + 1)).flatten ++ (ls.drop (i + 1)).flatten := by rw [<- List.flatten_append, List.take_append_drop]
   rw [this];simp
  rw [htk, List.length_append] at hfl
  generalize hlx : ls[i] = l at *
  generalize (ls.take i).flatten = acc at *
  have htl := Qce l
  have hrd := QCw (hH.rs' hl) hp (i * 2) (Qa7 l) (fun j u hu => Qwx ls i l hli j u hu)
  refine VQ [2, 4, 6, 11, 12, 13] fun K hK => ?_
  refine ⟨⟨by omega, by omega⟩, Qa7 l, ⟨rfl, hrd⟩, ?_⟩
  refine Qal (.agg #[.string ⟨#[]⟩, .int .i64 0]) (by kernel_rfl) ?_
  refine Qs ?_
  have hH1 := hH.box 24 [.string ⟨#[]⟩, .int .i64 0]
  generalize w'.alloc (Obj.cells [Value.string ⟨#[]⟩, .int .i64 0].toArray 24) = w1 at *
  generalize w'.heap.size = gb at *
  refine Qab ?_
  refine Qs ?_
  refine Qae hH1 0 (vs := Qa7 l) rfl rfl (by kernel_rfl) (by simp [Qa7]) (by simp [Qa7, Value.oneCell']) fun w2 hH2 => ?_
  have hH2 : Heap w [] w2 [Res.blk gb 24 (Qa7 l), wr gw a c acc, Res.blk gr 24 [.string ⟨#[]⟩, .int .i64 0]] := hH2
  clear hH1 hH
  apply hK;clear hK
  refine VQ [2, 4, 6, 11, 12, 13, 19] fun K hK => ?_
  refine ⟨Qa7 l, ⟨rfl, Qa1 (hH2.at 0 rfl)⟩, ?_⟩
  refine Qaa Tryz.call85 ?_;refine Qs ?_;refine CallK.mk (QGt l w2 (by omega)) ?_
  rintro v w3 ⟨hHm, rfl⟩
  refine Qs ?_
  apply hK;clear hK
  have hH3 := hH2.call0 hHm
  clear hH2 hHm
  refine Qai rfl rfl (fun h => by simp at h) (fun h => Qac ?_)
  refine VQ [2, 4, 6, 7, 11, 12, 13] fun K hK => ?_
  (repeat first | refine Qo ?_ | refine Qp ?_ | (refine Gc hH3 ?_;(try refine Qs ?_)))
  refine Qaa Tryz.call86 ?_;refine Qs ?_;refine CallK.mk (Qc8 (Qbv l) 0 w3 (I64.mk (by omega) (by omega)) (by omega)) ?_
  rintro v w4 (⟨hbad, _⟩ | ⟨_, grd, gs, hHr, rfl⟩)
  ·
   exact absurd hbad (by omega)
  apply hK;clear hK
  have hH4 := hH3.call0 hHr
  clear hH3 hHr
  refine VQ [2, 4, 7, 11, 12, 13, 25, 26] fun K hK => ?_
  (repeat first | refine Qo ?_ | refine Qp ?_ | (refine Gc hH4 ?_;(try refine Qs ?_)))
  apply hK;clear hK
  have hH5 : Heap w [] w4 [rd grd gs (Qbv l) 0, wr gw a c acc, Res.blk gr 24 [.string ⟨#[]⟩, .int .i64 0]] := hH4.sub (by simp)
  clear hH4
  refine VB ?_
  refine Qaj [2, 4, 7, 11, 12, 13, 25, 26] (fun m e w' => ∃ (k : Nat) (a : Option Addr) (c : Nat), Is e [(2, .pointer (some ⟨gr, 0, none⟩)), (4, .pointer (some ⟨gw, 0, none⟩)), (7, .pointer (some ⟨grd, 0, none⟩)), (11, .slice (some p) ls.length cap), (12, .int .i64 ls.length), (13, .int .i64 i), (25, .int .i64 l.length), (26, .int .i64 k)] /\ Heap w [] w' [rd grd gs (Qbv l) k, wr gw a c (acc ++ l.take k), Res.blk gr 24 [.string ⟨#[]⟩, .int .i64 0]] /\ k <= l.length /\ m = l.length - k) l.length ?_ ?_
  ·
   refine Qs ?_
   exact ⟨0, a, c, rfl, by simpa using hH5, by omega, rfl⟩
  clear hH5
  rintro m e w5 ⟨k, a1, c1, rfl, hH, hk, rfl⟩
  refine VS [2, 4, 7, 11, 12, 13, 25, 26, 27] ?_
  (repeat refine Qaw ?_)
  refine VD (fun h => ?_) (fun h => ?_)
  ·
   refine Qac ?_
   refine VB ?_
   have htb : (Qap (Qbv l)).getD k false = l.getD k false := by
    rw [Qdy, List.getD_eq_getElem?_getD, List.getElem?_append_left (by omega), List.getD_eq_getElem?_getD]
   have hbl := Qax (Qbv l)
   have hnum : numB (((Qap (Qbv l)).drop k).take 1) = (l.getD k false).toNat := by
    rw [drop_getD false (by omega), htb];cases l.getD k false <;> rfl
   refine VQ [2, 4, 7, 8, 11, 12, 13, 25, 26] fun K hK => ?_
   refine Qaa Tryz.call87 ?_;refine Qs ?_;refine CallK.mk (Qeh grd gs (Qbv l) k 1 w5 (by omega) (by omega) (by omega) (hH.focus 0 rfl)) ?_
   rintro v w6 (⟨hbad, _⟩ | ⟨_, hHr, rfl⟩)
   ·
    exact absurd hbad (by omega)
   rw [hnum]
   apply hK;clear hK
   have hH2 := hH.call1 0 rfl hHr
   clear hHr hH
   have htl2 := Qce (acc ++ l.take k)
   have hbt : (l.getD k false).toNat < 2 ^ 1 := by cases l.getD k false <;> simp
   refine VQ [2, 4, 7, 11, 12, 13, 25, 26] fun K hK => ?_
   refine Qaa Tryz.call36 ?_;refine Qs ?_;refine CallK.mk (Qcv gw a1 c1 (acc ++ l.take k) (l.getD k false).toNat 1 w6 (by omega) hbt (by simp;omega) (hH2.focus 1 rfl)) ?_
   rintro v w7 ⟨a2, c2, hHw, rfl⟩
   apply hK;clear hK
   have hH3 := hH2.call1 1 rfl hHw
   clear hHw hH2
   have hb1 : Qbc 1 (l.getD k false).toNat = [l.getD k false] := by cases l.getD k false <;> rfl
   rw [hb1, List.append_assoc, <- Qds false (show k < l.length by omega)] at hH3
   refine Qar ?_
   refine VS [2, 4, 7, 11, 12, 13, 25, 26] ?_
   refine Qad ?_
   refine Qs ?_
   exact ⟨l.length - (k + 1), by omega, k + 1, a2, c2, rfl, hH3, by omega, rfl⟩
  ·
   refine Qak rfl ?_
   refine Qar ?_
   refine VS [2, 4, 11, 12, 13] ?_
   refine Qad ?_
   refine Qs ?_
   rw [List.take_of_length_le (by omega), <- htk] at hH
   exact ⟨ls.length - (i + 1), by omega, i + 1, a1, c1, rfl, hH.sub (by simp), by omega, rfl⟩
 ·
  refine Qak rfl ?_
  rw [List.take_of_length_le (by omega)] at hH
  refine VQ [2, 3] fun K hK => ?_
  refine Qaa Tryz.call37 ?_;refine Qs ?_;refine CallK.mk (Qfv gw a c _ w' (hH.at 0 rfl)) ?_
  rintro v w2 ⟨rfl, rfl⟩
  refine Qaa Tryz.call38 ?_;refine Qs ?_;refine CallK.mk (Qf4 gw a c _ w2 (hH.at 0 rfl)) ?_
  rintro v w3 ⟨rfl, rfl⟩
  refine Qs ?_
  refine Qab ?_
  refine Qs ?_
  refine Qae hH 1 (vs := Qa7 ls.flatten) rfl rfl (by kernel_rfl) (by simp [Qa7]) (by simp [Qa7, Value.oneCell']) fun w4 hH2 => ?_
  have hH2 : Heap w [] w4 [wr gw a c ls.flatten, Res.blk gr 24 (Qa7 ls.flatten)] := hH2
  apply hK;clear hK
  refine Qah (Qeq rfl rfl rfl (Qbu (hH2.at 1 rfl) (by kernel_rfl) (by kernel_rfl) rfl ?_))
  exact ⟨hH2.sub (by simp), rfl⟩
set_option maxHeartbeats 4000000
theorem Qt4 (n : Int) (w : World) (hn : 0 <= n /\ n <= 9) :
  Does Tryz.prog 61 #[.int .i64 n] w fun v w' => w' = w /\ v = .int .i64 (min (n * 100000) 262144) := by
 refine En [.int .i64 n] 6 Tryz.func61 ?_
 refine VS [0] ?_
 refine VS [2] ?_
 exact Qah (Qat rfl rfl ⟨rfl, rfl⟩)
def badT (i : Nat) (c : UInt8) : Prop := (i < 3 /\ c.toNat ≠ (([66, 90, 104] : List UInt8).getD i 0).toNat) ∨ (i = 3 /\ (c.toNat < 49 ∨ 57 < c.toNat))
instance (i : Nat) (c : UInt8) : Decidable (badT i c) := by unfold badT;infer_instance
def hdT (s : List UInt8) (a : Nat) : Nat -> Nat -> Nat × Nat
 | _, 0 => ((s.getD (a + 3) 0).toNat - 48, 0)
 | i, k + 1 => if s.length <= a + i then (0, 10) else if badT i (s.getD (a + i) 0) then (0, 130) else hdT s a (i + 1) k
theorem QC8 (s : List UInt8) (a : Nat) (w : World) (ha : a <= s.length) (hs : s.length <= 100000000000000) :
  Does Tryz.prog 68 #[Str s, .int .i64 a] w fun v w' => w' = w /\ v = .tuple #[.int .i64 (hdT s a 0 4).1, .int .i64 (hdT s a 0 4).2] := by
 generalize hres : hdT s a 0 4 = res
 refine En [Str s, .int .i64 a] 49 Tryz.func68 ?_
 refine VS [0, 1] ?_
 refine VS [0, 1, 8] ?_
 refine Qag ?_
 refine Qaj [0, 1, 8] (fun m e w' => ∃ (i : Nat), Is e [(0, Str s), (1, .int .i64 a), (8, .int .i64 i)] /\ Is w' w /\ i <= 4 /\ hdT s a i (4 - i) = res /\ (0 < i -> a + i <= s.length) /\ (i = 4 -> 49 <= (s.getD (a + 3) 0).toNat /\ (s.getD (a + 3) 0).toNat <= 57) /\ m = 4 - i) 4 ?_ ?_
 ·
  refine Qs ?_
  exact ⟨0, rfl, rfl, by omega, hres, by omega, by omega, rfl⟩
 rintro m e w' ⟨i, rfl, rfl, hi, hr, hle, hlv, rfl⟩
 refine VS [0, 1, 8, 9] ?_
 (repeat refine Qaw ?_)
 refine VD (fun h => ?_) (fun h => ?_)
 ·
  refine Qac ?_
  refine VB ?_
  obtain ⟨j, hj⟩ : ∃ j, 4 - i = j + 1 := ⟨3 - i, by omega⟩
  rw [hj, hdT] at hr
  refine VS [0, 1, 6, 8] ?_
  refine VS [0, 1, 6, 8, 16] ?_
  refine VD (fun h => ?_) (fun h => Qac ?_)
  ·
   rw [if_pos (by omega)] at hr
   subst hr
   refine VS [4, 5] ?_
   exact Qah (Qa4 rfl rfl rfl ⟨rfl, rfl⟩)
  rw [if_neg (by omega)] at hr
  refine VS [0, 1, 6, 7, 8] ?_
  generalize hc : s.getD (a + i) 0 = c at *
  refine VQ [0, 1, 8, 41] fun K hK => ?_
  suffices out : ∀ b : Bool, (b = true ↔ badT i c) -> K [(0, Str s), (1, .int .i64 a), (8, .int .i64 i), (41, .bool b)] w' by
   unfold badT at out
   generalize hz : (([66, 90, 104] : List UInt8).getD i 0).toNat = z at *
   refine ⟨fun h => ⟨⟨by omega, by simp only [List.length_cons, List.length_nil];omega⟩, fun h2 => ⟨fun h3 => by omega, fun _ => out _ (iff_of_false (by simp) (by omega))⟩, fun h2 => out _ (iff_of_true rfl (by omega))⟩, fun h => ⟨fun h3 => ⟨fun h4 => out _ ?_, fun h4 => out _ (iff_of_true rfl (by omega))⟩, fun h3 => out _ (iff_of_false (by simp) (by omega))⟩⟩
   rw [decide_eq_true_eq]
   omega
  intro b hb
  apply hK;clear hK
  refine Vi (fun h => ?_) (fun h => Qac ?_)
  ·
   rw [if_pos (hb.1 h)] at hr
   subst hr
   refine VS [4, 5] ?_
   exact Qah (Qa4 rfl rfl rfl ⟨rfl, rfl⟩)
  have hnb : ¬ badT i c := fun h' => by rw [hb.2 h'] at h;cases h
  rw [if_neg hnb] at hr
  refine Qar ?_
  refine VS [0, 1, 8] ?_
  refine Qad ?_
  refine Qs ?_
  refine ⟨4 - (i + 1), by omega, i + 1, rfl, rfl, by omega, ?_, by omega, ?_, rfl⟩
  ·
   rw [show 4 - (i + 1) = j by omega];exact hr
  ·
   intro h4
   obtain rfl : i = 3 := by omega
   rw [hc]
   unfold badT at hnb
   omega
 obtain rfl : i = 4 := by omega
 have h1 := hle (by omega)
 have h2 := hlv rfl
 rw [show 4 - 4 = 0 from rfl, hdT] at hr
 subst hr
 refine Qak rfl ?_
 refine VS [4, 5] ?_
 rw [show (((s.getD (a + 3) 0).toNat : Int) - 48) % 256 = (((s.getD (a + 3) 0).toNat - 48 : Nat) : Int) by omega]
 exact Qah (Qa4 rfl rfl rfl ⟨rfl, rfl⟩)
theorem Qn6 (s : List UInt8) (a n : Nat) (w : World) (ha : a <= 8 * s.length) (hs : s.length <= 100000000000000) (hn : n <= 60) :
  Does Tryz.prog 69 #[Str s, .int .i64 a, .int .i64 n] w fun v w' => Heap w [] w' [] /\
   v = if 8 * s.length < a + n then .tuple #[.int .u64 0, .int .i64 10] else .tuple #[.int .u64 (numB (((Qap s).drop a).take n)), .int .i64 0] := by
 refine En [Str s, .int .i64 a, .int .i64 n] 17 Tryz.func69 ?_
 refine VS [0, 1, 2] ?_
 refine VQ [2, 8] fun K hK => ?_
 refine Qaa Tryz.call86 ?_;refine Qs ?_;refine CallK.mk (Qc8 s a w (I64.mk (by omega) (by omega)) (by omega)) ?_
 rintro v w2 (⟨hbad, _⟩ | ⟨_, gr, gs, hH, rfl⟩)
 ·
  omega
 rw [Int.toNat_natCast] at hH
 (try refine Qs ?_)
 apply hK;clear hK
 refine VQ [6, 7] fun K hK => ?_
 refine Qaa Tryz.call87 ?_;refine Qs ?_;refine CallK.mk (Qeh gr gs s a n w2 (by omega) (by omega) (by omega) (hH.focus 0 rfl)) ?_
 rintro v w3 (⟨h1, rfl, rfl⟩ | ⟨h1, hH2, rfl⟩)
 ·
  (try refine Qs ?_)
  apply hK;clear hK
  exact Qah (Qa4 rfl rfl rfl ⟨hH.sub (by simp), by rw [if_pos h1];rfl⟩)
 have hH3 := hH.call1 0 rfl hH2
 (try refine Qs ?_)
 apply hK;clear hK
 exact Qah (Qa4 rfl rfl rfl ⟨hH3.sub (by simp), by rw [if_neg (by omega)];rfl⟩)
def Qkm (ws ov : List Nat) : Nat -> Option Nat
 | 0 => none
 | n + 1 => match Qkm ws ov n with
  | none => if ov.getD n 0 = 0 then some n else none
  | some a => if ov.getD n 0 = 0 /\ ws.getD n 0 < ws.getD a 0 then some n else some a
def Qd8 (ws ov : List Nat) : Nat := (Qkm ws ov ws.length).getD 0
def Qht (s : List Nat × List Nat) : List Nat × List Nat :=
 let next := s.1.length
 let a := Qd8 s.1 s.2
 let ov1 := s.2.set a next
 let b := Qd8 s.1 ov1
 (s.1 ++ [s.1.getD a 0 + s.1.getD b 0], ov1.set b next ++ [0])
def Qrn : Nat -> List Nat × List Nat -> List Nat × List Nat
 | 0, s => s
 | k + 1, s => Qht (Qrn k s)
def Qbx (ov : List Nat) : Nat -> Nat -> Nat
 | 0, _ => 0
 | f + 1, i => if ov.getD i 0 = 0 then 0 else Qbx ov f (ov.getD i 0) + 1
def Qt5 (w : List Nat) : List Nat := (Qrn (w.length - 1) (w, List.replicate w.length 0)).2
def Qfk (w : List Nat) : List Nat := (List.range w.length).map fun i => Qbx (Qt5 w) (2 * w.length) i
def maxL (l : List Nat) : Nat := l.foldl max 0
def Qn7 (most : Nat) : Nat -> List Nat -> List Nat
 | 0, own => Qfk own
 | f + 1, own => if maxL (Qfk own) <= most then Qfk own else Qn7 most f (own.map fun x => x / 2 + 1)
structure IsLeast (ws ov : List Nat) (a : Nat) : Prop where
 lt : a < ws.length
 free : ov.getD a 0 = 0
 le : ∀ i, i < ws.length -> ov.getD i 0 = 0 -> ws.getD a 0 < ws.getD i 0 ∨ (ws.getD a 0 = ws.getD i 0 /\ a <= i)
theorem IsLeast.unique {ws ov : List Nat} {a b : Nat} (h : IsLeast ws ov a) (k : IsLeast ws ov b) : a = b := by
 have h1 := h.le b k.lt k.free
 have h2 := k.le a h.lt h.free
 omega
theorem Qju (ws ov : List Nat) : ∀ n, Qkm ws ov n = none -> ∀ i, i < n -> ov.getD i 0 ≠ 0
 | 0, _, i, h => by omega
 | n + 1, h, i, hi => by
  rw [Qkm] at h
  cases hl : Qkm ws ov n with
  | none =>
   rw [hl] at h
   simp only at h
   split at h
   ·
    cases h
   ·
    rename_i h0
    rcases Nat.lt_or_ge i n with h2 | h2
    ·
     exact Qju ws ov n hl i h2
    ·
     rw [show i = n by omega];exact h0
  | some a => rw [hl] at h;simp only at h;split at h <;> cases h
theorem Qn8 (ws ov : List Nat) : ∀ n a, Qkm ws ov n = some a -> a < n /\ ov.getD a 0 = 0 /\ ∀ i, i < n -> ov.getD i 0 = 0 -> ws.getD a 0 < ws.getD i 0 ∨ (ws.getD a 0 = ws.getD i 0 /\ a <= i)
 | 0, a, h => by cases h
 | n + 1, a, h => by
  rw [Qkm] at h
  cases hl : Qkm ws ov n with
  | none =>
   rw [hl] at h
   simp only at h
   have hn := Qju ws ov n hl
   split at h
   ·
    rename_i h0
    cases h
    refine ⟨by omega, h0, fun i hi hf => ?_⟩
    rcases Nat.lt_or_ge i n with h2 | h2
    ·
     exact absurd hf (hn i h2)
    ·
     right;rw [show i = n by omega];exact ⟨rfl, Nat.le_refl _⟩
   ·
    cases h
  | some b =>
   rw [hl] at h
   simp only at h
   obtain ⟨h1, h2, h3⟩ := Qn8 ws ov n b hl
   split at h
   ·
    rename_i h0
    cases h
    refine ⟨by omega, h0.1, fun i hi hf => ?_⟩
    rcases Nat.lt_or_ge i n with h4 | h4
    ·
     have := h3 i h4 hf;omega
    ·
     right;rw [show i = n by omega];exact ⟨rfl, Nat.le_refl _⟩
   ·
    rename_i h0
    cases h
    refine ⟨by omega, h2, fun i hi hf => ?_⟩
    rcases Nat.lt_or_ge i n with h4 | h4
    ·
     exact h3 i h4 hf
    ·
     obtain rfl : i = n := by omega
     rcases Nat.lt_or_ge (ws.getD i 0) (ws.getD a 0) with h5 | h5
     ·
      exact absurd ⟨hf, h5⟩ h0
     ·
      omega
theorem Qt6 {ws ov : List Nat} {i : Nat} (hi : i < ws.length) (hf : ov.getD i 0 = 0) : IsLeast ws ov (Qd8 ws ov) := by
 unfold Qd8
 cases hl : Qkm ws ov ws.length with
 | none => exact absurd hf (Qju ws ov _ hl i hi)
 | some a =>
  obtain ⟨h1, h2, h3⟩ := Qn8 ws ov _ a hl
  exact ⟨h1, h2, h3⟩
def Qbo (f : Nat -> Nat) : Nat -> Nat
 | 0 => 0
 | n + 1 => Qbo f n + f n
theorem Qcn {f g : Nat -> Nat} : ∀ n, (∀ i, i < n -> f i = g i) -> Qbo f n = Qbo g n
 | 0, _ => rfl
 | n + 1, h => by rw [Qbo, Qbo, Qcn n fun i hi => h i (by omega), h n (by omega)]
theorem Qis (f g : Nat -> Nat) : ∀ n, Qbo (fun i => f i + g i) n = Qbo f n + Qbo g n
 | 0 => rfl
 | n + 1 => by rw [Qbo, Qbo, Qbo, Qis f g n];omega
theorem Qhe (a c : Nat) : ∀ n, Qbo (fun i => if i = a then c else 0) n = if a < n then c else 0
 | 0 => by simp [Qbo]
 | n + 1 => by
  rw [Qbo, Qhe a c n]
  by_cases h1 : a < n
  ·
   rw [if_pos h1, if_neg (by omega), if_pos (by omega)];rfl
  ·
   by_cases h2 : n = a
   ·
    subst h2;simp
   ·
    rw [if_neg h1, if_neg h2, if_neg (by omega)]
theorem Qm7 (f : Nat -> Nat) : ∀ n i, i < n -> f i <= Qbo f n
 | 0, i, h => by omega
 | n + 1, i, h => by
  rw [Qbo]
  rcases Nat.lt_or_ge i n with h1 | h1
  ·
   have := Qm7 f n i h1;omega
  ·
   rw [show i = n by omega];omega
theorem Qro (f : Nat -> Nat) (c : Nat) : ∀ n, (∀ i, i < n -> f i <= c) -> Qbo f n <= n * c
 | 0, _ => by simp [Qbo]
 | n + 1, h => by
  rw [Qbo, Nat.succ_mul]
  have h1 := Qro f c n fun i hi => h i (by omega)
  have h2 := h n (by omega)
  omega
theorem QC9 {f : Nat -> Nat} {n a b : Nat} (ha : a < n) (hb : b < n) (hab : a ≠ b) : f a + f b <= Qbo f n := by
 have e : Qbo f n = Qbo (fun i => if i = a then f a else 0) n + Qbo (fun i => if i = a then 0 else f i) n := by
  rw [<- Qis];exact Qcn n fun i _ => by split <;> simp_all
 have h2 := Qm7 (fun i => if i = a then 0 else f i) n b hb
 simp only [if_neg (Ne.symm hab)] at h2
 rw [e, Qhe, if_pos ha];omega
theorem Qit {f : Nat -> Nat} {n a b : Nat} (ha : a < n) (hb : b < n) (hab : a ≠ b) : Qbo (fun i => if i = a ∨ i = b then 0 else f i) n + (f a + f b) = Qbo f n := by
 have e : Qbo f n = Qbo (fun i => if i = a ∨ i = b then 0 else f i) n + (Qbo (fun i => if i = a then f a else 0) n + Qbo (fun i => if i = b then f b else 0) n) := by
  rw [<- Qis, <- Qis]
  refine Qcn n fun i _ => ?_
  by_cases h1 : i = a
  ·
   subst h1;simp [hab]
  ·
   by_cases h2 : i = b
   ·
    subst h2;simp [h1]
   ·
    simp [h1, h2]
 rw [e, Qhe, Qhe, if_pos ha, if_pos hb]
def fib : Nat -> Nat
 | 0 => 0
 | 1 => 1
 | n + 2 => fib (n + 1) + fib n
theorem Qrp : ∀ n, fib n <= fib (n + 1)
 | 0 => by decide
 | n + 1 => by rw [fib];omega
theorem Qyg {m n : Nat} (h : m <= n) : fib m <= fib n := by
 induction n with
 | zero => rw [show m = 0 by omega];exact Nat.le_refl _
 | succ n ih =>
  rcases Nat.lt_or_ge m (n + 1) with h1 | h1
  ·
   exact Nat.le_trans (ih (by omega)) (Qrp n)
  ·
   rw [show m = n + 1 by omega];exact Nat.le_refl _
structure Grown (w : List Nat) (k : Nat) (ws ov : List Nat) (h : Nat -> Nat) : Prop where
 lws : ws.length = w.length + k
 lov : ov.length = w.length + k
 up : ∀ i, i < w.length + k -> ov.getD i 0 = 0 ∨ (i < ov.getD i 0 /\ w.length <= ov.getD i 0 /\ ov.getD i 0 < w.length + k)
 roots : Qbo (fun i => if ov.getD i 0 = 0 then 1 else 0) (w.length + k) + k = w.length
 weight : Qbo (fun i => if ov.getD i 0 = 0 then ws.getD i 0 else 0) (w.length + k) = Qbo (fun i => w.getD i 0) w.length
 two : ∀ j, w.length <= j -> j < w.length + k -> ∃ a b, a < j /\ b < j /\ a ≠ b /\ ov.getD a 0 = j /\ ov.getD b 0 = j /\ ∀ i, ov.getD i 0 = j -> i = a ∨ i = b
 hup : ∀ i, i < w.length + k -> ov.getD i 0 ≠ 0 -> h i + 1 <= h (ov.getD i 0)
 hfib : ∀ i, i < w.length + k -> fib (h i + 2) <= ws.getD i 0
 deep : ∀ i, i < w.length + k -> 1 <= h i -> ∃ y, y < w.length + k /\ ov.getD y 0 ≠ 0 /\ fib (h i + 1) <= ws.getD y 0
 order : ∀ y r, y < w.length + k -> r < w.length + k -> ov.getD y 0 ≠ 0 -> ov.getD r 0 = 0 -> ws.getD y 0 <= ws.getD r 0
theorem Qdj (n i : Nat) : (List.replicate n (0 : Nat)).getD i 0 = 0 := by
 rw [List.getD_eq_getElem?_getD, List.getElem?_replicate];split <;> rfl
theorem Grown.start (w : List Nat) (h2 : 1 <= w.length) (h1 : ∀ i, i < w.length -> 1 <= w.getD i 0) : Grown w 0 w (List.replicate w.length 0) (fun _ => 0) where
 lws := rfl
 lov := by simp
 up i _ := .inl (Qdj _ _)
 roots := by
  have : Qbo (fun i => if (List.replicate w.length 0).getD i 0 = 0 then 1 else 0) w.length = Qbo (fun _ => 1) w.length := Qcn _ fun i _ => by rw [if_pos (Qdj _ _)]
  have h : ∀ n, Qbo (fun _ => 1) n = n := fun n => by induction n with
   | zero => rfl
   | succ n ih => rw [Qbo, ih]
  rw [Nat.add_zero, Nat.add_zero, this, h]
 weight := Qcn _ fun i _ => by rw [if_pos (Qdj _ _)]
 two j h3 h4 := by omega
 hup i hi h := absurd (Qdj _ _) h
 hfib i hi := by have := h1 i (by simpa using hi);simpa [fib] using this
 deep i hi h := by simp at h
 order y r _ _ h := absurd (Qdj _ _) h
theorem Qc3 {l : List Nat} {i v : Nat} (h : i < l.length) : (l.set i v).getD i 0 = v := by
 rw [List.getD_eq_getElem?_getD, List.getElem?_set_self h];rfl
theorem Qcr {l : List Nat} {i j v : Nat} (h : i ≠ j) : (l.set i v).getD j 0 = l.getD j 0 := by
 rw [List.getD_eq_getElem?_getD, List.getElem?_set_ne h, List.getD_eq_getElem?_getD]
theorem Qco {l m : List Nat} {i : Nat} (h : i < l.length) : (l ++ m).getD i 0 = l.getD i 0 := by
 rw [List.getD_eq_getElem?_getD, List.getElem?_append_left h, List.getD_eq_getElem?_getD]
theorem Qiu {l : List Nat} {x : Nat} : (l ++ [x]).getD l.length 0 = x := by
 rw [List.getD_eq_getElem?_getD, List.getElem?_append_right (Nat.le_refl _), Nat.sub_self];rfl
theorem Qjv {l : List Nat} {i : Nat} (h : l.length <= i) : l.getD i 0 = 0 := by
 rw [List.getD_eq_getElem?_getD, List.getElem?_eq_none h];rfl
theorem Qjw {ov : List Nat} : ∀ n, 0 < Qbo (fun i => if ov.getD i 0 = 0 then 1 else 0) n -> ∃ i, i < n /\ ov.getD i 0 = 0
 | 0, h => by simp [Qbo] at h
 | n + 1, h => by
  rw [Qbo] at h
  by_cases h0 : ov.getD n 0 = 0
  ·
   exact ⟨n, by omega, h0⟩
  ·
   rw [if_neg h0] at h
   obtain ⟨i, hi, hf⟩ := Qjw n (by omega)
   exact ⟨i, by omega, hf⟩
theorem Grown.pick {w : List Nat} {k : Nat} {ws ov : List Nat} {h : Nat -> Nat} (g : Grown w k ws ov h) (hk : k + 1 < w.length) :
  IsLeast ws ov (Qd8 ws ov) /\ IsLeast ws (ov.set (Qd8 ws ov) ws.length) (Qd8 ws (ov.set (Qd8 ws ov) ws.length)) /\ Qd8 ws (ov.set (Qd8 ws ov) ws.length) ≠ Qd8 ws ov /\ ov.getD (Qd8 ws (ov.set (Qd8 ws ov) ws.length)) 0 = 0 := by
 have hr := g.roots
 have hlw := g.lws
 have hlo := g.lov
 obtain ⟨i, hi, hf⟩ := Qjw (ov := ov) (w.length + k) (by omega)
 have ha := Qt6 (ws := ws) (ov := ov) (by omega) hf
 generalize Qd8 ws ov = a at *
 have ha1 := ha.lt
 obtain ⟨j, hj, hf2⟩ := Qjw (ov := ov.set a ws.length) (w.length + k) (by
  have e : Qbo (fun i => if (ov.set a ws.length).getD i 0 = 0 then 1 else 0) (w.length + k) + Qbo (fun i => if i = a then 1 else 0) (w.length + k) = Qbo (fun i => if ov.getD i 0 = 0 then 1 else 0) (w.length + k) := by
   rw [<- Qis]
   refine Qcn _ fun i _ => ?_
   by_cases hia : i = a
   ·
    subst hia;rw [Qc3 (by omega), if_neg (by omega), if_pos rfl, if_pos ha.free]
   ·
    rw [Qcr (fun x => hia x.symm), if_neg hia];rfl
  rw [Qhe, if_pos (by omega)] at e
  omega)
 have hb := Qt6 (ws := ws) (ov := ov.set a ws.length) (by omega) hf2
 generalize Qd8 ws (ov.set a ws.length) = b at *
 have hne : b ≠ a := fun e => by
  have := hb.free
  rw [e, Qc3 (by omega)] at this
  omega
 exact ⟨ha, hb, hne, by rw [<- Qcr (v := ws.length) (fun x => hne x.symm)];exact hb.free⟩
theorem Grown.step {w : List Nat} {k : Nat} {ws ov : List Nat} {h : Nat -> Nat} (g : Grown w k ws ov h) (hk : k + 1 < w.length) :
  ∃ h', Grown w (k + 1) (Qht (ws, ov)).1 (Qht (ws, ov)).2 h' := by
 obtain ⟨ha, hb, hne, hbf⟩ := g.pick hk
 unfold Qht
 simp only
 generalize Qd8 ws ov = a at *
 generalize Qd8 ws (ov.set a ws.length) = b at *
 have hlw := g.lws
 have hlo := g.lov
 have ha1 := ha.lt
 have hb1 := hb.lt
 have haf := ha.free
 have hwab : ws.getD a 0 <= ws.getD b 0 := by have := ha.le b hb1 hbf;omega
 have hbl : ∀ i, i < ws.length -> i ≠ a -> ov.getD i 0 = 0 -> ws.getD b 0 <= ws.getD i 0 := fun i hi hia hf => by
  have := hb.le i hi (by rw [Qcr (fun x => hia x.symm)];exact hf)
  omega
 rw [hlw] at hb ha1 hb1 hbl ⊢
 generalize hn : w.length + k = n at *
 have o1 : ∀ i, i < n -> ((ov.set a n).set b n ++ [0]).getD i 0 = if i = a ∨ i = b then n else ov.getD i 0 := fun i hi => by
  rw [Qco (by simp;omega)]
  by_cases e1 : i = b
  ·
   subst e1;rw [Qc3 (by simp;omega), if_pos (.inr rfl)]
  ·
   rw [Qcr (fun x => e1 x.symm)]
   by_cases e2 : i = a
   ·
    subst e2;rw [Qc3 (by omega), if_pos (.inl rfl)]
   ·
    rw [Qcr (fun x => e2 x.symm), if_neg (by simp [e1, e2])]
 have o2 : ((ov.set a n).set b n ++ [0]).getD n 0 = 0 := by
  have := Qiu (l := (ov.set a n).set b n) (x := 0)
  simp [hlo]
 have w1 : ∀ i, i < n -> (ws ++ [ws.getD a 0 + ws.getD b 0]).getD i 0 = ws.getD i 0 := fun i hi => Qco (by omega)
 have w2 : (ws ++ [ws.getD a 0 + ws.getD b 0]).getD n 0 = ws.getD a 0 + ws.getD b 0 := by
  have := Qiu (l := ws) (x := ws.getD a 0 + ws.getD b 0)
  rwa [hlw] at this
 have lo : ((ov.set a n).set b n ++ [0]).length = n + 1 := by simp [hlo]
 have lw : (ws ++ [ws.getD a 0 + ws.getD b 0]).length = n + 1 := by simp [hlw]
 generalize (ov.set a n).set b n ++ [0] = ov' at *
 generalize ws ++ [ws.getD a 0 + ws.getD b 0] = ws' at *
 have hup := g.up
 have hroots := g.roots
 have hweight := g.weight
 have htwo := g.two
 have hhup := g.hup
 have hfib := g.hfib
 have hdeep := g.deep
 have horder := g.order
 rw [hn] at hup hroots hweight htwo hhup hfib hdeep horder
 clear g
 have hnk : n = w.length + k := hn.symm
 refine ⟨fun i => if i = n then max (h a) (h b) + 1 else h i, ?_⟩
 have en : w.length + (k + 1) = n + 1 := by omega
 refine ⟨by rw [lw, en], by rw [lo, en], ?_, ?_, ?_, ?_, ?_, ?_, ?_, ?_⟩
 ·
  intro i hi
  rw [en] at hi ⊢
  by_cases e : i = n
  ·
   subst e;exact .inl o2
  ·
   rw [o1 i (by omega)]
   split
   ·
    right;omega
   ·
    have := hup i (by omega);omega
 ·
  rw [en, Qbo, o2, if_pos rfl]
  have e : Qbo (fun i => if ov'.getD i 0 = 0 then 1 else 0) n = Qbo (fun i => if i = a ∨ i = b then 0 else if ov.getD i 0 = 0 then 1 else 0) n := Qcn n fun i hi => by
   rw [o1 i hi]
   by_cases e : i = a ∨ i = b
   ·
    rw [if_pos e, if_pos e, if_neg (by omega)]
   ·
    rw [if_neg e, if_neg e]
  have e2 := Qit (f := fun i => if ov.getD i 0 = 0 then 1 else 0) ha1 hb1 (Ne.symm hne)
  simp only [if_pos haf, if_pos hbf] at e2
  omega
 ·
  rw [en, Qbo, o2, if_pos rfl, w2]
  have e : Qbo (fun i => if ov'.getD i 0 = 0 then ws'.getD i 0 else 0) n = Qbo (fun i => if i = a ∨ i = b then 0 else if ov.getD i 0 = 0 then ws.getD i 0 else 0) n := Qcn n fun i hi => by
   rw [o1 i hi, w1 i hi]
   by_cases e : i = a ∨ i = b
   ·
    rw [if_pos e, if_pos e, if_neg (by omega)]
   ·
    rw [if_neg e, if_neg e]
  have e2 := Qit (f := fun i => if ov.getD i 0 = 0 then ws.getD i 0 else 0) ha1 hb1 (Ne.symm hne)
  simp only [if_pos haf, if_pos hbf] at e2
  omega
 ·
  intro j hj1 hj2
  rw [en] at hj2
  by_cases e : j = n
  ·
   subst e
   refine ⟨a, b, ha1, hb1, Ne.symm hne, by rw [o1 a ha1, if_pos (.inl rfl)], by rw [o1 b hb1, if_pos (.inr rfl)], fun i hi => ?_⟩
   rcases Nat.lt_or_ge i j with h1 | h1
   ·
    rw [o1 i h1] at hi
    split at hi
    ·
     assumption
    ·
     have := hup i h1;omega
   ·
    rcases Nat.lt_or_ge i (j + 1) with h2 | h2
    ·
     rw [show i = j by omega, o2] at hi;omega
    ·
     rw [Qjv (by omega)] at hi;omega
  ·
   obtain ⟨x, y, hx, hy, hxy, hox, hoy, hall⟩ := htwo j hj1 (by omega)
   have hxa : ¬ (x = a ∨ x = b) := fun e => by rcases e with rfl | rfl <;> omega
   have hya : ¬ (y = a ∨ y = b) := fun e => by rcases e with rfl | rfl <;> omega
   refine ⟨x, y, hx, hy, hxy, by rw [o1 x (by omega), if_neg hxa];exact hox, by rw [o1 y (by omega), if_neg hya];exact hoy, fun i hi => ?_⟩
   rcases Nat.lt_or_ge i n with h1 | h1
   ·
    rw [o1 i h1] at hi
    split at hi
    ·
     omega
    ·
     exact hall i hi
   ·
    rcases Nat.lt_or_ge i (n + 1) with h2 | h2
    ·
     rw [show i = n by omega, o2] at hi;omega
    ·
     rw [Qjv (by omega)] at hi;omega
 ·
  intro i hi hne0
  rw [en] at hi
  have hin : i ≠ n := fun e => by rw [e, o2] at hne0;exact hne0 rfl
  rw [o1 i (by omega)] at hne0 ⊢
  rw [if_neg hin]
  by_cases e : i = a ∨ i = b
  ·
   rw [if_pos e, if_pos rfl]
   rcases e with rfl | rfl <;> omega
  ·
   rw [if_neg e] at hne0 ⊢
   have h1 := hup i (by omega)
   rw [if_neg (by omega)]
   exact hhup i (by omega) hne0
 ·
  intro i hi
  rw [en] at hi
  by_cases e : i = n
  ·
   subst e
   rw [if_pos rfl, w2]
   have key : ∀ x y, x < i -> y < i -> ov.getD x 0 = 0 -> ov.getD y 0 = 0 -> fib (h x + 3) <= ws.getD x 0 + ws.getD y 0 := fun x y hx hy hox hoy => by
    have h1 := hfib x hx
    have h2 : fib (h x + 1) <= ws.getD y 0 := by
     rcases Nat.eq_zero_or_pos (h x) with h0 | h0
     ·
      have := hfib y hy
      refine Nat.le_trans (Qyg ?_) this
      omega
     ·
      obtain ⟨z, hz1, hz2, hz3⟩ := hdeep x hx h0
      exact Nat.le_trans hz3 (horder z y hz1 hy hz2 hoy)
    rw [show h x + 3 = (h x + 1) + 2 from rfl, fib]
    have : fib (h x + 1 + 1) = fib (h x + 2) := rfl
    omega
   rcases Nat.le_total (h a) (h b) with h1 | h1
   ·
    rw [Nat.max_eq_right h1];have := key b a hb1 ha1 hbf haf;rw [Nat.add_comm (ws.getD a 0)];exact this
   ·
    rw [Nat.max_eq_left h1];exact key a b ha1 hb1 haf hbf
  ·
   rw [if_neg e, w1 i (by omega)];exact hfib i (by omega)
 ·
  intro i hi hh
  rw [en] at hi ⊢
  by_cases e : i = n
  ·
   subst e
   rw [if_pos rfl]
   rcases Nat.le_total (h a) (h b) with h1 | h1
   ·
    rw [Nat.max_eq_right h1]
    exact ⟨b, by omega, by rw [o1 b hb1, if_pos (.inr rfl)];omega, by rw [w1 b hb1];exact hfib b hb1⟩
   ·
    rw [Nat.max_eq_left h1]
    exact ⟨a, by omega, by rw [o1 a ha1, if_pos (.inl rfl)];omega, by rw [w1 a ha1];exact hfib a ha1⟩
  ·
   rw [if_neg e] at hh ⊢
   obtain ⟨y, hy1, hy2, hy3⟩ := hdeep i (by omega) hh
   refine ⟨y, by omega, ?_, by rw [w1 y hy1];exact hy3⟩
   rw [o1 y hy1]
   split
   ·
    omega
   ·
    exact hy2
 ·
  intro y r hy hr hoy hor
  rw [en] at hy hr
  have hyn : y ≠ n := fun e => by rw [e, o2] at hoy;exact hoy rfl
  rw [w1 y (by omega)]
  have hyb : ws.getD y 0 <= ws.getD b 0 := by
   rw [o1 y (by omega)] at hoy
   by_cases e : y = a ∨ y = b
   ·
    rcases e with rfl | rfl <;> omega
   ·
    rw [if_neg e] at hoy;exact horder y b (by omega) hb1 hoy hbf
  by_cases e : r = n
  ·
   subst e;rw [w2];omega
  ·
   rw [w1 r (by omega)]
   rw [o1 r (by omega)] at hor
   by_cases e2 : r = a ∨ r = b
   ·
    rw [if_pos e2] at hor;omega
   ·
    rw [if_neg e2] at hor
    have := hbl r (by omega) (fun x => e2 (.inl x)) hor
    omega
theorem Qn9 (w : List Nat) (h1 : ∀ i, i < w.length -> 1 <= w.getD i 0) : ∀ k, k + 1 <= w.length -> ∃ h, Grown w k (Qrn k (w, List.replicate w.length 0)).1 (Qrn k (w, List.replicate w.length 0)).2 h
 | 0, hk => ⟨_, Grown.start w (by omega) h1⟩
 | k + 1, hk => by
  obtain ⟨h, g⟩ := Qn9 w h1 k (by omega)
  exact g.step (by omega)
section
variable {w : List Nat} {k : Nat} {ws ov : List Nat} {h : Nat -> Nat}
theorem Grown.last (g : Grown w k ws ov h) (hk : k + 1 = w.length) : ov.getD (w.length + k - 1) 0 = 0 := by
 have := g.up (w.length + k - 1) (by omega)
 omega
theorem Grown.root (g : Grown w k ws ov h) (hk : k + 1 = w.length) {i : Nat} (hi : i < w.length + k) (hf : ov.getD i 0 = 0) : i = w.length + k - 1 := by
 by_cases e : i = w.length + k - 1
 ·
  exact e
 ·
  have h1 := QC9 (f := fun i => if ov.getD i 0 = 0 then 1 else 0) (n := w.length + k) hi (show w.length + k - 1 < w.length + k by omega) e
  simp only [if_pos hf, if_pos (g.last hk)] at h1
  have := g.roots
  omega
theorem Grown.depth_h (g : Grown w k ws ov h) (hk : k + 1 = w.length) : ∀ f i, i < w.length + k -> w.length + k - i <= f -> Qbx ov f i + h i <= h (w.length + k - 1)
 | 0, i, hi, hf => by omega
 | f + 1, i, hi, hf => by
  rw [Qbx]
  split
  ·
   rename_i h0;rw [<- g.root hk hi h0];omega
  ·
   rename_i h0
   have h1 := g.up i hi
   have h2 := g.hup i hi h0
   have := g.depth_h hk f (ov.getD i 0) (by omega) (by omega)
   omega
theorem Grown.fuel (g : Grown w k ws ov h) : ∀ f f' i, i < w.length + k -> w.length + k - i <= f -> w.length + k - i <= f' -> Qbx ov f i = Qbx ov f' i
 | 0, _, i, hi, h1, _ => by omega
 | _ + 1, 0, i, hi, _, h2 => by omega
 | f + 1, f' + 1, i, hi, h1, h2 => by
  rw [Qbx, Qbx]
  split
  ·
   rfl
  ·
   rename_i h0
   have h3 := g.up i hi
   rw [g.fuel f f' (ov.getD i 0) (by omega) (by omega) (by omega)]
theorem Grown.dep (g : Grown w k ws ov h) {i : Nat} (f : Nat) (hf : w.length + k <= f) (hi : i < w.length + k) (h0 : ov.getD i 0 ≠ 0) : Qbx ov f i = Qbx ov f (ov.getD i 0) + 1 := by
 have h3 := g.up i hi
 cases f with
 | zero => omega
 | succ f =>
  conv => lhs;rw [Qbx]
  rw [if_neg h0, g.fuel f (f + 1) (ov.getD i 0) (by omega) (by omega) (by omega)]
theorem Grown.kraft (g : Grown w k ws ov h) (hk : k + 1 = w.length) (f : Nat) (hf : w.length + k <= f) (N : Nat) (hN : ∀ i, i < w.length + k -> Qbx ov f i <= N) :
  Qbo (fun i => 2 ^ (N - Qbx ov f i)) w.length = 2 ^ N := by
 have hr := g.last hk
 have step : ∀ j, w.length <= j -> j < w.length + k -> Qbo (fun i => if ov.getD i 0 = 0 ∨ j + 1 <= ov.getD i 0 then 2 ^ (N - Qbx ov f i) else 0) (j + 1) = Qbo (fun i => if ov.getD i 0 = 0 ∨ j <= ov.getD i 0 then 2 ^ (N - Qbx ov f i) else 0) j := fun j h1 h2 => by
  obtain ⟨a, b, ha, hb, hab, hoa, hob, hall⟩ := g.two j h1 h2
  have hda := g.dep f hf (i := a) (by omega) (by omega)
  have hdb := g.dep f hf (i := b) (by omega) (by omega)
  have hNa := hN a (by omega)
  rw [hoa] at hda
  rw [hob] at hdb
  have hj := g.up j h2
  rw [Qbo, if_pos (by omega)]
  have e := Qit (f := fun i => if ov.getD i 0 = 0 ∨ j <= ov.getD i 0 then 2 ^ (N - Qbx ov f i) else 0) ha hb hab
  rw [if_pos (by omega), if_pos (by omega), hda, hdb] at e
  rw [<- e]
  have e2 : 2 ^ (N - Qbx ov f j) = 2 ^ (N - (Qbx ov f j + 1)) + 2 ^ (N - (Qbx ov f j + 1)) := by
   rw [show N - Qbx ov f j = (N - (Qbx ov f j + 1)) + 1 by omega, Nat.pow_succ];omega
  rw [e2]
  congr 1
  refine Qcn j fun i hi => ?_
  by_cases e3 : i = a ∨ i = b
  ·
   rw [if_pos e3, if_neg (by rcases e3 with rfl | rfl <;> omega)]
  ·
   rw [if_neg e3]
   by_cases e4 : ov.getD i 0 = 0 ∨ j <= ov.getD i 0
   ·
    rw [if_pos e4, if_pos]
    have : ov.getD i 0 ≠ j := fun e5 => e3 (hall i e5)
    omega
   ·
    rw [if_neg e4, if_neg (by omega)]
 have all : ∀ d, d <= k -> Qbo (fun i => if ov.getD i 0 = 0 ∨ w.length + d <= ov.getD i 0 then 2 ^ (N - Qbx ov f i) else 0) (w.length + d) = Qbo (fun i => if ov.getD i 0 = 0 ∨ w.length <= ov.getD i 0 then 2 ^ (N - Qbx ov f i) else 0) w.length := fun d => by
  induction d with
  | zero => intro _;rfl
  | succ d ih => intro hd;rw [<- ih (by omega)];exact step (w.length + d) (by omega) (by omega)
 have h1 := all k (Nat.le_refl _)
 have e1 : Qbo (fun i => if ov.getD i 0 = 0 ∨ w.length + k <= ov.getD i 0 then 2 ^ (N - Qbx ov f i) else 0) (w.length + k) = Qbo (fun i => if i = w.length + k - 1 then 2 ^ N else 0) (w.length + k) := by
  refine Qcn _ fun i hi => ?_
  have h2 := g.up i hi
  by_cases e : i = w.length + k - 1
  ·
   subst e
   rw [if_pos (.inl hr), if_pos rfl]
   have : Qbx ov f (w.length + k - 1) = 0 := by
    cases f with
    | zero => rfl
    | succ f => rw [Qbx, if_pos hr]
   rw [this];rfl
  ·
   rw [if_neg e, if_neg]
   rintro (h3 | h3)
   ·
    exact e (g.root hk hi h3)
   ·
    omega
 rw [e1, Qhe, if_pos (by omega)] at h1
 rw [h1]
 refine Qcn _ fun i hi => ?_
 have h2 := g.up i (by omega)
 rw [if_pos (by omega)]
theorem Grown.total (g : Grown w k ws ov h) (hk : k + 1 = w.length) : fib (h (w.length + k - 1) + 2) <= Qbo (fun i => w.getD i 0) w.length := by
 have h1 := g.hfib (w.length + k - 1) (by omega)
 have h2 := Qm7 (fun i => if ov.getD i 0 = 0 then ws.getD i 0 else 0) (w.length + k) (w.length + k - 1) (by omega)
 simp only [if_pos (g.last hk)] at h2
 rw [<- g.weight]
 omega
end
def Qcp : List Nat -> Nat
 | [] => 0
 | x :: l => 2 ^ (20 - x) + Qcp l
theorem Qkn (l m : List Nat) : Qcp (l ++ m) = Qcp l + Qcp m := by
 induction l with
 | nil => simp [Qcp]
 | cons x l ih => rw [List.cons_append, Qcp, Qcp, ih];omega
theorem Qja (f : Nat -> Nat) : ∀ n, Qcp ((List.range n).map f) = Qbo (fun i => 2 ^ (20 - f i)) n
 | 0 => rfl
 | n + 1 => by rw [List.range_succ, List.map_append, Qkn, Qja f n, Qbo];rfl
theorem Qt7 {l : List Nat} {m : Nat} : ∀ a, l.foldl max a <= m ↔ a <= m /\ ∀ x ∈ l, x <= m := by
 induction l with
 | nil => intro a;simp
 | cons x l ih => intro a;rw [List.foldl_cons, ih];simp only [List.mem_cons, forall_eq_or_imp, Nat.max_le, and_assoc]
theorem Qiv {l : List Nat} {m : Nat} : maxL l <= m ↔ ∀ x ∈ l, x <= m := by rw [maxL, Qt7];simp
theorem Qhu (w : List Nat) : (Qfk w).length = w.length := by simp [Qfk]
theorem Qt8 {w : List Nat} (h2 : 2 <= w.length) (h1 : ∀ x ∈ w, 1 <= x) {m : Nat} (hm : maxL (Qfk w) <= m) (hm20 : m <= 20) :
  (∀ x ∈ Qfk w, 1 <= x /\ x <= m) /\ Qcp (Qfk w) = 1048576 := by
 obtain ⟨h, g⟩ := Qn9 w (fun i hi => h1 _ (by rw [List.getD_eq_getElem?_getD, List.getElem?_eq_getElem hi];exact List.getElem_mem hi)) (w.length - 1) (by omega)
 have hmax := Qiv.1 hm
 have hov : (Qrn (w.length - 1) (w, List.replicate w.length 0)).2 = Qt5 w := rfl
 rw [hov] at g
 have hk : w.length - 1 + 1 = w.length := by omega
 have hdep : ∀ i, i < w.length -> Qbx (Qt5 w) (2 * w.length) i ∈ Qfk w := fun i hi => List.mem_map.2 ⟨i, by simpa using hi, rfl⟩
 constructor
 ·
  intro x hx
  refine ⟨?_, hmax x hx⟩
  obtain ⟨i, hi, rfl⟩ := List.mem_map.1 hx
  have hi : i < w.length := by simpa using hi
  by_cases h0 : (Qt5 w).getD i 0 = 0
  ·
   have := g.root hk (by omega) h0;omega
  ·
   rw [g.dep (2 * w.length) (by omega) (by omega) h0];omega
 ·
  have hN : ∀ i, i < w.length + (w.length - 1) -> Qbx (Qt5 w) (2 * w.length) i <= 20 := by
   intro i
   induction i using Nat.strongRecOn with
   | _ i ih =>
    intro hi
    rcases Nat.lt_or_ge i w.length with h3 | h3
    ·
     have := hmax _ (hdep i h3);omega
    ·
     obtain ⟨a, b, ha, hb, hab, hoa, hob, hall⟩ := g.two i h3 hi
     have h4 := ih a ha (by omega)
     have := g.dep (2 * w.length) (by omega) (i := a) (by omega) (by omega)
     rw [hoa] at this
     omega
  have hk20 := g.kraft hk (2 * w.length) (by omega) 20 hN
  rw [Qfk, Qja]
  exact hk20
theorem QSr : fib 15 = 610 := by decide
theorem Qmb {w : List Nat} (h2 : 2 <= w.length) (h258 : w.length <= 258) (h1 : ∀ x ∈ w, 1 <= x /\ x <= 2) : maxL (Qfk w) <= 12 := by
 have hget : ∀ i, i < w.length -> w.getD i 0 ∈ w := fun i hi => by rw [List.getD_eq_getElem?_getD, List.getElem?_eq_getElem hi];exact List.getElem_mem hi
 obtain ⟨h, g⟩ := Qn9 w (fun i hi => (h1 _ (hget i hi)).1) (w.length - 1) (by omega)
 have hov : (Qrn (w.length - 1) (w, List.replicate w.length 0)).2 = Qt5 w := rfl
 rw [hov] at g
 have hk : w.length - 1 + 1 = w.length := by omega
 have ht := g.total hk
 have ht2 := Qro (fun i => w.getD i 0) 2 w.length fun i hi => (h1 _ (hget i hi)).2
 have hh : h (w.length + (w.length - 1) - 1) <= 12 := by
  rcases Nat.lt_or_ge 12 (h (w.length + (w.length - 1) - 1)) with h3 | h3
  ·
   have := Qyg (show 15 <= h (w.length + (w.length - 1) - 1) + 2 by omega)
   rw [QSr] at this
   omega
  ·
   exact h3
 refine Qiv.2 fun x hx => ?_
 obtain ⟨i, hi, rfl⟩ := List.mem_map.1 hx
 have hi : i < w.length := by simpa using hi
 have := g.depth_h hk (2 * w.length) i (by omega) (by omega)
 omega
def bnd : Nat -> Nat
 | 0 => 2
 | k + 1 => 2 ^ k + 2
theorem Qyh {t x : Nat} (h : x <= bnd (t + 1)) : x / 2 + 1 <= bnd t := by
 cases t with
 | zero => simp only [bnd] at h ⊢;omega
 | succ t => simp only [bnd, Nat.pow_succ] at h ⊢;omega
theorem Qyi {most : Nat} (hm : 12 <= most) (hm20 : most <= 20) : ∀ (t : Nat) (own : List Nat), 2 <= own.length -> own.length <= 258 -> (∀ x ∈ own, 1 <= x /\ x <= bnd t) ->
  (Qn7 most t own).length = own.length /\ (∀ x ∈ Qn7 most t own, 1 <= x /\ x <= most) /\ Qcp (Qn7 most t own) = 1048576
 | 0, own, h2, h258, h1 => by
  have h3 := Qmb h2 h258 h1
  rw [Qn7]
  exact ⟨Qhu own, Qt8 h2 (fun x hx => (h1 x hx).1) (by omega) hm20⟩
 | t + 1, own, h2, h258, h1 => by
  rw [Qn7]
  split
  ·
   rename_i h3;exact ⟨Qhu own, Qt8 h2 (fun x hx => (h1 x hx).1) h3 hm20⟩
  ·
   have := Qyi hm hm20 t (own.map fun x => x / 2 + 1) (by simpa using h2) (by simpa using h258) (by
    intro x hx
    obtain ⟨y, hy, rfl⟩ := List.mem_map.1 hx
    exact ⟨by omega, Qyh (h1 y hy).2⟩)
   simpa using this
def lenS (w : List Nat) (most : Nat) : List Nat := Qn7 most 40 (w.map fun x => max x 1)
theorem QDa {w : List Nat} {most : Nat} (hm : 12 <= most) (hm20 : most <= 20) (h2 : 2 <= w.length) (h258 : w.length <= 258) (h1 : ∀ x ∈ w, x <= 1073741824) :
  (lenS w most).length = w.length /\ (∀ x ∈ lenS w most, 1 <= x /\ x <= most) /\ Qcp (lenS w most) = 1048576 := by
 have := Qyi hm hm20 40 (w.map fun x => max x 1) (by simpa using h2) (by simpa using h258) (by
  intro x hx
  obtain ⟨y, hy, rfl⟩ := List.mem_map.1 hx
  have := h1 y hy
  have : bnd 40 = 549755813890 := by decide
  omega)
 simpa [lenS] using this
def Qfa (w : List Nat) (i j : Nat) : Bool := decide (max (w.getD j 0) 1 < max (w.getD i 0) 1) || (decide (max (w.getD i 0) 1 = max (w.getD j 0) 1) && decide (i < j))
def Qqi (w : List Nat) (i : Nat) : Nat := (List.range w.length).countP fun j => Qfa w j i
def Qfb (n : Nat) : Nat := Nat.log2 n
def Qmt (n p : Nat) : Nat := if 2 ^ (Qfb n + 1) - n <= p then Qfb n + 1 else Qfb n
def Qfr (w : List Nat) : List Nat := (List.range w.length).map fun i => Qmt w.length (Qqi w i)
theorem Qf9 {w : List Nat} {i j : Nat} : Qfa w i j = true ↔ (max (w.getD j 0) 1 < max (w.getD i 0) 1 ∨ (max (w.getD i 0) 1 = max (w.getD j 0) 1 /\ i < j)) := by
 simp [Qfa, Bool.or_eq_true]
theorem Qt9 {w : List Nat} {i j k : Nat} (h1 : Qfa w i j = true) (h2 : Qfa w j k = true) : Qfa w i k = true := by
 rw [Qf9] at *;omega
theorem Qrq (w : List Nat) (i : Nat) : Qfa w i i = false := by
 rw [Bool.eq_false_iff];intro h;rw [Qf9] at h;omega
theorem Qua {w : List Nat} {i j : Nat} (h1 : Qfa w i j = true) : Qfa w j i = false := by
 rw [Bool.eq_false_iff];intro h;rw [Qf9] at *;omega
theorem Qub {w : List Nat} {i j : Nat} (h : i ≠ j) : Qfa w i j = true ∨ Qfa w j i = true := by
 rw [Qf9, Qf9];omega
theorem Qoa {w : List Nat} {l : List Nat} (hp : l.Perm (List.range w.length)) (hs : l.Pairwise fun i j => Qfa w i j = true) {p : Nat} (hpl : p < l.length) : Qqi w l[p] = p := by
 unfold Qqi
 rw [<- hp.countP_eq]
 have e : l = l.take p ++ l[p] :: l.drop (p + 1) := by rw [<- List.drop_eq_getElem_cons hpl, List.take_append_drop]
 have hs2 := hs
 rw [e] at hs2
 obtain ⟨s1, s2, s3⟩ := List.pairwise_append.1 hs2
 obtain ⟨s4, s5⟩ := List.pairwise_cons.1 s2
 have hlen : (l.take p).length = p := by rw [List.length_take];omega
 generalize hx : l[p] = x at *
 conv => lhs;rw [e]
 rw [List.countP_append, List.countP_cons]
 have c1 : (l.take p).countP (fun j => Qfa w j x) = p := by
  rw [List.countP_eq_length.2 (fun a ha => s3 a ha _ (by simp)), hlen]
 have c2 : (l.drop (p + 1)).countP (fun j => Qfa w j x) = 0 := by
  rw [List.countP_eq_zero]
  intro a ha
  have := Qua (s4 a ha)
  simp [this]
 rw [c1, c2, Qrq]
 simp
theorem Quc (w : List Nat) : ∃ l : List Nat, l.Perm (List.range w.length) /\ l.Pairwise fun i j => Qfa w i j = true := by
 refine ⟨(List.range w.length).mergeSort fun i j => Qfa w i j || i == j, List.mergeSort_perm _ _, ?_⟩
 have hs := List.pairwise_mergeSort (le := fun i j => Qfa w i j || i == j) (fun a b c h1 h2 => by
  simp only [Bool.or_eq_true, beq_iff_eq] at *
  rcases h1 with h1 | rfl
  ·
   rcases h2 with h2 | rfl
   ·
    exact .inl (Qt9 h1 h2)
   ·
    exact .inl h1
  ·
   exact h2) (fun a b => by
  by_cases e : a = b
  ·
   subst e;simp
  ·
   rcases Qub (w := w) e with h | h <;> simp [h]) (List.range w.length)
 have hn : ((List.range w.length).mergeSort fun i j => Qfa w i j || i == j).Nodup := (List.mergeSort_perm _ _).nodup_iff.2 List.nodup_range
 refine (hs.and hn).imp ?_
 rintro a b ⟨h1, h2⟩
 simp only [Bool.or_eq_true, beq_iff_eq] at h1
 rcases h1 with h1 | h1
 ·
  exact h1
 ·
  exact absurd h1 h2
theorem Qwy {l m : List Nat} (h : l.Perm m) : Qcp l = Qcp m := by
 induction h with
 | nil => rfl
 | cons x _ ih => rw [Qcp, Qcp, ih]
 | swap x y l => simp only [Qcp];omega
 | trans _ _ h1 h2 => rw [h1, h2]
theorem Qqj {n : Nat} (h : 2 <= n) : 1 <= Qfb n /\ 2 ^ Qfb n <= n /\ n < 2 ^ (Qfb n + 1) := by
 refine ⟨(Nat.le_log2 (by omega)).2 (by simpa using h), Nat.log2_self_le (by omega), Nat.lt_log2_self⟩
theorem QGu {n : Nat} (h : 2 <= n) (h2 : n <= 258) : Qfb n <= 8 := by
 have := (Qqj h).2.1
 rcases Nat.lt_or_ge 8 (Qfb n) with h3 | h3
 ·
  have := Nat.pow_le_pow_right (n := 2) (by omega) h3
  omega
 ·
  exact h3
theorem Qyj {n K p : Nat} (hK : n <= 2 * K) (hn : K <= n) (c : Nat) (f : Nat -> Nat) (hf : ∀ i, f i = if 2 * K - n <= i then c else 2 * c) : ∀ m, m <= n -> Qbo f m = if m <= 2 * K - n then m * (2 * c) else (2 * K - n) * (2 * c) + (m - (2 * K - n)) * c
 | 0, _ => by simp [Qbo]
 | m + 1, h => by
  rw [Qbo, Qyj (p := p) hK hn c f hf m (by omega), hf]
  by_cases h1 : m + 1 <= 2 * K - n
  ·
   rw [if_pos (by omega), if_neg (by omega), if_pos h1];exact (Nat.succ_mul m (2 * c)).symm
  ·
   rw [if_neg h1]
   by_cases h2 : m <= 2 * K - n
   ·
    have e : m = 2 * K - n := by omega
    rw [if_pos h2, if_pos (by omega), show m + 1 - (2 * K - n) = 1 by omega, Nat.one_mul, e]
   ·
    rw [if_neg h2, if_pos (by omega), show m + 1 - (2 * K - n) = (m - (2 * K - n)) + 1 by omega, Nat.add_assoc, show (m - (2 * K - n) + 1) * c = (m - (2 * K - n)) * c + c from Nat.succ_mul _ _]
theorem Qyk {w : List Nat} (h2 : 2 <= w.length) (h258 : w.length <= 258) : (Qfr w).length = w.length /\ (∀ x ∈ Qfr w, 1 <= x /\ x <= 9) /\ Qcp (Qfr w) = 1048576 := by
 obtain ⟨hk1, hk2, hk3⟩ := Qqj h2
 have hk8 := QGu h2 h258
 refine ⟨by simp [Qfr], fun x hx => ?_, ?_⟩
 ·
  obtain ⟨i, _, rfl⟩ := List.mem_map.1 hx
  unfold Qmt
  split <;> omega
 ·
  obtain ⟨l, hp, hs⟩ := Quc w
  have e1 : (Qfr w).Perm ((List.range w.length).map fun p => Qmt w.length p) := by
   have e2 : (l.map fun i => Qmt w.length (Qqi w i)) = (List.range w.length).map fun p => Qmt w.length p := by
    have hl : l.length = w.length := by have := hp.length_eq;simpa using this
    apply List.ext_getElem
    ·
     simp [hl]
    ·
     intro p h3 h4
     simp only [List.getElem_map, List.getElem_range]
     rw [Qoa hp hs]
   rw [<- e2]
   exact (hp.map _).symm
  rw [Qwy e1, Qja]
  have hp2 : 2 ^ (Qfb w.length + 1) = 2 * 2 ^ Qfb w.length := by rw [Nat.pow_succ];omega
  have h20 : 2 ^ (20 - Qfb w.length) = 2 * 2 ^ (19 - Qfb w.length) := by rw [show 20 - Qfb w.length = (19 - Qfb w.length) + 1 by omega, Nat.pow_succ];omega
  have hc : 2 ^ Qfb w.length * 2 ^ (19 - Qfb w.length) = 524288 := by rw [<- Nat.pow_add, show Qfb w.length + (19 - Qfb w.length) = 19 by omega]
  rw [Qyj (p := 0) (K := 2 ^ Qfb w.length) (n := w.length) (by omega) (by omega) (2 ^ (19 - Qfb w.length)) _ (fun i => ?_) w.length (Nat.le_refl _)]
  ·
   generalize 2 ^ (19 - Qfb w.length) = c at *
   generalize 2 ^ Qfb w.length = K at *
   split
   ·
    rename_i h5
    have e5 : w.length = K := by omega
    rw [e5, Nat.mul_left_comm, hc]
   ·
    rename_i h5
    obtain ⟨d, hd⟩ : ∃ d, w.length = K + d := ⟨w.length - K, by omega⟩
    rw [hd, show 2 * K - (K + d) = K - d by omega, show K + d - (K - d) = 2 * d by omega]
    obtain ⟨e, he⟩ : ∃ e, K = d + e := ⟨K - d, by omega⟩
    rw [show K - d = e by omega]
    have : e * (2 * c) + 2 * d * c = 2 * (K * c) := by
     rw [he, Nat.add_mul, Nat.mul_add, Nat.mul_left_comm, Nat.mul_assoc];omega
    rw [this, hc]
  ·
   simp only [Qmt]
   rw [hp2]
   split
   ·
    rw [show 20 - (Qfb w.length + 1) = 19 - Qfb w.length by omega]
   ·
    rw [h20]
def idxN (l : List Nat) (n m : Nat) : List Nat := (List.range m).filter fun i => l.getD i 0 == n
def idxs (l : List Nat) (n : Nat) : List Nat := idxN l n l.length
def cnt (l : List Nat) (n : Nat) : Nat := (idxs l n).length
def Qbi (l : List Nat) : Nat -> Nat
 | 0 => 0
 | n + 1 => 2 * (Qbi l n + cnt l n)
def Qe8 (l : List Nat) (i : Nat) : Nat := Qbi l (l.getD i 0) + (idxN l (l.getD i 0) i).length
def Qmu (l : List Nat) (i : Nat) : List Bool := Qbc (l.getD i 0) (Qe8 l i)
def begP (l : List Nat) (c k : Nat) : Bool := (List.range 21).any fun m => decide (k < m) && decide (0 < cnt l m) && decide (c * 2 ^ (m - k) < Qbi l m + cnt l m)
def Qfs (l : List Nat) : List Bool -> Nat -> Nat -> Except Int (Nat × Nat)
 | [], _, _ => .error 10
 | b :: r, n, code =>
  if Qbi l (n + 1) <= 2 * code + b.toNat /\ 2 * code + b.toNat < Qbi l (n + 1) + cnt l (n + 1) then .ok ((idxs l (n + 1)).getD (2 * code + b.toNat - Qbi l (n + 1)) 0, n + 1)
  else if begP l (2 * code + b.toNat) (n + 1) = true then Qfs l r (n + 1) (2 * code + b.toNat) else .error 90
def Qhf (l : List Nat) (bits : List Bool) (at_ : Nat) : Except Int (Nat × Nat) := match Qfs l (bits.drop at_) 0 0 with
 | .ok p => .ok (p.1, at_ + p.2)
 | .error e => .error e
def Qd9 (l : List Nat) (bits : List Bool) (fin : Nat) : Nat -> Nat -> Except Int (List Nat × Nat)
 | 0, at_ => .ok ([], at_)
 | n + 1, at_ => match Qhf l bits at_ with
  | .error e => .error e
  | .ok p => if p.1 = fin then .ok ([p.1], p.2) else match Qd9 l bits fin n p.2 with
   | .error e => .error e
   | .ok q => .ok (p.1 :: q.1, q.2)
def okL (l : List Nat) : Prop := 2 <= l.length /\ l.length <= 258 /\ (∀ x ∈ l, 1 <= x /\ x <= 20) /\ Qcp l <= 1048576
theorem Qiw (l : List Nat) (n m : Nat) : idxN l n (m + 1) = idxN l n m ++ if l.getD m 0 = n then [m] else [] := by
 unfold idxN
 rw [List.range_succ, List.filter_append]
 congr 1
 by_cases h : l.getD m 0 = n
 ·
  rw [if_pos h, List.filter_cons_of_pos (by simp only [beq_iff_eq];exact h)];rfl
 ·
  rw [if_neg h, List.filter_cons_of_neg (by simp only [beq_iff_eq];exact h)];rfl
theorem Qyl (l : List Nat) (n m : Nat) : (idxN l n m).length <= m := by
 unfold idxN;exact Nat.le_trans (List.length_filter_le _ _) (by simp)
theorem Qwz (l : List Nat) (n : Nat) {m m' : Nat} (h : m <= m') : ∃ r, idxN l n m' = idxN l n m ++ r := by
 induction m' with
 | zero => exact ⟨[], by rw [show m = 0 by omega, List.append_nil]⟩
 | succ m' ih =>
  rcases Nat.lt_or_ge m (m' + 1) with h1 | h1
  ·
   obtain ⟨r, hr⟩ := ih (by omega)
   exact ⟨_, by rw [Qiw, hr, List.append_assoc]⟩
  ·
   exact ⟨[], by rw [show m = m' + 1 by omega, List.append_nil]⟩
theorem Qm8 {l : List Nat} {n m i : Nat} : i ∈ idxN l n m ↔ i < m /\ l.getD i 0 = n := by
 unfold idxN;simp [List.mem_filter]
theorem Qud {l : List Nat} {i : Nat} (hi : i < l.length) : (idxs l (l.getD i 0)).getD (idxN l (l.getD i 0) i).length 0 = i /\ (idxN l (l.getD i 0) i).length < cnt l (l.getD i 0) := by
 obtain ⟨r, hr⟩ := Qwz l (l.getD i 0) (m := i + 1) (m' := l.length) (by omega)
 have h1 : idxs l (l.getD i 0) = idxN l (l.getD i 0) i ++ [i] ++ r := by
  unfold idxs;rw [hr, Qiw, if_pos rfl]
 constructor
 ·
  rw [h1, List.append_assoc, List.getD_eq_getElem?_getD, List.getElem?_append_right (Nat.le_refl _), Nat.sub_self];rfl
 ·
  rw [cnt, h1];simp
theorem Qob {l : List Nat} (h : ∀ x ∈ l, 1 <= x) : cnt l 0 = 0 := by
 rw [cnt, idxs, List.length_eq_zero_iff, List.eq_nil_iff_forall_not_mem]
 intro i hi
 obtain ⟨h1, h2⟩ := Qm8.1 hi
 have := h (l.getD i 0) (by rw [List.getD_eq_getElem?_getD, List.getElem?_eq_getElem h1];exact List.getElem_mem h1)
 omega
theorem QDb (l : List Nat) (n : Nat) : ∀ m k, k < (idxN l n m).length -> (idxN l n m).getD k 0 < m /\ l.getD ((idxN l n m).getD k 0) 0 = n /\ (idxN l n ((idxN l n m).getD k 0)).length = k
 | 0, k, h => by simp [idxN] at h
 | m + 1, k, h => by
  rw [Qiw] at h ⊢
  rcases Nat.lt_or_ge k (idxN l n m).length with h1 | h1
  ·
   rw [Qco h1]
   obtain ⟨a, b, c⟩ := QDb l n m k h1
   exact ⟨by omega, b, c⟩
  ·
   by_cases h2 : l.getD m 0 = n
   ·
    rw [if_pos h2] at h ⊢
    have hk : k = (idxN l n m).length := by simp at h;omega
    subst hk
    rw [Qiu]
    exact ⟨by omega, h2, rfl⟩
   ·
    rw [if_neg h2, List.append_nil] at h;omega
theorem Qym (l : List Nat) (n : Nat) : ∀ d, (Qbi l n + cnt l n) * 2 ^ (d + 1) <= Qbi l (n + d + 1)
 | 0 => by simp only [Nat.zero_add, Nat.pow_one, Nat.add_zero, Qbi];omega
 | d + 1 => by
  have := Qym l n d
  rw [show n + (d + 1) + 1 = (n + d + 1) + 1 by omega, Qbi, Nat.pow_succ, <- Nat.mul_assoc]
  omega
theorem Qqk (l : List Nat) (n : Nat) : ∀ m, Qbo (fun i => if l.getD i 0 <= n + 1 then 2 ^ (20 - l.getD i 0) else 0) m = Qbo (fun i => if l.getD i 0 <= n then 2 ^ (20 - l.getD i 0) else 0) m + (idxN l (n + 1) m).length * 2 ^ (20 - (n + 1))
 | 0 => by simp [Qbo, idxN]
 | m + 1 => by
  rw [Qbo, Qbo, Qqk l n m, Qiw]
  by_cases h1 : l.getD m 0 = n + 1
  ·
   rw [if_pos (by omega), if_neg (by omega), if_pos h1, h1, List.length_append, Nat.add_mul];simp;omega
  ·
   rw [if_neg h1, List.append_nil]
   by_cases h2 : l.getD m 0 <= n
   ·
    rw [if_pos h2, if_pos (by omega)];omega
   ·
    rw [if_neg h2, if_neg (by omega)];omega
theorem QAq (l : List Nat) : Qcp l = Qbo (fun i => 2 ^ (20 - l.getD i 0)) l.length := by
 rw [<- Qja]
 congr 1
 apply List.ext_getElem
 ·
  simp
 ·
  intro i h1 h2;simp [List.getD_eq_getElem?_getD, List.getElem?_eq_getElem h1]
theorem Qql {l : List Nat} (h : ∀ x ∈ l, 1 <= x /\ x <= 20) : ∀ n, n <= 20 -> (Qbi l n + cnt l n) * 2 ^ (20 - n) = Qbo (fun i => if l.getD i 0 <= n then 2 ^ (20 - l.getD i 0) else 0) l.length
 | 0, _ => by
  rw [Qbi, Qob fun x hx => (h x hx).1, Nat.zero_add, Nat.zero_mul]
  symm
  have : Qbo (fun i => if l.getD i 0 <= 0 then 2 ^ (20 - l.getD i 0) else 0) l.length = Qbo (fun _ => 0) l.length := Qcn _ fun i hi => by
   have := h (l.getD i 0) (by rw [List.getD_eq_getElem?_getD, List.getElem?_eq_getElem hi];exact List.getElem_mem hi)
   rw [if_neg (by omega)]
  rw [this]
  generalize l.length = n
  induction n with
  | zero => rfl
  | succ n ih => rw [Qbo, ih]
 | n + 1, hn => by
  rw [Qqk, <- Qql h n (by omega), Qbi]
  have e : 2 ^ (20 - n) = 2 * 2 ^ (20 - (n + 1)) := by rw [show 20 - n = (20 - (n + 1)) + 1 by omega, Nat.pow_succ];omega
  rw [e, Nat.add_mul]
  show _ = _ + cnt l (n + 1) * _
  rw [Nat.mul_comm 2 (Qbi l n + cnt l n), Nat.mul_assoc]
theorem Qko {l : List Nat} (h : okL l) {n : Nat} (hn : n <= 20) : Qbi l n + cnt l n <= 2 ^ n := by
 have h1 := Qql h.2.2.1 n hn
 have h2 : Qbo (fun i => if l.getD i 0 <= n then 2 ^ (20 - l.getD i 0) else 0) l.length <= Qcp l := by
  rw [QAq]
  generalize l.length = m
  induction m with
  | zero => exact Nat.le_refl _
  | succ m ih =>
   rw [Qbo, Qbo]
   generalize 2 ^ (20 - l.getD m 0) = p
   split <;> omega
 have h3 := h.2.2.2
 have e : (1048576 : Nat) = 2 ^ n * 2 ^ (20 - n) := by rw [<- Nat.pow_add, show n + (20 - n) = 20 by omega]
 have h4 : (Qbi l n + cnt l n) * 2 ^ (20 - n) <= 2 ^ n * 2 ^ (20 - n) := by omega
 exact Nat.le_of_mul_le_mul_right h4 (Nat.two_pow_pos _)
theorem Que {l : List Nat} (h : okL l) {i : Nat} (hi : i < l.length) : 1 <= l.getD i 0 /\ l.getD i 0 <= 20 :=
 h.2.2.1 _ (by rw [List.getD_eq_getElem?_getD, List.getElem?_eq_getElem hi];exact List.getElem_mem hi)
theorem Qm9 {l : List Nat} (h : okL l) {i : Nat} (hi : i < l.length) : Qbi l (l.getD i 0) <= Qe8 l i /\ Qe8 l i < Qbi l (l.getD i 0) + cnt l (l.getD i 0) /\ Qe8 l i < 2 ^ l.getD i 0 := by
 have h1 := Qud hi
 have h2 := Qko h (Que h hi).2
 unfold Qe8
 omega
theorem QGv {l : List Nat} (h : okL l) {i : Nat} (hi : i < l.length) (r : List Bool) : ∀ k, k < l.getD i 0 -> Qfs l (Qbc (k + 1) (Qe8 l i) ++ r) (l.getD i 0 - (k + 1)) (Qe8 l i / 2 ^ (k + 1)) = .ok (i, l.getD i 0) := by
 have hL := Que h hi
 obtain ⟨hc1, hc2, hc3⟩ := Qm9 h hi
 intro k
 induction k with
 | zero =>
  intro hk
  rw [Qbc, List.cons_append, Qfs]
  have e : 2 * (Qe8 l i / 2 ^ (0 + 1)) + ((Qe8 l i).testBit 0).toNat = Qe8 l i := by
   rw [Nat.testBit_zero]
   rcases Nat.mod_two_eq_zero_or_one (Qe8 l i) with h | h <;> rw [h] <;> simp <;> omega
  rw [e, show l.getD i 0 - (0 + 1) + 1 = l.getD i 0 by omega, if_pos ⟨hc1, hc2⟩]
  have : Qe8 l i - Qbi l (l.getD i 0) = (idxN l (l.getD i 0) i).length := by unfold Qe8;omega
  rw [this, (Qud hi).1]
 | succ k ih =>
  intro hk
  rw [Qbc, List.cons_append, Qfs]
  have e : 2 * (Qe8 l i / 2 ^ (k + 1 + 1)) + ((Qe8 l i).testBit (k + 1)).toNat = Qe8 l i / 2 ^ (k + 1) := by
   rw [Nat.pow_succ 2 (k + 1), <- Nat.div_div_eq_div_mul, Nat.testBit_eq_decide_div_mod_eq]
   rcases Nat.mod_two_eq_zero_or_one (Qe8 l i / 2 ^ (k + 1)) with h | h <;> rw [h] <;> simp <;> omega
  rw [e, show l.getD i 0 - (k + 1 + 1) + 1 = l.getD i 0 - (k + 1) by omega]
  have hfl := Qym l (l.getD i 0 - (k + 1)) k
  rw [show l.getD i 0 - (k + 1) + k + 1 = l.getD i 0 by omega] at hfl
  have hge : Qbi l (l.getD i 0 - (k + 1)) + cnt l (l.getD i 0 - (k + 1)) <= Qe8 l i / 2 ^ (k + 1) := (Nat.le_div_iff_mul_le (Nat.two_pow_pos _)).2 (by omega)
  rw [if_neg (by omega), if_pos, ih (by omega)]
  unfold begP
  rw [List.any_eq_true]
  refine ⟨l.getD i 0, List.mem_range.2 (by omega), ?_⟩
  have h1 : Qe8 l i / 2 ^ (k + 1) * 2 ^ (l.getD i 0 - (l.getD i 0 - (k + 1))) <= Qe8 l i := by
   rw [show l.getD i 0 - (l.getD i 0 - (k + 1)) = k + 1 by omega];exact Nat.div_mul_le_self _ _
  simp only [Bool.and_eq_true, decide_eq_true_eq]
  omega
theorem Qoc {l : List Nat} (h : okL l) {i : Nat} (hi : i < l.length) {bits : List Bool} {at_ : Nat} {r : List Bool} (hb : bits.drop at_ = Qmu l i ++ r) : Qhf l bits at_ = .ok (i, at_ + (Qmu l i).length) := by
 have hL := Que h hi
 have hc := (Qm9 h hi).2.2
 have := QGv h hi r (l.getD i 0 - 1) (by omega)
 rw [show l.getD i 0 - 1 + 1 = l.getD i 0 by omega, Nat.sub_self, Nat.div_eq_of_lt hc] at this
 rw [Qhf, hb]
 show (match Qfs l (Qbc (l.getD i 0) (Qe8 l i) ++ r) 0 0 with | .ok p => _ | .error e => _) = _
 rw [this, Qmu, Qas]
def Qeo (l : List Nat) (list : List Nat) : List Bool := list.flatMap (Qmu l)
theorem Qbl {bits : List Bool} {at_ : Nat} {a b : List Bool} (h : bits.drop at_ = a ++ b) : bits.drop (at_ + a.length) = b := by
 rw [<- List.drop_drop, h, List.drop_left]
theorem Quf {l : List Nat} (h : okL l) (fin : Nat) : ∀ (list : List Nat) (n : Nat) {bits : List Bool} {at_ : Nat} {r : List Bool}, (∀ s ∈ list, s < l.length /\ s ≠ fin) -> list.length = n -> bits.drop at_ = Qeo l list ++ r -> Qd9 l bits fin n at_ = .ok (list, at_ + (Qeo l list).length)
 | [], n, bits, at_, r, _, hn, hb => by simp at hn;subst hn;simp [Qd9, Qeo]
 | s :: list, n, bits, at_, r, hs, hn, hb => by
  simp at hn
  subst hn
  have hb' : bits.drop at_ = Qmu l s ++ (Qeo l list ++ r) := by rw [hb];simp [Qeo, List.append_assoc]
  have h1 := hs s (by simp)
  rw [Qd9, Qoc h h1.1 hb']
  simp only
  rw [if_neg h1.2, Quf h fin list list.length (fun x hx => hs x (by simp [hx])) rfl (Qbl hb')]
  simp [Qeo];omega
theorem Qkp {l : List Nat} (h : okL l) (fin : Nat) (hf : fin < l.length) : ∀ (list : List Nat) (n : Nat) {bits : List Bool} {at_ : Nat} {r : List Bool}, (∀ s ∈ list, s < l.length /\ s ≠ fin) -> list.length + 1 <= n -> bits.drop at_ = Qeo l (list ++ [fin]) ++ r -> Qd9 l bits fin n at_ = .ok (list ++ [fin], at_ + (Qeo l (list ++ [fin])).length)
 | [], n, bits, at_, r, _, hn, hb => by
  obtain ⟨n, rfl⟩ : ∃ m, n = m + 1 := ⟨n - 1, by simp at hn;omega⟩
  have hb' : bits.drop at_ = Qmu l fin ++ r := by rw [hb];simp [Qeo]
  rw [Qd9, Qoc h hf hb']
  simp [Qeo]
 | s :: list, n, bits, at_, r, hs, hn, hb => by
  simp at hn
  obtain ⟨n, rfl⟩ : ∃ m, n = m + 1 := ⟨n - 1, by omega⟩
  have hb' : bits.drop at_ = Qmu l s ++ (Qeo l (list ++ [fin]) ++ r) := by rw [hb];simp [Qeo, List.append_assoc]
  have h1 := hs s (by simp)
  rw [Qd9, Qoc h h1.1 hb']
  simp only
  rw [if_neg h1.2, Qkp h fin hf list n (fun x hx => hs x (by simp [hx])) (by omega) (Qbl hb')]
  simp [Qeo];omega
theorem Qqm {l : List Nat} {c : Nat} (h : ∀ x ∈ l, x <= c) : ∀ (list : List Nat), (Qeo l list).length <= list.length * c
 | [] => by simp [Qeo]
 | s :: list => by
  have h1 := Qqm h list
  have h2 : (Qmu l s).length <= c := by
   rw [Qmu, Qas]
   by_cases hs : s < l.length
   ·
    exact h _ (by rw [List.getD_eq_getElem?_getD, List.getElem?_eq_getElem hs];exact List.getElem_mem hs)
   ·
    rw [Qjv (by omega)];omega
  simp only [Qeo, List.flatMap_cons, List.length_append, List.length_cons, Nat.succ_mul] at h1 ⊢
  omega
def Qhv (a b : Nat) : List Bool := if a < b then (List.replicate (b - a) [true, false]).flatten else (List.replicate (a - b) [true, true]).flatten
def Qcf : Nat -> List Nat -> List Bool
 | _, [] => []
 | p, x :: r => Qhv p x ++ (false :: Qcf x r)
def Qcq (l : List Nat) : List Bool := Qbc 5 (l.getD 0 0) ++ Qcf (l.getD 0 0) l
def tdGo : List Bool -> Nat -> Nat -> Nat -> Except Int (List Nat × Nat)
 | [], now, k, at_ => if k = 0 then .ok ([], at_) else if now < 1 ∨ 20 < now then .error 80 else .error 10
 | false :: r, now, k, at_ => if k = 0 then .ok ([], at_) else if now < 1 ∨ 20 < now then .error 80 else match tdGo r now (k - 1) (at_ + 1) with
  | .error e => .error e
  | .ok q => .ok (now :: q.1, q.2)
 | [true], now, k, at_ => if k = 0 then .ok ([], at_) else if now < 1 ∨ 20 < now then .error 80 else .error 10
 | true :: d :: r, now, k, at_ => if k = 0 then .ok ([], at_) else if now < 1 ∨ 20 < now then .error 80 else tdGo r (if d = true then now - 1 else now + 1) k (at_ + 2)
def Qcd (bits : List Bool) (at_ n : Nat) : Except Int (List Nat × Nat) :=
 if (Qex bits at_ 5).2 ≠ 0 then .error (Qex bits at_ 5).2 else tdGo (bits.drop (at_ + 5)) (Qex bits at_ 5).1 n (at_ + 5)
theorem QOu : ∀ (d p k : Nat) (r : List Bool) (at_ : Nat), 0 < k -> 1 <= p -> p + d <= 20 -> tdGo ((List.replicate d [true, false]).flatten ++ r) p k at_ = tdGo r (p + d) k (at_ + 2 * d)
 | 0, p, k, r, at_, _, _, _ => rfl
 | d + 1, p, k, r, at_, h1, h2, h3 => by
  rw [List.replicate_succ, List.flatten_cons, List.append_assoc]
  show tdGo (true :: false :: ((List.replicate d [true, false]).flatten ++ r)) p k at_ = _
  rw [tdGo, if_neg (by omega), if_neg (by omega), if_neg (by simp), QOu d (p + 1) k r (at_ + 2) h1 (by omega) (by omega)]
  congr 1 <;> omega
theorem QDc : ∀ (d p k : Nat) (r : List Bool) (at_ : Nat), 0 < k -> d < p -> p <= 20 -> tdGo ((List.replicate d [true, true]).flatten ++ r) p k at_ = tdGo r (p - d) k (at_ + 2 * d)
 | 0, p, k, r, at_, _, _, _ => rfl
 | d + 1, p, k, r, at_, h1, h2, h3 => by
  rw [List.replicate_succ, List.flatten_cons, List.append_assoc]
  show tdGo (true :: true :: ((List.replicate d [true, true]).flatten ++ r)) p k at_ = _
  rw [tdGo, if_neg (by omega), if_neg (by omega), if_pos rfl, QDc d (p - 1) k r (at_ + 2) h1 (by omega) (by omega)]
  congr 1 <;> omega
theorem Qix (d : Nat) (b : Bool) : (List.replicate d [true, b]).flatten.length = 2 * d := by
 induction d with
 | zero => rfl
 | succ d ih => rw [List.replicate_succ, List.flatten_cons, List.length_append, ih];simp;omega
theorem Qjx (a b : Nat) : (Qhv a b).length = 2 * ((b - a) + (a - b)) := by
 unfold Qhv
 split <;> rw [Qix] <;> omega
theorem QLb {p x k : Nat} (r : List Bool) (at_ : Nat) (hk : 0 < k) (hp : 1 <= p /\ p <= 20) (hx : 1 <= x /\ x <= 20) : tdGo (Qhv p x ++ r) p k at_ = tdGo r x k (at_ + (Qhv p x).length) := by
 rw [Qjx]
 unfold Qhv
 split
 ·
  rw [QOu _ _ _ _ _ hk hp.1 (by omega)];congr 1 <;> omega
 ·
  rw [QDc _ _ _ _ _ hk (by omega) hp.2];congr 1 <;> omega
theorem QOv : ∀ (l : List Nat) (p : Nat) (r : List Bool) (at_ : Nat), (1 <= p /\ p <= 20) -> (∀ x ∈ l, 1 <= x /\ x <= 20) -> tdGo (Qcf p l ++ r) p l.length at_ = .ok (l, at_ + (Qcf p l).length)
 | [], p, r, at_, _, _ => by
  show tdGo r p 0 at_ = _
  match r with
  | [] => simp [tdGo, Qcf]
  | false :: r => simp [tdGo, Qcf]
  | [true] => simp [tdGo, Qcf]
  | true :: d :: r => simp [tdGo, Qcf]
 | x :: l, p, r, at_, hp, hx => by
  have h1 := hx x (by simp)
  rw [Qcf, List.append_assoc, List.cons_append, QLb _ _ (by simp) hp h1, tdGo, if_neg (by simp), if_neg (by omega)]
  rw [List.length_cons, Nat.add_sub_cancel, QOv l x r _ h1 fun y hy => hx y (by simp [hy])]
  simp;omega
theorem QAr {l : List Nat} (hl : l ≠ []) (h : ∀ x ∈ l, 1 <= x /\ x <= 20) {bits : List Bool} {at_ : Nat} {r : List Bool} (hb : bits.drop at_ = Qcq l ++ r) : Qcd bits at_ l.length = .ok (l, at_ + (Qcq l).length) := by
 have h0 : 1 <= l.getD 0 0 /\ l.getD 0 0 <= 20 := h _ (by
  cases l with
  | nil => exact absurd rfl hl
  | cons x l => simp)
 have hlen : bits.length - at_ = (Qcq l).length + r.length := by rw [<- List.length_drop, hb, List.length_append]
 have h5 : (Qcq l).length = 5 + (Qcf (l.getD 0 0) l).length := by rw [Qcq, List.length_append, Qas]
 have ht : (bits.drop at_).take 5 = Qbc 5 (l.getD 0 0) := by
  rw [hb, Qcq, List.append_assoc]
  have := Qas 5 (l.getD 0 0)
  rw [List.take_append_of_le_length (by omega), List.take_of_length_le (by omega)]
 have hd : bits.drop (at_ + 5) = Qcf (l.getD 0 0) l ++ r := by
  have := Qbl (bits := bits) (at_ := at_) (a := Qbc 5 (l.getD 0 0)) (b := Qcf (l.getD 0 0) l ++ r) (by rw [hb, Qcq, List.append_assoc])
  rwa [Qas] at this
 have hts : Qex bits at_ 5 = (l.getD 0 0, 0) := by
  rw [Qex, if_neg (by omega), ht, Qef, Nat.mod_eq_of_lt (by omega)]
 rw [Qcd, hts, hd, h5, QOv l _ r _ h0 h]
 simp;omega
theorem Qmc {k : Nat} : ∀ (l : List Nat) (p : Nat), (p = k ∨ p = k + 1) -> (∀ x ∈ l, x = k ∨ x = k + 1) -> (Qcf p l).length <= 3 * l.length
 | [], p, _, _ => by simp [Qcf]
 | x :: l, p, hp, hx => by
  have h1 := hx x (by simp)
  have h2 := Qmc l x h1 fun y hy => hx y (by simp [hy])
  have h3 := Qjx p x
  simp only [Qcf, List.length_append, List.length_cons]
  omega
def Qfw (li : List Nat) (at_ : Nat) : List Nat := li.getD at_ 0 :: (li.take at_ ++ li.drop (at_ + 1))
theorem Qhg {li : List Nat} {at_ : Nat} (h : at_ < li.length) : (Qfw li at_).length = li.length := by simp [Qfw];omega
theorem Qjb {li : List Nat} {at_ : Nat} (h : at_ < li.length) (c : Nat) : c ∈ Qfw li at_ ↔ c ∈ li := by
 have e : li = li.take at_ ++ li.getD at_ 0 :: li.drop (at_ + 1) := by
  have : li.getD at_ 0 = li[at_] := by rw [List.getD_eq_getElem?_getD, List.getElem?_eq_getElem h];rfl
  rw [this, <- List.drop_eq_getElem_cons h, List.take_append_drop]
 unfold Qfw
 conv => rhs;rw [e]
 simp only [List.mem_cons, List.mem_append]
 constructor
 ·
  rintro (h | h | h)
  ·
   exact .inr (.inl h)
  ·
   exact .inl h
  ·
   exact .inr (.inr h)
 ·
  rintro (h | h | h)
  ·
   exact .inr (.inl h)
  ·
   exact .inl h
  ·
   exact .inr (.inr h)
theorem Qqn {li : List Nat} {c : Nat} (h : c ∈ li) : li.getD (li.idxOf c) 0 = c := by
 have h1 := List.idxOf_lt_length_iff.2 h
 rw [List.getD_eq_getElem?_getD, List.getElem?_eq_getElem h1, Option.getD_some]
 exact List.getElem_idxOf h1
def Qd1 : List Nat -> List Nat -> List Bool
 | _, [] => []
 | li, p :: r => List.replicate (li.idxOf p) true ++ (false :: Qd1 (Qfw li (li.idxOf p)) r)
def Qbz (T : List (List Nat)) (P : List Nat) : List Bool := Qbc 3 T.length ++ (Qbc 15 P.length ++ (Qd1 (List.range T.length) P ++ T.flatMap Qcq))
def ptGo (bits : List Bool) (many : Nat) : List Nat -> Nat -> Nat -> Except Int (List Nat × Nat)
 | li, 0, at_ => .ok ([], at_)
 | li, k + 1, at_ => if (unS (bits.drop at_) (many - 1) 0).2 ≠ 0 then .error (if (unS (bits.drop at_) (many - 1) 0).2 = 3 then 110 else (unS (bits.drop at_) (many - 1) 0).2) else
  match ptGo bits many (Qfw li (unS (bits.drop at_) (many - 1) 0).1) k (at_ + (unS (bits.drop at_) (many - 1) 0).1 + 1) with
  | .error e => .error e
  | .ok q => .ok (li.getD (unS (bits.drop at_) (many - 1) 0).1 0 :: q.1, q.2)
def okLB (l : List Nat) : Bool := decide (2 <= l.length) && decide (l.length <= 258) && l.all (fun x => decide (1 <= x) && decide (x <= 20)) && decide (Qcp l <= 1048576)
theorem Qna {l : List Nat} : okLB l = true ↔ okL l := by
 simp only [okLB, okL, Bool.and_eq_true, decide_eq_true_eq, List.all_eq_true, and_assoc]
def ttGo (bits : List Bool) (n : Nat) : Nat -> Nat -> Except Int (List (List Nat) × Nat)
 | 0, at_ => .ok ([], at_)
 | k + 1, at_ => match Qcd bits at_ n with
  | .error e => .error e
  | .ok q => if okLB q.1 = false then .error 80 else match ttGo bits n k q.2 with
   | .error e => .error e
   | .ok q' => .ok (q.1 :: q'.1, q'.2)
def Qc4 (bits : List Bool) (at_ n : Nat) : Except Int ((List (List Nat) × List Nat) × Nat) :=
 if (Qex bits at_ 3).2 ≠ 0 then .error (Qex bits at_ 3).2 else
 if (Qex bits at_ 3).1 < 2 ∨ 6 < (Qex bits at_ 3).1 then .error 110 else
 if (Qex bits (at_ + 3) 15).2 ≠ 0 then .error (Qex bits (at_ + 3) 15).2 else
 if (Qex bits (at_ + 3) 15).1 = 0 then .error 110 else
 match ptGo bits (Qex bits at_ 3).1 (List.range (Qex bits at_ 3).1) (Qex bits (at_ + 3) 15).1 (at_ + 18) with
 | .error e => .error e
 | .ok q => match ttGo bits n (Qex bits at_ 3).1 q.2 with
  | .error e => .error e
  | .ok q' => .ok ((q'.1, q.1), q'.2)
def mayP (T : List (List Nat)) (P : List Nat) : Prop := 2 <= T.length /\ T.length <= 6 /\ 1 <= P.length /\ P.length <= 32767 /\ (∀ t ∈ T, t.length = (T.getD 0 []).length /\ 3 <= t.length /\ okL t) /\ ∀ k ∈ P, k < T.length
theorem QDd : ∀ (k most n : Nat) (r : List Bool), n + k <= most -> unS (List.replicate k true ++ false :: r) most n = (n + k, 0)
 | 0, most, n, r, _ => rfl
 | k + 1, most, n, r, h => by
  rw [List.replicate_succ, List.cons_append, unS, if_neg (by omega), QDd k most (n + 1) r (by omega)]
  congr 1;omega
theorem QOw (many : Nat) : ∀ (P li : List Nat) {bits : List Bool} {at_ : Nat} {r : List Bool}, li.length = many -> (∀ k ∈ P, k ∈ li) -> bits.drop at_ = Qd1 li P ++ r -> ptGo bits many li P.length at_ = .ok (P, at_ + (Qd1 li P).length)
 | [], li, bits, at_, r, _, _, _ => by simp [ptGo, Qd1]
 | p :: P, li, bits, at_, r, hl, hm, hb => by
  have hp := hm p (by simp)
  have h1 := List.idxOf_lt_length_iff.2 hp
  have hb' : bits.drop at_ = (List.replicate (li.idxOf p) true ++ [false]) ++ (Qd1 (Qfw li (li.idxOf p)) P ++ r) := by rw [hb, Qd1];simp
  have hu : unS (bits.drop at_) (many - 1) 0 = (li.idxOf p, 0) := by
   rw [hb', List.append_assoc, List.singleton_append, QDd _ _ _ _ (by omega), Nat.zero_add]
  have hd := Qbl hb'
  simp only [List.length_append, List.length_replicate, List.length_singleton] at hd
  rw [List.length_cons, ptGo, hu]
  simp only
  rw [Nat.add_assoc, QOw many P (Qfw li (li.idxOf p)) (by rw [Qhg h1, hl]) (fun k hk => (Qjb h1 k).2 (hm k (by simp [hk]))) hd, Qqn hp]
  simp [Qd1];omega
theorem QOx (n : Nat) : ∀ (T : List (List Nat)) {bits : List Bool} {at_ : Nat} {r : List Bool}, (∀ t ∈ T, t.length = n /\ okL t) -> bits.drop at_ = T.flatMap Qcq ++ r -> ttGo bits n T.length at_ = .ok (T, at_ + (T.flatMap Qcq).length)
 | [], bits, at_, r, _, _ => by simp [ttGo]
 | t :: T, bits, at_, r, hT, hb => by
  obtain ⟨h1, h2⟩ := hT t (by simp)
  have hb' : bits.drop at_ = Qcq t ++ (T.flatMap Qcq ++ r) := by rw [hb];simp
  have hne : t ≠ [] := fun e => by subst e;have := h2.1;simp at this
  have ht := QAr hne h2.2.2.1 hb'
  rw [h1] at ht
  rw [List.length_cons, ttGo, ht]
  simp only
  rw [if_neg (by rw [Qna.2 h2];simp), QOx n T (fun t ht => hT t (by simp [ht])) (Qbl hb')]
  simp;omega
theorem Qug {n v : Nat} {bits : List Bool} {at_ : Nat} {r : List Bool} (h0 : 0 < n) (hv : v < 2 ^ n) (hb : bits.drop at_ = Qbc n v ++ r) : Qex bits at_ n = (v, 0) /\ bits.drop (at_ + n) = r := by
 have hlen : bits.length - at_ = n + r.length := by rw [<- List.length_drop, hb, List.length_append, Qas]
 have hd := Qbl hb
 rw [Qas] at hd
 refine ⟨?_, hd⟩
 have hl := Qas n v
 have ht : (bits.drop at_).take n = Qbc n v := by
  rw [hb, List.take_append_of_le_length (by omega), List.take_of_length_le (by omega)]
 rw [Qex, ht, Qef, Nat.mod_eq_of_lt hv]
 rw [if_neg (by omega)]
theorem QDe {T : List (List Nat)} {P : List Nat} (h : mayP T P) {bits : List Bool} {at_ : Nat} {r : List Bool} (hb : bits.drop at_ = Qbz T P ++ r) : Qc4 bits at_ (T.getD 0 []).length = .ok ((T, P), at_ + (Qbz T P).length) := by
 obtain ⟨h1, h2, h3, h4, h5, h6⟩ := h
 unfold Qbz at hb
 simp only [List.append_assoc] at hb
 obtain ⟨t1, d1⟩ := Qug (by omega) (by omega) hb
 obtain ⟨t2, d2⟩ := Qug (by omega) (by omega) d1
 rw [Nat.add_assoc] at d2
 have p1 := QOw T.length P (List.range T.length) (by simp) (fun k hk => by simpa using h6 k hk) d2
 have d3 := Qbl d2
 have p2 := QOx (T.getD 0 []).length T (fun t ht => ⟨(h5 t ht).1, (h5 t ht).2.2⟩) d3
 rw [Qc4, t1, t2]
 simp only
 rw [if_neg (by simp), if_neg (by omega), if_neg (by simp), if_neg (by omega), p1]
 simp only
 rw [p2]
 simp [Qbz, Qas];omega
theorem Qkq {l : List Bool} {at_ n : Nat} (h : l.length < at_ + n) : Qex l at_ n = (0, 10) := if_pos h
theorem Qlo {l : List Bool} {at_ n : Nat} (h : at_ + n <= l.length) : Qex l at_ n = (numB ((l.drop at_).take n), 0) := if_neg (by omega)
theorem QH9 : ∀ (r : List Bool) (most n : Nat), n <= most -> (unS r most n).2 = 0 -> n <= (unS r most n).1 /\ (unS r most n).1 <= most /\ (unS r most n).1 + 1 <= n + r.length
 | [], most, n, _, h => by simp [unS] at h
 | false :: r, most, n, hn, h => by simp [unS];omega
 | true :: r, most, n, hn, h => by
  rw [unS] at h ⊢
  split
  ·
   rename_i e;rw [if_pos e] at h;simp at h
  ·
   rename_i e
   rw [if_neg e] at h
   have := QH9 r most (n + 1) (by omega) h
   simp;omega
theorem Qrr : ∀ (m : Nat) (r : List Bool) (now k at_ : Nat) (q : List Nat × Nat), r.length <= m -> tdGo r now k at_ = .ok q -> q.1.length = k /\ q.2 <= at_ + r.length /\ at_ <= q.2
 | _, [], now, k, at_, q, _, h => by
  rw [tdGo] at h
  split at h
  ·
   cases h;simp;omega
  ·
   split at h <;> cases h
 | 0, b :: r, now, k, at_, q, hm, h => by simp at hm
 | m + 1, false :: r, now, k, at_, q, hm, h => by
  rw [tdGo] at h
  split at h
  ·
   cases h;simp;omega
  ·
   split at h
   ·
    cases h
   ·
    split at h
    ·
     cases h
    ·
     rename_i q' hq
     cases h
     have := Qrr m r _ _ _ q' (by simpa using hm) hq
     simp;omega
 | m + 1, [true], now, k, at_, q, hm, h => by
  rw [tdGo] at h
  split at h
  ·
   cases h;simp;omega
  ·
   split at h <;> cases h
 | m + 1, true :: d :: r, now, k, at_, q, hm, h => by
  rw [tdGo] at h
  split at h
  ·
   cases h;simp;omega
  ·
   split at h
   ·
    cases h
   ·
    have := Qrr m r _ _ _ q (by simp at hm;omega) h
    simp;omega
theorem Qrs : ∀ (m : Nat) (r : List Bool) (now k at_ : Nat) (e : Int), r.length <= m -> tdGo r now k at_ = .error e -> e ≠ 0
 | _, [], now, k, at_, e, _, h => by
  rw [tdGo] at h
  split at h
  ·
   cases h
  ·
   split at h <;> (cases h;omega)
 | 0, b :: r, now, k, at_, e, hm, h => by simp at hm
 | m + 1, false :: r, now, k, at_, e, hm, h => by
  rw [tdGo] at h
  split at h
  ·
   cases h
  ·
   split at h
   ·
    cases h;omega
   ·
    split at h
    ·
     rename_i e' he
     cases h
     exact Qrs m r _ _ _ _ (by simpa using hm) he
    ·
     cases h
 | m + 1, [true], now, k, at_, e, hm, h => by
  rw [tdGo] at h
  split at h
  ·
   cases h
  ·
   split at h <;> (cases h;omega)
 | m + 1, true :: d :: r, now, k, at_, e, hm, h => by
  rw [tdGo] at h
  split at h
  ·
   cases h
  ·
   split at h
   ·
    cases h;omega
   ·
    exact Qrs m r _ _ _ e (by simp at hm;omega) h
theorem Qmd {bits : List Bool} {at_ n : Nat} {q : List Nat × Nat} (h : Qcd bits at_ n = .ok q) : q.1.length = n /\ q.2 <= bits.length := by
 unfold Qcd at h
 split at h
 ·
  cases h
 ·
  rename_i h1
  have h2 : at_ + 5 <= bits.length := by
   rcases Nat.lt_or_ge bits.length (at_ + 5) with h3 | h3
   ·
    rw [Qkq h3] at h1;simp at h1
   ·
    exact h3
  have := Qrr _ _ _ _ _ _ (Nat.le_refl _) h
  rw [List.length_drop] at this
  omega
theorem Qkr {bits : List Bool} {at_ n : Nat} {e : Int} (h : Qcd bits at_ n = .error e) : e ≠ 0 := by
 unfold Qcd at h
 split at h
 ·
  rename_i h1;cases h;exact h1
 ·
  exact Qrs _ _ _ _ _ _ (Nat.le_refl _) h
theorem Qw0 {bits : List Bool} {many : Nat} (hm : 0 < many) : ∀ (k : Nat) (li : List Nat) (at_ : Nat) (q : List Nat × Nat), li.length = many -> at_ <= bits.length -> ptGo bits many li k at_ = .ok q -> q.1.length = k /\ q.2 <= bits.length /\ ∀ x ∈ q.1, x ∈ li
 | 0, li, at_, q, hl, ha, h => by rw [ptGo] at h;cases h;simp;exact ha
 | k + 1, li, at_, q, hl, ha, h => by
  rw [ptGo] at h
  split at h
  ·
   cases h
  ·
   rename_i h1
   have h1 := Decidable.not_not.1 h1
   have h2 := QH9 _ _ _ (by omega) h1
   rw [List.length_drop] at h2
   generalize (unS (bits.drop at_) (many - 1) 0).1 = u at *
   have hu : u < li.length := by omega
   split at h
   ·
    cases h
   ·
    rename_i q' hq
    cases h
    obtain ⟨a, b, c⟩ := Qw0 hm k _ _ q' (by rw [Qhg hu];exact hl) (by omega) hq
    refine ⟨by simp [a], b, fun x hx => ?_⟩
    rcases List.mem_cons.1 hx with rfl | hx
    ·
     rw [List.getD_eq_getElem?_getD, List.getElem?_eq_getElem hu];exact List.getElem_mem hu
    ·
     exact (Qjb hu x).1 (c x hx)
theorem Qrt {bits : List Bool} {many : Nat} : ∀ (k : Nat) (li : List Nat) (at_ : Nat) (e : Int), ptGo bits many li k at_ = .error e -> e ≠ 0
 | 0, li, at_, e, h => by rw [ptGo] at h;cases h
 | k + 1, li, at_, e, h => by
  rw [ptGo] at h
  split at h
  ·
   rename_i h1
   cases h
   split
   ·
    omega
   ·
    exact h1
  ·
   split at h
   ·
    rename_i e' he
    cases h
    exact Qrt k _ _ _ he
   ·
    cases h
theorem Qw1 {bits : List Bool} {n : Nat} : ∀ (k at_ : Nat) (q : List (List Nat) × Nat), at_ <= bits.length -> ttGo bits n k at_ = .ok q -> q.1.length = k /\ q.2 <= bits.length /\ ∀ t ∈ q.1, t.length = n /\ okLB t = true
 | 0, at_, q, ha, h => by rw [ttGo] at h;cases h;simp;exact ha
 | k + 1, at_, q, ha, h => by
  rw [ttGo] at h
  split at h
  ·
   cases h
  ·
   rename_i q1 h1
   have h2 := Qmd h1
   split at h
   ·
    cases h
   ·
    rename_i h3
    split at h
    ·
     cases h
    ·
     rename_i q' hq
     cases h
     obtain ⟨a, b, c⟩ := Qw1 k _ q' h2.2 hq
     refine ⟨by simp [a], b, fun t ht => ?_⟩
     rcases List.mem_cons.1 ht with rfl | ht
     ·
      exact ⟨h2.1, by simpa using h3⟩
     ·
      exact c t ht
theorem Qru {bits : List Bool} {n : Nat} : ∀ (k at_ : Nat) (e : Int), ttGo bits n k at_ = .error e -> e ≠ 0
 | 0, at_, e, h => by rw [ttGo] at h;cases h
 | k + 1, at_, e, h => by
  rw [ttGo] at h
  split at h
  ·
   rename_i e' he;cases h;exact Qkr he
  ·
   split at h
   ·
    cases h;omega
   ·
    split at h
    ·
     rename_i e' he;cases h;exact Qru k _ _ he
    ·
     cases h
theorem Qjy {bits : List Bool} {at_ n : Nat} {q : (List (List Nat) × List Nat) × Nat} (hn : 3 <= n) (h : Qc4 bits at_ n = .ok q) : mayP q.1.1 q.1.2 /\ (q.1.1.getD 0 []).length = n /\ q.2 <= bits.length := by
 unfold Qc4 at h
 split at h
 ·
  cases h
 rename_i h1
 split at h
 ·
  cases h
 rename_i h2
 split at h
 ·
  cases h
 rename_i h3
 split at h
 ·
  cases h
 rename_i h4
 have h5 : at_ + 3 + 15 <= bits.length := by
  rcases Nat.lt_or_ge bits.length (at_ + 3 + 15) with h3' | h3'
  ·
   rw [Qkq h3'] at h3;simp at h3
  ·
   exact h3'
 have h6 : (Qex bits (at_ + 3) 15).1 <= 32767 := by
  rw [Qlo h5]
  have := Qev ((bits.drop (at_ + 3)).take 15)
  have h7 : ((bits.drop (at_ + 3)).take 15).length = 15 := by simp;omega
  rw [h7] at this
  simp only
  omega
 generalize (Qex bits (at_ + 3) 15).1 = np at *
 generalize (Qex bits at_ 3).1 = many at *
 split at h
 ·
  cases h
 rename_i q1 hq1
 split at h
 ·
  cases h
 rename_i q2 hq2
 cases h
 obtain ⟨a, b, c⟩ := Qw0 (by omega) np _ _ q1 (by simp) (by omega) hq1
 obtain ⟨a2, b2, c2⟩ := Qw1 many _ q2 b hq2
 have h0 : (q2.1.getD 0 []).length = n := by
  rw [List.getD_eq_getElem?_getD, List.getElem?_eq_getElem (by omega)]
  exact (c2 _ (List.getElem_mem _)).1
 refine ⟨⟨by simp only;omega, by simp only;omega, by simp only;omega, by simp only;omega, fun t ht => ?_, fun k hk => ?_⟩, h0, b2⟩
 ·
  simp only at ht ⊢
  rw [h0]
  exact ⟨(c2 t ht).1, by have := (c2 t ht).1;omega, Qna.1 (c2 t ht).2⟩
 ·
  have := c k hk
  simp at this ⊢
  omega
theorem Qme {bits : List Bool} {at_ n : Nat} {e : Int} (h : Qc4 bits at_ n = .error e) : e ≠ 0 := by
 unfold Qc4 at h
 split at h
 ·
  rename_i h1;cases h;exact h1
 split at h
 ·
  cases h;omega
 split at h
 ·
  rename_i h1;cases h;exact h1
 split at h
 ·
  cases h;omega
 split at h
 ·
  rename_i e' he;cases h;exact Qrt _ _ _ _ he
 split at h
 ·
  rename_i e' he;cases h;exact Qru _ _ _ he
 ·
  cases h
def Qf5 (T : List (List Nat)) (P : List Nat) : List Nat -> Nat -> List Bool
 | [], _ => []
 | s :: r, i => Qmu (T.getD (P.getD (i / 50) 0) []) s ++ Qf5 T P r (i + 1)
def putC (T : List (List Nat)) : List Nat -> List Nat -> List Bool
 | [], _ => []
 | p :: P, list => Qeo (T.getD p []) (list.take 50) ++ putC T P (list.drop 50)
def Qfh (T : List (List Nat)) (bits : List Bool) (fin : Nat) : List Nat -> Nat -> Except Int (List Nat × Nat)
 | [], _ => .error 110
 | p :: P, at_ => match Qd9 (T.getD p []) bits fin 50 at_ with
  | .error e => .error e
  | .ok q => if q.1.getLast? = some fin then .ok q else match Qfh T bits fin P q.2 with
   | .error e => .error e
   | .ok q' => .ok (q.1 ++ q'.1, q'.2)
theorem Qod (T : List (List Nat)) (P : List Nat) (j : Nat) (b : List Nat) : ∀ (a : List Nat) (m : Nat), a.length + m <= 50 -> Qf5 T P (a ++ b) (50 * j + m) = Qeo (T.getD (P.getD j 0) []) a ++ Qf5 T P b (50 * j + m + a.length)
 | [], m, _ => rfl
 | s :: a, m, h => by
  simp at h
  rw [List.cons_append, Qf5, show (50 * j + m) / 50 = j by omega, show 50 * j + m + 1 = 50 * j + (m + 1) by omega, Qod T P j b a (m + 1) (by omega)]
  simp only [Qeo, List.flatMap_cons, List.append_assoc, List.length_cons]
  congr 3;omega
theorem Qqo (T : List (List Nat)) (P : List Nat) : ∀ (Q : List Nat) (j : Nat) (list : List Nat), P.drop j = Q -> list.length <= 50 * Q.length -> Qf5 T P list (50 * j) = putC T Q list
 | [], j, list, hQ, hl => by
  simp at hl
  subst hl
  rfl
 | p :: Q, j, list, hQ, hl => by
  have hj : P.getD j 0 = p := by
   have := congrArg (fun l => l.getD 0 0) hQ
   simpa [List.getD_eq_getElem?_getD, List.getElem?_drop] using this
  have h1 := Qod T P j (list.drop 50) (list.take 50) 0 (by simp;omega)
  rw [List.take_append_drop, Nat.add_zero, hj] at h1
  rw [h1, putC]
  congr 1
  rcases Nat.lt_or_ge list.length 50 with h2 | h2
  ·
   have hd : list.drop 50 = [] := List.drop_eq_nil_of_le (by omega)
   rw [hd]
   clear hl h1
   generalize 50 * j + (list.take 50).length = i
   have : ∀ Q : List Nat, putC T Q [] = [] := fun Q => by induction Q with
    | nil => rfl
    | cons q Q ih => rw [putC];simp [Qeo, ih]
   rw [this];rfl
  ·
   rw [List.length_take, Nat.min_eq_left h2, show 50 * j + 50 = 50 * (j + 1) by omega]
   refine Qqo T P Q (j + 1) _ ?_ (by simp at hl ⊢;omega)
   rw [<- List.drop_drop, hQ];rfl
theorem Qyn (T : List (List Nat)) : ∀ Q : List Nat, putC T Q [] = []
 | [] => rfl
 | q :: Q => by rw [putC, List.drop_nil, Qyn T Q];rfl
theorem QDf {T : List (List Nat)} {n fin : Nat} (hf : fin < n) (hT : ∀ t, t < T.length -> (T.getD t []).length = n /\ okL (T.getD t [])) : ∀ (P body : List Nat) {bits : List Bool} {at_ : Nat} {r : List Bool}, (∀ k ∈ P, k < T.length) -> (∀ s ∈ body, s < n /\ s ≠ fin) -> (body ++ [fin]).length <= 50 * P.length -> bits.drop at_ = putC T P (body ++ [fin]) ++ r ->
  Qfh T bits fin P at_ = .ok (body ++ [fin], at_ + (putC T P (body ++ [fin])).length)
 | [], body, bits, at_, r, _, _, hl, _ => by simp at hl
 | p :: P, body, bits, at_, r, hP, hs, hl, hb => by
  obtain ⟨h1, h2⟩ := hT p (hP p (by simp))
  rw [putC, List.append_assoc] at hb
  rw [Qfh, putC]
  rcases Nat.lt_or_ge body.length 50 with h3 | h3
  ·
   have e1 : (body ++ [fin]).take 50 = body ++ [fin] := List.take_of_length_le (by simp;omega)
   have e2 : (body ++ [fin]).drop 50 = [] := List.drop_eq_nil_of_le (by simp;omega)
   rw [e1, e2, Qyn] at hb ⊢
   rw [Qkp h2 fin (by omega) body 50 (fun s hs' => by rw [h1];exact hs s hs') (by omega) hb]
   simp only
   rw [if_pos (by simp), List.append_nil]
  ·
   have e1 : (body ++ [fin]).take 50 = body.take 50 := by rw [List.take_append_of_le_length h3]
   have e2 : (body ++ [fin]).drop 50 = body.drop 50 ++ [fin] := by rw [List.drop_append_of_le_length h3]
   rw [e1, e2] at hb ⊢
   have hmem : ∀ s ∈ body.take 50, s < (T.getD p []).length /\ s ≠ fin := fun s hs' => by rw [h1];exact hs s (List.mem_of_mem_take hs')
   rw [Quf h2 fin (body.take 50) 50 hmem (by rw [List.length_take];omega) hb]
   simp only
   have hlast : ¬ (body.take 50).getLast? = some fin := fun e => (hmem fin (List.mem_of_getLast? e)).2 rfl
   rw [if_neg hlast, QDf hf hT P (body.drop 50) (fun k hk => hP k (by simp [hk])) (fun s hs' => hs s (List.mem_of_mem_drop hs')) (by simp at hl ⊢;omega) (Qbl hb)]
   simp only [Except.ok.injEq, Prod.mk.injEq, List.length_append]
   refine ⟨?_, by omega⟩
   rw [<- List.append_assoc, List.take_append_drop]
def Qfx (list : List Nat) (n : Nat) : List Nat := (List.range n).map fun s => list.count s
def Qjz (list P : List Nat) (t n : Nat) : List Nat := (List.range n).map fun s => (List.range list.length).countP fun i => list.getD i 0 == s && P.getD (i / 50) 0 == t
def Qlp (tab chunk : List Nat) : Nat := (chunk.map fun s => tab.getD s 0).sum
def Qlq (c : Nat -> Nat) : Nat -> Nat
 | 0 => 0
 | t + 1 => if c (t + 1) < c (Qlq c t) then t + 1 else Qlq c t
def Qc5 (list : List Nat) (k : Nat) : List Nat := (list.drop (50 * k)).take 50
def Qb8 (m : Nat) : Nat := (m + 49) / 50
def Qel (m : Nat) : Nat := if m < 200 then 2 else if m < 600 then 3 else if m < 1200 then 4 else if m < 2400 then 5 else 6
def Qe1 (list : List Nat) (many : Nat) (T : List (List Nat)) : List Nat := (List.range (Qb8 list.length)).map fun k => Qlq (fun t => Qlp (T.getD t []) (Qc5 list k)) (many - 1)
def Qgy (list : List Nat) (n many : Nat) (x : List (List Nat) × List Nat) : List (List Nat) × List Nat :=
 ((List.range many).map fun t => lenS (Qjz list (Qe1 list many x.1) t n) 17, Qe1 list many x.1)
def Qhh (n many : Nat) : List (List Nat) := (List.range many).map fun t => (List.range n).map fun s => if s * many / n = t then 1 else 15
def Qdc (list : List Nat) (n many : Nat) : Nat -> List (List Nat) × List Nat
 | 0 => (Qhh n many, List.replicate (Qb8 list.length) 0)
 | k + 1 => Qgy list n many (Qdc list n many k)
def Qem (list : List Nat) (n : Nat) : List (List Nat) × List Nat := Qdc list n (Qel list.length) 4
def Qb7 (list : List Nat) (n : Nat) : List (List Nat) × List Nat := ([Qfr (Qfx list n), Qfr (Qfx list n)], List.replicate (Qb8 list.length) 0)
def Qib (x : List (List Nat) × List Nat) (list : List Nat) : Nat := (Qbz x.1 x.2).length + (Qf5 x.1 x.2 list 0).length
def Qf6 (list : List Nat) (n : Nat) : List (List Nat) × List Nat := if Qib (Qb7 list n) list < Qib (Qem list n) list then Qb7 list n else Qem list n
def Qgk (list : List Nat) (n : Nat) : Prop := 3 <= n /\ n <= 258 /\ 1 <= list.length /\ list.length <= 1638350 /\ ∀ s ∈ list, s < n
theorem Qnb (c : Nat -> Nat) : ∀ t, Qlq c t <= t
 | 0 => Nat.le_refl _
 | t + 1 => by
  have := Qnb c t
  rw [Qlq];split <;> omega
theorem Qqp (m : Nat) : 2 <= Qel m /\ Qel m <= 6 := by
 unfold Qel;(repeat' split) <;> omega
theorem Qhi {m : Nat} (h : 1 <= m) (h2 : m <= 1638350) : 1 <= Qb8 m /\ Qb8 m <= 32767 /\ m <= 50 * Qb8 m := by unfold Qb8;omega
theorem Qiy {α : Type} (f : Nat -> α) (n : Nat) (d : α) (i : Nat) (h : i < n) : ((List.range n).map f).getD i d = f i := by
 rw [List.getD_eq_getElem?_getD, List.getElem?_map, List.getElem?_range h];rfl
theorem Qqq {list : List Nat} {n : Nat} (h : Qgk list n) : mayP (Qem list n).1 (Qem list n).2 /\ ((Qem list n).1.getD 0 []).length = n := by
 obtain ⟨h1, h2, h3, h4, h5⟩ := h
 obtain ⟨t1, t2⟩ := Qqp list.length
 obtain ⟨g1, g2, _⟩ := Qhi h3 h4
 unfold Qem
 generalize Qel list.length = many at *
 rw [Qdc]
 generalize Qdc list n many 3 = x
 have hlen : ∀ P t, (lenS (Qjz list P t n) 17).length = n /\ okL (lenS (Qjz list P t n) 17) := fun P t => by
  have hc : (Qjz list P t n).length = n := by simp [Qjz]
  obtain ⟨a, b, c⟩ := QDa (w := Qjz list P t n) (most := 17) (by omega) (by omega) (by omega) (by omega) (fun x hx => by
   obtain ⟨s, _, rfl⟩ := List.mem_map.1 hx
   have := List.countP_le_length (p := fun i => list.getD i 0 == s && P.getD (i / 50) 0 == t) (l := List.range list.length)
   simp only [List.length_range] at this
   omega)
  rw [hc] at a
  exact ⟨a, by omega, by omega, fun x hx => by have := b x hx;omega, by omega⟩
 have h0 : ((Qgy list n many x).1.getD 0 []).length = n := by
  unfold Qgy
  simp only
  rw [Qiy _ _ _ _ (by omega)]
  exact (hlen _ _).1
 refine ⟨⟨by simp [Qgy];omega, by simp [Qgy];omega, by simp [Qgy, Qe1];omega, by simp [Qgy, Qe1];omega, fun t ht => ?_, fun k hk => ?_⟩, h0⟩
 ·
  rw [h0]
  obtain ⟨i, _, rfl⟩ := List.mem_map.1 ht
  have := hlen (Qe1 list many x.1) i
  exact ⟨this.1, by omega, this.2⟩
 ·
  simp only [Qgy, Qe1, List.mem_map] at hk
  obtain ⟨j, _, rfl⟩ := hk
  have := Qnb (fun t => Qlp (x.1.getD t []) (Qc5 list j)) (many - 1)
  simp only [Qgy, List.length_map, List.length_range]
  omega
theorem Quh (w : List Nat) : ∀ x ∈ Qfr w, x = Qfb w.length ∨ x = Qfb w.length + 1 := by
 intro x hx
 obtain ⟨i, _, rfl⟩ := List.mem_map.1 hx
 unfold Qmt
 split <;> simp
theorem Qw2 {list : List Nat} {n : Nat} (h : Qgk list n) : (Qfr (Qfx list n)).length = n /\ okL (Qfr (Qfx list n)) := by
 obtain ⟨h1, h2, h3, h4, h5⟩ := h
 have hc : (Qfx list n).length = n := by simp [Qfx]
 obtain ⟨a, b, c⟩ := Qyk (w := Qfx list n) (by omega) (by omega)
 rw [hc] at a
 exact ⟨a, by omega, by omega, fun x hx => by have := b x hx;omega, by omega⟩
theorem Qyo {list : List Nat} {n : Nat} (h : Qgk list n) : mayP (Qb7 list n).1 (Qb7 list n).2 /\ ((Qb7 list n).1.getD 0 []).length = n := by
 obtain ⟨a, b⟩ := Qw2 h
 obtain ⟨h1, h2, h3, h4, h5⟩ := h
 obtain ⟨g1, g2, _⟩ := Qhi h3 h4
 unfold Qb7
 simp only
 generalize Qfr (Qfx list n) = l at *
 refine ⟨⟨by simp, by simp, by simp;omega, by simp;omega, fun t ht => ?_, fun k hk => ?_⟩, by simpa using a⟩
 ·
  have : t = l := by simpa using ht
  subst this
  exact ⟨rfl, by omega, b⟩
 ·
  have := List.eq_of_mem_replicate hk
  subst this;simp
theorem Qyp {list : List Nat} {n : Nat} (h : Qgk list n) : mayP (Qf6 list n).1 (Qf6 list n).2 /\ ((Qf6 list n).1.getD 0 []).length = n := by
 unfold Qf6
 split
 ·
  exact Qyo h
 ·
  exact Qqq h
theorem Qoe (list : List Nat) (n : Nat) : (Qf6 list n).2.length = Qb8 list.length := by
 unfold Qf6
 split
 ·
  simp [Qb7]
 ·
  simp [Qem, Qdc, Qgy, Qe1]
theorem Qmf : ∀ g, (Qd1 [0, 1] (List.replicate g 0)).length = g
 | 0 => rfl
 | g + 1 => by
  rw [List.replicate_succ, Qd1]
  have e : Qfw [0, 1] (List.idxOf 0 [0, 1]) = [0, 1] := rfl
  have e2 : List.idxOf 0 [0, 1] = 0 := rfl
  rw [e, e2]
  simp [Qmf g]
theorem Qks {T : List (List Nat)} {P : List Nat} {c : Nat} (h : ∀ t ∈ T, ∀ x ∈ t, x <= c) : ∀ (list : List Nat) (i : Nat), (Qf5 T P list i).length <= list.length * c
 | [], i => by simp [Qf5]
 | s :: r, i => by
  have h1 := Qks (P := P) h r (i + 1)
  have h2 : (Qmu (T.getD (P.getD (i / 50) 0) []) s).length <= c := by
   have := Qqm (l := T.getD (P.getD (i / 50) 0) []) (c := c) (fun x hx => by
    by_cases ht : P.getD (i / 50) 0 < T.length
    ·
     refine h (T.getD (P.getD (i / 50) 0) []) ?_ x hx
     rw [List.getD_eq_getElem?_getD, List.getElem?_eq_getElem ht];exact List.getElem_mem ht
    ·
     rw [List.getD_eq_getElem?_getD, List.getElem?_eq_none (by omega)] at hx;simp at hx) [s]
   simpa [Qeo] using this
  simp only [Qf5, List.length_append, List.length_cons, Nat.succ_mul]
  omega
theorem Qof {list : List Nat} {n : Nat} (h : Qgk list n) : Qib (Qf6 list n) list <= 18 + Qb8 list.length + 2 * (5 + 3 * n) + list.length * 9 := by
 have h1 : Qib (Qf6 list n) list <= Qib (Qb7 list n) list := by
  unfold Qf6
  split <;> omega
 refine Nat.le_trans h1 ?_
 obtain ⟨a, b⟩ := Qw2 h
 have hc : (Qfx list n).length = n := by simp [Qfx]
 obtain ⟨h3, h4, h5, h6, h7⟩ := h
 have hfl := Quh (Qfx list n)
 have hok := (Qyk (w := Qfx list n) (by omega) (by omega)).2.1
 have hp := Qks (T := (Qb7 list n).1) (P := (Qb7 list n).2) (c := 9) (fun t ht x hx => by
  have : t = Qfr (Qfx list n) := by simpa [Qb7] using ht
  subst this
  exact (hok x hx).2) list 0
 have hd : (Qcq (Qfr (Qfx list n))).length <= 5 + 3 * n := by
  rw [Qcq, List.length_append, Qas]
  have := Qmc (k := Qfb (Qfx list n).length) (Qfr (Qfx list n)) ((Qfr (Qfx list n)).getD 0 0) (hfl _ (by
   generalize Qfr (Qfx list n) = l at *
   cases l with
   | nil => simp at a;omega
   | cons x l => simp)) hfl
  rw [a] at this
  omega
 have hb : (Qbz (Qb7 list n).1 (Qb7 list n).2).length = 18 + Qb8 list.length + 2 * (Qcq (Qfr (Qfx list n))).length := by
  have e : List.range 2 = [0, 1] := rfl
  simp only [Qbz, Qb7, List.length_append, Qas, List.length_cons, List.length_nil, Nat.zero_add, Nat.reduceAdd, e, Qmf, List.flatMap_cons, List.flatMap_nil, List.append_nil]
  omega
 unfold Qib
 omega
def ascB : List UInt8 -> Bool
 | [] => true
 | [_] => true
 | a :: b :: r => decide (a.toNat < b.toNat) && ascB (b :: r)
def Qmg (l : List UInt8) : Bool := ascB l && !l.isEmpty
theorem Qj0 (l : List UInt8) (hl : l.length <= 1000000000000) (w : World) : Does Tryz.prog 73 #[Str l] w fun v w' => w' = w /\ v = .bool (Qmg l) := by
 refine En [Str l] 20 Tryz.func73 ?_
 refine VS [0] ?_
 refine VS [0, 3] ?_
 refine Qag ?_
 refine Qaj [0, 3] (fun m e w' => ∃ (i : Nat), Is e [(0, Str l), (3, .int .i64 i)] /\ Is w' w /\ 1 <= i /\ i <= max l.length 1 /\ ascB (l.drop (i - 1)) = ascB l /\ m = l.length - i) (l.length - 1) ?_ ?_
 ·
  refine Qs ?_
  exact ⟨1, rfl, rfl, by omega, by omega, rfl, rfl⟩
 rintro m e w' ⟨i, rfl, rfl, hi1, hi2, ha, hm⟩
 refine VS [0, 3, 7] ?_
 refine VD (fun h => ?_) (fun h => ?_)
 ·
  have e1 : l.drop (i - 1) = l.getD (i - 1) 0 :: l.getD i 0 :: l.drop (i + 1) := by
   rw [drop_getD 0 (l := l) (i := i - 1) (by omega), show i - 1 + 1 = i by omega, drop_getD 0 (l := l) (i := i) (by omega)]
  have e2 : l.drop i = l.getD i 0 :: l.drop (i + 1) := drop_getD 0 (by omega)
  rw [e1, ascB, <- e2] at ha
  refine Qac ?_
  refine VB ?_
  refine Vq [0, 3, 17] fun K hK => ?_
  (repeat first | refine Qo ?_ | refine Qp ?_)
  apply hK;clear hK
  refine VD (fun h => ?_) (fun h => ?_)
  ·
   refine VS [2] ?_
   refine Qah (Qat rfl rfl ⟨rfl, ?_⟩)
   rw [decide_eq_false (by omega), Bool.false_and] at ha
   rw [Qmg, <- ha, Bool.false_and]
  rw [decide_eq_true (by omega), Bool.true_and] at ha
  refine Qac ?_
  refine Qar ?_
  refine VS [0, 3] ?_
  refine Qad ?_
  refine Qs ?_
  exact ⟨l.length - (i + 1), by omega, i + 1, rfl, rfl, by omega, by omega, by rw [Nat.add_sub_cancel];exact ha, rfl⟩
 ·
  refine Qak rfl ?_
  refine VS [2] ?_
  refine Qah (Qat rfl rfl ⟨rfl, ?_⟩)
  have e1 : ascB (l.drop (i - 1)) = true := by
   have hlen : (l.drop (i - 1)).length <= 1 := by rw [List.length_drop];omega
   generalize l.drop (i - 1) = d at *
   match d, hlen with
   | [], _ => rfl
   | [_], _ => rfl
   | _ :: _ :: _, h => simp at h
  rw [Qmg, <- ha, e1]
  cases l <;> rfl
def Qh8 (li : List UInt8) (at_ : Nat) : List UInt8 := li.getD at_ 0 :: (li.take at_ ++ li.drop (at_ + 1))
theorem Qqr (li : List UInt8) (g cap at_ : Nat) (hat : at_ < li.length) (hl : li.length <= 1000000000000) (w0 w : World) (B : List Nat) (G : List Res) (hL : Heap w0 B w (Res.row 5 1 (some ⟨g, 0, none⟩) li.length cap (Qao li) :: G)) :
  Does Tryz.prog 74 #[.slice (some ⟨g, 0, none⟩) li.length cap, .int .i64 at_] w
   fun v w' => Heap w0 B w' (Res.row 5 1 (some ⟨g, 0, none⟩) li.length cap (Qao (Qh8 li at_)) :: G) /\ v = .int .u8 (li.getD at_ 0).toNat := by
 refine En [.slice (some ⟨g, 0, none⟩) li.length cap, .int .i64 at_] 22 Tryz.func74 ?_
 refine VS [0, 1] ?_
 refine VQ [0, 1, 5] fun K hK => ?_
 (repeat first | refine Qo ?_ | refine Qp ?_ | (refine Gc hL ?_;(try refine Qs ?_)))
 apply hK;clear hK
 refine VL [0, 5] 7 fun K hK => ?_
 obtain ⟨hx1, hx2, hx3, hx4⟩ := hL.at 0 rfl
 clear hx1 hx4
 refine ⟨I64.mk (by omega) (by omega), ⟨by omega, by omega, by omega⟩, ⟨by omega, by omega⟩, ?_⟩
 have hsrc : RS w (some ⟨g, 0, none⟩) at_ 1 (Qao (li.take at_)) := by
  rw [<- bytesV_take]
  have h := (Qa8 (hL.at 0 rfl)).take at_ (by omega)
  rwa [Nat.mul_one] at h
 suffices hall : ∀ w5, Heap w0 B w5 (Res.row 5 1 (some ⟨g, 0, none⟩) li.length cap (Qao (li.take 1 ++ li.take at_ ++ li.drop (at_ + 1))) :: G) -> K [(0, .slice (some ⟨g, 0, none⟩) li.length cap), (5, .int .u8 (li.getD at_ 0).toNat)] w5 by
  refine Qnu ?_
  refine Qs ?_
  by_cases hc1 : cap = 1
  ·
   have h0 : at_ = 0 := by omega
   subst h0
   rw [if_pos (by rw [hc1];rfl)]
   refine Qim hL 0 rfl Tryz.underlying43 sz5 (off := 0) rfl ⟨rfl, hsrc, 5, Tryz.underlying43⟩ (Qik _) (by simp) fun w5 hu hH4 => ?_
   refine hall w5 ?_
   rw [show li.take 1 ++ li.take 0 ++ li.drop (0 + 1) = li by rw [List.take_zero, List.append_nil];exact List.take_append_drop 1 li]
   simpa using hH4
  ·
   rw [if_neg (by rw [show Int.toNat 1 = 1 from rfl];exact hc1)]
   simp only [Option.map_some]
   refine Qim hL 0 rfl Tryz.underlying43 sz5 (off := 1) rfl ⟨rfl, hsrc, 5, Tryz.underlying43⟩ (Qik _) (by rw [Qfo, show Int.toNat 1 = 1 from rfl];omega) fun w5 hu hH4 => ?_
   refine hall w5 ?_
   have e : min at_ (at_ + 1 - Int.toNat 1) * 1 = at_ := by rw [show Int.toNat 1 = 1 from rfl];omega
   simp only [e, List.set_cons_zero] at hH4
   rw [Qdq, Qdq, <- bytesV_take, <- bytesV_drop]
   have e5 : (Qao (li.take at_)).take at_ = Qao (li.take at_) := List.take_of_length_le (by rw [Qfo, List.length_take];omega)
   rw [e5, show 1 + at_ = at_ + 1 by omega] at hH4
   exact hH4
 intro w5 hH
 apply hK;clear hK
 have hlen : (li.take 1 ++ li.take at_ ++ li.drop (at_ + 1)).length = li.length := by simp;omega
 have hmv : (li.take 1 ++ li.take at_ ++ li.drop (at_ + 1)).set 0 (li.getD at_ 0) = Qh8 li at_ := by
  cases li with
  | nil => simp at hat
  | cons x r => simp [Qh8]
 generalize li.take 1 ++ li.take at_ ++ li.drop (at_ + 1) = li2 at *
 refine VQ [5] fun K hK => ?_
 refine Qp ?_
 refine Qab ?_;refine Qs ?_;refine Qbf hH 0 (o := (0)) (vs := [.int .u8 (li.getD at_ 0).toNat]) rfl (by first | exact (Qbp _ _ _).symm | rfl | simp [Qbp]) rfl (by kernel_rfl) (by first | omega | (simp;omega) | (simp [Qao, Qbn];omega) | (rw [natsV_len];simp;omega)) (by simp [Value.oneCell']) fun w6 hH2 => ?_;(try refine Qs ?_)
 simp only [List.length_singleton, Qb2 (Qao li2) _ _ (show 0 < (Qao li2).length by rw [Qfo];omega), Qi9, List.set_cons_zero, hmv] at hH2
 apply hK;clear hK
 refine VS [4] ?_
 exact Qah (Qat rfl rfl ⟨hH2, rfl⟩)
def Qgz (l : List Bool) : List Value := l.map Value.bool
theorem Qqs (l : List Bool) : (Qgz l).length = l.length := by simp [Qgz]
theorem QAs {l : List Bool} {i : Nat} (h : i < l.length) : (Qgz l)[i]? = some (.bool (l.getD i false)) := by
 simp [Qgz, List.getElem?_eq_getElem h, List.getD_eq_getElem?_getD]
theorem QAt (l : List Bool) (i : Nat) (v : Bool) : (Qgz l).set i (.bool v) = Qgz (l.set i v) := by simp [Qgz, List.map_set]
def Qj1 (l : List UInt8) (n : Nat) : List UInt8 := ((List.range n).filter fun b => l.any fun c => c.toNat == b).map UInt8.ofNat
def Qbj (l : List UInt8) : List UInt8 := Qj1 l 256
theorem QAu (l : List UInt8) (n : Nat) : Qj1 l (n + 1) = Qj1 l n ++ if (l.any fun c => c.toNat == n) then [UInt8.ofNat n] else [] := by
 unfold Qj1
 rw [List.range_succ, List.filter_append, List.map_append]
 congr 1
 by_cases h : (l.any fun c => c.toNat == n) = true
 ·
  rw [if_pos h, List.filter_cons_of_pos (p := fun b => l.any fun c => c.toNat == b) h];rfl
 ·
  rw [if_neg h, List.filter_cons_of_neg (p := fun b => l.any fun c => c.toNat == b) h];rfl
theorem QDg (l : List UInt8) (n : Nat) : (Qj1 l n).length <= n := by
 unfold Qj1
 rw [List.length_map]
 exact Nat.le_trans (List.length_filter_le _ _) (by simp)
theorem QLc (l : List UInt8) (hl : l.length <= 1000000000000) (w : World) : Does Tryz.prog 31 #[Str l] w fun v w' => Heap w [] w' [] /\ v = Str (Qbj l) := by
 refine En [Str l] 32 Tryz.func31 ?_
 refine VS [0] ?_
 refine VQ [0, 3] fun K hK => ?_
 refine Qal (.agg (Qgz (List.replicate 256 false)).toArray) (by kernel_rfl) ?_
 refine Qs ?_
 have hH0 := (Heap.start w).box 118 (Qgz (List.replicate 256 false))
 generalize w.alloc (Obj.cells (Qgz (List.replicate 256 false)).toArray 118) = w1 at *
 generalize w.heap.size = gu at *
 apply hK;clear hK
 refine VS [0, 3, 8, 9] ?_
 generalize hn : l.length = n at *
 refine Qag ?_
 refine Qaj [0, 3, 8, 9] (fun m e w' => ∃ (k : Nat) (bl : List Bool), Is e [(0, Str l), (3, .pointer (some ⟨gu, 0, none⟩)), (8, .int .i64 n), (9, .int .i64 k)] /\ Heap w [] w' [Res.blk gu 118 (Qgz bl)] /\ bl.length = 256 /\ k <= n /\ (∀ b, b < 256 -> bl.getD b false = (l.take k).any fun c => c.toNat == b) /\ m = n - k) n ?_ ?_
 ·
  refine Qs ?_
  exact ⟨0, _, rfl, hH0, by simp, by omega, fun b hb => by rw [List.getD_eq_getElem?_getD, List.getElem?_replicate, if_pos hb];rfl, rfl⟩
 clear hH0
 rintro m e w2 ⟨k, bl, rfl, hH, hbl, hk, hb, hm⟩
 refine VS [0, 3, 8, 9, 10] ?_
 (repeat refine Qaw ?_)
 refine VD (fun h => ?_) (fun h => ?_)
 ·
  have hbk := (l.getD k 0).toNat_lt
  have htk : l.take (k + 1) = l.take k ++ [l.getD k 0] := by
   rw [List.take_add_one, List.getElem?_eq_getElem (by omega), List.getD_eq_getElem?_getD, List.getElem?_eq_getElem (by omega)];rfl
  refine Qac ?_
  refine VB ?_
  refine VS [0, 3, 4, 8, 9] ?_
  refine VQ [0, 3, 8, 9] fun K hK => ?_
  rw [hn]
  refine ⟨⟨by omega, by omega⟩, ⟨by omega, by omega⟩, ?_⟩
  refine Qab ?_
  refine Qs ?_
  refine Qae hH 0 (o := (l.getD k 0).toNat) (vs := [.bool true]) rfl rfl (by kernel_rfl) (by rw [Qqs, List.length_singleton];omega) (by simp [Value.oneCell']) fun w6 hH2 => ?_
  simp only [List.length_singleton, Qb2 (Qgz bl) _ _ (show (l.getD k 0).toNat < (Qgz bl).length by rw [Qqs];omega), QAt, List.set_cons_zero] at hH2
  apply hK;clear hK
  refine Qar ?_
  refine VS [0, 3, 8, 9] ?_
  refine Qad ?_
  refine Qs ?_
  refine ⟨n - (k + 1), by omega, k + 1, _, rfl, hH2, by simp [hbl], by omega, fun b hb2 => ?_, rfl⟩
  rw [htk, List.any_append, <- hb b hb2]
  generalize l.getD k 0 = c at *
  simp only [List.getD_eq_getElem?_getD, List.getElem?_set]
  by_cases e : c.toNat = b
  ·
   rw [if_pos e, if_pos (by omega)];simp [e]
  ·
   rw [if_neg e];simp [e]
 ·
  obtain rfl : k = n := by omega
  rw [List.take_of_length_le (by omega)] at hb
  refine Qak rfl ?_
  refine VQ [3, 5] fun K hK => ?_
  refine Qc1 hH (Qao []) (xs := []) Tryz.underlying43 sz5 rfl rfl rfl (by omega) ?_;refine Qs ?_;refine ⟨rfl, by simp [Value.cells], fun g w4 hH2 => ?_⟩;(try refine Qs ?_)
  apply hK;clear hK
  refine VS [3, 5, 18] ?_
  refine Qag ?_
  refine Qaj [3, 5, 18] (fun m e w' => ∃ (b cap : Nat) (a : Option Addr), Is e [(3, .pointer (some ⟨gu, 0, none⟩)), (5, .slice a (Qj1 l b).length cap), (18, .int .i64 b)] /\ Heap w [] w' [Res.row 5 1 a (Qj1 l b).length cap (Qao (Qj1 l b)), Res.blk gu 118 (Qgz bl)] /\ b <= 256 /\ m = 256 - b) 256 ?_ ?_
  ·
   refine Qs ?_
   exact ⟨0, _, _, rfl, hH2, by omega, rfl⟩
  clear hH hH2
  rintro m e w5 ⟨b, cap, a, rfl, hH, hb2, hm⟩
  refine VS [3, 5, 18, 19] ?_
  (repeat refine Qaw ?_)
  refine VD (fun h => ?_) (fun h => ?_)
  ·
   have hus := QAu l b
   have hul := QDg l b
   have hbb := hb b (by omega)
   refine Qac ?_
   refine VB ?_
   refine VS [3, 5, 6, 18] ?_
   refine VQ [3, 5, 6, 18, 23] fun K hK => ?_
   refine ⟨⟨by omega, by omega⟩, _, Qaf (hH.at 1 rfl) (QAs (by omega)), ?_⟩
   rw [hbb]
   apply hK;clear hK
   generalize (l.any fun c => c.toNat == b) = bb at *
   refine Vi (fun h => ?_) (fun h => ?_)
   ·
    subst h
    rw [if_pos rfl] at hus
    refine VQ [3, 5, 18] fun K hK => ?_
    rw [show ((b : Int) % 256) = ((UInt8.ofNat b).toNat : Int) by rw [UInt8.toNat_ofNat'];omega]
    have hlen : (Qj1 l (b + 1)).length = (Qj1 l b).length + 1 := by rw [hus];simp
    refine Qde (xs := [.tmp 26]) Tryz.underlying43 sz5 rfl rfl rfl (by omega) ?_;refine Qs ?_;refine ⟨by simp [Value.cells], ?_⟩
    refine Qau ?_;refine Qs ?_;refine Qhc hH 0 (UInt8.ofNat b) rfl Tryz.underlying43 zi5 (by first | rfl | (simp;done) | omega) (fun h => by (first | omega | (simp;done) | (simp;omega))) fun a' cap' w5 hc' hH2 => ?_;(try refine Qs ?_)
    rw [<- hus] at hH2 ⊢
    apply hK;clear hK
    refine Qar ?_
    refine VS [3, 5, 18] ?_
    refine Qad ?_
    refine Qs ?_
    exact ⟨256 - (b + 1), by omega, b + 1, cap', a', rfl, hH2, by omega, rfl⟩
   ·
    subst h
    rw [if_neg (by simp), List.append_nil] at hus
    refine Qac ?_
    refine Qar ?_
    refine VS [3, 5, 18] ?_
    refine Qad ?_
    refine Qs ?_
    exact ⟨256 - (b + 1), by omega, b + 1, cap, a, by rw [hus];rfl, by rw [hus];exact hH, by omega, rfl⟩
  ·
   obtain rfl : b = 256 := by omega
   refine Qak rfl ?_
   refine VQ [2] fun K hK => ?_
   refine ⟨Qbj l, hH.readsBytes 0 rfl, ?_⟩
   apply hK;clear hK
   exact Qah (Qat rfl rfl ⟨hH.sub (by simp), rfl⟩)
def Qea : List UInt8 -> List UInt8 -> Option (List Int)
 | _, [] => some []
 | li, c :: r => if c ∈ li then (Qea (Qh8 li (li.idxOf c)) r).map ((li.idxOf c : Int) :: ·) else none
theorem Qlr {li : List UInt8} {at_ : Nat} (h : at_ < li.length) : (Qh8 li at_).length = li.length := by simp [Qh8];omega
def Qls (sym l : List UInt8) (w : World) (v : Value) (w' : World) : Prop :=
 if Qmg sym = true then match Qea sym l with
  | none => Heap w [] w' [] /\ v = .tuple #[.slice none 0 0, .int .i64 60]
  | some out => ∃ a cap, Heap w [] w' [Res.row 3 1 a out.length cap (Qbn out)] /\ v = .tuple #[.slice a out.length cap, .int .i64 0]
 else Heap w [] w' [] /\ v = .tuple #[.slice none 0 0, .int .i64 2]
theorem QAv (l sym : List UInt8) (hl : l.length <= 1000000000000) (hs : sym.length <= 1000000000000) (w : World) : Does Tryz.prog 32 #[Str l, Str sym] w fun v w' => Qls sym l w v w' := by
 refine En [Str l, Str sym] 52 Tryz.func32 ?_
 refine VS [0, 1] ?_
 refine VQ [0, 1, 12] fun K hK => ?_
 refine Qaa Tryz.call73 ?_;refine Qs ?_;refine CallK.mk (Qj0 sym hs w) ?_
 rintro v w2 ⟨rfl, rfl⟩
 refine Qs ?_
 apply hK;clear hK
 refine Vi (fun h => ?_) (fun h => ?_)
 ·
  simp at h
  refine VS [4, 5] ?_
  exact Qah (Qa4 rfl rfl rfl (by show Qls _ _ _ _ _;unfold Qls;rw [if_neg (by simp [h])];exact ⟨Heap.start _, rfl⟩))
 simp at h
 have hfo : ∀ v w', Qls sym l w2 v w' = match Qea sym l with
  | none => Heap w2 [] w' [] /\ v = .tuple #[.slice none 0 0, .int .i64 60]
  | some out => ∃ a cap, Heap w2 [] w' [Res.row 3 1 a out.length cap (Qbn out)] /\ v = .tuple #[.slice a out.length cap, .int .i64 0] := fun v w' => by unfold Qls;rw [if_pos h]
 simp only [hfo]
 clear hfo h
 generalize hfr : Qea sym l = res at *
 refine Qac ?_
 refine VQ [0, 6] fun K hK => ?_
 refine Qp5 ?_
 refine Qs ?_
 refine Qp6 (Heap.start w2) Tryz.underlying9 Tryz.underlying43 Tryz.underlying5 (by omega) fun gl cl w3 hH => ?_
 apply hK;clear hK
 refine VQ [0, 6, 7] fun K hK => ?_
 refine Qbw Tryz.underlying36 zi3 ?_
 refine Qs ?_
 refine ⟨0, l.length, ⟨rfl, rfl, by omega, by omega, by omega⟩, ?_⟩
 have hH1 := hH.row 3 (n := 0) (cap := l.length) (sz := 1) [] (List.replicate l.length (.int .i64 0)) (by simp) (by simp) (by omega) (by omega)
 simp only [List.nil_append] at hH1
 generalize w3.alloc (Obj.cells (List.replicate l.length (Value.int IntKind.i64 0)).toArray 3) = w4 at *
 generalize w3.heap.size = go at *
 apply hK;clear hK
 generalize hn : l.length = n at *
 refine VS [0, 6, 7, 19, 20] ?_
 rw [hn]
 have hsl : sym.length <= 1000000000000 := hs
 generalize hm0 : sym.length = sl_ at *
 refine Qag ?_
 refine Qaj [0, 6, 7, 19, 20] (fun m e w' => ∃ (k cap : Nat) (a : Option Addr) (li : List UInt8) (out : List Int), Is e [(0, Str l), (6, .slice (some ⟨gl, 0, none⟩) sl_ cl), (7, .slice a out.length cap), (19, .int .i64 n), (20, .int .i64 k)] /\ Heap w2 [] w' [Res.row 3 1 a out.length cap (Qbn out), Res.row 5 1 (some ⟨gl, 0, none⟩) sl_ cl (Qao li)] /\ li.length = sl_ /\ k <= n /\ out.length = k /\ res = (Qea li (l.drop k)).map (out ++ ·) /\ m = n - k) n ?_ ?_
 ·
  refine Qs ?_
  exact ⟨0, n, _, sym, [], rfl, hH1, hm0, by omega, rfl, by rw [List.drop_zero, hfr];simp, rfl⟩
 clear hH hH1 hfr
 rintro m e w5 ⟨k, cap, a, li, out, rfl, hH, hli, hk, hol, hres, hm⟩
 refine VS [0, 6, 7, 19, 20, 21] ?_
 (repeat refine Qaw ?_)
 refine VD (fun h => ?_) (fun h => ?_)
 ·
  have hdk : l.drop k = l.getD k 0 :: l.drop (k + 1) := drop_getD 0 (by omega)
  rw [hdk, Qea] at hres
  refine Qac ?_
  refine VB ?_
  refine VS [0, 6, 7, 8, 19, 20] ?_
  refine VS [0, 6, 7, 8, 9, 19, 20] ?_
  refine VB ?_
  refine Qaj [0, 6, 7, 8, 9, 19, 20] (fun m e w' => ∃ (at_ : Nat), Is e [(0, Str l), (6, .slice (some ⟨gl, 0, none⟩) sl_ cl), (7, .slice a out.length cap), (8, .int .i64 k), (9, .int .i64 at_), (19, .int .i64 n), (20, .int .i64 k)] /\ Is w' w5 /\ at_ <= sl_ /\ l.getD k 0 ∉ li.take at_ /\ m = sl_ - at_) sl_ ?_ ?_
  ·
   refine Qs ?_
   exact ⟨0, rfl, rfl, by omega, by simp, rfl⟩
  rintro m2 e w6 ⟨at_, rfl, rfl, hat, hnot, hm2⟩
  refine Vq [0, 6, 7, 8, 9, 19, 20, 36] fun K hK => ?_
  suffices hall : ∀ bb : Bool, (bb = true ↔ (at_ < sl_ /\ li.getD at_ 0 ≠ l.getD k 0)) -> K [(0, Str l), (6, .slice (some ⟨gl, 0, none⟩) sl_ cl), (7, .slice a out.length cap), (8, .int .i64 k), (9, .int .i64 at_), (19, .int .i64 n), (20, .int .i64 k), (36, .bool bb)] by
   refine ⟨fun hg => ?_, fun hg => hall _ (by simp;omega)⟩
   refine ⟨⟨by omega, by omega⟩, _, Qba (hH.at 1 rfl) (bytesV_get (by omega)), ⟨by omega, by omega⟩, ?_⟩
   refine Qs ?_
   refine hall _ ?_
   have : (li.getD at_ 0).toNat = (l.getD k 0).toNat ↔ li.getD at_ 0 = l.getD k 0 := UInt8.toNat_inj
   generalize li.getD at_ 0 = c1 at *
   generalize l.getD k 0 = c2 at *
   by_cases e : c1 = c2
   ·
    subst e;simp
   ·
    have h3 : c1.toNat ≠ c2.toNat := fun h => e (this.1 h)
    exact ⟨fun _ => ⟨by omega, e⟩, fun _ => decide_eq_true (by omega)⟩
  intro bb hbb
  apply hK;clear hK
  refine Vi (fun h => ?_) (fun h => ?_)
  ·
   obtain ⟨h1, h2⟩ := hbb.1 h
   refine Qac ?_
   refine Qag ?_
   refine VS [0, 6, 7, 8, 9, 19, 20] ?_
   refine Qar ?_
   refine Qad ?_
   refine Qs ?_
   refine ⟨sl_ - (at_ + 1), by omega, at_ + 1, rfl, rfl, by omega, ?_, rfl⟩
   rw [List.take_add_one, List.getElem?_eq_getElem (by omega), List.mem_append]
   rintro (h3 | h3)
   ·
    exact hnot h3
   ·
    have h4 : l.getD k 0 = li[at_] := by simpa using h3
    apply h2
    rw [h4, List.getD_eq_getElem?_getD, List.getElem?_eq_getElem (by omega)]
    rfl
  ·
   refine Qak rfl ?_
   have hstop : at_ = sl_ ∨ li.getD at_ 0 = l.getD k 0 := by
    by_cases h1 : at_ < sl_
    ·
     right
     by_cases h2 : li.getD at_ 0 = l.getD k 0
     ·
      exact h2
     ·
      have := hbb.2 ⟨h1, h2⟩
      simp_all
    ·
     left;omega
   clear hbb h
   refine VS [0, 6, 7, 9, 19, 20, 42] ?_
   refine VD (fun h => ?_) (fun h => ?_)
   ·
    obtain rfl : at_ = sl_ := by omega
    rw [List.take_of_length_le (by omega)] at hnot
    rw [if_neg hnot] at hres
    subst hres
    refine VS [4, 5] ?_
    exact Qah (Qa4 rfl rfl rfl ⟨hH.sub (by simp), rfl⟩)
   have hat2 : at_ < sl_ := by omega
   have heq : li.getD at_ 0 = l.getD k 0 := by rcases hstop with h1 | h1;omega;exact h1
   have hidx : li.idxOf (l.getD k 0) = at_ := by
    have e := List.take_append_drop at_ li
    rw [drop_getD 0 (l := li) (i := at_) (by omega), heq] at e
    have h3 : (li.take at_ ++ l.getD k 0 :: li.drop (at_ + 1)).idxOf (l.getD k 0) = at_ := by
     rw [List.idxOf_append, if_neg hnot, List.idxOf_cons_self, List.length_take];omega
    rwa [e] at h3
   have hmem : l.getD k 0 ∈ li := by rw [<- heq];exact Qbq 0 (by omega)
   rw [if_pos hmem, hidx] at hres
   refine Qac ?_
   refine VQ [0, 6, 7, 9, 19, 20] fun K hK => ?_
   have hc := Qqr li gl cl at_ (by omega) (by omega) w2 w6 [] _ (by rw [hli];exact hH.front 1 rfl)
   rw [hli] at hc
   refine Qaa Tryz.call74 ?_;refine Qs ?_;refine CallK.mk hc ?_
   clear hc
   rintro v w7 ⟨hH2, rfl⟩
   have hH3 := hH2.front 1 rfl
   simp only [List.eraseIdx_cons_succ, List.eraseIdx_cons_zero] at hH3
   apply hK;clear hK
   refine VQ [0, 6, 7, 19, 20] fun K hK => ?_
   refine Qde (xs := [.tmp 47]) Tryz.underlying36 sz3 rfl rfl rfl (by omega) ?_;refine Qs ?_;refine ⟨by simp [Value.cells], ?_⟩
   refine Qau ?_;refine Qs ?_;refine Qkh hH3 0 rfl Tryz.underlying36 zi3 (fun h => by (first | omega | (simp;done) | (simp;omega))) fun a' cap' w5 hc' hH4 => ?_;(try refine Qs ?_)
   apply hK;clear hK
   refine Qar ?_
   refine VS [0, 6, 7, 19, 20] ?_
   refine Qad ?_
   refine Qs ?_
   refine ⟨n - (k + 1), by omega, k + 1, cap', a', Qh8 li at_, out ++ [(at_ : Int)], rfl, hH4, by rw [Qlr (by omega)];exact hli, by omega, by simp [hol], ?_, rfl⟩
   rw [hres, Option.map_map]
   congr 1
   funext x
   simp
 ·
  obtain rfl : k = n := by omega
  rw [List.drop_eq_nil_of_le (by omega), Qea] at hres
  simp only [Option.map_some, List.append_nil] at hres
  subst hres
  refine Qak rfl ?_
  refine VS [4, 5] ?_
  exact Qah (Qa4 rfl rfl rfl ⟨a, cap, hH.sub (by simp), rfl⟩)
def Qdt : List UInt8 -> List Int -> Option (List UInt8)
 | _, [] => some []
 | li, v :: r => if 0 <= v /\ v < li.length then (Qdt (Qh8 li v.toNat) r).map (li.getD v.toNat 0 :: ·) else none
def Qdr (sym : List UInt8) (l : List Int) : List UInt8 × Int :=
 if Qmg sym = true then match Qdt sym l with
  | none => ([], 60)
  | some out => (out, 0)
 else ([], 2)
theorem Qui (l : List Int) (sym : List UInt8) (la : Option Addr) (lc : Nat) (hl : l.length <= 1000000000000) (hs : sym.length <= 1000000000000) (hi : ∀ v ∈ l, I64 v) (w : World) (hr : RS w la l.length 1 (Qbn l)) :
  Does Tryz.prog 106 #[.slice la l.length lc, Str sym] w fun v w' => Heap w [] w' [] /\ v = .tuple #[Str (Qdr sym l).1, .int .i64 (Qdr sym l).2] := by
 refine En [.slice la l.length lc, Str sym] 41 Tryz.func106 ?_
 refine VS [0, 1] ?_
 refine VQ [0, 1, 12] fun K hK => ?_
 refine Qaa Tryz.call73 ?_;refine Qs ?_;refine CallK.mk (Qj0 sym hs w) ?_
 rintro v w2 ⟨rfl, rfl⟩
 refine Qs ?_
 apply hK;clear hK
 refine Vi (fun h => ?_) (fun h => ?_)
 ·
  simp at h
  refine VS [4, 5] ?_
  exact Qah (Qa4 rfl rfl rfl ⟨Heap.start _, by rw [Qdr, if_neg (by simp [h])]⟩)
 simp at h
 have hbs : Qdr sym l = match Qdt sym l with
  | none => ([], 60)
  | some out => (out, 0) := by rw [Qdr, if_pos h]
 rw [hbs]
 clear hbs h
 generalize hfr : Qdt sym l = res
 refine Qac ?_
 refine VQ [0, 6] fun K hK => ?_
 refine Qp5 ?_
 refine Qs ?_
 refine Qp6 (Heap.start w2) Tryz.underlying9 Tryz.underlying43 Tryz.underlying5 (by omega) fun gl cl w3 hH => ?_
 apply hK;clear hK
 refine VQ [0, 6, 7] fun K hK => ?_
 refine Qbw Tryz.underlying43 zi5 ?_
 refine Qs ?_
 refine ⟨0, l.length, ⟨rfl, rfl, by omega, by omega, by omega⟩, ?_⟩
 have hH1 := hH.row 5 (n := 0) (cap := l.length) (sz := 1) [] (List.replicate l.length (.int .u8 0)) (by simp) (by simp) (by omega) (by omega)
 simp only [List.nil_append] at hH1
 generalize w3.alloc (Obj.cells (List.replicate l.length (Value.int IntKind.u8 0)).toArray 5) = w4 at *
 generalize w3.heap.size = go at *
 apply hK;clear hK
 generalize hn : l.length = n at *
 refine VS [6, 7, 18, 19, 20] ?_
 have hsl : sym.length <= 1000000000000 := hs
 generalize hm0 : sym.length = sl_ at *
 refine Qag ?_
 refine Qaj [6, 7, 18, 19, 20] (fun m e w' => ∃ (k cap : Nat) (a : Option Addr) (li out : List UInt8), Is e [(6, .slice (some ⟨gl, 0, none⟩) sl_ cl), (7, .slice a out.length cap), (18, .slice la n lc), (19, .int .i64 n), (20, .int .i64 k)] /\ Heap w2 [] w' [Res.row 5 1 a out.length cap (Qao out), Res.row 5 1 (some ⟨gl, 0, none⟩) sl_ cl (Qao li)] /\ li.length = sl_ /\ k <= n /\ out.length = k /\ res = (Qdt li (l.drop k)).map (out ++ ·) /\ m = n - k) n ?_ ?_
 ·
  refine Qs ?_
  exact ⟨0, n, _, sym, [], rfl, hH1, hm0, by omega, rfl, by rw [List.drop_zero, hfr];simp, rfl⟩
 clear hH hH1 hfr
 rintro m e w5 ⟨k, cap, a, li, out, rfl, hH, hli, hk, hol, hres, hm⟩
 refine VS [6, 7, 18, 19, 20, 21] ?_
 (repeat refine Qaw ?_)
 refine VD (fun h => ?_) (fun h => ?_)
 ·
  have hdk : l.drop k = l.getD k 0 :: l.drop (k + 1) := drop_getD 0 (by omega)
  rw [hdk, Qdt] at hres
  have hr5 := hH.rs' hr
  obtain ⟨pa, rfl⟩ := Qcy hr (by omega)
  have hi64 := hi _ (Qbq 0 (l := l) (i := k) (by omega))
  have hcell := Qny hr5 (i := k) (by omega)
  generalize l.getD k 0 = v at *
  refine Qac ?_
  refine VB ?_
  refine VQ [6, 7, 9, 18, 19, 20] fun K hK => ?_
  refine ⟨⟨by omega, by omega⟩, _, hcell, ?_⟩
  apply hK;clear hK
  refine VQ [6, 7, 9, 18, 19, 20, 31] fun K hK => ?_
  suffices hall : ∀ bb : Bool, (bb = true ↔ (v < 0 ∨ (sl_ : Int) <= v)) -> K [(6, .slice (some ⟨gl, 0, none⟩) sl_ cl), (7, .slice a out.length cap), (9, .int .i64 v), (18, .slice (some pa) n lc), (19, .int .i64 n), (20, .int .i64 k), (31, .bool bb)] w5 by (repeat' (first | exact hall _ _ (by first | omega | (simp;done) | (simp;omega)) | exact hall _ (by first | omega | (simp;done) | (simp;omega)) | refine ⟨fun _ => ?_, fun _ => ?_⟩ | refine Qo ?_))
  intro bb hbb
  apply hK;clear hK
  refine Vi (fun h => ?_) (fun h => ?_)
  ·
   have h2 := hbb.1 h
   rw [if_neg (by omega)] at hres
   subst hres
   refine VS [4, 5] ?_
   exact Qah (Qa4 rfl rfl rfl ⟨hH.sub (by simp), rfl⟩)
  have h2 : ¬ (v < 0 ∨ (sl_ : Int) <= v) := fun h3 => by have := hbb.2 h3;simp_all
  rw [if_pos (by omega)] at hres
  obtain ⟨at_, rfl⟩ : ∃ p : Nat, v = p := ⟨v.toNat, by omega⟩
  rw [Int.toNat_natCast] at hres
  clear hbb h
  refine Qac ?_
  refine VQ [6, 7, 18, 19, 20] fun K hK => ?_
  have hc := Qqr li gl cl at_ (by omega) (by omega) w2 w5 [] _ (by rw [hli];exact hH.front 1 rfl)
  rw [hli] at hc
  refine Qaa Tryz.call74 ?_;refine Qs ?_;refine CallK.mk hc ?_
  clear hc
  rintro v w7 ⟨hH2, rfl⟩
  have hH3 := hH2.front 1 rfl
  simp only [List.eraseIdx_cons_succ, List.eraseIdx_cons_zero] at hH3
  refine Qde (xs := [.tmp 35]) Tryz.underlying43 sz5 rfl rfl rfl (by omega) ?_;refine Qs ?_;refine ⟨by simp [Value.cells], ?_⟩
  refine Qau ?_;refine Qs ?_;refine Qhc hH3 0 (li.getD at_ 0) rfl Tryz.underlying43 zi5 (by first | rfl | (simp;done) | omega) (fun h => by (first | omega | (simp;done) | (simp;omega))) fun a' cap' w5 hc' hH4 => ?_;(try refine Qs ?_)
  apply hK;clear hK
  refine Qar ?_
  refine VS [6, 7, 18, 19, 20] ?_
  refine Qad ?_
  refine Qs ?_
  refine ⟨n - (k + 1), by omega, k + 1, cap', a', Qh8 li at_, out ++ [li.getD at_ 0], rfl, hH4, by rw [Qlr (by omega)];exact hli, by omega, by simp [hol], ?_, rfl⟩
  rw [hres, Option.map_map]
  congr 1
  funext x
  simp
 ·
  obtain rfl : k = n := by omega
  rw [List.drop_eq_nil_of_le (by omega), Qdt] at hres
  simp only [Option.map_some, List.append_nil] at hres
  subst hres
  refine Qak rfl ?_
  refine VQ [4, 5] fun K hK => ?_
  refine ⟨out, hH.readsBytes 0 rfl, ?_⟩
  apply hK;clear hK
  exact Qah (Qa4 rfl rfl rfl ⟨hH.sub (by simp), rfl⟩)
theorem QAw {li : List UInt8} {c : UInt8} (h : c ∈ li) : li.getD (li.idxOf c) 0 = c := by
 have h1 := List.idxOf_lt_length_iff.2 h
 rw [List.getD_eq_getElem?_getD, List.getElem?_eq_getElem h1, Option.getD_some]
 exact List.getElem_idxOf h1
theorem Qqt : ∀ (l li : List UInt8) (out : List Int), Qea li l = some out -> Qdt li out = some l
 | [], li, out, h => by
  simp only [Qea, Option.some.injEq] at h
  subst h;rfl
 | c :: r, li, out, h => by
  rw [Qea] at h
  split at h
  ·
   rename_i hc
   have h1 := List.idxOf_lt_length_iff.2 hc
   rw [Option.map_eq_some_iff] at h
   obtain ⟨out', h2, rfl⟩ := h
   rw [Qdt, if_pos (by omega), Int.toNat_natCast, Qqt r _ out' h2, QAw hc]
   rfl
  ·
   cases h
theorem Qog : ∀ (l li : List UInt8) (out : List Int), Qea li l = some out -> out.length = l.length /\ ∀ v ∈ out, 0 <= v /\ v < li.length
 | [], li, out, h => by
  simp only [Qea, Option.some.injEq] at h
  subst h;simp
 | c :: r, li, out, h => by
  rw [Qea] at h
  split at h
  ·
   rename_i hc
   have h1 := List.idxOf_lt_length_iff.2 hc
   rw [Option.map_eq_some_iff] at h
   obtain ⟨out', h2, rfl⟩ := h
   obtain ⟨h3, h4⟩ := Qog r _ out' h2
   rw [Qlr h1] at h4
   refine ⟨by simp [h3], fun v hv => ?_⟩
   rcases List.mem_cons.1 hv with rfl | hv
   ·
    omega
   ·
    exact h4 v hv
  ·
   cases h
theorem QAx {li : List UInt8} {at_ : Nat} (h : at_ < li.length) (c : UInt8) : c ∈ Qh8 li at_ ↔ c ∈ li := by
 have e : li = li.take at_ ++ li.getD at_ 0 :: li.drop (at_ + 1) := by
  rw [<- Go.Eng.drop_getD 0 h, List.take_append_drop]
 unfold Qh8
 conv => rhs;rw [e]
 simp only [List.mem_cons, List.mem_append]
 constructor
 ·
  rintro (h | h | h)
  ·
   exact .inr (.inl h)
  ·
   exact .inl h
  ·
   exact .inr (.inr h)
 ·
  rintro (h | h | h)
  ·
   exact .inr (.inl h)
  ·
   exact .inl h
  ·
   exact .inr (.inr h)
theorem Qqu : ∀ (l li : List UInt8), (∀ c ∈ l, c ∈ li) -> ∃ out, Qea li l = some out
 | [], li, _ => ⟨[], rfl⟩
 | c :: r, li, h => by
  have hc := h c (by simp)
  have h1 := List.idxOf_lt_length_iff.2 hc
  obtain ⟨out, ho⟩ := Qqu r (Qh8 li (li.idxOf c)) fun d hd => (QAx h1 d).2 (h d (by simp [hd]))
  exact ⟨_, by rw [Qea, if_pos hc, ho];rfl⟩
theorem Qhj {l : List UInt8} {c : UInt8} : c ∈ Qbj l ↔ c ∈ l := by
 simp only [Qbj, Qj1, List.mem_map, List.mem_filter, List.mem_range, List.any_eq_true, beq_iff_eq]
 constructor
 ·
  rintro ⟨b, ⟨hb, d, hd, rfl⟩, rfl⟩
  simpa using hd
 ·
  intro h
  exact ⟨c.toNat, ⟨c.toNat_lt, c, h, rfl⟩, by simp⟩
theorem QIa : ∀ (l : List Nat), l.Pairwise (· < ·) -> (∀ b ∈ l, b < 256) -> ascB (l.map UInt8.ofNat) = true
 | [], _, _ => rfl
 | [_], _, _ => rfl
 | a :: b :: r, h, hb => by
  have h1 := List.pairwise_cons.1 h
  have ha := hb a (by simp)
  have hb1 := hb b (by simp)
  have h2 := h1.1 b (by simp)
  simp only [List.map_cons, ascB, Bool.and_eq_true, decide_eq_true_eq]
  refine ⟨by simp only [UInt8.toNat_ofNat'];omega, ?_⟩
  have := QIa (b :: r) h1.2 fun x hx => hb x (by simp [hx])
  simpa using this
theorem Qj2 {l : List UInt8} (h : l ≠ []) : Qmg (Qbj l) = true := by
 have h1 : ascB (Qbj l) = true := QIa _ (List.Pairwise.filter _ List.pairwise_lt_range) fun b hb => by simp at hb;exact hb.1
 have h2 : Qbj l ≠ [] := fun e => by
  cases l with
  | nil => exact h rfl
  | cons c r => have := (Qhj (l := c :: r) (c := c)).2 (by simp);rw [e] at this;cases this
 rw [Qmg, h1]
 cases hu : Qbj l with
 | nil => exact absurd hu h2
 | cons => rfl
def memB (u : List UInt8) (b : Nat) : Bool := u.any fun c => c.toNat == b
def Qb0 (u : List UInt8) (i : Nat) : Bool := (List.range 16).any fun k => memB u (16 * i + k)
def rowS (u : List UInt8) (i : Nat) : List Bool := (List.range 16).map fun k => memB u (16 * i + k)
def Qgl (u : List UInt8) : List Bool := (List.range 16).map (Qb0 u) ++ (List.range 16).flatMap fun i => if Qb0 u i then rowS u i else []
def Qg0 (i : Nat) (row : List Bool) : List UInt8 := ((List.range 16).filter fun k => row.getD k false).map fun k => UInt8.ofNat (16 * i + k)
def stGo (bits : List Bool) : List Bool -> Nat -> Nat -> Except Int (List UInt8 × Nat)
 | [], _, at_ => .ok ([], at_)
 | false :: r, i, at_ => stGo bits r (i + 1) at_
 | true :: r, i, at_ => if bits.length < at_ + 16 then .error 10 else match stGo bits r (i + 1) (at_ + 16) with
  | .error e => .error e
  | .ok q => .ok (Qg0 i ((bits.drop at_).take 16) ++ q.1, q.2)
def Qdf (bits : List Bool) (at_ : Nat) : Except Int (List UInt8 × Nat) :=
 if bits.length < at_ + 16 then .error 10 else match stGo bits ((bits.drop at_).take 16) 0 (at_ + 16) with
 | .error e => .error e
 | .ok q => if q.1 = [] then .error 60 else .ok q
theorem Qrv (u : List UInt8) (i : Nat) : (rowS u i).length = 16 := by simp [rowS]
theorem Qmh (u : List UInt8) (i : Nat) : Qg0 i (rowS u i) = (((List.range 16).map fun k => 16 * i + k).filter (memB u)).map UInt8.ofNat := by
 unfold Qg0
 rw [List.filter_map, List.map_map]
 have : (List.range 16).filter (fun k => (rowS u i).getD k false) = (List.range 16).filter (memB u ∘ fun k => 16 * i + k) := by
  refine List.filter_congr fun k hk => ?_
  have hk : k < 16 := by simpa using hk
  simp [rowS, List.getD_eq_getElem?_getD, List.getElem?_range hk]
 rw [this];rfl
theorem Qrw {u : List UInt8} {i : Nat} (h : Qb0 u i = false) : Qg0 i (rowS u i) = [] := by
 rw [Qmh, List.map_eq_nil_iff, List.filter_eq_nil_iff]
 intro b hb
 obtain ⟨k, hk, rfl⟩ := List.mem_map.1 hb
 unfold Qb0 at h
 rw [List.any_eq_false] at h
 exact h k hk
theorem QLd (u : List UInt8) : ∀ (n i : Nat) {bits : List Bool} {at_ : Nat} {r : List Bool}, bits.drop at_ = ((List.range' i n).flatMap fun i => if Qb0 u i then rowS u i else []) ++ r ->
  stGo bits ((List.range' i n).map (Qb0 u)) i at_ = .ok ((List.range' i n).flatMap (fun i => Qg0 i (rowS u i)), at_ + ((List.range' i n).flatMap fun i => if Qb0 u i then rowS u i else []).length)
 | 0, i, bits, at_, r, _ => rfl
 | n + 1, i, bits, at_, r, hb => by
  rw [List.range'_succ] at hb ⊢
  simp only [List.map_cons, List.flatMap_cons, List.append_assoc] at hb ⊢
  cases h : Qb0 u i with
  | false =>
   rw [h] at hb
   simp only [Bool.false_eq_true, if_false, List.nil_append] at hb ⊢
   rw [stGo, QLd u n (i + 1) hb, Qrw h]
   simp
  | true =>
   rw [h] at hb
   simp only [if_true] at hb ⊢
   have hl := Qrv u i
   have hlen : bits.length - at_ = (rowS u i).length + (((List.range' (i + 1) n).flatMap fun i => if Qb0 u i then rowS u i else []) ++ r).length := by rw [<- List.length_drop, hb, List.length_append]
   have ht : (bits.drop at_).take 16 = rowS u i := by
    rw [hb, List.take_append_of_le_length (by omega), List.take_of_length_le (by omega)]
   have hd := Qbl hb
   rw [hl] at hd
   rw [stGo, if_neg (by omega), QLd u n (i + 1) hd, ht]
   simp [hl];omega
theorem QDh (u : List UInt8) : (List.range 16).flatMap (fun i => Qg0 i (rowS u i)) = ((List.range 256).filter (memB u)).map UInt8.ofNat := by
 have e : List.range 256 = (List.range 16).flatMap fun i => (List.range 16).map fun k => 16 * i + k := by decide
 rw [e, List.filter_flatMap, List.map_flatMap]
 simp only [Qmh]
theorem QDi (l : List UInt8) (b : Nat) (hb : b < 256) : memB (Qbj l) b = l.any fun c => c.toNat == b := by
 unfold memB
 rw [Bool.eq_iff_iff, List.any_eq_true, List.any_eq_true]
 constructor
 ·
  rintro ⟨c, hc, h⟩;exact ⟨c, Qhj.1 hc, h⟩
 ·
  rintro ⟨c, hc, h⟩;exact ⟨c, Qhj.2 hc, h⟩
theorem QAy (l : List UInt8) : ((List.range 256).filter (memB (Qbj l))).map UInt8.ofNat = Qbj l := by
 conv => rhs;unfold Qbj Qj1
 congr 1
 refine List.filter_congr fun b hb => ?_
 rw [QDi l b (by simpa using hb)]
theorem Qoh (u : List UInt8) : (Qgl u).length <= 272 := by
 have h : ∀ m, ((List.range m).flatMap fun i => if Qb0 u i then rowS u i else []).length <= 16 * m := fun m => by
  induction m with
  | zero => simp
  | succ m ih =>
   rw [List.range_succ, List.flatMap_append, List.length_append]
   have : ((if Qb0 u m = true then rowS u m else []) : List Bool).length <= 16 := by split <;> simp [Qrv]
   simp only [List.flatMap_cons, List.flatMap_nil, List.append_nil]
   omega
 have := h 16
 unfold Qgl
 simp only [List.length_append, List.length_map, List.length_range]
 omega
theorem QGw {l : List UInt8} (hl : l ≠ []) {bits : List Bool} {at_ : Nat} {r : List Bool} (hb : bits.drop at_ = Qgl (Qbj l) ++ r) : Qdf bits at_ = .ok (Qbj l, at_ + (Qgl (Qbj l)).length) := by
 generalize hu : Qbj l = u at *
 rw [Qgl, List.append_assoc] at hb
 have h16 : ((List.range 16).map (Qb0 u)).length = 16 := by simp
 have hlen : bits.length - at_ = ((List.range 16).map (Qb0 u)).length + (((List.range 16).flatMap fun i => if Qb0 u i then rowS u i else []) ++ r).length := by rw [<- List.length_drop, hb, List.length_append]
 have ht : (bits.drop at_).take 16 = (List.range 16).map (Qb0 u) := by
  rw [hb, List.take_append_of_le_length (by omega), List.take_of_length_le (by omega)]
 have hd := Qbl hb
 rw [h16] at hd
 have hne : u ≠ [] := fun e => by
  cases l with
  | nil => exact hl rfl
  | cons c r => have := (Qhj (l := c :: r) (c := c)).2 (by simp);rw [hu, e] at this;cases this
 rw [Qdf, if_neg (by omega), ht]
 have := QLd u 16 0 (bits := bits) (at_ := at_ + 16) (r := r) (by rw [<- List.range_eq_range'];exact hd)
 rw [<- List.range_eq_range'] at this
 rw [this, QDh, <- hu, QAy]
 simp only
 rw [if_neg (by rw [hu];exact hne)]
 simp [Qgl];omega
theorem Qyq {l : List Bool} {n i : Nat} (hl : l.length = n) (hi : i < n) : (numB l / 2 ^ (n - 1 - i)) % 2 = (l.getD i false).toNat := by
 rw [Qjt]
 have h := Qir n (numB l) i hi
 rw [<- hl, Qli, hl] at h
 rw [List.getD_eq_getElem?_getD, h];rfl
theorem Quj {l : List Bool} (hl : l.length = 16) : numB l < 65536 := by have := Qev l;rw [hl] at this;exact this
def exV (r : Except Int (List UInt8 × Nat)) : Value := match r with
 | .ok q => .tuple #[Str q.1, .int .i64 q.2, .int .i64 0]
 | .error e => .tuple #[Str [], .int .i64 0, .int .i64 e]
def Qeb (i : Nat) (row : List Bool) (n : Nat) : List UInt8 := ((List.range n).filter fun k => row.getD k false).map fun k => UInt8.ofNat (16 * i + k)
theorem Qpl (i : Nat) (row : List Bool) (n : Nat) : Qeb i row (n + 1) = Qeb i row n ++ if row.getD n false = true then [UInt8.ofNat (16 * i + n)] else [] := by
 unfold Qeb
 rw [List.range_succ, List.filter_append, List.map_append]
 congr 1
 by_cases h : row.getD n false = true
 ·
  rw [if_pos h, List.filter_cons_of_pos (p := fun k => row.getD k false) h];rfl
 ·
  rw [if_neg h, List.filter_cons_of_neg (p := fun k => row.getD k false) h];rfl
theorem Qkt (i : Nat) (row : List Bool) (n : Nat) : (Qeb i row n).length <= n := by
 unfold Qeb;rw [List.length_map];exact Nat.le_trans (List.length_filter_le _ _) (by simp)
theorem Quk (s : List UInt8) (at_ : Nat) (ha : at_ <= 8 * s.length) (hs : s.length <= 100000000000000) (w : World) :
  Does Tryz.prog 46 #[Str s, .int .i64 at_] w fun v w' => Heap w [] w' [] /\ v = exV (Qdf (Qap s) at_) := by
 have hbl := Qax s
 generalize hbits : Qap s = bits at *
 generalize hres : Qdf bits at_ = res
 unfold Qdf at hres
 refine En [Str s, .int .i64 at_] 74 Tryz.func46 ?_
 refine VS [0, 1] ?_
 refine VQ [7] fun K hK => ?_
 refine Qaa Tryz.call86 ?_;refine Qs ?_;refine CallK.mk (Qc8 s at_ w (I64.mk (by omega) (by omega)) (by omega)) ?_
 rintro v w2 (⟨hbad, _⟩ | ⟨_, gr, gs, hH, rfl⟩)
 ·
  omega
 rw [Int.toNat_natCast] at hH
 apply hK;clear hK
 refine VS [7, 19] ?_
 refine Qai rfl rfl (fun h => by cases h) (fun h => Qac ?_)
 refine VQ [7, 8, 9] fun K hK => ?_
 refine Qaa Tryz.call87 ?_;refine Qs ?_;refine CallK.mk (Qeh gr gs s at_ 16 w2 (by omega) (by omega) (by omega) (hH.focus 0 rfl)) ?_
 rintro v w3 (⟨h1, rfl, rfl⟩ | ⟨h1, hH2, rfl⟩)
 ·
  rw [if_pos (by omega)] at hres
  subst hres
  apply hK;clear hK
  refine VS [7, 8, 9, 26] ?_
  refine Qai rfl rfl (fun h => ?_) (fun h => by cases h)
  refine VS [4, 5, 6] ?_
  exact Qah (Qcj rfl rfl rfl rfl ⟨hH.sub (by simp), rfl⟩)
 rw [if_neg (by omega)] at hres
 have hH3 := hH.call1 0 rfl hH2
 clear hH2 hH
 rw [hbits]
 have hfl : ((bits.drop at_).take 16).length = 16 := by rw [List.length_take, List.length_drop];omega
 generalize (bits.drop at_).take 16 = fl at *
 have hfl2 := Quj hfl
 apply hK;clear hK
 refine VS [7, 8, 9, 26] ?_
 refine Qai rfl rfl (fun h => by cases h) (fun h => Qac ?_)
 refine VQ [7, 8, 10] fun K hK => ?_
 refine Qc1 hH3 (Qao []) (xs := []) Tryz.underlying43 sz5 rfl rfl rfl (by omega) ?_;refine Qs ?_;refine ⟨rfl, by simp [Value.cells], fun g w4 hH4 => ?_⟩;(try refine Qs ?_)
 apply hK;clear hK
 refine VS [7, 8, 10, 29] ?_
 refine Qag ?_
 refine Qaj [7, 8, 10, 29] (fun m e w' => ∃ (i cap p : Nat) (a : Option Addr) (out : List UInt8), Is e [(7, .pointer (some ⟨gr, 0, none⟩)), (8, .int .u64 (numB fl)), (10, .slice a out.length cap), (29, .int .i64 i)] /\ Heap w [] w' [Res.row 5 1 a out.length cap (Qao out), rd gr gs s p] /\ i <= 16 /\ p <= 8 * s.length /\ out.length <= 16 * i /\ (match stGo bits (fl.drop i) i p with | .error e => .error e | .ok q => if out ++ q.1 = [] then .error 60 else .ok (out ++ q.1, q.2)) = res /\ m = 16 - i) 16 ?_ ?_
 ·
  refine Qs ?_
  refine ⟨0, _, at_ + 16, _, [], rfl, hH4, by omega, by omega, by simp, ?_, rfl⟩
  rw [List.drop_zero, <- hres]
  cases stGo bits fl 0 (at_ + 16) <;> rfl
 clear hH3 hH4 hres
 rintro m e w' ⟨i, cap, p, a, out, rfl, hH, hi, hp, hol, hres, rfl⟩
 refine VS [7, 8, 10, 29, 30] ?_
 (repeat refine Qaw ?_)
 refine VD (fun h => ?_) (fun h => ?_)
 ·
  have hdi : fl.drop i = fl.getD i false :: fl.drop (i + 1) := drop_getD false (by omega)
  rw [hdi] at hres
  have hbit := Qyq hfl (i := i) (by omega)
  refine Qac ?_
  refine VB ?_
  refine VS [7, 8, 10, 11, 29] ?_
  have hsh : shN IntKind.u64 ((15 - (i : Int)) % 18446744073709551616) = 16 - 1 - i := QAc (by omega) (by simp [IntKind.bits];omega) (by decide)
  refine VQ [7, 8, 10, 11, 29, 38] fun K hK => ?_
  rw [hsh, Qgw]
  have hle := Nat.div_le_self (numB fl) (2 ^ (16 - 1 - i))
  generalize numB fl / 2 ^ (16 - 1 - i) = q at *
  (repeat first | refine Qo ?_ | refine Qp ?_)
  rw [show Int.toNat 1 = 1 from rfl, Int.toNat_natCast, Nat.and_one_is_mod, hbit]
  apply hK;clear hK
  cases hfi : fl.getD i false with
  | false =>
   rw [hfi, stGo] at hres
   refine Qai rfl rfl (fun h => ?_) (fun h => by simp [hfi] at h)
   refine Qak rfl ?_
   refine VS [7, 8, 10, 29] ?_
   refine Qad ?_
   refine Qs ?_
   exact ⟨16 - (i + 1), by omega, i + 1, cap, p, a, out, rfl, hH, by omega, hp, by omega, hres, rfl⟩
  | true =>
   rw [hfi, stGo] at hres
   refine Qai rfl rfl (fun h => by simp [hfi] at h) (fun h => Qac ?_)
   refine VQ [7, 8, 10, 11, 12, 13, 29] fun K hK => ?_
   refine Qaa Tryz.call87 ?_;refine Qs ?_;refine CallK.mk (Qeh gr gs s p 16 w' (by omega) (by omega) (by omega) (hH.focus 1 rfl)) ?_
   rintro v w3 (⟨h1, rfl, rfl⟩ | ⟨h1, hH2, rfl⟩)
   ·
    rw [if_pos (by omega)] at hres
    subst hres
    apply hK;clear hK
    refine VS [7, 8, 10, 11, 12, 13, 29, 45] ?_
    refine Qai rfl rfl (fun h => ?_) (fun h => by cases h)
    refine VS [4, 5, 6] ?_
    exact Qah (Qcj rfl rfl rfl rfl ⟨hH.sub (by simp), rfl⟩)
   rw [if_neg (by omega)] at hres
   have hH3 := hH.call1 1 rfl hH2
   simp only [List.set_cons_succ, List.set_cons_zero, List.nil_append] at hH3
   clear hH2 hH
   rw [hbits]
   have hrow : ((bits.drop p).take 16).length = 16 := by rw [List.length_take, List.length_drop];omega
   generalize (bits.drop p).take 16 = row at *
   have hrow2 := Quj hrow
   apply hK;clear hK
   refine VS [7, 8, 10, 11, 12, 13, 29, 45] ?_
   refine Qai rfl rfl (fun h => by cases h) (fun h => Qac ?_)
   refine VS [7, 8, 10, 11, 12, 29, 47] ?_
   refine Qag ?_
   refine Qaj [7, 8, 10, 11, 12, 29, 47] (fun m e w' => ∃ (k cap : Nat) (a : Option Addr), Is e [(7, .pointer (some ⟨gr, 0, none⟩)), (8, .int .u64 (numB fl)), (10, .slice a (out ++ Qeb i row k).length cap), (11, .int .i64 i), (12, .int .u64 (numB row)), (29, .int .i64 i), (47, .int .i64 k)] /\ Heap w [] w' [Res.row 5 1 a (out ++ Qeb i row k).length cap (Qao (out ++ Qeb i row k)), rd gr gs s (p + 16)] /\ k <= 16 /\ m = 16 - k) 16 ?_ ?_
   ·
    refine Qs ?_
    have e0 : out ++ Qeb i row 0 = out := by simp [Qeb]
    refine ⟨0, cap, a, by rw [e0];rfl, by rw [e0];exact hH3, by omega, rfl⟩
   clear hH3
   rintro m e w4 ⟨k, cap, a, rfl, hH, hk, rfl⟩
   refine VS [7, 8, 10, 11, 12, 29, 47, 48] ?_
   (repeat refine Qaw ?_)
   refine VD (fun h => ?_) (fun h => ?_)
   ·
    have hbk := Qyq hrow (i := k) (by omega)
    have hsucc := Qpl i row k
    have hlen := Qkt i row k
    refine Qac ?_
    refine VB ?_
    refine VS [7, 8, 10, 11, 12, 14, 29, 47] ?_
    have hsh2 : shN IntKind.u64 ((15 - (k : Int)) % 18446744073709551616) = 16 - 1 - k := QAc (by omega) (by simp [IntKind.bits];omega) (by decide)
    refine VQ [7, 8, 10, 11, 12, 14, 29, 47, 56] fun K hK => ?_
    rw [hsh2, Qgw]
    have hle2 := Nat.div_le_self (numB row) (2 ^ (16 - 1 - k))
    generalize numB row / 2 ^ (16 - 1 - k) = q2 at *
    (repeat first | refine Qo ?_ | refine Qp ?_)
    rw [show Int.toNat 1 = 1 from rfl, Int.toNat_natCast, Nat.and_one_is_mod, hbk]
    apply hK;clear hK
    cases hrk : row.getD k false with
    | true =>
     rw [hrk, if_pos rfl] at hsucc
     refine Qai rfl rfl (fun h => ?_) (fun h => by simp [hrk] at h)
     refine VQ [7, 8, 10, 11, 12, 29, 47] fun K hK => ?_
     (repeat first | refine Qo ?_ | refine Qp ?_)
     rw [show ((16 * (i : Int) + k) % 256) = ((UInt8.ofNat (16 * i + k)).toNat : Int) by rw [UInt8.toNat_ofNat'];omega]
     refine Qde (xs := [.tmp 62]) Tryz.underlying43 sz5 rfl rfl rfl (by omega) ?_;refine Qs ?_;refine ⟨by simp [Value.cells], ?_⟩
     refine Qau ?_;refine Qs ?_;refine Qhc hH 0 (UInt8.ofNat (16 * i + k)) rfl Tryz.underlying43 zi5 (by first | rfl | (simp;done) | omega) (fun h => by (first | omega | (simp;done) | (simp;omega))) fun a' cap' w5 hc' hH4 => ?_;(try refine Qs ?_)
     rw [List.append_assoc, <- hsucc] at hH4 ⊢
     apply hK;clear hK
     refine Qar ?_
     refine VS [7, 8, 10, 11, 12, 29, 47] ?_
     refine Qad ?_
     refine Qs ?_
     exact ⟨16 - (k + 1), by omega, k + 1, cap', a', rfl, hH4, by omega, rfl⟩
    | false =>
     rw [hrk, if_neg (by simp), List.append_nil] at hsucc
     refine Qai rfl rfl (fun h => by simp [hrk] at h) (fun h => Qac ?_)
     refine Qar ?_
     refine VS [7, 8, 10, 11, 12, 29, 47] ?_
     refine Qad ?_
     refine Qs ?_
     exact ⟨16 - (k + 1), by omega, k + 1, cap, a, by rw [hsucc];rfl, by rw [hsucc];exact hH, by omega, rfl⟩
   ·
    obtain rfl : k = 16 := by omega
    have hlen := Qkt i row 16
    refine Qak rfl ?_
    refine Qar ?_
    refine VS [7, 8, 10, 29] ?_
    refine Qad ?_
    refine Qs ?_
    refine ⟨16 - (i + 1), by omega, i + 1, cap, p + 16, a, out ++ Qeb i row 16, rfl, hH, by omega, by omega, by simp;omega, ?_, rfl⟩
    rw [<- hres]
    cases stGo bits (fl.drop (i + 1)) (i + 1) (p + 16) with
    | error e => rfl
    | ok q => simp only [List.append_assoc];rfl
 ·
  obtain rfl : i = 16 := by omega
  rw [List.drop_eq_nil_of_le (by omega), stGo] at hres
  simp only [List.append_nil] at hres
  refine Qak rfl ?_
  refine VS [7, 10, 69] ?_
  refine VD (fun h => ?_) (fun h => Qac ?_)
  ·
   rw [if_pos (List.eq_nil_of_length_eq_zero (by omega))] at hres
   subst hres
   refine VS [4, 5, 6] ?_
   exact Qah (Qcj rfl rfl rfl rfl ⟨hH.sub (by simp), rfl⟩)
  rw [if_neg (fun e => h (by rw [e];rfl))] at hres
  subst hres
  refine Vq [4, 5, 6] fun K hK => ?_
  refine ⟨out, hH.readsBytes 0 rfl, ?_⟩
  refine Qwd Tryz.call100 ?_;refine Qs ?_;refine QCallK.mk (Qn4 gr gs p s w' (hH.at 1 rfl)) ?_
  apply hK;clear hK
  exact Qah (Qcj rfl rfl rfl rfl ⟨hH.sub (by simp), rfl⟩)
end Go.Proofs.YtfphmlhgebpojaaGreat
