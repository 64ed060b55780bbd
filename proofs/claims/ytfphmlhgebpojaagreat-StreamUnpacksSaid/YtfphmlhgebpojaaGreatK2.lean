/- A program logic over the model, and what this program's functions do by it: part 2. No conditions: a library of lemmas. -/
import Derived.Test.YtfphmlhgebpojaaGreatK1
import Derived.RangeFuncLeaves
import Derived.RangeFuncNested
import Derived.RangeFuncRecord
import Derived.RecoverIn
import Derived.TacticsIn
import Derived.Test.YtfphmlhgebpojaaGreatChecked
open Nat (reduceEqDiff)
set_option linter.unusedSimpArgs false
set_option linter.unusedVariables false
set_option maxRecDepth 100000
namespace Go.Eng
open Go
def wideR (L : Option Nat) : Fence := { Fence.wide with round := L }
theorem Qjq {L : Option Nat} {P : Program} {m m' : Machine} {e : Ending} (h : Comes P m m' e) : ComesIn (Machine.fenced P (wideR L)) P m m' e := comesIn_wide.2 h
theorem callsIn_wideR {L : Option Nat} {n : Nat} {P : Program} {f : FuncId} {args : Array Value} {w : World} {R : Ending -> World -> Prop} (h : Calls P f args w R) : CallsIn (wideR L) n P f args w R :=
 ⟨trivial, fun cs _ => let ⟨e, w', fr, r, s, x⟩ := h cs;⟨e, w', fr, r, Qjq s, x⟩⟩
theorem Qjr {L : Option Nat} {P : Program} {m m' : Machine} (h : Steps P m m') : StepsIn (Machine.fenced P (wideR L)) P m m' := stepsIn_wide.2 h
theorem Qlf {L : Option Nat} {n : Nat} {P : Program} {row : String} {args : Array Value} {w : World} {R : Value -> World -> Prop} (h : Rows P row args w R) : RowsIn (wideR L) n P row args w R :=
 fun c cs _ => let ⟨v, w', r, s⟩ := h c cs;⟨v, w', r, Qjr s⟩
def Qcj (o : Oper) : Bool := match o.op with | .defer _ => false | _ => true
theorem Qlg {o : Oper} (h : Qcj o = true) : ∀ c, o.op ≠ .defer c := by
 intro c hc;simp [Qcj, hc] at h
def _root_.Go.Act.app (a : Act) (D : List Deferred) : Act := { a with defers := a.defers ++ D }
theorem Qem (a : Act) (D : List Deferred) (d : Option Tmp) (v : Value) : (a.put d v).app D = (a.app D).put d v := by cases d <;> rfl
theorem Qub (a : Act) (D : List Deferred) : (a.app D).eval = a.eval := by funext x;cases x <;> rfl
def Qapp (D : List Deferred) (Q : Exit -> Act -> World -> Prop) : Exit -> Act -> World -> Prop
 | .normal, a, w => a.defers = [] /\ Q .normal (a.app D) w
 | .panic c, a, w => Q (.panic c) (a.app D) w
 | _, _, _ => False
theorem Qvc {P : Program} {L : Option Nat} {D : List Deferred} {Q : Exit -> Act -> World -> Prop} {o : Oper} {a : Act} {w : World} {next next' : Act -> World -> Prop} (hd : Qcj o = true)
  (hn : ∀ a w, next a w -> next' (a.app D) w) (h : o.wp P a w next (Qapp D Q)) : o.wpIn (wideR L) 0 P (a.app D) w next' Q := by
 refine ⟨fun _ _ => trivial, ?_⟩
 rw [Oper.semAt_eq _ _ _ (Qlg hd), Qub]
 unfold Oper.wp at h
 generalize (execOp a.eval o).run P w = r at *
 have hdep : (wideR L).depth.isSome = true -> 1 <= 0 := by simp [wideR, Fence.wide]
 cases r with
 | ok x w' =>
  cases x <;> simp only [Oper.upon, Oper.uponIn] at h ⊢
  case value v => rw [<- Qem];exact hn _ _ h
  case skip => rw [<- Qem];exact hn _ _ h
  case defer d => have h2 := hn _ _ h;rw [Qem] at h2;exact h2
  case enter f args =>
   refine ⟨hdep, callsIn_wideR (h.mono fun e w'' he => ?_)⟩
   cases e with
   | returned v => have h2 := hn _ _ he;rw [Qem] at h2;exact h2
   | panicked c => exact he
   | outgrown => obtain ⟨_, _, he⟩ := he;exact he.elim
  case row row args => exact ⟨hdep, Qlf (h.mono fun v w'' he => by have h2 := hn _ _ he;rw [Qem] at h2;exact h2)⟩
 | halt x w' => cases x <;> simp only [Oper.upon, Oper.uponIn] at h ⊢ <;> exact h
theorem Qlh {P : Program} {L : Option Nat} {D : List Deferred} {Q : Exit -> Act -> World -> Prop} {ops : Array Oper} (hd : ops.toList.all Qcj = true) : ∀ (l : List Nat) (a : Act) (w : World),
  wpOps P ops (Qapp D Q) l a w -> wpOpsIn (wideR L) 0 P ops Q l (a.app D) w := by
 intro l
 induction l with
 | nil => intro a w h;exact h.2
 | cons i rest ih =>
  intro a w h
  simp only [wpOps, wpOpsIn] at h ⊢
  cases ho : ops[i]? with
  | none => simp only [ho] at h ⊢;exact ih _ _ h
  | some o =>
   simp only [ho] at h ⊢
   have hdo : Qcj o = true := by
    rw [List.all_eq_true] at hd
    exact hd o (by rw [Array.mem_toList_iff];exact Array.mem_of_getElem? ho)
   have ht : (a.app D).tmps = a.tmps := rfl
   rw [ht]
   split
   ·
    rename_i hw
    rw [if_pos hw] at h
    rcases h with h | ⟨_, _, _, h⟩
    ·
     exact Qvc hdo ih h
    ·
     exact h.elim
   ·
    rename_i hw
    rw [if_neg hw] at h
    have h2 := ih _ _ h;rw [Qem] at h2;exact ⟨fun _ _ => trivial, h2⟩
theorem Qp1 {P : Program} {L : Option Nat} {D : List Deferred} {Q : Exit -> Act -> World -> Prop} {id : Nat} {l : List Oper} {a : Act} {w : World} (hd : l.all Qcj = true)
  (h : wpList P l.toArray (Qapp D Q) l a w) : (Code.region id l.toArray false).wpIn (wideR L) 0 P Q (a.app D) w := by
 refine wpIn_region (Qlh (by simpa using hd) _ a w ?_)
 rw [List.range_eq_range', <- Array.length_toList, wpOps_eq_wpList l.toArray.toList 0 (by simp)]
 simpa using h
theorem Qih {P : Program} {L : Option Nat} {D : List Deferred} {Q : Exit -> Act -> World -> Prop} {id : Nat} {ops : Array Oper} {a : Act} {w : World} (hm : P.follows .mixedOrders = true) (hd : ops.toList.all Qcj = true)
  (h : wpAny P .any ops (Qapp D Q) ops.size (Array.replicate ops.size false) a { w with drawn := w.drawn + 1 }) : (Code.region id ops true).wpIn (wideR L) 0 P Q (a.app D) w :=
 wpIn_region_draw fun t => Qlh hd _ a _ (by
  simp only [Region.schedule, hm, Bool.true_or, if_true]
  exact wpAny_sound ops.size t _ a _ h)
structure CtxG where
 P : Program
 N : Nat
 L : Option Nat
 D : List Deferred
 post : Exit -> Act -> World -> Prop
structure FitsG (N : Nat) (D : List Deferred) (e : Env) (a : Act) : Prop where
 size : a.tmps.size = N
 defers : a.defers = D
 at_ : ∀ t v, e.find? t = some v -> a.tmps.getD t undef = v
theorem FitsG.bare {N : Nat} {D : List Deferred} {e : Env} {a : Act} (h : FitsG N D e a) : Fits N e { a with defers := [] } := ⟨h.size, rfl, h.at_⟩
theorem FitsG.of {N : Nat} {D : List Deferred} {e : Env} {a : Act} (h : Fits N e a) : FitsG N D e (a.app D) := ⟨h.size, by simp [Act.app, h.defers], h.at_⟩
theorem FitsG.app {N : Nat} {D : List Deferred} {e : Env} {a : Act} (h : FitsG N D e a) : ({ a with defers := [] } : Act).app D = a := by
 cases a;have := h.defers;simp only at this;subst this;rfl
theorem FitsG.weaken {N : Nat} {D : List Deferred} {e e' : Env} {a : Act} (h : FitsG N D e a) (hs : ∀ t v, e'.find? t = some v -> e.find? t = some v) : FitsG N D e' a :=
 ⟨h.size, h.defers, fun t v ht => h.at_ t v (hs t v ht)⟩
theorem FitsG.sel {N : Nat} {D : List Deferred} {e : Env} {a : Act} (h : FitsG N D e a) (ks : List Nat) : FitsG N D (e.sel ks) a := h.weaken fun t v ht => Env.find?_sel ks e t v ht
theorem FitsG.eval {N : Nat} {D : List Deferred} {e : Env} {a : Act} {x : Operand} {K : Value -> Prop} (ha : FitsG N D e a) (h : arg e x K) : K (a.eval x) := by
 have h1 := arg_sound ha.bare h
 cases x <;> exact h1
def Qed (C : CtxG) : List It -> Exit -> Act -> World -> Prop
 | [], ex, a, w => C.post ex a w
 | .code c :: k, ex, a, w => match ex with
  | .normal => c.wpIn (wideR C.L) 0 C.P (fun ex a w => Qed C k ex a w) a w
  | ex => Qed C k ex a w
 | .blk id :: k, ex, a, w => match ex with
  | .exit id' => if id' = id then Qed C k .normal a w else Qed C k (.exit id') a w
  | ex => Qed C k ex a w
 | .again I :: k, ex, a, w => match ex with
  | .normal => ∃ e w0 n, w = w0.drewN n /\ FitsG C.N C.D e a /\ I e w0
  | ex => Qed C k ex a w
def VG (C : CtxG) (k : List It) (e : Env) (w : World) : Prop := ∀ a n, FitsG C.N C.D e a -> Qed C k .normal a (w.drewN n)
section
variable {C : CtxG} {k : List It} {e : Env} {w : World}
theorem Qc2 {x y : Code} (h : VG C (.code x :: .code y :: k) e w) : VG C (.code (.seq x y) :: k) e w := by
 intro a n ha
 have h1 := h a n ha
 simp only [Qed] at h1 ⊢
 refine wpIn_seq (wpIn_mono h1 fun ex a w hq => ?_)
 cases ex <;> exact hq
theorem Qhh (h : VG C k e w) : VG C (.code .skip :: k) e w := fun a n ha => wpIn_skip (h a n ha)
theorem Qro {k : List It} {a : Act} (h : C.post .ret a w) : Qed C k .ret a w := by
 induction k with
 | nil => exact h
 | cons x k ih => cases x <;> exact ih
theorem Qnl {k : List It} {c : List PanicEntry} {a : Act} : Qed C k (.panic c) a w ↔ C.post (.panic c) a w := by
 induction k with
 | nil => exact Iff.rfl
 | cons x k ih => cases x <;> exact ih
theorem Qvd (h : ∀ a n, FitsG C.N C.D e a -> C.post .ret a (w.drewN n)) : VG C (.code .ret :: k) e w := fun a n ha => wpIn_ret (Qro (h a n ha))
theorem Qrp (h : ∀ a n, FitsG C.N C.D e a -> C.post .normal a (w.drewN n)) : VG C [] e w := fun a n ha => h a n ha
theorem Qen {c : Operand} {t : Tmp} {b : Bool} {x y : Code} (hc : c = .tmp t) (hv : e.find? t = some (.bool b))
  (ht : b = true -> VG C (.code x :: k) e w) (hf : b = false -> VG C (.code y :: k) e w) : VG C (.code (.cond c x y) :: k) e w := by
 intro a n ha
 subst hc
 exact wpIn_cond_split (t := b) (ha.at_ t _ hv) (fun h => ht h a n ha) (fun h => hf h a n ha)
end
section
variable {C : CtxG} {k : List It} {e : Env} {w : World}
def endG (C : CtxG) (k : List It) : Exit -> Act -> World -> Prop := fun ex a w => match ex with | .normal => Qed C k .normal a w | _ => False
theorem Qli (ex : Exit) (a : Act) (w : World) (h : endG C k ex a w) : Qed C k ex a w := by
 cases ex <;> first | exact h | exact h.elim
theorem Qhi (ks : List Nat) {e : Env} {a : Act} {w : World} {n : Nat} (ha : Fits C.N e a) (hv : selC ks (VG C k) e w) : Qapp C.D (endG C k) .normal a (w.drewN n) :=
 ⟨ha.defers, ((Qbv ks e _).1 hv) _ n ((FitsG.of ha).sel ks)⟩
theorem Qlj (ks : List Nat) {id : Nat} {ops : List Oper} (hN : (ops.all (Qb1 C.N) && ops.all Qcj) = true)
  (h : ∀ K : Env -> World -> Prop, (∀ e w, VG C k e w -> K e w) -> Qan C.P C.N ops ops e w (selC ks K)) : VG C (.code (.region id ops.toArray false) :: k) e w := by
 intro a n ha
 simp only [Bool.and_eq_true] at hN
 rw [<- ha.app]
 refine wpIn_mono (Qp1 (Q := endG C k) hN.2 ?_) Qli
 exact Qcx (K := selC ks (VG C k)) (fun e a w n ha hv => Qhi ks ha hv) ops e _ w n hN.1 ha.bare (h _ fun _ _ hv => hv)
theorem Qiw (w0 : World) (hx : Ext w0 w) (ks : List Nat) (plan : List (Nat × Bool)) {id : Nat} {ops : List Oper} {l : List (Bool × Oper)}
  (hm : C.P.follows .mixedOrders = true) (hB : (Qhd ops.toArray plan (Array.replicate ops.toArray.size false) && Region.noSelect ops.toArray && decide (plan.length <= ops.length)) = true) (hN : (ops.all (Qb1 C.N) && ops.all Qcj) = true) (hl : Qau ops plan = l)
  (h : ∀ K : Env -> World -> Prop, (∀ e w, VG C k e w -> K e w) -> vcH C.P C.N ops w0 l e w (selC ks K)) : VG C (.code (.region id ops.toArray true) :: k) e w := by
 intro a n ha
 simp only [Bool.and_eq_true, decide_eq_true_eq] at hB hN
 obtain ⟨⟨hB1, hB2⟩, hB3⟩ := hB
 rw [<- ha.app]
 refine wpIn_mono (Qih (Q := endG C k) hm (by simpa using hN.2) (wpAny_of_held (S := fun w' => Ext w0 w') _ _ _ _ ?_)) Qli
 subst hl
 exact Qk6 (K := selC ks (VG C k)) hN.1 hB2 (fun c a w d v hq => hq.elim) (fun e a w n ha hv => Qhi ks ha hv) plan _ _ e _ w (n + 1) (by simpa using hB3) hB1 ha.bare hx (h _ fun _ _ hv => hv)
end
def Quc (F : Value -> World -> Prop) (Pn : List PanicEntry -> World -> Prop) (e : Ending) (w' : World) : Prop :=
 match e with
 | .returned v => ∃ w n, w' = w.drewN n /\ F v w
 | .panicked c => ∃ w n, w' = w.drewN n /\ Pn c w
 | .outgrown => False
def DoesP (P : Program) (f : FuncId) (args : Array Value) (w : World) (F : Value -> World -> Prop) (Pn : List PanicEntry -> World -> Prop) : Prop :=
 ∀ n, Calls P f args (w.drewN n) (Quc F Pn)
def noPn : List PanicEntry -> World -> Prop := fun _ _ => False
theorem DoesP.does {P : Program} {f : FuncId} {args : Array Value} {w : World} {F : Value -> World -> Prop} (h : DoesP P f args w F noPn) : Does P f args w F :=
 fun n => (h n).mono fun e w' he => by
  cases e with
  | returned v => obtain ⟨w1, m, rfl, hF⟩ := he;exact ⟨v, w1, m, rfl, rfl, hF⟩
  | panicked c => obtain ⟨_, _, _, hF⟩ := he;exact hF.elim
  | outgrown => exact he.elim
theorem DoesP.mono {P : Program} {f : FuncId} {args : Array Value} {w : World} {F G : Value -> World -> Prop} {Pn Qn : List PanicEntry -> World -> Prop} (h : DoesP P f args w F Pn) (hg : ∀ v w', F v w' -> G v w') (hp : ∀ c w', Pn c w' -> Qn c w') : DoesP P f args w G Qn :=
 fun n => (h n).mono fun e w' he => by
  cases e with
  | returned v => obtain ⟨w1, m, hw, hF⟩ := he;exact ⟨w1, m, hw, hg _ _ hF⟩
  | panicked c => obtain ⟨w1, m, hw, hF⟩ := he;exact ⟨w1, m, hw, hp _ _ hF⟩
  | outgrown => exact he.elim
abbrev Qnm (P : Program) (fn : Func) (F : Value -> World -> Prop) (Pn : List PanicEntry -> World -> Prop) : Exit -> Act -> World -> Prop := bodyPostM Fence.wide 0 P fn (Quc F Pn)
theorem Qfc {P : Program} {f : FuncId} {fn : Func} {c : Code} {args : List Value} {w : World} {F : Value -> World -> Prop} {Pn : List PanicEntry -> World -> Prop} (N : Nat)
  (hf : P.funcs[f]? = some fn) (hb : fn.body = some c) (hN : fn.ntmps = N) (hle : args.length <= N)
  (h : VG ⟨P, N, none, [], Qnm P fn F Pn⟩ [.code c] (Env.ofArgs 0 args) w) : DoesP P f args.toArray w F Pn := by
 intro n
 refine callsIn_wide.1 (callsIn_of_wp_marks (F := Fence.wide) (n := 0) hf hb trivial ?_ rfl)
 have h1 := h { tmps := args.toArray ++ Array.replicate (fn.ntmps - args.toArray.size) undef, defers := [] } n ⟨by simp [hN];omega, rfl, fun t v ht => ?_⟩
 ·
  exact wpIn_mono (F := Fence.wide) h1 fun ex a w hq => hq
 ·
  have := (Env.find?_ofArgs args 0 t v ht).2
  rw [Array.getD_eq_getD_getElem?, Array.getElem?_append]
  have hlt : t < args.toArray.size := by
   have h2 := (List.getElem?_eq_some_iff.1 this).1
   simpa using h2
  simp only [hlt, if_true]
  simp at this ⊢
  simp [this]
theorem Qnn {P : Program} {f : FuncId} {fn : Func} {c : Code} {args : List Value} {w : World} {F : Value -> World -> Prop} (N : Nat)
  (hf : P.funcs[f]? = some fn) (hb : fn.body = some c) (hN : fn.ntmps = N) (hle : args.length <= N)
  (h : VG ⟨P, N, none, [], Qnm P fn F noPn⟩ [.code c] (Env.ofArgs 0 args) w) : Does P f args.toArray w F := (Qfc N hf hb hN hle h).does
def markD (r : Nat) : Deferred := { target := .collected r, args := #[] }
theorem Qoq {P : Program} {fn : Func} {F : Value -> World -> Prop} {Pn : List PanicEntry -> World -> Prop} {N : Nat} {e : Env} {w : World} {D : List Deferred} (hx : VX ⟨P, fn, F, N⟩ [] .ret e w) {a : Act} {n : Nat} (ha : FitsG N D e a) :
  LeavesInM Fence.wide 0 P fn a.tmps (Quc F Pn) [] .returning (w.drewN n) := by
 obtain ⟨_, v, hr, v', w1, m, he, hw, hF⟩ := hx _ n ha.bare
 cases he
 exact ⟨v, hr, w1, m, hw, hF⟩
theorem ret0 {P : Program} {fn : Func} {F : Value -> World -> Prop} {Pn : List PanicEntry -> World -> Prop} {N : Nat} {e : Env} {w : World} (hx : VX ⟨P, fn, F, N⟩ [] .ret e w) :
  ∀ a n, FitsG N [] e a -> Qnm P fn F Pn .ret a (w.drewN n) := fun a n ha => by
 show LeavesInM _ _ _ _ _ _ a.defers _ _
 rw [ha.defers]
 exact Qoq hx ha
theorem nil0 {P : Program} {fn : Func} {F : Value -> World -> Prop} {Pn : List PanicEntry -> World -> Prop} {N : Nat} {e : Env} {w : World} (hx : VX ⟨P, fn, F, N⟩ [] .ret e w) :
  ∀ a n, FitsG N [] e a -> Qnm P fn F Pn .normal a (w.drewN n) := ret0 hx
theorem Qve {P : Program} {fn : Func} {F : Value -> World -> Prop} {Pn : List PanicEntry -> World -> Prop} {N : Nat} {e : Env} {w : World} {c : List PanicEntry} (hx : Pn c w) :
  ∀ a n, FitsG N [] e a -> Qnm P fn F Pn (.panic c) a (w.drewN n) := fun a n ha => by
 show LeavesInM _ _ _ _ _ _ a.defers _ _
 rw [ha.defers]
 exact ⟨w, n, rfl, hx⟩
def Qp2 (C : CtxG) (o : Oper) (e : Env) (w : World) (R : Value -> World -> Prop) : Prop :=
 ∀ (a : Act) (n : Nat) (next : Act -> World -> Prop) (Q : Exit -> Act -> World -> Prop), FitsG C.N C.D e a -> (∀ (v : Value) (w' : World) (m : Nat), R v w' -> next (a.put o.dst v) (w'.drewN m)) ->
  (∀ (c : List PanicEntry) (w' : World) (m : Nat), C.post (.panic c) a (w'.drewN m) -> Q (.panic c) a (w'.drewN m)) -> o.wpIn (wideR C.L) 0 C.P a (w.drewN n) next Q
def spC (A : Env -> World -> Prop) : Env -> World -> Prop := A
theorem Qxh {P : Program} {N : Nat} {ops : List Oper} {e : Env} {w : World} (A : Env -> World -> Prop) : Qan P N ops [] e w (spC A) = A e w := rfl
theorem Qeo {F : Fence} {n : Nat} {P : Program} {ops : Array Oper} {Q : Exit -> Act -> World -> Prop} (l2 : List Oper) : ∀ (l1 : List Oper) (a : Act) (w : World),
  wpListIn F n P ops (Exit.then (wpListIn F n P ops Q l2) Q) l1 a w -> wpListIn F n P ops Q (l1 ++ l2) a w := by
 intro l1
 induction l1 with
 | nil => intro a w h;exact h
 | cons o l1 ih =>
  intro a w h
  simp only [wpListIn, List.cons_append] at h ⊢
  split
  ·
   rename_i hw
   rw [if_pos hw] at h
   obtain ⟨h1, h2⟩ := h
   refine ⟨h1, ?_⟩
   revert h2
   generalize (o.semAt F.round a.eval).run P w = r
   intro h2
   cases r with
   | ok x w' =>
    cases x <;> simp only [Oper.uponIn] at h2 ⊢ <;>
     first
      | exact ih _ _ h2
      | exact ⟨h2.1, CallsIn.mono h2.2 (fun e w'' he => by cases e <;> first | exact ih _ _ he | exact he | (obtain ⟨a0, w0, he⟩ := he;exact ⟨a0, w0, he⟩))⟩
      | exact ⟨h2.1, RowsIn.mono h2.2 (fun _ _ he => ih _ _ he)⟩
      | exact ⟨h2.1, RoundIn.mono h2.2 (fun e w'' he => by cases e <;> first | exact ih _ _ he | exact he | (obtain ⟨a0, w0, he⟩ := he;exact ⟨a0, w0, he⟩))⟩
      | exact h2
   | halt x w' => cases x <;> simp only [Oper.uponIn] at h2 ⊢ <;> exact h2
  ·
   rename_i hw
   rw [if_neg hw] at h
   exact ⟨h.1, ih _ _ h.2⟩
theorem Qge {P : Program} {L : Option Nat} {D : List Deferred} {Q : Exit -> Act -> World -> Prop} {ops : Array Oper} : ∀ (l : List Oper) (a : Act) (w : World), l.all Qcj = true ->
  wpList P ops (Qapp D Q) l a w -> wpListIn (wideR L) 0 P ops Q l (a.app D) w := by
 intro l
 induction l with
 | nil => intro a w _ h;exact h.2
 | cons o l ih =>
  intro a w hd h
  simp only [List.all_cons, Bool.and_eq_true] at hd
  simp only [wpList, wpListIn] at h ⊢
  have ht : (a.app D).tmps = a.tmps := rfl
  rw [ht]
  split
  ·
   rename_i hw
   rw [if_pos hw] at h
   rcases h with h | ⟨_, _, _, h⟩
   ·
    exact Qvc hd.1 (fun a w => ih a w hd.2) h
   ·
    exact h.elim
  ·
   rename_i hw
   rw [if_neg hw] at h
   have h2 := ih _ _ hd.2 h;rw [Qem] at h2;exact ⟨fun _ _ => trivial, h2⟩
theorem Qd3 {F : Fence} {n : Nat} {P : Program} {ops : Array Oper} {Q Q' : Exit -> Act -> World -> Prop} (hq : ∀ ex a w, Q ex a w -> Q' ex a w) : ∀ (l : List Oper) (a : Act) (w : World), wpListIn F n P ops Q l a w -> wpListIn F n P ops Q' l a w := by
 intro l
 induction l with
 | nil => intro a w h;exact hq _ _ _ h
 | cons x l ih =>
  intro a w h
  simp only [wpListIn] at h ⊢
  split
  ·
   rename_i hw
   rw [if_pos hw] at h
   obtain ⟨g1, g2⟩ := h
   refine ⟨g1, ?_⟩
   revert g2
   generalize (x.semAt F.round a.eval).run P w = r
   intro g2
   cases r with
   | ok y w' =>
    cases y <;> simp only [Oper.uponIn] at g2 ⊢ <;>
     first
      | exact ih _ _ g2
      | exact ⟨g2.1, CallsIn.mono g2.2 (fun e w'' he => by cases e <;> first | exact ih _ _ he | exact hq _ _ _ he | (obtain ⟨a0, w0, he⟩ := he;exact ⟨a0, w0, hq _ _ _ he⟩))⟩
      | exact ⟨g2.1, RowsIn.mono g2.2 (fun _ _ he => ih _ _ he)⟩
      | exact ⟨g2.1, RoundIn.mono g2.2 (fun e w'' he => by cases e <;> first | exact ih _ _ he | exact hq _ _ _ he | (obtain ⟨a0, w0, he⟩ := he;exact ⟨a0, w0, hq _ _ _ he⟩))⟩
      | exact g2
   | halt y w' => cases y <;> simp only [Oper.uponIn] at g2 ⊢ <;> first | exact hq _ _ _ g2 | exact g2
  ·
   rename_i hw
   rw [if_neg hw] at h
   exact ⟨h.1, ih _ _ h.2⟩
def Qll (C : CtxG) (ops : List Oper) (R : List Oper -> Env -> World -> Prop) (l : List Oper) (e : Env) (w : World) : Prop :=
 match l with
 | o :: l' => Qei ops o.guard e (fun e => Qp2 C o e w fun v w => R l' (e.put o.dst v) w) (fun e => R l' (e.put o.dst undef) w)
 | [] => False
def Qfo (C : CtxG) (ops : List Oper) (K : Env -> World -> Prop) : List Nat -> List Oper -> Env -> World -> Prop
 | [], l, e, w => Qan C.P C.N ops l e w K
 | i :: is, l, e, w => Qan C.P C.N ops (l.take i) e w (spC fun e w => Qll C ops (Qfo C ops K is) (l.drop i) e w)
def Qlm (N : Nat) : List Nat -> List Oper -> Bool
 | [], l => l.all (Qb1 N) && l.all Qcj
 | i :: is, l => (l.take i).all (Qb1 N) && (l.take i).all Qcj && match l.drop i with
  | o :: l' => Qb1 N o && Qlm N is l'
  | [] => false
theorem QAp {C : CtxG} {ops l : List Oper} {K : Env -> World -> Prop} {e : Env} {w : World} : Qfo C ops K [] l e w = Qan C.P C.N ops l e w K := rfl
theorem Qrq {C : CtxG} {ops l : List Oper} {K : Env -> World -> Prop} {e : Env} {w : World} (i : Nat) (is : List Nat) : Qfo C ops K (i :: is) l e w = Qan C.P C.N ops (l.take i) e w (spC fun e w => Qll C ops (Qfo C ops K is) (l.drop i) e w) := rfl
theorem QDb {C : CtxG} {ops l : List Oper} {R : List Oper -> Env -> World -> Prop} {e : Env} {w : World} (d : Option Tmp) (op : Op) (ty : Nat) (pos : String) (af : Array Edge) : Qll C ops R (⟨d, op, ty, pos, af, none⟩ :: l) e w = Qp2 C ⟨d, op, ty, pos, af, none⟩ e w fun v w => R l (e.put d v) w := rfl
theorem QAq {C : CtxG} {ops l : List Oper} {R : List Oper -> Env -> World -> Prop} {e : Env} {w : World} (d : Option Tmp) (op : Op) (ty : Nat) (pos : String) (af : Array Edge) (j : Nat) (b : Bool) : Qll C ops R (⟨d, op, ty, pos, af, some (j, b)⟩ :: l) e w = Qar ops j b e (fun e => Qp2 C ⟨d, op, ty, pos, af, some (j, b)⟩ e w fun v w => R l (e.put d v) w) (fun e => R l (e.put d undef) w) := by
 rw [<- Qak];rfl
theorem Qp3 {C : CtxG} {ops : List Oper} {Q : Exit -> Act -> World -> Prop} {K : Env -> World -> Prop} (hQ : ∀ c a w, C.post (.panic c) a w -> Q (.panic c) a w)
  (hK : ∀ e a w n, FitsG C.N C.D e a -> K e w -> Q .normal a (w.drewN n)) : ∀ (is : List Nat) (l : List Oper) (e : Env) (a : Act) (w : World) (n : Nat), Qlm C.N is l = true -> FitsG C.N C.D e a ->
   Qfo C ops K is l e w -> wpListIn (wideR C.L) 0 C.P ops.toArray Q l a (w.drewN n) := by
 intro is
 induction is with
 | nil =>
  intro l e a w n hl ha h
  simp only [Qlm, Bool.and_eq_true] at hl
  have hA := Qcx (P := C.P) (N := C.N) (ops := ops) (Q := Qapp C.D fun ex a w => match ex with | .normal => Q .normal a w | _ => False) (K := K)
   (fun e a w n ha hv => ⟨ha.defers, hK e _ w n (FitsG.of ha) hv⟩) l e _ w n hl.1 ha.bare h
  have hB := Qge (L := C.L) _ _ _ hl.2 hA
  rw [ha.app] at hB
  refine Qd3 (fun ex a w hq => ?_) _ _ _ hB
  cases ex <;> first | exact hq | exact hq.elim
 | cons i is ih =>
  intro l e a w n hl ha h
  simp only [Qlm, Bool.and_eq_true] at hl
  obtain ⟨⟨h1, h2⟩, h3⟩ := hl
  cases hd : l.drop i with
  | nil => rw [hd] at h3;cases h3
  | cons o l' =>
   rw [hd] at h3
   simp only [Bool.and_eq_true] at h3
   rw [<- List.take_append_drop i l, hd]
   refine Qeo _ _ _ _ ?_
   rw [Qrq, hd] at h
   have hA := Qcx (P := C.P) (N := C.N) (ops := ops) (Q := Qapp C.D fun ex a w => match ex with
     | .normal => ∃ e w0 n, w = w0.drewN n /\ FitsG C.N C.D e a /\ Qll C ops (Qfo C ops K is) (o :: l') e w0
     | _ => False)
    (fun e a w n ha hv => ⟨ha.defers, e, w, n, rfl, FitsG.of ha, hv⟩) (l.take i) e _ w n h1 ha.bare h
   have hB := Qge (L := C.L) _ _ _ h2 hA
   rw [ha.app] at hB
   refine Qd3 (fun ex a w hq => ?_) _ _ _ hB
   cases ex with
   | normal =>
    obtain ⟨e1, w1, m, rfl, hf, hs⟩ := hq
    show wpListIn _ _ _ _ _ (o :: l') a _
    simp only [wpListIn]
    have hput : ∀ (e2 : Env) (v : Value), FitsG C.N C.D e2 a -> FitsG C.N C.D (e2.put o.dst v) (a.put o.dst v) := fun e2 v hf2 => by
     have g1 := hf2.bare.put' h3.1 v
     have g2 := FitsG.of (D := C.D) g1
     rw [Qem, hf2.app] at g2
     exact g2
    have hfa : ∀ e2, Fits C.N e2 { a with defers := [] } -> FitsG C.N C.D e2 a := fun e2 g => ⟨g.size, hf.defers, g.at_⟩
    have hs' : Qei ops o.guard e1 (fun e => Qp2 C o e w1 fun v w => Qfo C ops K is l' (e.put o.dst v) w) (fun e => Qfo C ops K is l' (e.put o.dst undef) w1) := hs
    rcases Qbp hf.bare hs' with ⟨e2, g1, g2, hw⟩ | ⟨e2, g1, g2, hw⟩
    ·
     rw [if_pos hw]
     exact g2 a m _ _ (hfa e2 g1) (fun v w' m' hv => ih l' _ _ w' m' h3.2 (hput e2 v (hfa e2 g1)) hv) (fun c w' m' hp => hQ _ _ _ hp)
    ·
     rw [if_neg (by rw [hw];simp)]
     exact ⟨fun _ _ => trivial, ih l' _ _ w1 m h3.2 (hput e2 undef (hfa e2 g1)) g2⟩
   | _ => exact hq.elim
section
variable {C : CtxG} {k : List It} {e : Env} {w : World}
theorem Qcy (ks : List Nat) (is : List Nat) {id : Nat} {ops : List Oper} (hN : Qlm C.N is ops = true)
  (h : ∀ K : Env -> World -> Prop, (∀ e w, VG C k e w -> K e w) -> Qfo C ops (selC ks K) is ops e w) : VG C (.code (.region id ops.toArray false) :: k) e w := by
 intro a n ha
 refine wpIn_region_lit ?_
 exact Qp3 (Q := fun ex a w => Qed C k ex a w) (K := selC ks (VG C k)) (fun c a w hp => Qnl.2 hp) (fun e a w n ha hv => ((Qbv ks e _).1 hv) a n (ha.sel ks)) is ops e a w n hN ha (h _ fun _ _ hv => hv)
variable {d : Option Tmp} {ty : Nat} {pos : String} {af : Array Edge} {gd : Option (Nat × Bool)} {R : Value -> World -> Prop}
def CallP (C : CtxG) (e : Env) (fv : Value) (vs : List Value) (w : World) (R : Value -> World -> Prop) : Prop :=
 ∃ f first cs, fv = .func (.func f) first cs /\ (∀ args w, (callFunc f args).run C.P w = .ok (.enter f args) w) /\ ∃ F Pn, DoesP C.P f (first.toList ++ vs ++ cs.toList).toArray w F Pn /\ (∀ v w', F v w' -> R v w') /\ (∀ c w', Pn c w' -> ∀ a n, FitsG C.N C.D e a -> C.post (.panic c) a (w'.drewN n))
theorem CallP.mk {f : FuncId} {first cs : Array Value} {vs : List Value} {F : Value -> World -> Prop} {Pn : List PanicEntry -> World -> Prop} (hf : ∀ args w, (callFunc f args).run C.P w = .ok (.enter f args) w)
  (h : DoesP C.P f (first.toList ++ vs ++ cs.toList).toArray w F Pn) (hc : ∀ v w', F v w' -> R v w') (hp : ∀ c w', Pn c w' -> ∀ a n, FitsG C.N C.D e a -> C.post (.panic c) a (w'.drewN n)) : CallP C e (.func (.func f) first cs) vs w R :=
 ⟨f, first, cs, rfl, hf, F, Pn, h, hc, hp⟩
theorem Qcz {x : Operand} {az : Array Operand} {ts : Array TypeId}
  (h : arg e x fun fv => argL e az.toList fun vs => CallP C e fv vs w R) :
  Qp2 C ⟨d, .call { callee := .value x, args := az, argTypes := ts }, ty, pos, af, gd⟩ e w R := by
 intro a n next Q ha hK hP
 have h0 := arg_sound ha.bare h
 have h1 := argL_sound ha.bare h0
 obtain ⟨f, first, cs, hx, hf, F, Pn, hD, hC, hpn⟩ := h1
 have ev : ({ a with defers := [] } : Act).eval = a.eval := by funext x;cases x <;> rfl
 rw [ev] at hx hD
 have hm : (az.map a.eval) = (az.toList.map a.eval).toArray := map_eval az a
 have e1 : first ++ (az.toList.map a.eval).toArray ++ cs = (first.toList ++ az.toList.map a.eval ++ cs.toList).toArray := by
  apply Array.ext';simp
 have hrun : (execOp a.eval ⟨d, .call { callee := .value x, args := az, argTypes := ts }, ty, pos, af, gd⟩).run C.P (w.drewN n) = .ok (.enter f (first.toList ++ az.toList.map a.eval ++ cs.toList).toArray) (w.drewN n) := by
  simp only [execOp, resolve, hx, Deferred.ofValue, Sem.run_bind, Sem.run_pure, Result.andThen_ok, invoke, hm, e1]
  simp [hf]
 refine ⟨fun _ _ => trivial, ?_⟩
 rw [Oper.semAt_eq _ _ _ (fun c hc => by cases hc), hrun]
 refine ⟨by simp [wideR, Fence.wide], callsIn_wideR ((hD n).mono fun e' w' he => ?_)⟩
 cases e' with
 | returned v => obtain ⟨w1, m, rfl, hF⟩ := he;exact hK v w1 m (hC v w1 hF)
 | panicked c => obtain ⟨w1, m, rfl, hF⟩ := he;exact hP c w1 m (hpn c w1 hF a m ha)
 | outgrown => exact he.elim
def YieldK (P : Program) (l : Nat) (vs : List Value) (w : World) (R : Value -> World -> Prop) : Prop :=
 ∀ n, ∃ fn tmps assign body, (Instr.yield l vs.toArray).run P (w.drewN n) = .ok (.round l fn tmps assign body) (w.drewN n) /\
  RoundIn Fence.wide 0 P l fn tmps assign body (w.drewN n) fun e w' => ∃ v w1 m, e = .returned v /\ w' = w1.drewN m /\ R v w1
theorem YieldK.mono {P : Program} {l : Nat} {vs : List Value} {w : World} {R R' : Value -> World -> Prop} (h : YieldK P l vs w R) (hr : ∀ v w', R v w' -> R' v w') : YieldK P l vs w R' := fun n => by
 obtain ⟨fn, tmps, az, bd, h1, h2⟩ := h n
 exact ⟨fn, tmps, az, bd, h1, h2.mono fun e w' ⟨v, w1, m, he, hw, hR⟩ => ⟨v, w1, m, he, hw, hr _ _ hR⟩⟩
theorem Qfd {x : Operand} (h : arg e x fun v => (∃ t u, v = .iface t u) /\ ∀ a n, FitsG C.N C.D e a -> C.post (.panic [{ v := v, recovered := false }]) a (w.drewN n)) :
  Qp2 C ⟨d, .panic x, ty, pos, af, gd⟩ e w R := by
 intro a n next Q ha hK hP
 obtain ⟨⟨t, u, hx⟩, hp⟩ := arg_sound ha.bare h
 have ev : ({ a with defers := [] } : Act).eval = a.eval := by funext x;cases x <;> rfl
 rw [ev] at hx hp
 have hrun : (execOp a.eval ⟨d, .panic x, ty, pos, af, gd⟩).run C.P (w.drewN n) = .halt (.panic (a.eval x)) (w.drewN n) := by
  simp only [execOp, hx, Instr.panic]
  rfl
 refine ⟨fun _ _ => trivial, ?_⟩
 rw [Oper.semAt_eq _ _ _ (fun c hc => by cases hc), hrun]
 exact hP _ w n (hp a n ha)
def Qno : List It -> Bool
 | [] => true
 | .again _ :: _ => false
 | _ :: k => Qno k
theorem Qxi (D : List Deferred) {k : List It} (hk : Qno k = true) : ∀ {ex : Exit} {a : Act} {w : World}, Qed { C with D := D } k ex a w ↔ Qed C k ex a w := by
 induction k with
 | nil => intro ex a w;exact Iff.rfl
 | cons x k ih =>
  intro ex a w
  cases x with
  | again I => cases hk
  | blk id =>
   have ih := fun {ex a w} => @ih hk ex a w
   cases ex <;> first | exact ih | skip
   rename_i id'
   simp only [Qed]
   split
   ·
    exact ih
   ·
    exact ih
  | code c =>
   have ih := fun {ex a w} => @ih hk ex a w
   cases ex <;> first | exact ih | skip
   simp only [Qed]
   constructor
   ·
    exact fun h => wpIn_mono h fun ex a w hq => ih.1 hq
   ·
    exact fun h => wpIn_mono h fun ex a w hq => ih.2 hq
theorem Qp4 {P : Program} {N : Nat} {D : List Deferred} {post : Exit -> Act -> World -> Prop} (ks : List Nat) (i : Nat) {id : Nat} {ops : List Oper} {x : Operand} {az : Array Operand} {ts : Array TypeId} (hk : Qno k = true)
  (hN : ((ops.take i).all (Qb1 N) && (ops.take i).all Qcj) = true) (hl : ops.drop i = [⟨none, .defer { callee := .value x, args := az, argTypes := ts }, ty, pos, af, none⟩])
  (h : ∀ K : Deferred -> Env -> World -> Prop, (∀ d e w, VG ⟨P, N, none, d :: D, post⟩ k e w -> K d e w) ->
   Qan P N ops (ops.take i) e w (spC fun e w => arg e x fun fv => argL e az.toList fun vs => ∃ f first cs, fv = .func (.func f) first cs /\ selK ks e fun e => K { target := .fn (.func f) cs, args := first ++ vs.toArray } e w)) : VG ⟨P, N, none, D, post⟩ (.code (.region id ops.toArray false) :: k) e w := by
 intro a n ha
 simp only [Bool.and_eq_true] at hN
 refine wpIn_region_lit ?_
 have key : wpListIn (wideR none) 0 P ops.toArray (fun ex a w => Qed ⟨P, N, none, D, post⟩ k ex a w) (ops.take i ++ [⟨none, .defer { callee := .value x, args := az, argTypes := ts }, ty, pos, af, none⟩]) a (w.drewN n) := by
  refine Qeo _ _ _ _ ?_
  have hA := Qcx (P := P) (N := N) (ops := ops) (Q := Qapp D fun ex a w => match ex with
    | .normal => ∃ e w0 n, w = w0.drewN n /\ FitsG N D e a /\ arg e x fun fv => argL e az.toList fun vs => ∃ f first cs, fv = .func (.func f) first cs /\ selK ks e fun e => VG ⟨P, N, none, { target := .fn (.func f) cs, args := first ++ vs.toArray } :: D, post⟩ k e w0
    | _ => False)
   (fun e a w n ha hv => ⟨ha.defers, e, w, n, rfl, FitsG.of ha, hv⟩) (ops.take i) e _ w n hN.1 ha.bare (h _ fun _ _ _ hv => hv)
  have hB := Qge (L := none) _ _ _ hN.2 hA
  rw [FitsG.app ha] at hB
  refine Qd3 (fun ex a w hq => ?_) _ _ _ hB
  cases ex with
  | normal =>
   obtain ⟨e1, w1, m, rfl, hf, hs⟩ := hq
   show wpListIn _ _ _ _ _ [_] a _
   simp only [wpListIn]
   rw [if_pos (by simp [Region.wanted])]
   have h0 := arg_sound hf.bare hs
   have h1 := argL_sound hf.bare h0
   obtain ⟨f, first, cs, hx, hv⟩ := h1
   have ev : ({ a with defers := [] } : Act).eval = a.eval := by funext x;cases x <;> rfl
   rw [ev] at hx hv
   have hm : (az.map a.eval) = (az.toList.map a.eval).toArray := map_eval az a
   refine ⟨fun _ _ => trivial, ?_⟩
   have hrun : (Oper.semAt (wideR none).round a.eval ⟨none, .defer { callee := .value x, args := az, argTypes := ts }, ty, pos, af, none⟩).run P (w1.drewN m) = .ok (.defer { target := .fn (.func f) cs, args := first ++ (az.toList.map a.eval).toArray }) (w1.drewN m) := by
    rw [show (wideR none).round = none from rfl, Oper.semAt_none]
    simp only [execOp, resolve, hx, Deferred.ofValue, Sem.run_bind, Sem.run_pure, Result.andThen_ok, hm]
   rw [hrun]
   refine (Qxi (C := ⟨P, N, none, D, post⟩) _ hk).1 (((Qbv ks e1 _).1 hv) _ m (FitsG.sel ?_ ks))
   exact ⟨hf.size, by simp [Act.put, hf.defers], hf.at_⟩
  | _ => exact hq.elim
 rw [<- hl, List.take_append_drop] at key
 exact key
end
attribute [go_sem ↓] Qxh QAp Qrq QDb QAq
theorem Qix {P : Program} {f : FuncId} {fn : Func} {id : Nat} {t s : Tmp} {ts : Array TypeId} {ty1 ty2 : Nat} {p1 p2 : String} {a1 a2 : Array Edge} {rest : Code} {N : Nat} {args : List Value} {u u' : FrameMode} {v : Value} {w : World} {R : World -> Prop}
  (hf : P.funcs[f]? = some fn) (hb : fn.body = some (.seq (.region id #[⟨some t, .call { callee := .builtin .recover, args := #[], argTypes := ts }, ty1, p1, a1, none⟩, ⟨some s, .assign (.tmp t), ty2, p2, a2, none⟩] false) rest)) (hres : fn.results = #[]) (hN : fn.ntmps = N) (hle : args.length <= N) (ht : t < N) (hs : s < N)
  (hu : u = .returning /\ u' = .returning /\ v = .nilIface ∨ u = .panicking [{ v := v, recovered := false }] /\ u' = .panicking [{ v := v, recovered := true }])
  (h : VG ⟨P, N, none, [], fun ex a w' => (ex = .normal ∨ ex = .ret) /\ a.defers = [] /\ ∃ w1 m, w' = w1.drewN m /\ R w1⟩ [.code rest] ((s, v) :: (t, v) :: Env.ofArgs 0 args) w) :
  ∀ n, CallsDIn Fence.wide 0 P f args.toArray u (w.drewN n) (fun e u2 w' => (∃ x, e = .returned x) /\ u2 = u' /\ ∃ w1 m, w' = w1.drewN m /\ R w1) := by
 intro n
 refine callsDIn_of_wpSIn hf hb trivial fun c₀ cs hm => ?_
 generalize ha0 : ({ tmps := args.toArray ++ Array.replicate (fn.ntmps - args.toArray.size) undef, defers := [] } : Act) = a0
 have hfit0 : Fits N (Env.ofArgs 0 args) a0 := by
  subst ha0
  refine ⟨by simp [hN];omega, rfl, fun t v ht => ?_⟩
  have := (Env.find?_ofArgs args 0 t v ht).2
  rw [Array.getD_eq_getD_getElem?, Array.getElem?_append]
  have hlt : t < args.toArray.size := by
   have h2 := (List.getElem?_eq_some_iff.1 this).1
   simpa using h2
  simp only [hlt, if_true]
  simp at this ⊢
  simp [this]
 refine wpSIn_seq (wpSIn_region ?_)
 have hfit1 : Fits N ((t, v) :: Env.ofArgs 0 args) (a0.put (some t) v) := hfit0.put (some t) v fun x hx => by cases hx;exact ht
 have hfit2 : Fits N ((s, v) :: (t, v) :: Env.ofArgs 0 args) ((a0.put (some t) v).put (some s) v) := hfit1.put (some s) v fun x hx => by cases hx;exact hs
 have hev : (a0.put (some t) v).eval (.tmp t) = v := hfit1.at_ t v (by simp [Env.find?])
 have hcs : ∃ cs', (recoverD (c₀ :: cs) = some (v, cs') ∨ recoverD (c₀ :: cs) = none /\ v = .nilIface /\ cs' = c₀ :: cs) /\ cs' = { c₀ with mode := u' } :: cs := by
  rcases hu with ⟨h1, h2, h3⟩ | ⟨h1, h2⟩
  ·
   refine ⟨c₀ :: cs, .inr ⟨?_, h3, rfl⟩, ?_⟩
   ·
    simp only [recoverD, hm, h1]
   ·
    have : c₀.mode = u' := by rw [hm, h1, h2]
    cases c₀;simp only at this;subst this;rfl
  ·
   refine ⟨{ c₀ with mode := u' } :: cs, .inl ?_, rfl⟩
   simp only [recoverD, hm, h1, h2]
 obtain ⟨cs', hrec, hcs'⟩ := hcs
 have hrun2 : ∀ w, (execOp (a0.put (some t) v).eval ⟨some s, .assign (.tmp t), ty2, p2, a2, none⟩).run P w = .ok (.value v) w := fun w => by
  simp only [execOp, hev]
  rfl
 have hlast : Exit.thenS (rest.wpSIn Fence.wide 0 P (bodyPostS P fn c₀ cs fun e u2 w' => (∃ x, e = .returned x) /\ u2 = u' /\ ∃ w1 m, w' = w1.drewN m /\ R w1)) (bodyPostS P fn c₀ cs fun e u2 w' => (∃ x, e = .returned x) /\ u2 = u' /\ ∃ w1 m, w' = w1.drewN m /\ R w1) .normal ((a0.put (some t) v).put (some s) v) cs' (w.drewN n) := by
  refine wpSIn_of_wpIn rfl (wpIn_mono (F := Fence.wide) (h _ n ⟨hfit2.size, hfit2.defers, hfit2.at_⟩) fun ex a w' hq => ?_)
  obtain ⟨hex, hd, w1, m, rfl, hR⟩ := hq
  have hr := results_none hres a.tmps P (w1.drewN m)
  rcases hex with rfl | rfl
  ·
   exact ⟨hd, u', hcs', _, hr, ⟨_, rfl⟩, rfl, w1, m, rfl, hR⟩
  ·
   exact ⟨hd, u', hcs', _, hr, ⟨_, rfl⟩, rfl, w1, m, rfl, hR⟩
 have hsz : (#[⟨some t, .call { callee := .builtin .recover, args := #[], argTypes := ts }, ty1, p1, a1, none⟩, ⟨some s, .assign (.tmp t), ty2, p2, a2, none⟩] : Array Oper).size = 2 := rfl
 rw [hsz]
 simp only [show List.range 2 = [0, 1] from rfl, wpOpsSIn, List.getElem?_toArray, List.getElem?_cons_zero, List.getElem?_cons_succ]
 refine ⟨fun _ _ => trivial, ?_⟩
 rw [if_pos (by simp [Region.wanted])]
 have hrun1 : (execOp a0.eval ⟨some t, .call { callee := .builtin .recover, args := #[], argTypes := ts }, ty1, p1, a1, none⟩).run P (w.drewN n) = .ok .recover (w.drewN n) := by
  simp only [execOp, resolve, invoke, builtin, Sem.run_bind, Sem.run_pure, Result.andThen_ok]
 rw [hrun1]
 simp only []
 rcases hrec with hrec | ⟨hrec, hv, rfl⟩
 ·
  rw [hrec]
  simp only []
  refine ⟨fun _ _ => trivial, ?_⟩
  rw [if_pos (by simp [Region.wanted]), hrun2]
  exact hlast
 ·
  rw [hrec]
  simp only []
  refine ⟨fun _ _ => trivial, ?_⟩
  rw [<- hv]
  rw [if_pos (by simp [Region.wanted]), hrun2]
  exact hlast
theorem Qln {P : Program} {fn : Func} {F : Value -> World -> Prop} {Pn : List PanicEntry -> World -> Prop} {N : Nat} {e : Env} {w : World} {D : List Deferred} {f : FuncId} {cs : Array Value} {args : Array Value} {R : World -> Prop} {u : FrameMode}
  (hi : ∀ args w, (callFunc f args).run P w = .ok (.enter f args) w) (hu : u ≠ .run) (hD : D = [{ target := .fn (.func f) cs, args := args }])
  (hc : ∀ n, CallsDIn Fence.wide 0 P f (args ++ cs) u (w.drewN n) (fun e u2 w' => (∃ x, e = .returned x) /\ settle u2 = .returning /\ ∃ w1 m, w' = w1.drewN m /\ R w1))
  (hx : ∀ w1, R w1 -> VX ⟨P, fn, F, N⟩ [] .ret e w1) : ∀ a n, FitsG N D e a -> LeavesInM Fence.wide 0 P fn a.tmps (Quc F Pn) a.defers u (w.drewN n) := by
 intro a n ha
 rw [ha.defers, hD]
 refine ⟨hu, .inr ⟨by simp [Fence.wide], .func f, cs, f, args ++ cs, rfl, ?_, fun _ _ => trivial, ?_⟩⟩
 ·
  simp only [invoke];exact hi _ _
 ·
  obtain ⟨_, hc⟩ := hc n
  refine ⟨trivial, fun c cs hm hroom => ?_⟩
  obtain ⟨e2, u2, w2, fr, hR, h1, h2, h3, h4⟩ := hc c cs hm hroom
  refine ⟨e2, u2, w2, fr, ?_, h1, h2, h3, h4⟩
  obtain ⟨⟨x, rfl⟩, hs, w1, m, rfl, hR⟩ := hR
  show LeavesInM _ _ _ _ _ _ [] (settle u2) _
  rw [hs]
  exact Qoq (hx w1 hR) ha
def Qud (d : Option TypeDesc) : Bool :=
 match d with
 | some (.interface _) => false
 | some _ => true
 | none => false
theorem Qnp {P : Program} {N : Nat} {d : Option Tmp} {ty : Nat} {pos : String} {af : Array Edge} {gd : Option (Nat × Bool)} {e : Env} {w : World} {R : Env -> World -> (Env -> World -> Prop) -> Prop} {K : Env -> World -> Prop} {x : Operand} {T T' : TypeId}
  (h : arg e x fun u => ∃ v, u = .iface T' v /\ Qud (P.underlying T') = true /\ R (e.put d (.tuple #[v, .bool true])) w K) : MemK P N ⟨d, .typeAssert x T T' true, ty, pos, af, gd⟩ e w R K :=
 Qcl fun a n ha => by
  obtain ⟨v, hx, hu, hR⟩ := arg_sound ha h
  refine ⟨_, w, n, ?_, hR⟩
  simp only [execOp, hx, Instr.typeAssert]
  cases hd : P.underlying T' with
  | none => rw [hd] at hu;cases hu
  | some t => cases t <;> first | (rw [hd] at hu;cases hu;done) | simp [run_underlying hd]
section
variable {P : Program} {w : World} {KV : Value -> Prop}
theorem Qnq {T : TypeId} {ms : Array (String × TypeId)} (hu : P.underlying T = some (.interface ms)) (d : Nat) (t : TypeId) (v : Value) (w : World) : (Op.equalIn (d + 1) T (.iface t v) .nilIface).run P w = .ok false w := by
 unfold Op.equalIn
 simp [run_underlying hu]
theorem run_eq_if {T : TypeId} {ms : Array (String × TypeId)} (hu : P.underlying T = some (.interface ms)) (t : TypeId) (v : Value) (w : World) : (Op.equal T (.iface t v) .nilIface).run P w = .ok false w := Qnq hu 9999 t v w
theorem Qlo {T : TypeId} {ms : Array (String × TypeId)} (hu : P.underlying T = some (.interface ms)) (d : Nat) (w : World) : (Op.equalIn (d + 1) T .nilIface .nilIface).run P w = .ok true w := by
 unfold Op.equalIn
 simp [run_underlying hu]
theorem run_eq_nif {T : TypeId} {ms : Array (String × TypeId)} (hu : P.underlying T = some (.interface ms)) (w : World) : (Op.equal T .nilIface .nilIface).run P w = .ok true w := Qlo hu 9999 w
theorem QDc {T : TypeId} {ms : Array (String × TypeId)} (hu : P.underlying T = some (.interface ms)) (t : TypeId) (v : Value) (xo yo : Operand) : vBinO P .neq T xo yo (.iface t v) .nilIface w KV = KV (.bool true) := by
 refine Qit fun w' => ?_
 simp only [Sem.run_bind]
 rw [eqGuard_free ⟨by simp, by simp⟩]
 simp only [Result.andThen_ok, binOp, Sem.run_bind, run_eq_if hu, Sem.run_pure]
 rfl
theorem QAs {T : TypeId} {ms : Array (String × TypeId)} (hu : P.underlying T = some (.interface ms)) (xo : Operand) (c : Value) : vBinO P .neq T xo (.const c) .nilIface .nilIface w KV = KV (.bool false) := by
 refine Qit fun w' => ?_
 have hg : (eqGuard .neq T xo (.const c) .nilIface .nilIface).run P w' = .ok () w' := by
  unfold eqGuard
  simp
 simp only [Sem.run_bind]
 rw [hg]
 simp only [Result.andThen_ok, binOp, Sem.run_bind, run_eq_nif hu, Sem.run_pure]
 rfl
end
theorem Qs {P Q : Prop} (q : Q) (h : P = Q := by simp only [go_sem,↓reduceIte,reduceEqDiff];exact rfl) : P := h.mpr q
theorem Qo {A B : Prop} (b : B) (a : A := by omega) : A /\ B := ⟨a, b⟩
theorem Qp {A B C : Prop} (c : C) (a : A := by omega) (b : B := by omega) : (A /\ B) /\ C := ⟨⟨a, b⟩, c⟩
theorem VQ {P : Program} {fn : Func} {F : Value -> World -> Prop} {N : Nat} {k k' : List It} {e : Env} {w : World} (ks : List Nat) {c : Code} {id : Nat} {ops : List Oper} {Y : (Env -> World -> Prop) -> Prop}
  (h : ∀ K : Env -> World -> Prop, (∀ e w, VC ⟨P, fn, F, N⟩ k' e w -> K e w) -> Y K)
  (hp : peel c k = .code (.region id ops.toArray false) :: k' := by rfl) (hN : ops.all (Qb1 N) = true := by rfl)
  (hY : ∀ K, Qan P N ops ops e w (selC ks K) = Y K := by intro K;simp only [go_sem,↓reduceIte,reduceEqDiff];exact rfl) : VC ⟨P, fn, F, N⟩ (.code c :: k) e w :=
 VR ks hp hN fun K hK => (hY K).mpr (h K hK)
theorem VB {C : Ctx} {k k' : List It} {e : Env} {w : World} {c d : Code} {id : Nat} (h : VC C (.code d :: .blk id :: k') e w) (hp : peel c k = .code (.block id d) :: k' := by rfl) : VC C (.code c :: k) e w :=
 Qf8 c k (hp ▸ Qaf h)
theorem Vi {C : Ctx} {k : List It} {e : Env} {w : World} {t : Tmp} {b : Bool} {x y : Code} (ht : b = true -> VC C (.code x :: k) e w) (hf : b = false -> VC C (.code y :: k) e w) (hv : e.find? t = some (.bool b) := by rfl) : VC C (.code (.cond (.tmp t) x y) :: k) e w :=
 Qaa rfl hv ht hf
theorem Gc {w0 w : World} {B : List Nat} {G : List Res} (hH : Heap w0 B w G) {ad : Addr} {v : Value} {Q : Value -> Prop} (q : Q v)
  (h : Heap w0 B w G -> w.cell? ad = some v := by intro hH;first | exact Qah (hH.at 0 rfl) rfl | exact Qa0 (hH.at 0 rfl) (bytesV_get (by omega)) | exact Qa0 (hH.at 0 rfl) (Qbd (by omega)) | exact Qah (hH.at 1 rfl) rfl | exact Qa0 (hH.at 1 rfl) (bytesV_get (by omega)) | exact Qa0 (hH.at 1 rfl) (Qbd (by omega)) | exact Qah (hH.at 2 rfl) rfl | exact Qa0 (hH.at 2 rfl) (bytesV_get (by omega)) | exact Qa0 (hH.at 2 rfl) (Qbd (by omega)) | exact Qah (hH.at 3 rfl) rfl | exact Qa0 (hH.at 3 rfl) (bytesV_get (by omega)) | exact Qa0 (hH.at 3 rfl) (Qbd (by omega))) :
  ∃ v, w.cell? ad = some v /\ Q v := ⟨v, h hH, q⟩
theorem Qi {P Q : Prop} (q : Q) (h : P = Q := by simp -implicitDefEqProofs only [go_sem,↓reduceIte,reduceEqDiff];exact rfl) : P := h.mpr q
theorem VQi {P : Program} {fn : Func} {F : Value -> World -> Prop} {N : Nat} {k k' : List It} {e : Env} {w : World} (ks : List Nat) {c : Code} {id : Nat} {ops : List Oper} {Y : (Env -> World -> Prop) -> Prop}
  (h : ∀ K : Env -> World -> Prop, (∀ e w, VC ⟨P, fn, F, N⟩ k' e w -> K e w) -> Y K) (hp : peel c k = .code (.region id ops.toArray false) :: k' := by rfl) (hN : ops.all (Qb1 N) = true := by rfl)
  (hY : ∀ K, Qan P N ops ops e w (selC ks K) = Y K := by intro K;simp -implicitDefEqProofs only [go_sem,↓reduceIte,reduceEqDiff];exact rfl) : VC ⟨P, fn, F, N⟩ (.code c :: k) e w := VR ks hp hN fun K hK => (hY K).mpr (h K hK)
theorem VL {P : Program} {fn : Func} {F : Value -> World -> Prop} {N : Nat} {k k' : List It} {e : Env} {w : World} (ks : List Nat) (m : Nat) {c : Code} {id : Nat} {ops : List Oper} {Y : (Env -> World -> Prop) -> Prop}
  (h : ∀ K : Env -> World -> Prop, (∀ e w, VC ⟨P, fn, F, N⟩ k' e w -> K e w) -> Y K) (hp : peel c k = .code (.region id ops.toArray true) :: k' := by rfl) (hm : P.follows .mixedOrders = true := by kernel_rfl)
  (hB : Region.lexTailB .any ops.toArray m = true := by kernel_rfl) (hq : (ops.take m).all (fun o => Qcv P o.op) = true := by kernel_rfl) (hN : ops.all (Qb1 N) = true := by rfl)
  (hY : ∀ K, Qan P N ops ops e w (selC ks K) = Y K := by intro K;simp only [go_sem,↓reduceIte,reduceEqDiff];exact rfl) : VC ⟨P, fn, F, N⟩ (.code c :: k) e w := Qf8 c k (hp ▸ Qgc ks m hm hB hq hN fun K hK => (hY K).mpr (h K hK))
theorem Vq {P : Program} {fn : Func} {F : Value -> World -> Prop} {N : Nat} {k k' : List It} {e : Env} {w : World} (ks : List Nat) {c : Code} {id : Nat} {ops : List Oper} {Y : (Env -> Prop) -> Prop}
  (h : ∀ K : Env -> Prop, (∀ e, VC ⟨P, fn, F, N⟩ k' e w -> K e) -> Y K) (hp : peel c k = .code (.region id ops.toArray true) :: k' := by rfl) (hm : P.follows .mixedOrders = true := by kernel_rfl)
  (hB : Region.lexB .any ops.toArray = true := by kernel_rfl) (hN : ops.all (Qb1 N) = true := by rfl)
  (hY : ∀ K, vcQ P N ops ops e w (selQ ks K) = Y K := by intro K;simp only [go_sem,↓reduceIte,reduceEqDiff];exact rfl) : VC ⟨P, fn, F, N⟩ (.code c :: k) e w := Qf8 c k (hp ▸ Qpj ks hm hB hN fun K hK => (hY K).mpr (h K hK))
theorem VH {P : Program} {fn : Func} {F : Value -> World -> Prop} {N : Nat} {k k' : List It} {e : Env} {w : World} (w0 : World) (hx : Ext w0 w) (ks : List Nat) (plan : List (Nat × Bool)) {c : Code} {id : Nat} {ops : List Oper} {l : List (Bool × Oper)} {Y : (Env -> World -> Prop) -> Prop}
  (h : ∀ K : Env -> World -> Prop, (∀ e w, VC ⟨P, fn, F, N⟩ k' e w -> K e w) -> Y K) (hp : peel c k = .code (.region id ops.toArray true) :: k' := by rfl) (hm : P.follows .mixedOrders = true := by kernel_rfl)
  (hB : (Qhd ops.toArray plan (Array.replicate ops.toArray.size false) && Region.noSelect ops.toArray && decide (plan.length <= ops.length)) = true := by kernel_rfl) (hN : ops.all (Qb1 N) = true := by rfl) (hl : Qau ops plan = l := by simp only [Qau, List.filterMap_cons, List.filterMap_nil, List.getElem?_cons_succ, List.getElem?_cons_zero, Option.map_some];rfl)
  (hY : ∀ K, vcH P N ops w0 l e w (selC ks K) = Y K := by intro K;simp only [go_sem,↓reduceIte,reduceEqDiff];exact rfl) : VC ⟨P, fn, F, N⟩ (.code c :: k) e w := Qf8 c k (hp ▸ Qpw w0 hx ks plan hm hB hN hl fun K hK => (hY K).mpr (h K hK))
theorem V3 {P : Program} {fn : Func} {F : Value -> World -> Prop} {N : Nat} {k k' : List It} {e : Env} {w : World} (w0 : World) (hx : Ext w0 w) (ks : List Nat) (t : Qig) {c : Code} {id : Nat} {ops : List Oper}
  (h : ∀ K : Env -> World -> Prop, (∀ e w, VC ⟨P, fn, F, N⟩ k' e w -> K e w) -> vcT3 P N ops w0 t e w (selC ks K)) (hp : peel c k = .code (.region id ops.toArray true) :: k' := by rfl) (hm : P.follows .mixedOrders = true := by kernel_rfl)
  (hB : (Qdf ops.toArray t ops.toArray.size (Array.replicate ops.toArray.size false) && Region.noSelect ops.toArray) = true := by kernel_rfl) (hN : ops.all (Qb1 N) = true := by rfl) : VC ⟨P, fn, F, N⟩ (.code c :: k) e w := Qf8 c k (hp ▸ Qnk w0 hx ks t hm hB hN h)
theorem Qrr {C : CtxG} {e : Env} {w : World} : ∀ (c : Code) (k : List It), VG C (peel c k) e w -> VG C (.code c :: k) e w := by
 intro c
 induction c with
 | seq a b iha ihb => intro k h;exact Qc2 (iha _ h)
 | _ => intro k h;exact h
theorem GQ {C : CtxG} {k k' : List It} {e : Env} {w : World} (ks : List Nat) {c : Code} {id : Nat} {ops : List Oper} {Y : (Env -> World -> Prop) -> Prop}
  (h : ∀ K : Env -> World -> Prop, (∀ e w, VG C k' e w -> K e w) -> Y K) (hp : peel c k = .code (.region id ops.toArray false) :: k' := by rfl) (hN : (ops.all (Qb1 C.N) && ops.all Qcj) = true := by kernel_rfl)
  (hY : ∀ K, Qan C.P C.N ops ops e w (selC ks K) = Y K := by intro K;simp only [go_sem,↓reduceIte,reduceEqDiff];exact rfl) : VG C (.code c :: k) e w := Qrr c k (hp ▸ Qlj ks hN fun K hK => (hY K).mpr (h K hK))
theorem En {P : Program} {f : FuncId} {fn : Func} {c : Code} {w : World} {F : Value -> World -> Prop} {E : Env} (args : List Value) (N : Nat) (hf : P.funcs[f]? = some fn) (h : VC ⟨P, fn, F, N⟩ [.code c] E w)
  (hb : fn.body = some c := by rfl) (hN : fn.ntmps = N := by rfl) (hle : args.length <= N := by exact of_decide_eq_true rfl) (hE : Env.ofArgs 0 args = E := by simp only [Env.ofArgs];exact rfl) : Does P f args.toArray w F :=
 Qc7 N hf hb hN hle (hE ▸ h)
theorem VD {C : Ctx} {k : List It} {e : Env} {w : World} {t : Tmp} {p : Prop} {d : Decidable p} {x y : Code} (ht : p -> VC C (.code x :: k) e w) (hf : ¬p -> VC C (.code y :: k) e w) (hv : e.find? t = some (.bool (decide p)) := by rfl) : VC C (.code (.cond (.tmp t) x y) :: k) e w :=
 Qaa rfl hv (fun h => ht (of_decide_eq_true h)) fun h => hf (of_decide_eq_false h)
theorem VS {P : Program} {fn : Func} {F : Value -> World -> Prop} {N : Nat} {k k' : List It} {e e' : Env} {w w' : World} (ks : List Nat) {c : Code} {id : Nat} {ops : List Oper} (h : VC ⟨P, fn, F, N⟩ k' e' w')
  (hp : peel c k = .code (.region id ops.toArray false) :: k' := by rfl) (hN : ops.all (Qb1 N) = true := by rfl)
  (hY : ∀ K : Env -> World -> Prop, K e' w' -> Qan P N ops ops e w (selC ks K) := by intro K h;simp only [go_sem,↓reduceIte,reduceEqDiff];(repeat refine Qo ?_);exact h) : VC ⟨P, fn, F, N⟩ (.code c :: k) e w :=
 VR ks hp hN fun K hK => hY K (hK _ _ h)
theorem GS {C : CtxG} {k k' : List It} {e e' : Env} {w w' : World} (ks : List Nat) {c : Code} {id : Nat} {ops : List Oper} (h : VG C k' e' w')
  (hp : peel c k = .code (.region id ops.toArray false) :: k' := by rfl) (hN : (ops.all (Qb1 C.N) && ops.all Qcj) = true := by kernel_rfl)
  (hY : ∀ K : Env -> World -> Prop, K e' w' -> Qan C.P C.N ops ops e w (selC ks K) := by intro K h;simp only [go_sem,↓reduceIte,reduceEqDiff];(repeat refine Qo ?_);exact h) : VG C (.code c :: k) e w :=
 Qrr c k (hp ▸ Qlj ks hN fun K hK => hY K (hK _ _ h))
end Go.Eng
namespace Go.Proofs.YtfphmlhgebpojaaGreat
def bitsN : Nat -> Nat -> List Bool
 | 0, _ => []
 | n + 1, v => v.testBit n :: bitsN n v
def Qnr : List Bool -> Nat -> Nat
 | [], a => a
 | b :: l, a => Qnr l (2 * a + b.toNat)
def numB (l : List Bool) : Nat := Qnr l 0
theorem Qat (n v : Nat) : (bitsN n v).length = n := by
 induction n with
 | zero => rfl
 | succ n ih => simp [bitsN, ih]
theorem Que (l : List Bool) : ∀ a, Qnr l a = a * 2 ^ l.length + Qnr l 0 := by
 induction l with
 | nil => intro a;simp [Qnr]
 | cons b l ih =>
  intro a
  simp only [Qnr]
  rw [ih (2 * a + b.toNat), ih (2 * 0 + b.toNat), List.length_cons, Nat.pow_succ, Nat.add_mul, Nat.mul_zero, Nat.zero_add]
  rw [show 2 * a * 2 ^ l.length = a * (2 ^ l.length * 2) by rw [Nat.mul_comm 2 a, Nat.mul_assoc, Nat.mul_comm 2]]
  omega
theorem Qgy : numB [] = 0 := rfl
theorem Qdv (b : Bool) (l : List Bool) : numB (b :: l) = b.toNat * 2 ^ l.length + numB l := by
 unfold numB;simp only [Qnr];rw [Que l];simp
theorem Qhj (l m : List Bool) : numB (l ++ m) = numB l * 2 ^ m.length + numB m := by
 induction l with
 | nil => simp [Qgy]
 | cons b l ih =>
  rw [List.cons_append, Qdv, ih, Qdv, List.length_append, Nat.pow_add, Nat.add_mul, Nat.mul_assoc]
  omega
theorem Qhk (l : List Bool) (b : Bool) : numB (l ++ [b]) = 2 * numB l + b.toNat := by
 rw [Qhj, Qdv];simp [Qgy, Nat.mul_comm]
theorem Qba (l : List Bool) : numB l < 2 ^ l.length := by
 induction l with
 | nil => simp [Qgy]
 | cons b l ih =>
  rw [Qdv, List.length_cons, Nat.pow_succ]
  cases b <;> simp <;> omega
theorem Qda (n v : Nat) : numB (bitsN n v) = v % 2 ^ n := by
 induction n with
 | zero => simp [bitsN, Qgy, Nat.mod_one]
 | succ n ih =>
  rw [bitsN, Qdv, ih, Qat, Nat.pow_succ, Nat.mod_mul, Nat.testBit_eq_decide_div_mod_eq]
  rcases Nat.mod_two_eq_zero_or_one (v / 2 ^ n) with h | h <;> rw [h] <;> simp
  omega
theorem Qdo (m n v : Nat) : bitsN (m + n) v = bitsN m (v / 2 ^ n) ++ bitsN n v := by
 induction m with
 | zero => simp [bitsN]
 | succ m ih =>
  rw [show m + 1 + n = (m + n) + 1 by omega, bitsN, ih, bitsN, List.cons_append, Nat.testBit_div_two_pow, Nat.add_comm m n]
theorem Qfp (n v : Nat) : ∀ k, n <= k -> bitsN n (v % 2 ^ k) = bitsN n v := by
 intro k
 induction n with
 | zero => intro _;rfl
 | succ n ih =>
  intro h
  rw [bitsN, bitsN, ih (by omega), Nat.testBit_mod_two_pow]
  simp [show n < k by omega]
theorem Qiy (l : List Bool) : bitsN l.length (numB l) = l := by
 induction l with
 | nil => rfl
 | cons b l ih =>
  rw [List.length_cons, bitsN, Qdv]
  have h := Qba l
  have e1 : (b.toNat * 2 ^ l.length + numB l).testBit l.length = b := by
   rw [Nat.testBit_eq_decide_div_mod_eq, Nat.mul_comm, Nat.mul_add_div (Nat.two_pow_pos _), Nat.div_eq_of_lt h]
   cases b <;> simp
  have e2 : bitsN l.length (b.toNat * 2 ^ l.length + numB l) = l := by
   have := Qfp l.length (b.toNat * 2 ^ l.length + numB l) l.length (Nat.le_refl _)
   rw [Nat.mul_comm, Nat.mul_add_mod, Nat.mod_eq_of_lt h, ih] at this
   rw [Nat.mul_comm];exact this.symm
  rw [e1, e2]
theorem Qfq (n v : Nat) : ∀ i, i < n -> (bitsN n v)[i]? = some (v.testBit (n - 1 - i)) := by
 induction n with
 | zero => intro i h;omega
 | succ n ih =>
  intro i h
  rw [bitsN]
  cases i with
  | zero => simp
  | succ i =>
   rw [List.getElem?_cons_succ, ih i (by omega)]
   congr 2;omega
def bytesB (l : List UInt8) : List Bool := l.flatMap fun b => bitsN 8 b.toNat
theorem Qez : bytesB [] = [] := rfl
theorem bytesB_cons (b : UInt8) (l : List UInt8) : bytesB (b :: l) = bitsN 8 b.toNat ++ bytesB l := rfl
theorem Qd4 (l m : List UInt8) : bytesB (l ++ m) = bytesB l ++ bytesB m := by simp [bytesB]
theorem bytesB_length (l : List UInt8) : (bytesB l).length = 8 * l.length := by
 induction l with
 | nil => rfl
 | cons b l ih => rw [bytesB_cons, List.length_append, Qat, ih, List.length_cons];omega
theorem Qgf (l : List UInt8) : ∀ i, i < 8 * l.length -> (bytesB l)[i]? = some ((l.getD (i / 8) 0).toNat.testBit (7 - i % 8)) := by
 induction l with
 | nil => intro i h;simp at h
 | cons b l ih =>
  intro i h
  rw [bytesB_cons]
  by_cases h8 : i < 8
  ·
   rw [List.getElem?_append_left (by rw [Qat];exact h8), Qfq 8 _ i h8]
   simp [show i / 8 = 0 by omega, show i % 8 = i by omega]
  ·
   rw [List.getElem?_append_right (by rw [Qat];omega), Qat, ih (i - 8) (by simp at h;omega)]
   rw [show i / 8 = (i - 8) / 8 + 1 by omega, show (i - 8) % 8 = i % 8 by omega]
   rfl
theorem Qp5 {a b : UInt8} (h : bitsN 8 a.toNat = bitsN 8 b.toNat) : a = b := by
 have := congrArg numB h
 rw [Qda, Qda, Nat.mod_eq_of_lt a.toNat_lt, Nat.mod_eq_of_lt b.toNat_lt] at this
 exact UInt8.toNat_inj.1 this
theorem Qiz : ∀ (l m : List UInt8), bytesB l = bytesB m -> l = m
 | [], [], _ => rfl
 | [], b :: m, h => by have := congrArg List.length h;simp [bytesB_length] at this
 | a :: l, [], h => by have := congrArg List.length h;simp [bytesB_length] at this
 | a :: l, b :: m, h => by
  rw [bytesB_cons, bytesB_cons] at h
  obtain ⟨h1, h2⟩ := List.append_inj h (by simp [Qat])
  rw [Qp5 h1, Qiz l m h2]
def textGo : List Bool -> Nat -> Nat -> List UInt8
 | [], acc, k => if k = 0 then [] else [UInt8.ofNat (acc * 2 ^ (8 - k))]
 | b :: l, acc, k => if k = 7 then UInt8.ofNat (2 * acc + b.toNat) :: textGo l 0 0 else textGo l (2 * acc + b.toNat) (k + 1)
def textB (l : List Bool) : List UInt8 := textGo l 0 0
theorem Qi0 (n : Nat) : bitsN n 0 = List.replicate n false := by
 induction n with
 | zero => rfl
 | succ n ih => rw [bitsN, ih, Nat.zero_testBit];rfl
theorem ofNat_toNat {n : Nat} (h : n < 256) : (UInt8.ofNat n).toNat = n := by
 rw [UInt8.toNat_ofNat'];exact Nat.mod_eq_of_lt h
theorem Qns (l : List Bool) : ∀ (acc k : Nat), k <= 7 -> acc < 2 ^ k ->
  bytesB (textGo l acc k) = bitsN k acc ++ l ++ List.replicate (8 * ((k + l.length + 7) / 8) - (k + l.length)) false := by
 induction l with
 | nil =>
  intro acc k hk ha
  rw [textGo]
  by_cases h0 : k = 0
  ·
   subst h0;simp [Qez, bitsN]
  ·
   rw [if_neg h0, bytesB_cons, Qez, List.append_nil, List.append_nil]
   have hlt : acc * 2 ^ (8 - k) < 256 := by
    have e : 2 ^ k * 2 ^ (8 - k) = 256 := by rw [<- Nat.pow_add, show k + (8 - k) = 8 by omega]
    rw [<- e]
    exact Nat.mul_lt_mul_of_pos_right ha (Nat.two_pow_pos _)
   rw [ofNat_toNat hlt]
   have := Qdo k (8 - k) (acc * 2 ^ (8 - k))
   rw [show k + (8 - k) = 8 by omega, Nat.mul_div_cancel _ (Nat.two_pow_pos _)] at this
   rw [this]
   congr 1
   have h2 := Qfp (8 - k) (acc * 2 ^ (8 - k)) (8 - k) (Nat.le_refl _)
   rw [Nat.mul_mod_left, Qi0] at h2
   rw [<- h2]
   congr 1
   simp only [List.length_nil];omega
 | cons b l ih =>
  intro acc k hk ha
  rw [textGo]
  have hb : b.toNat <= 1 := by cases b <;> simp
  have hbits : bitsN (k + 1) (2 * acc + b.toNat) = bitsN k acc ++ [b] := by
   have := Qdo k 1 (2 * acc + b.toNat)
   rw [this]
   congr 1
   ·
    congr 1;simp;omega
   ·
    simp only [bitsN];cases b <;> simp [Nat.testBit_zero]
  have hlt : 2 * acc + b.toNat < 2 ^ (k + 1) := by rw [Nat.pow_succ];omega
  by_cases h7 : k = 7
  ·
   subst h7
   rw [if_pos rfl, bytesB_cons, ofNat_toNat (by simpa using hlt), hbits, ih 0 0 (by omega) (by simp)]
   simp only [bitsN, List.nil_append, List.append_assoc, List.length_cons, List.singleton_append]
   congr 4
   omega
  ·
   rw [if_neg h7, ih _ (k + 1) (by omega) hlt, hbits]
   simp only [List.append_assoc, List.length_cons, List.singleton_append]
   rw [show k + 1 + l.length = k + (l.length + 1) by omega]
theorem Qb9 (l : List Bool) : bytesB (textB l) = l ++ List.replicate (8 * ((l.length + 7) / 8) - l.length) false := by
 have := Qns l 0 0 (by omega) (by simp)
 simpa [bitsN, textB] using this
theorem Qbh (l : List Bool) : (textB l).length = (l.length + 7) / 8 := by
 have := congrArg List.length (Qb9 l)
 rw [bytesB_length, List.length_append, List.length_replicate] at this
 omega
theorem Qjs {o : List UInt8} {l : List Bool} (h : bytesB o = l ++ List.replicate (8 * ((l.length + 7) / 8) - l.length) false) : o = textB l :=
 Qiz _ _ (by rw [h, Qb9])
theorem Qjt (l m : List Bool) (h : l.length % 8 = 0) : textB (l ++ m) = textB l ++ textB m := by
 refine (Qjs ?_).symm
 rw [Qd4, Qb9, Qb9, show 8 * ((l.length + 7) / 8) - l.length = 0 by omega, List.replicate_zero, List.append_nil, List.append_assoc, List.length_append]
 congr 3;omega
theorem Qhl (l : List Bool) : textB (l ++ [false]) = if l.length % 8 = 0 then textB l ++ [0] else textB l := by
 symm
 refine Qjs ?_
 have e : (l ++ [false]).length = l.length + 1 := by simp
 rw [e]
 split
 ·
  rename_i h
  rw [Qd4, Qb9, show 8 * ((l.length + 7) / 8) - l.length = 0 by omega, List.replicate_zero, List.append_nil, List.append_assoc]
  congr 1
  rw [show 8 * ((l.length + 1 + 7) / 8) - (l.length + 1) = 7 by omega]
  rfl
 ·
  rename_i h
  rw [Qb9, List.append_assoc]
  congr 1
  rw [show 8 * ((l.length + 7) / 8) - l.length = (8 * ((l.length + 1 + 7) / 8) - (l.length + 1)) + 1 by omega, List.replicate_succ]
  rfl
theorem Qnt (k j : Nat) (hk : k <= 7) (hj : j <= 7) : (128 / 2 ^ k).testBit (7 - j) = decide (j = k) := by
 have : 128 / 2 ^ k = 2 ^ (7 - k) := by
  rw [show (128 : Nat) = 2 ^ 7 from rfl, Nat.pow_div hk (by omega)]
 rw [this, Nat.testBit_two_pow]
 by_cases h : j = k
 ·
  subst h;simp
 ·
  simp [h];omega
theorem Qp6 (l : List Bool) (y : UInt8) (hy : y.toNat = ((textB (l ++ [false])).getD (l.length / 8) 0).toNat ||| 128 / 2 ^ (l.length % 8)) :
  textB (l ++ [true]) = (textB (l ++ [false])).set (l.length / 8) y := by
 symm
 refine Qjs ?_
 have hol : (textB (l ++ [false])).length = (l.length + 8) / 8 := by rw [Qbh, List.length_append];rfl
 have hob := Qb9 (l ++ [false])
 generalize textB (l ++ [false]) = o at *
 have e : (l ++ [true]).length = l.length + 1 := by simp
 have e2 : (l ++ [false]).length = l.length + 1 := by simp
 rw [e]
 rw [e2] at hob
 generalize hr : 8 * ((l.length + 1 + 7) / 8) - (l.length + 1) = r at *
 apply List.ext_getElem?
 intro j
 by_cases hj : j < 8 * o.length
 ·
  rw [Qgf _ j (by simpa using hj)]
  have h1 := Qgf o j hj
  rw [hob] at h1
  by_cases hji : j / 8 = l.length / 8
  ·
   have h2 : (o.set (l.length / 8) y).getD (j / 8) 0 = y := by
    rw [List.getD_eq_getElem?_getD, hji, List.getElem?_set_self (by omega)];rfl
   rw [h2, hy, Nat.testBit_or, Qnt _ _ (by omega) (by omega), <- hji]
   by_cases hjl : j = l.length
   ·
    subst hjl
    simp
   ·
    have hm : ¬ j % 8 = l.length % 8 := by omega
    rw [decide_eq_false hm, Bool.or_false, <- h1]
    by_cases hlt : j < l.length
    ·
     rw [List.append_assoc, List.append_assoc, List.getElem?_append_left hlt, List.getElem?_append_left hlt]
    ·
     rw [List.getElem?_append_right (by simp;omega), List.getElem?_append_right (by simp;omega)];simp
  ·
   have h2 : (o.set (l.length / 8) y).getD (j / 8) 0 = o.getD (j / 8) 0 := by
    rw [List.getD_eq_getElem?_getD, List.getElem?_set_ne (fun h => hji h.symm), List.getD_eq_getElem?_getD]
   rw [h2, <- h1]
   have hjl : ¬ j = l.length := by omega
   by_cases hlt : j < l.length
   ·
    rw [List.append_assoc, List.append_assoc, List.getElem?_append_left hlt, List.getElem?_append_left hlt]
   ·
    rw [List.getElem?_append_right (by simp;omega), List.getElem?_append_right (by simp;omega)];simp
 ·
  rw [List.getElem?_eq_none (by rw [bytesB_length];simp;omega), List.getElem?_eq_none]
  simp
  omega
theorem Qhm (n v k : Nat) (h : k < n) : (bitsN n v).take (k + 1) = (bitsN n v).take k ++ [v.testBit (n - 1 - k)] := by
 rw [List.take_add_one, Qfq n v k h];rfl
theorem Qdg (v i : Nat) : (v / 2 ^ i) % 2 = (v.testBit i).toNat := by
 rw [Nat.testBit_eq_decide_div_mod_eq]
 rcases Nat.mod_two_eq_zero_or_one (v / 2 ^ i) with h | h <;> rw [h] <;> rfl
def Qcr (l : List Bool) (at_ n : Nat) : Nat × Int := if l.length < at_ + n then (0, 10) else (numB ((l.drop at_).take n), 0)
def unS : List Bool -> Nat -> Nat -> Nat × Int
 | [], _, _ => (0, 10)
 | false :: _, _, n => (n, 0)
 | true :: r, most, n => if n = most then (0, 3) else unS r most (n + 1)
open Go Go.Eng
section
variable {w : World} {KV : Value -> Prop}
theorem sz3 : Tryz.prog.szo 3 = some 1 := by kernel_rfl
theorem ld3 (a : Addr) : vLoad Tryz.prog 3 (.pointer (some a)) w KV = ∃ v, w.cell? a = some v /\ KV v := Qis 3 a .i64 Tryz.underlying3
theorem QDd (k : IntKind) (n : Int) : vConv Tryz.prog 3 5 (.int k n) w KV = vWrap .u8 n KV := Qdk 3 5 _ .u8 k n Tryz.underlying3 Tryz.underlying5
theorem QDe : Qax Tryz.prog 3 5 = true := by kernel_rfl
theorem QAt (k : IntKind) (n : Int) : vConv Tryz.prog 3 31 (.int k n) w KV = vWrap .u32 n KV := Qdk 3 31 _ .u32 k n Tryz.underlying3 Tryz.underlying31
theorem QAu : Qax Tryz.prog 3 31 = true := by kernel_rfl
theorem QAv (k : IntKind) (n : Int) : vConv Tryz.prog 3 71 (.int k n) w KV = vWrap .u64 n KV := Qdk 3 71 _ .u64 k n Tryz.underlying3 Tryz.underlying71
theorem QAw : Qax Tryz.prog 3 71 = true := by kernel_rfl
theorem QAx (k : IntKind) (n : Int) : vConv Tryz.prog 3 97 (.int k n) w KV = vWrap .u64 n KV := Qdk 3 97 _ .u64 k n Tryz.underlying3 Tryz.underlying97
theorem QAy : Qax Tryz.prog 3 97 = true := by kernel_rfl
theorem Qxj (k : IntKind) (n : Int) : vConv Tryz.prog 3 228 (.int k n) w KV = vWrap .u64 n KV := Qdk 3 228 _ .u64 k n Tryz.underlying3 Tryz.underlying228
theorem Qxk : Qax Tryz.prog 3 228 = true := by kernel_rfl
theorem sz4 : Tryz.prog.szo 4 = some 1 := by kernel_rfl
theorem ld4 (a : Addr) : vLoad Tryz.prog 4 (.pointer (some a)) w KV = ∃ v, w.cell? a = some v /\ KV v := Qwz 4 a Tryz.underlying4
theorem QDf (x y : Operand) (a b : Bool) : vBinO Tryz.prog .eql 4 x y (.bool a) (.bool b) w KV = KV (.bool (decide (a = b))) := Qz8 4 x y a b Tryz.underlying4
theorem QDg (x y : Operand) (a b : Bool) : vBinO Tryz.prog .neq 4 x y (.bool a) (.bool b) w KV = KV (.bool (decide (¬ a = b))) := Qz9 4 x y a b Tryz.underlying4
theorem sz5 : Tryz.prog.szo 5 = some 1 := by kernel_rfl
theorem ld5 (a : Addr) : vLoad Tryz.prog 5 (.pointer (some a)) w KV = ∃ v, w.cell? a = some v /\ KV v := Qis 5 a .u8 Tryz.underlying5
theorem QDh (k : IntKind) (n : Int) : vConv Tryz.prog 5 3 (.int k n) w KV = vWrap .i64 n KV := Qdk 5 3 _ .i64 k n Tryz.underlying5 Tryz.underlying3
theorem QDi : Qax Tryz.prog 5 3 = true := by kernel_rfl
theorem QAz (k : IntKind) (n : Int) : vConv Tryz.prog 5 71 (.int k n) w KV = vWrap .u64 n KV := Qdk 5 71 _ .u64 k n Tryz.underlying5 Tryz.underlying71
theorem QA0 : Qax Tryz.prog 5 71 = true := by kernel_rfl
theorem sz9 : Tryz.prog.szo 9 = some 1 := by kernel_rfl
theorem ln9 (s : ByteArray) : vLen Tryz.prog 9 (.string s) KV = KV (.int .i64 (toL s).length) := QAa 9 s Tryz.underlying9
theorem ix9 (s : ByteArray) (k : IntKind) (n : Int) : vIndex Tryz.prog 9 (.string s) (.int k n) KV = ((0 <= n /\ n < (toL s).length) /\ KV (.int .u8 ((toL s).getD n.toNat 0).toNat)) := QAb 9 s k n Tryz.underlying9
theorem snn9 (s : ByteArray) : vSlice Tryz.prog 9 (.string s) none none KV = KV (.string s) := QC5 9 s Tryz.underlying9
theorem sln9 (s : ByteArray) (k : IntKind) (l : Int) : vSlice Tryz.prog 9 (.string s) (some (.int k l)) none KV = ((0 <= l /\ l <= (toL s).length) /\ KV (Str ((toL s).drop l.toNat))) := QC6 9 s k l Tryz.underlying9
theorem snh9 (s : ByteArray) (k : IntKind) (l : Int) : vSlice Tryz.prog 9 (.string s) none (some (.int k l)) KV = ((0 <= l /\ l <= (toL s).length) /\ KV (Str ((toL s).take l.toNat))) := QC7 9 s k l Tryz.underlying9
theorem slh9 (s : ByteArray) (k k' : IntKind) (l m : Int) : vSlice Tryz.prog 9 (.string s) (some (.int k l)) (some (.int k' m)) KV = ((0 <= l /\ l <= m /\ m <= (toL s).length) /\ KV (Str (((toL s).drop l.toNat).take (m.toNat - l.toNat)))) := QC8 9 s k k' l m Tryz.underlying9
theorem ld9 (a : Addr) : vLoad Tryz.prog 9 (.pointer (some a)) w KV = ∃ v, w.cell? a = some v /\ KV v := QAd 9 a Tryz.underlying9
theorem sz20 : Tryz.prog.szo 20 = some 1 := by kernel_rfl
theorem sz24 : Tryz.prog.szo 24 = some 2 := by kernel_rfl
theorem ld24 (a : Addr) : vLoad Tryz.prog 24 (.pointer (some a)) w KV = ∃ cs : List Value, (cs.length = 2 /\ Reads w a cs) /\ KV (.agg cs.toArray) := Qq7 24 2 a _ Tryz.underlying24 (by kernel_rfl)
theorem bd24 (s0 : ByteArray) (n1 : Int) : vBuild Tryz.prog 24 [(0, .string s0), (1, .int .i64 n1)] KV = KV (.agg #[.string s0, .int .i64 n1]) := Qec (by kernel_rfl)
theorem bz24 : vBuild Tryz.prog 24 [] KV = KV (.agg #[.string ⟨#[]⟩, .int .i64 0]) := Qec (by kernel_rfl)
theorem QA1 (l : List Value) : vField Tryz.prog 24 (.agg l.toArray) 0 KV = vNth l 0 KV := Qb2 24 0 l Tryz.underlying24 rfl (by kernel_rfl) (by kernel_rfl) (by kernel_rfl)
theorem QA2 (a : Addr) : vFieldAddr Tryz.prog 24 (.pointer (some a)) 0 KV = KV (.pointer (some (a.add 0))) := Qdj 24 0 a (m := 0) Tryz.underlying24 rfl (by kernel_rfl)
theorem QA3 (l : List Value) : vField Tryz.prog 24 (.agg l.toArray) 1 KV = vNth l 1 KV := Qb2 24 1 l Tryz.underlying24 rfl (by kernel_rfl) (by kernel_rfl) (by kernel_rfl)
theorem QA4 (a : Addr) : vFieldAddr Tryz.prog 24 (.pointer (some a)) 1 KV = KV (.pointer (some (a.add 1))) := Qdj 24 1 a (m := 0) Tryz.underlying24 rfl (by kernel_rfl)
theorem sz25 : Tryz.prog.szo 25 = some 1 := by kernel_rfl
theorem ld25 (a : Addr) : vLoad Tryz.prog 25 (.pointer (some a)) w KV = ∃ v, w.cell? a = some v /\ KV v := Qis 25 a .i64 Tryz.underlying25
theorem sz31 : Tryz.prog.szo 31 = some 1 := by kernel_rfl
theorem ld31 (a : Addr) : vLoad Tryz.prog 31 (.pointer (some a)) w KV = ∃ v, w.cell? a = some v /\ KV v := Qis 31 a .u32 Tryz.underlying31
theorem QA5 (k : IntKind) (n : Int) : vConv Tryz.prog 31 5 (.int k n) w KV = vWrap .u8 n KV := Qdk 31 5 _ .u8 k n Tryz.underlying31 Tryz.underlying5
theorem QA6 : Qax Tryz.prog 31 5 = true := by kernel_rfl
theorem Qxl (k : IntKind) (n : Int) : vConv Tryz.prog 31 71 (.int k n) w KV = vWrap .u64 n KV := Qdk 31 71 _ .u64 k n Tryz.underlying31 Tryz.underlying71
theorem Qxm : Qax Tryz.prog 31 71 = true := by kernel_rfl
theorem sz36 : Tryz.prog.szo 36 = some 1 := by kernel_rfl
theorem ln36 (a : Option Addr) (n c : Nat) : vLen Tryz.prog 36 (.slice a n c) KV = KV (.int .i64 n) := Qm8 36 3 a n c Tryz.underlying36
theorem QDj (a : Option Addr) (n c : Nat) : vSlice Tryz.prog 36 (.slice a n c) none none KV = (n <= c /\ KV (.slice a n c)) := Qwv 36 3 a n c 1 Tryz.underlying36 (by kernel_rfl)
theorem QDk (a : Option Addr) (n c : Nat) (k : IntKind) (l : Int) : vSlice Tryz.prog 36 (.slice a n c) (some (.int k l)) none KV = ((0 <= l /\ l <= n /\ n <= c) /\ KV (.slice (if c = l.toNat then a else a.map (·.add (l.toNat * 1))) (n - l.toNat) (c - l.toNat))) := Qww 36 3 a n c 1 k l Tryz.underlying36 (by kernel_rfl)
theorem QDl (a : Option Addr) (n c : Nat) (k : IntKind) (l : Int) : vSlice Tryz.prog 36 (.slice a n c) none (some (.int k l)) KV = ((0 <= l /\ l <= c) /\ KV (.slice a l.toNat c)) := Qwx 36 3 a n c 1 k l Tryz.underlying36 (by kernel_rfl)
theorem QDm (a : Option Addr) (n c : Nat) (k k' : IntKind) (l m : Int) : vSlice Tryz.prog 36 (.slice a n c) (some (.int k l)) (some (.int k' m)) KV = ((0 <= l /\ l <= m /\ m <= c) /\ KV (.slice (if c = l.toNat then a else a.map (·.add (l.toNat * 1))) (m.toNat - l.toNat) (c - l.toNat))) := Qwy 36 3 a n c 1 k k' l m Tryz.underlying36 (by kernel_rfl)
theorem ia36 (a : Addr) (n c : Nat) (k : IntKind) (i : Int) : vIndexAddr Tryz.prog 36 (.slice (some a) n c) (.int k i) KV = ((0 <= i /\ i < n) /\ KV (.pointer (some (a.add (i.toNat * 1))))) := Qk5 36 3 a n c 1 k i Tryz.underlying36 (by kernel_rfl)
theorem ld36 (a : Addr) : vLoad Tryz.prog 36 (.pointer (some a)) w KV = ∃ v, w.cell? a = some v /\ KV v := Qpr 36 3 a Tryz.underlying36
theorem sz42 : Tryz.prog.szo 42 = some 4 := by kernel_rfl
theorem ld42 (a : Addr) : vLoad Tryz.prog 42 (.pointer (some a)) w KV = ∃ cs : List Value, (cs.length = 4 /\ Reads w a cs) /\ KV (.agg cs.toArray) := Qtx 42 4 4 5 a Tryz.underlying42 (by kernel_rfl)
theorem QDn (l : List Value) (k : IntKind) (i : Int) : vIndex Tryz.prog 42 (.agg l.toArray) (.int k i) KV = ((0 <= i /\ i < ((4 : Nat) : Int)) /\ vNth l i.toNat KV) := Qhg 42 l k i Tryz.underlying42 (by kernel_rfl) (by kernel_rfl) (by kernel_rfl)
theorem ia42 (a : Addr) (k : IntKind) (i : Int) : vIndexAddr Tryz.prog 42 (.pointer (some a)) (.int k i) KV = ((0 <= i /\ i < ((4 : Nat) : Int)) /\ KV (.pointer (some (a.add (i.toNat * 1))))) := Qm9 42 5 a 4 1 k i Tryz.underlying42 (by kernel_rfl)
theorem sz43 : Tryz.prog.szo 43 = some 1 := by kernel_rfl
theorem ln43 (a : Option Addr) (n c : Nat) : vLen Tryz.prog 43 (.slice a n c) KV = KV (.int .i64 n) := Qm8 43 5 a n c Tryz.underlying43
theorem QDo (a : Option Addr) (n c : Nat) : vSlice Tryz.prog 43 (.slice a n c) none none KV = (n <= c /\ KV (.slice a n c)) := Qwv 43 5 a n c 1 Tryz.underlying43 (by kernel_rfl)
theorem QDp (a : Option Addr) (n c : Nat) (k : IntKind) (l : Int) : vSlice Tryz.prog 43 (.slice a n c) (some (.int k l)) none KV = ((0 <= l /\ l <= n /\ n <= c) /\ KV (.slice (if c = l.toNat then a else a.map (·.add (l.toNat * 1))) (n - l.toNat) (c - l.toNat))) := Qww 43 5 a n c 1 k l Tryz.underlying43 (by kernel_rfl)
theorem QDq (a : Option Addr) (n c : Nat) (k : IntKind) (l : Int) : vSlice Tryz.prog 43 (.slice a n c) none (some (.int k l)) KV = ((0 <= l /\ l <= c) /\ KV (.slice a l.toNat c)) := Qwx 43 5 a n c 1 k l Tryz.underlying43 (by kernel_rfl)
theorem QDr (a : Option Addr) (n c : Nat) (k k' : IntKind) (l m : Int) : vSlice Tryz.prog 43 (.slice a n c) (some (.int k l)) (some (.int k' m)) KV = ((0 <= l /\ l <= m /\ m <= c) /\ KV (.slice (if c = l.toNat then a else a.map (·.add (l.toNat * 1))) (m.toNat - l.toNat) (c - l.toNat))) := Qwy 43 5 a n c 1 k k' l m Tryz.underlying43 (by kernel_rfl)
theorem ia43 (a : Addr) (n c : Nat) (k : IntKind) (i : Int) : vIndexAddr Tryz.prog 43 (.slice (some a) n c) (.int k i) KV = ((0 <= i /\ i < n) /\ KV (.pointer (some (a.add (i.toNat * 1))))) := Qk5 43 5 a n c 1 k i Tryz.underlying43 (by kernel_rfl)
theorem ld43 (a : Addr) : vLoad Tryz.prog 43 (.pointer (some a)) w KV = ∃ v, w.cell? a = some v /\ KV v := Qpr 43 5 a Tryz.underlying43
theorem QA7 (a : Option Addr) (n c : Nat) : vConv Tryz.prog 43 9 (.slice a n c) w KV = ∃ l, Qdu w a n l /\ KV (Str l) := QAc 43 9 5 a n c Tryz.underlying43 Tryz.underlying9 Tryz.underlying5
theorem QA8 : Qax Tryz.prog 43 9 = true := by kernel_rfl
theorem QA9 : Qax Tryz.prog 9 43 = false := by kernel_rfl
theorem sz56 : Tryz.prog.szo 56 = some 1 := by kernel_rfl
theorem ln56 (a : Option Addr) (n c : Nat) : vLen Tryz.prog 56 (.slice a n c) KV = KV (.int .i64 n) := Qm8 56 9 a n c Tryz.underlying56
theorem ia56 (a : Addr) (n c : Nat) (k : IntKind) (i : Int) : vIndexAddr Tryz.prog 56 (.slice (some a) n c) (.int k i) KV = ((0 <= i /\ i < n) /\ KV (.pointer (some (a.add (i.toNat * 1))))) := Qk5 56 9 a n c 1 k i Tryz.underlying56 (by kernel_rfl)
theorem sz63 : Tryz.prog.szo 63 = some 1 := by kernel_rfl
theorem ln63 (a : Option Addr) (n c : Nat) : vLen Tryz.prog 63 (.slice a n c) KV = KV (.int .i64 n) := Qm8 63 36 a n c Tryz.underlying63
theorem ia63 (a : Addr) (n c : Nat) (k : IntKind) (i : Int) : vIndexAddr Tryz.prog 63 (.slice (some a) n c) (.int k i) KV = ((0 <= i /\ i < n) /\ KV (.pointer (some (a.add (i.toNat * 1))))) := Qk5 63 36 a n c 1 k i Tryz.underlying63 (by kernel_rfl)
theorem ld63 (a : Addr) : vLoad Tryz.prog 63 (.pointer (some a)) w KV = ∃ v, w.cell? a = some v /\ KV v := Qpr 63 36 a Tryz.underlying63
theorem sz65 : Tryz.prog.szo 65 = some 2 := by kernel_rfl
theorem ld65 (a : Addr) : vLoad Tryz.prog 65 (.pointer (some a)) w KV = ∃ cs : List Value, (cs.length = 2 /\ Reads w a cs) /\ KV (.agg cs.toArray) := Qq7 65 2 a _ Tryz.underlying65 (by kernel_rfl)
theorem bd65 (a0 : Option Addr) (n0 c0 : Nat) (a1 : Option Addr) (n1 c1 : Nat) : vBuild Tryz.prog 65 [(0, .slice a0 n0 c0), (1, .slice a1 n1 c1)] KV = KV (.agg #[.slice a0 n0 c0, .slice a1 n1 c1]) := Qec (by kernel_rfl)
theorem bz65 : vBuild Tryz.prog 65 [] KV = KV (.agg #[.slice none 0 0, .slice none 0 0]) := Qec (by kernel_rfl)
theorem QBa (l : List Value) : vField Tryz.prog 65 (.agg l.toArray) 0 KV = vNth l 0 KV := Qb2 65 0 l Tryz.underlying65 rfl (by kernel_rfl) (by kernel_rfl) (by kernel_rfl)
theorem QBb (a : Addr) : vFieldAddr Tryz.prog 65 (.pointer (some a)) 0 KV = KV (.pointer (some (a.add 0))) := Qdj 65 0 a (m := 0) Tryz.underlying65 rfl (by kernel_rfl)
theorem QBc (l : List Value) : vField Tryz.prog 65 (.agg l.toArray) 1 KV = vNth l 1 KV := Qb2 65 1 l Tryz.underlying65 rfl (by kernel_rfl) (by kernel_rfl) (by kernel_rfl)
theorem QBd (a : Addr) : vFieldAddr Tryz.prog 65 (.pointer (some a)) 1 KV = KV (.pointer (some (a.add 1))) := Qdj 65 1 a (m := 0) Tryz.underlying65 rfl (by kernel_rfl)
theorem sz68 : Tryz.prog.szo 68 = some 1 := by kernel_rfl
theorem pe68 (a : Option Addr) (xo yo : Operand) : vBinO Tryz.prog .eql 68 xo yo (.pointer a) (.pointer none) w KV = KV (.bool a.isNone) := Qon Tryz.underlying68 a xo yo
theorem pn68 (a : Option Addr) (xo yo : Operand) : vBinO Tryz.prog .neq 68 xo yo (.pointer a) (.pointer none) w KV = KV (.bool !a.isNone) := Qva Tryz.underlying68 a xo yo
theorem sz71 : Tryz.prog.szo 71 = some 1 := by kernel_rfl
theorem ld71 (a : Addr) : vLoad Tryz.prog 71 (.pointer (some a)) w KV = ∃ v, w.cell? a = some v /\ KV v := Qis 71 a .u64 Tryz.underlying71
theorem QBe (k : IntKind) (n : Int) : vConv Tryz.prog 71 3 (.int k n) w KV = vWrap .i64 n KV := Qdk 71 3 _ .i64 k n Tryz.underlying71 Tryz.underlying3
theorem QBf : Qax Tryz.prog 71 3 = true := by kernel_rfl
theorem QBg (k : IntKind) (n : Int) : vConv Tryz.prog 71 5 (.int k n) w KV = vWrap .u8 n KV := Qdk 71 5 _ .u8 k n Tryz.underlying71 Tryz.underlying5
theorem QBh : Qax Tryz.prog 71 5 = true := by kernel_rfl
theorem Qxn (k : IntKind) (n : Int) : vConv Tryz.prog 71 31 (.int k n) w KV = vWrap .u32 n KV := Qdk 71 31 _ .u32 k n Tryz.underlying71 Tryz.underlying31
theorem Qxo : Qax Tryz.prog 71 31 = true := by kernel_rfl
theorem sz97 : Tryz.prog.szo 97 = some 1 := by kernel_rfl
theorem QBi (k : IntKind) (n : Int) : vConv Tryz.prog 97 3 (.int k n) w KV = vWrap .i64 n KV := Qdk 97 3 _ .i64 k n Tryz.underlying97 Tryz.underlying3
theorem QBj : Qax Tryz.prog 97 3 = true := by kernel_rfl
theorem Qxp (k : IntKind) (n : Int) : vConv Tryz.prog 97 31 (.int k n) w KV = vWrap .u32 n KV := Qdk 97 31 _ .u32 k n Tryz.underlying97 Tryz.underlying31
theorem Qxq : Qax Tryz.prog 97 31 = true := by kernel_rfl
theorem QDs : Tryz.prog.szo 100 = some 1 := by kernel_rfl
theorem QBk (a : Addr) : vLoad Tryz.prog 100 (.pointer (some a)) w KV = ∃ v, w.cell? a = some v /\ KV v := QAf 100 _ _ _ a Tryz.underlying100
theorem QDt : Tryz.prog.szo 101 = some 1 := by kernel_rfl
theorem QDu (a : Option Addr) (n c : Nat) : vLen Tryz.prog 101 (.slice a n c) KV = KV (.int .i64 n) := Qm8 101 24 a n c Tryz.underlying101
theorem QDv (a : Addr) (n c : Nat) (k : IntKind) (i : Int) : vIndexAddr Tryz.prog 101 (.slice (some a) n c) (.int k i) KV = ((0 <= i /\ i < n) /\ KV (.pointer (some (a.add (i.toNat * 2))))) := Qk5 101 24 a n c 2 k i Tryz.underlying101 (by kernel_rfl)
theorem QDw (a : Addr) : vLoad Tryz.prog 101 (.pointer (some a)) w KV = ∃ v, w.cell? a = some v /\ KV v := Qpr 101 24 a Tryz.underlying101
theorem QDx : Tryz.prog.szo 102 = some 1 := by kernel_rfl
theorem QDy (a : Option Addr) (n c : Nat) : vLen Tryz.prog 102 (.slice a n c) KV = KV (.int .i64 n) := Qm8 102 31 a n c Tryz.underlying102
theorem QDz (a : Addr) (n c : Nat) (k : IntKind) (i : Int) : vIndexAddr Tryz.prog 102 (.slice (some a) n c) (.int k i) KV = ((0 <= i /\ i < n) /\ KV (.pointer (some (a.add (i.toNat * 1))))) := Qk5 102 31 a n c 1 k i Tryz.underlying102 (by kernel_rfl)
theorem QD0 (a : Addr) : vLoad Tryz.prog 102 (.pointer (some a)) w KV = ∃ v, w.cell? a = some v /\ KV v := Qpr 102 31 a Tryz.underlying102
theorem QD1 : Tryz.prog.szo 118 = some 256 := by kernel_rfl
theorem QBl (l : List Value) (k : IntKind) (i : Int) : vIndex Tryz.prog 118 (.agg l.toArray) (.int k i) KV = ((0 <= i /\ i < ((256 : Nat) : Int)) /\ vNth l i.toNat KV) := Qhg 118 l k i Tryz.underlying118 (by kernel_rfl) (by kernel_rfl) (by kernel_rfl)
theorem QD2 (a : Addr) (k : IntKind) (i : Int) : vIndexAddr Tryz.prog 118 (.pointer (some a)) (.int k i) KV = ((0 <= i /\ i < ((256 : Nat) : Int)) /\ KV (.pointer (some (a.add (i.toNat * 1))))) := Qm9 118 4 a 256 1 k i Tryz.underlying118 (by kernel_rfl)
theorem QD3 : Tryz.prog.szo 123 = some 2 := by kernel_rfl
theorem QD4 (a0 : Option Addr) (n0 c0 : Nat) (n1 : Int) : vBuild Tryz.prog 123 [(0, .slice a0 n0 c0), (1, .int .i64 n1)] KV = KV (.agg #[.slice a0 n0 c0, .int .i64 n1]) := Qec (by kernel_rfl)
theorem QD5 : vBuild Tryz.prog 123 [] KV = KV (.agg #[.slice none 0 0, .int .i64 0]) := Qec (by kernel_rfl)
theorem Qxr (l : List Value) : vField Tryz.prog 123 (.agg l.toArray) 0 KV = vNth l 0 KV := Qb2 123 0 l Tryz.underlying123 rfl (by kernel_rfl) (by kernel_rfl) (by kernel_rfl)
theorem Qxs (a : Addr) : vFieldAddr Tryz.prog 123 (.pointer (some a)) 0 KV = KV (.pointer (some (a.add 0))) := Qdj 123 0 a (m := 0) Tryz.underlying123 rfl (by kernel_rfl)
theorem Qxt (l : List Value) : vField Tryz.prog 123 (.agg l.toArray) 1 KV = vNth l 1 KV := Qb2 123 1 l Tryz.underlying123 rfl (by kernel_rfl) (by kernel_rfl) (by kernel_rfl)
theorem Qxu (a : Addr) : vFieldAddr Tryz.prog 123 (.pointer (some a)) 1 KV = KV (.pointer (some (a.add 1))) := Qdj 123 1 a (m := 0) Tryz.underlying123 rfl (by kernel_rfl)
theorem QD6 : Tryz.prog.szo 124 = some 16 := by kernel_rfl
theorem QD7 (a : Addr) : vLoad Tryz.prog 124 (.pointer (some a)) w KV = ∃ cs : List Value, (cs.length = 16 /\ Reads w a cs) /\ KV (.agg cs.toArray) := Qtx 124 16 16 71 a Tryz.underlying124 (by kernel_rfl)
theorem QBm (l : List Value) (k : IntKind) (i : Int) : vIndex Tryz.prog 124 (.agg l.toArray) (.int k i) KV = ((0 <= i /\ i < ((16 : Nat) : Int)) /\ vNth l i.toNat KV) := Qhg 124 l k i Tryz.underlying124 (by kernel_rfl) (by kernel_rfl) (by kernel_rfl)
theorem QD8 (a : Addr) (k : IntKind) (i : Int) : vIndexAddr Tryz.prog 124 (.pointer (some a)) (.int k i) KV = ((0 <= i /\ i < ((16 : Nat) : Int)) /\ KV (.pointer (some (a.add (i.toNat * 1))))) := Qm9 124 71 a 16 1 k i Tryz.underlying124 (by kernel_rfl)
theorem QD9 : Tryz.prog.szo 130 = some 1 := by kernel_rfl
theorem QEa (a : Option Addr) (xo yo : Operand) : vBinO Tryz.prog .eql 130 xo yo (.pointer a) (.pointer none) w KV = KV (.bool a.isNone) := Qon Tryz.underlying130 a xo yo
theorem QEb (a : Option Addr) (xo yo : Operand) : vBinO Tryz.prog .neq 130 xo yo (.pointer a) (.pointer none) w KV = KV (.bool !a.isNone) := Qva Tryz.underlying130 a xo yo
theorem QEc (a : Addr) : vLoad Tryz.prog 130 (.pointer (some a)) w KV = ∃ v, w.cell? a = some v /\ KV v := QAe 130 179 a Tryz.underlying130
theorem QEd : Tryz.prog.szo 141 = some 1 := by kernel_rfl
theorem QEe (n0 : Int) : vBuild Tryz.prog 141 [(0, .int .i64 n0)] KV = KV (.agg #[.int .i64 n0]) := Qec (by kernel_rfl)
theorem QEf : vBuild Tryz.prog 141 [] KV = KV (.agg #[.int .i64 0]) := Qec (by kernel_rfl)
theorem Qxv (l : List Value) : vField Tryz.prog 141 (.agg l.toArray) 0 KV = vNth l 0 KV := Qb2 141 0 l Tryz.underlying141 rfl (by kernel_rfl) (by kernel_rfl) (by kernel_rfl)
theorem Qxw (a : Addr) : vFieldAddr Tryz.prog 141 (.pointer (some a)) 0 KV = KV (.pointer (some (a.add 0))) := Qdj 141 0 a (m := 0) Tryz.underlying141 rfl (by kernel_rfl)
theorem QEg : Tryz.prog.szo 143 = some 1 := by kernel_rfl
theorem QBn (a : Addr) : vLoad Tryz.prog 143 (.pointer (some a)) w KV = ∃ v, w.cell? a = some v /\ KV v := QAf 143 _ _ _ a Tryz.underlying143
theorem QEh (f : Fn) (x y : Array Value) (xo yo : Operand) : vBinO Tryz.prog .eql 143 xo yo (.func f x y) .nilFunc w KV = KV (.bool false) := QAo Tryz.underlying143 f x y xo yo
theorem QEi : Tryz.prog.szo 155 = some 1 := by kernel_rfl
theorem QEj (a : Addr) (n c : Nat) (k : IntKind) (i : Int) : vIndexAddr Tryz.prog 155 (.slice (some a) n c) (.int k i) KV = ((0 <= i /\ i < n) /\ KV (.pointer (some (a.add (i.toNat * 1))))) := Qk5 155 63 a n c 1 k i Tryz.underlying155 (by kernel_rfl)
theorem QEk : Tryz.prog.szo 162 = some 256 := by kernel_rfl
theorem QEl (a : Addr) : vLoad Tryz.prog 162 (.pointer (some a)) w KV = ∃ cs : List Value, (cs.length = 256 /\ Reads w a cs) /\ KV (.agg cs.toArray) := Qtx 162 256 256 31 a Tryz.underlying162 (by kernel_rfl)
theorem QBo (l : List Value) (k : IntKind) (i : Int) : vIndex Tryz.prog 162 (.agg l.toArray) (.int k i) KV = ((0 <= i /\ i < ((256 : Nat) : Int)) /\ vNth l i.toNat KV) := Qhg 162 l k i Tryz.underlying162 (by kernel_rfl) (by kernel_rfl) (by kernel_rfl)
theorem QEm (a : Addr) (k : IntKind) (i : Int) : vIndexAddr Tryz.prog 162 (.pointer (some a)) (.int k i) KV = ((0 <= i /\ i < ((256 : Nat) : Int)) /\ KV (.pointer (some (a.add (i.toNat * 1))))) := Qm9 162 31 a 256 1 k i Tryz.underlying162 (by kernel_rfl)
theorem QEn : Tryz.prog.szo 166 = some 2 := by kernel_rfl
theorem QEo (a : Addr) : vLoad Tryz.prog 166 (.pointer (some a)) w KV = ∃ cs : List Value, (cs.length = 2 /\ Reads w a cs) /\ KV (.agg cs.toArray) := Qq7 166 2 a _ Tryz.underlying166 (by kernel_rfl)
theorem QEp (a0 : Option Addr) (n0 c0 : Nat) (n1 : Int) : vBuild Tryz.prog 166 [(0, .slice a0 n0 c0), (1, .int .i64 n1)] KV = KV (.agg #[.slice a0 n0 c0, .int .i64 n1]) := Qec (by kernel_rfl)
theorem QEq : vBuild Tryz.prog 166 [] KV = KV (.agg #[.slice none 0 0, .int .i64 0]) := Qec (by kernel_rfl)
theorem Qxx (l : List Value) : vField Tryz.prog 166 (.agg l.toArray) 0 KV = vNth l 0 KV := Qb2 166 0 l Tryz.underlying166 rfl (by kernel_rfl) (by kernel_rfl) (by kernel_rfl)
theorem Qxy (a : Addr) : vFieldAddr Tryz.prog 166 (.pointer (some a)) 0 KV = KV (.pointer (some (a.add 0))) := Qdj 166 0 a (m := 0) Tryz.underlying166 rfl (by kernel_rfl)
theorem Qxz (l : List Value) : vField Tryz.prog 166 (.agg l.toArray) 1 KV = vNth l 1 KV := Qb2 166 1 l Tryz.underlying166 rfl (by kernel_rfl) (by kernel_rfl) (by kernel_rfl)
theorem Qx0 (a : Addr) : vFieldAddr Tryz.prog 166 (.pointer (some a)) 1 KV = KV (.pointer (some (a.add 1))) := Qdj 166 1 a (m := 0) Tryz.underlying166 rfl (by kernel_rfl)
theorem QEr : Tryz.prog.szo 170 = some 1 := by kernel_rfl
theorem QEs : Tryz.prog.szo 174 = some 1 := by kernel_rfl
theorem QEt : Tryz.prog.szo 179 = some 3 := by kernel_rfl
theorem QEu (f0 : Fn) (x0 y0 : Array Value) (n1 : Int) (n2 : Int) : vBuild Tryz.prog 179 [(0, .func f0 x0 y0), (1, .int .i64 n1), (2, .int .i64 n2)] KV = KV (.agg #[.func f0 x0 y0, .int .i64 n1, .int .i64 n2]) := Qec (by kernel_rfl)
theorem QEv : vBuild Tryz.prog 179 [] KV = KV (.agg #[.nilFunc, .int .i64 0, .int .i64 0]) := Qec (by kernel_rfl)
theorem Qx1 (l : List Value) : vField Tryz.prog 179 (.agg l.toArray) 0 KV = vNth l 0 KV := Qb2 179 0 l Tryz.underlying179 rfl (by kernel_rfl) (by kernel_rfl) (by kernel_rfl)
theorem Qx2 (a : Addr) : vFieldAddr Tryz.prog 179 (.pointer (some a)) 0 KV = KV (.pointer (some (a.add 0))) := Qdj 179 0 a (m := 0) Tryz.underlying179 rfl (by kernel_rfl)
theorem Qx3 (l : List Value) : vField Tryz.prog 179 (.agg l.toArray) 1 KV = vNth l 1 KV := Qb2 179 1 l Tryz.underlying179 rfl (by kernel_rfl) (by kernel_rfl) (by kernel_rfl)
theorem Qx4 (a : Addr) : vFieldAddr Tryz.prog 179 (.pointer (some a)) 1 KV = KV (.pointer (some (a.add 1))) := Qdj 179 1 a (m := 0) Tryz.underlying179 rfl (by kernel_rfl)
theorem Qx5 (l : List Value) : vField Tryz.prog 179 (.agg l.toArray) 2 KV = vNth l 2 KV := Qb2 179 2 l Tryz.underlying179 rfl (by kernel_rfl) (by kernel_rfl) (by kernel_rfl)
theorem Qx6 (a : Addr) : vFieldAddr Tryz.prog 179 (.pointer (some a)) 2 KV = KV (.pointer (some (a.add 2))) := Qdj 179 2 a (m := 0) Tryz.underlying179 rfl (by kernel_rfl)
theorem QEw : Tryz.prog.szo 188 = some 256 := by kernel_rfl
theorem QEx (a : Addr) : vLoad Tryz.prog 188 (.pointer (some a)) w KV = ∃ cs : List Value, (cs.length = 256 /\ Reads w a cs) /\ KV (.agg cs.toArray) := Qtx 188 256 256 3 a Tryz.underlying188 (by kernel_rfl)
theorem QBp (l : List Value) (k : IntKind) (i : Int) : vIndex Tryz.prog 188 (.agg l.toArray) (.int k i) KV = ((0 <= i /\ i < ((256 : Nat) : Int)) /\ vNth l i.toNat KV) := Qhg 188 l k i Tryz.underlying188 (by kernel_rfl) (by kernel_rfl) (by kernel_rfl)
theorem QEy (a : Addr) (k : IntKind) (i : Int) : vIndexAddr Tryz.prog 188 (.pointer (some a)) (.int k i) KV = ((0 <= i /\ i < ((256 : Nat) : Int)) /\ KV (.pointer (some (a.add (i.toNat * 1))))) := Qm9 188 3 a 256 1 k i Tryz.underlying188 (by kernel_rfl)
theorem QEz : Tryz.prog.szo 190 = some 2 := by kernel_rfl
theorem QE0 (f0 : Fn) (x0 y0 : Array Value) (n1 : Int) : vBuild Tryz.prog 190 [(0, .func f0 x0 y0), (1, .int .i64 n1)] KV = KV (.agg #[.func f0 x0 y0, .int .i64 n1]) := Qec (by kernel_rfl)
theorem QE1 : vBuild Tryz.prog 190 [] KV = KV (.agg #[.nilFunc, .int .i64 0]) := Qec (by kernel_rfl)
theorem Qx7 (l : List Value) : vField Tryz.prog 190 (.agg l.toArray) 0 KV = vNth l 0 KV := Qb2 190 0 l Tryz.underlying190 rfl (by kernel_rfl) (by kernel_rfl) (by kernel_rfl)
theorem Qx8 (a : Addr) : vFieldAddr Tryz.prog 190 (.pointer (some a)) 0 KV = KV (.pointer (some (a.add 0))) := Qdj 190 0 a (m := 0) Tryz.underlying190 rfl (by kernel_rfl)
theorem Qx9 (l : List Value) : vField Tryz.prog 190 (.agg l.toArray) 1 KV = vNth l 1 KV := Qb2 190 1 l Tryz.underlying190 rfl (by kernel_rfl) (by kernel_rfl) (by kernel_rfl)
theorem Qya (a : Addr) : vFieldAddr Tryz.prog 190 (.pointer (some a)) 1 KV = KV (.pointer (some (a.add 1))) := Qdj 190 1 a (m := 0) Tryz.underlying190 rfl (by kernel_rfl)
theorem QE2 : Tryz.prog.szo 196 = some 4 := by kernel_rfl
theorem QBq (l : List Value) (k : IntKind) (i : Int) : vIndex Tryz.prog 196 (.agg l.toArray) (.int k i) KV = ((0 <= i /\ i < ((4 : Nat) : Int)) /\ vNth l i.toNat KV) := Qhg 196 l k i Tryz.underlying196 (by kernel_rfl) (by kernel_rfl) (by kernel_rfl)
theorem QE3 (a : Addr) (k : IntKind) (i : Int) : vIndexAddr Tryz.prog 196 (.pointer (some a)) (.int k i) KV = ((0 <= i /\ i < ((4 : Nat) : Int)) /\ KV (.pointer (some (a.add (i.toNat * 1))))) := Qm9 196 3 a 4 1 k i Tryz.underlying196 (by kernel_rfl)
theorem QE4 : Tryz.prog.szo 198 = some 1 := by kernel_rfl
theorem QE5 (a : Option Addr) (n c : Nat) : vLen Tryz.prog 198 (.slice a n c) KV = KV (.int .i64 n) := Qm8 198 200 a n c Tryz.underlying198
theorem QBr (a : Option Addr) (n c : Nat) : vSlice Tryz.prog 198 (.slice a n c) none none KV = (n <= c /\ KV (.slice a n c)) := Qwv 198 200 a n c 2 Tryz.underlying198 (by kernel_rfl)
theorem QBs (a : Option Addr) (n c : Nat) (k : IntKind) (l : Int) : vSlice Tryz.prog 198 (.slice a n c) (some (.int k l)) none KV = ((0 <= l /\ l <= n /\ n <= c) /\ KV (.slice (if c = l.toNat then a else a.map (·.add (l.toNat * 2))) (n - l.toNat) (c - l.toNat))) := Qww 198 200 a n c 2 k l Tryz.underlying198 (by kernel_rfl)
theorem QBt (a : Option Addr) (n c : Nat) (k : IntKind) (l : Int) : vSlice Tryz.prog 198 (.slice a n c) none (some (.int k l)) KV = ((0 <= l /\ l <= c) /\ KV (.slice a l.toNat c)) := Qwx 198 200 a n c 2 k l Tryz.underlying198 (by kernel_rfl)
theorem QBu (a : Option Addr) (n c : Nat) (k k' : IntKind) (l m : Int) : vSlice Tryz.prog 198 (.slice a n c) (some (.int k l)) (some (.int k' m)) KV = ((0 <= l /\ l <= m /\ m <= c) /\ KV (.slice (if c = l.toNat then a else a.map (·.add (l.toNat * 2))) (m.toNat - l.toNat) (c - l.toNat))) := Qwy 198 200 a n c 2 k k' l m Tryz.underlying198 (by kernel_rfl)
theorem QE6 (a : Addr) (n c : Nat) (k : IntKind) (i : Int) : vIndexAddr Tryz.prog 198 (.slice (some a) n c) (.int k i) KV = ((0 <= i /\ i < n) /\ KV (.pointer (some (a.add (i.toNat * 2))))) := Qk5 198 200 a n c 2 k i Tryz.underlying198 (by kernel_rfl)
theorem QE7 (a : Addr) : vLoad Tryz.prog 198 (.pointer (some a)) w KV = ∃ v, w.cell? a = some v /\ KV v := Qpr 198 200 a Tryz.underlying198
theorem QE8 : Tryz.prog.szo 200 = some 2 := by kernel_rfl
theorem QE9 (a : Addr) : vLoad Tryz.prog 200 (.pointer (some a)) w KV = ∃ cs : List Value, (cs.length = 2 /\ Reads w a cs) /\ KV (.agg cs.toArray) := Qq7 200 2 a _ Tryz.underlying200 (by kernel_rfl)
theorem QFa (n0 : Int) (n1 : Int) : vBuild Tryz.prog 200 [(0, .int .i64 n0), (1, .int .i64 n1)] KV = KV (.agg #[.int .i64 n0, .int .i64 n1]) := Qec (by kernel_rfl)
theorem QFb : vBuild Tryz.prog 200 [] KV = KV (.agg #[.int .i64 0, .int .i64 0]) := Qec (by kernel_rfl)
theorem Qyb (l : List Value) : vField Tryz.prog 200 (.agg l.toArray) 0 KV = vNth l 0 KV := Qb2 200 0 l Tryz.underlying200 rfl (by kernel_rfl) (by kernel_rfl) (by kernel_rfl)
theorem Qyc (a : Addr) : vFieldAddr Tryz.prog 200 (.pointer (some a)) 0 KV = KV (.pointer (some (a.add 0))) := Qdj 200 0 a (m := 0) Tryz.underlying200 rfl (by kernel_rfl)
theorem Qyd (l : List Value) : vField Tryz.prog 200 (.agg l.toArray) 1 KV = vNth l 1 KV := Qb2 200 1 l Tryz.underlying200 rfl (by kernel_rfl) (by kernel_rfl) (by kernel_rfl)
theorem Qye (a : Addr) : vFieldAddr Tryz.prog 200 (.pointer (some a)) 1 KV = KV (.pointer (some (a.add 1))) := Qdj 200 1 a (m := 0) Tryz.underlying200 rfl (by kernel_rfl)
theorem QFc : Tryz.prog.szo 202 = some 1 := by kernel_rfl
theorem QFd : Tryz.prog.szo 204 = some 1 := by kernel_rfl
theorem QFe (a : Addr) : vLoad Tryz.prog 204 (.pointer (some a)) w KV = ∃ cs : List Value, (cs.length = 1 /\ Reads w a cs) /\ KV (.agg cs.toArray) := Qq7 204 1 a _ Tryz.underlying204 (by kernel_rfl)
theorem QFf (a0 : Option Addr) (n0 c0 : Nat) : vBuild Tryz.prog 204 [(0, .slice a0 n0 c0)] KV = KV (.agg #[.slice a0 n0 c0]) := Qec (by kernel_rfl)
theorem QFg : vBuild Tryz.prog 204 [] KV = KV (.agg #[.slice none 0 0]) := Qec (by kernel_rfl)
theorem Qyf (l : List Value) : vField Tryz.prog 204 (.agg l.toArray) 0 KV = vNth l 0 KV := Qb2 204 0 l Tryz.underlying204 rfl (by kernel_rfl) (by kernel_rfl) (by kernel_rfl)
theorem Qyg (a : Addr) : vFieldAddr Tryz.prog 204 (.pointer (some a)) 0 KV = KV (.pointer (some (a.add 0))) := Qdj 204 0 a (m := 0) Tryz.underlying204 rfl (by kernel_rfl)
theorem QFh : Tryz.prog.szo 205 = some 22 := by kernel_rfl
theorem QBv (l : List Value) (k : IntKind) (i : Int) : vIndex Tryz.prog 205 (.agg l.toArray) (.int k i) KV = ((0 <= i /\ i < ((22 : Nat) : Int)) /\ vNth l i.toNat KV) := Qhg 205 l k i Tryz.underlying205 (by kernel_rfl) (by kernel_rfl) (by kernel_rfl)
theorem QFi (a : Addr) (k : IntKind) (i : Int) : vIndexAddr Tryz.prog 205 (.pointer (some a)) (.int k i) KV = ((0 <= i /\ i < ((22 : Nat) : Int)) /\ KV (.pointer (some (a.add (i.toNat * 1))))) := Qm9 205 3 a 22 1 k i Tryz.underlying205 (by kernel_rfl)
theorem QFj : Tryz.prog.szo 207 = some 68 := by kernel_rfl
theorem Qyh (l : List Value) : vField Tryz.prog 207 (.agg l.toArray) 0 KV = KV (.agg ((l.take 1).drop 0).toArray) := Qoo 207 0 l 1 Tryz.underlying207 rfl (by kernel_rfl) (by kernel_rfl) (by kernel_rfl)
theorem Qyi (a : Addr) : vFieldAddr Tryz.prog 207 (.pointer (some a)) 0 KV = KV (.pointer (some (a.add 0))) := Qdj 207 0 a (m := 0) Tryz.underlying207 rfl (by kernel_rfl)
theorem Qyj (l : List Value) : vField Tryz.prog 207 (.agg l.toArray) 1 KV = vNth l 1 KV := Qb2 207 1 l Tryz.underlying207 rfl (by kernel_rfl) (by kernel_rfl) (by kernel_rfl)
theorem Qyk (a : Addr) : vFieldAddr Tryz.prog 207 (.pointer (some a)) 1 KV = KV (.pointer (some (a.add 1))) := Qdj 207 1 a (m := 0) Tryz.underlying207 rfl (by kernel_rfl)
theorem Qyl (l : List Value) : vField Tryz.prog 207 (.agg l.toArray) 2 KV = KV (.agg ((l.take 24).drop 2).toArray) := Qoo 207 2 l 22 Tryz.underlying207 rfl (by kernel_rfl) (by kernel_rfl) (by kernel_rfl)
theorem Qym (a : Addr) : vFieldAddr Tryz.prog 207 (.pointer (some a)) 2 KV = KV (.pointer (some (a.add 2))) := Qdj 207 2 a (m := 21) Tryz.underlying207 rfl (by kernel_rfl)
theorem Qyn (l : List Value) : vField Tryz.prog 207 (.agg l.toArray) 3 KV = KV (.agg ((l.take 46).drop 24).toArray) := Qoo 207 3 l 22 Tryz.underlying207 rfl (by kernel_rfl) (by kernel_rfl) (by kernel_rfl)
theorem Qyo (a : Addr) : vFieldAddr Tryz.prog 207 (.pointer (some a)) 3 KV = KV (.pointer (some (a.add 24))) := Qdj 207 3 a (m := 21) Tryz.underlying207 rfl (by kernel_rfl)
theorem Qyp (l : List Value) : vField Tryz.prog 207 (.agg l.toArray) 4 KV = KV (.agg ((l.take 68).drop 46).toArray) := Qoo 207 4 l 22 Tryz.underlying207 rfl (by kernel_rfl) (by kernel_rfl) (by kernel_rfl)
theorem Qyq (a : Addr) : vFieldAddr Tryz.prog 207 (.pointer (some a)) 4 KV = KV (.pointer (some (a.add 46))) := Qdj 207 4 a (m := 21) Tryz.underlying207 rfl (by kernel_rfl)
theorem QFk : Tryz.prog.szo 215 = some 1 := by kernel_rfl
theorem QFl : Tryz.prog.szo 228 = some 1 := by kernel_rfl
theorem QFm (a : Addr) : vLoad Tryz.prog 228 (.pointer (some a)) w KV = ∃ v, w.cell? a = some v /\ KV v := Qis 228 a .u64 Tryz.underlying228
theorem QFn : Tryz.prog.szo 232 = some 1 := by kernel_rfl
end
attribute [go_sem ↓] ld3 QDd QAt QAv QAx Qxj ld4 QDf QDg ld5 QDh QAz ln9 ix9 snn9 sln9 snh9 slh9 ld9 ld24 bd24 bz24 QA1 QA2 QA3 QA4 ld25 ld31 QA5 Qxl ln36 QDj QDk QDl QDm ia36 ld36 ld42 QDn ia42 ln43 QDo QDp QDq QDr ia43 ld43 QA7 ln56 ia56 ln63 ia63 ld63 ld65 bd65 bz65 QBa QBb QBc QBd pe68 pn68 ld71 QBe QBg Qxn QBi Qxp QBk QDu QDv QDw QDy QDz QD0 QBl QD2 QD4 QD5 Qxr Qxs Qxt Qxu QD7 QBm QD8 QEa QEb QEc QEe QEf Qxv Qxw QBn QEh QEj QEl QBo QEm QEo QEp QEq Qxx Qxy Qxz Qx0 QEu QEv Qx1 Qx2 Qx3 Qx4 Qx5 Qx6 QEx QBp QEy QE0 QE1 Qx7 Qx8 Qx9 Qya QBq QE3 QE5 QBr QBs QBt QBu QE6 QE7 QE9 QFa QFb Qyb Qyc Qyd Qye QFe QFf QFg Qyf Qyg QBv QFi Qyh Qyi Qyj Qyk Qyl Qym Qyn Qyo Qyp Qyq QFm
attribute [go_sem] sz3 QDe QAu QAw QAy Qxk sz4 sz5 QDi QA0 sz9 sz20 sz24 sz25 sz31 QA6 Qxm sz36 sz42 sz43 QA8 QA9 sz56 sz63 sz65 sz68 sz71 QBf QBh Qxo sz97 QBj Qxq QDs QDt QDx QD1 QD3 QD6 QD9 QEd QEg QEi QEk QEn QEr QEs QEt QEw QEz QE2 QE4 QE8 QFc QFd QFh QFj QFk QFl QFn
theorem zi3 : (Tryz.prog.info? 3).map (fun i => (i.zero.map Value.cells, i.size, i.bytes)) = some (some #[.int .i64 0], 1, 8) := by kernel_rfl
theorem zi5 : (Tryz.prog.info? 5).map (fun i => (i.zero.map Value.cells, i.size, i.bytes)) = some (some #[.int .u8 0], 1, 1) := by kernel_rfl
theorem zi36 : (Tryz.prog.info? 36).map (fun i => (i.zero.map Value.cells, i.size, i.bytes)) = some (some #[.slice none 0 0], 1, 24) := by kernel_rfl
def bI (l : List Bool) : List Int := l.map fun b => if b then 1 else 0
theorem bI_len (l : List Bool) : (bI l).length = l.length := by simp [bI]
theorem Qrs (l m : List Bool) : bI (l ++ m) = bI l ++ bI m := by simp [bI]
theorem Qep {l : List Bool} {i : Nat} (h : i < l.length) : (bI l).getD i 0 = if l.getD i false then 1 else 0 := by
 simp [bI, List.getD_eq_getElem?_getD, List.getElem?_eq_getElem h]
theorem Qju (l : List Bool) (k : Nat) : (bI l).drop k = bI (l.drop k) := by simp [bI, List.map_drop]
theorem Qjv (l : List Bool) (k : Nat) : (bI l).take k = bI (l.take k) := by simp [bI, List.map_take]
theorem Qnu (v j : Nat) (h : j < 8) : (bitsN 8 v).take (j + 1) = (bitsN 8 v).take j ++ [v.testBit (7 - j)] := by
 rw [List.take_add_one, Qfq 8 v j h]
 rfl
theorem dof_does (s : List UInt8) (hs : s.length <= 100000000000) (w : World) : Does Tryz.prog 20 #[Str s] w
  fun v w' => ∃ a cap, Heap w [] w' [Res.row 3 1 a (bI (bytesB s)).length cap (Qal (bI (bytesB s)))] /\ v = .slice a (bI (bytesB s)).length cap := by
 refine En [Str s] 28 Tryz.func20 ?_
 refine VS [0] ?_
 refine VS [0, 3] ?_
 refine VS [0, 3, 4] ?_
 refine Qaf ?_
 refine Qae [0, 3, 4] (fun m e w' => ∃ (i cap : Nat) (a : Option Addr), Is e [(0, Str s), (3, .slice a (bI (bytesB (s.take i))).length cap), (4, .int .i64 i)] /\ Heap w [] w' [Res.row 3 1 a (bI (bytesB (s.take i))).length cap (Qal (bI (bytesB (s.take i))))] /\ i <= s.length /\ m = s.length - i) s.length ?_ ?_
 ·
  refine Qs ?_
  exact ⟨0, 0, none, rfl, Qd2, by omega, rfl⟩
 rintro m e w1 ⟨i, cap, a, rfl, hH, hi, rfl⟩
 refine VS [0, 3, 4, 9] ?_
 refine VD (fun h => ?_) (fun h => ?_)
 ·
  have hi' : i < s.length := by omega
  have htk : bytesB (s.take (i + 1)) = bytesB (s.take i) ++ bitsN 8 (s.getD i 0).toNat := by
   rw [List.take_add_one, List.getElem?_eq_getElem hi', Option.toList_some, Qd4, bytesB_cons, Qez, List.append_nil, List.getD_eq_getElem?_getD, List.getElem?_eq_getElem hi', Option.getD_some]
  have hbl : (bytesB (s.take i)).length = 8 * i := by rw [bytesB_length, List.length_take];omega
  have hc8 := (s.getD i 0).toNat_lt
  refine VC_skip ?_
  refine VB ?_
  generalize bytesB (s.take i) = O at *
  refine VS [0, 3, 4, 5] ?_
  refine Qaf ?_
  refine Qae [0, 3, 4, 5] (fun m e w' => ∃ (j cap : Nat) (a : Option Addr), Is e [(0, Str s), (3, .slice a (bI (O ++ (bitsN 8 (s.getD i 0).toNat).take j)).length cap), (4, .int .i64 i), (5, .int .i64 (7 - j))] /\ Heap w [] w' [Res.row 3 1 a (bI (O ++ (bitsN 8 (s.getD i 0).toNat).take j)).length cap (Qal (bI (O ++ (bitsN 8 (s.getD i 0).toNat).take j)))] /\ j <= 8 /\ m = 8 - j) 8 ?_ ?_
  ·
   refine Qs ?_
   refine ⟨0, cap, a, ?_, ?_, by omega, rfl⟩
   ·
    rw [List.take_zero, List.append_nil];rfl
   ·
    rw [List.take_zero, List.append_nil];exact hH
  clear hH
  rintro m e w2 ⟨j, cap, a, rfl, hH, hj, rfl⟩
  refine VS [0, 3, 4, 5, 13] ?_
  refine VD (fun h => ?_) (fun h => ?_)
  ·
   have hj8 : j < 8 := by omega
   have hsu := Qnu (s.getD i 0).toNat j hj8
   refine VC_skip ?_
   refine VB ?_
   have hsh : shN IntKind.i64 ((7 - (j : Int)) % 18446744073709551616) = 7 - j := Qnj (by omega) (by simp [IntKind.bits];omega) (by decide)
   have hbit := Qdg (s.getD i 0).toNat (7 - j)
   refine VQ [0, 3, 4, 5] fun K hK => ?_
   rw [hsh, Qfn]
   have hle := Nat.div_le_self (s.getD i 0).toNat (2 ^ (7 - j))
   generalize (s.getD i 0).toNat / 2 ^ (7 - j) = q at *
   refine ⟨⟨by omega, by omega⟩, I64.mk (by omega) (by omega), by omega, ⟨by omega, by omega⟩, ⟨by decide, by decide⟩, ?_⟩
   rw [show Int.toNat 1 = 1 from rfl, Int.toNat_natCast, Nat.and_one_is_mod, hbit]
   have hv : (((s.getD i 0).toNat.testBit (7 - j)).toNat : Int) = if (s.getD i 0).toNat.testBit (7 - j) then 1 else 0 := by cases (s.getD i 0).toNat.testBit (7 - j) <;> rfl
   have hn : bI (O ++ (bitsN 8 (s.getD i 0).toNat).take (j + 1)) = bI (O ++ (bitsN 8 (s.getD i 0).toNat).take j) ++ [(((s.getD i 0).toNat.testBit (7 - j)).toNat : Int)] := by
    rw [hsu, <- List.append_assoc, Qrs, hv];rfl
   have hln : (bI (O ++ (bitsN 8 (s.getD i 0).toNat).take j)).length = 8 * i + j := by rw [bI_len, List.length_append, hbl, List.length_take, Qat];omega
   generalize (((s.getD i 0).toNat.testBit (7 - j)).toNat : Int) = v at *
   generalize bI (O ++ (bitsN 8 (s.getD i 0).toNat).take j) = OO at *
   refine Qa6 (xs := [.tmp 24]) Tryz.underlying36 sz3 rfl rfl rfl (by omega) ?_;refine Qs ?_;refine ⟨by simp [Value.cells], ?_⟩
   refine Qai ?_;refine Qs ?_;refine Qgx hH 0 rfl Tryz.underlying36 zi3 (fun h => by (first | omega | (simp;done) | (simp;omega))) fun a' cap' w5 hc' hH2 => ?_;(try refine Qs ?_)
   rw [<- hn] at hH2 ⊢
   apply hK;clear hK
   refine Qam ?_
   refine VS [0, 3, 4, 5] ?_
   refine Qab ?_
   refine Qs ?_
   exact ⟨8 - (j + 1), by omega, j + 1, cap', a', by rw [show (7 : Int) - ((j + 1 : Nat) : Int) = 7 - (j : Int) - 1 by omega];rfl, hH2, by omega, rfl⟩
  ·
   obtain rfl : j = 8 := by omega
   refine Qag rfl ?_
   refine Qam ?_
   refine VS [0, 3, 4] ?_
   refine Qab ?_
   refine Qs ?_
   have e8 : (bitsN 8 (s.getD i 0).toNat).take 8 = bitsN 8 (s.getD i 0).toNat := List.take_of_length_le (by rw [Qat];omega)
   rw [e8] at hH
   exact ⟨s.length - (i + 1), by omega, i + 1, cap, a, by rw [htk, <- e8];rfl, by rw [htk];exact hH, by omega, rfl⟩
 ·
  obtain rfl : i = s.length := by omega
  rw [List.take_length] at *
  refine Qag rfl ?_
  refine VS [2] ?_
  exact VC_ret (VX_ret1 rfl rfl ⟨a, cap, hH, rfl⟩)
theorem Qeq (l : List Bool) (a : Option Addr) (c : Nat) (hl : l.length <= 64) (w : World) (hr : RS w a l.length 1 (Qal (bI l))) :
  Does Tryz.prog 124 #[.slice a l.length c] w fun v w' => w' = w /\ v = .int .u64 (numB l : Nat) := by
 refine En [.slice a l.length c] 20 Tryz.func124 ?_
 refine VS [0] ?_
 refine VS [0, 3] ?_
 refine VS [0, 3, 4] ?_
 refine Qaf ?_
 refine Qae [0, 3, 4] (fun m e w' => ∃ (i : Nat), Is e [(0, .slice a l.length c), (3, .int .u64 (numB (l.take i) : Nat)), (4, .int .i64 i)] /\ Is w' w /\ i <= l.length /\ m = l.length - i) l.length ?_ ?_
 ·
  refine Qs ?_
  exact ⟨0, rfl, rfl, by omega, rfl⟩
 rintro m e w' ⟨i, rfl, rfl, hi, rfl⟩
 refine VS [0, 3, 4, 8] ?_
 refine VD (fun h => ?_) (fun h => ?_)
 ·
  have hi' : i < l.length := by omega
  have htk : numB (l.take (i + 1)) = 2 * numB (l.take i) + (l.getD i false).toNat := by
   rw [List.take_add_one, List.getElem?_eq_getElem hi', Option.toList_some, Qhk, List.getD_eq_getElem?_getD, List.getElem?_eq_getElem hi', Option.getD_some]
  have hlt := Qba (l.take (i + 1))
  have hp : 2 ^ (l.take (i + 1)).length <= 2 ^ 64 := Nat.pow_le_pow_right (by omega) (by rw [List.length_take];omega)
  refine VC_skip ?_
  refine VB ?_
  obtain ⟨p, rfl⟩ := Qbe hr (by omega)
  have hc := Qde hr (show i < (bI l).length by rw [bI_len];omega)
  rw [Qep hi'] at hc
  refine VQ [0, 3, 4] fun K hK => ?_
  refine ⟨⟨by omega, by omega⟩, _, hc, ?_⟩
  (try refine Qs ?_)
  have he : ((numB (l.take i) : Int) * 2 % 18446744073709551616 + (if l.getD i false = true then 1 else 0) % 18446744073709551616) % 18446744073709551616 = ((numB (l.take (i + 1)) : Nat) : Int) := by
   rw [htk] at hlt ⊢
   cases l.getD i false <;> simp only [Bool.toNat_true, Bool.toNat_false, Bool.false_eq_true, if_true, if_false] at hlt ⊢ <;> omega
  rw [he]
  apply hK;clear hK
  refine Qam ?_
  refine VS [0, 3, 4] ?_
  refine Qab ?_
  refine Qs ?_
  exact ⟨l.length - (i + 1), by omega, i + 1, rfl, rfl, by omega, rfl⟩
 ·
  obtain rfl : i = l.length := by omega
  rw [List.take_length]
  refine Qag rfl ?_
  refine VS [2] ?_
  exact VC_ret (VX_ret1 rfl rfl ⟨rfl, rfl⟩)
theorem Qyr {α : Type} (A R : List α) (x b : α) {k : Nat} (hk : A.length = k) : (A ++ (x :: R)).take k ++ [b] ++ (A ++ (x :: R)).drop (k + [b].length) = A ++ (b :: R) := by
 subst hk
 simp
theorem Qgg (v n : Nat) (hv : v < 18446744073709551616) (hn : n <= 64) (w : World) : Does Tryz.prog 66 #[.int .u64 v, .int .i64 n] w
  fun r w' => ∃ g, Heap w [] w' [Res.row 3 1 (some ⟨g, 0, none⟩) n n (Qal (bI (bitsN n v)))] /\ r = .tuple #[.slice (some ⟨g, 0, none⟩) n n, .bool (decide (v / 2 ^ n = 0))] := by
 refine En [.int .u64 v, .int .i64 n] 33 Tryz.func66 ?_
 refine VS [0, 1] ?_
 refine VQ [0, 1, 13] fun K hK => ?_
 suffices out : K [(0, .int .u64 v), (1, .int .i64 n), (13, .bool false)] w by
  refine ⟨fun h => ?_, fun h => ?_⟩
  ·
   have e : decide (64 < (n : Int)) = false := by simp;omega
   rw [e];exact out
  ·
   exact absurd h (by omega)
 apply hK;clear hK
 refine Qaa rfl rfl (fun h => by simp at h) (fun h => VC_skip ?_)
 clear h
 refine VQ [0, 1, 6] fun K hK => ?_
 refine Qdc Tryz.underlying36 zi3 ?_
 refine Qs ?_
 refine ⟨n, n, ⟨rfl, rfl, by omega, by omega, by omega⟩, ?_⟩
 have hH := (Heap.start w).row 3 (n := n) (cap := n) (sz := 1) (List.replicate n (.int .i64 0)) [] (by simp) (by simp) (Nat.le_refl _) (by have : maxLen = 9223372036854775807 := rfl;omega)
 rw [List.append_nil] at hH
 generalize w.alloc (Obj.cells (List.replicate n (Value.int .i64 0)).toArray 3) = w1 at *
 generalize w.heap.size = g at *
 have hH : Heap w [] w1 [Res.row 3 1 (some ⟨g, 0, none⟩) n n (Qal (List.replicate (n - 0) 0 ++ bI (bitsN 0 v)))] := by
  have e : Qal (List.replicate (n - 0) 0 ++ bI (bitsN 0 v)) = List.replicate n (Value.int .i64 0) := by simp [bitsN, bI, Qal]
  rw [e];exact hH
 (try refine Qs ?_)
 apply hK;clear hK
 refine VS [0, 6, 7] ?_
 refine Qaf ?_
 refine Qae [0, 6, 7] (fun m e w' => ∃ (j : Nat), Is e [(0, .int .u64 (v / 2 ^ j : Nat)), (6, .slice (some ⟨g, 0, none⟩) n n), (7, .int .i64 ((n : Int) - 1 - j))] /\ Heap w [] w' [Res.row 3 1 (some ⟨g, 0, none⟩) n n (Qal (List.replicate (n - j) 0 ++ bI (bitsN j v)))] /\ j <= n /\ m = n - j) n ?_ ?_
 ·
  refine Qs ?_
  exact ⟨0, by rw [Nat.pow_zero, Nat.div_one, show (n : Int) - 1 - ((0 : Nat) : Int) = (n : Int) - 1 by omega];rfl, hH, by omega, rfl⟩
 clear hH
 rintro m e w2 ⟨j, rfl, hH, hj, rfl⟩
 refine VS [0, 6, 7, 19] ?_
 refine VD (fun h => ?_) (fun h => ?_)
 ·
  have hjn : j < n := by omega
  refine VC_skip ?_
  refine VB ?_
  have hbit := Qdg v j
  have hdiv : v / 2 ^ (j + 1) = v / 2 ^ j / 2 := by rw [Nat.pow_succ, Nat.div_div_eq_div_mul]
  have hq : v / 2 ^ j < 18446744073709551616 := Nat.lt_of_le_of_lt (Nat.div_le_self _ _) hv
  generalize v / 2 ^ j = q at *
  refine VQ [0, 6, 7] fun K hK => ?_
  refine ⟨by omega, by omega, I64.mk (by omega) (by omega), ⟨by omega, by omega⟩, ?_⟩
  have hto : ((n : Int) - 1 - j).toNat = n - 1 - j := by omega
  rw [hto]
  refine Qac ?_
  refine Qs ?_
  refine Qbz hH 0 (o := n - 1 - j) (vs := [.int .i64 ((q : Int) % 2)]) rfl (by simp [Qdn]) rfl (by kernel_rfl) (by simp only [List.length_singleton, Qbw, List.length_append, List.length_replicate, bI_len, Qat];omega) (by simp [Value.oneCell']) fun w3 hH2 => ?_
  simp only [List.set_cons_zero] at hH2
  have hset : ∀ (b : Int), b = (if v.testBit j then 1 else 0) -> (Qal (List.replicate (n - j) 0 ++ bI (bitsN j v))).take (n - 1 - j) ++ [.int .i64 b] ++ (Qal (List.replicate (n - j) 0 ++ bI (bitsN j v))).drop (n - 1 - j + [Value.int .i64 b].length) = Qal (List.replicate (n - (j + 1)) 0 ++ bI (bitsN (j + 1) v)) := by
   intro b hb
   have e1 : Qal (List.replicate (n - j) 0 ++ bI (bitsN j v)) = List.replicate (n - 1 - j) (.int .i64 0) ++ (.int .i64 0 :: Qal (bI (bitsN j v))) := by
    rw [show n - j = (n - 1 - j) + 1 by omega, List.replicate_succ']
    simp [Qal]
   have e2 : Qal (List.replicate (n - (j + 1)) 0 ++ bI (bitsN (j + 1) v)) = List.replicate (n - 1 - j) (.int .i64 0) ++ (.int .i64 b :: Qal (bI (bitsN j v))) := by
    rw [show n - (j + 1) = n - 1 - j by omega, hb]
    simp [Qal, bitsN, bI]
   rw [e1, e2]
   exact Qyr _ _ _ _ (by simp)
  have hb : (q : Int) % 2 = (if v.testBit j then 1 else 0) := by
   cases hq2 : v.testBit j <;> rw [hq2] at hbit <;> simp at hbit ⊢ <;> omega
  rw [hset _ hb] at hH2
  (try refine Qs ?_)
  apply hK;clear hK
  refine VS [0, 6, 7] ?_
  refine Qam ?_
  refine VS [0, 6, 7] ?_
  refine Qab ?_
  refine Qs ?_
  refine ⟨n - (j + 1), by omega, j + 1, ?_, hH2, by omega, rfl⟩
  rw [hdiv, show (n : Int) - 1 - ((j + 1 : Nat) : Int) = (n : Int) - 1 - j - 1 by omega, show (q : Int) / 2 % 18446744073709551616 = ((q / 2 : Nat) : Int) by omega];rfl
 ·
  obtain rfl : j = n := by omega
  refine Qag rfl ?_
  refine VS [4, 5] ?_
  refine VC_ret (Qaj rfl rfl rfl ⟨g, ?_, ?_⟩)
  ·
   rw [Nat.sub_self, List.replicate_zero, List.nil_append] at hH;exact hH
  ·
   have e : decide (((v / 2 ^ j : Nat) : Int) = 0) = decide (v / 2 ^ j = 0) := decide_eq_decide.2 (by omega)
   rw [e]
def SL (w : World) (a : Option Addr) (n c : Nat) (xs : List Value) : Prop := RS w a n 1 xs /\ n <= c /\ ∀ ad, a = some ad -> ad.spot = none
theorem SL.cut {w : World} {a : Option Addr} {n c : Nat} {xs : List Value} (h : SL w a n c xs) (k m : Nat) (hk : k + m <= n) : RS w (if c = k then a else a.map fun x => x.add k) m 1 ((xs.drop k).take m) := by
 obtain ⟨h1, h2, h3⟩ := h
 by_cases hc : c = k
 ·
  obtain rfl : m = 0 := by omega
  rw [if_pos hc, List.take_zero]
  exact ⟨rfl, fun _ => rfl, fun ad _ j u hu => by simp at hu⟩
 ·
  rw [if_neg hc]
  cases a with
  | none =>
   have h4 := h1.2.1 rfl
   obtain rfl : m = 0 := by omega
   exact ⟨by simp, fun _ => rfl, fun ad hd => by cases hd⟩
  | some ad =>
   have h4 := (h1.drop (h3 ad rfl) k (by omega)).take m (by omega)
   simpa using h4
theorem Qca (l : List Bool) (a : Option Addr) (c at_ n : Nat) (hn : n <= 64) (hat : at_ <= l.length) (hl : l.length <= 1000000000000) (w : World) (hs : SL w a l.length c (Qal (bI l))) :
  Does Tryz.prog 71 #[.slice a l.length c, .int .i64 at_, .int .i64 n] w fun v w' => w' = w /\ v = .tuple #[.int .u64 (Qcr l at_ n).1, .int .i64 (Qcr l at_ n).2] := by
 refine En [.slice a l.length c, .int .i64 at_, .int .i64 n] 27 Tryz.func71 ?_
 refine VS [0, 1, 2] ?_
 refine VQ [0, 1, 2, 13] fun K hK => ?_
 suffices out : K [(0, .slice a l.length c), (1, .int .i64 at_), (2, .int .i64 n), (13, .bool false)] w by
  refine ⟨fun h => ?_, fun h => ?_⟩
  ·
   have e : decide (64 < (n : Int)) = false := by simp;omega
   rw [e];exact out
  ·
   exact absurd h (by omega)
 apply hK;clear hK
 refine Qaa rfl rfl (fun h => by simp at h) (fun h => VC_skip ?_)
 clear h
 refine VS [0, 1, 2, 19] ?_
 refine VD (fun h => ?_) (fun h => VC_skip ?_)
 ·
  refine VS [6, 7] ?_
  refine VC_ret (Qaj rfl rfl rfl ⟨rfl, ?_⟩)
  rw [Qcr, if_pos (by omega)];rfl
 have hk : Qcr l at_ n = (numB ((l.drop at_).take n), 0) := by rw [Qcr, if_neg (by omega)]
 rw [hk]
 have hcut := hs.cut at_ n (by omega)
 have hlc := hs.2.1
 have e1 : ((Qal (bI l)).drop at_).take n = Qal (bI ((l.drop at_).take n)) := by
  rw [<- Qjv, <- Qju];simp [Qal, List.map_take, List.map_drop]
 have e2 : ((l.drop at_).take n).length = n := by rw [List.length_take, List.length_drop];omega
 rw [e1] at hcut
 refine VQ [6, 7] fun K hK => ?_
 refine ⟨I64.mk (by omega) (by omega), ⟨by omega, by omega, by omega⟩, ?_⟩
 rw [show at_ + n - at_ = n by omega]
 generalize (if c = at_ then a else a.map fun x => x.add at_) = a2 at *
 have hnum := Qeq ((l.drop at_).take n) a2 (c - at_) (by omega) w (by rw [e2];exact hcut)
 rw [e2] at hnum
 refine MemK_call Tryz.call124 ?_;refine Qs ?_;refine CallK.mk hnum ?_
 rintro v w2 ⟨rfl, rfl⟩
 (try refine Qs ?_)
 apply hK;clear hK
 exact VC_ret (Qaj rfl rfl rfl ⟨rfl, rfl⟩)
def Qfr (ws ov : List Nat) : Nat -> Option Nat
 | 0 => none
 | n + 1 => match Qfr ws ov n with
  | none => if ov.getD n 0 = 0 then some n else none
  | some a => if ov.getD n 0 = 0 /\ ws.getD n 0 < ws.getD a 0 then some n else some a
def Qc3 (ws ov : List Nat) : Nat := (Qfr ws ov ws.length).getD 0
def Qjw (s : List Nat × List Nat) : List Nat × List Nat :=
 let next := s.1.length
 let a := Qc3 s.1 s.2
 let ov1 := s.2.set a next
 let b := Qc3 s.1 ov1
 (s.1 ++ [s.1.getD a 0 + s.1.getD b 0], ov1.set b next ++ [0])
def Qgp (ov : List Nat) : Nat -> Nat -> Nat
 | 0, _ => 0
 | f + 1, i => if ov.getD i 0 = 0 then 0 else Qgp ov f (ov.getD i 0) + 1
def maxL (l : List Nat) : Nat := l.foldl max 0
structure Qnv (ws ov : List Nat) (a : Nat) : Prop where
 lt : a < ws.length
 free : ov.getD a 0 = 0
 le : ∀ i, i < ws.length -> ov.getD i 0 = 0 -> ws.getD a 0 < ws.getD i 0 ∨ (ws.getD a 0 = ws.getD i 0 /\ a <= i)
theorem Qfe (ws ov : List Nat) : ∀ n, Qfr ws ov n = none -> ∀ i, i < n -> ov.getD i 0 ≠ 0
 | 0, _, i, h => by omega
 | n + 1, h, i, hi => by
  rw [Qfr] at h
  cases hl : Qfr ws ov n with
  | none =>
   rw [hl] at h
   simp only at h
   split at h
   ·
    cases h
   ·
    rename_i h0
    rcases Nat.lt_or_ge i n with h2 | h2
    ·
     exact Qfe ws ov n hl i h2
    ·
     rw [show i = n by omega];exact h0
  | some a => rw [hl] at h;simp only at h;split at h <;> cases h
theorem Qhn (ws ov : List Nat) : ∀ n a, Qfr ws ov n = some a -> a < n /\ ov.getD a 0 = 0 /\ ∀ i, i < n -> ov.getD i 0 = 0 -> ws.getD a 0 < ws.getD i 0 ∨ (ws.getD a 0 = ws.getD i 0 /\ a <= i)
 | 0, a, h => by cases h
 | n + 1, a, h => by
  rw [Qfr] at h
  cases hl : Qfr ws ov n with
  | none =>
   rw [hl] at h
   simp only at h
   have hn := Qfe ws ov n hl
   split at h
   ·
    rename_i h0
    cases h
    refine ⟨by omega, h0, fun i hi hf => ?_⟩
    rcases Nat.lt_or_ge i n with h2 | h2
    ·
     exact absurd hf (hn i h2)
    ·
     right;rw [show i = n by omega];exact ⟨rfl, Nat.le_refl _⟩
   ·
    cases h
  | some b =>
   rw [hl] at h
   simp only at h
   obtain ⟨h1, h2, h3⟩ := Qhn ws ov n b hl
   split at h
   ·
    rename_i h0
    cases h
    refine ⟨by omega, h0.1, fun i hi hf => ?_⟩
    rcases Nat.lt_or_ge i n with h4 | h4
    ·
     have := h3 i h4 hf;omega
    ·
     right;rw [show i = n by omega];exact ⟨rfl, Nat.le_refl _⟩
   ·
    rename_i h0
    cases h
    refine ⟨by omega, h2, fun i hi hf => ?_⟩
    rcases Nat.lt_or_ge i n with h4 | h4
    ·
     exact h3 i h4 hf
    ·
     obtain rfl : i = n := by omega
     rcases Nat.lt_or_ge (ws.getD i 0) (ws.getD a 0) with h5 | h5
     ·
      exact absurd ⟨hf, h5⟩ h0
     ·
      omega
theorem Qlp {ws ov : List Nat} {i : Nat} (hi : i < ws.length) (hf : ov.getD i 0 = 0) : Qnv ws ov (Qc3 ws ov) := by
 unfold Qc3
 cases hl : Qfr ws ov ws.length with
 | none => exact absurd hf (Qfe ws ov _ hl i hi)
 | some a =>
  obtain ⟨h1, h2, h3⟩ := Qhn ws ov _ a hl
  exact ⟨h1, h2, h3⟩
def Qa7 (f : Nat -> Nat) : Nat -> Nat
 | 0 => 0
 | n + 1 => Qa7 f n + f n
theorem Qb5 {f g : Nat -> Nat} : ∀ n, (∀ i, i < n -> f i = g i) -> Qa7 f n = Qa7 g n
 | 0, _ => rfl
 | n + 1, h => by rw [Qa7, Qa7, Qb5 n fun i hi => h i (by omega), h n (by omega)]
theorem Qfs (f g : Nat -> Nat) : ∀ n, Qa7 (fun i => f i + g i) n = Qa7 f n + Qa7 g n
 | 0 => rfl
 | n + 1 => by rw [Qa7, Qa7, Qa7, Qfs f g n];omega
theorem Qft (a c : Nat) : ∀ n, Qa7 (fun i => if i = a then c else 0) n = if a < n then c else 0
 | 0 => by simp [Qa7]
 | n + 1 => by
  rw [Qa7, Qft a c n]
  by_cases h1 : a < n
  ·
   rw [if_pos h1, if_neg (by omega), if_pos (by omega)];rfl
  ·
   by_cases h2 : n = a
   ·
    subst h2;simp
   ·
    rw [if_neg h1, if_neg h2, if_neg (by omega)]
theorem Qgq {f : Nat -> Nat} {n a b : Nat} (ha : a < n) (hb : b < n) (hab : a ≠ b) : Qa7 (fun i => if i = a ∨ i = b then 0 else f i) n + (f a + f b) = Qa7 f n := by
 have e : Qa7 f n = Qa7 (fun i => if i = a ∨ i = b then 0 else f i) n + (Qa7 (fun i => if i = a then f a else 0) n + Qa7 (fun i => if i = b then f b else 0) n) := by
  rw [<- Qfs, <- Qfs]
  refine Qb5 n fun i _ => ?_
  by_cases h1 : i = a
  ·
   subst h1;simp [hab]
  ·
   by_cases h2 : i = b
   ·
    subst h2;simp [h1]
   ·
    simp [h1, h2]
 rw [e, Qft, Qft, if_pos ha, if_pos hb]
def fib : Nat -> Nat
 | 0 => 0
 | 1 => 1
 | n + 2 => fib (n + 1) + fib n
theorem Qjx : ∀ n, fib n <= fib (n + 1)
 | 0 => by decide
 | n + 1 => by rw [fib];omega
theorem Quf {m n : Nat} (h : m <= n) : fib m <= fib n := by
 induction n with
 | zero => rw [show m = 0 by omega];exact Nat.le_refl _
 | succ n ih =>
  rcases Nat.lt_or_ge m (n + 1) with h1 | h1
  ·
   exact Nat.le_trans (ih (by omega)) (Qjx n)
  ·
   rw [show m = n + 1 by omega];exact Nat.le_refl _
structure Grown (w : List Nat) (k : Nat) (ws ov : List Nat) (h : Nat -> Nat) : Prop where
 lws : ws.length = w.length + k
 lov : ov.length = w.length + k
 up : ∀ i, i < w.length + k -> ov.getD i 0 = 0 ∨ (i < ov.getD i 0 /\ w.length <= ov.getD i 0 /\ ov.getD i 0 < w.length + k)
 roots : Qa7 (fun i => if ov.getD i 0 = 0 then 1 else 0) (w.length + k) + k = w.length
 weight : Qa7 (fun i => if ov.getD i 0 = 0 then ws.getD i 0 else 0) (w.length + k) = Qa7 (fun i => w.getD i 0) w.length
 two : ∀ j, w.length <= j -> j < w.length + k -> ∃ a b, a < j /\ b < j /\ a ≠ b /\ ov.getD a 0 = j /\ ov.getD b 0 = j /\ ∀ i, ov.getD i 0 = j -> i = a ∨ i = b
 hup : ∀ i, i < w.length + k -> ov.getD i 0 ≠ 0 -> h i + 1 <= h (ov.getD i 0)
 hfib : ∀ i, i < w.length + k -> fib (h i + 2) <= ws.getD i 0
 deep : ∀ i, i < w.length + k -> 1 <= h i -> ∃ y, y < w.length + k /\ ov.getD y 0 ≠ 0 /\ fib (h i + 1) <= ws.getD y 0
 order : ∀ y r, y < w.length + k -> r < w.length + k -> ov.getD y 0 ≠ 0 -> ov.getD r 0 = 0 -> ws.getD y 0 <= ws.getD r 0
theorem Qb6 (n i : Nat) : (List.replicate n (0 : Nat)).getD i 0 = 0 := by
 rw [List.getD_eq_getElem?_getD, List.getElem?_replicate];split <;> rfl
theorem Grown.start (w : List Nat) (h2 : 1 <= w.length) (h1 : ∀ i, i < w.length -> 1 <= w.getD i 0) : Grown w 0 w (List.replicate w.length 0) (fun _ => 0) where
 lws := rfl
 lov := by simp
 up i _ := .inl (Qb6 _ _)
 roots := by
  have : Qa7 (fun i => if (List.replicate w.length 0).getD i 0 = 0 then 1 else 0) w.length = Qa7 (fun _ => 1) w.length := Qb5 _ fun i _ => by rw [if_pos (Qb6 _ _)]
  have h : ∀ n, Qa7 (fun _ => 1) n = n := fun n => by induction n with
   | zero => rfl
   | succ n ih => rw [Qa7, ih]
  rw [Nat.add_zero, Nat.add_zero, this, h]
 weight := Qb5 _ fun i _ => by rw [if_pos (Qb6 _ _)]
 two j h3 h4 := by omega
 hup i hi h := absurd (Qb6 _ _) h
 hfib i hi := by have := h1 i (by simpa using hi);simpa [fib] using this
 deep i hi h := by simp at h
 order y r _ _ h := absurd (Qb6 _ _) h
theorem Qcs {l : List Nat} {i v : Nat} (h : i < l.length) : (l.set i v).getD i 0 = v := by
 rw [List.getD_eq_getElem?_getD, List.getElem?_set_self h];rfl
theorem Qcd {l : List Nat} {i j v : Nat} (h : i ≠ j) : (l.set i v).getD j 0 = l.getD j 0 := by
 rw [List.getD_eq_getElem?_getD, List.getElem?_set_ne h, List.getD_eq_getElem?_getD]
theorem Qc5 {l m : List Nat} {i : Nat} (h : i < l.length) : (l ++ m).getD i 0 = l.getD i 0 := by
 rw [List.getD_eq_getElem?_getD, List.getElem?_append_left h, List.getD_eq_getElem?_getD]
theorem Qho {l : List Nat} {x : Nat} : (l ++ [x]).getD l.length 0 = x := by
 rw [List.getD_eq_getElem?_getD, List.getElem?_append_right (Nat.le_refl _), Nat.sub_self];rfl
theorem Qhp {l : List Nat} {i : Nat} (h : l.length <= i) : l.getD i 0 = 0 := by
 rw [List.getD_eq_getElem?_getD, List.getElem?_eq_none h];rfl
theorem Qff {ov : List Nat} : ∀ n, 0 < Qa7 (fun i => if ov.getD i 0 = 0 then 1 else 0) n -> ∃ i, i < n /\ ov.getD i 0 = 0
 | 0, h => by simp [Qa7] at h
 | n + 1, h => by
  rw [Qa7] at h
  by_cases h0 : ov.getD n 0 = 0
  ·
   exact ⟨n, by omega, h0⟩
  ·
   rw [if_neg h0] at h
   obtain ⟨i, hi, hf⟩ := Qff n (by omega)
   exact ⟨i, by omega, hf⟩
theorem Grown.pick {w : List Nat} {k : Nat} {ws ov : List Nat} {h : Nat -> Nat} (g : Grown w k ws ov h) (hk : k + 1 < w.length) :
  Qnv ws ov (Qc3 ws ov) /\ Qnv ws (ov.set (Qc3 ws ov) ws.length) (Qc3 ws (ov.set (Qc3 ws ov) ws.length)) /\ Qc3 ws (ov.set (Qc3 ws ov) ws.length) ≠ Qc3 ws ov /\ ov.getD (Qc3 ws (ov.set (Qc3 ws ov) ws.length)) 0 = 0 := by
 have hr := g.roots
 have hlw := g.lws
 have hlo := g.lov
 obtain ⟨i, hi, hf⟩ := Qff (ov := ov) (w.length + k) (by omega)
 have ha := Qlp (ws := ws) (ov := ov) (by omega) hf
 generalize Qc3 ws ov = a at *
 have ha1 := ha.lt
 obtain ⟨j, hj, hf2⟩ := Qff (ov := ov.set a ws.length) (w.length + k) (by
  have e : Qa7 (fun i => if (ov.set a ws.length).getD i 0 = 0 then 1 else 0) (w.length + k) + Qa7 (fun i => if i = a then 1 else 0) (w.length + k) = Qa7 (fun i => if ov.getD i 0 = 0 then 1 else 0) (w.length + k) := by
   rw [<- Qfs]
   refine Qb5 _ fun i _ => ?_
   by_cases hia : i = a
   ·
    subst hia;rw [Qcs (by omega), if_neg (by omega), if_pos rfl, if_pos ha.free]
   ·
    rw [Qcd (fun x => hia x.symm), if_neg hia];rfl
  rw [Qft, if_pos (by omega)] at e
  omega)
 have hb := Qlp (ws := ws) (ov := ov.set a ws.length) (by omega) hf2
 generalize Qc3 ws (ov.set a ws.length) = b at *
 have hne : b ≠ a := fun e => by
  have := hb.free
  rw [e, Qcs (by omega)] at this
  omega
 exact ⟨ha, hb, hne, by rw [<- Qcd (v := ws.length) (fun x => hne x.symm)];exact hb.free⟩
theorem Grown.step {w : List Nat} {k : Nat} {ws ov : List Nat} {h : Nat -> Nat} (g : Grown w k ws ov h) (hk : k + 1 < w.length) :
  ∃ h', Grown w (k + 1) (Qjw (ws, ov)).1 (Qjw (ws, ov)).2 h' := by
 obtain ⟨ha, hb, hne, hbf⟩ := g.pick hk
 unfold Qjw
 simp only
 generalize Qc3 ws ov = a at *
 generalize Qc3 ws (ov.set a ws.length) = b at *
 have hlw := g.lws
 have hlo := g.lov
 have ha1 := ha.lt
 have hb1 := hb.lt
 have haf := ha.free
 have hwab : ws.getD a 0 <= ws.getD b 0 := by have := ha.le b hb1 hbf;omega
 have hbl : ∀ i, i < ws.length -> i ≠ a -> ov.getD i 0 = 0 -> ws.getD b 0 <= ws.getD i 0 := fun i hi hia hf => by
  have := hb.le i hi (by rw [Qcd (fun x => hia x.symm)];exact hf)
  omega
 rw [hlw] at hb ha1 hb1 hbl ⊢
 generalize hn : w.length + k = n at *
 have o1 : ∀ i, i < n -> ((ov.set a n).set b n ++ [0]).getD i 0 = if i = a ∨ i = b then n else ov.getD i 0 := fun i hi => by
  rw [Qc5 (by simp;omega)]
  by_cases e1 : i = b
  ·
   subst e1;rw [Qcs (by simp;omega), if_pos (.inr rfl)]
  ·
   rw [Qcd (fun x => e1 x.symm)]
   by_cases e2 : i = a
   ·
    subst e2;rw [Qcs (by omega), if_pos (.inl rfl)]
   ·
    rw [Qcd (fun x => e2 x.symm), if_neg (by simp [e1, e2])]
 have o2 : ((ov.set a n).set b n ++ [0]).getD n 0 = 0 := by
  have := Qho (l := (ov.set a n).set b n) (x := 0)
  simp [hlo]
 have w1 : ∀ i, i < n -> (ws ++ [ws.getD a 0 + ws.getD b 0]).getD i 0 = ws.getD i 0 := fun i hi => Qc5 (by omega)
 have w2 : (ws ++ [ws.getD a 0 + ws.getD b 0]).getD n 0 = ws.getD a 0 + ws.getD b 0 := by
  have := Qho (l := ws) (x := ws.getD a 0 + ws.getD b 0)
  rwa [hlw] at this
 have lo : ((ov.set a n).set b n ++ [0]).length = n + 1 := by simp [hlo]
 have lw : (ws ++ [ws.getD a 0 + ws.getD b 0]).length = n + 1 := by simp [hlw]
 generalize (ov.set a n).set b n ++ [0] = ov' at *
 generalize ws ++ [ws.getD a 0 + ws.getD b 0] = ws' at *
 have hup := g.up
 have hroots := g.roots
 have hweight := g.weight
 have htwo := g.two
 have hhup := g.hup
 have hfib := g.hfib
 have hdeep := g.deep
 have horder := g.order
 rw [hn] at hup hroots hweight htwo hhup hfib hdeep horder
 clear g
 have hnk : n = w.length + k := hn.symm
 refine ⟨fun i => if i = n then max (h a) (h b) + 1 else h i, ?_⟩
 have en : w.length + (k + 1) = n + 1 := by omega
 refine ⟨by rw [lw, en], by rw [lo, en], ?_, ?_, ?_, ?_, ?_, ?_, ?_, ?_⟩
 ·
  intro i hi
  rw [en] at hi ⊢
  by_cases e : i = n
  ·
   subst e;exact .inl o2
  ·
   rw [o1 i (by omega)]
   split
   ·
    right;omega
   ·
    have := hup i (by omega);omega
 ·
  rw [en, Qa7, o2, if_pos rfl]
  have e : Qa7 (fun i => if ov'.getD i 0 = 0 then 1 else 0) n = Qa7 (fun i => if i = a ∨ i = b then 0 else if ov.getD i 0 = 0 then 1 else 0) n := Qb5 n fun i hi => by
   rw [o1 i hi]
   by_cases e : i = a ∨ i = b
   ·
    rw [if_pos e, if_pos e, if_neg (by omega)]
   ·
    rw [if_neg e, if_neg e]
  have e2 := Qgq (f := fun i => if ov.getD i 0 = 0 then 1 else 0) ha1 hb1 (Ne.symm hne)
  simp only [if_pos haf, if_pos hbf] at e2
  omega
 ·
  rw [en, Qa7, o2, if_pos rfl, w2]
  have e : Qa7 (fun i => if ov'.getD i 0 = 0 then ws'.getD i 0 else 0) n = Qa7 (fun i => if i = a ∨ i = b then 0 else if ov.getD i 0 = 0 then ws.getD i 0 else 0) n := Qb5 n fun i hi => by
   rw [o1 i hi, w1 i hi]
   by_cases e : i = a ∨ i = b
   ·
    rw [if_pos e, if_pos e, if_neg (by omega)]
   ·
    rw [if_neg e, if_neg e]
  have e2 := Qgq (f := fun i => if ov.getD i 0 = 0 then ws.getD i 0 else 0) ha1 hb1 (Ne.symm hne)
  simp only [if_pos haf, if_pos hbf] at e2
  omega
 ·
  intro j hj1 hj2
  rw [en] at hj2
  by_cases e : j = n
  ·
   subst e
   refine ⟨a, b, ha1, hb1, Ne.symm hne, by rw [o1 a ha1, if_pos (.inl rfl)], by rw [o1 b hb1, if_pos (.inr rfl)], fun i hi => ?_⟩
   rcases Nat.lt_or_ge i j with h1 | h1
   ·
    rw [o1 i h1] at hi
    split at hi
    ·
     assumption
    ·
     have := hup i h1;omega
   ·
    rcases Nat.lt_or_ge i (j + 1) with h2 | h2
    ·
     rw [show i = j by omega, o2] at hi;omega
    ·
     rw [Qhp (by omega)] at hi;omega
  ·
   obtain ⟨x, y, hx, hy, hxy, hox, hoy, hall⟩ := htwo j hj1 (by omega)
   have hxa : ¬ (x = a ∨ x = b) := fun e => by rcases e with rfl | rfl <;> omega
   have hya : ¬ (y = a ∨ y = b) := fun e => by rcases e with rfl | rfl <;> omega
   refine ⟨x, y, hx, hy, hxy, by rw [o1 x (by omega), if_neg hxa];exact hox, by rw [o1 y (by omega), if_neg hya];exact hoy, fun i hi => ?_⟩
   rcases Nat.lt_or_ge i n with h1 | h1
   ·
    rw [o1 i h1] at hi
    split at hi
    ·
     omega
    ·
     exact hall i hi
   ·
    rcases Nat.lt_or_ge i (n + 1) with h2 | h2
    ·
     rw [show i = n by omega, o2] at hi;omega
    ·
     rw [Qhp (by omega)] at hi;omega
 ·
  intro i hi hne0
  rw [en] at hi
  have hin : i ≠ n := fun e => by rw [e, o2] at hne0;exact hne0 rfl
  rw [o1 i (by omega)] at hne0 ⊢
  rw [if_neg hin]
  by_cases e : i = a ∨ i = b
  ·
   rw [if_pos e, if_pos rfl]
   rcases e with rfl | rfl <;> omega
  ·
   rw [if_neg e] at hne0 ⊢
   have h1 := hup i (by omega)
   rw [if_neg (by omega)]
   exact hhup i (by omega) hne0
 ·
  intro i hi
  rw [en] at hi
  by_cases e : i = n
  ·
   subst e
   rw [if_pos rfl, w2]
   have key : ∀ x y, x < i -> y < i -> ov.getD x 0 = 0 -> ov.getD y 0 = 0 -> fib (h x + 3) <= ws.getD x 0 + ws.getD y 0 := fun x y hx hy hox hoy => by
    have h1 := hfib x hx
    have h2 : fib (h x + 1) <= ws.getD y 0 := by
     rcases Nat.eq_zero_or_pos (h x) with h0 | h0
     ·
      have := hfib y hy
      refine Nat.le_trans (Quf ?_) this
      omega
     ·
      obtain ⟨z, hz1, hz2, hz3⟩ := hdeep x hx h0
      exact Nat.le_trans hz3 (horder z y hz1 hy hz2 hoy)
    rw [show h x + 3 = (h x + 1) + 2 from rfl, fib]
    have : fib (h x + 1 + 1) = fib (h x + 2) := rfl
    omega
   rcases Nat.le_total (h a) (h b) with h1 | h1
   ·
    rw [Nat.max_eq_right h1];have := key b a hb1 ha1 hbf haf;rw [Nat.add_comm (ws.getD a 0)];exact this
   ·
    rw [Nat.max_eq_left h1];exact key a b ha1 hb1 haf hbf
  ·
   rw [if_neg e, w1 i (by omega)];exact hfib i (by omega)
 ·
  intro i hi hh
  rw [en] at hi ⊢
  by_cases e : i = n
  ·
   subst e
   rw [if_pos rfl]
   rcases Nat.le_total (h a) (h b) with h1 | h1
   ·
    rw [Nat.max_eq_right h1]
    exact ⟨b, by omega, by rw [o1 b hb1, if_pos (.inr rfl)];omega, by rw [w1 b hb1];exact hfib b hb1⟩
   ·
    rw [Nat.max_eq_left h1]
    exact ⟨a, by omega, by rw [o1 a ha1, if_pos (.inl rfl)];omega, by rw [w1 a ha1];exact hfib a ha1⟩
  ·
   rw [if_neg e] at hh ⊢
   obtain ⟨y, hy1, hy2, hy3⟩ := hdeep i (by omega) hh
   refine ⟨y, by omega, ?_, by rw [w1 y hy1];exact hy3⟩
   rw [o1 y hy1]
   split
   ·
    omega
   ·
    exact hy2
 ·
  intro y r hy hr hoy hor
  rw [en] at hy hr
  have hyn : y ≠ n := fun e => by rw [e, o2] at hoy;exact hoy rfl
  rw [w1 y (by omega)]
  have hyb : ws.getD y 0 <= ws.getD b 0 := by
   rw [o1 y (by omega)] at hoy
   by_cases e : y = a ∨ y = b
   ·
    rcases e with rfl | rfl <;> omega
   ·
    rw [if_neg e] at hoy;exact horder y b (by omega) hb1 hoy hbf
  by_cases e : r = n
  ·
   subst e;rw [w2];omega
  ·
   rw [w1 r (by omega)]
   rw [o1 r (by omega)] at hor
   by_cases e2 : r = a ∨ r = b
   ·
    rw [if_pos e2] at hor;omega
   ·
    rw [if_neg e2] at hor
    have := hbl r (by omega) (fun x => e2 (.inl x)) hor
    omega
section
variable {w : List Nat} {k : Nat} {ws ov : List Nat} {h : Nat -> Nat}
theorem Grown.fuel (g : Grown w k ws ov h) : ∀ f f' i, i < w.length + k -> w.length + k - i <= f -> w.length + k - i <= f' -> Qgp ov f i = Qgp ov f' i
 | 0, _, i, hi, h1, _ => by omega
 | _ + 1, 0, i, hi, _, h2 => by omega
 | f + 1, f' + 1, i, hi, h1, h2 => by
  rw [Qgp, Qgp]
  split
  ·
   rfl
  ·
   rename_i h0
   have h3 := g.up i hi
   rw [g.fuel f f' (ov.getD i 0) (by omega) (by omega) (by omega)]
theorem Grown.dep (g : Grown w k ws ov h) {i : Nat} (f : Nat) (hf : w.length + k <= f) (hi : i < w.length + k) (h0 : ov.getD i 0 ≠ 0) : Qgp ov f i = Qgp ov f (ov.getD i 0) + 1 := by
 have h3 := g.up i hi
 cases f with
 | zero => omega
 | succ f =>
  conv => lhs;rw [Qgp]
  rw [if_neg h0, g.fuel f (f + 1) (ov.getD i 0) (by omega) (by omega) (by omega)]
end
def Qbc : List Nat -> Nat
 | [] => 0
 | x :: l => 2 ^ (20 - x) + Qbc l
theorem Qfu (l m : List Nat) : Qbc (l ++ m) = Qbc l + Qbc m := by
 induction l with
 | nil => simp [Qbc]
 | cons x l ih => rw [List.cons_append, Qbc, Qbc, ih];omega
theorem Qi1 (f : Nat -> Nat) : ∀ n, Qbc ((List.range n).map f) = Qa7 (fun i => 2 ^ (20 - f i)) n
 | 0 => rfl
 | n + 1 => by rw [List.range_succ, List.map_append, Qfu, Qi1 f n, Qa7];rfl
theorem Qlq {l : List Nat} {m : Nat} : ∀ a, l.foldl max a <= m ↔ a <= m /\ ∀ x ∈ l, x <= m := by
 induction l with
 | nil => intro a;simp
 | cons x l ih => intro a;rw [List.foldl_cons, ih];simp only [List.mem_cons, forall_eq_or_imp, Nat.max_le, and_assoc]
theorem Qnw {l : List Nat} {m : Nat} : maxL l <= m ↔ ∀ x ∈ l, x <= m := by rw [maxL, Qlq];simp
def bnd : Nat -> Nat
 | 0 => 2
 | k + 1 => 2 ^ k + 2
def idxN (l : List Nat) (n m : Nat) : List Nat := (List.range m).filter fun i => l.getD i 0 == n
def idxs (l : List Nat) (n : Nat) : List Nat := idxN l n l.length
def cnt (l : List Nat) (n : Nat) : Nat := (idxs l n).length
def Qao (l : List Nat) : Nat -> Nat
 | 0 => 0
 | n + 1 => 2 * (Qao l n + cnt l n)
def Qfv (l : List Nat) (i : Nat) : Nat := Qao l (l.getD i 0) + (idxN l (l.getD i 0) i).length
def Qgw (l : List Nat) (i : Nat) : List Bool := bitsN (l.getD i 0) (Qfv l i)
def begP (l : List Nat) (c k : Nat) : Bool := (List.range 21).any fun m => decide (k < m) && decide (0 < cnt l m) && decide (c * 2 ^ (m - k) < Qao l m + cnt l m)
def Qds (l : List Nat) : List Bool -> Nat -> Nat -> Except Int (Nat × Nat)
 | [], _, _ => .error 10
 | b :: r, n, code =>
  if Qao l (n + 1) <= 2 * code + b.toNat /\ 2 * code + b.toNat < Qao l (n + 1) + cnt l (n + 1) then .ok ((idxs l (n + 1)).getD (2 * code + b.toNat - Qao l (n + 1)) 0, n + 1)
  else if begP l (2 * code + b.toNat) (n + 1) = true then Qds l r (n + 1) (2 * code + b.toNat) else .error 90
def Qdt (l : List Nat) (bits : List Bool) (at_ : Nat) : Except Int (Nat × Nat) := match Qds l (bits.drop at_) 0 0 with
 | .ok p => .ok (p.1, at_ + p.2)
 | .error e => .error e
def Qcp (l : List Nat) (bits : List Bool) (fin : Nat) : Nat -> Nat -> Except Int (List Nat × Nat)
 | 0, at_ => .ok ([], at_)
 | n + 1, at_ => match Qdt l bits at_ with
  | .error e => .error e
  | .ok p => if p.1 = fin then .ok ([p.1], p.2) else match Qcp l bits fin n p.2 with
   | .error e => .error e
   | .ok q => .ok (p.1 :: q.1, q.2)
def okL (l : List Nat) : Prop := 2 <= l.length /\ l.length <= 258 /\ (∀ x ∈ l, 1 <= x /\ x <= 20) /\ Qbc l <= 1048576
theorem Qdw (l : List Nat) (n m : Nat) : idxN l n (m + 1) = idxN l n m ++ if l.getD m 0 = n then [m] else [] := by
 unfold idxN
 rw [List.range_succ, List.filter_append]
 congr 1
 by_cases h : l.getD m 0 = n
 ·
  rw [if_pos h, List.filter_cons_of_pos (by simp only [beq_iff_eq];exact h)];rfl
 ·
  rw [if_neg h, List.filter_cons_of_neg (by simp only [beq_iff_eq];exact h)];rfl
theorem Qor (l : List Nat) (n m : Nat) : (idxN l n m).length <= m := by
 unfold idxN;exact Nat.le_trans (List.length_filter_le _ _) (by simp)
theorem Qnx (l : List Nat) (n : Nat) {m m' : Nat} (h : m <= m') : ∃ r, idxN l n m' = idxN l n m ++ r := by
 induction m' with
 | zero => exact ⟨[], by rw [show m = 0 by omega, List.append_nil]⟩
 | succ m' ih =>
  rcases Nat.lt_or_ge m (m' + 1) with h1 | h1
  ·
   obtain ⟨r, hr⟩ := ih (by omega)
   exact ⟨_, by rw [Qdw, hr, List.append_assoc]⟩
  ·
   exact ⟨[], by rw [show m = m' + 1 by omega, List.append_nil]⟩
theorem Qjy {l : List Nat} {n m i : Nat} : i ∈ idxN l n m ↔ i < m /\ l.getD i 0 = n := by
 unfold idxN;simp [List.mem_filter]
theorem Qlr {l : List Nat} {i : Nat} (hi : i < l.length) : (idxs l (l.getD i 0)).getD (idxN l (l.getD i 0) i).length 0 = i /\ (idxN l (l.getD i 0) i).length < cnt l (l.getD i 0) := by
 obtain ⟨r, hr⟩ := Qnx l (l.getD i 0) (m := i + 1) (m' := l.length) (by omega)
 have h1 : idxs l (l.getD i 0) = idxN l (l.getD i 0) i ++ [i] ++ r := by
  unfold idxs;rw [hr, Qdw, if_pos rfl]
 constructor
 ·
  rw [h1, List.append_assoc, List.getD_eq_getElem?_getD, List.getElem?_append_right (Nat.le_refl _), Nat.sub_self];rfl
 ·
  rw [cnt, h1];simp
theorem Qer {l : List Nat} (h : ∀ x ∈ l, 1 <= x) : cnt l 0 = 0 := by
 rw [cnt, idxs, List.length_eq_zero_iff, List.eq_nil_iff_forall_not_mem]
 intro i hi
 obtain ⟨h1, h2⟩ := Qjy.1 hi
 have := h (l.getD i 0) (by rw [List.getD_eq_getElem?_getD, List.getElem?_eq_getElem h1];exact List.getElem_mem h1)
 omega
theorem Qny (l : List Nat) (n : Nat) : ∀ m k, k < (idxN l n m).length -> (idxN l n m).getD k 0 < m /\ l.getD ((idxN l n m).getD k 0) 0 = n /\ (idxN l n ((idxN l n m).getD k 0)).length = k
 | 0, k, h => by simp [idxN] at h
 | m + 1, k, h => by
  rw [Qdw] at h ⊢
  rcases Nat.lt_or_ge k (idxN l n m).length with h1 | h1
  ·
   rw [Qc5 h1]
   obtain ⟨a, b, c⟩ := Qny l n m k h1
   exact ⟨by omega, b, c⟩
  ·
   by_cases h2 : l.getD m 0 = n
   ·
    rw [if_pos h2] at h ⊢
    have hk : k = (idxN l n m).length := by simp at h;omega
    subst hk
    rw [Qho]
    exact ⟨by omega, h2, rfl⟩
   ·
    rw [if_neg h2, List.append_nil] at h;omega
theorem Qi2 (l : List Nat) (n : Nat) : ∀ m, Qa7 (fun i => if l.getD i 0 <= n + 1 then 2 ^ (20 - l.getD i 0) else 0) m = Qa7 (fun i => if l.getD i 0 <= n then 2 ^ (20 - l.getD i 0) else 0) m + (idxN l (n + 1) m).length * 2 ^ (20 - (n + 1))
 | 0 => by simp [Qa7, idxN]
 | m + 1 => by
  rw [Qa7, Qa7, Qi2 l n m, Qdw]
  by_cases h1 : l.getD m 0 = n + 1
  ·
   rw [if_pos (by omega), if_neg (by omega), if_pos h1, h1, List.length_append, Nat.add_mul];simp;omega
  ·
   rw [if_neg h1, List.append_nil]
   by_cases h2 : l.getD m 0 <= n
   ·
    rw [if_pos h2, if_pos (by omega)];omega
   ·
    rw [if_neg h2, if_neg (by omega)];omega
theorem Qp8 (l : List Nat) : Qbc l = Qa7 (fun i => 2 ^ (20 - l.getD i 0)) l.length := by
 rw [<- Qi1]
 congr 1
 apply List.ext_getElem
 ·
  simp
 ·
  intro i h1 h2;simp [List.getD_eq_getElem?_getD, List.getElem?_eq_getElem h1]
theorem Qi3 {l : List Nat} (h : ∀ x ∈ l, 1 <= x /\ x <= 20) : ∀ n, n <= 20 -> (Qao l n + cnt l n) * 2 ^ (20 - n) = Qa7 (fun i => if l.getD i 0 <= n then 2 ^ (20 - l.getD i 0) else 0) l.length
 | 0, _ => by
  rw [Qao, Qer fun x hx => (h x hx).1, Nat.zero_add, Nat.zero_mul]
  symm
  have : Qa7 (fun i => if l.getD i 0 <= 0 then 2 ^ (20 - l.getD i 0) else 0) l.length = Qa7 (fun _ => 0) l.length := Qb5 _ fun i hi => by
   have := h (l.getD i 0) (by rw [List.getD_eq_getElem?_getD, List.getElem?_eq_getElem hi];exact List.getElem_mem hi)
   rw [if_neg (by omega)]
  rw [this]
  generalize l.length = n
  induction n with
  | zero => rfl
  | succ n ih => rw [Qa7, ih]
 | n + 1, hn => by
  rw [Qi2, <- Qi3 h n (by omega), Qao]
  have e : 2 ^ (20 - n) = 2 * 2 ^ (20 - (n + 1)) := by rw [show 20 - n = (20 - (n + 1)) + 1 by omega, Nat.pow_succ];omega
  rw [e, Nat.add_mul]
  show _ = _ + cnt l (n + 1) * _
  rw [Nat.mul_comm 2 (Qao l n + cnt l n), Nat.mul_assoc]
theorem Qfw {l : List Nat} (h : okL l) {n : Nat} (hn : n <= 20) : Qao l n + cnt l n <= 2 ^ n := by
 have h1 := Qi3 h.2.2.1 n hn
 have h2 : Qa7 (fun i => if l.getD i 0 <= n then 2 ^ (20 - l.getD i 0) else 0) l.length <= Qbc l := by
  rw [Qp8]
  generalize l.length = m
  induction m with
  | zero => exact Nat.le_refl _
  | succ m ih =>
   rw [Qa7, Qa7]
   generalize 2 ^ (20 - l.getD m 0) = p
   split <;> omega
 have h3 := h.2.2.2
 have e : (1048576 : Nat) = 2 ^ n * 2 ^ (20 - n) := by rw [<- Nat.pow_add, show n + (20 - n) = 20 by omega]
 have h4 : (Qao l n + cnt l n) * 2 ^ (20 - n) <= 2 ^ n * 2 ^ (20 - n) := by omega
 exact Nat.le_of_mul_le_mul_right h4 (Nat.two_pow_pos _)
theorem Qi4 {l : List Nat} (h : okL l) {i : Nat} (hi : i < l.length) : 1 <= l.getD i 0 /\ l.getD i 0 <= 20 :=
 h.2.2.1 _ (by rw [List.getD_eq_getElem?_getD, List.getElem?_eq_getElem hi];exact List.getElem_mem hi)
theorem Qgz {l : List Nat} (h : okL l) {i : Nat} (hi : i < l.length) : Qao l (l.getD i 0) <= Qfv l i /\ Qfv l i < Qao l (l.getD i 0) + cnt l (l.getD i 0) /\ Qfv l i < 2 ^ l.getD i 0 := by
 have h1 := Qlr hi
 have h2 := Qfw h (Qi4 h hi).2
 unfold Qfv
 omega
def tdGo : List Bool -> Nat -> Nat -> Nat -> Except Int (List Nat × Nat)
 | [], now, k, at_ => if k = 0 then .ok ([], at_) else if now < 1 ∨ 20 < now then .error 80 else .error 10
 | false :: r, now, k, at_ => if k = 0 then .ok ([], at_) else if now < 1 ∨ 20 < now then .error 80 else match tdGo r now (k - 1) (at_ + 1) with
  | .error e => .error e
  | .ok q => .ok (now :: q.1, q.2)
 | [true], now, k, at_ => if k = 0 then .ok ([], at_) else if now < 1 ∨ 20 < now then .error 80 else .error 10
 | true :: d :: r, now, k, at_ => if k = 0 then .ok ([], at_) else if now < 1 ∨ 20 < now then .error 80 else tdGo r (if d = true then now - 1 else now + 1) k (at_ + 2)
def Qa3 (bits : List Bool) (at_ n : Nat) : Except Int (List Nat × Nat) :=
 if (Qcr bits at_ 5).2 ≠ 0 then .error (Qcr bits at_ 5).2 else tdGo (bits.drop (at_ + 5)) (Qcr bits at_ 5).1 n (at_ + 5)
def Qcm (li : List Nat) (at_ : Nat) : List Nat := li.getD at_ 0 :: (li.take at_ ++ li.drop (at_ + 1))
theorem Qdx {li : List Nat} {at_ : Nat} (h : at_ < li.length) : (Qcm li at_).length = li.length := by simp [Qcm];omega
theorem Qp9 {li : List Nat} {at_ : Nat} (h : at_ < li.length) (c : Nat) : c ∈ Qcm li at_ ↔ c ∈ li := by
 have e : li = li.take at_ ++ li.getD at_ 0 :: li.drop (at_ + 1) := by
  have : li.getD at_ 0 = li[at_] := by rw [List.getD_eq_getElem?_getD, List.getElem?_eq_getElem h];rfl
  rw [this, <- List.drop_eq_getElem_cons h, List.take_append_drop]
 unfold Qcm
 conv => rhs;rw [e]
 simp only [List.mem_cons, List.mem_append]
 constructor
 ·
  rintro (h | h | h)
  ·
   exact .inr (.inl h)
  ·
   exact .inl h
  ·
   exact .inr (.inr h)
 ·
  rintro (h | h | h)
  ·
   exact .inr (.inl h)
  ·
   exact .inl h
  ·
   exact .inr (.inr h)
def ptGo (bits : List Bool) (many : Nat) : List Nat -> Nat -> Nat -> Except Int (List Nat × Nat)
 | li, 0, at_ => .ok ([], at_)
 | li, k + 1, at_ => if (unS (bits.drop at_) (many - 1) 0).2 ≠ 0 then .error (if (unS (bits.drop at_) (many - 1) 0).2 = 3 then 110 else (unS (bits.drop at_) (many - 1) 0).2) else
  match ptGo bits many (Qcm li (unS (bits.drop at_) (many - 1) 0).1) k (at_ + (unS (bits.drop at_) (many - 1) 0).1 + 1) with
  | .error e => .error e
  | .ok q => .ok (li.getD (unS (bits.drop at_) (many - 1) 0).1 0 :: q.1, q.2)
def okLB (l : List Nat) : Bool := decide (2 <= l.length) && decide (l.length <= 258) && l.all (fun x => decide (1 <= x) && decide (x <= 20)) && decide (Qbc l <= 1048576)
theorem Qg0 {l : List Nat} : okLB l = true ↔ okL l := by
 simp only [okLB, okL, Bool.and_eq_true, decide_eq_true_eq, List.all_eq_true, and_assoc]
def ttGo (bits : List Bool) (n : Nat) : Nat -> Nat -> Except Int (List (List Nat) × Nat)
 | 0, at_ => .ok ([], at_)
 | k + 1, at_ => match Qa3 bits at_ n with
  | .error e => .error e
  | .ok q => if okLB q.1 = false then .error 80 else match ttGo bits n k q.2 with
   | .error e => .error e
   | .ok q' => .ok (q.1 :: q'.1, q'.2)
def Qbr (bits : List Bool) (at_ n : Nat) : Except Int ((List (List Nat) × List Nat) × Nat) :=
 if (Qcr bits at_ 3).2 ≠ 0 then .error (Qcr bits at_ 3).2 else
 if (Qcr bits at_ 3).1 < 2 ∨ 6 < (Qcr bits at_ 3).1 then .error 110 else
 if (Qcr bits (at_ + 3) 15).2 ≠ 0 then .error (Qcr bits (at_ + 3) 15).2 else
 if (Qcr bits (at_ + 3) 15).1 = 0 then .error 110 else
 match ptGo bits (Qcr bits at_ 3).1 (List.range (Qcr bits at_ 3).1) (Qcr bits (at_ + 3) 15).1 (at_ + 18) with
 | .error e => .error e
 | .ok q => match ttGo bits n (Qcr bits at_ 3).1 q.2 with
  | .error e => .error e
  | .ok q' => .ok ((q'.1, q.1), q'.2)
def mayP (T : List (List Nat)) (P : List Nat) : Prop := 2 <= T.length /\ T.length <= 6 /\ 1 <= P.length /\ P.length <= 32767 /\ (∀ t ∈ T, t.length = (T.getD 0 []).length /\ 3 <= t.length /\ okL t) /\ ∀ k ∈ P, k < T.length
def Qas (l : List Nat) : List Value := l.map fun n : Nat => .int .i64 (n : Int)
def ni (l : List Nat) : List Int := l.map fun n : Nat => (n : Int)
theorem Qos (l : List Nat) : Qas l = Qal (ni l) := by simp [Qas, Qal, ni]
theorem Qaw (l : List Nat) : (Qas l).length = l.length := by simp [Qas]
theorem Qcn (l m : List Nat) : Qas (l ++ m) = Qas l ++ Qas m := by simp [Qas]
theorem Qqa (l : List Nat) (x : Nat) : Qas l ++ [.int .i64 (x : Int)] = Qas (l ++ [x]) := by simp [Qas]
theorem Qce {l : List Nat} {i : Nat} (h : i < l.length) : (Qas l)[i]? = some (.int .i64 ((l.getD i 0 : Nat) : Int)) := by
 simp [Qas, List.getElem?_eq_getElem h, List.getD_eq_getElem?_getD]
theorem Qes (l : List Nat) (i v : Nat) : (Qas l).set i (.int .i64 (v : Int)) = Qas (l.set i v) := by simp [Qas, List.map_set]
theorem Qi5 (l : List Nat) (k : Nat) : (Qas l).take k = Qas (l.take k) := by simp [Qas]
theorem Qqb (l : List Nat) (k : Nat) : (Qas l).drop k = Qas (l.drop k) := by simp [Qas]
theorem Qdy (l : List Nat) : ∀ u ∈ Qas l, u.oneCell' = true := by
 intro u hu
 obtain ⟨b, _, rfl⟩ := List.mem_map.1 hu
 rfl
theorem Qea {w : World} {p : Addr} {l : List Nat} {n : Nat} (h : RS w (some p) n 1 (Qas l)) {i : Nat} (hi : i < l.length) : w.cell? (p.add i) = some (.int .i64 ((l.getD i 0 : Nat) : Int)) :=
 h.2.2 p rfl i _ (Qce hi)
section
variable {P : Program} {w w0 : World} {B : List Nat} {G : List Res}
theorem Qd5 (hH : Heap w0 B w G) (i : Nat) {T E ty : TypeId} {bytes : Nat} {z : Value} {a : Option Addr} {cap : Nat} {o : List Nat} (k : Nat) {n : Int} {C : Value -> World -> Prop}
  (hi : G[i]? = some (Res.row E 1 a o.length cap (Qas o))) (hu : P.underlying T = some (.slice E)) (hz : (P.info? E).map (fun i => (i.zero.map Value.cells, i.size, i.bytes)) = some (some #[z], 1, bytes)) (hn : n = k)
  (hb : cap < (o ++ [k]).length -> (o ++ [k]).length * bytes <= 140737488355328 /\ (o ++ [k]).length <= 9223372036854775807)
  (h : ∀ a' cap' w', ((o ++ [k]).length <= cap -> a' = a /\ cap' = cap) -> Heap w0 B w' (G.set i (Res.row E 1 a' (o ++ [k]).length cap' (Qas (o ++ [k])))) -> C (.slice a' (o ++ [k]).length cap') w') :
  AppK P #[T, T] ty [.slice a o.length cap, .slice (some ⟨w.heap.size, 0, none⟩) 1 1] (w.alloc (.cells [Value.int .i64 n].toArray E)) C := by
 subst hn
 have e : o.length + 1 = (o ++ [k]).length := by simp
 refine Qjl hH i hi hu hz rfl (by rw [e];exact hb) fun a' cap' w' hc hH' => ?_
 rw [Qqa, e] at hH'
 rw [e] at hc ⊢
 exact h a' cap' w' hc hH'
end
theorem Qii {l : List Nat} {i : Nat} (h : i < l.length) : maxL (l.take (i + 1)) = max (maxL (l.take i)) (l.getD i 0) := by
 rw [Qb3 0 h, maxL, List.foldl_append];rfl
def sumS (l : List Nat) : Nat := if l.length < 2 ∨ 258 < l.length then 0 else if l.all (fun x => decide (1 <= x) && decide (x <= 20)) then Qbc l else 0
theorem Qhq (l : List Nat) (x : Nat) : Qbc (l ++ [x]) = Qbc l + 2 ^ (20 - x) := by rw [Qfu];rfl
theorem Qhr (l : List Nat) : Qbc l <= l.length * 1048576 := by
 induction l with
 | nil => simp [Qbc]
 | cons x l ih =>
  have : 2 ^ (20 - x) <= 2 ^ 20 := Nat.pow_le_pow_right (by omega) (by omega)
  simp only [Qbc, List.length_cons, Nat.succ_mul]
  have e : (2 : Nat) ^ 20 = 1048576 := by decide
  omega
theorem Qnz (l : List Nat) (a : Option Addr) (lc : Nat) (w : World) (hr : RS w a l.length 1 (Qas l)) :
  Does Tryz.prog 149 #[.slice a l.length lc] w fun v w' => w' = w /\ v = .int .i64 (sumS l : Nat) := by
 generalize hres : sumS l = res
 unfold sumS at hres
 refine En [.slice a l.length lc] 33 Tryz.func149 ?_
 generalize hn : l.length = n at *
 refine VS [0] ?_
 refine VQ [0, 13] fun K hK => ?_
 suffices out : ∀ b : Bool, (b = true ↔ (n < 2 ∨ 258 < n)) -> K [(0, .slice a n lc), (13, .bool b)] w by (repeat' (first | exact out _ _ (by first | omega | (simp;done) | (simp;omega)) | exact out _ (by first | omega | (simp;done) | (simp;omega)) | refine ⟨fun _ => ?_, fun _ => ?_⟩ | refine Qo ?_))
 intro b hb
 apply hK;clear hK
 refine Vi (fun h => ?_) (fun h => VC_skip ?_)
 ·
  rw [if_pos (hb.1 h)] at hres
  subst hres
  refine VS [2] ?_
  exact VC_ret (VX_ret1 rfl rfl ⟨rfl, rfl⟩)
 have hg : ¬ (n < 2 ∨ 258 < n) := fun h2 => by have := hb.2 h2;simp_all
 rw [if_neg hg] at hres
 clear hb h
 obtain ⟨p, rfl⟩ := Qbe hr (by omega)
 refine VS [0, 3] ?_
 refine VS [3, 14, 15, 16] ?_
 refine Qaf ?_
 refine Qae [3, 14, 15, 16] (fun m e w' => ∃ (i : Nat), Is e [(3, .int .i64 (Qbc (l.take i) : Nat)), (14, .slice (some p) n lc), (15, .int .i64 n), (16, .int .i64 i)] /\ Is w' w /\ i <= n /\ (l.take i).all (fun x => decide (1 <= x) && decide (x <= 20)) = true /\ m = n - i) n ?_ ?_
 ·
  refine Qs ?_
  exact ⟨0, rfl, rfl, by omega, by simp, rfl⟩
 rintro m e w' ⟨i, rfl, rfl, hi, hall, rfl⟩
 refine VS [3, 14, 15, 16, 17] ?_
 (repeat refine Qay ?_)
 refine VD (fun h => ?_) (fun h => ?_)
 ·
  have hcell := Qea hr (i := i) (by omega)
  have htk := Qb3 0 (l := l) (i := i) (by omega)
  have hks := Qhq (l.take i) (l.getD i 0)
  rw [<- htk] at hks
  have hmem := Qbl 0 (l := l) (i := i) (by omega)
  have hkl := Qhr (l.take i)
  have hlt : (l.take i).length <= 258 := by rw [List.length_take];omega
  generalize hx : l.getD i 0 = x at *
  refine VC_skip ?_
  refine VB ?_
  refine VQ [3, 5, 14, 15, 16] fun K hK => ?_
  refine ⟨⟨by omega, by omega⟩, _, hcell, ?_⟩
  apply hK;clear hK
  refine VQ [3, 5, 14, 15, 16, 25] fun K hK => ?_
  suffices out : ∀ b : Bool, (b = true ↔ (x < 1 ∨ 20 < x)) -> K [(3, .int .i64 (Qbc (l.take i) : Nat)), (5, .int .i64 x), (14, .slice (some p) n lc), (15, .int .i64 n), (16, .int .i64 i), (25, .bool b)] w' by (repeat' (first | exact out _ _ (by first | omega | (simp;done) | (simp;omega)) | exact out _ (by first | omega | (simp;done) | (simp;omega)) | refine ⟨fun _ => ?_, fun _ => ?_⟩ | refine Qo ?_))
  intro b hb
  apply hK;clear hK
  refine Vi (fun h => ?_) (fun h => VC_skip ?_)
  ·
   have hb1 := hb.1 h
   have : l.all (fun x => decide (1 <= x) && decide (x <= 20)) = false := by
    rw [List.all_eq_false]
    exact ⟨x, hmem, by simp;omega⟩
   rw [this, if_neg (by simp)] at hres
   subst hres
   refine VS [2] ?_
   exact VC_ret (VX_ret1 rfl rfl ⟨rfl, rfl⟩)
  have hg2 : ¬ (x < 1 ∨ 20 < x) := fun h2 => by have := hb.2 h2;simp_all
  clear hb h
  have hsh : shN IntKind.i64 (20 - (x : Int)) = 20 - x := Qvb (by omega) (by simp [IntKind.bits];omega)
  have hp2 : 2 ^ (20 - x) <= 2 ^ 20 := Nat.pow_le_pow_right (by omega) (by omega)
  have hp3 : 2 ^ (20 - x) <= 1048576 := hp2
  have hp : (1 : Int) * 2 ^ (20 - x) = ((2 ^ (20 - x) : Nat) : Int) := by push_cast;exact Int.one_mul _
  refine VQ [3, 14, 15, 16] fun K hK => ?_
  rw [hsh, hp]
  clear hp hp2 hsh
  generalize 2 ^ (20 - x) = pw at *
  (repeat first | refine Qo ?_ | refine Qp ?_)
  rw [show ((Qbc (l.take i) : Nat) : Int) + pw = ((Qbc (l.take (i + 1)) : Nat) : Int) by rw [hks];omega]
  apply hK;clear hK
  refine Qam ?_
  refine VS [3, 14, 15, 16] ?_
  refine Qab ?_
  refine Qs ?_
  refine ⟨n - (i + 1), by omega, i + 1, rfl, rfl, by omega, ?_, rfl⟩
  rw [htk, List.all_append, hall]
  simp;omega
 ·
  obtain rfl : i = n := by omega
  rw [List.take_of_length_le (by omega)] at hall ⊢
  rw [if_pos hall] at hres
  refine Qag rfl ?_
  refine VS [2] ?_
  exact VC_ret (VX_ret1 rfl rfl ⟨rfl, by rw [hres]⟩)
theorem Qys (l : List Nat) : okLB l = true ↔ ¬ (sumS l = 0 ∨ 1048576 < sumS l) := by
 unfold sumS okLB
 by_cases h1 : l.length < 2 ∨ 258 < l.length
 ·
  rw [if_pos h1];simp;omega
 ·
  rw [if_neg h1]
  cases h2 : l.all (fun x => decide (1 <= x) && decide (x <= 20)) with
  | false => simp
  | true =>
   have hpos : 0 < Qbc l := by
    cases l with
    | nil => simp at h1
    | cons x l => have := Nat.two_pow_pos (20 - x);simp only [Qbc];omega
   simp;omega
theorem Qd6 (l : List Nat) (a : Option Addr) (lc : Nat) (w : World) (hr : RS w a l.length 1 (Qas l)) :
  Does Tryz.prog 103 #[.slice a l.length lc] w fun v w' => w' = w /\ v = .int .i64 (if okLB l = true then 0 else 80) := by
 have hc := Qnz l a lc w hr
 have hs := Qys l
 refine En [.slice a l.length lc] 12 Tryz.func103 ?_
 generalize sumS l = n at *
 refine VS [0] ?_
 refine VQ [3] fun K hK => ?_
 refine MemK_call Tryz.call149 ?_;refine Qs ?_;refine CallK.mk hc ?_
 rintro v w2 ⟨rfl, rfl⟩
 apply hK;clear hK
 refine VQ [11] fun K hK => ?_
 suffices out : ∀ b : Bool, (b = true ↔ (n = 0 ∨ 1048576 < n)) -> K [(11, .bool b)] w2 by (repeat' (first | exact out _ _ (by first | omega | (simp;done) | (simp;omega)) | exact out _ (by first | omega | (simp;done) | (simp;omega)) | refine ⟨fun _ => ?_, fun _ => ?_⟩ | refine Qo ?_))
 intro b hb
 apply hK;clear hK
 refine Vi (fun h => ?_) (fun h => VC_skip ?_)
 ·
  have h2 := hb.1 h
  refine VS [2] ?_
  exact VC_ret (VX_ret1 rfl rfl ⟨rfl, by rw [if_neg (fun h3 => hs.1 h3 h2)]⟩)
 have hg : ¬ (n = 0 ∨ 1048576 < n) := fun h2 => by have := hb.2 h2;simp_all
 refine VS [2] ?_
 exact VC_ret (VX_ret1 rfl rfl ⟨rfl, by rw [if_pos (hs.2 hg)]⟩)
theorem Qyt {w : World} {KV : Value -> Prop} (a : Option Addr) (n c n' c' : Nat) (xo yo : Operand) : vBinO Tryz.prog .eql 36 xo yo (.slice a n c) (.slice none n' c') w KV = KV (.bool a.isNone) := Qua Tryz.underlying36 a n c n' c' xo yo
attribute [go_sem] Qyt
set_option maxHeartbeats 2000000
theorem Qqc (l : List Nat) (hl : l.length <= 1000000) (hx : ∀ x ∈ l, x <= 1000000) (a : Option Addr) (lc : Nat) (w : World) (hr : RS w a l.length 1 (Qas l)) :
  Does Tryz.prog 155 #[.slice a l.length lc] w fun v w' => w' = w /\ v = .int .i64 (if okLB l = true then (Qbc l : Int) else -1) := by
 generalize hn : l.length = n at *
 refine En [.slice a n lc] 45 Tryz.func155 ?_
 refine VS [0] ?_
 refine VS [0, 3] ?_
 refine VS [0, 3, 4] ?_
 refine Qaf ?_
 refine Qae [0, 3, 4] (fun m e w' => ∃ (i : Nat), Is e [(0, .slice a n lc), (3, .int .i64 (Qbc (l.take i) : Nat)), (4, .int .i64 i)] /\ Is w' w /\ i <= n /\ (l.take i).all (fun x => decide (1 <= x) && decide (x <= 20)) = true /\ m = n - i) n ?_ ?_
 ·
  refine Qs ?_
  exact ⟨0, rfl, rfl, by omega, by simp, rfl⟩
 rintro m e w' ⟨i, rfl, rfl, hi, hall, rfl⟩
 refine VS [0, 3, 4, 8] ?_
 refine VD (fun h => ?_) (fun h => ?_)
 ·
  obtain ⟨p, rfl⟩ := Qbe hr (by omega)
  have hcell := Qea hr (i := i) (by omega)
  have htk := Qb3 0 (l := l) (i := i) (by omega)
  have hks := Qhq (l.take i) (l.getD i 0)
  rw [<- htk] at hks
  have hmem := Qbl 0 (l := l) (i := i) (by omega)
  have hkl := Qhr (l.take i)
  have hlt : (l.take i).length <= 1000000 := by rw [List.length_take];omega
  have hx1 := hx _ hmem
  generalize hx : l.getD i 0 = x at *
  refine VC_skip ?_
  refine VB ?_
  refine VQ [0, 3, 4, 22] fun K hK => ?_
  refine ⟨⟨by omega, by omega⟩, _, hcell, ?_⟩
  (try refine Qs ?_)
  suffices out : ∀ b : Bool, (b = true ↔ (x < 1 ∨ 20 < x)) -> K [(0, .slice (some p) n lc), (3, .int .i64 (Qbc (l.take i) : Nat)), (4, .int .i64 i), (22, .bool b)] w' by
   refine ⟨fun h3 => ?_, fun h3 => out _ (by simp at h3 ⊢;omega)⟩
   refine ⟨⟨by omega, by omega⟩, _, hcell, ?_⟩
   (try refine Qs ?_)
   exact out _ (by simp at h3 ⊢;omega)
  intro b hb
  apply hK;clear hK
  refine Vi (fun h => ?_) (fun h => VC_skip ?_)
  ·
   have hb1 := hb.1 h
   have : okLB l = false := by
    have h3 : l.all (fun x => decide (1 <= x) && decide (x <= 20)) = false := by
     rw [List.all_eq_false]
     exact ⟨x, hmem, by simp;omega⟩
    unfold okLB
    rw [h3];simp
   refine VS [2] ?_
   refine VC_ret (VX_ret1 rfl rfl ⟨rfl, ?_⟩)
   rw [this];rfl
  have hg2 : ¬ (x < 1 ∨ 20 < x) := fun h2 => by have := hb.2 h2;simp_all
  clear hb h
  have hsh : shN IntKind.i64 ((20 - (x : Int)) % 18446744073709551616) = 20 - x := Qnj (by omega) (by simp [IntKind.bits];omega) (by decide)
  have hp2 : 2 ^ (20 - x) <= 2 ^ 20 := Nat.pow_le_pow_right (by omega) (by omega)
  have hp3 : 2 ^ (20 - x) <= 1048576 := hp2
  have hp : (1 : Int) * 2 ^ (20 - x) = ((2 ^ (20 - x) : Nat) : Int) := by push_cast;exact Int.one_mul _
  refine VQ [0, 3, 4] fun K hK => ?_
  refine ⟨⟨by omega, by omega⟩, _, hcell, ?_⟩
  (try refine Qs ?_)
  rw [hsh, hp]
  clear hp hp2 hsh
  generalize 2 ^ (20 - x) = pw at *
  (repeat first | refine Qo ?_ | refine Qp ?_)
  rw [show ((Qbc (l.take i) : Nat) : Int) + pw = ((Qbc (l.take (i + 1)) : Nat) : Int) by rw [hks];omega]
  apply hK;clear hK
  refine Qam ?_
  refine VS [0, 3, 4] ?_
  refine Qab ?_
  refine Qs ?_
  refine ⟨n - (i + 1), by omega, i + 1, rfl, rfl, by omega, ?_, rfl⟩
  rw [htk, List.all_append, hall]
  simp;omega
 ·
  obtain rfl : i = n := by omega
  have htl : l.take i = l := List.take_of_length_le (by omega)
  rw [htl] at hall ⊢
  refine Qag rfl ?_
  have hok : okLB l = true ↔ 2 <= i /\ i <= 258 /\ Qbc l <= 1048576 := by
   unfold okLB
   rw [hall, hn];simp [and_assoc]
  have hkl := Qhr l
  rw [hn] at hkl
  refine VQ [3, 43] fun K hK => ?_
  suffices out : ∀ b : Bool, (b = true ↔ ¬ (2 <= i /\ i <= 258 /\ Qbc l <= 1048576)) -> K [(3, .int .i64 (Qbc l : Nat)), (43, .bool b)] w' by (repeat' (first | exact out _ _ (by first | omega | (simp;done) | (simp;omega)) | exact out _ (by first | omega | (simp;done) | (simp;omega)) | refine ⟨fun _ => ?_, fun _ => ?_⟩ | refine Qo ?_))
  intro b hb
  apply hK;clear hK
  refine Vi (fun h => ?_) (fun h => VC_skip ?_)
  ·
   have hb1 := hb.1 h
   refine VS [2] ?_
   refine VC_ret (VX_ret1 rfl rfl ⟨rfl, ?_⟩)
   rw [if_neg fun h3 => hb1 (hok.1 h3)]
  have hb1 : okLB l = true := hok.2 (Decidable.not_not.1 fun h3 => by rw [hb.2 h3] at h;cases h)
  refine VS [2] ?_
  refine VC_ret (VX_ret1 rfl rfl ⟨rfl, ?_⟩)
  rw [if_pos hb1]
theorem Qhs (l : List Nat) (hl : l.length <= 1000000) (hx : ∀ x ∈ l, x <= 1000000) (a : Option Addr) (lc : Nat) (w : World) (hr : RS w a l.length 1 (Qas l)) :
  Does Tryz.prog 111 #[.slice a l.length lc] w fun v w' => w' = w /\ v = .int .i64 (if okLB l = true then 0 else 80) := by
 have hc := Qqc l hl hx a lc w hr
 refine En [.slice a l.length lc] 6 Tryz.func111 ?_
 refine VS [0] ?_
 refine VQ [5] fun K hK => ?_
 refine MemK_call Tryz.call155 ?_;refine Qs ?_;refine CallK.mk hc ?_
 rintro v w2 ⟨rfl, rfl⟩
 (try refine Qs ?_)
 apply hK;clear hK
 refine VD (fun h => ?_) (fun h => VC_skip ?_)
 ·
  refine VS [2] ?_
  refine VC_ret (VX_ret1 rfl rfl ⟨rfl, ?_⟩)
  by_cases hb : okLB l = true
  ·
   rw [if_pos hb] at h;omega
  ·
   rw [if_neg hb]
 ·
  refine VS [2] ?_
  refine VC_ret (VX_ret1 rfl rfl ⟨rfl, ?_⟩)
  by_cases hb : okLB l = true
  ·
   rw [if_pos hb]
  ·
   rw [if_neg hb] at h;omega
def wr (g : Nat) (a : Option Addr) (cap : Nat) (l : List Bool) : Res :=
 Res.pair (Res.blk g 123 [.slice a (textB l).length cap, .int .i64 l.length]) (Res.row 5 1 a (textB l).length cap (bytesV (textB l)))
theorem Qij (w : World) : Does Tryz.prog 35 #[] w fun v w' => ∃ g, Heap w [] w' [wr g none 0 []] /\ v = .pointer (some ⟨g, 0, none⟩) := by
 refine En [] 3 Tryz.func35 ?_
 refine VS [] ?_
 refine VQ [0] fun K hK => ?_
 refine Qc0 ?_
 refine Qs ?_
 have hH := (Qd2 (w := w) (E := 5) (sz := 1)).box 123 [.slice none 0 0, .int .i64 0]
 generalize w.alloc (Obj.cells [Value.slice none 0 0, .int .i64 0].toArray 123) = w1 at *
 apply hK;clear hK
 refine VC_ret (VX_ret1 rfl rfl ?_)
 exact ⟨_, hH.pair, rfl⟩
theorem Qug (g : Nat) (a : Option Addr) (cap : Nat) (l : List Bool) (v : Nat) (n : Nat) (w : World) (hn : n <= 64) (hv : v < 2 ^ n) (hl : l.length <= 100000000000000)
  (hL : Heap w (wr g a cap l).foot w [wr g a cap l]) : Does Tryz.prog 36 #[.pointer (some ⟨g, 0, none⟩), .int .u64 v, .int .i64 n] w fun x w' => ∃ a' cap', Heap w (wr g a cap l).foot w' [wr g a' cap' (l ++ bitsN n v)] /\ x = .int .i64 0 := by
 have hv64 : v < 18446744073709551616 := Nat.lt_of_lt_of_le hv (Nat.pow_le_pow_right (n := 2) (by omega) hn)
 have hdiv : v / 2 ^ n = 0 := Nat.div_eq_of_lt hv
 refine En [.pointer (some ⟨g, 0, none⟩), .int .u64 v, .int .i64 n] 81 Tryz.func36 ?_
 refine VS [0, 1, 2] ?_
 refine VS [0, 1, 2, 9] ?_
 refine Qaa rfl rfl (fun h => by cases h) (fun h => VC_skip ?_)
 refine VQ [0, 1, 2, 26] fun K hK => ?_
 have hsh : shN IntKind.u64 ((n : Int) % 18446744073709551616) = n := by
  rw [Int.emod_eq_of_lt (by omega) (by omega), shN, show IntKind.u64.bits = 64 from rfl];omega
 have hdv : (v : Int) / 2 ^ n = 0 := by
  have e : ((2 : Int) ^ n) = ((2 ^ n : Nat) : Int) := by push_cast;rfl
  rw [e, <- Int.natCast_ediv, hdiv];rfl
 rw [hsh, hdv]
 suffices out : ∀ b : Bool, (b = true ↔ False) -> K [(0, .pointer (some ⟨g, 0, none⟩)), (1, .int .u64 v), (2, .int .i64 n), (26, .bool b)] w by (repeat' (first | exact out _ _ (by first | omega | (simp;done) | (simp;omega)) | exact out _ (by first | omega | (simp;done) | (simp;omega)) | refine ⟨fun _ => ?_, fun _ => ?_⟩ | refine Qo ?_))
 intro b hb
 apply hK;clear hK
 refine Qaa rfl rfl (fun h => (hb.1 h).elim) (fun h => VC_skip ?_)
 refine VS [0, 1, 7] ?_
 refine VB ?_
 refine Qae [0, 1, 7] (fun m e w' => ∃ (k : Nat) (i : Int) (a' : Option Addr) (cap' : Nat), Is e [(0, .pointer (some ⟨g, 0, none⟩)), (1, .int .u64 v), (7, .int .i64 i)] /\ Heap w (wr g a cap l).foot w' [wr g a' cap' (l ++ (bitsN n v).take k)] /\ k <= n /\ i = (n : Int) - 1 - k /\ m = n - k) n ?_ ?_
 ·
  refine Qs ?_
  exact ⟨0, _, a, cap, rfl, by simpa using hL, by omega, by omega, rfl⟩
 rintro m e w1 ⟨k, i, a1, cap1, rfl, hH, hk, hi, rfl⟩
 refine VS [0, 1, 7, 30] ?_
 refine VD (fun h => ?_) (fun h => ?_)
 ·
  refine VC_skip ?_
  refine VB ?_
  have htk := Qhm n v k (by omega)
  have hlen : (l ++ (bitsN n v).take k).length = l.length + k := by rw [List.length_append, List.length_take, Qat];omega
  generalize hl1 : l ++ (bitsN n v).take k = l1 at *
  have htl := Qbh l1
  have hH1 := hH.unpair
  refine VQ [0, 1, 7, 38] fun K hK => ?_
  (repeat first | refine Qo ?_ | refine Qp ?_ | (refine Gc hH1 ?_;(try refine Qs ?_)))
  apply hK;clear hK
  (repeat refine Qay ?_)
  refine Qe3 [0, 1, 7] (fun e w' => ∃ a2 cap2, Is e [(0, .pointer (some ⟨g, 0, none⟩)), (1, .int .u64 v), (7, .int .i64 i)] /\ Heap w (wr g a cap l).foot w' [Res.row 5 1 a2 (textB (l1 ++ [false])).length cap2 (bytesV (textB (l1 ++ [false]))), Res.blk g 123 [.slice a2 (textB (l1 ++ [false])).length cap2, .int .i64 l1.length]]) ?_ ?_
  ·
   refine VD (fun h => ?_) (fun h => VC_skip ?_)
   ·
    have e1 : textB (l1 ++ [false]) = textB l1 ++ [0] := by rw [Qhl, if_pos (by omega)]
    refine VQ [0, 1, 7] fun K hK => ?_
    (repeat first | refine Qo ?_ | refine Qp ?_ | (refine Gc hH1 ?_;(try refine Qs ?_)))
    refine Qa6 (xs := [.const (.int .u8 0)]) Tryz.underlying43 sz5 rfl rfl rfl (by omega) ?_;refine Qs ?_;refine ⟨by simp [Value.cells], ?_⟩
    refine Qai ?_;refine Qs ?_;refine Qc1 hH1 1 (0) rfl Tryz.underlying43 zi5 (by first | rfl | (simp;done) | omega) (fun h => by (first | omega | (simp;done) | (simp;omega))) fun a' cap' w5 hc' hH2 => ?_;(try refine Qs ?_)
    rw [<- e1] at hH2 ⊢
    refine Qac ?_;refine Qs ?_;refine Qad hH2 0 (vs := [.slice a' (textB (l1 ++ [false])).length cap']) rfl rfl (by kernel_rfl) (by first | decide | (simp;done) | (simp;omega)) (by simp [Value.oneCell']) fun w6 hH3 => ?_;(try refine Qs ?_)
    apply hK;clear hK
    refine Qab ?_
    refine Qs ?_
    exact ⟨_, _, rfl, hH3.perm (List.Perm.swap _ _ _)⟩
   ·
    have e1 : textB (l1 ++ [false]) = textB l1 := by rw [Qhl, if_neg (by omega)]
    rw [e1]
    refine Qab ?_
    refine Qs ?_
    exact ⟨_, _, rfl, hH1.perm (List.Perm.swap _ _ _)⟩
  clear hH hH1
  rintro e w2 ⟨a2, cap2, rfl, hH⟩
  generalize hb : v.testBit (n - 1 - k) = b at htk
  have hi2 : i = ((n - 1 - k : Nat) : Int) := by omega
  have hsh2 : shN IntKind.u64 (i % 18446744073709551616) = n - 1 - k := by
   rw [hi2, Int.emod_eq_of_lt (by omega) (by omega), shN, show IntKind.u64.bits = 64 from rfl];omega
  have hsh3 : (v : Int) / 2 ^ (n - 1 - k) = ((v / 2 ^ (n - 1 - k) : Nat) : Int) := by
   rw [Int.natCast_ediv];push_cast;rfl
  have hle : v / 2 ^ (n - 1 - k) <= v := Nat.div_le_self _ _
  have hbit := Qdg v (n - 1 - k)
  rw [hb] at hbit
  refine VQ [0, 1, 7, 53] fun K hK => ?_
  rw [hsh2, hsh3]
  clear hsh3
  generalize v / 2 ^ (n - 1 - k) = q at *
  (repeat first | refine Qo ?_ | refine Qp ?_ | (refine Gc hH ?_;(try refine Qs ?_)))
  rw [show Int.toNat 1 = 1 from rfl, Int.toNat_natCast, Nat.and_one_is_mod, hbit]
  apply hK;clear hK
  (repeat refine Qay ?_)
  refine Qe3 [0, 1, 7] (fun e w' => Is e [(0, .pointer (some ⟨g, 0, none⟩)), (1, .int .u64 v), (7, .int .i64 i)] /\ Heap w (wr g a cap l).foot w' [Res.row 5 1 a2 (textB (l1 ++ [b])).length cap2 (bytesV (textB (l1 ++ [b]))), Res.blk g 123 [.slice a2 (textB (l1 ++ [b])).length cap2, .int .i64 l1.length]]) ?_ ?_
  ·
   cases b with
   | false =>
    refine Qaa rfl rfl (fun h => by simp at h) (fun h => VC_skip ?_)
    refine Qab ?_
    refine Qs ?_
    exact ⟨rfl, hH⟩
   | true =>
    refine Qaa rfl rfl (fun h => ?_) (fun h => by simp at h)
    have hol : (textB (l1 ++ [false])).length = (l1.length + 8) / 8 := by rw [Qbh, List.length_append];rfl
    have hlen2 : (textB (l1 ++ [true])).length = (textB (l1 ++ [false])).length := by rw [Qbh, Qbh];simp
    have htrue := Qp6 l1
    generalize textB (l1 ++ [true]) = o2 at *
    generalize textB (l1 ++ [false]) = o at *
    obtain ⟨ga, rfl⟩ := Qfa (hH.at 0 rfl) (by omega)
    have hsh4 : shN IntKind.u8 (((l1.length : Int) % 8) % 18446744073709551616) = l1.length % 8 := Qnj (by omega) (by simp [IntKind.bits];omega) (by decide)
    refine VL [0, 1, 7] 20 fun K hK => ?_
    (repeat first | refine Qo ?_ | refine Qp ?_ | (refine Gc hH ?_;(try refine Qs ?_)))
    have e1 : ((l1.length : Int) / 8).toNat = l1.length / 8 := by omega
    rw [hsh4, e1, show (128 : Int) / 2 ^ (l1.length % 8) = ((128 / 2 ^ (l1.length % 8) : Nat) : Int) from Qfn 128 _]
    have hm128 : 128 / 2 ^ (l1.length % 8) <= 128 := Nat.div_le_self _ _
    have hx256 := (o.getD (l1.length / 8) 0).toNat_lt
    generalize hmm : 128 / 2 ^ (l1.length % 8) = mm at *
    have hy : (UInt8.ofNat ((o.getD (l1.length / 8) 0).toNat ||| mm)).toNat = (o.getD (l1.length / 8) 0).toNat ||| mm :=
     ofNat_toNat (Nat.or_lt_two_pow (n := 8) hx256 (by omega))
    have ho2 := htrue _ hy
    rw [Int.toNat_natCast, <- hy]
    generalize (UInt8.ofNat ((o.getD (l1.length / 8) 0).toNat ||| mm)) = y at *
    refine ⟨⟨by omega, by omega⟩, ⟨by omega, by omega⟩, ⟨by omega, by omega⟩, ?_⟩
    refine Qac ?_;refine Qs ?_;refine Qbz hH 0 (o := (l1.length / 8)) (vs := [.int .u8 y.toNat]) rfl (by first | exact (Qdn _ _ _).symm | rfl | simp [Qdn]) rfl (by kernel_rfl) (by first | omega | (simp;done) | (simp;omega) | (simp [bytesV, Qal];omega) | (rw [natsV_len];simp;omega)) (by simp [Value.oneCell']) fun w6 hH2 => ?_;(try refine Qs ?_)
    simp only [List.length_singleton, Qc4 (bytesV o) _ _ (show l1.length / 8 < (bytesV o).length by rw [Qc8];omega), Qgd, <- ho2, List.set_cons_zero] at hH2
    apply hK;clear hK
    refine Qab ?_
    refine Qs ?_
    rw [hlen2]
    exact ⟨rfl, hH2⟩
  clear hH
  rintro e w3 ⟨rfl, hH⟩
  refine VQ [0, 1, 7] fun K hK => ?_
  (repeat first | refine Qo ?_ | refine Qp ?_ | (refine Gc hH ?_;(try refine Qs ?_)))
  refine Qac ?_;refine Qs ?_;refine Qad hH 1 (vs := [.int .i64 (l1.length + 1)]) rfl rfl (by kernel_rfl) (by first | decide | (simp;done) | (simp;omega)) (by simp [Value.oneCell']) fun w6 hH2 => ?_;(try refine Qs ?_)
  apply hK;clear hK
  refine Qam ?_
  refine VS [0, 1, 7] ?_
  refine Qab ?_
  refine Qs ?_
  refine ⟨n - (k + 1), by omega, k + 1, i - 1, a2, cap2, rfl, ?_, by omega, by omega, rfl⟩
  rw [htk, <- List.append_assoc, hl1]
  have hH3 := (hH2.perm (List.Perm.swap _ _ _)).pair
  have e : wr g a2 cap2 (l1 ++ [b]) = Res.pair (Res.blk g 123 [.slice a2 (textB (l1 ++ [b])).length cap2, .int .i64 (l1.length + 1)]) (Res.row 5 1 a2 (textB (l1 ++ [b])).length cap2 (bytesV (textB (l1 ++ [b])))) := by simp [wr]
  rw [e]
  exact hH3
 ·
  refine Qag rfl ?_
  refine VS [6] ?_
  refine VC_ret (VX_ret1 rfl rfl ?_)
  have e : (bitsN n v).take k = bitsN n v := List.take_of_length_le (by rw [Qat];omega)
  rw [e] at hH
  exact ⟨_, _, hH, rfl⟩
theorem Qrt (g : Nat) (a : Option Addr) (cap : Nat) (l : List Bool) (w : World) (hL : (wr g a cap l).holds w) :
  Does Tryz.prog 37 #[.pointer (some ⟨g, 0, none⟩)] w fun x w' => w' = w /\ x = Str (textB l) := by
 obtain ⟨h1, h2, _⟩ := hL
 refine En [.pointer (some ⟨g, 0, none⟩)] 10 Tryz.func37 ?_
 refine VS [0] ?_
 refine VS [0, 4] ?_
 refine Qaa rfl rfl (fun h => by cases h) (fun h => VC_skip ?_)
 refine VQ [2] fun K hK => ?_
 refine ⟨_, Qah h1 rfl, ?_⟩
 refine Qs ?_
 refine ⟨_, Qdz (Qaz h2), ?_⟩
 apply hK;clear hK
 exact VC_ret (VX_ret1 rfl rfl ⟨rfl, rfl⟩)
theorem Quh (g : Nat) (a : Option Addr) (cap : Nat) (l : List Bool) (w : World) (hL : (wr g a cap l).holds w) :
  Does Tryz.prog 38 #[.pointer (some ⟨g, 0, none⟩)] w fun x w' => w' = w /\ x = .int .i64 l.length := by
 obtain ⟨h1, h2, _⟩ := hL
 refine En [.pointer (some ⟨g, 0, none⟩)] 9 Tryz.func38 ?_
 refine VS [0] ?_
 refine VS [0, 4] ?_
 refine Qaa rfl rfl (fun h => by cases h) (fun h => VC_skip ?_)
 refine VQ [2] fun K hK => ?_
 refine ⟨_, Qah h1 rfl, ?_⟩
 apply hK;clear hK
 exact VC_ret (VX_ret1 rfl rfl ⟨rfl, rfl⟩)
def rd (g gs : Nat) (s : List UInt8) (at_ : Nat) : Res :=
 Res.pair (Res.blk g 179 [.func (.func 137) #[] #[.pointer (some ⟨gs, 0, none⟩)], .int .i64 at_, .int .i64 (8 * s.length : Nat)]) (Res.blk gs 9 [Str s])
theorem Qot (s : List UInt8) (gs i : Nat) (w : World) (hi : i < 8 * s.length) (hs : s.length <= 1000000000000000000) (hc : w.cell? ⟨gs, 0, none⟩ = some (Str s)) :
  Does Tryz.prog 137 #[.int .i64 i, .pointer (some ⟨gs, 0, none⟩)] w fun x w' => w' = w /\ x = .int .u64 ((bytesB s).getD i false).toNat := by
 have hb := Qgf s i hi
 have hlt := (s.getD (i / 8) 0).toNat_lt
 have e1 : ((i : Int) / 8).toNat = i / 8 := by omega
 have hsh : shN IntKind.u64 ((7 - (i : Int) % 8) % 18446744073709551616) = 7 - i % 8 := Qnj (by omega) (by simp [IntKind.bits];omega) (by decide)
 have hbit := Qdg (s.getD (i / 8) 0).toNat (7 - i % 8)
 refine En [.int .i64 i, .pointer (some ⟨gs, 0, none⟩)] 15 Tryz.func137 ?_
 refine VS [0, 1] ?_
 refine VQ [3] fun K hK => ?_
 refine ⟨_, hc, ?_⟩
 refine Qs ?_
 (repeat first | refine Qo ?_ | refine Qp ?_)
 rw [hsh, e1, Int.emod_eq_of_lt (by omega) (by omega), Qfn]
 have hle := Nat.div_le_self (s.getD (i / 8) 0).toNat (2 ^ (7 - i % 8))
 generalize (s.getD (i / 8) 0).toNat / 2 ^ (7 - i % 8) = q at *
 (repeat first | refine Qo ?_ | refine Qp ?_)
 rw [show Int.toNat 1 = 1 from rfl, Int.toNat_natCast, Nat.and_one_is_mod, hbit]
 apply hK;clear hK
 have hb2 : (bytesB s).getD i false = (s.getD (i / 8) 0).toNat.testBit (7 - i % 8) := by rw [List.getD_eq_getElem?_getD, hb];rfl
 rw [hb2]
 exact VC_ret (VX_ret1 rfl rfl ⟨rfl, rfl⟩)
theorem Qbj (s : List UInt8) (at_ : Int) (w : World) (ha : I64 at_) (hs : s.length <= 1000000000000000000) :
  Does Tryz.prog 86 #[Str s, .int .i64 at_] w fun v w' =>
   ((at_ < 0 ∨ 8 * (s.length : Int) < at_) /\ Heap w [] w' [] /\ v = .pointer none) ∨ (¬ (at_ < 0 ∨ 8 * (s.length : Int) < at_) /\ ∃ g gs, Heap w [] w' [rd g gs s at_.toNat] /\ v = .pointer (some ⟨g, 0, none⟩)) := by
 obtain ⟨ha1, ha2⟩ := ha
 refine En [Str s, .int .i64 at_] 21 Tryz.func86 ?_
 refine VQ [1, 2] fun K hK => ?_
 refine Qc0 ?_
 refine Qs ?_
 have hH := (Heap.start w).box 9 [Str s]
 generalize w.alloc (Obj.cells [Str s].toArray 9) = w1 at *
 generalize w.heap.size = gs at *
 apply hK;clear hK
 refine VQ [1, 2, 13] fun K hK => ?_
 suffices out : ∀ b : Bool, (b = true ↔ at_ < 0 ∨ 8 * (s.length : Int) < at_) -> K [(1, .int .i64 at_), (2, .pointer (some ⟨gs, 0, none⟩)), (13, .bool b)] w1 by
  refine ⟨fun h => ⟨_, Qah (hH.at 0 rfl) rfl, ?_⟩, fun h => out _ (by simp [h])⟩
  refine Qs ?_
  (repeat' (first | exact out _ _ (by first | omega | (simp;done) | (simp;omega)) | exact out _ (by first | omega | (simp;done) | (simp;omega)) | refine ⟨fun _ => ?_, fun _ => ?_⟩ | refine Qo ?_))
 intro b hb
 apply hK;clear hK
 refine Vi (fun h => ?_) (fun h => VC_skip ?_)
 ·
  refine VS [4] ?_
  exact VC_ret (VX_ret1 rfl rfl (.inl ⟨hb.1 h, hH.sub (by simp), rfl⟩))
 have hg : ¬ (at_ < 0 ∨ 8 * (s.length : Int) < at_) := fun h' => by rw [hb.2 h'] at h;cases h
 clear h hb
 obtain ⟨at_, rfl⟩ : ∃ n : Nat, at_ = n := ⟨at_.toNat, by omega⟩
 refine VQ [4] fun K hK => ?_
 (repeat first | refine Qo ?_ | refine Qp ?_ | (refine Gc hH ?_;(try refine Qs ?_)))
 refine Qc0 ?_
 refine Qs ?_
 have hH2 := hH.box 179 [.func (.func 137) #[] #[.pointer (some ⟨gs, 0, none⟩)], .int .i64 at_, .int .i64 (8 * s.length : Nat)]
 apply hK;clear hK
 refine VC_ret (VX_ret1 rfl rfl (.inr ⟨hg, _, gs, ?_, rfl⟩))
 exact hH2.pair
theorem Qht (g gs at_ : Nat) (s : List UInt8) (w : World) (hL : (rd g gs s at_).holds w) :
  Does Tryz.prog 100 #[.pointer (some ⟨g, 0, none⟩)] w fun x w' => w' = w /\ x = .int .i64 at_ := by
 obtain ⟨h1, h2, _⟩ := hL
 refine En [.pointer (some ⟨g, 0, none⟩)] 9 Tryz.func100 ?_
 refine VS [0] ?_
 refine VS [0, 4] ?_
 refine Qaa rfl rfl (fun h => by cases h) (fun h => VC_skip ?_)
 refine VQ [2] fun K hK => ?_
 refine ⟨_, Qah h1 rfl, ?_⟩
 apply hK;clear hK
 exact VC_ret (VX_ret1 rfl rfl ⟨rfl, rfl⟩)
theorem Qcb (g gs : Nat) (s : List UInt8) (at_ n : Nat) (w : World) (hn : n <= 64) (ha : at_ <= 8 * s.length) (hs : s.length <= 1000000000000000)
  (hL : Heap w (rd g gs s at_).foot w [rd g gs s at_]) : Does Tryz.prog 87 #[.pointer (some ⟨g, 0, none⟩), .int .i64 n] w fun x w' =>
   (8 * s.length < at_ + n /\ w' = w /\ x = .tuple #[.int .u64 0, .int .i64 10]) ∨ (at_ + n <= 8 * s.length /\ Heap w (rd g gs s at_).foot w' [rd g gs s (at_ + n)] /\ x = .tuple #[.int .u64 (numB (((bytesB s).drop at_).take n)), .int .i64 0]) := by
 have hH := hL.unpair
 have hbl := bytesB_length s
 refine En [.pointer (some ⟨g, 0, none⟩), .int .i64 n] 62 Tryz.func87 ?_
 refine VS [0, 1] ?_
 refine VQ [0, 1, 16] fun K hK => ?_
 refine ⟨_, Qah (hH.at 0 rfl) rfl, ?_⟩
 refine Qs ?_
 apply hK;clear hK
 refine Qaa rfl rfl (fun h => by cases h) (fun h => VC_skip ?_)
 refine VQ [0, 1, 22] fun K hK => ?_
 suffices out : ∀ b : Bool, (b = true ↔ False) -> K [(0, .pointer (some ⟨g, 0, none⟩)), (1, .int .i64 n), (22, .bool b)] w by (repeat' (first | exact out _ _ (by first | omega | (simp;done) | (simp;omega)) | exact out _ (by first | omega | (simp;done) | (simp;omega)) | refine ⟨fun _ => ?_, fun _ => ?_⟩ | refine Qo ?_))
 intro b hb
 apply hK;clear hK
 refine Qaa rfl rfl (fun h => (hb.1 h).elim) (fun h => VC_skip ?_)
 clear hb h
 refine Vq [0, 1, 33] fun K hK => ?_
 (repeat first | refine Qo ?_ | refine Qp ?_ | (refine Gc hH ?_;(try refine Qs ?_)))
 apply hK;clear hK
 refine VD (fun h => ?_) (fun h => VC_skip ?_)
 ·
  refine VS [4, 5] ?_
  exact VC_ret (Qaj rfl rfl rfl (.inl ⟨by omega, rfl, rfl⟩))
 refine VS [0, 1, 6] ?_
 refine VS [0, 1, 6, 34, 35] ?_
 refine VB ?_
 refine Qae [0, 1, 6, 34, 35] (fun m e w' => ∃ (k : Nat), Is e [(0, .pointer (some ⟨g, 0, none⟩)), (1, .int .i64 n), (6, .int .u64 (numB (((bytesB s).drop at_).take k))), (34, .int .i64 n), (35, .int .i64 k)] /\ Is w' w /\ k <= n /\ m = n - k) n ?_ ?_
 ·
  refine Qs ?_
  exact ⟨0, rfl, rfl, by omega, rfl⟩
 rintro m e w' ⟨k, rfl, rfl, hk, rfl⟩
 refine VS [0, 1, 6, 34, 35, 36] ?_
 (repeat refine Qay ?_)
 refine VD (fun h => ?_) (fun h => ?_)
 ·
  refine VC_skip ?_
  refine VB ?_
  have hlt := Qba (((bytesB s).drop at_).take k)
  rw [List.length_take, List.length_drop, Nat.min_eq_left (by omega)] at hlt
  have h63 : numB (((bytesB s).drop at_).take k) < 2 ^ 63 := Nat.lt_of_lt_of_le hlt (Nat.pow_le_pow_right (by omega) (by omega))
  have htk := Qb3 false (l := (bytesB s).drop at_) (i := k) (by simp;omega)
  have hnext := Qhk (((bytesB s).drop at_).take k) (((bytesB s).drop at_).getD k false)
  rw [<- htk] at hnext
  have hgd : ((bytesB s).drop at_).getD k false = (bytesB s).getD (at_ + k) false := by simp [List.getD_eq_getElem?_getD]
  rw [hgd] at hnext
  refine VS [0, 1, 6, 7, 34, 35] ?_
  refine VH w' (Ext.refl _) [0, 1, 6, 34, 35] [(0, true), (1, true), (2, true), (3, true), (4, true), (5, true), (6, true), (7, true), (8, true), (9, true), (10, true), (11, true), (12, false), (13, true), (14, true)] fun K hK => ?_
  (repeat first | refine Qo ?_ | refine Qp ?_ | (refine Gc hH ?_;(try refine Qs ?_)))
  have hbd := Qot s gs (at_ + k) w' (by omega) (by omega) (Qah (hH.at 1 rfl) rfl)
  rw [Int.natCast_add] at hbd
  refine Qc9 ?_;refine Qs ?_;refine FnK.mk Tryz.call137 hbd ?_
  rintro v w3 ⟨rfl, rfl⟩
  refine Qs ?_
  refine ⟨Ext.refl _, ?_⟩
  rw [show shN IntKind.u64 1 = 1 from rfl]
  generalize (bytesB s).getD (at_ + k) false = b at *
  have hor : numB (((bytesB s).drop at_).take k) * 2 ||| b.toNat = 2 * numB (((bytesB s).drop at_).take k) + b.toNat := by
   rw [Nat.mul_comm]
   cases b
   ·
    simp
   ·
    exact (Nat.two_pow_add_eq_or_of_lt (i := 1) (b := 1) (by omega) _).symm
  rw [Nat.add_comm] at htk
  generalize numB (((bytesB s).drop at_).take k) = q at *
  have e1 : (q : Int) * 2 ^ 1 % 18446744073709551616 = ((q * 2 : Nat) : Int) := by omega
  rw [e1]
  refine ⟨⟨by omega, by omega⟩, ⟨by cases b <;> simp, by cases b <;> simp⟩, ?_⟩
  simp only [Int.toNat_natCast]
  rw [hor, <- hnext]
  apply hK;clear hK
  refine Qam ?_
  refine VS [0, 1, 6, 34, 35] ?_
  refine Qab ?_
  refine Qs ?_
  exact ⟨n - (k + 1), by omega, k + 1, rfl, rfl, by omega, rfl⟩
 ·
  refine Qag rfl ?_
  refine VQ [6] fun K hK => ?_
  (repeat first | refine Qo ?_ | refine Qp ?_ | (refine Gc hH ?_;(try refine Qs ?_)))
  have hkn : k = n := by omega
  subst hkn
  refine Qac ?_;refine Qs ?_;refine Qad hH 0 (vs := [.int .i64 (at_ + k : Nat)]) rfl rfl (by kernel_rfl) (by first | decide | (simp;done) | (simp;omega)) (by simp [Value.oneCell']) fun w6 hH2 => ?_;(try refine Qs ?_)
  apply hK;clear hK
  refine VS [4, 5] ?_
  exact VC_ret (Qaj rfl rfl rfl (.inr ⟨by omega, hH2.pair, rfl⟩))
theorem Qqd (g gs : Nat) (s : List UInt8) (at_ most : Nat) (w : World) (hm : most <= 1000) (ha : at_ <= 8 * s.length) (hs : s.length <= 1000000000000000)
  (hL : Heap w (rd g gs s at_).foot w [rd g gs s at_]) : Does Tryz.prog 101 #[.pointer (some ⟨g, 0, none⟩), .int .i64 most] w fun x w' =>
   x = .tuple #[.int .i64 (unS ((bytesB s).drop at_) most 0).1, .int .i64 (unS ((bytesB s).drop at_) most 0).2] /\ (((unS ((bytesB s).drop at_) most 0).2 ≠ 0 /\ w' = w) ∨ ((unS ((bytesB s).drop at_) most 0).2 = 0 /\ at_ + (unS ((bytesB s).drop at_) most 0).1 + 1 <= 8 * s.length /\ (unS ((bytesB s).drop at_) most 0).1 <= most /\ Heap w (rd g gs s at_).foot w' [rd g gs s (at_ + (unS ((bytesB s).drop at_) most 0).1 + 1)])) := by
 have hH := hL.unpair
 have hbl := bytesB_length s
 refine En [.pointer (some ⟨g, 0, none⟩), .int .i64 most] 56 Tryz.func101 ?_
 refine VS [0, 1] ?_
 refine VQ [0, 1, 15] fun K hK => ?_
 refine ⟨_, Qah (hH.at 0 rfl) rfl, ?_⟩
 refine Qs ?_
 apply hK;clear hK
 refine Qaa rfl rfl (fun h => by cases h) (fun h => VC_skip ?_)
 refine VS [0, 1, 17] ?_
 refine Qaa rfl rfl (fun h => by simp at h;omega) (fun h => VC_skip ?_)
 refine VS [0, 1, 6] ?_
 refine VB ?_
 generalize hu : unS ((bytesB s).drop at_) most 0 = u at *
 refine Qae [0, 1, 6] (fun m e w' => ∃ (k : Nat), Is e [(0, .pointer (some ⟨g, 0, none⟩)), (1, .int .i64 most), (6, .int .i64 k)] /\ Is w' w /\ k <= most /\ at_ + k <= 8 * s.length /\ unS ((bytesB s).drop (at_ + k)) most k = u /\ m = 8 * s.length - (at_ + k)) (8 * s.length - at_) ?_ ?_
 ·
  refine Qs ?_
  exact ⟨0, rfl, rfl, by omega, by omega, hu, rfl⟩
 rintro m e w' ⟨k, rfl, rfl, hk, hk2, hk3, rfl⟩
 refine Vq [0, 1, 6, 28] fun K hK => ?_
 (repeat first | refine Qo ?_ | refine Qp ?_ | (refine Gc hH ?_;(try refine Qs ?_)))
 apply hK;clear hK
 refine VD (fun h => ?_) (fun h => ?_)
 ·
  refine VC_skip ?_
  refine VB ?_
  have hdr := Qa1 false (l := bytesB s) (i := at_ + k) (by omega)
  rw [hdr] at hk3
  have hbd := Qot s gs (at_ + k) w' (by omega) (by omega) (Qah (hH.at 1 rfl) rfl)
  rw [Int.natCast_add] at hbd
  refine VL [0, 1, 6, 42] 10 fun K hK => ?_
  (repeat first | refine Qo ?_ | refine Qp ?_ | (refine Gc hH ?_;(try refine Qs ?_)))
  refine Qc9 ?_;refine Qs ?_;refine FnK.mk Tryz.call137 hbd ?_
  rintro v w3 ⟨rfl, rfl⟩
  refine Qs ?_
  apply hK;clear hK
  generalize (bytesB s).getD (at_ + k) false = b at *
  cases b with
  | false =>
   refine Qaa rfl rfl (fun h => ?_) (fun h => by simp at h)
   rw [unS] at hk3
   subst hk3
   refine VQ [6] fun K hK => ?_
   (repeat first | refine Qo ?_ | refine Qp ?_ | (refine Gc hH ?_;(try refine Qs ?_)))
   refine Qac ?_;refine Qs ?_;refine Qad hH 0 (vs := [.int .i64 (at_ + k + 1 : Nat)]) rfl rfl (by kernel_rfl) (by first | decide | (simp;done) | (simp;omega)) (by simp [Value.oneCell']) fun w6 hH2 => ?_;(try refine Qs ?_)
   apply hK;clear hK
   refine VS [4, 5] ?_
   exact VC_ret (Qaj rfl rfl rfl ⟨rfl, .inr ⟨rfl, by simp only;omega, hk, hH2.pair⟩⟩)
  | true =>
   refine Qaa rfl rfl (fun h => by simp at h) (fun h => VC_skip ?_)
   rw [unS] at hk3
   refine VS [0, 1, 6, 55] ?_
   refine VD (fun h => ?_) (fun h => VC_skip ?_)
   ·
    rw [if_pos (by omega)] at hk3
    subst hk3
    refine VS [4, 5] ?_
    exact VC_ret (Qaj rfl rfl rfl ⟨rfl, .inl ⟨by simp, rfl⟩⟩)
   rw [if_neg (by omega)] at hk3
   refine Qam ?_
   refine VS [0, 1, 6] ?_
   refine Qab ?_
   refine Qs ?_
   exact ⟨8 * s.length - (at_ + (k + 1)), by omega, k + 1, rfl, rfl, by omega, by omega, hk3, rfl⟩
 ·
  refine Qag rfl ?_
  rw [List.drop_of_length_le (by omega), unS] at hk3
  subst hk3
  refine VS [4, 5] ?_
  exact VC_ret (Qaj rfl rfl rfl ⟨rfl, .inl ⟨by simp, rfl⟩⟩)
def bitsV (l : List Bool) : List Value := [Str (textB l), .int .i64 l.length]
def BitsV (l : List Bool) : Value := .agg (bitsV l).toArray
theorem Qru (l : List Bool) (h : l.length % 8 ≠ 0) : ((textB l).getD ((textB l).length - 1) 0).toNat * 2 ^ (l.length % 8) % 256 = 0 := by
 have e : l = l.take (8 * (l.length / 8)) ++ l.drop (8 * (l.length / 8)) := (List.take_append_drop _ _).symm
 have h1 : (l.take (8 * (l.length / 8))).length % 8 = 0 := by rw [List.length_take];omega
 have h2 : (l.drop (8 * (l.length / 8))).length = l.length % 8 := by rw [List.length_drop];omega
 have h3 : textB l = textB (l.take (8 * (l.length / 8))) ++ textB (l.drop (8 * (l.length / 8))) := by
  conv => lhs;rw [e]
  exact Qjt _ _ h1
 generalize l.drop (8 * (l.length / 8)) = m at *
 generalize l.take (8 * (l.length / 8)) = q at *
 have h4 : (textB m).length = 1 := by rw [Qbh, h2];omega
 have h5 := Qb9 m
 match hm : textB m, h4 with
 | [x], _ =>
  rw [h3, hm]
  have : ((textB q ++ [x]).getD ((textB q ++ [x]).length - 1) 0) = x := by simp [List.getD_eq_getElem?_getD]
  rw [this]
  rw [hm, bytesB_cons, Qez, List.append_nil] at h5
  have h6 := congrArg numB h5
  rw [Qda, Qhj, List.length_replicate] at h6
  have hz : numB (List.replicate (8 * ((m.length + 7) / 8) - m.length) false) = 0 := by
   rw [<- Qi0, Qda, Nat.zero_mod]
  rw [hz, h2, Nat.mod_eq_of_lt x.toNat_lt, Nat.add_zero, show 8 * ((l.length % 8 + 7) / 8) - l.length % 8 = 8 - l.length % 8 by omega] at h6
  rw [h6, Nat.mul_assoc, <- Nat.pow_add, show 8 - l.length % 8 + l.length % 8 = 8 by omega]
  exact Nat.mul_mod_left _ _
theorem Qui (l : List Bool) (w : World) (hl : l.length <= 1000000000000000000) : Does Tryz.prog 85 #[BitsV l] w fun x w' => Heap w [] w' [] /\ x = .bool true := by
 have htl := Qbh l
 refine En [BitsV l] 40 Tryz.func85 ?_
 refine VQ [1] fun K hK => ?_
 refine Qc0 ?_
 refine Qs ?_
 have hH := (Heap.start w).box 24 (bitsV l)
 rw [BitsV]
 refine Qs ?_
 generalize w.alloc (Obj.cells (bitsV l).toArray 24) = w1 at *
 apply hK;clear hK
 generalize w.heap.size = g at *
 refine VQ [1, 20] fun K hK => ?_
 (repeat first | refine Qo ?_ | refine Qp ?_ | (refine Gc hH ?_;(try refine Qs ?_)))
 suffices out : ∀ b : Bool, (b = true ↔ False) -> K [(1, .pointer (some ⟨g, 0, none⟩)), (20, .bool b)] w1 by
  refine ⟨fun _ => ?_, fun h => absurd h (by omega)⟩
  (repeat first | refine Qo ?_ | refine Qp ?_ | (refine Gc hH ?_;(try refine Qs ?_)))
  exact out _ (by simp;omega)
 intro b hb
 apply hK;clear hK
 refine Qaa rfl rfl (fun h => (hb.1 h).elim) (fun h => VC_skip ?_)
 clear h hb
 refine Vq [2] fun K hK => ?_
 (repeat first | refine Qo ?_ | refine Qp ?_ | (refine Gc hH ?_;(try refine Qs ?_)))
 suffices out : K [(2, .bool true)] by
  refine ⟨fun h => ?_, fun h => ?_⟩
  ·
   have hlb := Qru l (by omega)
   (repeat first | refine Qo ?_ | refine Qp ?_ | (refine Gc hH ?_;(try refine Qs ?_)))
   have hsh : shN IntKind.u8 (((l.length : Int) % 8) % 18446744073709551616) = l.length % 8 := Qnj (by omega) (by simp [IntKind.bits];omega) (by decide)
   rw [hsh, Qop, show (((textB l).getD ((textB l).length - 1) 0).toNat * 2 ^ (l.length % 8) : Nat) = _ from rfl]
   have e : ((((textB l).getD ((textB l).length - 1) 0).toNat * 2 ^ (l.length % 8) : Nat) : Int) % 256 = 0 := by omega
   rw [e]
   exact out
  ·
   exact out
 apply hK;clear hK
 exact VC_ret (VX_ret1 rfl rfl ⟨hH.sub (by simp), rfl⟩)
def piecesV (ls : List (List Bool)) : List Value := ls.flatMap bitsV
theorem piecesV_length (ls : List (List Bool)) : (piecesV ls).length = ls.length * 2 := by
 induction ls with
 | nil => rfl
 | cons l ls ih => simp only [piecesV, List.flatMap_cons, List.length_append] at ih ⊢;rw [ih];simp [bitsV];omega
theorem Qn0 (ls : List (List Bool)) : ∀ (i : Nat) (l : List Bool), ls[i]? = some l -> ∀ j u, (bitsV l)[j]? = some u -> (piecesV ls)[i * 2 + j]? = some u := by
 induction ls with
 | nil => intro i l h;simp at h
 | cons x ls ih =>
  intro i l h j u hu
  have hj : j < 2 := by have := (List.getElem?_eq_some_iff.1 hu).1;simpa [bitsV] using this
  cases i with
  | zero =>
   simp at h;subst h
   simp only [piecesV, List.flatMap_cons]
   rw [List.getElem?_append_left (by simp [bitsV];omega)]
   simpa using hu
  | succ i =>
   have := ih i l (by simpa using h) j u hu
   simp only [piecesV, List.flatMap_cons] at this ⊢
   rw [List.getElem?_append_right (by simp [bitsV];omega)]
   rw [<- this]
   congr 1
   simp [bitsV];omega
theorem join_does (ls : List (List Bool)) (p : Addr) (hp : p.spot = none) (cap : Nat) (w : World) (hl : RS w (some p) ls.length 2 (piecesV ls)) (hs : ls.flatten.length <= 10000000000000) (hls : ls.length <= 1000000000) :
  Does Tryz.prog 42 #[.slice (some p) ls.length cap] w fun x w' => Heap w [] w' [] /\ x = .tuple #[BitsV ls.flatten, .int .i64 0] := by
 refine En [.slice (some p) ls.length cap] 43 Tryz.func42 ?_
 refine VQ [0, 2] fun K hK => ?_
 refine Qav (.agg #[.string ⟨#[]⟩, .int .i64 0]) (by kernel_rfl) ?_
 refine Qs ?_
 have hH := (Heap.start w).box 24 [.string ⟨#[]⟩, .int .i64 0]
 generalize w.alloc (Obj.cells [Value.string ⟨#[]⟩, .int .i64 0].toArray 24) = w1 at *
 generalize w.heap.size = gr at *
 apply hK;clear hK
 refine VQ [0, 2, 4] fun K hK => ?_
 refine MemK_call Tryz.call35 ?_;refine Qs ?_;refine CallK.mk (Qij w1) ?_
 rintro v w2 ⟨gw, hH2, rfl⟩
 apply hK;clear hK
 have hH3 := hH.call0 hH2
 clear hH hH2
 refine VS [2, 4, 11, 12, 13] ?_
 refine VB ?_
 refine Qae [2, 4, 11, 12, 13] (fun m e w' => ∃ (i : Nat) (a : Option Addr) (c : Nat), Is e [(2, .pointer (some ⟨gr, 0, none⟩)), (4, .pointer (some ⟨gw, 0, none⟩)), (11, .slice (some p) ls.length cap), (12, .int .i64 ls.length), (13, .int .i64 i)] /\ Heap w [] w' [wr gw a c (ls.take i).flatten, Res.blk gr 24 [.string ⟨#[]⟩, .int .i64 0]] /\ i <= ls.length /\ m = ls.length - i) ls.length ?_ ?_
 ·
  refine Qs ?_
  exact ⟨0, none, 0, rfl, hH3, by omega, rfl⟩
 clear hH3
 rintro m e w' ⟨i, a, c, rfl, hH, hi, rfl⟩
 refine VS [2, 4, 11, 12, 13, 14] ?_
 (repeat refine Qay ?_)
 refine VD (fun h => ?_) (fun h => ?_)
 ·
  refine VC_skip ?_
  refine VB ?_
  have hi' : i < ls.length := by omega
  have hli : ls[i]? = some ls[i] := List.getElem?_eq_getElem hi'
  have htk : (ls.take (i + 1)).flatten = (ls.take i).flatten ++ ls[i] := by rw [List.take_add_one, hli, Option.toList_some, List.flatten_append, List.flatten_singleton]
  have hfl : (ls.take (i + 1)).flatten.length <= ls.flatten.length := by
   have : ls.flatten = (ls.take (i + 1)).flatten ++ (ls.drop (i + 1)).flatten := by rw [<- List.flatten_append, List.take_append_drop]
   rw [this];simp
  rw [htk, List.length_append] at hfl
  generalize hlx : ls[i] = l at *
  generalize (ls.take i).flatten = acc at *
  have htl := Qbh l
  have hrd := Qxf (hH.rs' hl) hp (i * 2) (bitsV l) (fun j u hu => Qn0 ls i l hli j u hu)
  refine VQ [2, 4, 6, 11, 12, 13] fun K hK => ?_
  refine ⟨⟨by omega, by omega⟩, bitsV l, ⟨rfl, hrd⟩, ?_⟩
  refine Qav (.agg #[.string ⟨#[]⟩, .int .i64 0]) (by kernel_rfl) ?_
  refine Qs ?_
  have hH1 := hH.box 24 [.string ⟨#[]⟩, .int .i64 0]
  generalize w'.alloc (Obj.cells [Value.string ⟨#[]⟩, .int .i64 0].toArray 24) = w1 at *
  generalize w'.heap.size = gb at *
  refine Qac ?_
  refine Qs ?_
  refine Qad hH1 0 (vs := bitsV l) rfl rfl (by kernel_rfl) (by simp [bitsV]) (by simp [bitsV, Value.oneCell']) fun w2 hH2 => ?_
  have hH2 : Heap w [] w2 [Res.blk gb 24 (bitsV l), wr gw a c acc, Res.blk gr 24 [.string ⟨#[]⟩, .int .i64 0]] := hH2
  clear hH1 hH
  apply hK;clear hK
  refine VQ [2, 4, 6, 11, 12, 13, 19] fun K hK => ?_
  refine ⟨bitsV l, ⟨rfl, Qcc (hH2.at 0 rfl)⟩, ?_⟩
  refine MemK_call Tryz.call85 ?_;refine Qs ?_;refine CallK.mk (Qui l w2 (by omega)) ?_
  rintro v w3 ⟨hHm, rfl⟩
  refine Qs ?_
  apply hK;clear hK
  have hH3 := hH2.call0 hHm
  clear hH2 hHm
  refine Qaa rfl rfl (fun h => by simp at h) (fun h => VC_skip ?_)
  refine VQ [2, 4, 6, 7, 11, 12, 13] fun K hK => ?_
  (repeat first | refine Qo ?_ | refine Qp ?_ | (refine Gc hH3 ?_;(try refine Qs ?_)))
  refine MemK_call Tryz.call86 ?_;refine Qs ?_;refine CallK.mk (Qbj (textB l) 0 w3 (I64.mk (by omega) (by omega)) (by omega)) ?_
  rintro v w4 (⟨hbad, _⟩ | ⟨_, grd, gs, hHr, rfl⟩)
  ·
   exact absurd hbad (by omega)
  apply hK;clear hK
  have hH4 := hH3.call0 hHr
  clear hH3 hHr
  refine VQ [2, 4, 7, 11, 12, 13, 25, 26] fun K hK => ?_
  (repeat first | refine Qo ?_ | refine Qp ?_ | (refine Gc hH4 ?_;(try refine Qs ?_)))
  apply hK;clear hK
  have hH5 : Heap w [] w4 [rd grd gs (textB l) 0, wr gw a c acc, Res.blk gr 24 [.string ⟨#[]⟩, .int .i64 0]] := hH4.sub (by simp)
  clear hH4
  refine VB ?_
  refine Qae [2, 4, 7, 11, 12, 13, 25, 26] (fun m e w' => ∃ (k : Nat) (a : Option Addr) (c : Nat), Is e [(2, .pointer (some ⟨gr, 0, none⟩)), (4, .pointer (some ⟨gw, 0, none⟩)), (7, .pointer (some ⟨grd, 0, none⟩)), (11, .slice (some p) ls.length cap), (12, .int .i64 ls.length), (13, .int .i64 i), (25, .int .i64 l.length), (26, .int .i64 k)] /\ Heap w [] w' [rd grd gs (textB l) k, wr gw a c (acc ++ l.take k), Res.blk gr 24 [.string ⟨#[]⟩, .int .i64 0]] /\ k <= l.length /\ m = l.length - k) l.length ?_ ?_
  ·
   refine Qs ?_
   exact ⟨0, a, c, rfl, by simpa using hH5, by omega, rfl⟩
  clear hH5
  rintro m e w5 ⟨k, a1, c1, rfl, hH, hk, rfl⟩
  refine VS [2, 4, 7, 11, 12, 13, 25, 26, 27] ?_
  (repeat refine Qay ?_)
  refine VD (fun h => ?_) (fun h => ?_)
  ·
   refine VC_skip ?_
   refine VB ?_
   have htb : (bytesB (textB l)).getD k false = l.getD k false := by
    rw [Qb9, List.getD_eq_getElem?_getD, List.getElem?_append_left (by omega), List.getD_eq_getElem?_getD]
   have hbl := bytesB_length (textB l)
   have hnum : numB (((bytesB (textB l)).drop k).take 1) = (l.getD k false).toNat := by
    rw [Qa1 false (by omega), htb];cases l.getD k false <;> rfl
   refine VQ [2, 4, 7, 8, 11, 12, 13, 25, 26] fun K hK => ?_
   refine MemK_call Tryz.call87 ?_;refine Qs ?_;refine CallK.mk (Qcb grd gs (textB l) k 1 w5 (by omega) (by omega) (by omega) (hH.focus 0 rfl)) ?_
   rintro v w6 (⟨hbad, _⟩ | ⟨_, hHr, rfl⟩)
   ·
    exact absurd hbad (by omega)
   rw [hnum]
   apply hK;clear hK
   have hH2 := hH.call1 0 rfl hHr
   clear hHr hH
   have htl2 := Qbh (acc ++ l.take k)
   have hbt : (l.getD k false).toNat < 2 ^ 1 := by cases l.getD k false <;> simp
   refine VQ [2, 4, 7, 11, 12, 13, 25, 26] fun K hK => ?_
   refine MemK_call Tryz.call36 ?_;refine Qs ?_;refine CallK.mk (Qug gw a1 c1 (acc ++ l.take k) (l.getD k false).toNat 1 w6 (by omega) hbt (by simp;omega) (hH2.focus 1 rfl)) ?_
   rintro v w7 ⟨a2, c2, hHw, rfl⟩
   apply hK;clear hK
   have hH3 := hH2.call1 1 rfl hHw
   clear hHw hH2
   have hb1 : bitsN 1 (l.getD k false).toNat = [l.getD k false] := by cases l.getD k false <;> rfl
   rw [hb1, List.append_assoc, <- Qb3 false (show k < l.length by omega)] at hH3
   refine Qam ?_
   refine VS [2, 4, 7, 11, 12, 13, 25, 26] ?_
   refine Qab ?_
   refine Qs ?_
   exact ⟨l.length - (k + 1), by omega, k + 1, a2, c2, rfl, hH3, by omega, rfl⟩
  ·
   refine Qag rfl ?_
   refine Qam ?_
   refine VS [2, 4, 11, 12, 13] ?_
   refine Qab ?_
   refine Qs ?_
   rw [List.take_of_length_le (by omega), <- htk] at hH
   exact ⟨ls.length - (i + 1), by omega, i + 1, a1, c1, rfl, hH.sub (by simp), by omega, rfl⟩
 ·
  refine Qag rfl ?_
  rw [List.take_of_length_le (by omega)] at hH
  refine VQ [2, 3] fun K hK => ?_
  refine MemK_call Tryz.call37 ?_;refine Qs ?_;refine CallK.mk (Qrt gw a c _ w' (hH.at 0 rfl)) ?_
  rintro v w2 ⟨rfl, rfl⟩
  refine MemK_call Tryz.call38 ?_;refine Qs ?_;refine CallK.mk (Quh gw a c _ w2 (hH.at 0 rfl)) ?_
  rintro v w3 ⟨rfl, rfl⟩
  refine Qs ?_
  refine Qac ?_
  refine Qs ?_
  refine Qad hH 1 (vs := bitsV ls.flatten) rfl rfl (by kernel_rfl) (by simp [bitsV]) (by simp [bitsV, Value.oneCell']) fun w4 hH2 => ?_
  have hH2 : Heap w [] w4 [wr gw a c ls.flatten, Res.blk gr 24 (bitsV ls.flatten)] := hH2
  apply hK;clear hK
  refine VC_ret (Qt9 rfl rfl rfl (Qa5 (hH2.at 1 rfl) (by kernel_rfl) (by kernel_rfl) rfl ?_))
  exact ⟨hH2.sub (by simp), rfl⟩
def Qi6 (r : Except Int (List Nat × Nat)) (w : World) (v : Value) (w' : World) : Prop := match r with
 | .ok q => ∃ a cap, Heap w [] w' [Res.row 3 1 a q.1.length cap (Qas q.1)] /\ v = .tuple #[.slice a q.1.length cap, .int .i64 q.2, .int .i64 0]
 | .error e => Heap w [] w' [] /\ v = .tuple #[.slice none 0 0, .int .i64 0, .int .i64 e]
theorem Qrv (r : List Bool) (now at_ : Nat) : tdGo r now 0 at_ = .ok ([], at_) := by
 match r with
 | [] => simp [tdGo]
 | false :: r => simp [tdGo]
 | [true] => simp [tdGo]
 | true :: d :: r => simp [tdGo]
theorem Qvg (r : List Bool) {now k : Nat} (at_ : Nat) (hk : k ≠ 0) (h : now < 1 ∨ 20 < now) : tdGo r now k at_ = .error 80 := by
 match r with
 | [] => simp only [tdGo, if_neg hk, if_pos h]
 | false :: r => simp only [tdGo, if_neg hk, if_pos h]
 | [true] => simp only [tdGo, if_neg hk, if_pos h]
 | true :: d :: r => simp only [tdGo, if_neg hk, if_pos h]
theorem Qfg (s : List UInt8) (g9 gr gs p n : Nat) (hn : n <= 60) (hp : p <= 8 * s.length) (hs : s.length <= 100000000000000) (w0 w : World) (B : List Nat) (G : List Res) (hL : Heap w0 B w (rd gr gs s p :: Res.blk g9 130 [.pointer (some ⟨gr, 0, none⟩)] :: G)) :
  Does Tryz.prog 148 #[.int .i64 n, .pointer (some ⟨g9, 0, none⟩)] w fun x w' =>
   (8 * s.length < p + n /\ w' = w /\ x = .tuple #[.int .i64 0, .int .i64 10]) ∨ (p + n <= 8 * s.length /\ Heap w0 B w' (rd gr gs s (p + n) :: Res.blk g9 130 [.pointer (some ⟨gr, 0, none⟩)] :: G) /\ x = .tuple #[.int .i64 (numB (((bytesB s).drop p).take n) : Nat), .int .i64 0]) := by
 refine En [.int .i64 n, .pointer (some ⟨g9, 0, none⟩)] 16 Tryz.func148 ?_
 refine VS [0, 1] ?_
 refine VQ [5, 6] fun K hK => ?_
 refine ⟨_, Qah (hL.at 1 rfl) rfl, ?_⟩
 refine MemK_call Tryz.call87 ?_;refine Qs ?_;refine CallK.mk (Qcb gr gs s p n w (by omega) (by omega) (by omega) (hL.focus 0 rfl)) ?_
 rintro v w3 (⟨h1, rfl, rfl⟩ | ⟨h1, hH2, rfl⟩)
 ·
  skip
  apply hK;clear hK
  refine VS [3, 4] ?_
  exact VC_ret (Qaj rfl rfl rfl (.inl ⟨h1, rfl, rfl⟩))
 have hH3 := hL.call1 0 rfl hH2
 simp only [List.set_cons_zero, List.nil_append] at hH3
 have hlt := Qba (((bytesB s).drop p).take n)
 have hlen : (((bytesB s).drop p).take n).length <= 60 := by rw [List.length_take];omega
 have hlt2 := Nat.pow_le_pow_right (n := 2) (by omega) hlen
 generalize numB (((bytesB s).drop p).take n) = q at *
 apply hK;clear hK
 refine VS [3, 4] ?_
 exact VC_ret (Qaj rfl rfl rfl (.inr ⟨h1, hH3, rfl⟩))
theorem Qik (s : List UInt8) (at_ n : Nat) (ha : at_ <= 8 * s.length) (hs : s.length <= 100000000000000) (hn : 2 <= n /\ n <= 258) (w : World) :
  Does Tryz.prog 102 #[Str s, .int .i64 at_, .int .i64 n] w (Qi6 (Qa3 (bytesB s) at_ n) w) := by
 have hbl := bytesB_length s
 generalize hbits : bytesB s = bits at *
 generalize hres : Qa3 bits at_ n = res
 unfold Qa3 at hres
 refine En [Str s, .int .i64 at_, .int .i64 n] 79 Tryz.func102 ?_
 refine VS [0, 1, 2] ?_
 (repeat refine Qay ?_);refine Qjn ?_
 refine VQ [2, 9] fun K hK => ?_
 refine MemK_call Tryz.call86 ?_;refine Qs ?_;refine CallK.mk (Qbj s at_ w (I64.mk (by omega) (by omega)) (by omega)) ?_
 rintro v w2 (⟨hbad, _⟩ | ⟨_, gr, gs, hH, rfl⟩)
 ·
  omega
 rw [Int.toNat_natCast] at hH
 refine Qav (.pointer none) (by kernel_rfl) ?_
 refine Qs ?_
 have hH1 := hH.box 130 [.pointer none]
 generalize w2.alloc (Obj.cells [Value.pointer none].toArray 130) = w3 at *
 generalize w2.heap.size = g9 at *
 refine Qac ?_
 refine Qs ?_
 refine Qad hH1 0 (vs := [.pointer (some ⟨gr, 0, none⟩)]) rfl rfl (by kernel_rfl) (by simp) (by simp [Value.oneCell']) fun w4 hH2 => ?_
 have hH3 : Heap w [] w4 [rd gr gs s at_, Res.blk g9 130 [.pointer (some ⟨gr, 0, none⟩)]] := hH2.perm (List.Perm.swap _ _ _)
 clear hH hH1 hH2
 apply hK;clear hK
 refine VQ [2, 9, 29] fun K hK => ?_
 suffices out : ∀ b : Bool, (b = true ↔ False) -> K [(2, .int .i64 n), (9, .pointer (some ⟨g9, 0, none⟩)), (29, .bool b)] w4 by
  refine ⟨_, Qah (hH3.at 1 rfl) rfl, ?_⟩
  refine Qs ?_
  (repeat' (first | exact out _ _ (by first | omega | (simp;done) | (simp;omega)) | exact out _ (by first | omega | (simp;done) | (simp;omega)) | refine ⟨fun _ => ?_, fun _ => ?_⟩ | refine Qo ?_))
 intro b hb
 apply hK;clear hK
 refine Qaa rfl rfl (fun h => (hb.1 h).elim) (fun h => VC_skip ?_)
 clear hb h
 refine VS [2, 9, 10] ?_
 refine VQ [2, 9, 10, 11, 12] fun K hK => ?_
 refine Qc9 ?_;refine Qs ?_;refine FnK.mk Tryz.call148 (Qfg s g9 gr gs at_ 5 (by omega) ha hs w w4 [] [] hH3) ?_
 have hts : Qcr bits at_ 5 = if bits.length < at_ + 5 then (0, 10) else (numB ((bits.drop at_).take 5), 0) := rfl
 rintro v w5 (⟨h1, rfl, rfl⟩ | ⟨h1, hH4, rfl⟩)
 ·
  rw [if_pos (by omega)] at hts
  rw [hts, if_pos (by simp)] at hres
  subst hres
  apply hK;clear hK
  refine VS [2, 9, 10, 11, 12, 37] ?_
  refine Qaa rfl rfl (fun h => ?_) (fun h => by cases h)
  refine VS [6, 7, 8] ?_
  exact VC_ret (Qap rfl rfl rfl rfl ⟨hH3.sub (by simp), rfl⟩)
 rw [if_neg (by omega)] at hts
 rw [hts, if_neg (by simp)] at hres
 rw [hbits]
 have hlt := Qba ((bits.drop at_).take 5)
 have hlen : ((bits.drop at_).take 5).length <= 5 := by rw [List.length_take];omega
 have hlt2 := Nat.pow_le_pow_right (n := 2) (by omega) hlen
 clear hH3 hts
 simp only at hres
 generalize numB ((bits.drop at_).take 5) = now0 at *
 apply hK;clear hK
 refine VS [2, 9, 10, 11, 12, 37] ?_
 refine Qaa rfl rfl (fun h => by cases h) (fun h => VC_skip ?_)
 clear h
 refine VS [2, 9, 10, 11, 13] ?_
 (repeat refine Qay ?_)
 refine Qje ?_
 refine VB ?_
 refine Qae [2, 9, 10, 11, 13] (fun m e w' => ∃ (p now cap : Nat) (a : Option Addr) (out : List Nat), Is e [(2, .int .i64 n), (9, .pointer (some ⟨g9, 0, none⟩)), (10, .func (.func 148) #[] #[.pointer (some ⟨g9, 0, none⟩)]), (11, .int .i64 now), (13, .slice a out.length cap)] /\ Heap w [] w' [rd gr gs s p, Res.blk g9 130 [.pointer (some ⟨gr, 0, none⟩)], Res.row 3 1 a out.length cap (Qas out)] /\ p <= 8 * s.length /\ now <= 100 /\ out.length <= n /\ (match tdGo (bits.drop p) now (n - out.length) p with | .error e => .error e | .ok q => .ok (out ++ q.1, q.2)) = res /\ m = 8 * s.length - p) (8 * s.length - (at_ + 5)) ?_ ?_
 ·
  refine Qs ?_
  have hH5 := (hH4.nilRow 3 1).perm (G' := [rd gr gs s (at_ + 5), Res.blk g9 130 [.pointer (some ⟨gr, 0, none⟩)], Res.row 3 1 none 0 0 []]) (by exact (List.perm_append_comm (l₁ := [Res.row 3 1 none 0 0 []])))
  exact ⟨at_ + 5, now0, 0, none, [], rfl, hH5, by omega, by omega, by simp, by rw [<- hres];simp only [List.length_nil, Nat.sub_zero, List.nil_append];cases tdGo (bits.drop (at_ + 5)) now0 n (at_ + 5) <;> rfl, rfl⟩
 clear hH4 hres
 rintro m e w6 ⟨p, now, cap, a, out, rfl, hH, hp, hnow, hol, hres, rfl⟩
 refine VS [2, 9, 10, 11, 13, 42] ?_
 refine VD (fun h => ?_) (fun h => ?_)
 ·
  have hol2 : out.length < n := by omega
  obtain ⟨p0, hp0⟩ : ∃ q, q = p := ⟨p, rfl⟩
  refine VC_skip ?_
  refine Qaf ?_
  refine Qaf ?_
  refine Qae [2, 9, 10, 11, 13] (fun m e w' => ∃ (p now : Nat), Is e [(2, .int .i64 n), (9, .pointer (some ⟨g9, 0, none⟩)), (10, .func (.func 148) #[] #[.pointer (some ⟨g9, 0, none⟩)]), (11, .int .i64 now), (13, .slice a out.length cap)] /\ Heap w [] w' [rd gr gs s p, Res.blk g9 130 [.pointer (some ⟨gr, 0, none⟩)], Res.row 3 1 a out.length cap (Qas out)] /\ p0 <= p /\ p <= 8 * s.length /\ now <= 100 /\ (match tdGo (bits.drop p) now (n - out.length) p with | .error e => .error e | .ok q => .ok (out ++ q.1, q.2)) = res /\ m = 8 * s.length - p) (8 * s.length - p) ?_ ?_
  ·
   refine Qs ?_
   exact ⟨p, now, rfl, hH, by omega, hp, hnow, hres, rfl⟩
  clear hH hres hp hnow
  rintro m e w7 ⟨p, now, rfl, hH, hpp, hp, hnow, hres, rfl⟩
  refine Qaf ?_
  refine VQ [2, 9, 10, 11, 13, 48] fun K hK => ?_
  suffices out : ∀ b : Bool, (b = true ↔ (now < 1 ∨ 20 < now)) -> K [(2, .int .i64 n), (9, .pointer (some ⟨g9, 0, none⟩)), (10, .func (.func 148) #[] #[.pointer (some ⟨g9, 0, none⟩)]), (11, .int .i64 now), (13, .slice a out.length cap), (48, .bool b)] w7 by (repeat' (first | exact out _ _ (by first | omega | (simp;done) | (simp;omega)) | exact out _ (by first | omega | (simp;done) | (simp;omega)) | refine ⟨fun _ => ?_, fun _ => ?_⟩ | refine Qo ?_))
  intro b hb
  apply hK;clear hK
  refine Vi (fun h => ?_) (fun h => VC_skip ?_)
  ·
   rw [Qvg _ _ (by omega) (hb.1 h)] at hres
   subst hres
   refine VS [6, 7, 8] ?_
   exact VC_ret (Qap rfl rfl rfl rfl ⟨hH.sub (by simp), rfl⟩)
  have hg : ¬ (now < 1 ∨ 20 < now) := fun h2 => by have := hb.2 h2;simp_all
  clear hb h
  refine VQ [2, 9, 10, 11, 13, 14, 15] fun K hK => ?_
  refine Qc9 ?_;refine Qs ?_;refine FnK.mk Tryz.call148 (Qfg s g9 gr gs p 1 (by omega) hp hs w w7 [] _ hH) ?_
  rintro v w8 (⟨h1, rfl, rfl⟩ | ⟨h1, hH4, rfl⟩)
  ·
   rw [List.drop_of_length_le (by omega), tdGo, if_neg (by omega), if_neg hg] at hres
   subst hres
   apply hK;clear hK
   refine VS [2, 9, 10, 11, 13, 14, 15, 55] ?_
   refine Qaa rfl rfl (fun h => ?_) (fun h => by cases h)
   refine VS [6, 7, 8] ?_
   exact VC_ret (Qap rfl rfl rfl rfl ⟨hH.sub (by simp), rfl⟩)
  have hdp : bits.drop p = bits.getD p false :: bits.drop (p + 1) := Qa1 false (by omega)
  have hnum : numB ((bits.drop p).take 1) = (bits.getD p false).toNat := by rw [hdp];cases bits.getD p false <;> rfl
  rw [hbits, hnum]
  rw [hdp] at hres
  apply hK;clear hK
  refine VS [2, 9, 10, 11, 13, 14, 15, 55] ?_
  refine Qaa rfl rfl (fun h => by cases h) (fun h => VC_skip ?_)
  clear h hH
  refine VS [2, 9, 10, 11, 13, 58] ?_
  generalize bits.getD p false = b at *
  cases b with
  | false =>
   rw [tdGo, if_neg (by omega), if_neg hg] at hres
   refine Qaa rfl rfl (fun h => ?_) (fun h => by simp at h)
   refine VQ [2, 9, 10, 11, 13] fun K hK => ?_
   refine Qa6 (xs := [.tmp 60]) Tryz.underlying36 sz3 rfl rfl rfl (by omega) ?_;refine Qs ?_;refine ⟨by simp [Value.cells], ?_⟩
   refine Qai ?_;refine Qs ?_;refine Qd5 hH4 2 (now) rfl Tryz.underlying36 zi3 (by first | rfl | (simp;done) | omega | (simp;omega)) (fun h => by (first | omega | (simp;done) | (simp;omega))) fun a' cap' w5 hc' hH5 => ?_;(try refine Qs ?_)
   simp only [List.set_cons_succ, List.set_cons_zero] at hH5
   apply hK;clear hK
   refine Qag rfl ?_
   refine Qab ?_
   refine Qs ?_
   refine ⟨8 * s.length - (p + 1), by omega, p + 1, now, cap', a', out ++ [now], rfl, hH5, by omega, hnow, by simp;omega, ?_, rfl⟩
   rw [<- hres, show n - (out ++ [now]).length = n - out.length - 1 by simp;omega]
   cases tdGo (bits.drop (p + 1)) now (n - out.length - 1) (p + 1) with
   | error e => rfl
   | ok q => simp
  | true =>
   refine Qaa rfl rfl (fun h => by simp at h) (fun h => VC_skip ?_)
   clear h
   refine VQ [2, 9, 10, 11, 13, 15, 16] fun K hK => ?_
   refine Qc9 ?_;refine Qs ?_;refine FnK.mk Tryz.call148 (Qfg s g9 gr gs (p + 1) 1 (by omega) h1 hs w w8 [] _ hH4) ?_
   rintro v w9 (⟨h2, rfl, rfl⟩ | ⟨h2, hH6, rfl⟩)
   ·
    rw [List.drop_of_length_le (by omega), tdGo, if_neg (by omega), if_neg hg] at hres
    subst hres
    apply hK;clear hK
    refine VS [2, 9, 10, 11, 13, 15, 16, 69] ?_
    refine Qaa rfl rfl (fun h => ?_) (fun h => by cases h)
    refine VS [6, 7, 8] ?_
    exact VC_ret (Qap rfl rfl rfl rfl ⟨hH4.sub (by simp), rfl⟩)
   have hdp2 : bits.drop (p + 1) = bits.getD (p + 1) false :: bits.drop (p + 1 + 1) := Qa1 false (by omega)
   have hnum2 : numB ((bits.drop (p + 1)).take 1) = (bits.getD (p + 1) false).toNat := by rw [hdp2];cases bits.getD (p + 1) false <;> rfl
   rw [hbits, hnum2]
   rw [hdp2, tdGo, if_neg (by omega), if_neg hg] at hres
   generalize bits.getD (p + 1) false = d at *
   have hd1 : d.toNat <= 1 := by cases d <;> simp
   apply hK;clear hK
   refine VS [2, 9, 10, 11, 13, 15, 16, 69] ?_
   refine Qaa rfl rfl (fun h => by cases h) (fun h => VC_skip ?_)
   clear h
   refine VS [2, 9, 10, 11, 13] ?_
   refine Qam ?_
   refine Qab ?_
   refine Qs ?_
   refine ⟨8 * s.length - (p + 1 + 1), by omega, p + 1 + 1, (if d = true then now - 1 else now + 1), ?_, hH6, by omega, by omega, by split <;> omega, hres, rfl⟩
   cases d with
   | true => rw [if_pos rfl, show ((now : Int) + (1 - 2 * ((true.toNat : Nat) : Int))) = ((now - 1 : Nat) : Int) by simp;omega];rfl
   | false => rw [if_neg (by simp), show ((now : Int) + (1 - 2 * ((false.toNat : Nat) : Int))) = ((now + 1 : Nat) : Int) by simp];rfl
 ·
  rw [show n - out.length = 0 by omega, Qrv] at hres
  simp only [List.append_nil] at hres
  subst hres
  refine Qag rfl ?_
  refine VQ [6, 7, 8] fun K hK => ?_
  refine ⟨_, Qah (hH.at 1 rfl) rfl, ?_⟩
  refine MemK_call Tryz.call100 ?_;refine Qs ?_;refine CallK.mk (Qht gr gs p s w6 (hH.at 0 rfl)) ?_
  rintro v w7 ⟨rfl, rfl⟩
  apply hK;clear hK
  exact VC_ret (Qap rfl rfl rfl rfl ⟨a, cap, hH.sub (by simp), rfl⟩)
set_option maxHeartbeats 2000000
theorem Qet {l : List Bool} {w : World} {p : Addr} (hr : RS w (some p) l.length 1 (Qal (bI l))) {i : Nat} (hi : i < l.length) : w.cell? (p.add i) = some (.int .i64 (if l.getD i false then 1 else 0)) := by
 have hc := Qde hr (i := i) (by rw [bI_len];exact hi)
 rwa [Qep hi] at hc
theorem Qn1 (l : List Bool) (a : Option Addr) (c at_ n : Nat) (hat : at_ <= l.length) (hl : l.length <= 1000000000000) (hn : 2 <= n /\ n <= 258) (w : World) (hs : SL w a l.length c (Qal (bI l))) :
  Does Tryz.prog 110 #[.slice a l.length c, .int .i64 at_, .int .i64 n] w (Qi6 (Qa3 l at_ n) w) := by
 generalize hres : Qa3 l at_ n = res
 unfold Qa3 at hres
 have hr := hs.1
 have hlc := hs.2.1
 refine En [.slice a l.length c, .int .i64 at_, .int .i64 n] 85 Tryz.func110 ?_
 refine VS [0, 1, 2] ?_
 refine VQ [0, 1, 2, 26] fun K hK => ?_
 suffices out : ∀ b : Bool, (b = true ↔ False) -> K [(0, .slice a l.length c), (1, .int .i64 at_), (2, .int .i64 n), (26, .bool b)] w by (repeat' (first | exact out _ _ (by first | omega | (simp;done) | (simp;omega)) | exact out _ (by first | omega | (simp;done) | (simp;omega)) | refine ⟨fun _ => ?_, fun _ => ?_⟩ | refine Qo ?_))
 intro b hb
 apply hK;clear hK
 refine Qaa rfl rfl (fun h => (hb.1 h).elim) (fun h => VC_skip ?_)
 clear hb h
 refine VS [0, 1, 2, 31] ?_
 refine VD (fun h => ?_) (fun h => VC_skip ?_)
 ·
  have e : Qcr l at_ 5 = (0, 10) := by rw [Qcr, if_pos (by omega)]
  rw [e, if_pos (by simp)] at hres
  subst hres
  refine VS [6, 7, 8] ?_
  exact VC_ret (Qap rfl rfl rfl rfl ⟨Heap.start w, rfl⟩)
 have e : Qcr l at_ 5 = (numB ((l.drop at_).take 5), 0) := by rw [Qcr, if_neg (by omega)]
 rw [e, if_neg (by simp)] at hres
 simp only at hres
 have e2 : ((l.drop at_).take 5).length = 5 := by rw [List.length_take, List.length_drop];omega
 have hn5 := Qba ((l.drop at_).take 5)
 rw [e2] at hn5
 have hcut := hs.cut at_ 5 (by omega)
 have e1 : ((Qal (bI l)).drop at_).take 5 = Qal (bI ((l.drop at_).take 5)) := by
  rw [<- Qjv, <- Qju];simp [Qal, List.map_take, List.map_drop]
 rw [e1] at hcut
 refine VQ [0, 1, 2, 9] fun K hK => ?_
 refine ⟨I64.mk (by omega) (by omega), ⟨by omega, by omega, by omega⟩, ?_⟩
 rw [show at_ + 5 - at_ = 5 by omega]
 generalize (if c = at_ then a else a.map fun x => x.add at_) = a2 at *
 have hnum := Qeq ((l.drop at_).take 5) a2 (c - at_) (by omega) w (by rw [e2];exact hcut)
 rw [e2] at hnum
 generalize numB ((l.drop at_).take 5) = now at *
 refine MemK_call Tryz.call124 ?_;refine Qs ?_;refine CallK.mk hnum ?_
 rintro v w2 ⟨rfl, rfl⟩
 (try refine Qs ?_)
 refine ⟨I64.mk (by omega) (by omega), ?_⟩
 apply hK;clear hK
 refine VS [0, 1, 2, 9] ?_
 refine VS [0, 1, 2, 9, 10] ?_
 refine VB ?_
 refine Qae [0, 1, 2, 9, 10] (fun m e w' => ∃ (p nw cap : Nat) (ao : Option Addr) (o : List Nat), Is e [(0, .slice a l.length c), (1, .int .i64 p), (2, .int .i64 n), (9, .int .i64 nw), (10, .slice ao o.length cap)] /\ Heap w2 [] w' [Res.row 3 1 ao o.length cap (Qas o)] /\ p <= l.length /\ nw <= 40 /\ o.length <= n /\ (match tdGo (l.drop p) nw (n - o.length) p with | .error e => .error e | .ok q => .ok (o ++ q.1, q.2)) = res /\ m = l.length - p) (l.length - (at_ + 5)) ?_ ?_
 ·
  refine Qs ?_
  refine ⟨at_ + 5, now, 0, none, [], by push_cast;rfl, Qd2, by omega, by omega, by simp, ?_, rfl⟩
  rw [List.length_nil, Nat.sub_zero, hres]
  cases res <;> rfl
 clear hres hcut hnum e e1 e2
 rintro m e w' ⟨p, nw, cap, ao, o, rfl, hH, hp, hnw, ho, hres, rfl⟩
 refine VS [0, 1, 2, 9, 10, 44] ?_
 refine VD (fun h => ?_) (fun h => ?_)
 ·
  obtain ⟨k, hk⟩ : ∃ k, n - o.length = k + 1 := ⟨n - o.length - 1, by omega⟩
  rw [hk] at hres
  refine VC_skip ?_
  refine Qaf ?_
  refine VQ [0, 1, 2, 9, 10, 50] fun K hK => ?_
  suffices out : ∀ b : Bool, (b = true ↔ (nw < 1 ∨ 20 < nw)) -> K [(0, .slice a l.length c), (1, .int .i64 p), (2, .int .i64 n), (9, .int .i64 nw), (10, .slice ao o.length cap), (50, .bool b)] w' by (repeat' (first | exact out _ _ (by first | omega | (simp;done) | (simp;omega)) | exact out _ (by first | omega | (simp;done) | (simp;omega)) | refine ⟨fun _ => ?_, fun _ => ?_⟩ | refine Qo ?_))
  intro b hb
  apply hK;clear hK
  refine Vi (fun h => ?_) (fun h => VC_skip ?_)
  ·
   rw [Qvg _ _ (by omega) (hb.1 h)] at hres
   subst hres
   refine VS [6, 7, 8] ?_
   exact VC_ret (Qap rfl rfl rfl rfl ⟨hH.sub (by simp), rfl⟩)
  have hg : ¬ (nw < 1 ∨ 20 < nw) := fun hh => by rw [hb.2 hh] at h;cases h
  clear hb h
  refine VS [0, 1, 2, 9, 10, 54] ?_
  refine VD (fun h => ?_) (fun h => VC_skip ?_)
  ·
   rw [List.drop_of_length_le (by omega), tdGo, if_neg (by omega), if_neg hg] at hres
   subst hres
   refine VS [6, 7, 8] ?_
   exact VC_ret (Qap rfl rfl rfl rfl ⟨hH.sub (by simp), rfl⟩)
  have hpl : p < l.length := by omega
  clear h
  obtain ⟨pa, rfl⟩ := Qbe hr (by omega)
  have hcell := Qet (hH.rs' hr) hpl
  have hd := Qa1 false hpl
  rw [hd] at hres
  generalize l.getD p false = b at *
  refine VQ [0, 1, 2, 9, 10, 59] fun K hK => ?_
  refine ⟨⟨by omega, by omega⟩, _, hcell, ?_⟩
  (try refine Qs ?_)
  (repeat refine Qo ?_);apply hK;clear hK
  cases b with
  | false =>
   rw [tdGo, if_neg (by omega), if_neg hg] at hres
   refine Qaa rfl rfl (fun h => ?_) (fun h => by simp at h)
   refine VQ [0, 1, 2, 9, 10] fun K hK => ?_
   refine Qa6 (xs := [.tmp 61]) Tryz.underlying36 sz3 rfl rfl rfl (by omega) ?_;refine Qs ?_;refine ⟨by simp [Value.cells], ?_⟩
   refine Qai ?_;refine Qs ?_;refine Qd5 hH 0 (nw) rfl Tryz.underlying36 zi3 (by first | rfl | (simp;done) | omega | (simp;omega)) (fun h => by (first | omega | (simp;done) | (simp;omega))) fun a' cap' w5 hc' hH2 => ?_;(try refine Qs ?_)
   apply hK;clear hK
   refine VS [0, 1, 2, 9, 10] ?_
   refine Qag rfl ?_
   refine Qab ?_
   refine Qs ?_
   refine ⟨l.length - (p + 1), by omega, p + 1, nw, cap', a', o ++ [nw], by push_cast;rfl, hH2, by omega, by omega, by simp;omega, ?_, rfl⟩
   rw [show n - (o ++ [nw]).length = k by simp;omega, <- hres, Nat.add_sub_cancel]
   cases tdGo (l.drop (p + 1)) nw k (p + 1) <;> simp
  | true =>
   refine Qaa rfl rfl (fun h => by simp at h) (fun h => VC_skip ?_)
   clear h
   refine VS [0, 1, 2, 9, 10, 70] ?_
   refine VD (fun h => ?_) (fun h => VC_skip ?_)
   ·
    rw [List.drop_of_length_le (show l.length <= p + 1 by omega), tdGo, if_neg (by omega), if_neg hg] at hres
    subst hres
    refine VS [6, 7, 8] ?_
    exact VC_ret (Qap rfl rfl rfl rfl ⟨hH.sub (by simp), rfl⟩)
   have hpl2 : p + 1 < l.length := by omega
   have hcell2 := Qet (hH.rs' hr) hpl2
   have hd2 := Qa1 false hpl2
   rw [hd2, tdGo, if_neg (by omega), if_neg hg] at hres
   clear h
   generalize l.getD (p + 1) false = d at *
   refine VQ [0, 1, 2, 9, 10, 76] fun K hK => ?_
   refine ⟨I64.mk (by omega) (by omega), ⟨by omega, by omega⟩, _, hcell2, ?_⟩
   (try refine Qs ?_)
   (repeat refine Qo ?_);apply hK;clear hK
   cases d with
   | false =>
    refine Qaa rfl rfl (fun h => ?_) (fun h => by simp at h)
    rw [if_neg (by simp)] at hres
    refine VS [0, 1, 2, 9, 10] ?_
    refine VS [0, 1, 2, 9, 10] ?_
    refine Qam ?_
    refine Qab ?_
    refine Qs ?_
    refine ⟨l.length - (p + 2), by omega, p + 2, nw + 1, cap, ao, o, by push_cast;rfl, hH, by omega, by omega, by omega, ?_, rfl⟩
    rw [hk];exact hres
   | true =>
    refine Qaa rfl rfl (fun h => by simp at h) (fun h => ?_)
    rw [if_pos rfl] at hres
    refine VS [0, 1, 2, 9, 10] ?_
    refine VS [0, 1, 2, 9, 10] ?_
    refine Qam ?_
    refine Qab ?_
    refine Qs ?_
    refine ⟨l.length - (p + 2), by omega, p + 2, nw - 1, cap, ao, o, by rw [show ((nw - 1 : Nat) : Int) = (nw : Int) - 1 by omega];rfl, hH, by omega, by omega, by omega, ?_, rfl⟩
    rw [hk];exact hres
 ·
  refine Qag rfl ?_
  rw [show n - o.length = 0 by omega, Qrv] at hres
  subst hres
  refine VS [6, 7, 8] ?_
  refine VC_ret (Qap rfl rfl rfl rfl ?_)
  simp only [List.append_nil]
  exact ⟨_, _, hH, rfl⟩
def begW (l : List Nat) (b : List Bool) (i : Nat) : Bool := decide ((Qgw l i).take b.length = b)
def Qeu (l : List Nat) (b : List Bool) : Nat -> Nat
 | 0 => 0
 | m + 1 => if begW l b m = true then Qeu l b m + 1 else Qeu l b m
def isS (l : List Nat) (b : List Bool) : Nat -> Int
 | 0 => -1
 | m + 1 => if begW l b m = true /\ l.getD m 0 = b.length then (m : Int) else isS l b m
def Qls (l : List Nat) (bits : List Bool) (at_ : Nat) : Nat -> Nat -> Except Int (Nat × Nat)
 | 0, _ => .error 90
 | f + 1, n =>
  if bits.length < at_ + n then .error 10
  else if 0 <= isS l ((bits.drop at_).take n) l.length then .ok ((isS l ((bits.drop at_).take n) l.length).toNat, at_ + n)
  else if Qeu l ((bits.drop at_).take n) l.length = 0 then .error 90
  else Qls l bits at_ f (n + 1)
theorem Qgr (l : List Nat) (i : Nat) : (Qgw l i).length = l.getD i 0 := by rw [Qgw, Qat]
theorem Qlt {L n : Nat} (v : Nat) (h : n <= L) : (bitsN L v).take n = bitsN n (v / 2 ^ (L - n)) := by
 have e := Qdo n (L - n) v
 rw [show n + (L - n) = L by omega] at e
 rw [e, List.take_left' (Qat _ _)]
theorem Qg1 {l : List Nat} (h : okL l) {b : List Bool} {i : Nat} (hi : i < l.length) : begW l b i = true ↔ b.length <= l.getD i 0 /\ Qfv l i / 2 ^ (l.getD i 0 - b.length) = numB b := by
 have hc := (Qgz h hi).2.2
 unfold begW
 rw [decide_eq_true_eq]
 constructor
 ·
  intro e
  have hl := congrArg List.length e
  rw [List.length_take, Qgr] at hl
  have hle : b.length <= l.getD i 0 := by omega
  refine ⟨hle, ?_⟩
  rw [Qgw, Qlt _ hle] at e
  have e2 := congrArg numB e
  rw [Qda] at e2
  rw [<- e2, Nat.mod_eq_of_lt]
  rw [Nat.div_lt_iff_lt_mul (Nat.two_pow_pos _), <- Nat.pow_add, show b.length + (l.getD i 0 - b.length) = l.getD i 0 by omega]
  exact hc
 ·
  rintro ⟨h1, h2⟩
  rw [Qgw, Qlt _ h1, h2, Qiy]
theorem Qfx {l : List Nat} {b : List Bool} : ∀ m, Qeu l b m = 0 ↔ ∀ i, i < m -> begW l b i = false
 | 0 => by simp [Qeu]
 | m + 1 => by
  rw [Qeu]
  constructor
  ·
   intro h i hi
   split at h
   ·
    cases h
   ·
    rename_i h2
    rcases Nat.lt_or_ge i m with h3 | h3
    ·
     exact (Qfx m).1 h i h3
    ·
     rw [show i = m by omega];simpa using h2
  ·
   intro h
   rw [if_neg (by rw [h m (by omega)];simp), (Qfx m).2 fun i hi => h i (by omega)]
theorem Qvh (l : List Nat) (b : List Bool) : ∀ m, (isS l b m = -1 /\ ∀ i, i < m -> ¬ (begW l b i = true /\ l.getD i 0 = b.length)) ∨ ∃ i, i < m /\ (begW l b i = true /\ l.getD i 0 = b.length) /\ isS l b m = (i : Int)
 | 0 => .inl ⟨rfl, fun i hi => by omega⟩
 | m + 1 => by
  rw [isS]
  by_cases h : begW l b m = true /\ l.getD m 0 = b.length
  ·
   rw [if_pos h];exact .inr ⟨m, by omega, h, rfl⟩
  ·
   rw [if_neg h]
   rcases Qvh l b m with ⟨h1, h2⟩ | ⟨i, h1, h2, h3⟩
   ·
    refine .inl ⟨h1, fun i hi => ?_⟩
    rcases Nat.lt_or_ge i m with h4 | h4
    ·
     exact h2 i h4
    ·
     rw [show i = m by omega];exact h
   ·
    exact .inr ⟨i, by omega, h2, h3⟩
theorem QBw {l : List Nat} (h : okL l) (b : List Bool) : isS l b l.length = if Qao l b.length <= numB b /\ numB b < Qao l b.length + cnt l b.length then (((idxs l b.length).getD (numB b - Qao l b.length) 0 : Nat) : Int) else -1 := by
 have key : ∀ i, i < l.length -> (begW l b i = true /\ l.getD i 0 = b.length) -> Qfv l i = numB b := fun i hi hh => by
  have := ((Qg1 h hi).1 hh.1).2
  rwa [hh.2, Nat.sub_self, Nat.pow_zero, Nat.div_one] at this
 rcases Qvh l b l.length with ⟨h1, h2⟩ | ⟨i, h1, h2, h3⟩
 ·
  rw [h1, if_neg]
  rintro ⟨c1, c2⟩
  have hk : numB b - Qao l b.length < (idxN l b.length l.length).length := by
   have : cnt l b.length = (idxN l b.length l.length).length := rfl
   omega
  obtain ⟨a1, a2, a3⟩ := Qny l b.length l.length _ hk
  refine h2 _ a1 ⟨(Qg1 h a1).2 ⟨by omega, ?_⟩, a2⟩
  rw [a2, Nat.sub_self, Nat.pow_zero, Nat.div_one, Qfv, a2, a3]
  omega
 ·
  have hc := key i h1 h2
  obtain ⟨r1, r2, _⟩ := Qgz h h1
  rw [h2.2] at r1 r2
  rw [h3, if_pos (by omega)]
  have hr := (Qlr h1).1
  rw [h2.2] at hr
  have hcs : Qfv l i = Qao l b.length + (idxN l b.length i).length := by rw [Qfv, h2.2]
  rw [show numB b - Qao l b.length = (idxN l b.length i).length by omega, hr]
theorem Qrw {l : List Nat} (h : okL l) (b : List Bool) (hb : b.length <= 20) (hinv : Qao l b.length + cnt l b.length <= numB b) : begP l (numB b) b.length = true ↔ Qeu l b l.length ≠ 0 := by
 constructor
 ·
  intro hp h0
  rw [Qfx] at h0
  unfold begP at hp
  rw [List.any_eq_true] at hp
  obtain ⟨m, hm, hq⟩ := hp
  simp only [Bool.and_eq_true, decide_eq_true_eq] at hq
  obtain ⟨⟨q1, q2⟩, q3⟩ := hq
  have least : ∀ d, (∃ m, b.length < m /\ m <= b.length + d /\ numB b * 2 ^ (m - b.length) < Qao l m + cnt l m) -> ∃ m, b.length < m /\ numB b * 2 ^ (m - b.length) < Qao l m + cnt l m /\ Qao l (m - 1) + cnt l (m - 1) <= numB b * 2 ^ (m - 1 - b.length) := by
   intro d
   induction d with
   | zero => rintro ⟨m, a1, a2, a3⟩;omega
   | succ d ih =>
    rintro ⟨m, a1, a2, a3⟩
    by_cases hlt : Qao l (m - 1) + cnt l (m - 1) <= numB b * 2 ^ (m - 1 - b.length)
    ·
     exact ⟨m, a1, a3, hlt⟩
    ·
     by_cases e : m - 1 = b.length
     ·
      exfalso
      rw [e, Nat.sub_self, Nat.pow_zero, Nat.mul_one] at hlt
      omega
     ·
      exact ih ⟨m - 1, by omega, by omega, by omega⟩
  obtain ⟨m, a1, a2, a3⟩ := least (m - b.length) ⟨m, q1, by omega, q3⟩
  obtain ⟨k, rfl⟩ : ∃ k, m = k + 1 := ⟨m - 1, by omega⟩
  rw [Nat.add_sub_cancel] at a3
  have e2 : numB b * 2 ^ (k + 1 - b.length) = 2 * (numB b * 2 ^ (k - b.length)) := by
   rw [show k + 1 - b.length = (k - b.length) + 1 by omega, Nat.pow_succ]
   generalize 2 ^ (k - b.length) = p
   rw [<- Nat.mul_assoc, Nat.mul_comm]
  have hf : Qao l (k + 1) <= numB b * 2 ^ (k + 1 - b.length) := by rw [e2, Qao];omega
  have hk : numB b * 2 ^ (k + 1 - b.length) - Qao l (k + 1) < (idxN l (k + 1) l.length).length := by
   have : cnt l (k + 1) = (idxN l (k + 1) l.length).length := rfl
   omega
  obtain ⟨b1, b2, b3⟩ := Qny l (k + 1) l.length _ hk
  have hz := h0 _ b1
  have : begW l b ((idxN l (k + 1) l.length).getD (numB b * 2 ^ (k + 1 - b.length) - Qao l (k + 1)) 0) = true := by
   refine (Qg1 h b1).2 ⟨by omega, ?_⟩
   rw [b2, Qfv, b2, b3, show Qao l (k + 1) + (numB b * 2 ^ (k + 1 - b.length) - Qao l (k + 1)) = numB b * 2 ^ (k + 1 - b.length) by omega, Nat.mul_div_cancel _ (Nat.two_pow_pos _)]
  rw [this] at hz
  cases hz
 ·
  intro hne
  have : ¬ ∀ i, i < l.length -> begW l b i = false := fun hh => hne ((Qfx _).2 hh)
  have : ∃ i, i < l.length /\ begW l b i = true := Classical.byContradiction fun hn => this fun i hi => by
   cases hb : begW l b i with
   | false => rfl
   | true => exact (hn ⟨i, hi, hb⟩).elim
  obtain ⟨i, hi, hw⟩ := this
  obtain ⟨w1, w2⟩ := (Qg1 h hi).1 hw
  obtain ⟨c1, c2, c3⟩ := Qgz h hi
  have hL := Qi4 h hi
  unfold begP
  rw [List.any_eq_true]
  have hne2 : l.getD i 0 ≠ b.length := fun e => by
   rw [e, Nat.sub_self, Nat.pow_zero, Nat.div_one] at w2
   rw [e] at c2
   omega
  have hd := Nat.div_mul_le_self (Qfv l i) (2 ^ (l.getD i 0 - b.length))
  rw [w2] at hd
  refine ⟨l.getD i 0, List.mem_range.2 (by omega), ?_⟩
  simp only [Bool.and_eq_true, decide_eq_true_eq]
  exact ⟨⟨by omega, by omega⟩, by omega⟩
theorem Qil {bits : List Bool} {at_ n : Nat} {c : Bool} {r : List Bool} (h : bits.drop (at_ + n) = c :: r) : (bits.drop at_).take (n + 1) = (bits.drop at_).take n ++ [c] := by
 rw [List.take_add_one, List.getElem?_drop]
 have h0 : (bits.drop (at_ + n))[0]? = some c := by rw [h];rfl
 rw [List.getElem?_drop, Nat.add_zero] at h0
 rw [h0];rfl
theorem Qou {l : List Nat} (h : okL l) (bits : List Bool) (at_ : Nat) : ∀ (f n : Nat), 0 < f -> n + f = 20 -> at_ + n <= bits.length -> Qao l n + cnt l n <= numB ((bits.drop at_).take n) ->
  Qls l bits at_ f (n + 1) = match Qds l (bits.drop (at_ + n)) n (numB ((bits.drop at_).take n)) with
   | .ok p => .ok (p.1, at_ + p.2)
   | .error e => .error e
 | 0, n, h0, _, _, _ => by omega
 | f + 1, n, _, hn, ha, hinv => by
  rw [Qls]
  cases hd : bits.drop (at_ + n) with
  | nil =>
   have hl := congrArg List.length hd
   rw [List.length_drop, List.length_nil] at hl
   rw [Qds, if_pos (by omega)]
  | cons c r =>
   have hl := congrArg List.length hd
   rw [List.length_drop, List.length_cons] at hl
   have hsn := Qil hd
   have hdn : bits.drop (at_ + (n + 1)) = r := by
    have : bits.drop (at_ + (n + 1)) = (bits.drop (at_ + n)).drop 1 := by rw [List.drop_drop];rfl
    rw [this, hd];rfl
   have hnum : numB ((bits.drop at_).take (n + 1)) = 2 * numB ((bits.drop at_).take n) + c.toNat := by rw [hsn, Qhk]
   have hlen : ((bits.drop at_).take (n + 1)).length = n + 1 := by rw [List.length_take, List.length_drop];omega
   have hfirst : Qao l (n + 1) = 2 * (Qao l n + cnt l n) := rfl
   rw [if_neg (by omega), Qds, <- hnum, QBw h, hlen]
   have hpm := Qrw h ((bits.drop at_).take (n + 1)) (by omega)
   rw [hlen] at hpm
   have ih := Qou h bits at_ f (n + 1)
   rw [hdn] at ih
   generalize hb : (bits.drop at_).take (n + 1) = b at *
   by_cases hA : Qao l (n + 1) <= numB b /\ numB b < Qao l (n + 1) + cnt l (n + 1)
   ·
    rw [if_pos hA, if_pos (Int.natCast_nonneg _), if_pos hA]
    rfl
   ·
    rw [if_neg hA, if_neg (by omega), if_neg hA]
    have hinv2 : Qao l (n + 1) + cnt l (n + 1) <= numB b := by omega
    have hpm := hpm hinv2
    by_cases hB : begP l (numB b) (n + 1) = true
    ·
     have hm : n + 1 < 20 := by
      unfold begP at hB
      rw [List.any_eq_true] at hB
      obtain ⟨m, hm, hq⟩ := hB
      have := List.mem_range.1 hm
      simp only [Bool.and_eq_true, decide_eq_true_eq] at hq
      omega
     rw [if_neg (hpm.1 hB), if_pos hB, ih (by omega) (by omega) (by omega) hinv2]
    ·
     have h0 : Qeu l b l.length = 0 := Decidable.not_not.1 fun hc => hB (hpm.2 hc)
     rw [if_pos h0, if_neg hB]
theorem Quj {l : List Nat} (h : okL l) {bits : List Bool} {at_ : Nat} (ha : at_ <= bits.length) : Qls l bits at_ 20 1 = Qdt l bits at_ := by
 have h0 : Qao l 0 + cnt l 0 = 0 := by rw [Qer fun x hx => (h.2.2.1 x hx).1];rfl
 rw [Qdt, Qou h bits at_ 20 0 (by omega) (by omega) (by omega) (by omega)]
 rfl
def Qcq (T : List (List Nat)) (bits : List Bool) (fin : Nat) : List Nat -> Nat -> Except Int (List Nat × Nat)
 | [], _ => .error 110
 | p :: P, at_ => match Qcp (T.getD p []) bits fin 50 at_ with
  | .error e => .error e
  | .ok q => if q.1.getLast? = some fin then .ok q else match Qcq T bits fin P q.2 with
   | .error e => .error e
   | .ok q' => .ok (q.1 ++ q'.1, q'.2)
def ascB : List UInt8 -> Bool
 | [] => true
 | [_] => true
 | a :: b :: r => decide (a.toNat < b.toNat) && ascB (b :: r)
def Qhu (l : List UInt8) : Bool := ascB l && !l.isEmpty
theorem Qn2 (l : List UInt8) (hl : l.length <= 1000000000000) (w : World) : Does Tryz.prog 73 #[Str l] w fun v w' => w' = w /\ v = .bool (Qhu l) := by
 refine En [Str l] 20 Tryz.func73 ?_
 refine VS [0] ?_
 refine VS [0, 3] ?_
 refine Qaf ?_
 refine Qae [0, 3] (fun m e w' => ∃ (i : Nat), Is e [(0, Str l), (3, .int .i64 i)] /\ Is w' w /\ 1 <= i /\ i <= max l.length 1 /\ ascB (l.drop (i - 1)) = ascB l /\ m = l.length - i) (l.length - 1) ?_ ?_
 ·
  refine Qs ?_
  exact ⟨1, rfl, rfl, by omega, by omega, rfl, rfl⟩
 rintro m e w' ⟨i, rfl, rfl, hi1, hi2, ha, hm⟩
 refine VS [0, 3, 7] ?_
 refine VD (fun h => ?_) (fun h => ?_)
 ·
  have e1 : l.drop (i - 1) = l.getD (i - 1) 0 :: l.getD i 0 :: l.drop (i + 1) := by
   rw [Qa1 0 (l := l) (i := i - 1) (by omega), show i - 1 + 1 = i by omega, Qa1 0 (l := l) (i := i) (by omega)]
  have e2 : l.drop i = l.getD i 0 :: l.drop (i + 1) := Qa1 0 (by omega)
  rw [e1, ascB, <- e2] at ha
  refine VC_skip ?_
  refine VB ?_
  refine Vq [0, 3, 17] fun K hK => ?_
  (repeat first | refine Qo ?_ | refine Qp ?_)
  apply hK;clear hK
  refine VD (fun h => ?_) (fun h => ?_)
  ·
   refine VS [2] ?_
   refine VC_ret (VX_ret1 rfl rfl ⟨rfl, ?_⟩)
   rw [decide_eq_false (by omega), Bool.false_and] at ha
   rw [Qhu, <- ha, Bool.false_and]
  rw [decide_eq_true (by omega), Bool.true_and] at ha
  refine VC_skip ?_
  refine Qam ?_
  refine VS [0, 3] ?_
  refine Qab ?_
  refine Qs ?_
  exact ⟨l.length - (i + 1), by omega, i + 1, rfl, rfl, by omega, by omega, by rw [Nat.add_sub_cancel];exact ha, rfl⟩
 ·
  refine Qag rfl ?_
  refine VS [2] ?_
  refine VC_ret (VX_ret1 rfl rfl ⟨rfl, ?_⟩)
  have e1 : ascB (l.drop (i - 1)) = true := by
   have hlen : (l.drop (i - 1)).length <= 1 := by rw [List.length_drop];omega
   generalize l.drop (i - 1) = d at *
   match d, hlen with
   | [], _ => rfl
   | [_], _ => rfl
   | _ :: _ :: _, h => simp at h
  rw [Qhu, <- ha, e1]
  cases l <;> rfl
def Qeb (li : List UInt8) (at_ : Nat) : List UInt8 := li.getD at_ 0 :: (li.take at_ ++ li.drop (at_ + 1))
theorem Qqe (li : List UInt8) (g cap at_ : Nat) (hat : at_ < li.length) (hl : li.length <= 1000000000000) (w0 w : World) (B : List Nat) (G : List Res) (hL : Heap w0 B w (Res.row 5 1 (some ⟨g, 0, none⟩) li.length cap (bytesV li) :: G)) :
  Does Tryz.prog 74 #[.slice (some ⟨g, 0, none⟩) li.length cap, .int .i64 at_] w
   fun v w' => Heap w0 B w' (Res.row 5 1 (some ⟨g, 0, none⟩) li.length cap (bytesV (Qeb li at_)) :: G) /\ v = .int .u8 (li.getD at_ 0).toNat := by
 refine En [.slice (some ⟨g, 0, none⟩) li.length cap, .int .i64 at_] 22 Tryz.func74 ?_
 refine VS [0, 1] ?_
 refine VQ [0, 1, 5] fun K hK => ?_
 (repeat first | refine Qo ?_ | refine Qp ?_ | (refine Gc hL ?_;(try refine Qs ?_)))
 apply hK;clear hK
 refine VL [0, 5] 7 fun K hK => ?_
 obtain ⟨hx1, hx2, hx3, hx4⟩ := hL.at 0 rfl
 clear hx1 hx4
 refine ⟨I64.mk (by omega) (by omega), ⟨by omega, by omega, by omega⟩, ⟨by omega, by omega⟩, ?_⟩
 have hsrc : RS w (some ⟨g, 0, none⟩) at_ 1 (bytesV (li.take at_)) := by
  rw [<- bytesV_take]
  have h := (Qaz (hL.at 0 rfl)).take at_ (by omega)
  rwa [Nat.mul_one] at h
 suffices hall : ∀ w5, Heap w0 B w5 (Res.row 5 1 (some ⟨g, 0, none⟩) li.length cap (bytesV (li.take 1 ++ li.take at_ ++ li.drop (at_ + 1))) :: G) -> K [(0, .slice (some ⟨g, 0, none⟩) li.length cap), (5, .int .u8 (li.getD at_ 0).toNat)] w5 by
  refine Qhe ?_
  refine Qs ?_
  by_cases hc1 : cap = 1
  ·
   have h0 : at_ = 0 := by omega
   subst h0
   rw [if_pos (by rw [hc1];rfl)]
   refine Qek hL 0 rfl Tryz.underlying43 sz5 (off := 0) rfl ⟨rfl, hsrc, 5, Tryz.underlying43⟩ (Qej _) (by simp) fun w5 hu hH4 => ?_
   refine hall w5 ?_
   rw [show li.take 1 ++ li.take 0 ++ li.drop (0 + 1) = li by rw [List.take_zero, List.append_nil];exact List.take_append_drop 1 li]
   simpa using hH4
  ·
   rw [if_neg (by rw [show Int.toNat 1 = 1 from rfl];exact hc1)]
   simp only [Option.map_some]
   refine Qek hL 0 rfl Tryz.underlying43 sz5 (off := 1) rfl ⟨rfl, hsrc, 5, Tryz.underlying43⟩ (Qej _) (by rw [Qc8, show Int.toNat 1 = 1 from rfl];omega) fun w5 hu hH4 => ?_
   refine hall w5 ?_
   have e : min at_ (at_ + 1 - Int.toNat 1) * 1 = at_ := by rw [show Int.toNat 1 = 1 from rfl];omega
   simp only [e, List.set_cons_zero] at hH4
   rw [Qbq, Qbq, <- bytesV_take, <- bytesV_drop]
   have e5 : (bytesV (li.take at_)).take at_ = bytesV (li.take at_) := List.take_of_length_le (by rw [Qc8, List.length_take];omega)
   rw [e5, show 1 + at_ = at_ + 1 by omega] at hH4
   exact hH4
 intro w5 hH
 apply hK;clear hK
 have hlen : (li.take 1 ++ li.take at_ ++ li.drop (at_ + 1)).length = li.length := by simp;omega
 have hmv : (li.take 1 ++ li.take at_ ++ li.drop (at_ + 1)).set 0 (li.getD at_ 0) = Qeb li at_ := by
  cases li with
  | nil => simp at hat
  | cons x r => simp [Qeb]
 generalize li.take 1 ++ li.take at_ ++ li.drop (at_ + 1) = li2 at *
 refine VQ [5] fun K hK => ?_
 refine Qp ?_
 refine Qac ?_;refine Qs ?_;refine Qbz hH 0 (o := (0)) (vs := [.int .u8 (li.getD at_ 0).toNat]) rfl (by first | exact (Qdn _ _ _).symm | rfl | simp [Qdn]) rfl (by kernel_rfl) (by first | omega | (simp;done) | (simp;omega) | (simp [bytesV, Qal];omega) | (rw [natsV_len];simp;omega)) (by simp [Value.oneCell']) fun w6 hH2 => ?_;(try refine Qs ?_)
 simp only [List.length_singleton, Qc4 (bytesV li2) _ _ (show 0 < (bytesV li2).length by rw [Qc8];omega), Qgd, List.set_cons_zero, hmv] at hH2
 apply hK;clear hK
 refine VS [4] ?_
 exact VC_ret (VX_ret1 rfl rfl ⟨hH2, rfl⟩)
def Qjz (l : List UInt8) (n : Nat) : List UInt8 := ((List.range n).filter fun b => l.any fun c => c.toNat == b).map UInt8.ofNat
def Qgh (l : List UInt8) : List UInt8 := Qjz l 256
theorem Qqf (l : List UInt8) (n : Nat) : Qjz l (n + 1) = Qjz l n ++ if (l.any fun c => c.toNat == n) then [UInt8.ofNat n] else [] := by
 unfold Qjz
 rw [List.range_succ, List.filter_append, List.map_append]
 congr 1
 by_cases h : (l.any fun c => c.toNat == n) = true
 ·
  rw [if_pos h, List.filter_cons_of_pos (p := fun b => l.any fun c => c.toNat == b) h];rfl
 ·
  rw [if_neg h, List.filter_cons_of_neg (p := fun b => l.any fun c => c.toNat == b) h];rfl
theorem Qrx (l : List UInt8) (n : Nat) : (Qjz l n).length <= n := by
 unfold Qjz
 rw [List.length_map]
 exact Nat.le_trans (List.length_filter_le _ _) (by simp)
theorem Qgi {li : List UInt8} {at_ : Nat} (h : at_ < li.length) : (Qeb li at_).length = li.length := by simp [Qeb];omega
def Qa4 : List UInt8 -> List Int -> Option (List UInt8)
 | _, [] => some []
 | li, v :: r => if 0 <= v /\ v < li.length then (Qa4 (Qeb li v.toNat) r).map (li.getD v.toNat 0 :: ·) else none
def Qbs (sym : List UInt8) (l : List Int) : List UInt8 × Int :=
 if Qhu sym = true then match Qa4 sym l with
  | none => ([], 60)
  | some out => (out, 0)
 else ([], 2)
theorem Qlu (l : List Int) (sym : List UInt8) (la : Option Addr) (lc : Nat) (hl : l.length <= 1000000000000) (hs : sym.length <= 1000000000000) (hi : ∀ v ∈ l, I64 v) (w : World) (hr : RS w la l.length 1 (Qal l)) :
  Does Tryz.prog 106 #[.slice la l.length lc, Str sym] w fun v w' => Heap w [] w' [] /\ v = .tuple #[Str (Qbs sym l).1, .int .i64 (Qbs sym l).2] := by
 refine En [.slice la l.length lc, Str sym] 41 Tryz.func106 ?_
 refine VS [0, 1] ?_
 refine VQ [0, 1, 12] fun K hK => ?_
 refine MemK_call Tryz.call73 ?_;refine Qs ?_;refine CallK.mk (Qn2 sym hs w) ?_
 rintro v w2 ⟨rfl, rfl⟩
 refine Qs ?_
 apply hK;clear hK
 refine Vi (fun h => ?_) (fun h => ?_)
 ·
  simp at h
  refine VS [4, 5] ?_
  exact VC_ret (Qaj rfl rfl rfl ⟨Heap.start _, by rw [Qbs, if_neg (by simp [h])]⟩)
 simp at h
 have hbs : Qbs sym l = match Qa4 sym l with
  | none => ([], 60)
  | some out => (out, 0) := by rw [Qbs, if_pos h]
 rw [hbs]
 clear hbs h
 generalize hfr : Qa4 sym l = res
 refine VC_skip ?_
 refine VQ [0, 6] fun K hK => ?_
 refine Qpt ?_
 refine Qs ?_
 refine Qpu (Heap.start w2) Tryz.underlying9 Tryz.underlying43 Tryz.underlying5 (by omega) fun gl cl w3 hH => ?_
 apply hK;clear hK
 refine VQ [0, 6, 7] fun K hK => ?_
 refine Qdc Tryz.underlying43 zi5 ?_
 refine Qs ?_
 refine ⟨0, l.length, ⟨rfl, rfl, by omega, by omega, by omega⟩, ?_⟩
 have hH1 := hH.row 5 (n := 0) (cap := l.length) (sz := 1) [] (List.replicate l.length (.int .u8 0)) (by simp) (by simp) (by omega) (by omega)
 simp only [List.nil_append] at hH1
 generalize w3.alloc (Obj.cells (List.replicate l.length (Value.int IntKind.u8 0)).toArray 5) = w4 at *
 generalize w3.heap.size = go at *
 apply hK;clear hK
 generalize hn : l.length = n at *
 refine VS [6, 7, 18, 19, 20] ?_
 have hsl : sym.length <= 1000000000000 := hs
 generalize hm0 : sym.length = sl_ at *
 refine Qaf ?_
 refine Qae [6, 7, 18, 19, 20] (fun m e w' => ∃ (k cap : Nat) (a : Option Addr) (li out : List UInt8), Is e [(6, .slice (some ⟨gl, 0, none⟩) sl_ cl), (7, .slice a out.length cap), (18, .slice la n lc), (19, .int .i64 n), (20, .int .i64 k)] /\ Heap w2 [] w' [Res.row 5 1 a out.length cap (bytesV out), Res.row 5 1 (some ⟨gl, 0, none⟩) sl_ cl (bytesV li)] /\ li.length = sl_ /\ k <= n /\ out.length = k /\ res = (Qa4 li (l.drop k)).map (out ++ ·) /\ m = n - k) n ?_ ?_
 ·
  refine Qs ?_
  exact ⟨0, n, _, sym, [], rfl, hH1, hm0, by omega, rfl, by rw [List.drop_zero, hfr];simp, rfl⟩
 clear hH hH1 hfr
 rintro m e w5 ⟨k, cap, a, li, out, rfl, hH, hli, hk, hol, hres, hm⟩
 refine VS [6, 7, 18, 19, 20, 21] ?_
 (repeat refine Qay ?_)
 refine VD (fun h => ?_) (fun h => ?_)
 ·
  have hdk : l.drop k = l.getD k 0 :: l.drop (k + 1) := Qa1 0 (by omega)
  rw [hdk, Qa4] at hres
  have hr5 := hH.rs' hr
  obtain ⟨pa, rfl⟩ := Qbe hr (by omega)
  have hi64 := hi _ (Qbl 0 (l := l) (i := k) (by omega))
  have hcell := Qde hr5 (i := k) (by omega)
  generalize l.getD k 0 = v at *
  refine VC_skip ?_
  refine VB ?_
  refine VQ [6, 7, 9, 18, 19, 20] fun K hK => ?_
  refine ⟨⟨by omega, by omega⟩, _, hcell, ?_⟩
  apply hK;clear hK
  refine VQ [6, 7, 9, 18, 19, 20, 31] fun K hK => ?_
  suffices hall : ∀ bb : Bool, (bb = true ↔ (v < 0 ∨ (sl_ : Int) <= v)) -> K [(6, .slice (some ⟨gl, 0, none⟩) sl_ cl), (7, .slice a out.length cap), (9, .int .i64 v), (18, .slice (some pa) n lc), (19, .int .i64 n), (20, .int .i64 k), (31, .bool bb)] w5 by (repeat' (first | exact hall _ _ (by first | omega | (simp;done) | (simp;omega)) | exact hall _ (by first | omega | (simp;done) | (simp;omega)) | refine ⟨fun _ => ?_, fun _ => ?_⟩ | refine Qo ?_))
  intro bb hbb
  apply hK;clear hK
  refine Vi (fun h => ?_) (fun h => ?_)
  ·
   have h2 := hbb.1 h
   rw [if_neg (by omega)] at hres
   subst hres
   refine VS [4, 5] ?_
   exact VC_ret (Qaj rfl rfl rfl ⟨hH.sub (by simp), rfl⟩)
  have h2 : ¬ (v < 0 ∨ (sl_ : Int) <= v) := fun h3 => by have := hbb.2 h3;simp_all
  rw [if_pos (by omega)] at hres
  obtain ⟨at_, rfl⟩ : ∃ p : Nat, v = p := ⟨v.toNat, by omega⟩
  rw [Int.toNat_natCast] at hres
  clear hbb h
  refine VC_skip ?_
  refine VQ [6, 7, 18, 19, 20] fun K hK => ?_
  have hc := Qqe li gl cl at_ (by omega) (by omega) w2 w5 [] _ (by rw [hli];exact hH.front 1 rfl)
  rw [hli] at hc
  refine MemK_call Tryz.call74 ?_;refine Qs ?_;refine CallK.mk hc ?_
  clear hc
  rintro v w7 ⟨hH2, rfl⟩
  have hH3 := hH2.front 1 rfl
  simp only [List.eraseIdx_cons_succ, List.eraseIdx_cons_zero] at hH3
  refine Qa6 (xs := [.tmp 35]) Tryz.underlying43 sz5 rfl rfl rfl (by omega) ?_;refine Qs ?_;refine ⟨by simp [Value.cells], ?_⟩
  refine Qai ?_;refine Qs ?_;refine Qc1 hH3 0 (li.getD at_ 0) rfl Tryz.underlying43 zi5 (by first | rfl | (simp;done) | omega) (fun h => by (first | omega | (simp;done) | (simp;omega))) fun a' cap' w5 hc' hH4 => ?_;(try refine Qs ?_)
  apply hK;clear hK
  refine Qam ?_
  refine VS [6, 7, 18, 19, 20] ?_
  refine Qab ?_
  refine Qs ?_
  refine ⟨n - (k + 1), by omega, k + 1, cap', a', Qeb li at_, out ++ [li.getD at_ 0], rfl, hH4, by rw [Qgi (by omega)];exact hli, by omega, by simp [hol], ?_, rfl⟩
  rw [hres, Option.map_map]
  congr 1
  funext x
  simp
 ·
  obtain rfl : k = n := by omega
  rw [List.drop_eq_nil_of_le (by omega), Qa4] at hres
  simp only [Option.map_some, List.append_nil] at hres
  subst hres
  refine Qag rfl ?_
  refine VQ [4, 5] fun K hK => ?_
  refine ⟨out, hH.readsBytes 0 rfl, ?_⟩
  apply hK;clear hK
  exact VC_ret (Qaj rfl rfl rfl ⟨hH.sub (by simp), rfl⟩)
theorem Qry {l : List UInt8} {c : UInt8} : c ∈ Qgh l ↔ c ∈ l := by
 simp only [Qgh, Qjz, List.mem_map, List.mem_filter, List.mem_range, List.any_eq_true, beq_iff_eq]
 constructor
 ·
  rintro ⟨b, ⟨hb, d, hd, rfl⟩, rfl⟩
  simpa using hd
 ·
  intro h
  exact ⟨c.toNat, ⟨c.toNat_lt, c, h, rfl⟩, by simp⟩
theorem Qvi : ∀ (l : List Nat), l.Pairwise (· < ·) -> (∀ b ∈ l, b < 256) -> ascB (l.map UInt8.ofNat) = true
 | [], _, _ => rfl
 | [_], _, _ => rfl
 | a :: b :: r, h, hb => by
  have h1 := List.pairwise_cons.1 h
  have ha := hb a (by simp)
  have hb1 := hb b (by simp)
  have h2 := h1.1 b (by simp)
  simp only [List.map_cons, ascB, Bool.and_eq_true, decide_eq_true_eq]
  refine ⟨by simp only [UInt8.toNat_ofNat'];omega, ?_⟩
  have := Qvi (b :: r) h1.2 fun x hx => hb x (by simp [hx])
  simpa using this
theorem Qn3 {l : List UInt8} (h : l ≠ []) : Qhu (Qgh l) = true := by
 have h1 : ascB (Qgh l) = true := Qvi _ (List.Pairwise.filter _ List.pairwise_lt_range) fun b hb => by simp at hb;exact hb.1
 have h2 : Qgh l ≠ [] := fun e => by
  cases l with
  | nil => exact h rfl
  | cons c r => have := (Qry (l := c :: r) (c := c)).2 (by simp);rw [e] at this;cases this
 rw [Qhu, h1]
 cases hu : Qgh l with
 | nil => exact absurd hu h2
 | cons => rfl
def Qfy (i : Nat) (row : List Bool) : List UInt8 := ((List.range 16).filter fun k => row.getD k false).map fun k => UInt8.ofNat (16 * i + k)
def stGo (bits : List Bool) : List Bool -> Nat -> Nat -> Except Int (List UInt8 × Nat)
 | [], _, at_ => .ok ([], at_)
 | false :: r, i, at_ => stGo bits r (i + 1) at_
 | true :: r, i, at_ => if bits.length < at_ + 16 then .error 10 else match stGo bits r (i + 1) (at_ + 16) with
  | .error e => .error e
  | .ok q => .ok (Qfy i ((bits.drop at_).take 16) ++ q.1, q.2)
def Qbi (bits : List Bool) (at_ : Nat) : Except Int (List UInt8 × Nat) :=
 if bits.length < at_ + 16 then .error 10 else match stGo bits ((bits.drop at_).take 16) 0 (at_ + 16) with
 | .error e => .error e
 | .ok q => if q.1 = [] then .error 60 else .ok q
theorem Qj0 {li r : List Nat} {k : Nat} (h : k < li.length) : Qcm (li ++ r) k = Qcm li k ++ r := by
 unfold Qcm
 rw [List.take_append_of_le_length (by omega), List.drop_append_of_le_length (by omega)]
 simp [List.getD_eq_getElem?_getD, List.getElem?_append_left h]
theorem Qrz : ∀ (l : List Bool) (most n : Nat), n <= most -> (unS l most n).2 = 0 -> (unS l most n).1 <= most
 | [], most, n, _, h => by simp [unS] at h
 | false :: r, most, n, hn, _ => by simpa [unS] using hn
 | true :: r, most, n, hn, h => by
  rw [unS] at h ⊢
  split
  ·
   rename_i e;rw [if_pos e] at h;simp at h
  ·
   rename_i e;rw [if_neg e] at h;exact Qrz r most (n + 1) (by omega) h
theorem Qlv (bits : List Bool) (many : Nat) (r : List Nat) : ∀ (k : Nat) (li : List Nat) (at_ : Nat), li.length = many -> 0 < many -> ptGo bits many (li ++ r) k at_ = ptGo bits many li k at_
 | 0, li, at_, _, _ => by rw [ptGo, ptGo]
 | k + 1, li, at_, hl, hm => by
  rw [ptGo, ptGo]
  by_cases h : (unS (bits.drop at_) (many - 1) 0).2 ≠ 0
  ·
   rw [if_pos h, if_pos h]
  ·
   rw [if_neg h, if_neg h]
   have hu := Qrz _ _ _ (Nat.zero_le _) (Decidable.not_not.1 h)
   rw [Qj0 (by omega), Qlv bits many r k _ _ (by rw [Qdx (by omega)];exact hl) hm]
   have e : (li ++ r).getD (unS (bits.drop at_) (many - 1) 0).1 0 = li.getD (unS (bits.drop at_) (many - 1) 0).1 0 := by
    simp [List.getD_eq_getElem?_getD, List.getElem?_append_left (show (unS (bits.drop at_) (many - 1) 0).1 < li.length by omega)]
   rw [e]
def getF (T : List (List Nat)) (bits : List Bool) (fin : Nat) (P : List Nat) : Nat -> Nat -> Nat -> Except Int (List Nat × Nat)
 | 0, _, _ => .error 110
 | k + 1, i, at_ => match Qdt (T.getD (P.getD (i / 50) 0) []) bits at_ with
  | .error e => .error e
  | .ok p => if p.1 = fin then .ok ([p.1], p.2) else match getF T bits fin P k (i + 1) p.2 with
   | .error e => .error e
   | .ok q => .ok (p.1 :: q.1, q.2)
def Qlw (T : List (List Nat)) (bits : List Bool) (fin : Nat) (p : Nat) (P' : List Nat) (r at_ : Nat) : Except Int (List Nat × Nat) :=
 match Qcp (T.getD p []) bits fin r at_ with
 | .error e => .error e
 | .ok q => if q.1.getLast? = some fin then .ok q else match Qcq T bits fin P' q.2 with
  | .error e => .error e
  | .ok q' => .ok (q.1 ++ q'.1, q'.2)
theorem Qi7 (T : List (List Nat)) (bits : List Bool) (fin : Nat) (P : List Nat) (p : Nat) (P' : List Nat) (j : Nat) (hp : P.getD j 0 = p)
  (hz : ∀ at_, getF T bits fin P (50 * P'.length) (50 * (j + 1)) at_ = Qcq T bits fin P' at_) :
  ∀ (r at_ : Nat), r <= 50 -> getF T bits fin P (r + 50 * P'.length) (50 * j + (50 - r)) at_ = Qlw T bits fin p P' r at_
 | 0, at_, _ => by
  rw [Nat.zero_add, show 50 * j + (50 - 0) = 50 * (j + 1) by omega, hz, Qlw, Qcp]
  simp only [List.getLast?_nil, reduceCtorEq, if_false, List.nil_append]
  cases Qcq T bits fin P' at_ <;> rfl
 | r + 1, at_, hr => by
  rw [show r + 1 + 50 * P'.length = (r + 50 * P'.length) + 1 by omega, getF, Qlw, Qcp, show (50 * j + (50 - (r + 1))) / 50 = j by omega, hp]
  cases hn : Qdt (T.getD p []) bits at_ with
  | error e => rfl
  | ok x =>
   simp only
   by_cases hx : x.1 = fin
   ·
    rw [if_pos hx, if_pos hx]
    simp [hx]
   ·
    rw [if_neg hx, if_neg hx, show 50 * j + (50 - (r + 1)) + 1 = 50 * j + (50 - r) by omega, Qi7 T bits fin P p P' j hp hz r x.2 (by omega), Qlw]
    cases Qcp (T.getD p []) bits fin r x.2 with
    | error e => rfl
    | ok q =>
     obtain ⟨q1, q2⟩ := q
     simp only
     have e : (x.1 :: q1).getLast? = some fin ↔ q1.getLast? = some fin := by
      cases q1 with
      | nil => simp [hx]
      | cons y q1 => rw [List.getLast?_cons_cons]
     by_cases hl : q1.getLast? = some fin
     ·
      rw [if_pos hl, if_pos (e.2 hl)]
     ·
      rw [if_neg hl, if_neg fun h => hl (e.1 h)]
      cases Qcq T bits fin P' q2 <;> rfl
theorem Qr0 (T : List (List Nat)) (bits : List Bool) (fin : Nat) (P : List Nat) : ∀ (P' : List Nat) (j : Nat), P.drop j = P' -> ∀ at_, getF T bits fin P (50 * P'.length) (50 * j) at_ = Qcq T bits fin P' at_
 | [], j, _, at_ => rfl
 | p :: P', j, h, at_ => by
  have hp : P.getD j 0 = p := by
   have := congrArg (fun l => l.getD 0 0) h
   simpa [List.getD_eq_getElem?_getD] using this
  have hd : P.drop (j + 1) = P' := by
   have : P.drop (j + 1) = (P.drop j).drop 1 := by rw [List.drop_drop]
   rw [this, h];rfl
  have := Qi7 T bits fin P p P' j hp (Qr0 T bits fin P P' (j + 1) hd) 50 at_ (by omega)
  rw [show 50 * (p :: P').length = 50 + 50 * P'.length by rw [List.length_cons];omega, show 50 * j = 50 * j + (50 - 50) by omega, this, Qlw, Qcq] <;> rfl
theorem Qyu (T : List (List Nat)) (bits : List Bool) (fin : Nat) (P : List Nat) (at_ : Nat) : getF T bits fin P (50 * P.length) 0 at_ = Qcq T bits fin P at_ := Qr0 T bits fin P P 0 rfl at_
theorem Qfz : ∀ (l m : List Nat), l.Pairwise (· < ·) -> m.Pairwise (· < ·) -> (∀ x, x ∈ l ↔ x ∈ m) -> l = m
 | [], [], _, _, _ => rfl
 | [], b :: m, _, _, h => by have := (h b).2 (by simp);cases this
 | a :: l, [], _, _, h => by have := (h a).1 (by simp);cases this
 | a :: l, b :: m, hl, hm, h => by
  rw [List.pairwise_cons] at hl hm
  have hab : a = b := by
   have h1 := (h a).1 (by simp)
   have h2 := (h b).2 (by simp)
   rcases List.mem_cons.1 h1 with e | h1
   ·
    exact e
   ·
    rcases List.mem_cons.1 h2 with e | h2
    ·
     exact e.symm
    ·
     have := hl.1 b h2;have := hm.1 a h1;omega
  subst hab
  congr 1
  refine Qfz l m hl.2 hm.2 fun x => ?_
  have hx := h x
  simp only [List.mem_cons] at hx
  constructor
  ·
   intro hm1
   have := hl.1 x hm1
   rcases hx.1 (.inr hm1) with e | e
   ·
    omega
   ·
    exact e
  ·
   intro hm1
   have := hm.1 x hm1
   rcases hx.2 (.inr hm1) with e | e
   ·
    omega
   ·
    exact e
theorem Qlx {L : List Nat} (h1 : L.Pairwise (· < ·)) (h2 : ∀ x ∈ L, x < 256) : Qgh (L.map UInt8.ofNat) = L.map UInt8.ofNat := by
 unfold Qgh Qjz
 congr 1
 refine Qfz _ _ (List.Pairwise.filter _ List.pairwise_lt_range) h1 fun x => ?_
 rw [List.mem_filter, List.mem_range, List.any_eq_true]
 constructor
 ·
  rintro ⟨a, c, hc, e⟩
  obtain ⟨y, hy, rfl⟩ := List.mem_map.1 hc
  have := h2 y hy
  simp only [UInt8.toNat_ofNat', Nat.reducePow, beq_iff_eq] at e
  rw [Nat.mod_eq_of_lt this] at e
  subst e;exact hy
 ·
  intro hx
  have := h2 x hx
  refine ⟨this, UInt8.ofNat x, List.mem_map.2 ⟨x, hx, rfl⟩, ?_⟩
  simp only [UInt8.toNat_ofNat', Nat.reducePow, beq_iff_eq]
  exact Nat.mod_eq_of_lt this
theorem Qfh (bits : List Bool) : ∀ (r : List Bool) (i at_ : Nat) (q : List UInt8 × Nat), i + r.length <= 16 -> stGo bits r i at_ = .ok q -> ∃ L : List Nat, q.1 = L.map UInt8.ofNat /\ L.Pairwise (· < ·) /\ ∀ x ∈ L, 16 * i <= x /\ x < 256
 | [], i, at_, q, _, h => by rw [stGo] at h;cases h;exact ⟨[], rfl, .nil, by simp⟩
 | false :: r, i, at_, q, hl, h => by
  rw [stGo] at h
  obtain ⟨L, h1, h2, h3⟩ := Qfh bits r (i + 1) at_ q (by simp at hl;omega) h
  exact ⟨L, h1, h2, fun x hx => by have := h3 x hx;omega⟩
 | true :: r, i, at_, q, hl, h => by
  rw [stGo] at h
  split at h
  ·
   cases h
  ·
   split at h
   ·
    cases h
   ·
    rename_i q' hq
    cases h
    obtain ⟨L, h1, h2, h3⟩ := Qfh bits r (i + 1) _ q' (by simp at hl;omega) hq
    simp only [List.length_cons] at hl
    refine ⟨(((List.range 16).filter fun k => ((bits.drop at_).take 16).getD k false).map fun k => 16 * i + k) ++ L, ?_, ?_, ?_⟩
    ·
     rw [List.map_append, <- h1, Qfy, List.map_map];rfl
    ·
     rw [List.pairwise_append]
     refine ⟨?_, h2, ?_⟩
     ·
      rw [List.pairwise_map]
      exact (List.Pairwise.filter _ List.pairwise_lt_range).imp fun {a b} h => by omega
     ·
      intro a ha b hb
      obtain ⟨k, hk, rfl⟩ := List.mem_map.1 ha
      have := List.mem_range.1 (List.mem_filter.1 hk).1
      have := h3 b hb
      omega
    ·
     intro x hx
     rcases List.mem_append.1 hx with hx | hx
     ·
      obtain ⟨k, hk, rfl⟩ := List.mem_map.1 hx
      have := List.mem_range.1 (List.mem_filter.1 hk).1
      omega
     ·
      have := h3 x hx;omega
theorem Qj1 {bits : List Bool} {at_ : Nat} {u : List UInt8 × Nat} (h : Qbi bits at_ = .ok u) : Qgh u.1 = u.1 /\ u.1 ≠ [] := by
 unfold Qbi at h
 split at h
 ·
  cases h
 ·
  rename_i h0
  split at h
  ·
   cases h
  ·
   rename_i q hq
   split at h
   ·
    cases h
   ·
    rename_i hne
    cases h
    obtain ⟨L, h1, h2, h3⟩ := Qfh bits _ _ _ _ (by rw [List.length_take];omega) hq
    refine ⟨?_, hne⟩
    rw [h1]
    exact Qlx h2 fun x hx => (h3 x hx).2
theorem Qly : ∀ (l : List Int) (li : List UInt8), (∀ v ∈ l, 0 <= v /\ v < li.length) -> ∃ out, Qa4 li l = some out
 | [], li, _ => ⟨[], by rw [Qa4]⟩
 | x :: l, li, h => by
  have hx := h x (by simp)
  obtain ⟨o, ho⟩ := Qly l (Qeb li x.toNat) fun v hv => by
   rw [Qgi (by omega)];exact h v (by simp [hv])
  refine ⟨li.getD x.toNat 0 :: o, ?_⟩
  rw [Qa4, if_pos hx, ho];rfl
def ordN (l : List Nat) : Nat -> List Nat
 | 0 => []
 | n + 1 => ordN l n ++ idxs l (n + 1)
def begS (l : List Nat) (n : Nat) : Nat := (ordN l (n - 1)).length
theorem Qn4 (l : List Nat) {m n : Nat} (h : m <= n) : ∃ r, ordN l n = ordN l m ++ r := by
 induction n with
 | zero => exact ⟨[], by rw [show m = 0 by omega];simp⟩
 | succ n ih =>
  rcases Nat.lt_or_ge m (n + 1) with h1 | h1
  ·
   obtain ⟨r, hr⟩ := ih (by omega)
   exact ⟨_, by rw [ordN, hr, List.append_assoc]⟩
  ·
   exact ⟨[], by rw [show m = n + 1 by omega];simp⟩
theorem Quk (l : List Nat) {n L j : Nat} (hn : 1 <= n) (hL : n <= L) (hj : j < cnt l n) : begS l n + j < (ordN l L).length /\ (ordN l L).getD (begS l n + j) 0 = (idxs l n).getD j 0 := by
 obtain ⟨r, hr⟩ := Qn4 l hL
 obtain ⟨m, rfl⟩ : ∃ m, n = m + 1 := ⟨n - 1, by omega⟩
 have hb : begS l (m + 1) = (ordN l m).length := by rw [begS, Nat.add_sub_cancel]
 have hj' : j < (idxs l (m + 1)).length := hj
 rw [hr, ordN, hb]
 constructor
 ·
  simp only [List.length_append];omega
 ·
  rw [List.append_assoc, List.getD_eq_getElem?_getD, List.getElem?_append_right (by omega), Nat.add_sub_cancel_left, List.getElem?_append_left hj', List.getD_eq_getElem?_getD]
theorem Qul {l : List Nat} {n : Nat} (h : maxL l < n) : cnt l n = 0 := by
 rw [cnt, List.length_eq_zero_iff, List.eq_nil_iff_forall_not_mem]
 intro i hi
 obtain ⟨h1, h2⟩ := Qjy.1 hi
 have := Qnw.1 (Nat.le_refl (maxL l)) _ (Qbl 0 h1)
 omega
theorem Qov (l : List Nat) (n : Nat) : (ordN l n).length <= n * l.length := by
 induction n with
 | zero => simp [ordN]
 | succ n ih =>
  have := Qor l (n + 1) l.length
  rw [ordN, List.length_append, Nat.succ_mul]
  unfold idxs
  omega
def Qbx (sv ov : Value) (F Bg C : List Nat) : List Value := sv :: ov :: (Qas F ++ (Qas Bg ++ Qas C))
section
variable {sv ov : Value} {F Bg C : List Nat}
theorem Qum (hF : F.length = 22) {n : Nat} (hn : n < 22) : (Qbx sv ov F Bg C)[2 + n]? = some (.int .i64 (F.getD n 0 : Nat)) := by
 rw [Qbx, Nat.add_comm, List.getElem?_cons_succ, List.getElem?_cons_succ, List.getElem?_append_left (by rw [Qaw];omega), Qce (by omega)]
theorem Qun (hF : F.length = 22) (hB : Bg.length = 22) {n : Nat} (hn : n < 22) : (Qbx sv ov F Bg C)[24 + n]? = some (.int .i64 (Bg.getD n 0 : Nat)) := by
 rw [Qbx, show 24 + n = (22 + n + 1) + 1 by omega, List.getElem?_cons_succ, List.getElem?_cons_succ, List.getElem?_append_right (by rw [Qaw];omega), Qaw, hF, Nat.add_sub_cancel_left, List.getElem?_append_left (by rw [Qaw];omega), Qce (by omega)]
theorem Qow (hF : F.length = 22) (hB : Bg.length = 22) (hC : C.length = 22) {n : Nat} (hn : n < 22) : (Qbx sv ov F Bg C)[46 + n]? = some (.int .i64 (C.getD n 0 : Nat)) := by
 rw [Qbx, show 46 + n = (44 + n + 1) + 1 by omega, List.getElem?_cons_succ, List.getElem?_cons_succ, List.getElem?_append_right (by rw [Qaw];omega), Qaw, hF, List.getElem?_append_right (by rw [Qaw];omega), Qaw, hB, show 44 + n - 22 - 22 = n by omega, Qce (by omega)]
theorem Qhv (hF : F.length = 22) (hB : Bg.length = 22) (hC : C.length = 22) : (Qbx sv ov F Bg C).length = 68 := by simp [Qbx, Qaw, hF, hB, hC]
theorem Qyv (hF : F.length = 22) {n x : Nat} (hn : n < 22) : (Qbx sv ov F Bg C).set (2 + n) (.int .i64 (x : Nat)) = Qbx sv ov (F.set n x) Bg C := by
 rw [Qbx, Nat.add_comm, List.set_cons_succ, List.set_cons_succ, List.set_append_left _ _ (by rw [Qaw];omega), Qes];rfl
theorem Qyw (hF : F.length = 22) (hB : Bg.length = 22) {n x : Nat} (hn : n < 22) : (Qbx sv ov F Bg C).set (24 + n) (.int .i64 (x : Nat)) = Qbx sv ov F (Bg.set n x) C := by
 rw [Qbx, show 24 + n = (22 + n + 1) + 1 by omega, List.set_cons_succ, List.set_cons_succ, List.set_append_right _ _ (by rw [Qaw];omega), Qaw, hF, Nat.add_sub_cancel_left, List.set_append_left _ _ (by rw [Qaw];omega), Qes];rfl
theorem Qyx (hF : F.length = 22) (hB : Bg.length = 22) (hC : C.length = 22) {n x : Nat} (hn : n < 22) : (Qbx sv ov F Bg C).set (46 + n) (.int .i64 (x : Nat)) = Qbx sv ov F Bg (C.set n x) := by
 rw [Qbx, show 46 + n = (44 + n + 1) + 1 by omega, List.set_cons_succ, List.set_cons_succ, List.set_append_right _ _ (by rw [Qaw];omega), Qaw, hF, List.set_append_right _ _ (by rw [Qaw];omega), Qaw, hB, show 44 + n - 22 - 22 = n by omega, Qes];rfl
end
theorem Qr1 {α : Type} (f : Nat -> α) (n : Nat) (d : α) (i : Nat) (h : i < n) : ((List.range n).map f).getD i d = f i := by
 rw [List.getD_eq_getElem?_getD, List.getElem?_map, List.getElem?_range h];rfl
def upTo (f : Nat -> Nat) (n : Nat) : List Nat := (List.range 22).map fun j => if j < n then f j else 0
theorem Qdp (f : Nat -> Nat) (n : Nat) : (upTo f n).length = 22 := by simp [upTo]
theorem Qox (f : Nat -> Nat) {n j : Nat} (hj : j < 22) : (upTo f n).getD j 0 = if j < n then f j else 0 := Qr1 _ _ _ _ hj
theorem Qj2 (f : Nat -> Nat) (n : Nat) (hn : n < 22) : (upTo f n).set n (f n) = upTo f (n + 1) := by
 apply List.ext_getElem
 ·
  simp [upTo]
 ·
  intro j h1 h2
  have hj : j < 22 := by simpa [upTo] using h2
  rw [List.getElem_set]
  simp only [upTo, List.getElem_map, List.getElem_range]
  by_cases e : n = j
  ·
   subst e;rw [if_pos rfl, if_pos (by omega)]
  ·
   rw [if_neg e]
   by_cases h3 : j < n
   ·
    rw [if_pos h3, if_pos (by omega)]
   ·
    rw [if_neg h3, if_neg (by omega)]
theorem Qgs (l : List Nat) (hs : l.length <= 1000000000) (a : Option Addr) (lc : Nat) (w : World) (hr : RS w a l.length 1 (Qas l)) :
  Does Tryz.prog 166 #[.agg #[.slice a l.length lc]] w fun v w' => Heap w [] w' [] /\ v = .int .i64 (maxL l : Nat) := by
 have hen : #[Value.agg #[Value.slice a l.length lc]] = [Value.agg [Value.slice a l.length lc].toArray].toArray := rfl
 rw [hen]
 refine Qc7 18 Tryz.func166 rfl rfl (of_decide_eq_true rfl) ?_
 simp only [Env.ofArgs]
 generalize hn : l.length = n at *
 refine VQ [1] fun K hK => ?_
 refine Qc0 ?_
 refine Qs ?_
 have hH := (Heap.start w).box 204 [.slice a n lc]
 generalize w.alloc (Obj.cells [Value.slice a n lc].toArray 204) = w1 at *
 generalize w.heap.size = gz at *
 apply hK;clear hK
 refine VS [1, 3] ?_
 refine VQ [3, 7, 8, 9] fun K hK => ?_
 refine ⟨_, Qah (hH.at 0 rfl) rfl, ?_⟩
 refine Qs ?_
 apply hK;clear hK
 refine Qaf ?_
 refine Qae [3, 7, 8, 9] (fun m e w' => ∃ (i : Nat), Is e [(3, .int .i64 (maxL (l.take i) : Nat)), (7, .slice a n lc), (8, .int .i64 n), (9, .int .i64 i)] /\ Is w' w1 /\ i <= n /\ m = n - i) n ?_ ?_
 ·
  refine Qs ?_
  exact ⟨0, rfl, rfl, by omega, rfl⟩
 rintro m e w' ⟨i, rfl, rfl, hi, rfl⟩
 refine VS [3, 7, 8, 9, 10] ?_
 (repeat refine Qay ?_)
 refine VD (fun h => ?_) (fun h => ?_)
 ·
  obtain ⟨p, rfl⟩ := Qbe hr (by omega)
  have hcell := Qea (hH.rs' hr) (i := i) (by omega)
  have hs2 := Qii (l := l) (i := i) (by omega)
  refine VC_skip ?_
  refine VB ?_
  refine VQ [3, 5, 7, 8, 9] fun K hK => ?_
  refine ⟨⟨by omega, by omega⟩, _, hcell, ?_⟩
  apply hK;clear hK
  refine VQ [3, 7, 8, 9] fun K hK => ?_
  rw [show max ((maxL (l.take i) : Nat) : Int) ((l.getD i 0 : Nat) : Int) = ((maxL (l.take (i + 1)) : Nat) : Int) by rw [hs2];omega]
  apply hK;clear hK
  refine Qam ?_
  refine VS [3, 7, 8, 9] ?_
  refine Qab ?_
  refine Qs ?_
  exact ⟨n - (i + 1), by omega, i + 1, rfl, rfl, by omega, rfl⟩
 ·
  refine Qag rfl ?_
  refine VS [2] ?_
  refine VC_ret (VX_ret1 rfl rfl ⟨hH.sub (by simp), ?_⟩)
  rw [List.take_of_length_le (by omega)]
end Go.Proofs.YtfphmlhgebpojaaGreat
