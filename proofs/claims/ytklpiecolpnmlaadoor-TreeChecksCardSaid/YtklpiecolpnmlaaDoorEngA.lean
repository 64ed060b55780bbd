/- A program logic over the model: what is left to do, what is known of the frame, what the call holds of memory. No conditions: a library of lemmas. -/
import Derived.WalkKit
import Derived.Deep.Quiet
import Derived.Lib.Hide
set_option linter.unusedSimpArgs false
set_option linter.unusedVariables false
/-! The engine, part 1: what is known of a frame, what is left to do, and the rules of control. -/
namespace Go.Eng
open Go

/-- What is known of a frame: slot, value; the first of a slot counts. -/
abbrev Env := List (Nat × Value)

def Env.find? : Env → Nat → Option Value
  | [], _ => none
  | p :: e, n => if n = p.1 then some p.2 else Env.find? e n

def Env.put (e : Env) (d : Option Tmp) (v : Value) : Env :=
  match d with
  | some t => (t, v) :: e
  | none => e

/-- Only these slots are kept. -/
def Env.keep (ks : List Nat) (e : Env) : Env := e.filter fun p => ks.contains p.1

structure Fits (N : Nat) (e : Env) (a : Act) : Prop where
  size : a.tmps.size = N
  defers : a.defers = []
  at_ : ∀ t v, e.find? t = some v → a.tmps.getD t undef = v

theorem Env.find?_cons (p : Nat × Value) (e : Env) (n : Nat) : Env.find? (p :: e) n = if n = p.1 then some p.2 else Env.find? e n := rfl

theorem Fits.put {N : Nat} {e : Env} {a : Act} (h : Fits N e a) (d : Option Tmp) (v : Value) (hd : ∀ t, d = some t → t < N) : Fits N (e.put d v) (a.put d v) := by
  cases d with
  | none => exact h
  | some t =>
    have ht := hd t rfl
    refine ⟨by simp [Act.put, h.size], by simp [Act.put, h.defers], fun s u hs => ?_⟩
    simp only [Env.put, Env.find?_cons] at hs
    simp only [Act.put]
    by_cases hst : s = t
    · subst hst
      simp at hs
      subst hs
      simp [h.size, ht]
    · simp [hst] at hs
      have := h.at_ s u hs
      rw [Array.getD_eq_getD_getElem?] at this ⊢
      rw [Array.getElem?_setIfInBounds]
      rw [if_neg (fun x => hst x.symm)]
      exact this

theorem Fits.weaken {N : Nat} {e e' : Env} {a : Act} (h : Fits N e a) (hs : ∀ t v, e'.find? t = some v → e.find? t = some v) : Fits N e' a :=
  ⟨h.size, h.defers, fun t v ht => h.at_ t v (hs t v ht)⟩

theorem Env.find?_keep (ks : List Nat) (e : Env) (t : Nat) (v : Value) (h : (e.keep ks).find? t = some v) : e.find? t = some v := by
  induction e with
  | nil => simp [Env.keep, Env.find?] at h
  | cons p e ih =>
    simp only [Env.keep, List.filter_cons] at h
    simp only [Env.find?_cons]
    by_cases hp : ks.contains p.1 = true
    · simp only [hp, if_true, Env.find?_cons] at h
      by_cases ht : t = p.1
      · simp only [ht, if_true] at h ⊢; exact h
      · simp only [ht, if_false] at h ⊢; exact ih h
    · simp only [hp] at h
      have hm := ih (by simpa [Env.keep] using h)
      by_cases ht : t = p.1
      · exfalso
        -- a slot that is kept is in the list
        have key : ∀ (l : Env), (Env.keep ks l).find? t = some v → ks.contains t = true := by
          intro l
          induction l with
          | nil => intro h0; simp [Env.keep, Env.find?] at h0
          | cons q l ihl =>
            intro h0
            simp only [Env.keep, List.filter_cons] at h0
            by_cases hq : ks.contains q.1 = true
            · simp only [hq, if_true, Env.find?_cons] at h0
              by_cases htq : t = q.1
              · rw [htq]; exact hq
              · simp only [htq, if_false] at h0; exact ihl h0
            · simp only [hq] at h0; exact ihl (by simpa [Env.keep] using h0)
        exact hp (ht ▸ key e (by simpa [Env.keep] using h))
      · simp only [ht, if_false]; exact hm

theorem Fits.keep {N : Nat} {e : Env} {a : Act} (h : Fits N e a) (ks : List Nat) : Fits N (e.keep ks) a :=
  h.weaken fun t v ht => Env.find?_keep ks e t v ht

/-- What is left to do. -/
inductive It where
  | code (c : Code)
  | blk (id : Nat)
  | again (I : Env → World → Prop)

/-- A function's call: its program, its text, what it must end in, how many slots its frame has. -/
structure Ctx where
  P : Program
  fn : Func
  F : Value → World → Prop
  N : Nat

/-- What a call must end in: draws are not counted. -/
def endsIn (F : Value → World → Prop) (e : Ending) (w' : World) : Prop := ∃ v w n, e = .returned v ∧ w' = w.drewN n ∧ F v w

/-- WHAT A CALL DOES, whatever was drawn before. -/
def Does (P : Program) (f : FuncId) (args : Array Value) (w : World) (F : Value → World → Prop) : Prop :=
  ∀ n, Calls P f args (w.drewN n) (endsIn F)

theorem Does.mono {P : Program} {f : FuncId} {args : Array Value} {w : World} {F G : Value → World → Prop} (h : Does P f args w F) (hg : ∀ v w', F v w' → G v w') : Does P f args w G :=
  fun n => (h n).mono fun _ _ ⟨v, w', m, he, hw, hF⟩ => ⟨v, w', m, he, hw, hg v w' hF⟩

theorem drewN0 (w : World) : w.drewN 0 = w := rfl

def cont (C : Ctx) : List It → Exit → Act → World → Prop
  | [], ex, a, w => bodyPost C.P C.fn (endsIn C.F) ex a w
  | .code c :: k, ex, a, w => match ex with
    | .normal => c.wp C.P (fun ex a w => cont C k ex a w) a w
    | ex => cont C k ex a w
  | .blk id :: k, ex, a, w => match ex with
    | .exit id' => if id' = id then cont C k .normal a w else cont C k (.exit id') a w
    | ex => cont C k ex a w
  | .again I :: k, ex, a, w => match ex with
    | .normal => ∃ e w0 n, w = w0.drewN n ∧ Fits C.N e a ∧ I e w0
    | ex => cont C k ex a w

/-- WHAT IS LEFT TO DO, from this world on (whatever was drawn), with this known of the frame, comes to what must be. -/
def VC (C : Ctx) (k : List It) (e : Env) (w : World) : Prop := ∀ a n, Fits C.N e a → cont C k .normal a (w.drewN n)
def VX (C : Ctx) (k : List It) (ex : Exit) (e : Env) (w : World) : Prop := ∀ a n, Fits C.N e a → cont C k ex a (w.drewN n)

section
variable {C : Ctx} {k : List It} {e : Env} {w : World}

theorem cont_code (c : Code) (k : List It) (ex : Exit) (a : Act) (w : World) :
    cont C (.code c :: k) ex a w = Exit.then (fun a w => c.wp C.P (fun ex a w => cont C k ex a w) a w) (fun ex a w => cont C k ex a w) ex a w := by
  cases ex <;> rfl

theorem VC_seq {x y : Code} (h : VC C (.code x :: .code y :: k) e w) : VC C (.code (.seq x y) :: k) e w := by
  intro a n ha
  have h1 := h a n ha
  simp only [cont] at h1 ⊢
  refine wp_seq (wp_mono h1 fun ex a w hq => ?_)
  cases ex <;> exact hq

theorem VC_block {id : Nat} {c : Code} (h : VC C (.code c :: .blk id :: k) e w) : VC C (.code (.block id c) :: k) e w := by
  intro a n ha
  have h1 := h a n ha
  simp only [cont] at h1 ⊢
  refine wp_block (wp_mono h1 fun ex a w hq => ?_)
  cases ex <;> exact hq

theorem VC_blk {id : Nat} (h : VC C k e w) : VC C (.blk id :: k) e w := fun a n ha => h a n ha
theorem VC_skip (h : VC C k e w) : VC C (.code .skip :: k) e w := fun a n ha => wp_skip (h a n ha)
theorem VC_label {l : Nat} (h : VC C k e w) : VC C (.code (.label l) :: k) e w := fun a n ha => wp_label (h a n ha)
theorem VC_again {I : Env → World → Prop} (h : I e w) : VC C (.again I :: k) e w := fun _ n ha => ⟨e, w, n, rfl, ha, h⟩

/-- Where an exit leads. -/
def popTo (id : Nat) : List It → Option (List It)
  | [] => none
  | .blk id' :: k => if id = id' then some k else popTo id k
  | .code _ :: k => popTo id k
  | .again _ :: k => popTo id k

theorem cont_popTo {id : Nat} {k k' : List It} (hp : popTo id k = some k') {a : Act} (h : cont C k' .normal a w) : cont C k (.exit id) a w := by
  induction k with
  | nil => simp [popTo] at hp
  | cons x k ih =>
    cases x with
    | code c => exact ih (by simpa [popTo] using hp)
    | again I => exact ih (by simpa [popTo] using hp)
    | blk id' =>
      simp only [cont]
      by_cases hid : id = id'
      · simp only [popTo, hid, if_true] at hp
        cases hp
        simp only [hid, if_true]; exact h
      · simp only [popTo, hid, if_false] at hp
        simp only [hid, if_false]; exact ih hp

theorem VC_exit {id : Nat} {k' : List It} (hp : popTo id k = some k') (h : VC C k' e w) : VC C (.code (.exit id) :: k) e w :=
  fun a n ha => wp_exit (cont_popTo hp (h a n ha))

theorem cont_ret {k : List It} {a : Act} (h : bodyPost C.P C.fn (endsIn C.F) .ret a w) : cont C k .ret a w := by
  induction k with
  | nil => exact h
  | cons x k ih => cases x <;> exact ih

theorem VC_ret (h : VX C [] .ret e w) : VC C (.code .ret :: k) e w := fun a n ha => wp_ret (cont_ret (h a n ha))
theorem VC_nil (h : VX C [] .ret e w) : VC C [] e w := fun a n ha => h a n ha

theorem VX_ret0 (hr : C.fn.results = #[]) (h : C.F (.tuple #[]) w) : VX C [] .ret e w :=
  fun _ n ha => ⟨ha.defers, _, results_none hr _ _ _, _, w, n, rfl, rfl, h⟩
theorem VX_ret1 {t : Tmp} {v : Value} (hr : C.fn.results = #[.tmp t]) (hv : e.find? t = some v) (h : C.F v w) : VX C [] .ret e w :=
  fun _ n ha => ⟨ha.defers, _, results_tmp hr _ _ _, _, w, n, rfl, rfl, by rw [ha.at_ t v hv]; exact h⟩
theorem VX_ret2 {t u : Tmp} {v x : Value} (hr : C.fn.results = #[.tmp t, .tmp u]) (hv : e.find? t = some v) (hx : e.find? u = some x) (h : C.F (.tuple #[v, x]) w) : VX C [] .ret e w :=
  fun _ n ha => ⟨ha.defers, _, results_tmp2 hr _ _ _, _, w, n, rfl, rfl, by rw [ha.at_ t v hv, ha.at_ u x hx]; exact h⟩
theorem results_tmp3' {fn : Func} {t u s : Tmp} (h : fn.results = #[.tmp t, .tmp u, .tmp s]) (tmps : Array Value) (P : Program) (w : World) :
    (results fn tmps).run P w = .ok (.tuple #[tmps.getD t undef, tmps.getD u undef, tmps.getD s undef]) w := by
  simp [results, h]
theorem VX_ret3 {t u s : Tmp} {v x y : Value} (hr : C.fn.results = #[.tmp t, .tmp u, .tmp s]) (hv : e.find? t = some v) (hx : e.find? u = some x) (hy : e.find? s = some y)
    (h : C.F (.tuple #[v, x, y]) w) : VX C [] .ret e w :=
  fun _ n ha => ⟨ha.defers, _, results_tmp3' hr _ _ _, _, w, n, rfl, rfl, by rw [ha.at_ t v hv, ha.at_ u x hx, ha.at_ s y hy]; exact h⟩
theorem results_tmp4' {fn : Func} {t u s r : Tmp} (h : fn.results = #[.tmp t, .tmp u, .tmp s, .tmp r]) (tmps : Array Value) (P : Program) (w : World) :
    (results fn tmps).run P w = .ok (.tuple #[tmps.getD t undef, tmps.getD u undef, tmps.getD s undef, tmps.getD r undef]) w := by
  simp [results, h]
theorem VX_ret4 {t u s r : Tmp} {v x y z : Value} (hr : C.fn.results = #[.tmp t, .tmp u, .tmp s, .tmp r]) (hv : e.find? t = some v) (hx : e.find? u = some x) (hy : e.find? s = some y) (hz : e.find? r = some z)
    (h : C.F (.tuple #[v, x, y, z]) w) : VX C [] .ret e w :=
  fun _ n ha => ⟨ha.defers, _, results_tmp4' hr _ _ _, _, w, n, rfl, rfl, by rw [ha.at_ t v hv, ha.at_ u x hx, ha.at_ s y hy, ha.at_ r z hz]; exact h⟩

theorem VC_cond {c : Operand} {t : Tmp} {b : Bool} {x y : Code} (hc : c = .tmp t) (hv : e.find? t = some (.bool b))
    (ht : b = true → VC C (.code x :: k) e w) (hf : b = false → VC C (.code y :: k) e w) : VC C (.code (.cond c x y) :: k) e w := by
  intro a n ha
  subst hc
  exact wp_cond_split (t := b) (ha.at_ t _ hv) (fun h => ht h a n ha) (fun h => hf h a n ha)

theorem VC_weaken {e' : Env} (hs : ∀ t v, e'.find? t = some v → e.find? t = some v) (h : VC C k e' w) : VC C k e w :=
  fun a n ha => h a n (ha.weaken hs)

theorem VC_keep (ks : List Nat) (h : VC C k (e.keep ks) w) : VC C k e w := fun a n ha => h a n (ha.keep ks)
end

/-- A loop, its rounds counted down by a number that may hang on anything. -/
theorem wp_loop_any {P : Program} {Q : Exit → Act → World → Prop} {a : Act} {w : World} {c : Code} (I : Nat → Act → World → Prop) (n : Nat) (h₀ : I n a w)
    (round : ∀ n a w, I n a w → c.wp P (Exit.then (fun a' w' => ∃ m, m < n ∧ I m a' w') Q) a w) : (Code.loop c).wp P Q a w := by
  intro b k cs
  have key : ∀ n a w, I n a w →
      ∃ e a' w', Q e a' w' ∧ Arrives P (lone (b.at a (.code c :: .inLoop c :: k)) cs w) b k cs e a' w' := by
    intro n
    induction n using Nat.strongRecOn with
    | _ n ih =>
      intro a w hI
      obtain ⟨e, a₁, w₁, hq, harr⟩ := round n a w hI b (.inLoop c :: k) cs
      cases e with
      | normal =>
        obtain ⟨m, hlt, hI₁⟩ := hq
        obtain ⟨e₂, a₂, w₂, hq₂, harr₂⟩ := ih m hlt a₁ w₁ hI₁
        exact ⟨e₂, a₂, w₂, hq₂, .of_steps (Steps.trans harr (.one step_inLoop)) harr₂⟩
      | exit id => exact ⟨_, a₁, w₁, hq, .pass (x := .inLoop c) rfl (fun _ _ => .inl (by simp)) harr⟩
      | goto l => exact ⟨_, a₁, w₁, hq, .pass (x := .inLoop c) rfl (fun _ _ => .inl (by simp)) harr⟩
      | ret => exact ⟨_, a₁, w₁, hq, .pass (x := .inLoop c) rfl (fun _ _ => .inl (by simp)) harr⟩
      | panic ch => exact ⟨_, a₁, w₁, hq, .pass (x := .inLoop c) rfl (fun _ _ => .inl (by simp)) harr⟩
      | outgrown => exact ⟨_, a₁, w₁, hq, .pass (x := .inLoop c) rfl (fun _ _ => .inl (by simp)) harr⟩
  obtain ⟨e, a', w', hq, harr⟩ := key n a w h₀
  exact ⟨e, a', w', hq, .of_steps (.one step_loop) harr⟩

theorem VC_loop {C : Ctx} {k : List It} {e : Env} {w : World} {body : Code} (I : Nat → Env → World → Prop) (n : Nat) (h0 : I n e w)
    (round : ∀ n e w, I n e w → VC C (.code body :: .again (fun e' w' => ∃ m, m < n ∧ I m e' w') :: k) e w) : VC C (.code (.loop body) :: k) e w := by
  intro a d ha
  refine wp_loop_any (fun n a w => ∃ e w0 d, w = w0.drewN d ∧ Fits C.N e a ∧ I n e w0) n ⟨e, w, d, rfl, ha, h0⟩ ?_
  rintro n a w ⟨e, w0, d, rfl, ha, hI⟩
  have h1 := round n e w0 hI a d ha
  simp only [cont] at h1
  refine wp_mono h1 fun ex a w hq => ?_
  cases ex with
  | normal => obtain ⟨e', w1, d', hw, hf, m, hm, hI'⟩ := hq; exact ⟨m, hm, e', w1, d', hw, hf, hI'⟩
  | _ => exact hq

/-- A call is what its body does. -/
theorem Does_of_VC {P : Program} {f : FuncId} {fn : Func} {c : Code} {args : Array Value} {w : World} {F : Value → World → Prop} (N : Nat) (e : Env)
    (hf : P.funcs[f]? = some fn) (hb : fn.body = some c) (hN : args.size + (fn.ntmps - args.size) = N)
    (he : ∀ t v, e.find? t = some v → args[t]? = some v)
    (h : VC ⟨P, fn, F, N⟩ [.code c] e w) : Does P f args w F := by
  intro n
  refine calls_of_wp hf hb ?_
  refine wp_mono (h { tmps := args ++ Array.replicate (fn.ntmps - args.size) undef, defers := [] } n ⟨by simpa using hN, rfl, fun t v ht => ?_⟩) fun ex a w hq => hq
  have := he t v ht
  rw [Array.getD_eq_getD_getElem?, Array.getElem?_append]
  have hlt : t < args.size := by
    rcases Nat.lt_or_ge t args.size with h | h
    · exact h
    · simp [Array.getElem?_eq_none h] at this
  simp [hlt] at this ⊢
  exact this

/-- The arguments, as what is known of the frame. -/
def Env.ofArgs : Nat → List Value → Env
  | _, [] => []
  | n, v :: vs => (n, v) :: Env.ofArgs (n + 1) vs

theorem Env.find?_ofArgs (vs : List Value) : ∀ (n t : Nat) (v : Value), (Env.ofArgs n vs).find? t = some v → n ≤ t ∧ vs[t - n]? = some v := by
  induction vs with
  | nil => intro n t v h; simp [Env.ofArgs, Env.find?] at h
  | cons x vs ih =>
    intro n t v h
    simp only [Env.ofArgs, Env.find?_cons] at h
    split at h
    · rename_i ht; subst ht; simp at h; subst h; simp
    · rename_i ht
      obtain ⟨h1, h2⟩ := ih (n + 1) t v h
      refine ⟨by omega, ?_⟩
      rw [show t - n = (t - (n + 1)) + 1 by omega]
      simpa using h2

theorem Does_enter {P : Program} {f : FuncId} {fn : Func} {c : Code} {args : List Value} {w : World} {F : Value → World → Prop} (N : Nat)
    (hf : P.funcs[f]? = some fn) (hb : fn.body = some c) (hN : fn.ntmps = N) (hle : args.length ≤ N)
    (h : VC ⟨P, fn, F, N⟩ [.code c] (Env.ofArgs 0 args) w) : Does P f args.toArray w F :=
  Does_of_VC N _ hf hb (by simp [hN]; omega) (fun t v ht => by have := Env.find?_ofArgs args 0 t v ht; simpa using this.2) h

end Go.Eng

/-! The engine, part 2: operations that leave the world alone, as functions of what their operands hold. -/
namespace Go.Eng
open Go

/-- A world that holds all that another holds, and perhaps more (a block without cells holds nothing). -/
structure Ext (w w' : World) : Prop where
  block : ∀ (k : Nat) (o : Obj), w.heap[k]? = some o → (∃ T fz, o = Obj.cells #[] T fz) ∨ w'.heap[k]? = some o

theorem Ext.refl (w : World) : Ext w w := ⟨fun _ _ h => .inr h⟩
theorem Ext.trans {a b c : World} (h : Ext a b) (k : Ext b c) : Ext a c := ⟨fun i o hi => (h.block i o hi).elim .inl fun h1 => k.block i o h1⟩
theorem Ext.drewN (w : World) (n : Nat) : Ext w (w.drewN n) := ⟨fun _ _ h => .inr h⟩
theorem Ext.of_keep {w w' : World} (h : ∀ k : Nat, k < w.heap.size → w'.heap[k]? = w.heap[k]?) : Ext w w' :=
  ⟨fun k o hk => .inr (by rw [h k (Array.getElem?_eq_some_iff.1 hk).1]; exact hk)⟩
theorem Ext.cell {w w' : World} (h : Ext w w') {a : Addr} {v : Value} (hc : w.cell? a = some v) : w'.cell? a = some v := by
  unfold World.cell? at hc ⊢
  cases ho : w.heap[a.block]? with
  | none => simp [ho] at hc
  | some o =>
    rcases h.block _ o ho with ⟨T, fz, rfl⟩ | h1
    · simp [ho] at hc
    · rw [h1]; rw [ho] at hc; exact hc

/-- The world without what is in these blocks. -/
def holes (B : List Nat) (w : World) : World := { w with heap := w.heap.mapIdx fun k o => if k ∈ B then Obj.cells #[] 0 else o }
theorem Ext.holes {B : List Nat} {w w' : World} (h : ∀ k : Nat, k < w.heap.size → k ∉ B → w'.heap[k]? = w.heap[k]?) : Ext (holes B w) w' := by
  refine ⟨fun k o hk => ?_⟩
  simp only [Eng.holes, Array.getElem?_mapIdx] at hk
  cases ho : w.heap[k]? with
  | none => simp [ho] at hk
  | some o' =>
    simp only [ho, Option.map_some, Option.some.injEq] at hk
    by_cases hB : k ∈ B
    · rw [if_pos hB] at hk; exact .inl ⟨0, (0, 0), hk.symm⟩
    · rw [if_neg hB] at hk; subst hk
      exact .inr (by rw [h k (Array.getElem?_eq_some_iff.1 ho).1 hB]; exact ho)
theorem holes_cell {B : List Nat} {w : World} {a : Addr} {v : Value} (hc : w.cell? a = some v) (hB : a.block ∉ B) : (holes B w).cell? a = some v := by
  unfold World.cell? at hc ⊢
  simp only [Eng.holes, Array.getElem?_mapIdx]
  cases ho : w.heap[a.block]? with
  | none => simp [ho] at hc
  | some o => simp only [Option.map_some, if_neg hB]; rw [ho] at hc; exact hc
theorem Ext.hole (B : List Nat) (w : World) : Ext (Eng.holes B w) w := Ext.holes fun _ _ _ => rfl

/-- A string of these bytes. -/
abbrev Str (l : List UInt8) : Value := .string ⟨l.toArray⟩
abbrev toL (s : ByteArray) : List UInt8 := s.data.toList

abbrev I64 (n : Int) : Prop := -9223372036854775808 ≤ n ∧ n ≤ 9223372036854775807
theorem I64.mk {n : Int} (h : -9223372036854775808 ≤ n) (h' : n ≤ 9223372036854775807) : I64 n := ⟨h, h'⟩

/-- A number of this kind, made of a whole number: of int none is made that is out of range. -/
def vWrap : IntKind → Int → (Value → Prop) → Prop
  | .i64, n, K => I64 n ∧ K (.int .i64 n)
  | .u8, n, K => K (.int .u8 (n % 256))
  | .u16, n, K => K (.int .u16 (n % 65536))
  | .u32, n, K => K (.int .u32 (n % 4294967296))
  | .u64, n, K => K (.int .u64 (n % 18446744073709551616))
  | k, n, K => K (.int k (k.wrap n))

theorem wrap_i64_of {n : Int} (h : I64 n) : IntKind.i64.wrap n = n := by
  obtain ⟨h1, h2⟩ := h
  simp only [IntKind.wrap, IntKind.bits, IntKind.signed]
  simp
  split <;> omega
theorem wrap_u8 (n : Int) : IntKind.u8.wrap n = n % 256 := by simp [IntKind.wrap, IntKind.bits, IntKind.signed]
theorem wrap_u16 (n : Int) : IntKind.u16.wrap n = n % 65536 := by simp [IntKind.wrap, IntKind.bits, IntKind.signed]
theorem wrap_u32 (n : Int) : IntKind.u32.wrap n = n % 4294967296 := by simp [IntKind.wrap, IntKind.bits, IntKind.signed]
theorem wrap_u64 (n : Int) : IntKind.u64.wrap n = n % 18446744073709551616 := by simp [IntKind.wrap, IntKind.bits, IntKind.signed]

theorem vWrap_sound {k : IntKind} {n : Int} {K : Value → Prop} (h : vWrap k n K) : K (.int k (k.wrap n)) := by
  cases k <;> simp only [vWrap] at h
  case i64 => rw [wrap_i64_of h.1]; exact h.2
  case u8 => rw [wrap_u8]; exact h
  case u16 => rw [wrap_u16]; exact h
  case u32 => rw [wrap_u32]; exact h
  case u64 => rw [wrap_u64]; exact h
  all_goals exact h

/-- A whole number that is not below nought and fits its kind. -/
def Fit0 : IntKind → Int → Prop
  | .i64, n => 0 ≤ n ∧ n ≤ 9223372036854775807
  | .u8, n => 0 ≤ n ∧ n ≤ 255
  | .u16, n => 0 ≤ n ∧ n ≤ 65535
  | .u32, n => 0 ≤ n ∧ n ≤ 4294967295
  | .u64, n => 0 ≤ n ∧ n ≤ 18446744073709551615
  | _, _ => False

def topOf : IntKind → Nat
  | .i64 => 2 ^ 63
  | .u8 => 2 ^ 8
  | .u16 => 2 ^ 16
  | .u32 => 2 ^ 32
  | .u64 => 2 ^ 64
  | _ => 0
def widthOf : IntKind → Nat
  | .i64 => 63
  | .u8 => 8
  | .u16 => 16
  | .u32 => 32
  | .u64 => 64
  | _ => 0

theorem Fit0.spec {k : IntKind} {n : Int} (h : Fit0 k n) : 0 ≤ n ∧ n.toNat < 2 ^ widthOf k ∧ widthOf k ≤ k.bits ∧ (k.signed = true → widthOf k < k.bits) := by
  cases k <;> simp [Fit0, widthOf, IntKind.bits, IntKind.signed] at h ⊢ <;> omega

theorem wrap_small {k : IntKind} {r : Nat} (hw : widthOf k ≤ k.bits) (hs : k.signed = true → widthOf k < k.bits) (hr : r < 2 ^ widthOf k) : k.wrap (r : Int) = r := by
  cases k <;> simp only [widthOf, IntKind.bits, IntKind.signed] at * <;> simp [IntKind.wrap, IntKind.bits, IntKind.signed] at hs hr ⊢ <;> omega

theorem toNat_ofInt {n : Nat} {a : Int} (h : 0 ≤ a) (h2 : a.toNat < 2 ^ n) : (BitVec.ofInt n a).toNat = a.toNat := by
  obtain ⟨m, rfl⟩ := Int.eq_ofNat_of_zero_le h
  simp only [BitVec.toNat_ofInt]
  simp at h2
  rw [Int.emod_eq_of_lt (by omega) (by exact_mod_cast h2)]

def vBit (op : BinOp) (k : IntKind) (a b : Int) (K : Value → Prop) : Prop :=
  Fit0 k a ∧ Fit0 k b ∧ match op with
    | .and => K (.int k ((a.toNat &&& b.toNat : Nat) : Int))
    | .or => K (.int k ((a.toNat ||| b.toNat : Nat) : Int))
    | .xor => K (.int k ((a.toNat ^^^ b.toNat : Nat) : Int))
    | _ => False

theorem run_vBit {P : Program} {op : BinOp} {k : IntKind} {a b : Int} {K : Value → Prop} (h : vBit op k a b K) : ∃ v, K v ∧ ∀ w, (Op.intBits op k a b).run P w = .ok v w := by
  obtain ⟨ha, hb, h⟩ := h
  obtain ⟨ha0, ha1, hw, hs⟩ := ha.spec
  obtain ⟨hb0, hb1, _, _⟩ := hb.spec
  have ha2 : a.toNat < 2 ^ k.bits := Nat.lt_of_lt_of_le ha1 (Nat.pow_le_pow_right (by omega) hw)
  have hb2 : b.toNat < 2 ^ k.bits := Nat.lt_of_lt_of_le hb1 (Nat.pow_le_pow_right (by omega) hw)
  cases op <;> simp only at h <;> try exact h.elim
  · refine ⟨_, h, fun w => ?_⟩
    simp only [Op.intBits, Sem.run_pure, BitVec.toNat_and, toNat_ofInt ha0 ha2, toNat_ofInt hb0 hb2]
    rw [wrap_small hw hs (Nat.and_lt_two_pow _ hb1)]
  · refine ⟨_, h, fun w => ?_⟩
    simp only [Op.intBits, Sem.run_pure, BitVec.toNat_or, toNat_ofInt ha0 ha2, toNat_ofInt hb0 hb2]
    rw [wrap_small hw hs (Nat.or_lt_two_pow ha1 hb1)]
  · refine ⟨_, h, fun w => ?_⟩
    simp only [Op.intBits, Sem.run_pure, BitVec.toNat_xor, toNat_ofInt ha0 ha2, toNat_ofInt hb0 hb2]
    rw [wrap_small hw hs (Nat.xor_lt_two_pow ha1 hb1)]

def shN (k : IntKind) (y : Int) : Nat := min y.toNat k.bits

def vInt (op : BinOp) (k : IntKind) (a b : Int) (K : Value → Prop) : Prop :=
  match op with
  | .add => vWrap k (a + b) K
  | .sub => vWrap k (a - b) K
  | .mul => vWrap k (a * b) K
  | .quo => 0 ≤ a ∧ 0 < b ∧ vWrap k (a / b) K
  | .rem => 0 ≤ a ∧ 0 < b ∧ K (.int k (a % b))
  | .and => vBit .and k a b K
  | .or => vBit .or k a b K
  | .xor => vBit .xor k a b K
  | .eql => K (.bool (decide (a = b)))
  | .neq => K (.bool (decide (¬ a = b)))
  | .lss => K (.bool (decide (a < b)))
  | .leq => K (.bool (decide (a ≤ b)))
  | .gtr => K (.bool (decide (b < a)))
  | .geq => K (.bool (decide (b ≤ a)))
  | _ => False

/-- Any two values compared with == or !=. -/
def EqV (P : Program) (op : BinOp) (T : TypeId) (x y : Value) (w : World) (K : Value → Prop) : Prop :=
  ∃ b : Bool, K (.bool b) ∧ ∀ w', Ext w w' → (binOp op T x y).run P w' = .ok (.bool b) w'

def vStr (op : BinOp) (s t : ByteArray) (K : Value → Prop) : Prop :=
  match op with
  | .add => ((toL s).length + (toL t).length : Int) ≤ 9223372036854775807 ∧ K (Str (toL s ++ toL t))
  | .eql => K (.bool (decide (toL s = toL t)))
  | .neq => K (.bool (decide (¬ toL s = toL t)))
  | .lss => K (.bool (Op.bytesLess (toL s) (toL t)))
  | .leq => K (.bool (!Op.bytesLess (toL t) (toL s)))
  | .gtr => K (.bool (Op.bytesLess (toL t) (toL s)))
  | .geq => K (.bool (!Op.bytesLess (toL s) (toL t)))
  | _ => False

def vBin (P : Program) (op : BinOp) (T : TypeId) (x y : Value) (w : World) (K : Value → Prop) : Prop :=
  match x, y with
  | .int k a, .int k' b => match op with
    | .shl => 0 ≤ b ∧ vWrap k (a * 2 ^ shN k b) K
    | .shr => 0 ≤ b ∧ K (.int k (a / 2 ^ shN k b))
    | op => k = k' ∧ vInt op k a b K
  | .string s, .string t => vStr op s t K
  | .bool a, .bool b => match P.underlying T with
    | some .bool => match op with
      | .eql => K (.bool (decide (a = b)))
      | .neq => K (.bool (decide (¬ a = b)))
      | _ => False
    | _ => False
  | x, y => match op with
    | .eql => EqV P .eql T x y w K
    | .neq => EqV P .neq T x y w K
    | _ => False

theorem tdiv_of {a b : Int} (ha : 0 ≤ a) : a.tdiv b = a / b := by rw [Int.tdiv_eq_ediv_of_nonneg ha]

theorem beqD {α : Type} [DecidableEq α] [BEq α] [LawfulBEq α] (a b : α) : (a == b) = decide (a = b) := by by_cases h : a = b <;> simp [h]

theorem run_vInt {P : Program} {op : BinOp} {k : IntKind} {a b : Int} {K : Value → Prop} (h : vInt op k a b K) {T : TypeId} : ∃ v, K v ∧ ∀ w, (binOp op T (.int k a) (.int k b)).run P w = .ok v w := by
  cases op <;> simp only [vInt] at h <;> try exact h.elim
  case add => exact ⟨_, vWrap_sound h, fun w => by simp [binOp, Op.intArith]⟩
  case sub => exact ⟨_, vWrap_sound h, fun w => by simp [binOp, Op.intArith]⟩
  case mul => exact ⟨_, vWrap_sound h, fun w => by simp [binOp, Op.intArith]⟩
  case quo => exact ⟨_, vWrap_sound h.2.2, fun w => by simp [binOp, Op.intDiv, tdiv_of h.1, show b ≠ 0 by omega]⟩
  case rem => exact ⟨_, h.2.2, fun w => by simp [binOp, Op.intDiv, Int.tmod_eq_emod_of_nonneg h.1, show b ≠ 0 by omega]⟩
  case and => obtain ⟨v, hv, hr⟩ := run_vBit (P := P) h; exact ⟨v, hv, fun w => by simp [binOp, hr]⟩
  case or => obtain ⟨v, hv, hr⟩ := run_vBit (P := P) h; exact ⟨v, hv, fun w => by simp [binOp, hr]⟩
  case xor => obtain ⟨v, hv, hr⟩ := run_vBit (P := P) h; exact ⟨v, hv, fun w => by simp [binOp, hr]⟩
  all_goals
    refine ⟨_, h, fun w => ?_⟩
    simp [binOp, Op.intCmp]
  · exact beqD _ _
  · rw [bne, beqD]

theorem bytesLess_asymm_iff (x y : List UInt8) : (Op.bytesLess x y || x == y) = !Op.bytesLess y x := by
  induction x generalizing y with
  | nil => cases y <;> simp [Op.bytesLess]
  | cons a x ih =>
    cases y with
    | nil => simp [Op.bytesLess]
    | cons b y =>
      have := ih y
      simp only [Op.bytesLess]
      by_cases h1 : a < b
      · have h2 : ¬ b < a := by
          intro h; exact absurd (UInt8.lt_iff_toNat_lt.1 h) (by have := UInt8.lt_iff_toNat_lt.1 h1; omega)
        have h3 : ¬ b = a := by rintro rfl; exact absurd (UInt8.lt_iff_toNat_lt.1 h1) (by omega)
        simp [h1, h2, h3]
      · by_cases h3 : a = b
        · subst h3
          simp [h1, this]
        · have h2 : b < a := by
            rw [UInt8.lt_iff_toNat_lt] at h1 ⊢
            have : a.toNat ≠ b.toNat := fun h => h3 (UInt8.toNat_inj.1 h)
            omega
          simp [h1, h2, h3]

theorem bytes_toList (s : ByteArray) : s.toList = s.data.toList := ByteArray.toList_eq s


theorem run_vStr {P : Program} {op : BinOp} {s t : ByteArray} {K : Value → Prop} (h : vStr op s t K) {T : TypeId} : ∃ v, K v ∧ ∀ w, (binOp op T (.string s) (.string t)).run P w = .ok v w := by
  cases op <;> simp only [vStr] at h <;> try exact h.elim
  case add =>
    refine ⟨_, h.2, fun w => ?_⟩
    have hs : ¬ ((s.size + t.size : Nat) : Int) > IntKind.i64.max := by
      have h1 := h.1
      have e1 : s.size = (toL s).length := rfl
      have e2 : t.size = (toL t).length := rfl
      rw [e1, e2]
      have e3 : IntKind.i64.max = 9223372036854775807 := by decide
      rw [e3]; omega
    have e : s ++ t = ⟨(toL s ++ toL t).toArray⟩ := by
      apply ByteArray.ext
      show (s ++ t).data = (s.data.toList ++ t.data.toList).toArray
      rw [ByteArray.data_append]
      exact Array.ext' (by simp)
    simp only [binOp, Op.stringOp, if_neg hs, Sem.run_pure, e]
  case lss => exact ⟨_, h, fun w => by simp [binOp, Op.stringOp, bytes_toList, toL]⟩
  case leq =>
    refine ⟨_, h, fun w => ?_⟩
    have := bytesLess_asymm_iff s.data.toList t.data.toList
    simp only [binOp, Op.stringOp, bytes_toList, toL, this, Sem.run_pure]
  case gtr =>
    refine ⟨_, h, fun w => ?_⟩
    have := bytesLess_asymm_iff s.data.toList t.data.toList
    simp only [binOp, Op.stringOp, bytes_toList, toL, this, Sem.run_pure, Bool.not_not]
  case geq => exact ⟨_, h, fun w => by simp [binOp, Op.stringOp, bytes_toList, toL]⟩
  case eql =>
    refine ⟨_, h, fun w => ?_⟩
    simp only [binOp, Op.stringOp, bytes_toList, Sem.run_pure, toL]
    rw [beqD]
  case neq =>
    refine ⟨_, h, fun w => ?_⟩
    simp only [binOp, Op.stringOp, bytes_toList, Sem.run_pure, toL]
    rw [beqD]; simp

theorem run_equalIn_bool' {P : Program} {T : TypeId} (hu : P.underlying T = some .bool) (d : Nat) (a b : Bool) (w : World) : (Op.equalIn (d + 1) T (.bool a) (.bool b)).run P w = .ok (decide (a = b)) w := by
  unfold Op.equalIn
  simp only [Sem.run_bind, run_underlying hu, Result.andThen_ok, Sem.run_pure, beqD]
theorem run_equal_bool' {P : Program} {T : TypeId} (hu : P.underlying T = some .bool) (a b : Bool) (w : World) : (Op.equal T (.bool a) (.bool b)).run P w = .ok (decide (a = b)) w :=
  run_equalIn_bool' hu 9999 a b w

theorem run_eqGuard {P : Program} {op : BinOp} {T : TypeId} {x y : Operand} {a b : Value} (h : (∀ c, a ≠ .agg c) ∧ a ≠ .nilIface) (w : World) : (eqGuard op T x y a b).run P w = .ok () w := by
  unfold eqGuard
  cases op <;> simp <;> (split <;> simp_all)

theorem run_vBin {P : Program} {op : BinOp} {T : TypeId} {x y : Value} {w : World} {K : Value → Prop} (h : vBin P op T x y w K) : ∃ v, K v ∧ ∀ w', Ext w w' → (binOp op T x y).run P w' = .ok v w' := by
  unfold vBin at h
  split at h
  · rename_i k a k' b
    cases op
    case shl =>
      refine ⟨_, vWrap_sound h.2, fun w' _ => ?_⟩
      simp [binOp, Op.shift, show ¬ b < 0 by omega, shN]
    case shr =>
      refine ⟨_, h.2, fun w' _ => ?_⟩
      simp only [binOp, Op.shift, show ¬ b < 0 by omega, shN, if_false, Sem.run_pure]
      rw [Int.fdiv_eq_ediv_of_nonneg]
      exact Int.pow_nonneg (by omega)
    all_goals
      obtain ⟨rfl, h⟩ := h
      obtain ⟨v, hv, hr⟩ := run_vInt (P := P) (T := T) h
      exact ⟨v, hv, fun w' _ => hr w'⟩
  · obtain ⟨v, hv, hr⟩ := run_vStr (P := P) (T := T) h
    exact ⟨v, hv, fun w' _ => hr w'⟩
  · rename_i a b
    split at h
    · rename_i hu
      split at h
      · refine ⟨_, h, fun w' _ => ?_⟩
        have he := fun w => run_equal_bool' (P := P) hu a b w
        simp only [binOp, Sem.run_bind, he, Result.andThen_ok, Sem.run_pure]
      · refine ⟨_, h, fun w' _ => ?_⟩
        have he := fun w => run_equal_bool' (P := P) hu a b w
        simp only [binOp, Sem.run_bind, he, Result.andThen_ok, Sem.run_pure, decide_not]
      · exact h.elim
    · exact h.elim
  · split at h
    · obtain ⟨b, hb, hr⟩ := h; exact ⟨_, hb, hr⟩
    · obtain ⟨b, hb, hr⟩ := h; exact ⟨_, hb, hr⟩
    · exact h.elim

end Go.Eng

/-! The engine, part 3: operations over what is known of a frame; regions. -/
namespace Go.Eng
open Go

def argT : Env → Nat → (Value → Prop) → Prop
  | [], _, _ => False
  | p :: e, n, K => if n = p.1 then K p.2 else argT e n K

/-- What an operand holds. -/
def arg (e : Env) (x : Operand) (K : Value → Prop) : Prop :=
  match x with
  | .tmp t => argT e t K
  | .const v => K v
  | .global g => K (.pointer (some ⟨g, 0, none⟩))
  | .func f => K (.func (.func f) #[] #[])

def argL (e : Env) : List Operand → (List Value → Prop) → Prop
  | [], K => K []
  | x :: xs, K => arg e x fun v => argL e xs fun vs => K (v :: vs)

theorem argT_find {e : Env} {n : Nat} {K : Value → Prop} (h : argT e n K) : ∃ v, e.find? n = some v ∧ K v := by
  induction e with
  | nil => exact h.elim
  | cons p e ih =>
    simp only [argT, Env.find?_cons] at h ⊢
    split
    · rename_i hn; rw [if_pos hn] at h; exact ⟨_, rfl, h⟩
    · rename_i hn; rw [if_neg hn] at h; exact ih h

theorem arg_sound {N : Nat} {e : Env} {a : Act} {x : Operand} {K : Value → Prop} (ha : Fits N e a) (h : arg e x K) : K (a.eval x) := by
  cases x with
  | tmp t => obtain ⟨v, hv, hK⟩ := argT_find h; show K (a.tmps.getD t undef); rw [ha.at_ t v hv]; exact hK
  | const v => exact h
  | global g => exact h
  | func f => exact h

theorem argL_sound {N : Nat} {e : Env} {a : Act} (ha : Fits N e a) {xs : List Operand} : ∀ {K : List Value → Prop}, argL e xs K → K (xs.map a.eval) := by
  induction xs with
  | nil => intro K h; exact h
  | cons x xs ih => intro K h; exact ih (arg_sound ha h)

end Go.Eng
namespace Go
/-- How many cells a value of a type has. -/
def Program.szo (P : Program) (T : TypeId) : Option Nat := (P.info? T).map (·.size)
end Go
namespace Go.Eng
open Go

theorem run_szo {P : Program} {T : TypeId} {n : Nat} (h : P.szo T = some n) (w : World) : (sizeOf T).run P w = .ok n w := by
  unfold Program.szo at h
  cases hi : P.info? T with
  | none => simp [hi] at h
  | some i =>
    simp [hi] at h
    simp [sizeOf, typeInfo, hi, h]

/-- These cells lie from an address on. -/
def Reads (w : World) (a : Addr) (xs : List Value) : Prop := ∀ j u, xs[j]? = some u → w.cell? (a.add j) = some u

theorem Reads.ext {w w' : World} {a : Addr} {xs : List Value} (h : Reads w a xs) (hh : Ext w w') : Reads w' a xs := fun j u hu => hh.cell (h j u hu)

theorem Reads.heap {w w' : World} {a : Addr} {xs : List Value} (h : Reads w a xs) (hh : w'.heap = w.heap) : Reads w' a xs := by
  intro j u hu
  have := h j u hu
  simpa [World.cell?, hh] using this

def vPart (P : Program) (T : TypeId) (cs : Array Value) (off : Nat) (K : Value → Prop) : Prop :=
  match P.underlying T with
  | some (.struct _) | some (.array _ _) => match P.szo T with
    | some n => K (.agg (cs.extract off (off + n)))
    | none => False
  | some _ => match cs[off]? with
    | some v => K v
    | none => False
  | none => False

theorem run_vPart {P : Program} {T : TypeId} {cs : Array Value} {off : Nat} {K : Value → Prop} (h : vPart P T cs off K) : ∃ v, K v ∧ ∀ w, (part T cs off).run P w = .ok v w := by
  unfold vPart at h
  split at h
  · rename_i hu
    split at h
    · rename_i n hn
      exact ⟨_, h, fun w => by simp [part, isAgg, run_underlying hu, run_szo hn]⟩
    · exact h.elim
  · rename_i hu
    split at h
    · rename_i n hn
      exact ⟨_, h, fun w => by simp [part, isAgg, run_underlying hu, run_szo hn]⟩
    · exact h.elim
  · rename_i d hd1 hd2 hu
    split at h
    · rename_i v hv
      refine ⟨_, h, fun w => ?_⟩
      have : (isAgg T).run P w = .ok false w := by
        cases d <;> simp_all [isAgg, run_underlying hu]
      simp [part, this, hv]
    · exact h.elim
  · exact h.elim

def vIndex (P : Program) (T : TypeId) (x i : Value) (K : Value → Prop) : Prop :=
  match x, i with
  | .string s, .int _ n => P.underlying T = some .string ∧ (0 ≤ n ∧ n < (toL s).length) ∧ K (.int .u8 ((toL s).getD n.toNat 0).toNat)
  | .agg cs, .int _ n => match P.underlying T with
    | some (.array len E) => (0 ≤ n ∧ n < len) ∧ match P.szo E with
      | some sz => vPart P E cs (n.toNat * sz) K
      | none => False
    | _ => False
  | _, _ => False

theorem run_vIndex {P : Program} {T : TypeId} {x i : Value} {K : Value → Prop} (h : vIndex P T x i K) : ∃ v, K v ∧ ∀ w, (Instr.index T x i).run P w = .ok v w := by
  unfold vIndex at h
  split at h
  · rename_i s k n
    obtain ⟨hu, hb, h⟩ := h
    refine ⟨_, h, fun w => ?_⟩
    have hlt : n.toNat < s.data.toList.length := by simp only [toL] at hb; omega
    have hlt' : n.toNat < s.data.size := by simpa using hlt
    have hg : s[n.toNat]? = some (s.data.toList.getD n.toNat 0) := by
      rw [List.getD_eq_getElem?_getD, List.getElem?_eq_getElem hlt]
      simp only [getElem?_def]
      rw [dif_pos (by exact hlt')]
      rfl
    simp only [Instr.index, asIntOf, Sem.run_bind, Sem.run_pure, Result.andThen_ok, run_underlying hu, hb.1, if_true, hg, toL]
  · rename_i cs k n
    split at h
    · rename_i len E hu
      obtain ⟨hb, h⟩ := h
      split at h
      · rename_i sz hsz
        obtain ⟨v, hv, hr⟩ := run_vPart h
        refine ⟨v, hv, fun w => ?_⟩
        simp [Instr.index, asIntOf, run_underlying hu, hb, run_szo hsz, hr]
      · exact h.elim
    · exact h.elim
  · exact h.elim

/-- A bound of a slice expression. -/
def vBound (x : Option Value) (dflt : Int) (K : Int → Prop) : Prop :=
  match x with
  | none => K dflt
  | some (.int _ n) => K n
  | some _ => False

def vSlice (P : Program) (T : TypeId) (x : Value) (lo hi : Option Value) (K : Value → Prop) : Prop :=
  match x with
  | .string s => P.underlying T = some .string ∧ match lo, hi with
    | none, none => K (.string s)
    | some (.int _ l), none => (0 ≤ l ∧ l ≤ (toL s).length) ∧ K (Str ((toL s).drop l.toNat))
    | none, some (.int _ h) => (0 ≤ h ∧ h ≤ (toL s).length) ∧ K (Str ((toL s).take h.toNat))
    | some (.int _ l), some (.int _ h) => (0 ≤ l ∧ l ≤ h ∧ h ≤ (toL s).length) ∧ K (Str (((toL s).drop l.toNat).take (h.toNat - l.toNat)))
    | _, _ => False
  | .slice a n cap => match P.underlying T with
    | some (.slice E) => match P.szo E with
      | some sz => match lo, hi with
        | none, none => n ≤ cap ∧ K (.slice a n cap)
        | some (.int _ l), none => (0 ≤ l ∧ l ≤ n ∧ n ≤ cap) ∧ K (.slice (if cap = l.toNat then a else a.map (·.add (l.toNat * sz))) (n - l.toNat) (cap - l.toNat))
        | none, some (.int _ h) => (0 ≤ h ∧ h ≤ cap) ∧ K (.slice a h.toNat cap)
        | some (.int _ l), some (.int _ h) => (0 ≤ l ∧ l ≤ h ∧ h ≤ cap) ∧ K (.slice (if cap = l.toNat then a else a.map (·.add (l.toNat * sz))) (h.toNat - l.toNat) (cap - l.toNat))
        | _, _ => False
      | none => False
    | _ => False
  | _ => False

theorem str_extract (s : ByteArray) (l h : Nat) : s.extract l h = ⟨((s.data.toList.drop l).take (h - l)).toArray⟩ := by
  apply ByteArray.ext
  show (s.extract l h).data = _
  rw [ByteArray.data_extract]
  apply Array.ext'
  simp [List.extract_eq_take_drop]

theorem run_bound {P : Program} {k : IntKind} {i : Int} {y : Nat} {code : BoundsCode} (h0 : 0 ≤ i) (h1 : i ≤ y) (w : World) : (Instr.sliceBound (.int k i) y code).run P w = .ok i.toNat w := by
  simp [Instr.sliceBound, asIntOf, h0, h1]

theorem run_vSlice {P : Program} {T : TypeId} {x : Value} {lo hi : Option Value} {K : Value → Prop} (h : vSlice P T x lo hi K) :
    ∃ v, K v ∧ ∀ w, (Instr.sliceAt T x lo hi none).run P w = .ok v w := by
  unfold vSlice at h
  split at h
  · rename_i s
    obtain ⟨hu, h⟩ := h
    have hsz : s.size = s.data.toList.length := rfl
    split at h
    · refine ⟨_, h, fun w => ?_⟩
      simp [Instr.sliceAt, Instr.slice, Instr.sliceBounds, run_underlying hu]
    · rename_i k l
      refine ⟨_, h.2, fun w => ?_⟩
      have hb : 0 ≤ l ∧ l ≤ (s.size : Int) := h.1
      have : s.extract l.toNat s.size = ⟨(s.data.toList.drop l.toNat).toArray⟩ := by
        rw [str_extract, hsz]; congr 2; apply List.take_of_length_le; simp
      simp [Instr.sliceAt, Instr.slice, Instr.sliceBounds, Instr.sliceBound, asIntOf, run_underlying hu, hb, this, toL]
    · rename_i k l
      refine ⟨_, h.2, fun w => ?_⟩
      have hb : 0 ≤ l ∧ l ≤ (s.size : Int) := h.1
      have : s.extract 0 l.toNat = ⟨(s.data.toList.take l.toNat).toArray⟩ := by
        rw [str_extract]; simp
      simp [Instr.sliceAt, Instr.slice, Instr.sliceBounds, Instr.sliceBound, asIntOf, run_underlying hu, hb, this, toL]
    · rename_i k l k' h'
      refine ⟨_, h.2, fun w => ?_⟩
      obtain ⟨⟨h1, h2, h3⟩, _⟩ := h
      have hb : 0 ≤ h' ∧ h' ≤ (s.size : Int) := ⟨by omega, h3⟩
      have hb2 : 0 ≤ l ∧ l ≤ (h'.toNat : Int) := ⟨h1, by omega⟩
      have e1 := fun code w => run_bound (P := P) (k := k') (y := s.size) (code := code) hb.1 hb.2 w
      have e2 := fun code w => run_bound (P := P) (k := k) (y := h'.toNat) (code := code) hb2.1 hb2.2 w
      simp [Instr.sliceAt, Instr.slice, Instr.sliceBounds, run_underlying hu, e1, e2, str_extract, toL]
    · exact h.elim
  · rename_i a n cap
    split at h
    · rename_i E hu
      split at h
      · rename_i sz hsz
        split at h
        · refine ⟨_, h.2, fun w => ?_⟩
          have : (a.map fun x => x.add 0) = a := by cases a <;> simp [Addr.add]
          simp [Instr.sliceAt, Instr.slice, Instr.sliceBounds, run_underlying hu, run_szo hsz, this]
        · rename_i k l
          refine ⟨_, h.2, fun w => ?_⟩
          obtain ⟨⟨h1, h2, h3⟩, _⟩ := h
          simp [Instr.sliceAt, Instr.slice, Instr.sliceBounds, Instr.sliceBound, asIntOf, run_underlying hu, run_szo hsz, h1, h2]
        · rename_i k l
          refine ⟨_, h.2, fun w => ?_⟩
          obtain ⟨⟨h1, h2⟩, _⟩ := h
          have : (a.map fun x => x.add 0) = a := by cases a <;> simp [Addr.add]
          simp [Instr.sliceAt, Instr.slice, Instr.sliceBounds, Instr.sliceBound, asIntOf, run_underlying hu, run_szo hsz, h1, h2, this]
        · rename_i k l k' h'
          refine ⟨_, h.2, fun w => ?_⟩
          obtain ⟨⟨h1, h2, h3⟩, _⟩ := h
          have hb : 0 ≤ h' ∧ h' ≤ (cap : Int) := ⟨by omega, h3⟩
          have hb2 : 0 ≤ l ∧ l ≤ (h'.toNat : Int) := ⟨h1, by omega⟩
          have e1 := fun code w => run_bound (P := P) (k := k') (y := cap) (code := code) hb.1 hb.2 w
          have e2 := fun code w => run_bound (P := P) (k := k) (y := h'.toNat) (code := code) hb2.1 hb2.2 w
          simp [Instr.sliceAt, Instr.slice, Instr.sliceBounds, run_underlying hu, run_szo hsz, e1, e2]
        · exact h.elim
      · exact h.elim
    · exact h.elim
  · exact h.elim

end Go.Eng
