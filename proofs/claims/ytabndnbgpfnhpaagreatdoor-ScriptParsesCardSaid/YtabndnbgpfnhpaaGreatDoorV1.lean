/- What the proof leans on, part 1: no conditions. -/
import Derived.WalkKit
import Derived.Deep.Quiet
import Derived.Lib.Hide
import Derived.OrdersHeld
set_option linter.unusedSimpArgs false
set_option linter.unusedVariables false
namespace Go.Eng
open Go
abbrev Env := List (Nat × Value)
def Env.find? : Env → Nat → Option Value
  | [], _ => none
  | p :: e, n => if n = p.1 then some p.2 else Env.find? e n
def Env.put (e : Env) (d : Option Tmp) (v : Value) : Env :=
  match d with
  | some t => (t, v) :: e
  | none => e
def Env.keep (ks : List Nat) (e : Env) : Env := e.filter fun p => ks.contains p.1
structure Fits (N : Nat) (e : Env) (a : Act) : Prop where
  size : a.tmps.size = N
  defers : a.defers = []
  at_ : ∀ t v, e.find? t = some v → a.tmps.getD t undef = v
theorem Env.find?_cons (p : Nat × Value) (e : Env) (n : Nat) : Env.find? (p :: e) n = if n = p.1 then some p.2 else Env.find? e n := rfl
theorem Fits.put {N : Nat} {e : Env} {a : Act} (h : Fits N e a) (d : Option Tmp) (v : Value) (hd : ∀ t, d = some t → t < N) : Fits N (e.put d v) (a.put d v) := by
  cases d with
  | none => exact h
  | some t =>
    have ht := hd t rfl
    refine ⟨by simp [Act.put, h.size], by simp [Act.put, h.defers], fun s u hs => ?_⟩
    simp only [Env.put, Env.find?_cons] at hs
    simp only [Act.put]
    by_cases hst : s = t
    · subst hst
      simp at hs
      subst hs
      simp [h.size, ht]
    · simp [hst] at hs
      have := h.at_ s u hs
      rw [Array.getD_eq_getD_getElem?] at this ⊢
      rw [Array.getElem?_setIfInBounds]
      rw [if_neg (fun x => hst x.symm)]
      exact this
theorem Fits.weaken {N : Nat} {e e' : Env} {a : Act} (h : Fits N e a) (hs : ∀ t v, e'.find? t = some v → e.find? t = some v) : Fits N e' a :=
  ⟨h.size, h.defers, fun t v ht => h.at_ t v (hs t v ht)⟩
theorem Env.find?_keep (ks : List Nat) (e : Env) (t : Nat) (v : Value) (h : (e.keep ks).find? t = some v) : e.find? t = some v := by
  induction e with
  | nil => simp [Env.keep, Env.find?] at h
  | cons p e ih =>
    simp only [Env.keep, List.filter_cons] at h
    simp only [Env.find?_cons]
    by_cases hp : ks.contains p.1 = true
    · simp only [hp, if_true, Env.find?_cons] at h
      by_cases ht : t = p.1
      · simp only [ht, if_true] at h ⊢; exact h
      · simp only [ht, if_false] at h ⊢; exact ih h
    · simp only [hp] at h
      have hm := ih (by simpa [Env.keep] using h)
      by_cases ht : t = p.1
      · exfalso
        have key : ∀ (l : Env), (Env.keep ks l).find? t = some v → ks.contains t = true := by
          intro l
          induction l with
          | nil => intro h0; simp [Env.keep, Env.find?] at h0
          | cons q l ihl =>
            intro h0
            simp only [Env.keep, List.filter_cons] at h0
            by_cases hq : ks.contains q.1 = true
            · simp only [hq, if_true, Env.find?_cons] at h0
              by_cases htq : t = q.1
              · rw [htq]; exact hq
              · simp only [htq, if_false] at h0; exact ihl h0
            · simp only [hq] at h0; exact ihl (by simpa [Env.keep] using h0)
        exact hp (ht ▸ key e (by simpa [Env.keep] using h))
      · simp only [ht, if_false]; exact hm
theorem Fits.keep {N : Nat} {e : Env} {a : Act} (h : Fits N e a) (ks : List Nat) : Fits N (e.keep ks) a :=
  h.weaken fun t v ht => Env.find?_keep ks e t v ht
inductive It where
  | code (c : Code)
  | blk (id : Nat)
  | again (I : Env → World → Prop)
structure Ctx where
  P : Program
  fn : Func
  F : Value → World → Prop
  N : Nat
def endsIn (F : Value → World → Prop) (e : Ending) (w' : World) : Prop := ∃ v w n, e = .returned v ∧ w' = w.drewN n ∧ F v w
def Does (P : Program) (f : FuncId) (args : Array Value) (w : World) (F : Value → World → Prop) : Prop :=
  ∀ n, Calls P f args (w.drewN n) (endsIn F)
theorem Does.mono {P : Program} {f : FuncId} {args : Array Value} {w : World} {F G : Value → World → Prop} (h : Does P f args w F) (hg : ∀ v w', F v w' → G v w') : Does P f args w G :=
  fun n => (h n).mono fun _ _ ⟨v, w', m, he, hw, hF⟩ => ⟨v, w', m, he, hw, hg v w' hF⟩
theorem drewN0 (w : World) : w.drewN 0 = w := rfl
def cont (C : Ctx) : List It → Exit → Act → World → Prop
  | [], ex, a, w => bodyPost C.P C.fn (endsIn C.F) ex a w
  | .code c :: k, ex, a, w => match ex with
    | .normal => c.wp C.P (fun ex a w => cont C k ex a w) a w
    | ex => cont C k ex a w
  | .blk id :: k, ex, a, w => match ex with
    | .exit id' => if id' = id then cont C k .normal a w else cont C k (.exit id') a w
    | ex => cont C k ex a w
  | .again I :: k, ex, a, w => match ex with
    | .normal => ∃ e w0 n, w = w0.drewN n ∧ Fits C.N e a ∧ I e w0
    | ex => cont C k ex a w
def VC (C : Ctx) (k : List It) (e : Env) (w : World) : Prop := ∀ a n, Fits C.N e a → cont C k .normal a (w.drewN n)
def VX (C : Ctx) (k : List It) (ex : Exit) (e : Env) (w : World) : Prop := ∀ a n, Fits C.N e a → cont C k ex a (w.drewN n)
section
variable {C : Ctx} {k : List It} {e : Env} {w : World}
theorem cont_code (c : Code) (k : List It) (ex : Exit) (a : Act) (w : World) :
    cont C (.code c :: k) ex a w = Exit.then (fun a w => c.wp C.P (fun ex a w => cont C k ex a w) a w) (fun ex a w => cont C k ex a w) ex a w := by
  cases ex <;> rfl
theorem VC_seq {x y : Code} (h : VC C (.code x :: .code y :: k) e w) : VC C (.code (.seq x y) :: k) e w := by
  intro a n ha
  have h1 := h a n ha
  simp only [cont] at h1 ⊢
  refine wp_seq (wp_mono h1 fun ex a w hq => ?_)
  cases ex <;> exact hq
theorem VC_block {id : Nat} {c : Code} (h : VC C (.code c :: .blk id :: k) e w) : VC C (.code (.block id c) :: k) e w := by
  intro a n ha
  have h1 := h a n ha
  simp only [cont] at h1 ⊢
  refine wp_block (wp_mono h1 fun ex a w hq => ?_)
  cases ex <;> exact hq
theorem VC_blk {id : Nat} (h : VC C k e w) : VC C (.blk id :: k) e w := fun a n ha => h a n ha
theorem VC_skip (h : VC C k e w) : VC C (.code .skip :: k) e w := fun a n ha => wp_skip (h a n ha)
theorem VC_label {l : Nat} (h : VC C k e w) : VC C (.code (.label l) :: k) e w := fun a n ha => wp_label (h a n ha)
theorem VC_again {I : Env → World → Prop} (h : I e w) : VC C (.again I :: k) e w := fun _ n ha => ⟨e, w, n, rfl, ha, h⟩
def popTo (id : Nat) : List It → Option (List It)
  | [] => none
  | .blk id' :: k => if id = id' then some k else popTo id k
  | .code _ :: k => popTo id k
  | .again _ :: k => popTo id k
theorem cont_popTo {id : Nat} {k k' : List It} (hp : popTo id k = some k') {a : Act} (h : cont C k' .normal a w) : cont C k (.exit id) a w := by
  induction k with
  | nil => simp [popTo] at hp
  | cons x k ih =>
    cases x with
    | code c => exact ih (by simpa [popTo] using hp)
    | again I => exact ih (by simpa [popTo] using hp)
    | blk id' =>
      simp only [cont]
      by_cases hid : id = id'
      · simp only [popTo, hid, if_true] at hp
        cases hp
        simp only [hid, if_true]; exact h
      · simp only [popTo, hid, if_false] at hp
        simp only [hid, if_false]; exact ih hp
theorem VC_exit {id : Nat} {k' : List It} (hp : popTo id k = some k') (h : VC C k' e w) : VC C (.code (.exit id) :: k) e w :=
  fun a n ha => wp_exit (cont_popTo hp (h a n ha))
theorem cont_ret {k : List It} {a : Act} (h : bodyPost C.P C.fn (endsIn C.F) .ret a w) : cont C k .ret a w := by
  induction k with
  | nil => exact h
  | cons x k ih => cases x <;> exact ih
theorem VC_ret (h : VX C [] .ret e w) : VC C (.code .ret :: k) e w := fun a n ha => wp_ret (cont_ret (h a n ha))
theorem VC_nil (h : VX C [] .ret e w) : VC C [] e w := fun a n ha => h a n ha
theorem VX_ret0 (hr : C.fn.results = #[]) (h : C.F (.tuple #[]) w) : VX C [] .ret e w :=
  fun _ n ha => ⟨ha.defers, _, results_none hr _ _ _, _, w, n, rfl, rfl, h⟩
theorem VX_ret1 {t : Tmp} {v : Value} (hr : C.fn.results = #[.tmp t]) (hv : e.find? t = some v) (h : C.F v w) : VX C [] .ret e w :=
  fun _ n ha => ⟨ha.defers, _, results_tmp hr _ _ _, _, w, n, rfl, rfl, by rw [ha.at_ t v hv]; exact h⟩
theorem VX_ret2 {t u : Tmp} {v x : Value} (hr : C.fn.results = #[.tmp t, .tmp u]) (hv : e.find? t = some v) (hx : e.find? u = some x) (h : C.F (.tuple #[v, x]) w) : VX C [] .ret e w :=
  fun _ n ha => ⟨ha.defers, _, results_tmp2 hr _ _ _, _, w, n, rfl, rfl, by rw [ha.at_ t v hv, ha.at_ u x hx]; exact h⟩
theorem results_tmp3' {fn : Func} {t u s : Tmp} (h : fn.results = #[.tmp t, .tmp u, .tmp s]) (tmps : Array Value) (P : Program) (w : World) :
    (results fn tmps).run P w = .ok (.tuple #[tmps.getD t undef, tmps.getD u undef, tmps.getD s undef]) w := by
  simp [results, h]
theorem VX_ret3 {t u s : Tmp} {v x y : Value} (hr : C.fn.results = #[.tmp t, .tmp u, .tmp s]) (hv : e.find? t = some v) (hx : e.find? u = some x) (hy : e.find? s = some y)
    (h : C.F (.tuple #[v, x, y]) w) : VX C [] .ret e w :=
  fun _ n ha => ⟨ha.defers, _, results_tmp3' hr _ _ _, _, w, n, rfl, rfl, by rw [ha.at_ t v hv, ha.at_ u x hx, ha.at_ s y hy]; exact h⟩
theorem results_tmp4' {fn : Func} {t u s r : Tmp} (h : fn.results = #[.tmp t, .tmp u, .tmp s, .tmp r]) (tmps : Array Value) (P : Program) (w : World) :
    (results fn tmps).run P w = .ok (.tuple #[tmps.getD t undef, tmps.getD u undef, tmps.getD s undef, tmps.getD r undef]) w := by
  simp [results, h]
theorem VX_ret4 {t u s r : Tmp} {v x y z : Value} (hr : C.fn.results = #[.tmp t, .tmp u, .tmp s, .tmp r]) (hv : e.find? t = some v) (hx : e.find? u = some x) (hy : e.find? s = some y) (hz : e.find? r = some z)
    (h : C.F (.tuple #[v, x, y, z]) w) : VX C [] .ret e w :=
  fun _ n ha => ⟨ha.defers, _, results_tmp4' hr _ _ _, _, w, n, rfl, rfl, by rw [ha.at_ t v hv, ha.at_ u x hx, ha.at_ s y hy, ha.at_ r z hz]; exact h⟩
theorem VC_cond {c : Operand} {t : Tmp} {b : Bool} {x y : Code} (hc : c = .tmp t) (hv : e.find? t = some (.bool b))
    (ht : b = true → VC C (.code x :: k) e w) (hf : b = false → VC C (.code y :: k) e w) : VC C (.code (.cond c x y) :: k) e w := by
  intro a n ha
  subst hc
  exact wp_cond_split (t := b) (ha.at_ t _ hv) (fun h => ht h a n ha) (fun h => hf h a n ha)
theorem VC_weaken {e' : Env} (hs : ∀ t v, e'.find? t = some v → e.find? t = some v) (h : VC C k e' w) : VC C k e w :=
  fun a n ha => h a n (ha.weaken hs)
theorem VC_keep (ks : List Nat) (h : VC C k (e.keep ks) w) : VC C k e w := fun a n ha => h a n (ha.keep ks)
end
theorem wp_loop_any {P : Program} {Q : Exit → Act → World → Prop} {a : Act} {w : World} {c : Code} (I : Nat → Act → World → Prop) (n : Nat) (h₀ : I n a w)
    (round : ∀ n a w, I n a w → c.wp P (Exit.then (fun a' w' => ∃ m, m < n ∧ I m a' w') Q) a w) : (Code.loop c).wp P Q a w := by
  intro b k cs
  have key : ∀ n a w, I n a w →
      ∃ e a' w', Q e a' w' ∧ Arrives P (lone (b.at a (.code c :: .inLoop c :: k)) cs w) b k cs e a' w' := by
    intro n
    induction n using Nat.strongRecOn with
    | _ n ih =>
      intro a w hI
      obtain ⟨e, a₁, w₁, hq, harr⟩ := round n a w hI b (.inLoop c :: k) cs
      cases e with
      | normal =>
        obtain ⟨m, hlt, hI₁⟩ := hq
        obtain ⟨e₂, a₂, w₂, hq₂, harr₂⟩ := ih m hlt a₁ w₁ hI₁
        exact ⟨e₂, a₂, w₂, hq₂, .of_steps (Steps.trans harr (.one step_inLoop)) harr₂⟩
      | exit id => exact ⟨_, a₁, w₁, hq, .pass (x := .inLoop c) rfl (fun _ _ => .inl (by simp)) harr⟩
      | goto l => exact ⟨_, a₁, w₁, hq, .pass (x := .inLoop c) rfl (fun _ _ => .inl (by simp)) harr⟩
      | ret => exact ⟨_, a₁, w₁, hq, .pass (x := .inLoop c) rfl (fun _ _ => .inl (by simp)) harr⟩
      | panic ch => exact ⟨_, a₁, w₁, hq, .pass (x := .inLoop c) rfl (fun _ _ => .inl (by simp)) harr⟩
      | outgrown => exact ⟨_, a₁, w₁, hq, .pass (x := .inLoop c) rfl (fun _ _ => .inl (by simp)) harr⟩
  obtain ⟨e, a', w', hq, harr⟩ := key n a w h₀
  exact ⟨e, a', w', hq, .of_steps (.one step_loop) harr⟩
theorem VC_loop {C : Ctx} {k : List It} {e : Env} {w : World} {body : Code} (I : Nat → Env → World → Prop) (n : Nat) (h0 : I n e w)
    (round : ∀ n e w, I n e w → VC C (.code body :: .again (fun e' w' => ∃ m, m < n ∧ I m e' w') :: k) e w) : VC C (.code (.loop body) :: k) e w := by
  intro a d ha
  refine wp_loop_any (fun n a w => ∃ e w0 d, w = w0.drewN d ∧ Fits C.N e a ∧ I n e w0) n ⟨e, w, d, rfl, ha, h0⟩ ?_
  rintro n a w ⟨e, w0, d, rfl, ha, hI⟩
  have h1 := round n e w0 hI a d ha
  simp only [cont] at h1
  refine wp_mono h1 fun ex a w hq => ?_
  cases ex with
  | normal => obtain ⟨e', w1, d', hw, hf, m, hm, hI'⟩ := hq; exact ⟨m, hm, e', w1, d', hw, hf, hI'⟩
  | _ => exact hq
theorem Does_of_VC {P : Program} {f : FuncId} {fn : Func} {c : Code} {args : Array Value} {w : World} {F : Value → World → Prop} (N : Nat) (e : Env)
    (hf : P.funcs[f]? = some fn) (hb : fn.body = some c) (hN : args.size + (fn.ntmps - args.size) = N)
    (he : ∀ t v, e.find? t = some v → args[t]? = some v)
    (h : VC ⟨P, fn, F, N⟩ [.code c] e w) : Does P f args w F := by
  intro n
  refine calls_of_wp hf hb ?_
  refine wp_mono (h { tmps := args ++ Array.replicate (fn.ntmps - args.size) undef, defers := [] } n ⟨by simpa using hN, rfl, fun t v ht => ?_⟩) fun ex a w hq => hq
  have := he t v ht
  rw [Array.getD_eq_getD_getElem?, Array.getElem?_append]
  have hlt : t < args.size := by
    rcases Nat.lt_or_ge t args.size with h | h
    · exact h
    · simp [Array.getElem?_eq_none h] at this
  simp [hlt] at this ⊢
  exact this
def Env.ofArgs : Nat → List Value → Env
  | _, [] => []
  | n, v :: vs => (n, v) :: Env.ofArgs (n + 1) vs
theorem Env.find?_ofArgs (vs : List Value) : ∀ (n t : Nat) (v : Value), (Env.ofArgs n vs).find? t = some v → n ≤ t ∧ vs[t - n]? = some v := by
  induction vs with
  | nil => intro n t v h; simp [Env.ofArgs, Env.find?] at h
  | cons x vs ih =>
    intro n t v h
    simp only [Env.ofArgs, Env.find?_cons] at h
    split at h
    · rename_i ht; subst ht; simp at h; subst h; simp
    · rename_i ht
      obtain ⟨h1, h2⟩ := ih (n + 1) t v h
      refine ⟨by omega, ?_⟩
      rw [show t - n = (t - (n + 1)) + 1 by omega]
      simpa using h2
theorem Does_enter {P : Program} {f : FuncId} {fn : Func} {c : Code} {args : List Value} {w : World} {F : Value → World → Prop} (N : Nat)
    (hf : P.funcs[f]? = some fn) (hb : fn.body = some c) (hN : fn.ntmps = N) (hle : args.length ≤ N)
    (h : VC ⟨P, fn, F, N⟩ [.code c] (Env.ofArgs 0 args) w) : Does P f args.toArray w F :=
  Does_of_VC N _ hf hb (by simp [hN]; omega) (fun t v ht => by have := Env.find?_ofArgs args 0 t v ht; simpa using this.2) h
end Go.Eng
namespace Go.Eng
open Go
structure Ext (w w' : World) : Prop where
  block : ∀ (k : Nat) (o : Obj), w.heap[k]? = some o → (∃ T fz, o = Obj.cells #[] T fz) ∨ w'.heap[k]? = some o
theorem Ext.refl (w : World) : Ext w w := ⟨fun _ _ h => .inr h⟩
theorem Ext.trans {a b c : World} (h : Ext a b) (k : Ext b c) : Ext a c := ⟨fun i o hi => (h.block i o hi).elim .inl fun h1 => k.block i o h1⟩
theorem Ext.drewN (w : World) (n : Nat) : Ext w (w.drewN n) := ⟨fun _ _ h => .inr h⟩
theorem Ext.of_keep {w w' : World} (h : ∀ k : Nat, k < w.heap.size → w'.heap[k]? = w.heap[k]?) : Ext w w' :=
  ⟨fun k o hk => .inr (by rw [h k (Array.getElem?_eq_some_iff.1 hk).1]; exact hk)⟩
theorem Ext.cell {w w' : World} (h : Ext w w') {a : Addr} {v : Value} (hc : w.cell? a = some v) : w'.cell? a = some v := by
  unfold World.cell? at hc ⊢
  cases ho : w.heap[a.block]? with
  | none => simp [ho] at hc
  | some o =>
    rcases h.block _ o ho with ⟨T, fz, rfl⟩ | h1
    · simp [ho] at hc
    · rw [h1]; rw [ho] at hc; exact hc
def holes (B : List Nat) (w : World) : World := { w with heap := w.heap.mapIdx fun k o => if k ∈ B then Obj.cells #[] 0 else o }
theorem Ext.holes {B : List Nat} {w w' : World} (h : ∀ k : Nat, k < w.heap.size → k ∉ B → w'.heap[k]? = w.heap[k]?) : Ext (holes B w) w' := by
  refine ⟨fun k o hk => ?_⟩
  simp only [Eng.holes, Array.getElem?_mapIdx] at hk
  cases ho : w.heap[k]? with
  | none => simp [ho] at hk
  | some o' =>
    simp only [ho, Option.map_some, Option.some.injEq] at hk
    by_cases hB : k ∈ B
    · rw [if_pos hB] at hk; exact .inl ⟨0, (0, 0), hk.symm⟩
    · rw [if_neg hB] at hk; subst hk
      exact .inr (by rw [h k (Array.getElem?_eq_some_iff.1 ho).1 hB]; exact ho)
theorem holes_cell {B : List Nat} {w : World} {a : Addr} {v : Value} (hc : w.cell? a = some v) (hB : a.block ∉ B) : (holes B w).cell? a = some v := by
  unfold World.cell? at hc ⊢
  simp only [Eng.holes, Array.getElem?_mapIdx]
  cases ho : w.heap[a.block]? with
  | none => simp [ho] at hc
  | some o => simp only [Option.map_some, if_neg hB]; rw [ho] at hc; exact hc
theorem Ext.hole (B : List Nat) (w : World) : Ext (Eng.holes B w) w := Ext.holes fun _ _ _ => rfl
abbrev Str (l : List UInt8) : Value := .string ⟨l.toArray⟩
abbrev toL (s : ByteArray) : List UInt8 := s.data.toList
abbrev I64 (n : Int) : Prop := -9223372036854775808 ≤ n ∧ n ≤ 9223372036854775807
theorem I64.mk {n : Int} (h : -9223372036854775808 ≤ n) (h' : n ≤ 9223372036854775807) : I64 n := ⟨h, h'⟩
def vWrap : IntKind → Int → (Value → Prop) → Prop
  | .i64, n, K => I64 n ∧ K (.int .i64 n)
  | .u8, n, K => K (.int .u8 (n % 256))
  | .u16, n, K => K (.int .u16 (n % 65536))
  | .u32, n, K => K (.int .u32 (n % 4294967296))
  | .u64, n, K => K (.int .u64 (n % 18446744073709551616))
  | k, n, K => K (.int k (k.wrap n))
theorem wrap_i64_of {n : Int} (h : I64 n) : IntKind.i64.wrap n = n := by
  obtain ⟨h1, h2⟩ := h
  simp only [IntKind.wrap, IntKind.bits, IntKind.signed]
  simp
  split <;> omega
theorem wrap_u8 (n : Int) : IntKind.u8.wrap n = n % 256 := by simp [IntKind.wrap, IntKind.bits, IntKind.signed]
theorem wrap_u16 (n : Int) : IntKind.u16.wrap n = n % 65536 := by simp [IntKind.wrap, IntKind.bits, IntKind.signed]
theorem wrap_u32 (n : Int) : IntKind.u32.wrap n = n % 4294967296 := by simp [IntKind.wrap, IntKind.bits, IntKind.signed]
theorem wrap_u64 (n : Int) : IntKind.u64.wrap n = n % 18446744073709551616 := by simp [IntKind.wrap, IntKind.bits, IntKind.signed]
theorem vWrap_sound {k : IntKind} {n : Int} {K : Value → Prop} (h : vWrap k n K) : K (.int k (k.wrap n)) := by
  cases k <;> simp only [vWrap] at h
  case i64 => rw [wrap_i64_of h.1]; exact h.2
  case u8 => rw [wrap_u8]; exact h
  case u16 => rw [wrap_u16]; exact h
  case u32 => rw [wrap_u32]; exact h
  case u64 => rw [wrap_u64]; exact h
  all_goals exact h
def Fit0 : IntKind → Int → Prop
  | .i64, n => 0 ≤ n ∧ n ≤ 9223372036854775807
  | .u8, n => 0 ≤ n ∧ n ≤ 255
  | .u16, n => 0 ≤ n ∧ n ≤ 65535
  | .u32, n => 0 ≤ n ∧ n ≤ 4294967295
  | .u64, n => 0 ≤ n ∧ n ≤ 18446744073709551615
  | _, _ => False
def topOf : IntKind → Nat
  | .i64 => 2 ^ 63
  | .u8 => 2 ^ 8
  | .u16 => 2 ^ 16
  | .u32 => 2 ^ 32
  | .u64 => 2 ^ 64
  | _ => 0
def widthOf : IntKind → Nat
  | .i64 => 63
  | .u8 => 8
  | .u16 => 16
  | .u32 => 32
  | .u64 => 64
  | _ => 0
theorem Fit0.spec {k : IntKind} {n : Int} (h : Fit0 k n) : 0 ≤ n ∧ n.toNat < 2 ^ widthOf k ∧ widthOf k ≤ k.bits ∧ (k.signed = true → widthOf k < k.bits) := by
  cases k <;> simp [Fit0, widthOf, IntKind.bits, IntKind.signed] at h ⊢ <;> omega
theorem wrap_small {k : IntKind} {r : Nat} (hw : widthOf k ≤ k.bits) (hs : k.signed = true → widthOf k < k.bits) (hr : r < 2 ^ widthOf k) : k.wrap (r : Int) = r := by
  cases k <;> simp only [widthOf, IntKind.bits, IntKind.signed] at * <;> simp [IntKind.wrap, IntKind.bits, IntKind.signed] at hs hr ⊢ <;> omega
theorem toNat_ofInt {n : Nat} {a : Int} (h : 0 ≤ a) (h2 : a.toNat < 2 ^ n) : (BitVec.ofInt n a).toNat = a.toNat := by
  obtain ⟨m, rfl⟩ := Int.eq_ofNat_of_zero_le h
  simp only [BitVec.toNat_ofInt]
  simp at h2
  rw [Int.emod_eq_of_lt (by omega) (by exact_mod_cast h2)]
def vBit (op : BinOp) (k : IntKind) (a b : Int) (K : Value → Prop) : Prop :=
  Fit0 k a ∧ Fit0 k b ∧ match op with
    | .and => K (.int k ((a.toNat &&& b.toNat : Nat) : Int))
    | .or => K (.int k ((a.toNat ||| b.toNat : Nat) : Int))
    | .xor => K (.int k ((a.toNat ^^^ b.toNat : Nat) : Int))
    | _ => False
theorem run_vBit {P : Program} {op : BinOp} {k : IntKind} {a b : Int} {K : Value → Prop} (h : vBit op k a b K) : ∃ v, K v ∧ ∀ w, (Op.intBits op k a b).run P w = .ok v w := by
  obtain ⟨ha, hb, h⟩ := h
  obtain ⟨ha0, ha1, hw, hs⟩ := ha.spec
  obtain ⟨hb0, hb1, _, _⟩ := hb.spec
  have ha2 : a.toNat < 2 ^ k.bits := Nat.lt_of_lt_of_le ha1 (Nat.pow_le_pow_right (by omega) hw)
  have hb2 : b.toNat < 2 ^ k.bits := Nat.lt_of_lt_of_le hb1 (Nat.pow_le_pow_right (by omega) hw)
  cases op <;> simp only at h <;> try exact h.elim
  · refine ⟨_, h, fun w => ?_⟩
    simp only [Op.intBits, Sem.run_pure, BitVec.toNat_and, toNat_ofInt ha0 ha2, toNat_ofInt hb0 hb2]
    rw [wrap_small hw hs (Nat.and_lt_two_pow _ hb1)]
  · refine ⟨_, h, fun w => ?_⟩
    simp only [Op.intBits, Sem.run_pure, BitVec.toNat_or, toNat_ofInt ha0 ha2, toNat_ofInt hb0 hb2]
    rw [wrap_small hw hs (Nat.or_lt_two_pow ha1 hb1)]
  · refine ⟨_, h, fun w => ?_⟩
    simp only [Op.intBits, Sem.run_pure, BitVec.toNat_xor, toNat_ofInt ha0 ha2, toNat_ofInt hb0 hb2]
    rw [wrap_small hw hs (Nat.xor_lt_two_pow ha1 hb1)]
def shN (k : IntKind) (y : Int) : Nat := min y.toNat k.bits
def vInt (op : BinOp) (k : IntKind) (a b : Int) (K : Value → Prop) : Prop :=
  match op with
  | .add => vWrap k (a + b) K
  | .sub => vWrap k (a - b) K
  | .mul => vWrap k (a * b) K
  | .quo => 0 ≤ a ∧ 0 < b ∧ vWrap k (a / b) K
  | .rem => 0 ≤ a ∧ 0 < b ∧ K (.int k (a % b))
  | .and => vBit .and k a b K
  | .or => vBit .or k a b K
  | .xor => vBit .xor k a b K
  | .eql => K (.bool (decide (a = b)))
  | .neq => K (.bool (decide (¬ a = b)))
  | .lss => K (.bool (decide (a < b)))
  | .leq => K (.bool (decide (a ≤ b)))
  | .gtr => K (.bool (decide (b < a)))
  | .geq => K (.bool (decide (b ≤ a)))
  | _ => False
def EqV (P : Program) (op : BinOp) (T : TypeId) (x y : Value) (w : World) (K : Value → Prop) : Prop :=
  ∃ b : Bool, K (.bool b) ∧ ∀ w', Ext w w' → (binOp op T x y).run P w' = .ok (.bool b) w'
def vStr (op : BinOp) (s t : ByteArray) (K : Value → Prop) : Prop :=
  match op with
  | .add => ((toL s).length + (toL t).length : Int) ≤ 9223372036854775807 ∧ K (Str (toL s ++ toL t))
  | .eql => K (.bool (decide (toL s = toL t)))
  | .neq => K (.bool (decide (¬ toL s = toL t)))
  | .lss => K (.bool (Op.bytesLess (toL s) (toL t)))
  | .leq => K (.bool (!Op.bytesLess (toL t) (toL s)))
  | .gtr => K (.bool (Op.bytesLess (toL t) (toL s)))
  | .geq => K (.bool (!Op.bytesLess (toL s) (toL t)))
  | _ => False
def vBin (P : Program) (op : BinOp) (T : TypeId) (x y : Value) (w : World) (K : Value → Prop) : Prop :=
  match x, y with
  | .int k a, .int k' b => match op with
    | .shl => 0 ≤ b ∧ vWrap k (a * 2 ^ shN k b) K
    | .shr => 0 ≤ b ∧ K (.int k (a / 2 ^ shN k b))
    | op => k = k' ∧ vInt op k a b K
  | .string s, .string t => vStr op s t K
  | .bool a, .bool b => match P.underlying T with
    | some .bool => match op with
      | .eql => K (.bool (decide (a = b)))
      | .neq => K (.bool (decide (¬ a = b)))
      | _ => False
    | _ => False
  | x, y => match op with
    | .eql => EqV P .eql T x y w K
    | .neq => EqV P .neq T x y w K
    | _ => False
theorem tdiv_of {a b : Int} (ha : 0 ≤ a) : a.tdiv b = a / b := by rw [Int.tdiv_eq_ediv_of_nonneg ha]
theorem beqD {α : Type} [DecidableEq α] [BEq α] [LawfulBEq α] (a b : α) : (a == b) = decide (a = b) := by by_cases h : a = b <;> simp [h]
theorem run_vInt {P : Program} {op : BinOp} {k : IntKind} {a b : Int} {K : Value → Prop} (h : vInt op k a b K) {T : TypeId} : ∃ v, K v ∧ ∀ w, (binOp op T (.int k a) (.int k b)).run P w = .ok v w := by
  cases op <;> simp only [vInt] at h <;> try exact h.elim
  case add => exact ⟨_, vWrap_sound h, fun w => by simp [binOp, Op.intArith]⟩
  case sub => exact ⟨_, vWrap_sound h, fun w => by simp [binOp, Op.intArith]⟩
  case mul => exact ⟨_, vWrap_sound h, fun w => by simp [binOp, Op.intArith]⟩
  case quo => exact ⟨_, vWrap_sound h.2.2, fun w => by simp [binOp, Op.intDiv, tdiv_of h.1, show b ≠ 0 by omega]⟩
  case rem => exact ⟨_, h.2.2, fun w => by simp [binOp, Op.intDiv, Int.tmod_eq_emod_of_nonneg h.1, show b ≠ 0 by omega]⟩
  case and => obtain ⟨v, hv, hr⟩ := run_vBit (P := P) h; exact ⟨v, hv, fun w => by simp [binOp, hr]⟩
  case or => obtain ⟨v, hv, hr⟩ := run_vBit (P := P) h; exact ⟨v, hv, fun w => by simp [binOp, hr]⟩
  case xor => obtain ⟨v, hv, hr⟩ := run_vBit (P := P) h; exact ⟨v, hv, fun w => by simp [binOp, hr]⟩
  all_goals
    refine ⟨_, h, fun w => ?_⟩
    simp [binOp, Op.intCmp]
  · exact beqD _ _
  · rw [bne, beqD]
theorem bytesLess_asymm_iff (x y : List UInt8) : (Op.bytesLess x y || x == y) = !Op.bytesLess y x := by
  induction x generalizing y with
  | nil => cases y <;> simp [Op.bytesLess]
  | cons a x ih =>
    cases y with
    | nil => simp [Op.bytesLess]
    | cons b y =>
      have := ih y
      simp only [Op.bytesLess]
      by_cases h1 : a < b
      · have h2 : ¬ b < a := by
          intro h; exact absurd (UInt8.lt_iff_toNat_lt.1 h) (by have := UInt8.lt_iff_toNat_lt.1 h1; omega)
        have h3 : ¬ b = a := by rintro rfl; exact absurd (UInt8.lt_iff_toNat_lt.1 h1) (by omega)
        simp [h1, h2, h3]
      · by_cases h3 : a = b
        · subst h3
          simp [h1, this]
        · have h2 : b < a := by
            rw [UInt8.lt_iff_toNat_lt] at h1 ⊢
            have : a.toNat ≠ b.toNat := fun h => h3 (UInt8.toNat_inj.1 h)
            omega
          simp [h1, h2, h3]
theorem bytes_toList (s : ByteArray) : s.toList = s.data.toList := ByteArray.toList_eq s
theorem run_vStr {P : Program} {op : BinOp} {s t : ByteArray} {K : Value → Prop} (h : vStr op s t K) {T : TypeId} : ∃ v, K v ∧ ∀ w, (binOp op T (.string s) (.string t)).run P w = .ok v w := by
  cases op <;> simp only [vStr] at h <;> try exact h.elim
  case add =>
    refine ⟨_, h.2, fun w => ?_⟩
    have hs : ¬ ((s.size + t.size : Nat) : Int) > IntKind.i64.max := by
      have h1 := h.1
      have e1 : s.size = (toL s).length := rfl
      have e2 : t.size = (toL t).length := rfl
      rw [e1, e2]
      have e3 : IntKind.i64.max = 9223372036854775807 := by decide
      rw [e3]; omega
    have e : s ++ t = ⟨(toL s ++ toL t).toArray⟩ := by
      apply ByteArray.ext
      show (s ++ t).data = (s.data.toList ++ t.data.toList).toArray
      rw [ByteArray.data_append]
      exact Array.ext' (by simp)
    simp only [binOp, Op.stringOp, if_neg hs, Sem.run_pure, e]
  case lss => exact ⟨_, h, fun w => by simp [binOp, Op.stringOp, bytes_toList, toL]⟩
  case leq =>
    refine ⟨_, h, fun w => ?_⟩
    have := bytesLess_asymm_iff s.data.toList t.data.toList
    simp only [binOp, Op.stringOp, bytes_toList, toL, this, Sem.run_pure]
  case gtr =>
    refine ⟨_, h, fun w => ?_⟩
    have := bytesLess_asymm_iff s.data.toList t.data.toList
    simp only [binOp, Op.stringOp, bytes_toList, toL, this, Sem.run_pure, Bool.not_not]
  case geq => exact ⟨_, h, fun w => by simp [binOp, Op.stringOp, bytes_toList, toL]⟩
  case eql =>
    refine ⟨_, h, fun w => ?_⟩
    simp only [binOp, Op.stringOp, bytes_toList, Sem.run_pure, toL]
    rw [beqD]
  case neq =>
    refine ⟨_, h, fun w => ?_⟩
    simp only [binOp, Op.stringOp, bytes_toList, Sem.run_pure, toL]
    rw [beqD]; simp
theorem run_equalIn_bool' {P : Program} {T : TypeId} (hu : P.underlying T = some .bool) (d : Nat) (a b : Bool) (w : World) : (Op.equalIn (d + 1) T (.bool a) (.bool b)).run P w = .ok (decide (a = b)) w := by
  unfold Op.equalIn
  simp only [Sem.run_bind, run_underlying hu, Result.andThen_ok, Sem.run_pure, beqD]
theorem run_equal_bool' {P : Program} {T : TypeId} (hu : P.underlying T = some .bool) (a b : Bool) (w : World) : (Op.equal T (.bool a) (.bool b)).run P w = .ok (decide (a = b)) w :=
  run_equalIn_bool' hu 9999 a b w
theorem run_eqGuard {P : Program} {op : BinOp} {T : TypeId} {x y : Operand} {a b : Value} (h : (∀ c, a ≠ .agg c) ∧ a ≠ .nilIface) (w : World) : (eqGuard op T x y a b).run P w = .ok () w := by
  unfold eqGuard
  cases op <;> simp <;> (split <;> simp_all)
theorem run_vBin {P : Program} {op : BinOp} {T : TypeId} {x y : Value} {w : World} {K : Value → Prop} (h : vBin P op T x y w K) : ∃ v, K v ∧ ∀ w', Ext w w' → (binOp op T x y).run P w' = .ok v w' := by
  unfold vBin at h
  split at h
  · rename_i k a k' b
    cases op
    case shl =>
      refine ⟨_, vWrap_sound h.2, fun w' _ => ?_⟩
      simp [binOp, Op.shift, show ¬ b < 0 by omega, shN]
    case shr =>
      refine ⟨_, h.2, fun w' _ => ?_⟩
      simp only [binOp, Op.shift, show ¬ b < 0 by omega, shN, if_false, Sem.run_pure]
      rw [Int.fdiv_eq_ediv_of_nonneg]
      exact Int.pow_nonneg (by omega)
    all_goals
      obtain ⟨rfl, h⟩ := h
      obtain ⟨v, hv, hr⟩ := run_vInt (P := P) (T := T) h
      exact ⟨v, hv, fun w' _ => hr w'⟩
  · obtain ⟨v, hv, hr⟩ := run_vStr (P := P) (T := T) h
    exact ⟨v, hv, fun w' _ => hr w'⟩
  · rename_i a b
    split at h
    · rename_i hu
      split at h
      · refine ⟨_, h, fun w' _ => ?_⟩
        have he := fun w => run_equal_bool' (P := P) hu a b w
        simp only [binOp, Sem.run_bind, he, Result.andThen_ok, Sem.run_pure]
      · refine ⟨_, h, fun w' _ => ?_⟩
        have he := fun w => run_equal_bool' (P := P) hu a b w
        simp only [binOp, Sem.run_bind, he, Result.andThen_ok, Sem.run_pure, decide_not]
      · exact h.elim
    · exact h.elim
  · split at h
    · obtain ⟨b, hb, hr⟩ := h; exact ⟨_, hb, hr⟩
    · obtain ⟨b, hb, hr⟩ := h; exact ⟨_, hb, hr⟩
    · exact h.elim
end Go.Eng
namespace Go.Eng
open Go
def argT : Env → Nat → (Value → Prop) → Prop
  | [], _, _ => False
  | p :: e, n, K => if n = p.1 then K p.2 else argT e n K
def arg (e : Env) (x : Operand) (K : Value → Prop) : Prop :=
  match x with
  | .tmp t => argT e t K
  | .const v => K v
  | .global g => K (.pointer (some ⟨g, 0, none⟩))
  | .func f => K (.func (.func f) #[] #[])
def argL (e : Env) : List Operand → (List Value → Prop) → Prop
  | [], K => K []
  | x :: xs, K => arg e x fun v => argL e xs fun vs => K (v :: vs)
theorem argT_find {e : Env} {n : Nat} {K : Value → Prop} (h : argT e n K) : ∃ v, e.find? n = some v ∧ K v := by
  induction e with
  | nil => exact h.elim
  | cons p e ih =>
    simp only [argT, Env.find?_cons] at h ⊢
    split
    · rename_i hn; rw [if_pos hn] at h; exact ⟨_, rfl, h⟩
    · rename_i hn; rw [if_neg hn] at h; exact ih h
theorem arg_sound {N : Nat} {e : Env} {a : Act} {x : Operand} {K : Value → Prop} (ha : Fits N e a) (h : arg e x K) : K (a.eval x) := by
  cases x with
  | tmp t => obtain ⟨v, hv, hK⟩ := argT_find h; show K (a.tmps.getD t undef); rw [ha.at_ t v hv]; exact hK
  | const v => exact h
  | global g => exact h
  | func f => exact h
theorem argL_sound {N : Nat} {e : Env} {a : Act} (ha : Fits N e a) {xs : List Operand} : ∀ {K : List Value → Prop}, argL e xs K → K (xs.map a.eval) := by
  induction xs with
  | nil => intro K h; exact h
  | cons x xs ih => intro K h; exact ih (arg_sound ha h)
end Go.Eng
namespace Go
def Program.szo (P : Program) (T : TypeId) : Option Nat := (P.info? T).map (·.size)
end Go
namespace Go.Eng
open Go
theorem run_szo {P : Program} {T : TypeId} {n : Nat} (h : P.szo T = some n) (w : World) : (sizeOf T).run P w = .ok n w := by
  unfold Program.szo at h
  cases hi : P.info? T with
  | none => simp [hi] at h
  | some i =>
    simp [hi] at h
    simp [sizeOf, typeInfo, hi, h]
def Reads (w : World) (a : Addr) (xs : List Value) : Prop := ∀ j u, xs[j]? = some u → w.cell? (a.add j) = some u
theorem Reads.ext {w w' : World} {a : Addr} {xs : List Value} (h : Reads w a xs) (hh : Ext w w') : Reads w' a xs := fun j u hu => hh.cell (h j u hu)
theorem Reads.heap {w w' : World} {a : Addr} {xs : List Value} (h : Reads w a xs) (hh : w'.heap = w.heap) : Reads w' a xs := by
  intro j u hu
  have := h j u hu
  simpa [World.cell?, hh] using this
def vPart (P : Program) (T : TypeId) (cs : Array Value) (off : Nat) (K : Value → Prop) : Prop :=
  match P.underlying T with
  | some (.struct _) | some (.array _ _) => match P.szo T with
    | some n => K (.agg (cs.extract off (off + n)))
    | none => False
  | some _ => match cs[off]? with
    | some v => K v
    | none => False
  | none => False
theorem run_vPart {P : Program} {T : TypeId} {cs : Array Value} {off : Nat} {K : Value → Prop} (h : vPart P T cs off K) : ∃ v, K v ∧ ∀ w, (part T cs off).run P w = .ok v w := by
  unfold vPart at h
  split at h
  · rename_i hu
    split at h
    · rename_i n hn
      exact ⟨_, h, fun w => by simp [part, isAgg, run_underlying hu, run_szo hn]⟩
    · exact h.elim
  · rename_i hu
    split at h
    · rename_i n hn
      exact ⟨_, h, fun w => by simp [part, isAgg, run_underlying hu, run_szo hn]⟩
    · exact h.elim
  · rename_i d hd1 hd2 hu
    split at h
    · rename_i v hv
      refine ⟨_, h, fun w => ?_⟩
      have : (isAgg T).run P w = .ok false w := by
        cases d <;> simp_all [isAgg, run_underlying hu]
      simp [part, this, hv]
    · exact h.elim
  · exact h.elim
def vIndex (P : Program) (T : TypeId) (x i : Value) (K : Value → Prop) : Prop :=
  match x, i with
  | .string s, .int _ n => P.underlying T = some .string ∧ (0 ≤ n ∧ n < (toL s).length) ∧ K (.int .u8 ((toL s).getD n.toNat 0).toNat)
  | .agg cs, .int _ n => match P.underlying T with
    | some (.array len E) => (0 ≤ n ∧ n < len) ∧ match P.szo E with
      | some sz => vPart P E cs (n.toNat * sz) K
      | none => False
    | _ => False
  | _, _ => False
theorem run_vIndex {P : Program} {T : TypeId} {x i : Value} {K : Value → Prop} (h : vIndex P T x i K) : ∃ v, K v ∧ ∀ w, (Instr.index T x i).run P w = .ok v w := by
  unfold vIndex at h
  split at h
  · rename_i s k n
    obtain ⟨hu, hb, h⟩ := h
    refine ⟨_, h, fun w => ?_⟩
    have hlt : n.toNat < s.data.toList.length := by simp only [toL] at hb; omega
    have hlt' : n.toNat < s.data.size := by simpa using hlt
    have hg : s[n.toNat]? = some (s.data.toList.getD n.toNat 0) := by
      rw [List.getD_eq_getElem?_getD, List.getElem?_eq_getElem hlt]
      simp only [getElem?_def]
      rw [dif_pos (by exact hlt')]
      rfl
    simp only [Instr.index, asIntOf, Sem.run_bind, Sem.run_pure, Result.andThen_ok, run_underlying hu, hb.1, if_true, hg, toL]
  · rename_i cs k n
    split at h
    · rename_i len E hu
      obtain ⟨hb, h⟩ := h
      split at h
      · rename_i sz hsz
        obtain ⟨v, hv, hr⟩ := run_vPart h
        refine ⟨v, hv, fun w => ?_⟩
        simp [Instr.index, asIntOf, run_underlying hu, hb, run_szo hsz, hr]
      · exact h.elim
    · exact h.elim
  · exact h.elim
def vBound (x : Option Value) (dflt : Int) (K : Int → Prop) : Prop :=
  match x with
  | none => K dflt
  | some (.int _ n) => K n
  | some _ => False
def vSlice (P : Program) (T : TypeId) (x : Value) (lo hi : Option Value) (K : Value → Prop) : Prop :=
  match x with
  | .string s => P.underlying T = some .string ∧ match lo, hi with
    | none, none => K (.string s)
    | some (.int _ l), none => (0 ≤ l ∧ l ≤ (toL s).length) ∧ K (Str ((toL s).drop l.toNat))
    | none, some (.int _ h) => (0 ≤ h ∧ h ≤ (toL s).length) ∧ K (Str ((toL s).take h.toNat))
    | some (.int _ l), some (.int _ h) => (0 ≤ l ∧ l ≤ h ∧ h ≤ (toL s).length) ∧ K (Str (((toL s).drop l.toNat).take (h.toNat - l.toNat)))
    | _, _ => False
  | .slice a n cap => match P.underlying T with
    | some (.slice E) => match P.szo E with
      | some sz => match lo, hi with
        | none, none => n ≤ cap ∧ K (.slice a n cap)
        | some (.int _ l), none => (0 ≤ l ∧ l ≤ n ∧ n ≤ cap) ∧ K (.slice (if cap = l.toNat then a else a.map (·.add (l.toNat * sz))) (n - l.toNat) (cap - l.toNat))
        | none, some (.int _ h) => (0 ≤ h ∧ h ≤ cap) ∧ K (.slice a h.toNat cap)
        | some (.int _ l), some (.int _ h) => (0 ≤ l ∧ l ≤ h ∧ h ≤ cap) ∧ K (.slice (if cap = l.toNat then a else a.map (·.add (l.toNat * sz))) (h.toNat - l.toNat) (cap - l.toNat))
        | _, _ => False
      | none => False
    | _ => False
  | _ => False
theorem str_extract (s : ByteArray) (l h : Nat) : s.extract l h = ⟨((s.data.toList.drop l).take (h - l)).toArray⟩ := by
  apply ByteArray.ext
  show (s.extract l h).data = _
  rw [ByteArray.data_extract]
  apply Array.ext'
  simp [List.extract_eq_take_drop]
theorem run_bound {P : Program} {k : IntKind} {i : Int} {y : Nat} {code : BoundsCode} (h0 : 0 ≤ i) (h1 : i ≤ y) (w : World) : (Instr.sliceBound (.int k i) y code).run P w = .ok i.toNat w := by
  simp [Instr.sliceBound, asIntOf, h0, h1]
theorem run_vSlice {P : Program} {T : TypeId} {x : Value} {lo hi : Option Value} {K : Value → Prop} (h : vSlice P T x lo hi K) :
    ∃ v, K v ∧ ∀ w, (Instr.sliceAt T x lo hi none).run P w = .ok v w := by
  unfold vSlice at h
  split at h
  · rename_i s
    obtain ⟨hu, h⟩ := h
    have hsz : s.size = s.data.toList.length := rfl
    split at h
    · refine ⟨_, h, fun w => ?_⟩
      simp [Instr.sliceAt, Instr.slice, Instr.sliceBounds, run_underlying hu]
    · rename_i k l
      refine ⟨_, h.2, fun w => ?_⟩
      have hb : 0 ≤ l ∧ l ≤ (s.size : Int) := h.1
      have : s.extract l.toNat s.size = ⟨(s.data.toList.drop l.toNat).toArray⟩ := by
        rw [str_extract, hsz]; congr 2; apply List.take_of_length_le; simp
      simp [Instr.sliceAt, Instr.slice, Instr.sliceBounds, Instr.sliceBound, asIntOf, run_underlying hu, hb, this, toL]
    · rename_i k l
      refine ⟨_, h.2, fun w => ?_⟩
      have hb : 0 ≤ l ∧ l ≤ (s.size : Int) := h.1
      have : s.extract 0 l.toNat = ⟨(s.data.toList.take l.toNat).toArray⟩ := by
        rw [str_extract]; simp
      simp [Instr.sliceAt, Instr.slice, Instr.sliceBounds, Instr.sliceBound, asIntOf, run_underlying hu, hb, this, toL]
    · rename_i k l k' h'
      refine ⟨_, h.2, fun w => ?_⟩
      obtain ⟨⟨h1, h2, h3⟩, _⟩ := h
      have hb : 0 ≤ h' ∧ h' ≤ (s.size : Int) := ⟨by omega, h3⟩
      have hb2 : 0 ≤ l ∧ l ≤ (h'.toNat : Int) := ⟨h1, by omega⟩
      have e1 := fun code w => run_bound (P := P) (k := k') (y := s.size) (code := code) hb.1 hb.2 w
      have e2 := fun code w => run_bound (P := P) (k := k) (y := h'.toNat) (code := code) hb2.1 hb2.2 w
      simp [Instr.sliceAt, Instr.slice, Instr.sliceBounds, run_underlying hu, e1, e2, str_extract, toL]
    · exact h.elim
  · rename_i a n cap
    split at h
    · rename_i E hu
      split at h
      · rename_i sz hsz
        split at h
        · refine ⟨_, h.2, fun w => ?_⟩
          have : (a.map fun x => x.add 0) = a := by cases a <;> simp [Addr.add]
          simp [Instr.sliceAt, Instr.slice, Instr.sliceBounds, run_underlying hu, run_szo hsz, this]
        · rename_i k l
          refine ⟨_, h.2, fun w => ?_⟩
          obtain ⟨⟨h1, h2, h3⟩, _⟩ := h
          simp [Instr.sliceAt, Instr.slice, Instr.sliceBounds, Instr.sliceBound, asIntOf, run_underlying hu, run_szo hsz, h1, h2]
        · rename_i k l
          refine ⟨_, h.2, fun w => ?_⟩
          obtain ⟨⟨h1, h2⟩, _⟩ := h
          have : (a.map fun x => x.add 0) = a := by cases a <;> simp [Addr.add]
          simp [Instr.sliceAt, Instr.slice, Instr.sliceBounds, Instr.sliceBound, asIntOf, run_underlying hu, run_szo hsz, h1, h2, this]
        · rename_i k l k' h'
          refine ⟨_, h.2, fun w => ?_⟩
          obtain ⟨⟨h1, h2, h3⟩, _⟩ := h
          have hb : 0 ≤ h' ∧ h' ≤ (cap : Int) := ⟨by omega, h3⟩
          have hb2 : 0 ≤ l ∧ l ≤ (h'.toNat : Int) := ⟨h1, by omega⟩
          have e1 := fun code w => run_bound (P := P) (k := k') (y := cap) (code := code) hb.1 hb.2 w
          have e2 := fun code w => run_bound (P := P) (k := k) (y := h'.toNat) (code := code) hb2.1 hb2.2 w
          simp [Instr.sliceAt, Instr.slice, Instr.sliceBounds, run_underlying hu, run_szo hsz, e1, e2]
        · exact h.elim
      · exact h.elim
    · exact h.elim
  · exact h.elim
end Go.Eng
set_option linter.unusedSimpArgs false
set_option linter.unusedVariables false
namespace Go.Eng
open Go
def bytesV (l : List UInt8) : List Value := l.map fun b => .int .u8 b.toNat
def ReadsBytes (w : World) (a : Option Addr) (n : Nat) (l : List UInt8) : Prop :=
  l.length = n ∧ (a = none → n = 0) ∧ ∀ ad, a = some ad → Reads w ad (bytesV l)
def vConv (P : Program) (src dst : TypeId) (x : Value) (w : World) (K : Value → Prop) : Prop :=
  match P.underlying src, P.underlying dst, x with
  | some _, some (.int k), .int _ n => vWrap k n K
  | some _, some .string, .string s => K (.string s)
  | some (.slice E), some .string, .slice a n _ => P.underlying E = some (.int .u8) ∧ ∃ l, ReadsBytes w a n l ∧ K (Str l)
  | _, _, _ => False
theorem foldl_push (l : List UInt8) (s : ByteArray) : (l.map fun b => (b.toNat : Int)).foldl (fun r n => r.push (UInt8.ofNat n.toNat)) s = ⟨(s.data.toList ++ l).toArray⟩ := by
  induction l generalizing s with
  | nil => apply ByteArray.ext; simp
  | cons b l ih =>
    simp only [List.map_cons, List.foldl_cons]
    rw [ih]
    apply ByteArray.ext
    simp [ByteArray.push]
theorem run_loadCells_reads {P : Program} {w : World} {a : Addr} {xs : List Value} (h : Reads w a xs) : (loadCells a xs.length).run P w = .ok xs.toArray w :=
  run_loadCells_list w a xs h
theorem run_vConv {P : Program} {src dst : TypeId} {x : Value} {w : World} {K : Value → Prop} (h : vConv P src dst x w K) :
    ∃ v, K v ∧ ∀ w', Ext w w' → (convert src dst x).run P w' = .ok v w' := by
  unfold vConv at h
  split at h
  · rename_i d k k' n hs hd
    refine ⟨_, vWrap_sound h, fun w' _ => ?_⟩
    simp [convert, run_underlying hs, run_underlying hd, Conv.intToInt]
  · rename_i d s hs hd
    refine ⟨_, h, fun w' _ => ?_⟩
    cases d <;> simp [convert, run_underlying hs, run_underlying hd]
  · rename_i E a n c hs hd
    obtain ⟨he, l, ⟨hl, hnil, hr⟩, hK⟩ := h
    refine ⟨_, hK, fun w' hw => ?_⟩
    rw [run_convert_bytes_string w' src dst E a n c hs he hd]
    cases a with
    | none =>
      have hn := hnil rfl
      subst hn
      have : l = [] := List.eq_nil_of_length_eq_zero hl
      subst this
      simp only [Conv.bytesToString, Sem.run_pure]
      rfl
    | some ad =>
      have hr' := (hr ad rfl).ext hw
      have e1 : bytesV l = (l.map fun b => (b.toNat : Int)).map (Value.int .u8) := by simp [bytesV]
      have hc := run_loadCells_reads (P := P) hr'
      have e2 : (bytesV l).length = n := by simp [bytesV, hl]
      rw [e2, e1] at hc
      rw [run_bytesToString w' ad n c (l.map fun b => (b.toNat : Int)) hc]
      rw [foldl_push]
      simp
  · exact h.elim
def vLen (P : Program) (T : TypeId) (x : Value) (K : Value → Prop) : Prop :=
  match P.underlying T, x with
  | some .string, .string s => K (.int .i64 (toL s).length)
  | some (.slice _), .slice _ n _ => K (.int .i64 n)
  | some (.array n _), _ => K (.int .i64 n)
  | some (.pointer A), _ => match P.underlying A with
    | some (.array n _) => K (.int .i64 n)
    | _ => False
  | _, _ => False
theorem run_vLen {P : Program} {T : TypeId} {x : Value} {K : Value → Prop} (h : vLen P T x K) {ts : Array TypeId} (ht : ts[0]? = some T) {ty : TypeId} :
    ∃ v, K v ∧ ∀ w, (Builtin.len_ ts ty #[x]).run P w = .ok v w := by
  unfold vLen at h
  split at h
  · rename_i s hu; exact ⟨_, h, fun w => by simp [Builtin.len_, ht, run_underlying hu, goInt, toL]⟩
  · rename_i hu; exact ⟨_, h, fun w => by simp [Builtin.len_, ht, run_underlying hu, goInt]⟩
  · rename_i hu; exact ⟨_, h, fun w => by simp [Builtin.len_, ht, run_underlying hu, goInt]⟩
  · rename_i hu
    split at h
    · rename_i hu2; exact ⟨_, h, fun w => by simp [Builtin.len_, ht, run_underlying hu, run_underlying hu2, goInt]⟩
    · exact h.elim
  · exact h.elim
def vMin : List Value → (Value → Prop) → Prop
  | [.int k x, .int _ y], K => K (.int k (min x y))
  | [.int k x, .int _ y, .int _ z], K => K (.int k (min (min x y) z))
  | _, _ => False
def vMax : List Value → (Value → Prop) → Prop
  | [.int k x, .int _ y], K => K (.int k (max x y))
  | [.int k x, .int _ y, .int _ z], K => K (.int k (max (max x y) z))
  | _, _ => False
theorem ite_min (x y : Int) : (if y < x then y else x) = min x y := by split <;> omega
theorem ite_max (x y : Int) : (if y > x then y else x) = max x y := by split <;> omega
theorem run_vMin {P : Program} {vs : List Value} {K : Value → Prop} (h : vMin vs K) {ts : Array TypeId} {ty : TypeId} : ∃ v, K v ∧ ∀ w, (Builtin.min_ ts ty vs.toArray).run P w = .ok v w := by
  unfold vMin at h
  split at h
  · exact ⟨_, h, fun w => by simp [Builtin.min_, Builtin.min2, ite_min]⟩
  · exact ⟨_, h, fun w => by simp [Builtin.min_, Builtin.min2, ite_min]⟩
  · exact h.elim
theorem run_vMax {P : Program} {vs : List Value} {K : Value → Prop} (h : vMax vs K) {ts : Array TypeId} {ty : TypeId} : ∃ v, K v ∧ ∀ w, (Builtin.max_ ts ty vs.toArray).run P w = .ok v w := by
  unfold vMax at h
  split at h
  · exact ⟨_, h, fun w => by simp [Builtin.max_, Builtin.max2]; split <;> omega⟩
  · exact ⟨_, h, fun w => by simp [Builtin.max_, Builtin.max2]; (repeat' split) <;> omega⟩
  · exact h.elim
def vLoad (P : Program) (T : TypeId) (x : Value) (w : World) (K : Value → Prop) : Prop :=
  match x with
  | .pointer (some a) => match P.underlying T with
    | some (.struct _) | some (.array _ _) => match P.szo T with
      | some n => ∃ cs : List Value, (cs.length = n ∧ Reads w a cs) ∧ K (.agg cs.toArray)
      | none => False
    | some _ => ∃ v, w.cell? a = some v ∧ K v
    | none => False
  | _ => False
theorem run_load {P : Program} {w : World} {a : Addr} {v : Value} (h : w.cell? a = some v) : (load a).run P w = .ok v w := by
  simp [load, Sem.run, h]
theorem run_vLoad {P : Program} {T : TypeId} {x : Value} {w : World} {K : Value → Prop} (h : vLoad P T x w K) :
    ∃ v, K v ∧ ∀ w', Ext w w' → (Instr.loadAt T x).run P w' = .ok v w' := by
  have key : ∀ (a : Addr) (n : Nat), (P.szo T = some n) → (∀ w, (isAgg T).run P w = .ok true w) → ∀ cs : List Value, cs.length = n → Reads w a cs →
      ∀ w', Ext w w' → (Instr.loadAt T (.pointer (some a))).run P w' = .ok (.agg cs.toArray) w' := by
    intro a n hn hagg cs hl hr w' hw
    have := run_loadCells_reads (P := P) (hr.ext hw)
    rw [hl] at this
    simp [Instr.loadAt, Instr.sureAddr, loadVar, hagg, run_szo hn, this]
  unfold vLoad at h
  split at h
  · rename_i a
    split at h
    · rename_i hu
      split at h
      · rename_i n hn
        obtain ⟨cs, ⟨hl, hr⟩, hK⟩ := h
        exact ⟨_, hK, key a n hn (fun w => by simp [isAgg, run_underlying hu]) cs hl hr⟩
      · exact h.elim
    · rename_i hu
      split at h
      · rename_i n hn
        obtain ⟨cs, ⟨hl, hr⟩, hK⟩ := h
        exact ⟨_, hK, key a n hn (fun w => by simp [isAgg, run_underlying hu]) cs hl hr⟩
      · exact h.elim
    · rename_i d hd1 hd2 hu
      obtain ⟨v, hv, hK⟩ := h
      refine ⟨v, hK, fun w' hw => ?_⟩
      have hc : w'.cell? a = some v := hw.cell hv
      have : (isAgg T).run P w' = .ok false w' := by
        cases d <;> simp_all [isAgg, run_underlying hu]
      simp [Instr.loadAt, Instr.sureAddr, loadVar, this, hc]
    · exact h.elim
  · exact h.elim
def vNil (x : Value) (K : Value → Prop) : Prop :=
  match x with
  | .pointer (some a) => K (.pointer (some a))
  | .func (.func f) p c => K (.func (.func f) p c)
  | .iface t v => K (.iface t v)
  | _ => False
def vFieldAddr (P : Program) (S : TypeId) (x : Value) (f : Nat) (K : Value → Prop) : Prop :=
  match x with
  | .pointer (some a) => match P.underlying S with
    | some (.struct fields) => match fields[f]? with
      | some fd => match P.szo fd.type with
        | some (_ + 1) => K (.pointer (some (a.add fd.offset)))
        | _ => False
      | none => False
    | _ => False
  | _ => False
theorem run_vFieldAddr {P : Program} {S : TypeId} {x : Value} {f : Nat} {K : Value → Prop} (h : vFieldAddr P S x f K) : ∃ v, K v ∧ ∀ w, (Instr.fieldAt S x f).run P w = .ok v w := by
  unfold vFieldAddr at h
  split at h
  · split at h
    · rename_i hu
      split at h
      · rename_i fd hf
        split at h
        · rename_i n hn
          exact ⟨_, h, fun w => by simp [Instr.fieldAt, Instr.sureAddr, run_underlying hu, hf, fieldPlace, run_szo hn]⟩
        · exact h.elim
      · exact h.elim
    · exact h.elim
  · exact h.elim
def vField (P : Program) (S : TypeId) (x : Value) (f : Nat) (K : Value → Prop) : Prop :=
  match x with
  | .agg cs => match P.underlying S with
    | some (.struct fields) => match fields[f]? with
      | some fd => vPart P fd.type cs fd.offset K
      | none => False
    | _ => False
  | _ => False
theorem run_vField {P : Program} {S : TypeId} {x : Value} {f : Nat} {K : Value → Prop} (h : vField P S x f K) : ∃ v, K v ∧ ∀ w, (Instr.field S x f).run P w = .ok v w := by
  unfold vField at h
  split at h
  · split at h
    · rename_i hu
      split at h
      · rename_i fd hf
        obtain ⟨v, hv, hr⟩ := run_vPart h
        exact ⟨v, hv, fun w => by simp [Instr.field, run_underlying hu, hf, asAgg, hr]⟩
      · exact h.elim
    · exact h.elim
  · exact h.elim
def vIndexAddr (P : Program) (T : TypeId) (x i : Value) (K : Value → Prop) : Prop :=
  match i with
  | .int _ n => match P.underlying T, x with
    | some (.slice E), .slice (some a) len _ => match P.szo E with
      | some sz => (0 ≤ n ∧ n < len) ∧ K (.pointer (some (a.add (n.toNat * sz))))
      | none => False
    | some (.array len E), .pointer (some a) => match P.szo E with
      | some sz => (0 ≤ n ∧ n < len) ∧ K (.pointer (some (a.add (n.toNat * sz))))
      | none => False
    | _, _ => False
  | _ => False
theorem run_vIndexAddr {P : Program} {T : TypeId} {x i : Value} {K : Value → Prop} (h : vIndexAddr P T x i K) : ∃ v, K v ∧ ∀ w, (Instr.indexAt T x i).run P w = .ok v w := by
  unfold vIndexAddr at h
  split at h
  · split at h
    · rename_i hu
      split at h
      · rename_i sz hsz
        exact ⟨_, h.2, fun w => by simp [Instr.indexAt, asIntOf, run_underlying hu, h.1, run_szo hsz]⟩
      · exact h.elim
    · rename_i hu
      split at h
      · rename_i sz hsz
        exact ⟨_, h.2, fun w => by simp [Instr.indexAt, asIntOf, Instr.sureAddr, run_underlying hu, h.1, run_szo hsz]⟩
      · exact h.elim
    · exact h.elim
  · exact h.elim
def vExtract (x : Value) (i : Nat) (K : Value → Prop) : Prop :=
  match x with
  | .tuple vs => match vs[i]? with
    | some v => K v
    | none => False
  | _ => False
def vUn (op : UnOp) (x : Value) (K : Value → Prop) : Prop :=
  match op, x with
  | .not, .bool b => K (.bool (!b))
  | .neg, .int k n => vWrap k (-n) K
  | .xor, .int .u32 n => (0 ≤ n ∧ n ≤ 4294967295) ∧ K (.int .u32 (4294967295 - n))
  | .xor, .int .u64 n => (0 ≤ n ∧ n ≤ 18446744073709551615) ∧ K (.int .u64 (18446744073709551615 - n))
  | .xor, .int .u8 n => (0 ≤ n ∧ n ≤ 255) ∧ K (.int .u8 (255 - n))
  | .xor, .int .i64 n => (-9223372036854775808 ≤ n ∧ n ≤ 9223372036854775807) ∧ K (.int .i64 (-n - 1))
  | _, _ => False
theorem xor_ones (n : Nat) (x : Int) (h0 : 0 ≤ x) (h1 : x.toNat < 2 ^ n) : ((BitVec.ofInt n ((2 ^ n : Nat) - 1 : Int)) ^^^ BitVec.ofInt n x).toNat = 2 ^ n - 1 - x.toNat := by
  have e : BitVec.ofInt n ((2 ^ n : Nat) - 1 : Int) = BitVec.allOnes n := by
    apply BitVec.eq_of_toNat_eq
    have hp : 0 < 2 ^ n := Nat.two_pow_pos n
    simp only [BitVec.toNat_ofInt, BitVec.toNat_allOnes]
    have : (((2 ^ n : Nat) : Int) - 1) % ((2 ^ n : Nat) : Int) = ((2 ^ n : Nat) : Int) - 1 := Int.emod_eq_of_lt (by omega) (by omega)
    rw [this]; omega
  rw [e, BitVec.allOnes_xor, BitVec.toNat_not, toNat_ofInt h0 h1]
theorem xor_neg (n : Int) (h0 : -9223372036854775808 ≤ n) (h1 : n ≤ 9223372036854775807) : IntKind.i64.wrap ((BitVec.ofInt 64 (-1) ^^^ BitVec.ofInt 64 n).toNat : Int) = -n - 1 := by
  have e : BitVec.ofInt 64 (-1) = BitVec.allOnes 64 := by decide
  rw [e, BitVec.allOnes_xor, BitVec.toNat_not, BitVec.toNat_ofInt]
  have hm : ((n % ((2 ^ 64 : Nat) : Int)).toNat : Int) = n % 18446744073709551616 := by
    rw [Int.toNat_of_nonneg (Int.emod_nonneg _ (by decide))]; rfl
  generalize (n % ((2 ^ 64 : Nat) : Int)).toNat = q at *
  have hw : ∀ v : Int, IntKind.i64.wrap v = if 9223372036854775808 ≤ v % 18446744073709551616 then v % 18446744073709551616 - 18446744073709551616 else v % 18446744073709551616 := by
    intro v
    simp [IntKind.wrap, IntKind.bits, IntKind.signed]
  rw [hw]
  have p1 : (2 : Nat) ^ 64 = 18446744073709551616 := rfl
  rw [p1]
  split <;> omega
theorem run_vUn {P : Program} {op : UnOp} {x : Value} {K : Value → Prop} (h : vUn op x K) : ∃ v, K v ∧ ∀ w, (Op.unary op x).run P w = .ok v w := by
  unfold vUn at h
  split at h
  · exact ⟨_, h, fun w => by simp [Op.unary]⟩
  · refine ⟨_, vWrap_sound h, fun w => by simp [Op.unary, Op.intArith]⟩
  · rename_i n
    refine ⟨_, h.2, fun w => ?_⟩
    have hx := xor_ones 32 n h.1.1 (by have := h.1; omega)
    have e : IntKind.u32.max = ((2 ^ 32 : Nat) - 1 : Int) := by decide
    simp only [Op.unary, IntKind.signed, Op.intBits, Sem.run_pure, Bool.false_eq_true, if_false, e]
    have hx' : (BitVec.ofInt IntKind.u32.bits ((2 ^ 32 : Nat) - 1 : Int) ^^^ BitVec.ofInt IntKind.u32.bits n).toNat = 2 ^ 32 - 1 - n.toNat := hx
    rw [hx', wrap_u32]
    congr 2
    have := h.1; omega
  · rename_i n
    refine ⟨_, h.2, fun w => ?_⟩
    have hx := xor_ones 64 n h.1.1 (by have := h.1; omega)
    have e : IntKind.u64.max = ((2 ^ 64 : Nat) - 1 : Int) := by decide
    simp only [Op.unary, IntKind.signed, Op.intBits, Sem.run_pure, Bool.false_eq_true, if_false, e]
    have hx' : (BitVec.ofInt IntKind.u64.bits ((2 ^ 64 : Nat) - 1 : Int) ^^^ BitVec.ofInt IntKind.u64.bits n).toNat = 2 ^ 64 - 1 - n.toNat := hx
    rw [hx', wrap_u64]
    congr 2
    have := h.1; omega
  · rename_i n
    refine ⟨_, h.2, fun w => ?_⟩
    have hx := xor_ones 8 n h.1.1 (by have := h.1; omega)
    have e : IntKind.u8.max = ((2 ^ 8 : Nat) - 1 : Int) := by decide
    simp only [Op.unary, IntKind.signed, Op.intBits, Sem.run_pure, Bool.false_eq_true, if_false, e]
    have hx' : (BitVec.ofInt IntKind.u8.bits ((2 ^ 8 : Nat) - 1 : Int) ^^^ BitVec.ofInt IntKind.u8.bits n).toNat = 2 ^ 8 - 1 - n.toNat := hx
    rw [hx', wrap_u8]
    congr 2
    have := h.1; omega
  · rename_i n
    refine ⟨_, h.2, fun w => ?_⟩
    have hx := xor_neg n h.1.1 h.1.2
    simp only [Op.unary, IntKind.signed, Op.intBits, Sem.run_pure, if_true]
    exact congrArg (fun z => Result.ok (Value.int .i64 z) w) hx
  · exact h.elim
end Go.Eng
namespace Go.Eng
open Go
def EqR (P : Program) (op : BinOp) (T : TypeId) (xo yo : Operand) (x y : Value) (w : World) (K : Value → Prop) : Prop :=
  ∃ b : Bool, (∀ w', Ext w w' → (do eqGuard op T xo yo x y; binOp op T x y : Sem Value).run P w' = .ok (.bool b) w') ∧ K (.bool b)
def vBinO (P : Program) (op : BinOp) (T : TypeId) (xo yo : Operand) (x y : Value) (w : World) (K : Value → Prop) : Prop :=
  match x, y with
  | .int k a, .int k' b => vBin P op T (.int k a) (.int k' b) w K
  | .string s, .string t => vBin P op T (.string s) (.string t) w K
  | .bool a, .bool b => vBin P op T (.bool a) (.bool b) w K
  | x, y => EqR P op T xo yo x y w K
theorem run_vBinO {P : Program} {op : BinOp} {T : TypeId} {xo yo : Operand} {x y : Value} {w : World} {K : Value → Prop} (h : vBinO P op T xo yo x y w K) :
    ∃ v, K v ∧ ∀ w', Ext w w' → (do eqGuard op T xo yo x y; binOp op T x y : Sem Value).run P w' = .ok v w' := by
  unfold vBinO at h
  split at h
  · obtain ⟨v, hv, hr⟩ := run_vBin h
    exact ⟨v, hv, fun w' hw => by simp only [Sem.run_bind]; rw [run_eqGuard ⟨by simp, by simp⟩]; simp only [Result.andThen_ok]; exact hr w' hw⟩
  · obtain ⟨v, hv, hr⟩ := run_vBin h
    exact ⟨v, hv, fun w' hw => by simp only [Sem.run_bind]; rw [run_eqGuard ⟨by simp, by simp⟩]; simp only [Result.andThen_ok]; exact hr w' hw⟩
  · obtain ⟨v, hv, hr⟩ := run_vBin h
    exact ⟨v, hv, fun w' hw => by simp only [Sem.run_bind]; rw [run_eqGuard ⟨by simp, by simp⟩]; simp only [Result.andThen_ok]; exact hr w' hw⟩
  · obtain ⟨b, hr, hb⟩ := h
    exact ⟨_, hb, hr⟩
def convPure (P : Program) (s d : TypeId) : Bool :=
  match P.underlying s, P.underlying d with
  | some .string, some (.slice _) => false
  | _, _ => true
def isPure (P : Program) : Op → Bool
  | .convert s d _ => convPure P s d
  | .move _ | .assign _ | .pick .. | .binOp .. | .unOp .. | .slice _ _ _ _ none | .fieldAddr .. | .field .. | .indexAddr .. | .index .. | .extract ..
  | .makeInterface .. | .makeFunc .. | .build .. | .load .. | .nilCheck .. => true
  | .call { callee := .builtin .len, .. } | .call { callee := .builtin .min, .. } | .call { callee := .builtin .max, .. } => true
  | _ => false
def argO (e : Env) (x : Option Operand) (K : Option Value → Prop) : Prop :=
  match x with
  | none => K none
  | some x => arg e x fun v => K (some v)
theorem argO_sound {N : Nat} {e : Env} {a : Act} {x : Option Operand} {K : Option Value → Prop} (ha : Fits N e a) (h : argO e x K) : K (x.map a.eval) := by
  cases x with
  | none => exact h
  | some x => exact arg_sound (K := fun v => K (some v)) ha h
def vPick (c : Value) (A B : Prop) : Prop :=
  match c with
  | .bool true => A
  | .bool false => B
  | _ => False
def vMakeIface (P : Program) (T : TypeId) (x : Value) (K : Value → Prop) : Prop :=
  match P.underlying T with
  | some (.interface _) => False
  | some _ => K (.iface T x)
  | none => False
def vBuild (P : Program) (T : TypeId) (parts : List (Nat × Value)) (K : Value → Prop) : Prop :=
  match P.built T parts with
  | some cells => K (.agg cells)
  | none => False
def vParts (e : Env) : List (Nat × Operand) → (List (Nat × Value) → Prop) → Prop
  | [], K => K []
  | p :: ps, K => arg e p.2 fun v => vParts e ps fun vs => K ((p.1, v) :: vs)
theorem vParts_sound {N : Nat} {e : Env} {a : Act} (ha : Fits N e a) {ps : List (Nat × Operand)} : ∀ {K : List (Nat × Value) → Prop}, vParts e ps K → K (ps.map fun p => (p.1, a.eval p.2)) := by
  induction ps with
  | nil => intro K h; exact h
  | cons p ps ih => intro K h; exact ih (arg_sound (K := fun v => vParts e ps fun vs => K ((p.1, v) :: vs)) ha h)
def vcOp (P : Program) (op : Op) (e : Env) (w : World) (K : Value → Prop) : Prop :=
  match op with
  | .move x => arg e x K
  | .assign x => arg e x K
  | .pick c a b => arg e c fun vc => vPick vc (arg e a K) (arg e b K)
  | .binOp op T x y _ => arg e x fun a => arg e y fun b => vBinO P op T x y a b w K
  | .unOp op _ x => arg e x fun a => vUn op a K
  | .convert s d x => arg e x fun a => vConv P s d a w K
  | .slice T x lo hi none => arg e x fun a => argO e lo fun l => argO e hi fun h => vSlice P T a l h K
  | .fieldAddr S x f => arg e x fun a => vFieldAddr P S a f K
  | .field S x f => arg e x fun a => vField P S a f K
  | .indexAddr T x i => arg e x fun a => arg e i fun n => vIndexAddr P T a n K
  | .index T x i => arg e x fun a => arg e i fun n => vIndex P T a n K
  | .extract t i => arg e t fun a => vExtract a i K
  | .makeInterface T x => arg e x fun a => vMakeIface P T a K
  | .makeFunc fn first captured => argL e first.toList fun fs => argL e captured.toList fun cs => K (.func fn fs.toArray cs.toArray)
  | .build T parts => vParts e parts.toList fun ps => vBuild P T ps K
  | .load T x => arg e x fun a => vLoad P T a w K
  | .nilCheck x => arg e x fun a => vNil a K
  | .call { callee := .builtin .len, args := as_, argTypes := ts } => argL e as_.toList fun vs => match vs, ts[0]? with
    | [v], some T => vLen P T v K
    | _, _ => False
  | .call { callee := .builtin .min, args := as_, .. } => argL e as_.toList fun vs => vMin vs K
  | .call { callee := .builtin .max, args := as_, .. } => argL e as_.toList fun vs => vMax vs K
  | _ => False
theorem map_eval (xs : Array Operand) (a : Act) : xs.map a.eval = (xs.toList.map a.eval).toArray := by
  apply Array.ext'; simp
theorem vcOp_sound {P : Program} {N : Nat} {o : Oper} {e : Env} {a : Act} {w : World} {K : Value → Prop} (ha : Fits N e a) (h : vcOp P o.op e w K) :
    ∃ v, K v ∧ ∀ w', Ext w w' → (execOp a.eval o).run P w' = .ok (.value v) w' := by
  unfold vcOp at h
  split at h
  case h_1 x ho => exact ⟨_, arg_sound ha h, fun w' _ => by simp [execOp, ho]⟩
  case h_2 x ho => exact ⟨_, arg_sound ha h, fun w' _ => by simp [execOp, ho]⟩
  case h_3 c x y ho =>
    have h1 := arg_sound (K := fun vc => vPick vc (arg e x K) (arg e y K)) ha h
    unfold vPick at h1
    split at h1
    · rename_i hc; exact ⟨_, arg_sound ha h1, fun w' _ => by simp [execOp, ho, hc, asBool]⟩
    · rename_i hc; exact ⟨_, arg_sound ha h1, fun w' _ => by simp [execOp, ho, hc, asBool]⟩
    · exact h1.elim
  case h_4 op T x y T' ho =>
    have h1 := arg_sound (K := fun b => vBinO P op T x y (a.eval x) b w K) ha (arg_sound (K := fun b => arg e y fun c => vBinO P op T x y b c w K) ha h)
    obtain ⟨v, hv, hr⟩ := run_vBinO h1
    refine ⟨v, hv, fun w' hw => ?_⟩
    simp only [execOp, ho]
    have := hr w' hw
    simp only [Sem.run_bind] at this ⊢
    simp only [this, Result.andThen_ok, Sem.run_pure]
  case h_5 op T x ho =>
    obtain ⟨v, hv, hr⟩ := run_vUn (P := P) (arg_sound (K := fun b => vUn op b K) ha h)
    exact ⟨v, hv, fun w' _ => by simp [execOp, ho, hr]⟩
  case h_6 s d x ho =>
    obtain ⟨v, hv, hr⟩ := run_vConv (arg_sound (K := fun b => vConv P s d b w K) ha h)
    exact ⟨v, hv, fun w' hw => by simp [execOp, ho, hr w' hw]⟩
  case h_7 T x lo hi ho =>
    have h1 := argO_sound (K := fun h => vSlice P T (a.eval x) (lo.map a.eval) h K) ha (argO_sound (K := fun l => argO e hi fun h => vSlice P T (a.eval x) l h K) ha (arg_sound (K := fun b => argO e lo fun l => argO e hi fun h => vSlice P T b l h K) ha h))
    obtain ⟨v, hv, hr⟩ := run_vSlice h1
    exact ⟨v, hv, fun w' _ => by simp only [execOp, ho, Sem.run_bind, Option.map_none, hr, Result.andThen_ok, Sem.run_pure]⟩
  case h_8 S x f ho =>
    obtain ⟨v, hv, hr⟩ := run_vFieldAddr (arg_sound (K := fun b => vFieldAddr P S b f K) ha h)
    exact ⟨v, hv, fun w' _ => by simp [execOp, ho, hr]⟩
  case h_9 S x f ho =>
    obtain ⟨v, hv, hr⟩ := run_vField (arg_sound (K := fun b => vField P S b f K) ha h)
    exact ⟨v, hv, fun w' _ => by simp [execOp, ho, hr]⟩
  case h_10 T x i ho =>
    have h1 := arg_sound (K := fun n => vIndexAddr P T (a.eval x) n K) ha (arg_sound (K := fun b => arg e i fun n => vIndexAddr P T b n K) ha h)
    obtain ⟨v, hv, hr⟩ := run_vIndexAddr h1
    exact ⟨v, hv, fun w' _ => by simp [execOp, ho, hr]⟩
  case h_11 T x i ho =>
    have h1 := arg_sound (K := fun n => vIndex P T (a.eval x) n K) ha (arg_sound (K := fun b => arg e i fun n => vIndex P T b n K) ha h)
    obtain ⟨v, hv, hr⟩ := run_vIndex h1
    exact ⟨v, hv, fun w' _ => by simp [execOp, ho, hr]⟩
  case h_12 t i ho =>
    have h1 := arg_sound (K := fun b => vExtract b i K) ha h
    unfold vExtract at h1
    split at h1
    · rename_i vs hx
      split at h1
      · rename_i v hv; exact ⟨v, h1, fun w' _ => by simp [execOp, ho, hx, Instr.extract, hv]⟩
      · exact h1.elim
    · exact h1.elim
  case h_13 T x ho =>
    have h1 := arg_sound (K := fun b => vMakeIface P T b K) ha h
    unfold vMakeIface at h1
    split at h1
    · exact h1.elim
    · rename_i d hd hu
      exact ⟨_, h1, fun w' _ => by cases d <;> simp_all [execOp, Instr.makeInterface, run_underlying hu]⟩
    · exact h1.elim
  case h_14 fn first captured ho =>
    have h1 := argL_sound (K := fun fs => argL e captured.toList fun cs => K (.func fn fs.toArray cs.toArray)) ha h
    have h2 := argL_sound (K := fun cs => K (.func fn (first.toList.map a.eval).toArray cs.toArray)) ha h1
    exact ⟨_, h2, fun w' _ => by simp [execOp, ho, Instr.makeFunc, map_eval]⟩
  case h_15 T parts ho =>
    have h1 := vParts_sound (K := fun ps => vBuild P T ps K) ha h
    unfold vBuild at h1
    split at h1
    · rename_i cells hb
      refine ⟨_, h1, fun w' _ => ?_⟩
      have := run_build (P := P) w' T (parts.map fun (i, x) => (i, a.eval x)) cells (by simpa using hb)
      simp [execOp, ho, this]
    · exact h1.elim
  case h_16 T x ho =>
    obtain ⟨v, hv, hr⟩ := run_vLoad (arg_sound (K := fun b => vLoad P T b w K) ha h)
    exact ⟨v, hv, fun w' hw => by simp [execOp, ho, hr w' hw]⟩
  case h_17 x ho =>
    have h1 := arg_sound (K := fun b => vNil b K) ha h
    unfold vNil at h1
    split at h1
    · rename_i ad hx; exact ⟨_, h1, fun w' _ => by simp [execOp, ho, hx]⟩
    · rename_i f p c hx; exact ⟨_, h1, fun w' _ => by simp [execOp, ho, hx]⟩
    · rename_i t v hx; exact ⟨_, h1, fun w' _ => by simp [execOp, ho, hx]⟩
    · exact h1.elim
  case h_18 as_ ts ho =>
    have h1 := argL_sound (K := fun vs => match vs, ts[0]? with | [v], some T => vLen P T v K | _, _ => False) ha h
    split at h1
    · rename_i v T hv hT
      obtain ⟨u, hu, hr⟩ := run_vLen h1 hT (ty := o.type)
      refine ⟨u, hu, fun w' _ => ?_⟩
      have hm : as_.map a.eval = #[v] := by rw [map_eval, hv]
      simp [execOp, ho, resolve, invoke, builtin, hm, hr]
    · exact h1.elim
  case h_19 as_ ts ho =>
    obtain ⟨u, hu, hr⟩ := run_vMin (P := P) (argL_sound (K := fun vs => vMin vs K) ha h) (ts := ts) (ty := o.type)
    refine ⟨u, hu, fun w' _ => ?_⟩
    simp only [execOp, ho, resolve, invoke, builtin, map_eval, Sem.run_bind, Sem.run_pure, Result.andThen_ok, hr]
  case h_20 as_ ts ho =>
    obtain ⟨u, hu, hr⟩ := run_vMax (P := P) (argL_sound (K := fun vs => vMax vs K) ha h) (ts := ts) (ty := o.type)
    refine ⟨u, hu, fun w' _ => ?_⟩
    simp only [execOp, ho, resolve, invoke, builtin, map_eval, Sem.run_bind, Sem.run_pure, Result.andThen_ok, hr]
  case h_21 => exact h.elim
def Mem (P : Program) (N : Nat) (o : Oper) (e : Env) (w : World) (K : Value → World → Prop) : Prop :=
  ∀ (a : Act) (n : Nat) (next : Act → World → Prop) (Q : Exit → Act → World → Prop), Fits N e a → (∀ v w' m, K v w' → next (a.put o.dst v) (w'.drewN m)) → o.wp P a (w.drewN n) next Q
def MemK (P : Program) (N : Nat) (o : Oper) (e : Env) (w : World) (rest : Env → World → (Env → World → Prop) → Prop) (K : Env → World → Prop) : Prop :=
  Mem P N o e w fun v w' => rest (e.put o.dst v) w' K
def QuietK (P : Program) (N : Nat) (o : Oper) (e : Env) (w : World) (rest : Env → World → (Env → Prop) → Prop) (K : Env → Prop) : Prop :=
  ∃ v, (∀ a n, Fits N e a → o.quietAt P a (fun w' => ∃ n, w' = w.drewN n) (w.drewN n) v) ∧ rest (e.put o.dst v) w K
def guardOf (ops : List Oper) (j : Nat) : Option Tmp := (ops[j]?).bind (·.dst)
def gB (b want : Bool) (A B : Prop) : Prop := (b = want → A) ∧ (b = (!want) → B)
def vGuardV (t : Tmp) (want : Bool) (v : Value) (e : Env) (A B : Env → Prop) : Prop :=
  match v with
  | .bool b => gB b want (A ((t, .bool want) :: e)) (B ((t, .bool !want) :: e))
  | .tuple _ => B e
  | _ => False
def vGuard (ops : List Oper) (g : Option (Nat × Bool)) (e : Env) (A B : Env → Prop) : Prop :=
  match g with
  | none => A e
  | some p => match guardOf ops p.1 with
    | none => B e
    | some t => argT e t fun v => vGuardV t p.2 v e A B
def dstOk (N : Nat) (o : Oper) : Bool :=
  match o.dst with
  | none => true
  | some t => decide (t < N)
def vcStep (P : Program) (N : Nat) (p : Bool) (o : Oper) (e : Env) (w : World) (R : Env → World → (Env → World → Prop) → Prop) (K : Env → World → Prop) : Prop :=
  match p with
  | true => vcOp P o.op e w fun v => R (e.put o.dst v) w K
  | false => MemK P N o e w R K
def vcStepQ (P : Program) (N : Nat) (p : Bool) (o : Oper) (e : Env) (w : World) (R : Env → World → (Env → Prop) → Prop) (K : Env → Prop) : Prop :=
  match p with
  | true => vcOp P o.op e w fun v => R (e.put o.dst v) w K
  | false => QuietK P N o e w R K
def vcOps (P : Program) (N : Nat) (ops : List Oper) : List Oper → Env → World → (Env → World → Prop) → Prop
  | [], e, w, K => K e w
  | o :: rest, e, w, K => vGuard ops o.guard e
      (fun e => vcStep P N (isPure P o.op) o e w (vcOps P N ops rest) K)
      (fun e => vcOps P N ops rest (e.put o.dst undef) w K)
def vcQ (P : Program) (N : Nat) (ops : List Oper) : List Oper → Env → World → (Env → Prop) → Prop
  | [], e, _, K => K e
  | o :: rest, e, w, K => vGuard ops o.guard e
      (fun e => vcStepQ P N (isPure P o.op) o e w (vcQ P N ops rest) K)
      (fun e => vcQ P N ops rest (e.put o.dst undef) w K)
theorem Fits.put' {N : Nat} {e : Env} {a : Act} (h : Fits N e a) {o : Oper} (ho : dstOk N o = true) (v : Value) : Fits N (e.put o.dst v) (a.put o.dst v) :=
  h.put o.dst v fun t ht => by simpa [dstOk, ht] using ho
theorem Fits.cons {N : Nat} {e : Env} {a : Act} (h : Fits N e a) {t : Tmp} {v : Value} (ht : a.tmps.getD t undef = v) : Fits N ((t, v) :: e) a :=
  ⟨h.size, h.defers, fun s u hs => by
    simp only [Env.find?_cons] at hs
    split at hs
    · rename_i hst; subst hst; simp at hs; rw [← hs]; exact ht
    · exact h.at_ s u hs⟩
theorem vGuard_sound {N : Nat} {ops : List Oper} {o : Oper} {e : Env} {a : Act} {A B : Env → Prop} (ha : Fits N e a) (h : vGuard ops o.guard e A B) :
    (∃ e', Fits N e' a ∧ A e' ∧ Region.wanted o (yielded ops.toArray a.tmps) = true) ∨ (∃ e', Fits N e' a ∧ B e' ∧ Region.wanted o (yielded ops.toArray a.tmps) = false) := by
  unfold vGuard at h
  split at h
  · rename_i hg; exact .inl ⟨e, ha, h, by simp [Region.wanted, hg]⟩
  · rename_i p hg
    obtain ⟨j, want⟩ := p
    simp only at h
    split at h
    · rename_i hn
      refine .inr ⟨e, ha, h, ?_⟩
      have : yielded ops.toArray a.tmps j = none := by
        unfold yielded
        have : ((ops.toArray[j]?).bind (·.dst)) = none := by simpa [guardOf] using hn
        rw [this]; rfl
      simp [Region.wanted, hg, this]
    · rename_i t ht
      obtain ⟨v, hv, h⟩ := argT_find h
      have hget := ha.at_ t v hv
      have hd : ((ops.toArray[j]?).bind (·.dst)) = some t := by simpa [guardOf] using ht
      unfold vGuardV at h
      split at h
      · rename_i b
        have hy : yielded ops.toArray a.tmps j = some b := by
          unfold yielded
          rw [hd]
          have : a.tmps[t]? = some (.bool b) := by
            rw [Array.getD_eq_getD_getElem?] at hget
            cases hc : a.tmps[t]? with
            | none => rw [hc] at hget; simp [undef] at hget
            | some x => rw [hc] at hget; simpa using hget
          simp [this]
        by_cases hb : b = want
        · refine .inl ⟨_, ha.cons (by rw [hget, hb]), h.1 hb, by simp [Region.wanted, hg, hy, hb]⟩
        · have hb' : b = !want := by cases b <;> cases want <;> simp_all
          refine .inr ⟨_, ha.cons (by rw [hget, hb']), h.2 hb', by simp [Region.wanted, hg, hy, hb']⟩
      · rename_i vs
        refine .inr ⟨e, ha, h, ?_⟩
        have hy : yielded ops.toArray a.tmps j = none := by
          unfold yielded
          rw [hd]
          rw [Array.getD_eq_getD_getElem?] at hget
          cases hc : a.tmps[t]? with
          | none => simp [hc]
          | some x => rw [hc] at hget; simp at hget; subst hget; simp [hc]
        simp [Region.wanted, hg, hy]
      · exact h.elim
theorem vcOps_sound {P : Program} {N : Nat} {ops : List Oper} {Q : Exit → Act → World → Prop} {K : Env → World → Prop}
    (hK : ∀ e a w n, Fits N e a → K e w → Q .normal a (w.drewN n)) (l : List Oper) : ∀ (e : Env) (a : Act) (w : World) (n : Nat), l.all (dstOk N) = true → Fits N e a →
      vcOps P N ops l e w K → wpList P ops.toArray Q l a (w.drewN n) := by
  induction l with
  | nil => intro e a w n _ ha h; exact hK e a w n ha h
  | cons o rest ih =>
    intro e a w n hl ha h
    simp only [List.all_cons, Bool.and_eq_true] at hl
    unfold wpList
    rcases vGuard_sound ha h with ⟨e', ha', h', hw⟩ | ⟨e', ha', h', hw⟩
    · rw [if_pos hw]
      refine .inl ?_
      unfold vcStep at h'
      split at h'
      · obtain ⟨v, hv, hr⟩ := vcOp_sound ha' h'
        unfold Oper.wp
        rw [hr (w.drewN n) (Ext.drewN w n)]
        exact ih _ _ w n hl.2 (ha'.put' hl.1 v) hv
      · exact h' a n _ Q ha' fun v w' m hv => ih _ _ w' m hl.2 (ha'.put' hl.1 v) hv
    · rw [if_neg (by rw [hw]; simp)]
      exact ih _ _ w n hl.2 (ha'.put' hl.1 undef) h'
theorem vcQ_sound {P : Program} {N : Nat} {ops : List Oper} {Q : Act → Prop} {K : Env → Prop} {w : World}
    (hK : ∀ e a, Fits N e a → K e → Q a) (l : List Oper) : ∀ (e : Env) (a : Act), l.all (dstOk N) = true → Fits N e a →
      vcQ P N ops l e w K → wpQuiet P ops.toArray (fun w' => ∃ n, w' = w.drewN n) Q l a := by
  induction l with
  | nil => intro e a _ ha h; exact hK e a ha h
  | cons o rest ih =>
    intro e a hl ha h
    simp only [List.all_cons, Bool.and_eq_true] at hl
    unfold wpQuiet
    rcases vGuard_sound ha h with ⟨e', ha', h', hw⟩ | ⟨e', ha', h', hw⟩
    · rw [if_pos hw]
      unfold vcStepQ at h'
      split at h'
      · obtain ⟨v, hv, hr⟩ := vcOp_sound ha' h'
        refine ⟨v, ?_, ih _ _ hl.2 (ha'.put' hl.1 v) hv⟩
        rintro w' ⟨n, rfl⟩
        unfold Oper.quietAt
        rw [hr (w.drewN n) (Ext.drewN w n)]
        exact ⟨rfl, rfl⟩
      · obtain ⟨v, hq, hv⟩ := h'
        refine ⟨v, ?_, ih _ _ hl.2 (ha'.put' hl.1 v) hv⟩
        rintro w' ⟨n, rfl⟩
        exact hq a n ha'
    · rw [if_neg (by rw [hw]; simp)]
      exact ih _ _ hl.2 (ha'.put' hl.1 undef) h'
def Is {α : Sort _} (a b : α) : Prop := a = b
theorem Is.out {α : Sort _} {a b : α} (h : Is a b) : a = b := h
def selT : Env → Nat → (Value → Prop) → Prop → Prop
  | [], _, _, B => B
  | p :: e, n, A, B => if n = p.1 then A p.2 else selT e n A B
def selK : List Nat → Env → (Env → Prop) → Prop
  | [], _, K => K []
  | k :: ks, e, K => selT e k (fun v => selK ks e fun e' => K ((k, v) :: e')) (selK ks e K)
def selC (ks : List Nat) (K : Env → World → Prop) : Env → World → Prop := fun e w => selK ks e fun e => K e w
def selQ (ks : List Nat) (K : Env → Prop) : Env → Prop := fun e => selK ks e K
theorem selT_spec (e : Env) (n : Nat) (A : Value → Prop) (B : Prop) : selT e n A B ↔ match e.find? n with | some v => A v | none => B := by
  induction e with
  | nil => simp [selT, Env.find?]
  | cons p e ih =>
    simp only [selT, Env.find?_cons]
    by_cases h : n = p.1
    · simp [h]
    · simp only [h, if_false]; exact ih
def Env.sel (ks : List Nat) (e : Env) : Env := ks.filterMap fun k => (e.find? k).map fun v => (k, v)
theorem selK_spec (ks : List Nat) (e : Env) : ∀ (K : Env → Prop), selK ks e K ↔ K (e.sel ks) := by
  induction ks with
  | nil => intro K; rfl
  | cons k ks ih =>
    intro K
    simp only [selK, selT_spec]
    cases h : e.find? k with
    | none => simp only [ih]; simp [Env.sel, h]
    | some v => simp only [ih]; simp [Env.sel, h]
theorem Env.find?_sel (ks : List Nat) (e : Env) (t : Nat) (v : Value) (h : (e.sel ks).find? t = some v) : e.find? t = some v := by
  induction ks with
  | nil => simp [Env.sel, Env.find?] at h
  | cons k ks ih =>
    cases hk : e.find? k with
    | none => exact ih (by simpa [Env.sel, hk] using h)
    | some u =>
      have h' : Env.find? ((k, u) :: e.sel ks) t = some v := by simpa [Env.sel, hk] using h
      simp only [Env.find?_cons] at h'
      by_cases htk : t = k
      · simp only [htk, if_true] at h'; rw [htk, hk]; exact h'
      · simp only [htk, if_false] at h'; exact ih h'
theorem Fits.sel {N : Nat} {e : Env} {a : Act} (h : Fits N e a) (ks : List Nat) : Fits N (e.sel ks) a := h.weaken fun t v ht => Env.find?_sel ks e t v ht
section
variable {P : Program} {fn : Func} {F : Value → World → Prop} {N : Nat} {k : List It} {e : Env} {w : World}
theorem VC_region (ks : List Nat) {id : Nat} {ops : List Oper} (hN : ops.all (dstOk N) = true)
    (h : ∀ K : Env → World → Prop, (∀ e w, VC ⟨P, fn, F, N⟩ k e w → K e w) → vcOps P N ops ops e w (selC ks K)) : VC ⟨P, fn, F, N⟩ (.code (.region id ops.toArray false) :: k) e w := by
  intro a n ha
  refine wp_region_lit (vcOps_sound (K := fun e w => selK ks e fun e => VC ⟨P, fn, F, N⟩ k e w) (fun e a w n ha hv => ?_) ops e a w n hN ha (h _ fun _ _ hv => hv))
  exact ((selK_spec ks e _).1 hv) a n (ha.sel ks)
theorem VC_regionQ (ks : List Nat) {id : Nat} {ops : List Oper} (hm : P.follows .mixedOrders = true) (hB : Region.lexB .any ops.toArray = true) (hN : ops.all (dstOk N) = true)
    (h : ∀ K : Env → Prop, (∀ e, VC ⟨P, fn, F, N⟩ k e w → K e) → vcQ P N ops ops e w (selQ ks K)) : VC ⟨P, fn, F, N⟩ (.code (.region id ops.toArray true) :: k) e w := by
  intro a n ha
  refine wp_region_quiet (C := fun w' => ∃ n, w' = w.drewN n) hm hB ⟨n + 1, rfl⟩ ?_
  refine vcQ_sound (K := fun e => selK ks e fun e => VC ⟨P, fn, F, N⟩ k e w) (fun e a ha hv => ?_) ops e a hN ha (h _ fun _ hv => hv)
  rintro w' ⟨m, rfl⟩
  exact ((selK_spec ks e _).1 hv) a m (ha.sel ks)
theorem VC_loopS (ks : List Nat) {body : Code} (I : Nat → Env → World → Prop) (n : Nat) (h0 : selK ks e fun e => I n e w)
    (round : ∀ n e w, I n e w → VC ⟨P, fn, F, N⟩ (.code body :: .again (fun e' w' => selK ks e' fun e' => ∃ m, m < n ∧ I m e' w') :: k) e w) : VC ⟨P, fn, F, N⟩ (.code (.loop body) :: k) e w := by
  have h0' : VC ⟨P, fn, F, N⟩ (.code (.loop body) :: k) (e.sel ks) w := by
    refine VC_loop I n ((selK_spec ks e _).1 h0) fun n e w hI => ?_
    intro a d ha
    have h1 := round n e w hI a d ha
    simp only [cont] at h1 ⊢
    refine wp_mono h1 fun ex a w hq => ?_
    cases ex with
    | normal => obtain ⟨e', w0, d', hw, hf, hI'⟩ := hq; exact ⟨e'.sel ks, w0, d', hw, hf.sel ks, (selK_spec ks e' _).1 hI'⟩
    | _ => exact hq
  exact fun a d ha => h0' a d (ha.sel ks)
theorem VC_cut (ks : List Nat) {c : Code} (J : Env → World → Prop) (h : VC ⟨P, fn, F, N⟩ (.code c :: .again (fun e w => selK ks e fun e => J e w) :: k) e w)
    (hJ : ∀ e w, J e w → VC ⟨P, fn, F, N⟩ k e w) : VC ⟨P, fn, F, N⟩ (.code c :: k) e w := by
  intro a d ha
  have h1 := h a d ha
  simp only [cont] at h1 ⊢
  refine wp_mono h1 fun ex a w hq => ?_
  cases ex with
  | normal => obtain ⟨e', w0, d', rfl, hf, hI'⟩ := hq; exact hJ _ _ ((selK_spec ks e' _).1 hI') a d' (hf.sel ks)
  | _ => exact hq
end
def peel : Code → List It → List It
  | .seq a b, k => peel a (.code b :: k)
  | c, k => .code c :: k
theorem VC_peel {C : Ctx} {e : Env} {w : World} : ∀ (c : Code) (k : List It), VC C (peel c k) e w → VC C (.code c :: k) e w := by
  intro c
  induction c with
  | seq a b iha ihb => intro k h; exact VC_seq (iha _ h)
  | _ => intro k h; exact h
theorem VR {P : Program} {fn : Func} {F : Value → World → Prop} {N : Nat} {k k' : List It} {e : Env} {w : World} (ks : List Nat) {c : Code} {id : Nat} {ops : List Oper} (hp : peel c k = .code (.region id ops.toArray false) :: k') (hN : ops.all (dstOk N) = true)
    (h : ∀ K : Env → World → Prop, (∀ e w, VC ⟨P, fn, F, N⟩ k' e w → K e w) → vcOps P N ops ops e w (selC ks K)) : VC ⟨P, fn, F, N⟩ (.code c :: k) e w :=
  VC_peel c k (hp ▸ VC_region ks hN h)
end Go.Eng
namespace Go.Eng
open Go
def vGuardL : List Oper → Nat → Bool → Env → (Env → Prop) → (Env → Prop) → Prop
  | [], _, _, e, _, B => B e
  | o :: _, 0, b, e, A, B => match o.dst with
    | none => B e
    | some t => argT e t fun v => vGuardV t b v e A B
  | _ :: l, j + 1, b, e, A, B => vGuardL l j b e A B
theorem vGuardL_eq (ops : List Oper) : ∀ (j : Nat) (b : Bool) (e : Env) (A B : Env → Prop), vGuard ops (some (j, b)) e A B = vGuardL ops j b e A B := by
  induction ops with
  | nil => intro j b e A B; simp [vGuard, guardOf, vGuardL]
  | cons o l ih =>
    intro j b e A B
    cases j with
    | zero => cases h : o.dst <;> simp [vGuard, guardOf, vGuardL, h]
    | succ j => rw [vGuardL, ← ih]; simp [vGuard, guardOf]
def vLenL (P : Program) (T : Option TypeId) (vs : List Value) (K : Value → Prop) : Prop :=
  match vs, T with
  | [v], some T => vLen P T v K
  | _, _ => False
section
variable {P : Program} {N : Nat} {ops rest : List Oper} {d : Option Tmp} {r t ty : Nat} {op : Op} {pos : String} {af : Array Edge} {e : Env} {w : World} {K : Env → World → Prop} {KQ : Env → Prop} {KV : Value → Prop}
theorem o_nilS (ks : List Nat) : vcOps P N ops [] e w (selC ks K) = selK ks e fun e => K e w := rfl
theorem q_nilS (ks : List Nat) : vcQ P N ops [] e w (selQ ks KQ) = selK ks e KQ := rfl
theorem gl_zero {d' : Option (Nat × Bool)} {A B : Env → Prop} (b : Bool) : vGuardL (⟨some t, op, ty, pos, af, d'⟩ :: ops) 0 b e A B = argT e t fun v => vGuardV t b v e A B := rfl
theorem gl_succ {A B : Env → Prop} (o : Oper) (j : Nat) (b : Bool) : vGuardL (o :: ops) (j + 1) b e A B = vGuardL ops j b e A B := rfl
theorem gv_t {A B : Env → Prop} (b : Bool) : vGuardV t true (.bool b) e A B = gB b true (A ((t, .bool true) :: e)) (B ((t, .bool false) :: e)) := rfl
theorem gv_f {A B : Env → Prop} (b : Bool) : vGuardV t false (.bool b) e A B = gB b false (A ((t, .bool false) :: e)) (B ((t, .bool true) :: e)) := rfl
theorem sk_nil {KE : Env → Prop} : selK [] e KE = KE [] := rfl
theorem sk_cons {KE : Env → Prop} (ks : List Nat) : selK (t :: ks) e KE = selT e t (fun v => selK ks e fun e' => KE ((t, v) :: e')) (selK ks e KE) := rfl
theorem st_nil {A : Value → Prop} {B : Prop} : selT [] t A B = B := rfl
theorem st_hit {A : Value → Prop} {B : Prop} (v : Value) : selT ((t, v) :: e) t A B = A v := by simp [selT]
theorem st_cons {A : Value → Prop} {B : Prop} (s : Nat) (v : Value) : selT ((s, v) :: e) t A B = if t = s then A v else selT e t A B := rfl
theorem at_put {KV' : Value → Prop} (u : Value) (n : Nat) : argT (Env.put e (some t) u) n KV' = argT ((t, u) :: e) n KV' := rfl
theorem at_putn {KV' : Value → Prop} (u : Value) (n : Nat) : argT (Env.put e none u) n KV' = argT e n KV' := rfl
theorem sk_put {KE : Env → Prop} (u : Value) (ks : List Nat) : selK ks (Env.put e (some t) u) KE = selK ks ((t, u) :: e) KE := rfl
theorem sk_putn {KE : Env → Prop} (u : Value) (ks : List Nat) : selK ks (Env.put e none u) KE = selK ks e KE := rfl
theorem st_put {A : Value → Prop} {B : Prop} (u : Value) (n : Nat) : selT (Env.put e (some t) u) n A B = selT ((t, u) :: e) n A B := rfl
theorem st_putn {A : Value → Prop} {B : Prop} (u : Value) (n : Nat) : selT (Env.put e none u) n A B = selT e n A B := rfl
theorem gv_undef {A B : Env → Prop} (want : Bool) (vs : Array Value) : vGuardV t want (.tuple vs) e A B = B e := rfl
theorem gv_undef' {A B : Env → Prop} (want : Bool) : vGuardV t want undef e A B = B e := rfl
theorem gB_tt {A B : Prop} : gB true true A B = A := by simp [gB]
theorem gB_ff {A B : Prop} : gB false false A B = A := by simp [gB]
theorem gB_tf {A B : Prop} : gB true false A B = B := by simp [gB]
theorem gB_ft {A B : Prop} : gB false true A B = B := by simp [gB]
theorem gB_dt {p : Prop} [Decidable p] {A B : Prop} : gB (decide p) true A B = ((p → A) ∧ (¬ p → B)) := by simp [gB]
theorem gB_df {p : Prop} [Decidable p] {A B : Prop} : gB (decide p) false A B = ((¬ p → A) ∧ (p → B)) := by simp [gB]
theorem o_move (x : Operand) : vcOps P N ops (⟨some r, .move x, ty, pos, af, none⟩ :: rest) e w K = arg e x (fun v => vcOps P N ops rest ((r, v) :: e) w K) := rfl
theorem og_move (x : Operand) (jj : Nat) (bb : Bool) : vcOps P N ops (⟨some r, .move x, ty, pos, af, some (jj, bb)⟩ :: rest) e w K = vGuardL ops jj bb e (fun e => arg e x (fun v => vcOps P N ops rest ((r, v) :: e) w K)) (fun e => vcOps P N ops rest ((r, undef) :: e) w K) := by rw [← vGuardL_eq]; rfl
theorem q_move (x : Operand) : vcQ P N ops (⟨some r, .move x, ty, pos, af, none⟩ :: rest) e w KQ = arg e x (fun v => vcQ P N ops rest ((r, v) :: e) w KQ) := rfl
theorem qg_move (x : Operand) (jj : Nat) (bb : Bool) : vcQ P N ops (⟨some r, .move x, ty, pos, af, some (jj, bb)⟩ :: rest) e w KQ = vGuardL ops jj bb e (fun e => arg e x (fun v => vcQ P N ops rest ((r, v) :: e) w KQ)) (fun e => vcQ P N ops rest ((r, undef) :: e) w KQ) := by rw [← vGuardL_eq]; rfl
theorem o_assign (x : Operand) : vcOps P N ops (⟨some r, .assign x, ty, pos, af, none⟩ :: rest) e w K = arg e x (fun v => vcOps P N ops rest ((r, v) :: e) w K) := rfl
theorem og_assign (x : Operand) (jj : Nat) (bb : Bool) : vcOps P N ops (⟨some r, .assign x, ty, pos, af, some (jj, bb)⟩ :: rest) e w K = vGuardL ops jj bb e (fun e => arg e x (fun v => vcOps P N ops rest ((r, v) :: e) w K)) (fun e => vcOps P N ops rest ((r, undef) :: e) w K) := by rw [← vGuardL_eq]; rfl
theorem q_assign (x : Operand) : vcQ P N ops (⟨some r, .assign x, ty, pos, af, none⟩ :: rest) e w KQ = arg e x (fun v => vcQ P N ops rest ((r, v) :: e) w KQ) := rfl
theorem qg_assign (x : Operand) (jj : Nat) (bb : Bool) : vcQ P N ops (⟨some r, .assign x, ty, pos, af, some (jj, bb)⟩ :: rest) e w KQ = vGuardL ops jj bb e (fun e => arg e x (fun v => vcQ P N ops rest ((r, v) :: e) w KQ)) (fun e => vcQ P N ops rest ((r, undef) :: e) w KQ) := by rw [← vGuardL_eq]; rfl
theorem o_pick (c x y : Operand) : vcOps P N ops (⟨some r, .pick c x y, ty, pos, af, none⟩ :: rest) e w K = arg e c fun vc => vPick vc (arg e x (fun v => vcOps P N ops rest ((r, v) :: e) w K)) (arg e y (fun v => vcOps P N ops rest ((r, v) :: e) w K)) := rfl
theorem og_pick (c x y : Operand) (jj : Nat) (bb : Bool) : vcOps P N ops (⟨some r, .pick c x y, ty, pos, af, some (jj, bb)⟩ :: rest) e w K = vGuardL ops jj bb e (fun e => arg e c fun vc => vPick vc (arg e x (fun v => vcOps P N ops rest ((r, v) :: e) w K)) (arg e y (fun v => vcOps P N ops rest ((r, v) :: e) w K))) (fun e => vcOps P N ops rest ((r, undef) :: e) w K) := by rw [← vGuardL_eq]; rfl
theorem q_pick (c x y : Operand) : vcQ P N ops (⟨some r, .pick c x y, ty, pos, af, none⟩ :: rest) e w KQ = arg e c fun vc => vPick vc (arg e x (fun v => vcQ P N ops rest ((r, v) :: e) w KQ)) (arg e y (fun v => vcQ P N ops rest ((r, v) :: e) w KQ)) := rfl
theorem qg_pick (c x y : Operand) (jj : Nat) (bb : Bool) : vcQ P N ops (⟨some r, .pick c x y, ty, pos, af, some (jj, bb)⟩ :: rest) e w KQ = vGuardL ops jj bb e (fun e => arg e c fun vc => vPick vc (arg e x (fun v => vcQ P N ops rest ((r, v) :: e) w KQ)) (arg e y (fun v => vcQ P N ops rest ((r, v) :: e) w KQ))) (fun e => vcQ P N ops rest ((r, undef) :: e) w KQ) := by rw [← vGuardL_eq]; rfl
theorem o_binOp (op : BinOp) (T T' : TypeId) (x y : Operand) : vcOps P N ops (⟨some r, .binOp op T x y T', ty, pos, af, none⟩ :: rest) e w K = arg e x fun a => arg e y fun b => vBinO P op T x y a b w (fun v => vcOps P N ops rest ((r, v) :: e) w K) := rfl
theorem og_binOp (op : BinOp) (T T' : TypeId) (x y : Operand) (jj : Nat) (bb : Bool) : vcOps P N ops (⟨some r, .binOp op T x y T', ty, pos, af, some (jj, bb)⟩ :: rest) e w K = vGuardL ops jj bb e (fun e => arg e x fun a => arg e y fun b => vBinO P op T x y a b w (fun v => vcOps P N ops rest ((r, v) :: e) w K)) (fun e => vcOps P N ops rest ((r, undef) :: e) w K) := by rw [← vGuardL_eq]; rfl
theorem q_binOp (op : BinOp) (T T' : TypeId) (x y : Operand) : vcQ P N ops (⟨some r, .binOp op T x y T', ty, pos, af, none⟩ :: rest) e w KQ = arg e x fun a => arg e y fun b => vBinO P op T x y a b w (fun v => vcQ P N ops rest ((r, v) :: e) w KQ) := rfl
theorem qg_binOp (op : BinOp) (T T' : TypeId) (x y : Operand) (jj : Nat) (bb : Bool) : vcQ P N ops (⟨some r, .binOp op T x y T', ty, pos, af, some (jj, bb)⟩ :: rest) e w KQ = vGuardL ops jj bb e (fun e => arg e x fun a => arg e y fun b => vBinO P op T x y a b w (fun v => vcQ P N ops rest ((r, v) :: e) w KQ)) (fun e => vcQ P N ops rest ((r, undef) :: e) w KQ) := by rw [← vGuardL_eq]; rfl
theorem o_unOp (op : UnOp) (T : TypeId) (x : Operand) : vcOps P N ops (⟨some r, .unOp op T x, ty, pos, af, none⟩ :: rest) e w K = arg e x fun a => vUn op a (fun v => vcOps P N ops rest ((r, v) :: e) w K) := rfl
theorem og_unOp (op : UnOp) (T : TypeId) (x : Operand) (jj : Nat) (bb : Bool) : vcOps P N ops (⟨some r, .unOp op T x, ty, pos, af, some (jj, bb)⟩ :: rest) e w K = vGuardL ops jj bb e (fun e => arg e x fun a => vUn op a (fun v => vcOps P N ops rest ((r, v) :: e) w K)) (fun e => vcOps P N ops rest ((r, undef) :: e) w K) := by rw [← vGuardL_eq]; rfl
theorem q_unOp (op : UnOp) (T : TypeId) (x : Operand) : vcQ P N ops (⟨some r, .unOp op T x, ty, pos, af, none⟩ :: rest) e w KQ = arg e x fun a => vUn op a (fun v => vcQ P N ops rest ((r, v) :: e) w KQ) := rfl
theorem qg_unOp (op : UnOp) (T : TypeId) (x : Operand) (jj : Nat) (bb : Bool) : vcQ P N ops (⟨some r, .unOp op T x, ty, pos, af, some (jj, bb)⟩ :: rest) e w KQ = vGuardL ops jj bb e (fun e => arg e x fun a => vUn op a (fun v => vcQ P N ops rest ((r, v) :: e) w KQ)) (fun e => vcQ P N ops rest ((r, undef) :: e) w KQ) := by rw [← vGuardL_eq]; rfl
theorem o_convert_some (s d : TypeId) (x : Operand) : vcOps P N ops (⟨some r, .convert s d x, ty, pos, af, none⟩ :: rest) e w K = vcStep P N (convPure P s d) ⟨some r, .convert s d x, ty, pos, af, none⟩ e w (vcOps P N ops rest) K := rfl
theorem o_convert (s d : TypeId) (x : Operand) (hc : convPure P s d = true) : vcOps P N ops (⟨some r, .convert s d x, ty, pos, af, none⟩ :: rest) e w K = arg e x fun a => vConv P s d a w (fun v => vcOps P N ops rest ((r, v) :: e) w K) := by rw [o_convert_some, hc]; rfl
theorem o_convertM (s d : TypeId) (x : Operand) (hc : convPure P s d = false) : vcOps P N ops (⟨some r, .convert s d x, ty, pos, af, none⟩ :: rest) e w K = MemK P N ⟨some r, .convert s d x, ty, pos, af, none⟩ e w (vcOps P N ops rest) K := by rw [o_convert_some, hc]; rfl
theorem og_convert_some (s d : TypeId) (x : Operand) (jj : Nat) (bb : Bool) : vcOps P N ops (⟨some r, .convert s d x, ty, pos, af, some (jj, bb)⟩ :: rest) e w K = vGuardL ops jj bb e (fun e => vcStep P N (convPure P s d) ⟨some r, .convert s d x, ty, pos, af, some (jj, bb)⟩ e w (vcOps P N ops rest) K) (fun e => vcOps P N ops rest ((r, undef) :: e) w K) := by rw [← vGuardL_eq]; rfl
theorem og_convert (s d : TypeId) (x : Operand) (jj : Nat) (bb : Bool) (hc : convPure P s d = true) : vcOps P N ops (⟨some r, .convert s d x, ty, pos, af, some (jj, bb)⟩ :: rest) e w K = vGuardL ops jj bb e (fun e => arg e x fun a => vConv P s d a w (fun v => vcOps P N ops rest ((r, v) :: e) w K)) (fun e => vcOps P N ops rest ((r, undef) :: e) w K) := by rw [og_convert_some, hc]; rfl
theorem q_convert_some (s d : TypeId) (x : Operand) : vcQ P N ops (⟨some r, .convert s d x, ty, pos, af, none⟩ :: rest) e w KQ = vcStepQ P N (convPure P s d) ⟨some r, .convert s d x, ty, pos, af, none⟩ e w (vcQ P N ops rest) KQ := rfl
theorem q_convert (s d : TypeId) (x : Operand) (hc : convPure P s d = true) : vcQ P N ops (⟨some r, .convert s d x, ty, pos, af, none⟩ :: rest) e w KQ = arg e x fun a => vConv P s d a w (fun v => vcQ P N ops rest ((r, v) :: e) w KQ) := by rw [q_convert_some, hc]; rfl
theorem q_convertM (s d : TypeId) (x : Operand) (hc : convPure P s d = false) : vcQ P N ops (⟨some r, .convert s d x, ty, pos, af, none⟩ :: rest) e w KQ = QuietK P N ⟨some r, .convert s d x, ty, pos, af, none⟩ e w (vcQ P N ops rest) KQ := by rw [q_convert_some, hc]; rfl
theorem qg_convert_some (s d : TypeId) (x : Operand) (jj : Nat) (bb : Bool) : vcQ P N ops (⟨some r, .convert s d x, ty, pos, af, some (jj, bb)⟩ :: rest) e w KQ = vGuardL ops jj bb e (fun e => vcStepQ P N (convPure P s d) ⟨some r, .convert s d x, ty, pos, af, some (jj, bb)⟩ e w (vcQ P N ops rest) KQ) (fun e => vcQ P N ops rest ((r, undef) :: e) w KQ) := by rw [← vGuardL_eq]; rfl
theorem qg_convert (s d : TypeId) (x : Operand) (jj : Nat) (bb : Bool) (hc : convPure P s d = true) : vcQ P N ops (⟨some r, .convert s d x, ty, pos, af, some (jj, bb)⟩ :: rest) e w KQ = vGuardL ops jj bb e (fun e => arg e x fun a => vConv P s d a w (fun v => vcQ P N ops rest ((r, v) :: e) w KQ)) (fun e => vcQ P N ops rest ((r, undef) :: e) w KQ) := by rw [qg_convert_some, hc]; rfl
theorem o_slice (T : TypeId) (x : Operand) (lo hi : Option Operand) : vcOps P N ops (⟨some r, .slice T x lo hi none, ty, pos, af, none⟩ :: rest) e w K = arg e x fun a => argO e lo fun l => argO e hi fun h => vSlice P T a l h (fun v => vcOps P N ops rest ((r, v) :: e) w K) := rfl
theorem og_slice (T : TypeId) (x : Operand) (lo hi : Option Operand) (jj : Nat) (bb : Bool) : vcOps P N ops (⟨some r, .slice T x lo hi none, ty, pos, af, some (jj, bb)⟩ :: rest) e w K = vGuardL ops jj bb e (fun e => arg e x fun a => argO e lo fun l => argO e hi fun h => vSlice P T a l h (fun v => vcOps P N ops rest ((r, v) :: e) w K)) (fun e => vcOps P N ops rest ((r, undef) :: e) w K) := by rw [← vGuardL_eq]; rfl
theorem q_slice (T : TypeId) (x : Operand) (lo hi : Option Operand) : vcQ P N ops (⟨some r, .slice T x lo hi none, ty, pos, af, none⟩ :: rest) e w KQ = arg e x fun a => argO e lo fun l => argO e hi fun h => vSlice P T a l h (fun v => vcQ P N ops rest ((r, v) :: e) w KQ) := rfl
theorem qg_slice (T : TypeId) (x : Operand) (lo hi : Option Operand) (jj : Nat) (bb : Bool) : vcQ P N ops (⟨some r, .slice T x lo hi none, ty, pos, af, some (jj, bb)⟩ :: rest) e w KQ = vGuardL ops jj bb e (fun e => arg e x fun a => argO e lo fun l => argO e hi fun h => vSlice P T a l h (fun v => vcQ P N ops rest ((r, v) :: e) w KQ)) (fun e => vcQ P N ops rest ((r, undef) :: e) w KQ) := by rw [← vGuardL_eq]; rfl
theorem o_fieldAddr (S : TypeId) (x : Operand) (f : Nat) : vcOps P N ops (⟨some r, .fieldAddr S x f, ty, pos, af, none⟩ :: rest) e w K = arg e x fun a => vFieldAddr P S a f (fun v => vcOps P N ops rest ((r, v) :: e) w K) := rfl
theorem og_fieldAddr (S : TypeId) (x : Operand) (f : Nat) (jj : Nat) (bb : Bool) : vcOps P N ops (⟨some r, .fieldAddr S x f, ty, pos, af, some (jj, bb)⟩ :: rest) e w K = vGuardL ops jj bb e (fun e => arg e x fun a => vFieldAddr P S a f (fun v => vcOps P N ops rest ((r, v) :: e) w K)) (fun e => vcOps P N ops rest ((r, undef) :: e) w K) := by rw [← vGuardL_eq]; rfl
theorem q_fieldAddr (S : TypeId) (x : Operand) (f : Nat) : vcQ P N ops (⟨some r, .fieldAddr S x f, ty, pos, af, none⟩ :: rest) e w KQ = arg e x fun a => vFieldAddr P S a f (fun v => vcQ P N ops rest ((r, v) :: e) w KQ) := rfl
theorem qg_fieldAddr (S : TypeId) (x : Operand) (f : Nat) (jj : Nat) (bb : Bool) : vcQ P N ops (⟨some r, .fieldAddr S x f, ty, pos, af, some (jj, bb)⟩ :: rest) e w KQ = vGuardL ops jj bb e (fun e => arg e x fun a => vFieldAddr P S a f (fun v => vcQ P N ops rest ((r, v) :: e) w KQ)) (fun e => vcQ P N ops rest ((r, undef) :: e) w KQ) := by rw [← vGuardL_eq]; rfl
theorem o_field (S : TypeId) (x : Operand) (f : Nat) : vcOps P N ops (⟨some r, .field S x f, ty, pos, af, none⟩ :: rest) e w K = arg e x fun a => vField P S a f (fun v => vcOps P N ops rest ((r, v) :: e) w K) := rfl
theorem og_field (S : TypeId) (x : Operand) (f : Nat) (jj : Nat) (bb : Bool) : vcOps P N ops (⟨some r, .field S x f, ty, pos, af, some (jj, bb)⟩ :: rest) e w K = vGuardL ops jj bb e (fun e => arg e x fun a => vField P S a f (fun v => vcOps P N ops rest ((r, v) :: e) w K)) (fun e => vcOps P N ops rest ((r, undef) :: e) w K) := by rw [← vGuardL_eq]; rfl
theorem q_field (S : TypeId) (x : Operand) (f : Nat) : vcQ P N ops (⟨some r, .field S x f, ty, pos, af, none⟩ :: rest) e w KQ = arg e x fun a => vField P S a f (fun v => vcQ P N ops rest ((r, v) :: e) w KQ) := rfl
theorem qg_field (S : TypeId) (x : Operand) (f : Nat) (jj : Nat) (bb : Bool) : vcQ P N ops (⟨some r, .field S x f, ty, pos, af, some (jj, bb)⟩ :: rest) e w KQ = vGuardL ops jj bb e (fun e => arg e x fun a => vField P S a f (fun v => vcQ P N ops rest ((r, v) :: e) w KQ)) (fun e => vcQ P N ops rest ((r, undef) :: e) w KQ) := by rw [← vGuardL_eq]; rfl
theorem o_indexAddr (T : TypeId) (x i : Operand) : vcOps P N ops (⟨some r, .indexAddr T x i, ty, pos, af, none⟩ :: rest) e w K = arg e x fun a => arg e i fun n => vIndexAddr P T a n (fun v => vcOps P N ops rest ((r, v) :: e) w K) := rfl
theorem og_indexAddr (T : TypeId) (x i : Operand) (jj : Nat) (bb : Bool) : vcOps P N ops (⟨some r, .indexAddr T x i, ty, pos, af, some (jj, bb)⟩ :: rest) e w K = vGuardL ops jj bb e (fun e => arg e x fun a => arg e i fun n => vIndexAddr P T a n (fun v => vcOps P N ops rest ((r, v) :: e) w K)) (fun e => vcOps P N ops rest ((r, undef) :: e) w K) := by rw [← vGuardL_eq]; rfl
theorem q_indexAddr (T : TypeId) (x i : Operand) : vcQ P N ops (⟨some r, .indexAddr T x i, ty, pos, af, none⟩ :: rest) e w KQ = arg e x fun a => arg e i fun n => vIndexAddr P T a n (fun v => vcQ P N ops rest ((r, v) :: e) w KQ) := rfl
theorem qg_indexAddr (T : TypeId) (x i : Operand) (jj : Nat) (bb : Bool) : vcQ P N ops (⟨some r, .indexAddr T x i, ty, pos, af, some (jj, bb)⟩ :: rest) e w KQ = vGuardL ops jj bb e (fun e => arg e x fun a => arg e i fun n => vIndexAddr P T a n (fun v => vcQ P N ops rest ((r, v) :: e) w KQ)) (fun e => vcQ P N ops rest ((r, undef) :: e) w KQ) := by rw [← vGuardL_eq]; rfl
theorem o_index (T : TypeId) (x i : Operand) : vcOps P N ops (⟨some r, .index T x i, ty, pos, af, none⟩ :: rest) e w K = arg e x fun a => arg e i fun n => vIndex P T a n (fun v => vcOps P N ops rest ((r, v) :: e) w K) := rfl
theorem og_index (T : TypeId) (x i : Operand) (jj : Nat) (bb : Bool) : vcOps P N ops (⟨some r, .index T x i, ty, pos, af, some (jj, bb)⟩ :: rest) e w K = vGuardL ops jj bb e (fun e => arg e x fun a => arg e i fun n => vIndex P T a n (fun v => vcOps P N ops rest ((r, v) :: e) w K)) (fun e => vcOps P N ops rest ((r, undef) :: e) w K) := by rw [← vGuardL_eq]; rfl
theorem q_index (T : TypeId) (x i : Operand) : vcQ P N ops (⟨some r, .index T x i, ty, pos, af, none⟩ :: rest) e w KQ = arg e x fun a => arg e i fun n => vIndex P T a n (fun v => vcQ P N ops rest ((r, v) :: e) w KQ) := rfl
theorem qg_index (T : TypeId) (x i : Operand) (jj : Nat) (bb : Bool) : vcQ P N ops (⟨some r, .index T x i, ty, pos, af, some (jj, bb)⟩ :: rest) e w KQ = vGuardL ops jj bb e (fun e => arg e x fun a => arg e i fun n => vIndex P T a n (fun v => vcQ P N ops rest ((r, v) :: e) w KQ)) (fun e => vcQ P N ops rest ((r, undef) :: e) w KQ) := by rw [← vGuardL_eq]; rfl
theorem o_extract (x : Operand) (i : Nat) : vcOps P N ops (⟨some r, .extract x i, ty, pos, af, none⟩ :: rest) e w K = arg e x fun a => vExtract a i (fun v => vcOps P N ops rest ((r, v) :: e) w K) := rfl
theorem og_extract (x : Operand) (i : Nat) (jj : Nat) (bb : Bool) : vcOps P N ops (⟨some r, .extract x i, ty, pos, af, some (jj, bb)⟩ :: rest) e w K = vGuardL ops jj bb e (fun e => arg e x fun a => vExtract a i (fun v => vcOps P N ops rest ((r, v) :: e) w K)) (fun e => vcOps P N ops rest ((r, undef) :: e) w K) := by rw [← vGuardL_eq]; rfl
theorem q_extract (x : Operand) (i : Nat) : vcQ P N ops (⟨some r, .extract x i, ty, pos, af, none⟩ :: rest) e w KQ = arg e x fun a => vExtract a i (fun v => vcQ P N ops rest ((r, v) :: e) w KQ) := rfl
theorem qg_extract (x : Operand) (i : Nat) (jj : Nat) (bb : Bool) : vcQ P N ops (⟨some r, .extract x i, ty, pos, af, some (jj, bb)⟩ :: rest) e w KQ = vGuardL ops jj bb e (fun e => arg e x fun a => vExtract a i (fun v => vcQ P N ops rest ((r, v) :: e) w KQ)) (fun e => vcQ P N ops rest ((r, undef) :: e) w KQ) := by rw [← vGuardL_eq]; rfl
theorem o_makeInterface (T : TypeId) (x : Operand) : vcOps P N ops (⟨some r, .makeInterface T x, ty, pos, af, none⟩ :: rest) e w K = arg e x fun a => vMakeIface P T a (fun v => vcOps P N ops rest ((r, v) :: e) w K) := rfl
theorem og_makeInterface (T : TypeId) (x : Operand) (jj : Nat) (bb : Bool) : vcOps P N ops (⟨some r, .makeInterface T x, ty, pos, af, some (jj, bb)⟩ :: rest) e w K = vGuardL ops jj bb e (fun e => arg e x fun a => vMakeIface P T a (fun v => vcOps P N ops rest ((r, v) :: e) w K)) (fun e => vcOps P N ops rest ((r, undef) :: e) w K) := by rw [← vGuardL_eq]; rfl
theorem q_makeInterface (T : TypeId) (x : Operand) : vcQ P N ops (⟨some r, .makeInterface T x, ty, pos, af, none⟩ :: rest) e w KQ = arg e x fun a => vMakeIface P T a (fun v => vcQ P N ops rest ((r, v) :: e) w KQ) := rfl
theorem qg_makeInterface (T : TypeId) (x : Operand) (jj : Nat) (bb : Bool) : vcQ P N ops (⟨some r, .makeInterface T x, ty, pos, af, some (jj, bb)⟩ :: rest) e w KQ = vGuardL ops jj bb e (fun e => arg e x fun a => vMakeIface P T a (fun v => vcQ P N ops rest ((r, v) :: e) w KQ)) (fun e => vcQ P N ops rest ((r, undef) :: e) w KQ) := by rw [← vGuardL_eq]; rfl
theorem o_makeFunc (fn : Go.Fn) (a b : Array Operand) : vcOps P N ops (⟨some r, .makeFunc fn a b, ty, pos, af, none⟩ :: rest) e w K = argL e a.toList fun fs => argL e b.toList fun cs => ((fun v => vcOps P N ops rest ((r, v) :: e) w K)) (.func fn fs.toArray cs.toArray) := rfl
theorem og_makeFunc (fn : Go.Fn) (a b : Array Operand) (jj : Nat) (bb : Bool) : vcOps P N ops (⟨some r, .makeFunc fn a b, ty, pos, af, some (jj, bb)⟩ :: rest) e w K = vGuardL ops jj bb e (fun e => argL e a.toList fun fs => argL e b.toList fun cs => ((fun v => vcOps P N ops rest ((r, v) :: e) w K)) (.func fn fs.toArray cs.toArray)) (fun e => vcOps P N ops rest ((r, undef) :: e) w K) := by rw [← vGuardL_eq]; rfl
theorem q_makeFunc (fn : Go.Fn) (a b : Array Operand) : vcQ P N ops (⟨some r, .makeFunc fn a b, ty, pos, af, none⟩ :: rest) e w KQ = argL e a.toList fun fs => argL e b.toList fun cs => ((fun v => vcQ P N ops rest ((r, v) :: e) w KQ)) (.func fn fs.toArray cs.toArray) := rfl
theorem qg_makeFunc (fn : Go.Fn) (a b : Array Operand) (jj : Nat) (bb : Bool) : vcQ P N ops (⟨some r, .makeFunc fn a b, ty, pos, af, some (jj, bb)⟩ :: rest) e w KQ = vGuardL ops jj bb e (fun e => argL e a.toList fun fs => argL e b.toList fun cs => ((fun v => vcQ P N ops rest ((r, v) :: e) w KQ)) (.func fn fs.toArray cs.toArray)) (fun e => vcQ P N ops rest ((r, undef) :: e) w KQ) := by rw [← vGuardL_eq]; rfl
theorem o_build (T : TypeId) (ps : Array (Nat × Operand)) : vcOps P N ops (⟨some r, .build T ps, ty, pos, af, none⟩ :: rest) e w K = vParts e ps.toList fun vs => vBuild P T vs (fun v => vcOps P N ops rest ((r, v) :: e) w K) := rfl
theorem og_build (T : TypeId) (ps : Array (Nat × Operand)) (jj : Nat) (bb : Bool) : vcOps P N ops (⟨some r, .build T ps, ty, pos, af, some (jj, bb)⟩ :: rest) e w K = vGuardL ops jj bb e (fun e => vParts e ps.toList fun vs => vBuild P T vs (fun v => vcOps P N ops rest ((r, v) :: e) w K)) (fun e => vcOps P N ops rest ((r, undef) :: e) w K) := by rw [← vGuardL_eq]; rfl
theorem q_build (T : TypeId) (ps : Array (Nat × Operand)) : vcQ P N ops (⟨some r, .build T ps, ty, pos, af, none⟩ :: rest) e w KQ = vParts e ps.toList fun vs => vBuild P T vs (fun v => vcQ P N ops rest ((r, v) :: e) w KQ) := rfl
theorem qg_build (T : TypeId) (ps : Array (Nat × Operand)) (jj : Nat) (bb : Bool) : vcQ P N ops (⟨some r, .build T ps, ty, pos, af, some (jj, bb)⟩ :: rest) e w KQ = vGuardL ops jj bb e (fun e => vParts e ps.toList fun vs => vBuild P T vs (fun v => vcQ P N ops rest ((r, v) :: e) w KQ)) (fun e => vcQ P N ops rest ((r, undef) :: e) w KQ) := by rw [← vGuardL_eq]; rfl
theorem o_load (T : TypeId) (x : Operand) : vcOps P N ops (⟨some r, .load T x, ty, pos, af, none⟩ :: rest) e w K = arg e x fun a => vLoad P T a w (fun v => vcOps P N ops rest ((r, v) :: e) w K) := rfl
theorem og_load (T : TypeId) (x : Operand) (jj : Nat) (bb : Bool) : vcOps P N ops (⟨some r, .load T x, ty, pos, af, some (jj, bb)⟩ :: rest) e w K = vGuardL ops jj bb e (fun e => arg e x fun a => vLoad P T a w (fun v => vcOps P N ops rest ((r, v) :: e) w K)) (fun e => vcOps P N ops rest ((r, undef) :: e) w K) := by rw [← vGuardL_eq]; rfl
theorem q_load (T : TypeId) (x : Operand) : vcQ P N ops (⟨some r, .load T x, ty, pos, af, none⟩ :: rest) e w KQ = arg e x fun a => vLoad P T a w (fun v => vcQ P N ops rest ((r, v) :: e) w KQ) := rfl
theorem qg_load (T : TypeId) (x : Operand) (jj : Nat) (bb : Bool) : vcQ P N ops (⟨some r, .load T x, ty, pos, af, some (jj, bb)⟩ :: rest) e w KQ = vGuardL ops jj bb e (fun e => arg e x fun a => vLoad P T a w (fun v => vcQ P N ops rest ((r, v) :: e) w KQ)) (fun e => vcQ P N ops rest ((r, undef) :: e) w KQ) := by rw [← vGuardL_eq]; rfl
theorem o_nilCheck (x : Operand) : vcOps P N ops (⟨some r, .nilCheck x, ty, pos, af, none⟩ :: rest) e w K = arg e x fun a => vNil a (fun v => vcOps P N ops rest ((r, v) :: e) w K) := rfl
theorem og_nilCheck (x : Operand) (jj : Nat) (bb : Bool) : vcOps P N ops (⟨some r, .nilCheck x, ty, pos, af, some (jj, bb)⟩ :: rest) e w K = vGuardL ops jj bb e (fun e => arg e x fun a => vNil a (fun v => vcOps P N ops rest ((r, v) :: e) w K)) (fun e => vcOps P N ops rest ((r, undef) :: e) w K) := by rw [← vGuardL_eq]; rfl
theorem q_nilCheck (x : Operand) : vcQ P N ops (⟨some r, .nilCheck x, ty, pos, af, none⟩ :: rest) e w KQ = arg e x fun a => vNil a (fun v => vcQ P N ops rest ((r, v) :: e) w KQ) := rfl
theorem qg_nilCheck (x : Operand) (jj : Nat) (bb : Bool) : vcQ P N ops (⟨some r, .nilCheck x, ty, pos, af, some (jj, bb)⟩ :: rest) e w KQ = vGuardL ops jj bb e (fun e => arg e x fun a => vNil a (fun v => vcQ P N ops rest ((r, v) :: e) w KQ)) (fun e => vcQ P N ops rest ((r, undef) :: e) w KQ) := by rw [← vGuardL_eq]; rfl
theorem o_len (as_ : Array Operand) (ts : Array TypeId) : vcOps P N ops (⟨some r, .call { callee := .builtin .len, args := as_, argTypes := ts }, ty, pos, af, none⟩ :: rest) e w K = argL e as_.toList fun vs => vLenL P ts[0]? vs (fun v => vcOps P N ops rest ((r, v) :: e) w K) := rfl
theorem og_len (as_ : Array Operand) (ts : Array TypeId) (jj : Nat) (bb : Bool) : vcOps P N ops (⟨some r, .call { callee := .builtin .len, args := as_, argTypes := ts }, ty, pos, af, some (jj, bb)⟩ :: rest) e w K = vGuardL ops jj bb e (fun e => argL e as_.toList fun vs => vLenL P ts[0]? vs (fun v => vcOps P N ops rest ((r, v) :: e) w K)) (fun e => vcOps P N ops rest ((r, undef) :: e) w K) := by rw [← vGuardL_eq]; rfl
theorem q_len (as_ : Array Operand) (ts : Array TypeId) : vcQ P N ops (⟨some r, .call { callee := .builtin .len, args := as_, argTypes := ts }, ty, pos, af, none⟩ :: rest) e w KQ = argL e as_.toList fun vs => vLenL P ts[0]? vs (fun v => vcQ P N ops rest ((r, v) :: e) w KQ) := rfl
theorem qg_len (as_ : Array Operand) (ts : Array TypeId) (jj : Nat) (bb : Bool) : vcQ P N ops (⟨some r, .call { callee := .builtin .len, args := as_, argTypes := ts }, ty, pos, af, some (jj, bb)⟩ :: rest) e w KQ = vGuardL ops jj bb e (fun e => argL e as_.toList fun vs => vLenL P ts[0]? vs (fun v => vcQ P N ops rest ((r, v) :: e) w KQ)) (fun e => vcQ P N ops rest ((r, undef) :: e) w KQ) := by rw [← vGuardL_eq]; rfl
theorem o_min (as_ : Array Operand) (ts : Array TypeId) : vcOps P N ops (⟨some r, .call { callee := .builtin .min, args := as_, argTypes := ts }, ty, pos, af, none⟩ :: rest) e w K = argL e as_.toList fun vs => vMin vs (fun v => vcOps P N ops rest ((r, v) :: e) w K) := rfl
theorem og_min (as_ : Array Operand) (ts : Array TypeId) (jj : Nat) (bb : Bool) : vcOps P N ops (⟨some r, .call { callee := .builtin .min, args := as_, argTypes := ts }, ty, pos, af, some (jj, bb)⟩ :: rest) e w K = vGuardL ops jj bb e (fun e => argL e as_.toList fun vs => vMin vs (fun v => vcOps P N ops rest ((r, v) :: e) w K)) (fun e => vcOps P N ops rest ((r, undef) :: e) w K) := by rw [← vGuardL_eq]; rfl
theorem q_min (as_ : Array Operand) (ts : Array TypeId) : vcQ P N ops (⟨some r, .call { callee := .builtin .min, args := as_, argTypes := ts }, ty, pos, af, none⟩ :: rest) e w KQ = argL e as_.toList fun vs => vMin vs (fun v => vcQ P N ops rest ((r, v) :: e) w KQ) := rfl
theorem qg_min (as_ : Array Operand) (ts : Array TypeId) (jj : Nat) (bb : Bool) : vcQ P N ops (⟨some r, .call { callee := .builtin .min, args := as_, argTypes := ts }, ty, pos, af, some (jj, bb)⟩ :: rest) e w KQ = vGuardL ops jj bb e (fun e => argL e as_.toList fun vs => vMin vs (fun v => vcQ P N ops rest ((r, v) :: e) w KQ)) (fun e => vcQ P N ops rest ((r, undef) :: e) w KQ) := by rw [← vGuardL_eq]; rfl
theorem o_max (as_ : Array Operand) (ts : Array TypeId) : vcOps P N ops (⟨some r, .call { callee := .builtin .max, args := as_, argTypes := ts }, ty, pos, af, none⟩ :: rest) e w K = argL e as_.toList fun vs => vMax vs (fun v => vcOps P N ops rest ((r, v) :: e) w K) := rfl
theorem og_max (as_ : Array Operand) (ts : Array TypeId) (jj : Nat) (bb : Bool) : vcOps P N ops (⟨some r, .call { callee := .builtin .max, args := as_, argTypes := ts }, ty, pos, af, some (jj, bb)⟩ :: rest) e w K = vGuardL ops jj bb e (fun e => argL e as_.toList fun vs => vMax vs (fun v => vcOps P N ops rest ((r, v) :: e) w K)) (fun e => vcOps P N ops rest ((r, undef) :: e) w K) := by rw [← vGuardL_eq]; rfl
theorem q_max (as_ : Array Operand) (ts : Array TypeId) : vcQ P N ops (⟨some r, .call { callee := .builtin .max, args := as_, argTypes := ts }, ty, pos, af, none⟩ :: rest) e w KQ = argL e as_.toList fun vs => vMax vs (fun v => vcQ P N ops rest ((r, v) :: e) w KQ) := rfl
theorem qg_max (as_ : Array Operand) (ts : Array TypeId) (jj : Nat) (bb : Bool) : vcQ P N ops (⟨some r, .call { callee := .builtin .max, args := as_, argTypes := ts }, ty, pos, af, some (jj, bb)⟩ :: rest) e w KQ = vGuardL ops jj bb e (fun e => argL e as_.toList fun vs => vMax vs (fun v => vcQ P N ops rest ((r, v) :: e) w KQ)) (fun e => vcQ P N ops rest ((r, undef) :: e) w KQ) := by rw [← vGuardL_eq]; rfl
theorem o_append (as_ : Array Operand) (ts : Array TypeId) : vcOps P N ops (⟨d, .call { callee := .builtin .append, args := as_, argTypes := ts }, ty, pos, af, none⟩ :: rest) e w K = MemK P N ⟨d, .call { callee := .builtin .append, args := as_, argTypes := ts }, ty, pos, af, none⟩ e w (vcOps P N ops rest) K := rfl
theorem og_append (as_ : Array Operand) (ts : Array TypeId) (jj : Nat) (bb : Bool) : vcOps P N ops (⟨d, .call { callee := .builtin .append, args := as_, argTypes := ts }, ty, pos, af, some (jj, bb)⟩ :: rest) e w K = vGuardL ops jj bb e (fun e => MemK P N ⟨d, .call { callee := .builtin .append, args := as_, argTypes := ts }, ty, pos, af, some (jj, bb)⟩ e w (vcOps P N ops rest) K) (fun e => vcOps P N ops rest (e.put d undef) w K) := by rw [← vGuardL_eq]; rfl
theorem q_append (as_ : Array Operand) (ts : Array TypeId) : vcQ P N ops (⟨d, .call { callee := .builtin .append, args := as_, argTypes := ts }, ty, pos, af, none⟩ :: rest) e w KQ = QuietK P N ⟨d, .call { callee := .builtin .append, args := as_, argTypes := ts }, ty, pos, af, none⟩ e w (vcQ P N ops rest) KQ := rfl
theorem qg_append (as_ : Array Operand) (ts : Array TypeId) (jj : Nat) (bb : Bool) : vcQ P N ops (⟨d, .call { callee := .builtin .append, args := as_, argTypes := ts }, ty, pos, af, some (jj, bb)⟩ :: rest) e w KQ = vGuardL ops jj bb e (fun e => QuietK P N ⟨d, .call { callee := .builtin .append, args := as_, argTypes := ts }, ty, pos, af, some (jj, bb)⟩ e w (vcQ P N ops rest) KQ) (fun e => vcQ P N ops rest (e.put d undef) w KQ) := by rw [← vGuardL_eq]; rfl
theorem o_copy (as_ : Array Operand) (ts : Array TypeId) : vcOps P N ops (⟨d, .call { callee := .builtin .copy, args := as_, argTypes := ts }, ty, pos, af, none⟩ :: rest) e w K = MemK P N ⟨d, .call { callee := .builtin .copy, args := as_, argTypes := ts }, ty, pos, af, none⟩ e w (vcOps P N ops rest) K := rfl
theorem og_copy (as_ : Array Operand) (ts : Array TypeId) (jj : Nat) (bb : Bool) : vcOps P N ops (⟨d, .call { callee := .builtin .copy, args := as_, argTypes := ts }, ty, pos, af, some (jj, bb)⟩ :: rest) e w K = vGuardL ops jj bb e (fun e => MemK P N ⟨d, .call { callee := .builtin .copy, args := as_, argTypes := ts }, ty, pos, af, some (jj, bb)⟩ e w (vcOps P N ops rest) K) (fun e => vcOps P N ops rest (e.put d undef) w K) := by rw [← vGuardL_eq]; rfl
theorem q_copy (as_ : Array Operand) (ts : Array TypeId) : vcQ P N ops (⟨d, .call { callee := .builtin .copy, args := as_, argTypes := ts }, ty, pos, af, none⟩ :: rest) e w KQ = QuietK P N ⟨d, .call { callee := .builtin .copy, args := as_, argTypes := ts }, ty, pos, af, none⟩ e w (vcQ P N ops rest) KQ := rfl
theorem qg_copy (as_ : Array Operand) (ts : Array TypeId) (jj : Nat) (bb : Bool) : vcQ P N ops (⟨d, .call { callee := .builtin .copy, args := as_, argTypes := ts }, ty, pos, af, some (jj, bb)⟩ :: rest) e w KQ = vGuardL ops jj bb e (fun e => QuietK P N ⟨d, .call { callee := .builtin .copy, args := as_, argTypes := ts }, ty, pos, af, some (jj, bb)⟩ e w (vcQ P N ops rest) KQ) (fun e => vcQ P N ops rest (e.put d undef) w KQ) := by rw [← vGuardL_eq]; rfl
theorem o_recover (as_ : Array Operand) (ts : Array TypeId) : vcOps P N ops (⟨d, .call { callee := .builtin .recover, args := as_, argTypes := ts }, ty, pos, af, none⟩ :: rest) e w K = MemK P N ⟨d, .call { callee := .builtin .recover, args := as_, argTypes := ts }, ty, pos, af, none⟩ e w (vcOps P N ops rest) K := rfl
theorem og_recover (as_ : Array Operand) (ts : Array TypeId) (jj : Nat) (bb : Bool) : vcOps P N ops (⟨d, .call { callee := .builtin .recover, args := as_, argTypes := ts }, ty, pos, af, some (jj, bb)⟩ :: rest) e w K = vGuardL ops jj bb e (fun e => MemK P N ⟨d, .call { callee := .builtin .recover, args := as_, argTypes := ts }, ty, pos, af, some (jj, bb)⟩ e w (vcOps P N ops rest) K) (fun e => vcOps P N ops rest (e.put d undef) w K) := by rw [← vGuardL_eq]; rfl
theorem q_recover (as_ : Array Operand) (ts : Array TypeId) : vcQ P N ops (⟨d, .call { callee := .builtin .recover, args := as_, argTypes := ts }, ty, pos, af, none⟩ :: rest) e w KQ = QuietK P N ⟨d, .call { callee := .builtin .recover, args := as_, argTypes := ts }, ty, pos, af, none⟩ e w (vcQ P N ops rest) KQ := rfl
theorem qg_recover (as_ : Array Operand) (ts : Array TypeId) (jj : Nat) (bb : Bool) : vcQ P N ops (⟨d, .call { callee := .builtin .recover, args := as_, argTypes := ts }, ty, pos, af, some (jj, bb)⟩ :: rest) e w KQ = vGuardL ops jj bb e (fun e => QuietK P N ⟨d, .call { callee := .builtin .recover, args := as_, argTypes := ts }, ty, pos, af, some (jj, bb)⟩ e w (vcQ P N ops rest) KQ) (fun e => vcQ P N ops rest (e.put d undef) w KQ) := by rw [← vGuardL_eq]; rfl
theorem o_delete (as_ : Array Operand) (ts : Array TypeId) : vcOps P N ops (⟨d, .call { callee := .builtin .delete, args := as_, argTypes := ts }, ty, pos, af, none⟩ :: rest) e w K = MemK P N ⟨d, .call { callee := .builtin .delete, args := as_, argTypes := ts }, ty, pos, af, none⟩ e w (vcOps P N ops rest) K := rfl
theorem og_delete (as_ : Array Operand) (ts : Array TypeId) (jj : Nat) (bb : Bool) : vcOps P N ops (⟨d, .call { callee := .builtin .delete, args := as_, argTypes := ts }, ty, pos, af, some (jj, bb)⟩ :: rest) e w K = vGuardL ops jj bb e (fun e => MemK P N ⟨d, .call { callee := .builtin .delete, args := as_, argTypes := ts }, ty, pos, af, some (jj, bb)⟩ e w (vcOps P N ops rest) K) (fun e => vcOps P N ops rest (e.put d undef) w K) := by rw [← vGuardL_eq]; rfl
theorem q_delete (as_ : Array Operand) (ts : Array TypeId) : vcQ P N ops (⟨d, .call { callee := .builtin .delete, args := as_, argTypes := ts }, ty, pos, af, none⟩ :: rest) e w KQ = QuietK P N ⟨d, .call { callee := .builtin .delete, args := as_, argTypes := ts }, ty, pos, af, none⟩ e w (vcQ P N ops rest) KQ := rfl
theorem qg_delete (as_ : Array Operand) (ts : Array TypeId) (jj : Nat) (bb : Bool) : vcQ P N ops (⟨d, .call { callee := .builtin .delete, args := as_, argTypes := ts }, ty, pos, af, some (jj, bb)⟩ :: rest) e w KQ = vGuardL ops jj bb e (fun e => QuietK P N ⟨d, .call { callee := .builtin .delete, args := as_, argTypes := ts }, ty, pos, af, some (jj, bb)⟩ e w (vcQ P N ops rest) KQ) (fun e => vcQ P N ops rest (e.put d undef) w KQ) := by rw [← vGuardL_eq]; rfl
theorem o_cap (as_ : Array Operand) (ts : Array TypeId) : vcOps P N ops (⟨d, .call { callee := .builtin .cap, args := as_, argTypes := ts }, ty, pos, af, none⟩ :: rest) e w K = MemK P N ⟨d, .call { callee := .builtin .cap, args := as_, argTypes := ts }, ty, pos, af, none⟩ e w (vcOps P N ops rest) K := rfl
theorem og_cap (as_ : Array Operand) (ts : Array TypeId) (jj : Nat) (bb : Bool) : vcOps P N ops (⟨d, .call { callee := .builtin .cap, args := as_, argTypes := ts }, ty, pos, af, some (jj, bb)⟩ :: rest) e w K = vGuardL ops jj bb e (fun e => MemK P N ⟨d, .call { callee := .builtin .cap, args := as_, argTypes := ts }, ty, pos, af, some (jj, bb)⟩ e w (vcOps P N ops rest) K) (fun e => vcOps P N ops rest (e.put d undef) w K) := by rw [← vGuardL_eq]; rfl
theorem q_cap (as_ : Array Operand) (ts : Array TypeId) : vcQ P N ops (⟨d, .call { callee := .builtin .cap, args := as_, argTypes := ts }, ty, pos, af, none⟩ :: rest) e w KQ = QuietK P N ⟨d, .call { callee := .builtin .cap, args := as_, argTypes := ts }, ty, pos, af, none⟩ e w (vcQ P N ops rest) KQ := rfl
theorem qg_cap (as_ : Array Operand) (ts : Array TypeId) (jj : Nat) (bb : Bool) : vcQ P N ops (⟨d, .call { callee := .builtin .cap, args := as_, argTypes := ts }, ty, pos, af, some (jj, bb)⟩ :: rest) e w KQ = vGuardL ops jj bb e (fun e => QuietK P N ⟨d, .call { callee := .builtin .cap, args := as_, argTypes := ts }, ty, pos, af, some (jj, bb)⟩ e w (vcQ P N ops rest) KQ) (fun e => vcQ P N ops rest (e.put d undef) w KQ) := by rw [← vGuardL_eq]; rfl
theorem o_callv (x : Operand) (as_ : Array Operand) (ts : Array TypeId) : vcOps P N ops (⟨d, .call { callee := .value x, args := as_, argTypes := ts }, ty, pos, af, none⟩ :: rest) e w K = MemK P N ⟨d, .call { callee := .value x, args := as_, argTypes := ts }, ty, pos, af, none⟩ e w (vcOps P N ops rest) K := rfl
theorem og_callv (x : Operand) (as_ : Array Operand) (ts : Array TypeId) (jj : Nat) (bb : Bool) : vcOps P N ops (⟨d, .call { callee := .value x, args := as_, argTypes := ts }, ty, pos, af, some (jj, bb)⟩ :: rest) e w K = vGuardL ops jj bb e (fun e => MemK P N ⟨d, .call { callee := .value x, args := as_, argTypes := ts }, ty, pos, af, some (jj, bb)⟩ e w (vcOps P N ops rest) K) (fun e => vcOps P N ops rest (e.put d undef) w K) := by rw [← vGuardL_eq]; rfl
theorem q_callv (x : Operand) (as_ : Array Operand) (ts : Array TypeId) : vcQ P N ops (⟨d, .call { callee := .value x, args := as_, argTypes := ts }, ty, pos, af, none⟩ :: rest) e w KQ = QuietK P N ⟨d, .call { callee := .value x, args := as_, argTypes := ts }, ty, pos, af, none⟩ e w (vcQ P N ops rest) KQ := rfl
theorem qg_callv (x : Operand) (as_ : Array Operand) (ts : Array TypeId) (jj : Nat) (bb : Bool) : vcQ P N ops (⟨d, .call { callee := .value x, args := as_, argTypes := ts }, ty, pos, af, some (jj, bb)⟩ :: rest) e w KQ = vGuardL ops jj bb e (fun e => QuietK P N ⟨d, .call { callee := .value x, args := as_, argTypes := ts }, ty, pos, af, some (jj, bb)⟩ e w (vcQ P N ops rest) KQ) (fun e => vcQ P N ops rest (e.put d undef) w KQ) := by rw [← vGuardL_eq]; rfl
theorem o_invoke (x : Operand) (m : String) (as_ : Array Operand) (ts : Array TypeId) : vcOps P N ops (⟨d, .call { callee := .invoke x m, args := as_, argTypes := ts }, ty, pos, af, none⟩ :: rest) e w K = MemK P N ⟨d, .call { callee := .invoke x m, args := as_, argTypes := ts }, ty, pos, af, none⟩ e w (vcOps P N ops rest) K := rfl
theorem og_invoke (x : Operand) (m : String) (as_ : Array Operand) (ts : Array TypeId) (jj : Nat) (bb : Bool) : vcOps P N ops (⟨d, .call { callee := .invoke x m, args := as_, argTypes := ts }, ty, pos, af, some (jj, bb)⟩ :: rest) e w K = vGuardL ops jj bb e (fun e => MemK P N ⟨d, .call { callee := .invoke x m, args := as_, argTypes := ts }, ty, pos, af, some (jj, bb)⟩ e w (vcOps P N ops rest) K) (fun e => vcOps P N ops rest (e.put d undef) w K) := by rw [← vGuardL_eq]; rfl
theorem q_invoke (x : Operand) (m : String) (as_ : Array Operand) (ts : Array TypeId) : vcQ P N ops (⟨d, .call { callee := .invoke x m, args := as_, argTypes := ts }, ty, pos, af, none⟩ :: rest) e w KQ = QuietK P N ⟨d, .call { callee := .invoke x m, args := as_, argTypes := ts }, ty, pos, af, none⟩ e w (vcQ P N ops rest) KQ := rfl
theorem qg_invoke (x : Operand) (m : String) (as_ : Array Operand) (ts : Array TypeId) (jj : Nat) (bb : Bool) : vcQ P N ops (⟨d, .call { callee := .invoke x m, args := as_, argTypes := ts }, ty, pos, af, some (jj, bb)⟩ :: rest) e w KQ = vGuardL ops jj bb e (fun e => QuietK P N ⟨d, .call { callee := .invoke x m, args := as_, argTypes := ts }, ty, pos, af, some (jj, bb)⟩ e w (vcQ P N ops rest) KQ) (fun e => vcQ P N ops rest (e.put d undef) w KQ) := by rw [← vGuardL_eq]; rfl
theorem o_alloc (T : TypeId) : vcOps P N ops (⟨d, .alloc T, ty, pos, af, none⟩ :: rest) e w K = MemK P N ⟨d, .alloc T, ty, pos, af, none⟩ e w (vcOps P N ops rest) K := rfl
theorem og_alloc (T : TypeId) (jj : Nat) (bb : Bool) : vcOps P N ops (⟨d, .alloc T, ty, pos, af, some (jj, bb)⟩ :: rest) e w K = vGuardL ops jj bb e (fun e => MemK P N ⟨d, .alloc T, ty, pos, af, some (jj, bb)⟩ e w (vcOps P N ops rest) K) (fun e => vcOps P N ops rest (e.put d undef) w K) := by rw [← vGuardL_eq]; rfl
theorem q_alloc (T : TypeId) : vcQ P N ops (⟨d, .alloc T, ty, pos, af, none⟩ :: rest) e w KQ = QuietK P N ⟨d, .alloc T, ty, pos, af, none⟩ e w (vcQ P N ops rest) KQ := rfl
theorem qg_alloc (T : TypeId) (jj : Nat) (bb : Bool) : vcQ P N ops (⟨d, .alloc T, ty, pos, af, some (jj, bb)⟩ :: rest) e w KQ = vGuardL ops jj bb e (fun e => QuietK P N ⟨d, .alloc T, ty, pos, af, some (jj, bb)⟩ e w (vcQ P N ops rest) KQ) (fun e => vcQ P N ops rest (e.put d undef) w KQ) := by rw [← vGuardL_eq]; rfl
theorem o_box (T : TypeId) (x : Operand) : vcOps P N ops (⟨d, .box T x, ty, pos, af, none⟩ :: rest) e w K = MemK P N ⟨d, .box T x, ty, pos, af, none⟩ e w (vcOps P N ops rest) K := rfl
theorem og_box (T : TypeId) (x : Operand) (jj : Nat) (bb : Bool) : vcOps P N ops (⟨d, .box T x, ty, pos, af, some (jj, bb)⟩ :: rest) e w K = vGuardL ops jj bb e (fun e => MemK P N ⟨d, .box T x, ty, pos, af, some (jj, bb)⟩ e w (vcOps P N ops rest) K) (fun e => vcOps P N ops rest (e.put d undef) w K) := by rw [← vGuardL_eq]; rfl
theorem q_box (T : TypeId) (x : Operand) : vcQ P N ops (⟨d, .box T x, ty, pos, af, none⟩ :: rest) e w KQ = QuietK P N ⟨d, .box T x, ty, pos, af, none⟩ e w (vcQ P N ops rest) KQ := rfl
theorem qg_box (T : TypeId) (x : Operand) (jj : Nat) (bb : Bool) : vcQ P N ops (⟨d, .box T x, ty, pos, af, some (jj, bb)⟩ :: rest) e w KQ = vGuardL ops jj bb e (fun e => QuietK P N ⟨d, .box T x, ty, pos, af, some (jj, bb)⟩ e w (vcQ P N ops rest) KQ) (fun e => vcQ P N ops rest (e.put d undef) w KQ) := by rw [← vGuardL_eq]; rfl
theorem o_buildSlice (T : TypeId) (n : Nat) (ps : Array (Nat × Operand)) : vcOps P N ops (⟨d, .buildSlice T n ps, ty, pos, af, none⟩ :: rest) e w K = MemK P N ⟨d, .buildSlice T n ps, ty, pos, af, none⟩ e w (vcOps P N ops rest) K := rfl
theorem og_buildSlice (T : TypeId) (n : Nat) (ps : Array (Nat × Operand)) (jj : Nat) (bb : Bool) : vcOps P N ops (⟨d, .buildSlice T n ps, ty, pos, af, some (jj, bb)⟩ :: rest) e w K = vGuardL ops jj bb e (fun e => MemK P N ⟨d, .buildSlice T n ps, ty, pos, af, some (jj, bb)⟩ e w (vcOps P N ops rest) K) (fun e => vcOps P N ops rest (e.put d undef) w K) := by rw [← vGuardL_eq]; rfl
theorem q_buildSlice (T : TypeId) (n : Nat) (ps : Array (Nat × Operand)) : vcQ P N ops (⟨d, .buildSlice T n ps, ty, pos, af, none⟩ :: rest) e w KQ = QuietK P N ⟨d, .buildSlice T n ps, ty, pos, af, none⟩ e w (vcQ P N ops rest) KQ := rfl
theorem qg_buildSlice (T : TypeId) (n : Nat) (ps : Array (Nat × Operand)) (jj : Nat) (bb : Bool) : vcQ P N ops (⟨d, .buildSlice T n ps, ty, pos, af, some (jj, bb)⟩ :: rest) e w KQ = vGuardL ops jj bb e (fun e => QuietK P N ⟨d, .buildSlice T n ps, ty, pos, af, some (jj, bb)⟩ e w (vcQ P N ops rest) KQ) (fun e => vcQ P N ops rest (e.put d undef) w KQ) := by rw [← vGuardL_eq]; rfl
theorem o_store (T : TypeId) (x y : Operand) : vcOps P N ops (⟨d, .store T x y, ty, pos, af, none⟩ :: rest) e w K = MemK P N ⟨d, .store T x y, ty, pos, af, none⟩ e w (vcOps P N ops rest) K := rfl
theorem og_store (T : TypeId) (x y : Operand) (jj : Nat) (bb : Bool) : vcOps P N ops (⟨d, .store T x y, ty, pos, af, some (jj, bb)⟩ :: rest) e w K = vGuardL ops jj bb e (fun e => MemK P N ⟨d, .store T x y, ty, pos, af, some (jj, bb)⟩ e w (vcOps P N ops rest) K) (fun e => vcOps P N ops rest (e.put d undef) w K) := by rw [← vGuardL_eq]; rfl
theorem q_store (T : TypeId) (x y : Operand) : vcQ P N ops (⟨d, .store T x y, ty, pos, af, none⟩ :: rest) e w KQ = QuietK P N ⟨d, .store T x y, ty, pos, af, none⟩ e w (vcQ P N ops rest) KQ := rfl
theorem qg_store (T : TypeId) (x y : Operand) (jj : Nat) (bb : Bool) : vcQ P N ops (⟨d, .store T x y, ty, pos, af, some (jj, bb)⟩ :: rest) e w KQ = vGuardL ops jj bb e (fun e => QuietK P N ⟨d, .store T x y, ty, pos, af, some (jj, bb)⟩ e w (vcQ P N ops rest) KQ) (fun e => vcQ P N ops rest (e.put d undef) w KQ) := by rw [← vGuardL_eq]; rfl
theorem o_makeSlice (T : TypeId) (x y : Operand) : vcOps P N ops (⟨d, .makeSlice T x y, ty, pos, af, none⟩ :: rest) e w K = MemK P N ⟨d, .makeSlice T x y, ty, pos, af, none⟩ e w (vcOps P N ops rest) K := rfl
theorem og_makeSlice (T : TypeId) (x y : Operand) (jj : Nat) (bb : Bool) : vcOps P N ops (⟨d, .makeSlice T x y, ty, pos, af, some (jj, bb)⟩ :: rest) e w K = vGuardL ops jj bb e (fun e => MemK P N ⟨d, .makeSlice T x y, ty, pos, af, some (jj, bb)⟩ e w (vcOps P N ops rest) K) (fun e => vcOps P N ops rest (e.put d undef) w K) := by rw [← vGuardL_eq]; rfl
theorem q_makeSlice (T : TypeId) (x y : Operand) : vcQ P N ops (⟨d, .makeSlice T x y, ty, pos, af, none⟩ :: rest) e w KQ = QuietK P N ⟨d, .makeSlice T x y, ty, pos, af, none⟩ e w (vcQ P N ops rest) KQ := rfl
theorem qg_makeSlice (T : TypeId) (x y : Operand) (jj : Nat) (bb : Bool) : vcQ P N ops (⟨d, .makeSlice T x y, ty, pos, af, some (jj, bb)⟩ :: rest) e w KQ = vGuardL ops jj bb e (fun e => QuietK P N ⟨d, .makeSlice T x y, ty, pos, af, some (jj, bb)⟩ e w (vcQ P N ops rest) KQ) (fun e => vcQ P N ops rest (e.put d undef) w KQ) := by rw [← vGuardL_eq]; rfl
theorem o_makeMap (T : TypeId) (r : Option Operand) : vcOps P N ops (⟨d, .makeMap T r, ty, pos, af, none⟩ :: rest) e w K = MemK P N ⟨d, .makeMap T r, ty, pos, af, none⟩ e w (vcOps P N ops rest) K := rfl
theorem og_makeMap (T : TypeId) (r : Option Operand) (jj : Nat) (bb : Bool) : vcOps P N ops (⟨d, .makeMap T r, ty, pos, af, some (jj, bb)⟩ :: rest) e w K = vGuardL ops jj bb e (fun e => MemK P N ⟨d, .makeMap T r, ty, pos, af, some (jj, bb)⟩ e w (vcOps P N ops rest) K) (fun e => vcOps P N ops rest (e.put d undef) w K) := by rw [← vGuardL_eq]; rfl
theorem q_makeMap (T : TypeId) (r : Option Operand) : vcQ P N ops (⟨d, .makeMap T r, ty, pos, af, none⟩ :: rest) e w KQ = QuietK P N ⟨d, .makeMap T r, ty, pos, af, none⟩ e w (vcQ P N ops rest) KQ := rfl
theorem qg_makeMap (T : TypeId) (r : Option Operand) (jj : Nat) (bb : Bool) : vcQ P N ops (⟨d, .makeMap T r, ty, pos, af, some (jj, bb)⟩ :: rest) e w KQ = vGuardL ops jj bb e (fun e => QuietK P N ⟨d, .makeMap T r, ty, pos, af, some (jj, bb)⟩ e w (vcQ P N ops rest) KQ) (fun e => vcQ P N ops rest (e.put d undef) w KQ) := by rw [← vGuardL_eq]; rfl
theorem o_lookup (T : TypeId) (x y : Operand) (c : Bool) : vcOps P N ops (⟨d, .lookup T x y c, ty, pos, af, none⟩ :: rest) e w K = MemK P N ⟨d, .lookup T x y c, ty, pos, af, none⟩ e w (vcOps P N ops rest) K := rfl
theorem og_lookup (T : TypeId) (x y : Operand) (c : Bool) (jj : Nat) (bb : Bool) : vcOps P N ops (⟨d, .lookup T x y c, ty, pos, af, some (jj, bb)⟩ :: rest) e w K = vGuardL ops jj bb e (fun e => MemK P N ⟨d, .lookup T x y c, ty, pos, af, some (jj, bb)⟩ e w (vcOps P N ops rest) K) (fun e => vcOps P N ops rest (e.put d undef) w K) := by rw [← vGuardL_eq]; rfl
theorem q_lookup (T : TypeId) (x y : Operand) (c : Bool) : vcQ P N ops (⟨d, .lookup T x y c, ty, pos, af, none⟩ :: rest) e w KQ = QuietK P N ⟨d, .lookup T x y c, ty, pos, af, none⟩ e w (vcQ P N ops rest) KQ := rfl
theorem qg_lookup (T : TypeId) (x y : Operand) (c : Bool) (jj : Nat) (bb : Bool) : vcQ P N ops (⟨d, .lookup T x y c, ty, pos, af, some (jj, bb)⟩ :: rest) e w KQ = vGuardL ops jj bb e (fun e => QuietK P N ⟨d, .lookup T x y c, ty, pos, af, some (jj, bb)⟩ e w (vcQ P N ops rest) KQ) (fun e => vcQ P N ops rest (e.put d undef) w KQ) := by rw [← vGuardL_eq]; rfl
theorem o_mapUpdate (T : TypeId) (x y z : Operand) : vcOps P N ops (⟨d, .mapUpdate T x y z, ty, pos, af, none⟩ :: rest) e w K = MemK P N ⟨d, .mapUpdate T x y z, ty, pos, af, none⟩ e w (vcOps P N ops rest) K := rfl
theorem og_mapUpdate (T : TypeId) (x y z : Operand) (jj : Nat) (bb : Bool) : vcOps P N ops (⟨d, .mapUpdate T x y z, ty, pos, af, some (jj, bb)⟩ :: rest) e w K = vGuardL ops jj bb e (fun e => MemK P N ⟨d, .mapUpdate T x y z, ty, pos, af, some (jj, bb)⟩ e w (vcOps P N ops rest) K) (fun e => vcOps P N ops rest (e.put d undef) w K) := by rw [← vGuardL_eq]; rfl
theorem q_mapUpdate (T : TypeId) (x y z : Operand) : vcQ P N ops (⟨d, .mapUpdate T x y z, ty, pos, af, none⟩ :: rest) e w KQ = QuietK P N ⟨d, .mapUpdate T x y z, ty, pos, af, none⟩ e w (vcQ P N ops rest) KQ := rfl
theorem qg_mapUpdate (T : TypeId) (x y z : Operand) (jj : Nat) (bb : Bool) : vcQ P N ops (⟨d, .mapUpdate T x y z, ty, pos, af, some (jj, bb)⟩ :: rest) e w KQ = vGuardL ops jj bb e (fun e => QuietK P N ⟨d, .mapUpdate T x y z, ty, pos, af, some (jj, bb)⟩ e w (vcQ P N ops rest) KQ) (fun e => vcQ P N ops rest (e.put d undef) w KQ) := by rw [← vGuardL_eq]; rfl
theorem o_range (T : TypeId) (x : Operand) : vcOps P N ops (⟨d, .range T x, ty, pos, af, none⟩ :: rest) e w K = MemK P N ⟨d, .range T x, ty, pos, af, none⟩ e w (vcOps P N ops rest) K := rfl
theorem og_range (T : TypeId) (x : Operand) (jj : Nat) (bb : Bool) : vcOps P N ops (⟨d, .range T x, ty, pos, af, some (jj, bb)⟩ :: rest) e w K = vGuardL ops jj bb e (fun e => MemK P N ⟨d, .range T x, ty, pos, af, some (jj, bb)⟩ e w (vcOps P N ops rest) K) (fun e => vcOps P N ops rest (e.put d undef) w K) := by rw [← vGuardL_eq]; rfl
theorem q_range (T : TypeId) (x : Operand) : vcQ P N ops (⟨d, .range T x, ty, pos, af, none⟩ :: rest) e w KQ = QuietK P N ⟨d, .range T x, ty, pos, af, none⟩ e w (vcQ P N ops rest) KQ := rfl
theorem qg_range (T : TypeId) (x : Operand) (jj : Nat) (bb : Bool) : vcQ P N ops (⟨d, .range T x, ty, pos, af, some (jj, bb)⟩ :: rest) e w KQ = vGuardL ops jj bb e (fun e => QuietK P N ⟨d, .range T x, ty, pos, af, some (jj, bb)⟩ e w (vcQ P N ops rest) KQ) (fun e => vcQ P N ops rest (e.put d undef) w KQ) := by rw [← vGuardL_eq]; rfl
theorem o_next (x : Operand) (s : Bool) : vcOps P N ops (⟨d, .next x s, ty, pos, af, none⟩ :: rest) e w K = MemK P N ⟨d, .next x s, ty, pos, af, none⟩ e w (vcOps P N ops rest) K := rfl
theorem og_next (x : Operand) (s : Bool) (jj : Nat) (bb : Bool) : vcOps P N ops (⟨d, .next x s, ty, pos, af, some (jj, bb)⟩ :: rest) e w K = vGuardL ops jj bb e (fun e => MemK P N ⟨d, .next x s, ty, pos, af, some (jj, bb)⟩ e w (vcOps P N ops rest) K) (fun e => vcOps P N ops rest (e.put d undef) w K) := by rw [← vGuardL_eq]; rfl
theorem q_next (x : Operand) (s : Bool) : vcQ P N ops (⟨d, .next x s, ty, pos, af, none⟩ :: rest) e w KQ = QuietK P N ⟨d, .next x s, ty, pos, af, none⟩ e w (vcQ P N ops rest) KQ := rfl
theorem qg_next (x : Operand) (s : Bool) (jj : Nat) (bb : Bool) : vcQ P N ops (⟨d, .next x s, ty, pos, af, some (jj, bb)⟩ :: rest) e w KQ = vGuardL ops jj bb e (fun e => QuietK P N ⟨d, .next x s, ty, pos, af, some (jj, bb)⟩ e w (vcQ P N ops rest) KQ) (fun e => vcQ P N ops rest (e.put d undef) w KQ) := by rw [← vGuardL_eq]; rfl
theorem o_entry (x : Operand) : vcOps P N ops (⟨d, .entry x, ty, pos, af, none⟩ :: rest) e w K = MemK P N ⟨d, .entry x, ty, pos, af, none⟩ e w (vcOps P N ops rest) K := rfl
theorem og_entry (x : Operand) (jj : Nat) (bb : Bool) : vcOps P N ops (⟨d, .entry x, ty, pos, af, some (jj, bb)⟩ :: rest) e w K = vGuardL ops jj bb e (fun e => MemK P N ⟨d, .entry x, ty, pos, af, some (jj, bb)⟩ e w (vcOps P N ops rest) K) (fun e => vcOps P N ops rest (e.put d undef) w K) := by rw [← vGuardL_eq]; rfl
theorem q_entry (x : Operand) : vcQ P N ops (⟨d, .entry x, ty, pos, af, none⟩ :: rest) e w KQ = QuietK P N ⟨d, .entry x, ty, pos, af, none⟩ e w (vcQ P N ops rest) KQ := rfl
theorem qg_entry (x : Operand) (jj : Nat) (bb : Bool) : vcQ P N ops (⟨d, .entry x, ty, pos, af, some (jj, bb)⟩ :: rest) e w KQ = vGuardL ops jj bb e (fun e => QuietK P N ⟨d, .entry x, ty, pos, af, some (jj, bb)⟩ e w (vcQ P N ops rest) KQ) (fun e => vcQ P N ops rest (e.put d undef) w KQ) := by rw [← vGuardL_eq]; rfl
theorem o_typeAssert (x : Operand) (T T' : TypeId) (c : Bool) : vcOps P N ops (⟨d, .typeAssert x T T' c, ty, pos, af, none⟩ :: rest) e w K = MemK P N ⟨d, .typeAssert x T T' c, ty, pos, af, none⟩ e w (vcOps P N ops rest) K := rfl
theorem og_typeAssert (x : Operand) (T T' : TypeId) (c : Bool) (jj : Nat) (bb : Bool) : vcOps P N ops (⟨d, .typeAssert x T T' c, ty, pos, af, some (jj, bb)⟩ :: rest) e w K = vGuardL ops jj bb e (fun e => MemK P N ⟨d, .typeAssert x T T' c, ty, pos, af, some (jj, bb)⟩ e w (vcOps P N ops rest) K) (fun e => vcOps P N ops rest (e.put d undef) w K) := by rw [← vGuardL_eq]; rfl
theorem q_typeAssert (x : Operand) (T T' : TypeId) (c : Bool) : vcQ P N ops (⟨d, .typeAssert x T T' c, ty, pos, af, none⟩ :: rest) e w KQ = QuietK P N ⟨d, .typeAssert x T T' c, ty, pos, af, none⟩ e w (vcQ P N ops rest) KQ := rfl
theorem qg_typeAssert (x : Operand) (T T' : TypeId) (c : Bool) (jj : Nat) (bb : Bool) : vcQ P N ops (⟨d, .typeAssert x T T' c, ty, pos, af, some (jj, bb)⟩ :: rest) e w KQ = vGuardL ops jj bb e (fun e => QuietK P N ⟨d, .typeAssert x T T' c, ty, pos, af, some (jj, bb)⟩ e w (vcQ P N ops rest) KQ) (fun e => vcQ P N ops rest (e.put d undef) w KQ) := by rw [← vGuardL_eq]; rfl
theorem o_defer (c : Call) : vcOps P N ops (⟨d, .defer c, ty, pos, af, none⟩ :: rest) e w K = MemK P N ⟨d, .defer c, ty, pos, af, none⟩ e w (vcOps P N ops rest) K := rfl
theorem og_defer (c : Call) (jj : Nat) (bb : Bool) : vcOps P N ops (⟨d, .defer c, ty, pos, af, some (jj, bb)⟩ :: rest) e w K = vGuardL ops jj bb e (fun e => MemK P N ⟨d, .defer c, ty, pos, af, some (jj, bb)⟩ e w (vcOps P N ops rest) K) (fun e => vcOps P N ops rest (e.put d undef) w K) := by rw [← vGuardL_eq]; rfl
theorem q_defer (c : Call) : vcQ P N ops (⟨d, .defer c, ty, pos, af, none⟩ :: rest) e w KQ = QuietK P N ⟨d, .defer c, ty, pos, af, none⟩ e w (vcQ P N ops rest) KQ := rfl
theorem qg_defer (c : Call) (jj : Nat) (bb : Bool) : vcQ P N ops (⟨d, .defer c, ty, pos, af, some (jj, bb)⟩ :: rest) e w KQ = vGuardL ops jj bb e (fun e => QuietK P N ⟨d, .defer c, ty, pos, af, some (jj, bb)⟩ e w (vcQ P N ops rest) KQ) (fun e => vcQ P N ops rest (e.put d undef) w KQ) := by rw [← vGuardL_eq]; rfl
theorem o_panic (x : Operand) : vcOps P N ops (⟨d, .panic x, ty, pos, af, none⟩ :: rest) e w K = MemK P N ⟨d, .panic x, ty, pos, af, none⟩ e w (vcOps P N ops rest) K := rfl
theorem og_panic (x : Operand) (jj : Nat) (bb : Bool) : vcOps P N ops (⟨d, .panic x, ty, pos, af, some (jj, bb)⟩ :: rest) e w K = vGuardL ops jj bb e (fun e => MemK P N ⟨d, .panic x, ty, pos, af, some (jj, bb)⟩ e w (vcOps P N ops rest) K) (fun e => vcOps P N ops rest (e.put d undef) w K) := by rw [← vGuardL_eq]; rfl
theorem q_panic (x : Operand) : vcQ P N ops (⟨d, .panic x, ty, pos, af, none⟩ :: rest) e w KQ = QuietK P N ⟨d, .panic x, ty, pos, af, none⟩ e w (vcQ P N ops rest) KQ := rfl
theorem qg_panic (x : Operand) (jj : Nat) (bb : Bool) : vcQ P N ops (⟨d, .panic x, ty, pos, af, some (jj, bb)⟩ :: rest) e w KQ = vGuardL ops jj bb e (fun e => QuietK P N ⟨d, .panic x, ty, pos, af, some (jj, bb)⟩ e w (vcQ P N ops rest) KQ) (fun e => vcQ P N ops rest (e.put d undef) w KQ) := by rw [← vGuardL_eq]; rfl
theorem put_some (v : Value) : Env.put e (some t) v = (t, v) :: e := rfl
theorem put_none (v : Value) : Env.put e none v = e := rfl
theorem a_tmp : arg e (.tmp t) KV = argT e t KV := rfl
theorem a_const (v : Value) : arg e (.const v) KV = KV v := rfl
theorem a_global (g : Nat) : arg e (.global g) KV = KV (.pointer (some ⟨g, 0, none⟩)) := rfl
theorem a_func (f : Nat) : arg e (.func f) KV = KV (.func (.func f) #[] #[]) := rfl
theorem a_hit (v : Value) : argT ((t, v) :: e) t KV = KV v := by simp [argT]
theorem a_cons (s : Nat) (v : Value) : argT ((s, v) :: e) t KV = if t = s then KV v else argT e t KV := rfl
theorem al_nil {KL : List Value → Prop} : argL e [] KL = KL [] := rfl
theorem al_cons {KL : List Value → Prop} (x : Operand) (xs : List Operand) : argL e (x :: xs) KL = arg e x fun v => argL e xs fun vs => KL (v :: vs) := rfl
theorem al_arr {KL : List Value → Prop} (xs : List Operand) : argL e (List.toArray xs).toList KL = argL e xs KL := rfl
theorem vp_arr {KL : List (Nat × Value) → Prop} (xs : List (Nat × Operand)) : vParts e (List.toArray xs).toList KL = vParts e xs KL := rfl
theorem ao_none {KO : Option Value → Prop} : argO e none KO = KO none := rfl
theorem ao_some {KO : Option Value → Prop} (x : Operand) : argO e (some x) KO = arg e x fun v => KO (some v) := rfl
theorem vp_nil {KL : List (Nat × Value) → Prop} : vParts e [] KL = KL [] := rfl
theorem vp_cons {KL : List (Nat × Value) → Prop} (i : Nat) (x : Operand) (xs : List (Nat × Operand)) : vParts e ((i, x) :: xs) KL = arg e x fun v => vParts e xs fun vs => KL ((i, v) :: vs) := rfl
theorem pk_t {A B : Prop} : vPick (.bool true) A B = A := rfl
theorem pk_f {A B : Prop} : vPick (.bool false) A B = B := rfl
theorem lenl (T : TypeId) (ts : List TypeId) (v : Value) : vLenL P (List.toArray (T :: ts))[0]? [v] KV = vLen P T v KV := by simp [vLenL]
theorem b_add (T : TypeId) (x y : Operand) (k : IntKind) (a b : Int) : vBinO P .add T x y (.int k a) (.int k b) w KV = vWrap k (a + b) KV := by simp [vBinO, vBin, vInt]
theorem b_sub (T : TypeId) (x y : Operand) (k : IntKind) (a b : Int) : vBinO P .sub T x y (.int k a) (.int k b) w KV = vWrap k (a - b) KV := by simp [vBinO, vBin, vInt]
theorem b_mul (T : TypeId) (x y : Operand) (k : IntKind) (a b : Int) : vBinO P .mul T x y (.int k a) (.int k b) w KV = vWrap k (a * b) KV := by simp [vBinO, vBin, vInt]
theorem b_quo (T : TypeId) (x y : Operand) (k : IntKind) (a b : Int) : vBinO P .quo T x y (.int k a) (.int k b) w KV = (0 ≤ a ∧ 0 < b ∧ vWrap k (a / b) KV) := by simp [vBinO, vBin, vInt]
theorem b_rem (T : TypeId) (x y : Operand) (k : IntKind) (a b : Int) : vBinO P .rem T x y (.int k a) (.int k b) w KV = (0 ≤ a ∧ 0 < b ∧ KV (.int k (a % b))) := by simp [vBinO, vBin, vInt]
theorem b_and (T : TypeId) (x y : Operand) (k : IntKind) (a b : Int) : vBinO P .and T x y (.int k a) (.int k b) w KV = (Fit0 k a ∧ Fit0 k b ∧ KV (.int k ((a.toNat &&& b.toNat : Nat) : Int))) := by simp [vBinO, vBin, vInt, vBit]
theorem b_or (T : TypeId) (x y : Operand) (k : IntKind) (a b : Int) : vBinO P .or T x y (.int k a) (.int k b) w KV = (Fit0 k a ∧ Fit0 k b ∧ KV (.int k ((a.toNat ||| b.toNat : Nat) : Int))) := by simp [vBinO, vBin, vInt, vBit]
theorem b_xor (T : TypeId) (x y : Operand) (k : IntKind) (a b : Int) : vBinO P .xor T x y (.int k a) (.int k b) w KV = (Fit0 k a ∧ Fit0 k b ∧ KV (.int k ((a.toNat ^^^ b.toNat : Nat) : Int))) := by simp [vBinO, vBin, vInt, vBit]
theorem b_eql (T : TypeId) (x y : Operand) (k : IntKind) (a b : Int) : vBinO P .eql T x y (.int k a) (.int k b) w KV = KV (.bool (decide (a = b))) := by simp [vBinO, vBin, vInt]
theorem b_neq (T : TypeId) (x y : Operand) (k : IntKind) (a b : Int) : vBinO P .neq T x y (.int k a) (.int k b) w KV = KV (.bool (decide (¬ a = b))) := by simp [vBinO, vBin, vInt]
theorem b_lss (T : TypeId) (x y : Operand) (k : IntKind) (a b : Int) : vBinO P .lss T x y (.int k a) (.int k b) w KV = KV (.bool (decide (a < b))) := by simp [vBinO, vBin, vInt]
theorem b_leq (T : TypeId) (x y : Operand) (k : IntKind) (a b : Int) : vBinO P .leq T x y (.int k a) (.int k b) w KV = KV (.bool (decide (a ≤ b))) := by simp [vBinO, vBin, vInt]
theorem b_gtr (T : TypeId) (x y : Operand) (k : IntKind) (a b : Int) : vBinO P .gtr T x y (.int k a) (.int k b) w KV = KV (.bool (decide (b < a))) := by simp [vBinO, vBin, vInt]
theorem b_geq (T : TypeId) (x y : Operand) (k : IntKind) (a b : Int) : vBinO P .geq T x y (.int k a) (.int k b) w KV = KV (.bool (decide (b ≤ a))) := by simp [vBinO, vBin, vInt]
theorem b_shl (T : TypeId) (x y : Operand) (k k' : IntKind) (a b : Int) : vBinO P .shl T x y (.int k a) (.int k' b) w KV = (0 ≤ b ∧ vWrap k (a * 2 ^ shN k b) KV) := by simp [vBinO, vBin]
theorem b_shr (T : TypeId) (x y : Operand) (k k' : IntKind) (a b : Int) : vBinO P .shr T x y (.int k a) (.int k' b) w KV = (0 ≤ b ∧ KV (.int k (a / 2 ^ shN k b))) := by simp [vBinO, vBin]
theorem bs_add (T : TypeId) (x y : Operand) (s u : ByteArray) : vBinO P .add T x y (.string s) (.string u) w KV = (((toL s).length + (toL u).length : Int) ≤ 9223372036854775807 ∧ KV (Str (toL s ++ toL u))) := by simp [vBinO, vBin, vStr]
theorem bs_eql (T : TypeId) (x y : Operand) (s u : ByteArray) : vBinO P .eql T x y (.string s) (.string u) w KV = KV (.bool (decide (toL s = toL u))) := by simp [vBinO, vBin, vStr]
theorem bs_neq (T : TypeId) (x y : Operand) (s u : ByteArray) : vBinO P .neq T x y (.string s) (.string u) w KV = KV (.bool (decide (¬ toL s = toL u))) := by simp [vBinO, vBin, vStr]
theorem bs_lss (T : TypeId) (x y : Operand) (s u : ByteArray) : vBinO P .lss T x y (.string s) (.string u) w KV = KV (.bool (Op.bytesLess (toL s) (toL u))) := by simp [vBinO, vBin, vStr]
theorem bs_leq (T : TypeId) (x y : Operand) (s u : ByteArray) : vBinO P .leq T x y (.string s) (.string u) w KV = KV (.bool (!Op.bytesLess (toL u) (toL s))) := by simp [vBinO, vBin, vStr]
theorem bs_gtr (T : TypeId) (x y : Operand) (s u : ByteArray) : vBinO P .gtr T x y (.string s) (.string u) w KV = KV (.bool (Op.bytesLess (toL u) (toL s))) := by simp [vBinO, vBin, vStr]
theorem bs_geq (T : TypeId) (x y : Operand) (s u : ByteArray) : vBinO P .geq T x y (.string s) (.string u) w KV = KV (.bool (!Op.bytesLess (toL s) (toL u))) := by simp [vBinO, vBin, vStr]
theorem bb_eql (T : TypeId) (x y : Operand) (a b : Bool) (h : P.underlying T = some .bool) : vBinO P .eql T x y (.bool a) (.bool b) w KV = KV (.bool (decide (a = b))) := by simp [vBinO, vBin, h]
theorem bb_neq (T : TypeId) (x y : Operand) (a b : Bool) (h : P.underlying T = some .bool) : vBinO P .neq T x y (.bool a) (.bool b) w KV = KV (.bool (decide (¬ a = b))) := by simp [vBinO, vBin, h]
theorem w_i64 (n : Int) : vWrap .i64 n KV = (I64 n ∧ KV (.int .i64 n)) := rfl
theorem w_u8 (n : Int) : vWrap .u8 n KV = KV (.int .u8 (n % 256)) := rfl
theorem w_u16 (n : Int) : vWrap .u16 n KV = KV (.int .u16 (n % 65536)) := rfl
theorem w_u32 (n : Int) : vWrap .u32 n KV = KV (.int .u32 (n % 4294967296)) := rfl
theorem w_u64 (n : Int) : vWrap .u64 n KV = KV (.int .u64 (n % 18446744073709551616)) := rfl
theorem u_not (b : Bool) : vUn .not (.bool b) KV = KV (.bool (!b)) := rfl
theorem u_neg (k : IntKind) (n : Int) : vUn .neg (.int k n) KV = vWrap k (-n) KV := rfl
theorem u_x32 (n : Int) : vUn .xor (.int .u32 n) KV = ((0 ≤ n ∧ n ≤ 4294967295) ∧ KV (.int .u32 (4294967295 - n))) := rfl
theorem n_ptr (a : Addr) : vNil (.pointer (some a)) KV = KV (.pointer (some a)) := rfl
theorem n_fn (f : Nat) (p c : Array Value) : vNil (.func (.func f) p c) KV = KV (.func (.func f) p c) := rfl
theorem n_if (T : Nat) (v : Value) : vNil (.iface T v) KV = KV (.iface T v) := rfl
theorem mn2 (k k' : IntKind) (x y : Int) : vMin [.int k x, .int k' y] KV = KV (.int k (min x y)) := rfl
theorem mn3 (k k' k'' : IntKind) (x y z : Int) : vMin [.int k x, .int k' y, .int k'' z] KV = KV (.int k (min (min x y) z)) := rfl
theorem mx2 (k k' : IntKind) (x y : Int) : vMax [.int k x, .int k' y] KV = KV (.int k (max x y)) := rfl
theorem mx3 (k k' k'' : IntKind) (x y z : Int) : vMax [.int k x, .int k' y, .int k'' z] KV = KV (.int k (max (max x y) z)) := rfl
theorem ln_str (T : TypeId) (s : ByteArray) (h : P.underlying T = some .string) : vLen P T (.string s) KV = KV (.int .i64 (toL s).length) := by simp [vLen, h]
theorem ln_sl (T E : TypeId) (a : Option Addr) (n c : Nat) (h : P.underlying T = some (.slice E)) : vLen P T (.slice a n c) KV = KV (.int .i64 n) := by simp [vLen, h]
theorem ix_str (T : TypeId) (s : ByteArray) (k : IntKind) (n : Int) (h : P.underlying T = some .string) : vIndex P T (.string s) (.int k n) KV = ((0 ≤ n ∧ n < (toL s).length) ∧ KV (.int .u8 ((toL s).getD n.toNat 0).toNat)) := by simp [vIndex, h]
theorem ss_nn (T : TypeId) (s : ByteArray) (h : P.underlying T = some .string) : vSlice P T (.string s) none none KV = KV (.string s) := by simp [vSlice, h]
theorem ss_ln (T : TypeId) (s : ByteArray) (k : IntKind) (l : Int) (h : P.underlying T = some .string) : vSlice P T (.string s) (some (.int k l)) none KV = ((0 ≤ l ∧ l ≤ (toL s).length) ∧ KV (Str ((toL s).drop l.toNat))) := by simp [vSlice, h]
theorem ss_nh (T : TypeId) (s : ByteArray) (k : IntKind) (l : Int) (h : P.underlying T = some .string) : vSlice P T (.string s) none (some (.int k l)) KV = ((0 ≤ l ∧ l ≤ (toL s).length) ∧ KV (Str ((toL s).take l.toNat))) := by simp [vSlice, h]
theorem ss_lh (T : TypeId) (s : ByteArray) (k k' : IntKind) (l m : Int) (h : P.underlying T = some .string) : vSlice P T (.string s) (some (.int k l)) (some (.int k' m)) KV = ((0 ≤ l ∧ l ≤ m ∧ m ≤ (toL s).length) ∧ KV (Str (((toL s).drop l.toNat).take (m.toNat - l.toNat)))) := by simp [vSlice, h]
theorem sl_nn (T E : TypeId) (a : Option Addr) (n c z : Nat) (h : P.underlying T = some (.slice E)) (hz : P.szo E = some z) : vSlice P T (.slice a n c) none none KV = (n ≤ c ∧ KV (.slice a n c)) := by simp [vSlice, h, hz]
theorem sl_ln (T E : TypeId) (a : Option Addr) (n c z : Nat) (k : IntKind) (l : Int) (h : P.underlying T = some (.slice E)) (hz : P.szo E = some z) : vSlice P T (.slice a n c) (some (.int k l)) none KV = ((0 ≤ l ∧ l ≤ n ∧ n ≤ c) ∧ KV (.slice (if c = l.toNat then a else a.map (·.add (l.toNat * z))) (n - l.toNat) (c - l.toNat))) := by simp [vSlice, h, hz]
theorem sl_nh (T E : TypeId) (a : Option Addr) (n c z : Nat) (k : IntKind) (l : Int) (h : P.underlying T = some (.slice E)) (hz : P.szo E = some z) : vSlice P T (.slice a n c) none (some (.int k l)) KV = ((0 ≤ l ∧ l ≤ c) ∧ KV (.slice a l.toNat c)) := by simp [vSlice, h, hz]
theorem sl_lh (T E : TypeId) (a : Option Addr) (n c z : Nat) (k k' : IntKind) (l m : Int) (h : P.underlying T = some (.slice E)) (hz : P.szo E = some z) : vSlice P T (.slice a n c) (some (.int k l)) (some (.int k' m)) KV = ((0 ≤ l ∧ l ≤ m ∧ m ≤ c) ∧ KV (.slice (if c = l.toNat then a else a.map (·.add (l.toNat * z))) (m.toNat - l.toNat) (c - l.toNat))) := by simp [vSlice, h, hz]
theorem cv_int (s d : TypeId) (ds : TypeDesc) (k k' : IntKind) (n : Int) (h : P.underlying s = some ds) (h' : P.underlying d = some (.int k)) : vConv P s d (.int k' n) w KV = vWrap k n KV := by simp [vConv, h, h']
theorem cv_str (s d E : TypeId) (a : Option Addr) (n c : Nat) (h : P.underlying s = some (.slice E)) (h' : P.underlying d = some .string) (h'' : P.underlying E = some (.int .u8)) : vConv P s d (.slice a n c) w KV = ∃ l, ReadsBytes w a n l ∧ KV (Str l) := by simp [vConv, h, h', h'']
theorem ia_sl (T E : TypeId) (a : Addr) (n c z : Nat) (k : IntKind) (i : Int) (h : P.underlying T = some (.slice E)) (hz : P.szo E = some z) : vIndexAddr P T (.slice (some a) n c) (.int k i) KV = ((0 ≤ i ∧ i < n) ∧ KV (.pointer (some (a.add (i.toNat * z))))) := by simp [vIndexAddr, h, hz]
theorem ia_ar (T E : TypeId) (a : Addr) (n z : Nat) (k : IntKind) (i : Int) (h : P.underlying T = some (.array n E)) (hz : P.szo E = some z) : vIndexAddr P T (.pointer (some a)) (.int k i) KV = ((0 ≤ i ∧ i < n) ∧ KV (.pointer (some (a.add (i.toNat * z))))) := by simp [vIndexAddr, h, hz]
theorem fa_st (S f : Nat) (a : Addr) {fields : Array Field} {fd : Field} {m : Nat} (h : P.underlying S = some (.struct fields)) (hf : fields[f]? = some fd) (hz : P.szo fd.type = some (m + 1)) : vFieldAddr P S (.pointer (some a)) f KV = KV (.pointer (some (a.add fd.offset))) := by simp [vFieldAddr, h, hf, hz]
theorem ld_int (T : TypeId) (a : Addr) (k : IntKind) (h : P.underlying T = some (.int k)) : vLoad P T (.pointer (some a)) w KV = ∃ v, w.cell? a = some v ∧ KV v := by simp [vLoad, h]
theorem ld_bool (T : TypeId) (a : Addr) (h : P.underlying T = some .bool) : vLoad P T (.pointer (some a)) w KV = ∃ v, w.cell? a = some v ∧ KV v := by simp [vLoad, h]
theorem ld_str (T : TypeId) (a : Addr) (h : P.underlying T = some .string) : vLoad P T (.pointer (some a)) w KV = ∃ v, w.cell? a = some v ∧ KV v := by simp [vLoad, h]
theorem ld_sl (T E : TypeId) (a : Addr) (h : P.underlying T = some (.slice E)) : vLoad P T (.pointer (some a)) w KV = ∃ v, w.cell? a = some v ∧ KV v := by simp [vLoad, h]
theorem ld_ptr (T E : TypeId) (a : Addr) (h : P.underlying T = some (.pointer E)) : vLoad P T (.pointer (some a)) w KV = ∃ v, w.cell? a = some v ∧ KV v := by simp [vLoad, h]
theorem ld_fn (T : TypeId) (ps rs : Array TypeId) (vr : Bool) (a : Addr) (h : P.underlying T = some (.func ps rs vr)) : vLoad P T (.pointer (some a)) w KV = ∃ v, w.cell? a = some v ∧ KV v := by simp [vLoad, h]
theorem ld_st (T n : TypeId) (a : Addr) (fs : Array Field) (h : P.underlying T = some (.struct fs)) (hz : P.szo T = some n) : vLoad P T (.pointer (some a)) w KV = ∃ cs : List Value, (cs.length = n ∧ Reads w a cs) ∧ KV (.agg cs.toArray) := by simp [vLoad, h, hz]
theorem ld_ar (T n m E : TypeId) (a : Addr) (h : P.underlying T = some (.array m E)) (hz : P.szo T = some n) : vLoad P T (.pointer (some a)) w KV = ∃ cs : List Value, (cs.length = n ∧ Reads w a cs) ∧ KV (.agg cs.toArray) := by simp [vLoad, h, hz]
end
theorem toL_mk (l : List UInt8) : toL (ByteArray.mk l.toArray) = l := by simp [toL]
attribute [go_sem ↓] sk_put sk_putn at_put at_putn st_put st_putn o_nilS q_nilS gl_zero gl_succ gv_t gv_f sk_nil sk_cons st_nil st_hit st_cons gv_undef gv_undef' gB_tt gB_ff gB_tf gB_ft gB_dt gB_df o_move og_move q_move qg_move o_assign og_assign q_assign qg_assign o_pick og_pick q_pick qg_pick o_binOp og_binOp q_binOp qg_binOp o_unOp og_unOp q_unOp qg_unOp o_convert o_convertM og_convert q_convert q_convertM qg_convert o_slice og_slice q_slice qg_slice o_fieldAddr og_fieldAddr q_fieldAddr qg_fieldAddr o_field og_field q_field qg_field o_indexAddr og_indexAddr q_indexAddr qg_indexAddr o_index og_index q_index qg_index o_extract og_extract q_extract qg_extract o_makeInterface og_makeInterface q_makeInterface qg_makeInterface o_makeFunc og_makeFunc q_makeFunc qg_makeFunc o_build og_build q_build qg_build o_load og_load q_load qg_load o_nilCheck og_nilCheck q_nilCheck qg_nilCheck o_len og_len q_len qg_len o_min og_min q_min qg_min o_max og_max q_max qg_max o_append og_append q_append qg_append o_copy og_copy q_copy qg_copy o_recover og_recover q_recover qg_recover o_delete og_delete q_delete qg_delete o_cap og_cap q_cap qg_cap o_callv og_callv q_callv qg_callv o_invoke og_invoke q_invoke qg_invoke o_alloc og_alloc q_alloc qg_alloc o_box og_box q_box qg_box o_buildSlice og_buildSlice q_buildSlice qg_buildSlice o_store og_store q_store qg_store o_makeSlice og_makeSlice q_makeSlice qg_makeSlice o_makeMap og_makeMap q_makeMap qg_makeMap o_lookup og_lookup q_lookup qg_lookup o_mapUpdate og_mapUpdate q_mapUpdate qg_mapUpdate o_range og_range q_range qg_range o_next og_next q_next qg_next o_entry og_entry q_entry qg_entry o_typeAssert og_typeAssert q_typeAssert qg_typeAssert o_defer og_defer q_defer qg_defer o_panic og_panic q_panic qg_panic put_some put_none a_tmp a_const a_global a_func a_hit a_cons al_nil al_cons al_arr vp_arr ao_none ao_some vp_nil vp_cons pk_t pk_f lenl b_add b_sub b_mul b_quo b_rem b_and b_or b_xor b_eql b_neq b_lss b_leq b_gtr b_geq b_shl b_shr bs_add bs_eql bs_neq bs_lss bs_leq bs_gtr bs_geq w_i64 w_u8 w_u16 w_u32 w_u64 u_not u_neg u_x32 n_ptr n_fn n_if mn2 mn3 mx2 mx3
attribute [go_sem] toL_mk Nat.mul_one Nat.zero_add List.getElem_toArray List.getElem_cons_zero List.getElem_cons_succ
end Go.Eng
set_option linter.unusedSimpArgs false
set_option linter.unusedVariables false
namespace Go.Eng
open Go
structure Upd (B : List Nat) (w w' : World) : Prop where
  os : w'.os = w.os
  tape : w'.tape = w.tape
  output : w'.output = w.output
  size : w.heap.size ≤ w'.heap.size
  block : ∀ k, k < w.heap.size → k ∉ B → w'.heap[k]? = w.heap[k]?
theorem Upd.refl (B : List Nat) (w : World) : Upd B w w := ⟨rfl, rfl, rfl, Nat.le_refl _, fun _ _ _ => rfl⟩
theorem Upd.trans {B B' : List Nat} {a b c : World} (h : Upd B a b) (k : Upd B' b c) (hB : ∀ x ∈ B', x ∈ B ∨ a.heap.size ≤ x) : Upd B a c :=
  ⟨k.os.trans h.os, k.tape.trans h.tape, k.output.trans h.output, Nat.le_trans h.size k.size, fun i hi hn =>
    (k.block i (Nat.lt_of_lt_of_le hi h.size) (fun hx => by rcases hB i hx with h1 | h1; exact hn h1; omega)).trans (h.block i hi hn)⟩
theorem Upd.below {w w' : World} (h : Upd [] w w') : RowKit.Below w.heap.size w w' := ⟨h.os, h.tape, h.output, h.size, fun k hk => h.block k hk (by simp)⟩
theorem Upd.drewN {B : List Nat} {w w' : World} (h : Upd B w w') (n m : Nat) : Upd B (w.drewN n) (w'.drewN m) := ⟨h.os, h.tape, h.output, h.size, h.block⟩
theorem Upd.mono {B B' : List Nat} {w w' : World} (h : Upd B w w') (hs : ∀ x ∈ B, x ∈ B') : Upd B' w w' := ⟨h.os, h.tape, h.output, h.size, fun k hk hn => h.block k hk fun hx => hn (hs k hx)⟩
structure Res where
  foot : List Nat
  holds : World → Prop
  loc : ∀ w w', (∀ b ∈ foot, w'.heap[b]? = w.heap[b]?) → holds w → holds w'
def Apart (r s : Res) : Prop := ∀ b ∈ r.foot, b ∉ s.foot
structure Heap (w0 : World) (B : List Nat) (w : World) (G : List Res) : Prop where
  upd : Upd B w0 w
  holds : ∀ r ∈ G, r.holds w
  foot : ∀ r ∈ G, ∀ b ∈ r.foot, (b ∈ B ∨ w0.heap.size ≤ b) ∧ b < w.heap.size
  apart : G.Pairwise Apart
theorem Apart.symm {r s : Res} (h : Apart r s) : Apart s r := fun b hb hr => h b hr hb
theorem Heap.start (w : World) : Heap w [] w [] := ⟨.refl _ _, by simp, by simp, .nil⟩
theorem Heap.one {w : World} {r : Res} (h : r.holds w) (hf : ∀ b ∈ r.foot, b < w.heap.size) : Heap w r.foot w [r] :=
  ⟨.refl _ _, by simpa using h, by simpa using fun b hb => ⟨.inl hb, hf b hb⟩, by simp⟩
theorem Heap.drewN {w0 w : World} {B : List Nat} {G : List Res} (h : Heap w0 B w G) (n m : Nat) : Heap (w0.drewN n) B (w.drewN m) G :=
  ⟨h.upd.drewN n m, fun r hr => r.loc w _ (fun _ _ => rfl) (h.holds r hr), h.foot, h.apart⟩
theorem Heap.step {w0 w w' : World} {B S : List Nat} {G G' : List Res} (h : Heap w0 B w G) (hs : Heap w S w' G') (hS : ∀ b ∈ S, (b ∈ B ∨ w0.heap.size ≤ b) ∧ ∀ r ∈ G, b ∉ r.foot) : Heap w0 B w' (G' ++ G) := by
  refine ⟨h.upd.trans hs.upd fun x hx => (hS x hx).1, ?_, ?_, ?_⟩
  · intro r hr
    rcases List.mem_append.1 hr with hr | hr
    · exact hs.holds r hr
    · refine r.loc w w' (fun b hb => hs.upd.block b (h.foot r hr b hb).2 fun hx => (hS b hx).2 r hr hb) (h.holds r hr)
  · intro r hr b hb
    rcases List.mem_append.1 hr with hr | hr
    · obtain ⟨h1, h2⟩ := hs.foot r hr b hb
      refine ⟨?_, h2⟩
      rcases h1 with h1 | h1
      · exact (hS b h1).1
      · exact .inr (Nat.le_trans h.upd.size h1)
    · exact ⟨(h.foot r hr b hb).1, Nat.lt_of_lt_of_le (h.foot r hr b hb).2 hs.upd.size⟩
  · rw [List.pairwise_append]
    refine ⟨hs.apart, h.apart, fun r hr s hs' b hb hbs => ?_⟩
    rcases (hs.foot r hr b hb).1 with h1 | h1
    · exact (hS b h1).2 s hs' hbs
    · have := (h.foot s hs' b hbs).2; omega
theorem Heap.call0 {w0 w w' : World} {B : List Nat} {G G' : List Res} (h : Heap w0 B w G) (hs : Heap w [] w' G') : Heap w0 B w' (G' ++ G) := h.step hs (by simp)
theorem Heap.sub {w0 w : World} {B : List Nat} {G G' : List Res} (h : Heap w0 B w G) (hs : G'.Sublist G) : Heap w0 B w G' :=
  ⟨h.upd, fun r hr => h.holds r (hs.subset hr), fun r hr => h.foot r (hs.subset hr), h.apart.sublist hs⟩
theorem Heap.perm {w0 w : World} {B : List Nat} {G G' : List Res} (h : Heap w0 B w G) (hs : G.Perm G') : Heap w0 B w G' :=
  ⟨h.upd, fun r hr => h.holds r (hs.mem_iff.2 hr), fun r hr => h.foot r (hs.mem_iff.2 hr), (hs.pairwise_iff fun h => h.symm).1 h.apart⟩
theorem Heap.step1 {w0 w w' : World} {B : List Nat} {G1 G2 G' : List Res} {r r' : Res} (h : Heap w0 B w (G1 ++ r :: G2)) (hs : Heap w r.foot w' (r' :: G')) : Heap w0 B w' (G' ++ (G1 ++ r' :: G2)) := by
  have hp : (G1 ++ r :: G2).Perm (r :: (G1 ++ G2)) := List.perm_middle
  have h1 := h.perm hp
  have ha := h1.apart
  rw [List.pairwise_cons] at ha
  have h2 : Heap w0 B w (G1 ++ G2) := h1.sub (List.sublist_cons_self _ _)
  have h3 := h2.step hs fun b hb => ⟨(h1.foot r (by simp) b hb).1, fun s hs hbs => ha.1 s hs b hb hbs⟩
  refine h3.perm ?_
  simp only [List.cons_append]
  refine List.Perm.trans ?_ (List.perm_append_left_iff G' |>.2 (List.perm_middle (l₁ := G1) (l₂ := G2) (a := r')).symm)
  exact (List.perm_middle (l₁ := G') (l₂ := G1 ++ G2) (a := r')).symm
theorem set_split {α : Type} (G : List α) (i : Nat) (r r' : α) (h : G[i]? = some r) : ∃ G1 G2, G = G1 ++ r :: G2 ∧ G.set i r' = G1 ++ r' :: G2 := by
  induction G generalizing i with
  | nil => simp at h
  | cons a l ih =>
    cases i with
    | zero => simp at h; subst h; exact ⟨[], l, rfl, rfl⟩
    | succ i =>
      obtain ⟨G1, G2, e1, e2⟩ := ih i (by simpa using h)
      exact ⟨a :: G1, G2, by simp [e1], by simp [e2]⟩
theorem Heap.call1 {w0 w w' : World} {B : List Nat} {G G' : List Res} {r r' : Res} (i : Nat) (h : Heap w0 B w G) (hi : G[i]? = some r) (hs : Heap w r.foot w' (r' :: G')) : Heap w0 B w' (G' ++ G.set i r') := by
  obtain ⟨G1, G2, e1, e2⟩ := set_split G i r r' hi
  rw [e2]
  rw [e1] at h
  exact h.step1 hs
theorem Heap.at {w0 w : World} {B : List Nat} {G : List Res} {r : Res} (h : Heap w0 B w G) (i : Nat) (hi : G[i]? = some r) : r.holds w := h.holds r (List.mem_of_getElem? hi)
theorem Heap.set {w0 w w' : World} {B : List Nat} {G : List Res} {r r' : Res} (i : Nat) (h : Heap w0 B w G) (hi : G[i]? = some r) (hu : Upd r.foot w w') (hr : r'.holds w') (hf : ∀ b ∈ r'.foot, (b ∈ r.foot ∨ w.heap.size ≤ b) ∧ b < w'.heap.size) :
    Heap w0 B w' (G.set i r') :=
  h.call1 (G' := []) i hi ⟨hu, by simpa using hr, by simpa using hf, by simp⟩
theorem Heap.view {w0 w : World} {B : List Nat} {G : List Res} {r r' : Res} (i : Nat) (h : Heap w0 B w G) (hi : G[i]? = some r) (hr : r.holds w → r'.holds w) (hf : ∀ b ∈ r'.foot, b ∈ r.foot) : Heap w0 B w (G.set i r') :=
  h.set i hi (.refl _ _) (hr (h.at i hi)) fun b hb => ⟨.inl (hf b hb), (h.foot r (List.mem_of_getElem? hi) b (hf b hb)).2⟩
theorem Heap.new {w0 w : World} {B : List Nat} {G : List Res} {r : Res} (o : Obj) (h : Heap w0 B w G) (hr : r.holds (w.alloc o)) (hf : ∀ b ∈ r.foot, b = w.heap.size) : Heap w0 B (w.alloc o) (r :: G) := by
  refine h.call0 (G' := [r]) ⟨⟨rfl, rfl, rfl, by simp, fun k hk _ => RowKit.Below.heap_alloc w o k hk⟩, by simpa using hr, ?_, by simp⟩
  intro s hs b hb
  simp at hs; subst hs
  rw [hf b hb]
  simp
theorem Heap.reads {w0 w : World} {B : List Nat} {G : List Res} (h : Heap w0 B w G) {a : Addr} {xs : List Value} (hr : Reads w0 a xs) (hb : a.block ∉ B) : Reads w a xs := by
  intro j u hu
  have h1 := hr j u hu
  have e : (a.add j).block = a.block := by unfold Addr.add; split <;> rfl
  have hlt : a.block < w0.heap.size := by
    have := World.block_lt_of_cell? w0 _ h1
    rwa [e] at this
  rw [World.cell?_of_block (w := w0)]
  · exact h1
  · rw [e]; exact h.upd.block _ hlt hb
def RS (w : World) (a : Option Addr) (n sz : Nat) (xs : List Value) : Prop := xs.length = n * sz ∧ (a = none → n = 0) ∧ ∀ ad, a = some ad → Reads w ad xs
theorem Heap.rs {w0 w : World} {B : List Nat} {G : List Res} (h : Heap w0 B w G) {a : Option Addr} {n sz : Nat} {xs : List Value} (hr : RS w0 a n sz xs) (hb : ∀ ad, a = some ad → ad.block ∉ B) : RS w a n sz xs :=
  ⟨hr.1, hr.2.1, fun ad ha => h.reads (hr.2.2 ad ha) (hb ad ha)⟩
theorem Heap.rs' {w0 w : World} {G : List Res} (h : Heap w0 [] w G) {a : Option Addr} {n sz : Nat} {xs : List Value} (hr : RS w0 a n sz xs) : RS w a n sz xs := h.rs hr (by simp)
def intsV (l : List Int) : List Value := l.map fun n => .int .i64 n
theorem bytesV_len (l : List UInt8) : (bytesV l).length = l.length := by simp [bytesV]
theorem intsV_len (l : List Int) : (intsV l).length = l.length := by simp [intsV]
theorem ReadsBytes_of {w : World} {a : Option Addr} {n : Nat} {l : List UInt8} (h : RS w a n 1 (bytesV l)) : ReadsBytes w a n l :=
  ⟨by have := h.1; simp [bytesV] at this; exact this, h.2.1, h.2.2⟩
def Unfz (fz : Nat × Nat) (n : Nat) : Prop := ∀ j, j < n → ¬ (fz.1 ≤ j ∧ j < fz.2)
def rowHolds (T sz : Nat) (a : Option Addr) (n cap : Nat) (xs : List Value) (w : World) : Prop :=
  xs.length = n * sz ∧ n ≤ cap ∧ cap ≤ maxLen ∧
  ((a = none ∧ n = 0 ∧ cap = 0) ∨ ∃ g rest fz, a = some ⟨g, 0, none⟩ ∧ w.heap[g]? = some (.cells (xs ++ rest).toArray T fz) ∧ (xs ++ rest).length = cap * sz ∧ Unfz fz (cap * sz))
def Res.row (T sz : Nat) (a : Option Addr) (n cap : Nat) (xs : List Value) : Res where
  foot := (a.map (·.block)).toList
  holds := rowHolds T sz a n cap xs
  loc := by
    rintro w w' hb ⟨h1, h2, h3, h4⟩
    refine ⟨h1, h2, h3, ?_⟩
    rcases h4 with h4 | ⟨g, rest, fz, rfl, hg, h5⟩
    · exact .inl h4
    · exact .inr ⟨g, rest, fz, rfl, by rw [hb g (by simp)]; exact hg, h5⟩
theorem row_nil (T sz : Nat) (w : World) : (Res.row T sz none 0 0 []).holds w := ⟨by simp, Nat.le_refl _, by simp [maxLen], .inl ⟨rfl, rfl, rfl⟩⟩
theorem row_rs {T sz n cap : Nat} {a : Option Addr} {xs : List Value} {w : World} (h : (Res.row T sz a n cap xs).holds w) : RS w a n sz xs := by
  obtain ⟨h1, h2, h3, h4⟩ := h
  refine ⟨h1, ?_, ?_⟩
  · rintro rfl
    rcases h4 with h4 | ⟨g, rest, fz, h, _⟩
    · exact h4.2.1
    · cases h
  · rintro ad rfl
    rcases h4 with h4 | ⟨g, rest, fz, h, hg, _⟩
    · cases h4.1
    · cases h
      intro j u hu
      have hadd : (⟨g, 0, none⟩ : Addr).add j = ⟨g, j, none⟩ := by unfold Addr.add; split <;> simp_all
      rw [hadd, cell_of_row w g j _ T fz hg]
      have hlt : j < xs.length := (List.getElem?_eq_some_iff.1 hu).1
      simp [List.getElem?_append_left hlt, hu]
theorem row_cap {T sz n cap : Nat} {a : Option Addr} {xs : List Value} {w : World} (h : (Res.row T sz a n cap xs).holds w) : n ≤ cap ∧ cap ≤ maxLen ∧ (a = none → n = 0 ∧ cap = 0) := by
  obtain ⟨h1, h2, h3, h4⟩ := h
  refine ⟨h2, h3, ?_⟩
  rintro rfl
  rcases h4 with h4 | ⟨g, rest, fz, h, _⟩
  · exact h4.2
  · cases h
end Go.Eng
namespace Go
def Program.zeroOf (P : Program) (T : TypeId) : Option Value := ((P.info? T).bind (·.zero))
end Go
namespace Go.Eng
open Go
section
variable {P : Program} {N : Nat} {d : Option Tmp} {ty : Nat} {pos : String} {af : Array Edge} {gd : Option (Nat × Bool)} {e : Env} {w : World} {R : Env → World → (Env → World → Prop) → Prop} {RQ : Env → World → (Env → Prop) → Prop} {K : Env → World → Prop} {KQ : Env → Prop}
theorem Mem_of_run {o : Oper} {C : Value → World → Prop} (h : ∀ a n, Fits N e a → ∃ v w' m, (execOp a.eval o).run P (w.drewN n) = .ok (.value v) (w'.drewN m) ∧ C v w') : Mem P N o e w C := by
  intro a n next Q ha hK
  obtain ⟨v, w', m, hr, hC⟩ := h a n ha
  unfold Oper.wp
  rw [hr]
  exact hK v w' m hC
theorem Mem_of_skip {o : Oper} {C : Value → World → Prop} (h : ∀ a n, Fits N e a → ∃ w' m, (execOp a.eval o).run P (w.drewN n) = .ok .skip (w'.drewN m) ∧ C undef w') : Mem P N o e w C := by
  intro a n next Q ha hK
  obtain ⟨w', m, hr, hC⟩ := h a n ha
  unfold Oper.wp
  rw [hr]
  exact hK _ w' m hC
def CallK (P : Program) (f : FuncId) (args : List Value) (w : World) (C : Value → World → Prop) : Prop := ∃ F, Does P f args.toArray w F ∧ ∀ v w', F v w' → C v w'
theorem CallK.mk {f : FuncId} {args : List Value} {C F : Value → World → Prop} (h : Does P f args.toArray w F) (hc : ∀ v w', F v w' → C v w') : CallK P f args w C := ⟨F, h, hc⟩
theorem MemK_call {f : FuncId} {as_ : Array Operand} {ts : Array TypeId} (hf : ∀ args w, (callFunc f args).run P w = .ok (.enter f args) w)
    (h : argL e as_.toList fun vs => CallK P f vs w fun v w' => R (e.put d v) w' K) :
    MemK P N ⟨d, .call { callee := .value (.func f), args := as_, argTypes := ts }, ty, pos, af, gd⟩ e w R K := by
  intro a n next Q ha hK
  have h1 := argL_sound (K := fun vs => CallK P f vs w fun v w' => R (e.put d v) w' K) ha h
  obtain ⟨F, hD, hC⟩ := h1
  have hm : (as_.map a.eval) = (as_.toList.map a.eval).toArray := map_eval as_ a
  have hrun : (execOp a.eval ⟨d, .call { callee := .value (.func f), args := as_, argTypes := ts }, ty, pos, af, gd⟩).run P (w.drewN n) = .ok (.enter f (as_.toList.map a.eval).toArray) (w.drewN n) := by
    simp only [execOp, resolve, Act.eval, Deferred.ofValue, Sem.run_bind, Sem.run_pure, Result.andThen_ok, invoke]
    simp [hm, hf]
  unfold Oper.wp
  rw [hrun]
  exact (hD n).mono fun e' w' ⟨v, w'', m, he, hw, hF⟩ => by subst he; subst hw; exact hK v w'' m (hC v w'' hF)
def QCallK (P : Program) (f : FuncId) (args : List Value) (w : World) (C : Value → Prop) : Prop := ∃ v, Does P f args.toArray w (fun v' w' => w' = w ∧ v' = v) ∧ C v
theorem QCallK.mk {f : FuncId} {args : List Value} {C : Value → Prop} {v : Value} (h : Does P f args.toArray w (fun v' w' => w' = w ∧ v' = v)) (hc : C v) : QCallK P f args w C := ⟨v, h, hc⟩
theorem QuietK_call {f : FuncId} {as_ : Array Operand} {ts : Array TypeId} (hf : ∀ args w, (callFunc f args).run P w = .ok (.enter f args) w)
    (h : argL e as_.toList fun vs => QCallK P f vs w fun v => RQ (e.put d v) w KQ) :
    QuietK P N ⟨d, .call { callee := .value (.func f), args := as_, argTypes := ts }, ty, pos, af, gd⟩ e w RQ KQ := by
  obtain ⟨vs, hvs, v, hD, hC⟩ : ∃ vs, (∀ a, Fits N e a → as_.toList.map a.eval = vs) ∧ QCallK P f vs w fun v => RQ (e.put d v) w KQ := by
    have key : ∀ (xs : List Operand) (K : List Value → Prop), argL e xs K → ∃ vs, (∀ a, Fits N e a → xs.map a.eval = vs) ∧ K vs := by
      intro xs
      induction xs with
      | nil => intro K h; exact ⟨[], fun _ _ => rfl, h⟩
      | cons x xs ih =>
        intro K h
        have : ∃ v, (∀ a, Fits N e a → a.eval x = v) ∧ argL e xs fun vs => K (v :: vs) := by
          simp only [argL] at h
          cases x with
          | tmp t => obtain ⟨v, hv, hK⟩ := argT_find h; exact ⟨v, fun a ha => ha.at_ t v hv, hK⟩
          | const v => exact ⟨v, fun _ _ => rfl, h⟩
          | global g => exact ⟨_, fun _ _ => rfl, h⟩
          | func f => exact ⟨_, fun _ _ => rfl, h⟩
        obtain ⟨v, hv, h⟩ := this
        obtain ⟨vs, hvs, hK⟩ := ih _ h
        exact ⟨v :: vs, fun a ha => by simp [hv a ha, hvs a ha], hK⟩
    exact key _ _ h
  refine ⟨v, fun a n ha => ?_, hC⟩
  have hm : (as_.map a.eval) = vs.toArray := by rw [map_eval as_ a, hvs a ha]
  have hrun : (execOp a.eval ⟨d, .call { callee := .value (.func f), args := as_, argTypes := ts }, ty, pos, af, gd⟩).run P (w.drewN n) = .ok (.enter f vs.toArray) (w.drewN n) := by
    simp only [execOp, resolve, Act.eval, Deferred.ofValue, Sem.run_bind, Sem.run_pure, Result.andThen_ok, invoke]
    simp [hm, hf]
  unfold Oper.quietAt
  rw [hrun]
  exact ⟨rfl, (hD n).mono fun e' w' ⟨v', w'', m, he, hw, hF⟩ => by obtain ⟨rfl, rfl⟩ := hF; exact ⟨he, m, hw⟩⟩
theorem run_newRow (T : TypeId) (cs : Array Value) (w : World) : (newRow T cs).run P w = .ok ⟨w.heap.size, 0, none⟩ (w.alloc (.cells cs T)) := rfl
theorem run_newVar (T : TypeId) (v : Value) (w : World) : (newVar T v).run P w = .ok ⟨w.heap.size, 0, none⟩ (w.alloc (.cells v.cells T)) := rfl
theorem run_askRoom (n : Nat) (w : World) : (askRoom n).run P w = .ok () w := by unfold askRoom; split <;> rfl
def AllocK (w : World) (o : Obj) (v : Value) (C : Value → World → Prop) : Prop := C v (w.alloc o)
theorem drewN_alloc (w : World) (n : Nat) (o : Obj) : (w.drewN n).alloc o = (w.alloc o).drewN n := rfl
theorem MemK_box {T : TypeId} {x : Operand} (h : arg e x fun v => R (e.put d (.pointer (some ⟨w.heap.size, 0, none⟩))) (w.alloc (.cells v.cells T)) K) :
    MemK P N ⟨d, .box T x, ty, pos, af, gd⟩ e w R K :=
  Mem_of_run fun a n ha => by
    have h1 := arg_sound (K := fun v => R (e.put d (.pointer (some ⟨w.heap.size, 0, none⟩))) (w.alloc (.cells v.cells T)) K) ha h
    exact ⟨_, w.alloc (.cells (a.eval x).cells T), n, by simp only [execOp, Instr.box, Sem.run_bind, run_newVar, Result.andThen_ok, Sem.run_pure]; rfl, h1⟩
theorem run_zeroOf {T : TypeId} {z : Value} (h : P.zeroOf T = some z) (w : World) : (zeroValue T).run P w = .ok z w := by
  unfold Program.zeroOf at h
  cases hi : P.info? T with
  | none => simp [hi] at h
  | some i =>
    simp [hi] at h
    simp [zeroValue, typeInfo, hi, h]
theorem MemK_alloc {T : TypeId} (z : Value) (hz : P.zeroOf T = some z) (h : R (e.put d (.pointer (some ⟨w.heap.size, 0, none⟩))) (w.alloc (.cells z.cells T)) K) :
    MemK P N ⟨d, .alloc T, ty, pos, af, gd⟩ e w R K :=
  Mem_of_run fun a n _ => ⟨_, w.alloc (.cells z.cells T), n, by simp only [execOp, Instr.alloc, run_zeroOf hz, Sem.run_bind, run_newVar, Result.andThen_ok, Sem.run_pure]; rfl, h⟩
theorem run_makeSlice' {T E : TypeId} {i : TypeInfo} {z zv : Value} (hu : P.underlying T = some (.slice E)) (hi : P.info? E = some i) (hz : i.zero = some z) (hzv : z.cells = #[zv]) (h1 : i.size = 1)
    {l c : Nat} (hlc : l ≤ c) (hb : i.bytes * c ≤ 2 ^ 48) (hc : c ≤ maxLen) (w : World) :
    (Instr.makeSlice T (.int .i64 l) (.int .i64 c)).run P w = .ok (.slice (some ⟨w.heap.size, 0, none⟩) l c) (w.alloc (.cells (List.replicate c zv).toArray E)) := by
  have hcm : (c : Int) ≤ 9223372036854775807 := by simp only [maxLen] at hc; omega
  have e1 : IntKind.i64.wrap (l : Int) = l := wrap_i64_of ⟨by omega, by omega⟩
  have e2 : IntKind.i64.wrap (c : Int) = c := wrap_i64_of ⟨by omega, by omega⟩
  have hb1 : ((i.bytes * c : Nat) : Int) ≤ 281474976710656 := by
    have h : i.bytes * c ≤ 281474976710656 := hb
    omega
  have hb' : ¬ ((i.bytes : Int) * (c : Int) > 281474976710656) := by
    have e3 : ((i.bytes * c : Nat) : Int) = (i.bytes : Int) * (c : Int) := Int.natCast_mul _ _
    omega
  have hrow : (Array.range (c * 1)).map (fun x => (#[zv] : Array Value)[x % 1]!) = (List.replicate c zv).toArray := by
    apply Array.ext
    · simp
    · intro j h1 h2
      simp [Nat.mod_one]
  have hti : ∀ w, (typeInfo E).run P w = .ok i w := fun w => by simp [typeInfo, hi]
  have hzi : ∀ w, (zeroValue E).run P w = .ok z w := fun w => by simp [zeroValue, typeInfo, hi, hz]
  have hso : ∀ w, (sizeOf E).run P w = .ok 1 w := fun w => by simp [sizeOf, typeInfo, hi, h1]
  simp only [Instr.makeSlice, Sem.run_bind, run_underlying hu, Result.andThen_ok, asInt, asIntOf, Sem.run_pure, hti, e1, e2]
  rw [if_neg (by simp [hb']; omega)]
  simp only [Sem.run_bind, run_askRoom, Result.andThen_ok, hso, Int.toNat_natCast]
  by_cases hc0 : c = 0
  · subst hc0
    simp only [Nat.zero_mul, if_true, Sem.run_bind, Sem.run_pure, Result.andThen_ok, run_newRow]
    simp [show Array.range 0 = #[] from rfl]
  · rw [if_neg (by omega)]
    simp only [Sem.run_bind, hzi, Result.andThen_ok, Sem.run_pure, run_newRow, hzv]
    rw [← hrow]
    simp
theorem MemK_make {T E : TypeId} {x y : Operand} {zv : Value} {bytes : Nat} (hu : P.underlying T = some (.slice E)) (hz : (P.info? E).map (fun i => (i.zero.map Value.cells, i.size, i.bytes)) = some (some #[zv], 1, bytes))
    (h : arg e x fun vl => arg e y fun vc => ∃ l c : Nat, (vl = .int .i64 l ∧ vc = .int .i64 c ∧ l ≤ c ∧ bytes * c ≤ 281474976710656 ∧ c ≤ 9223372036854775807) ∧ R (e.put d (.slice (some ⟨w.heap.size, 0, none⟩) l c)) (w.alloc (.cells (List.replicate c zv).toArray E)) K) :
    MemK P N ⟨d, .makeSlice T x y, ty, pos, af, gd⟩ e w R K :=
  Mem_of_run fun a n ha => by
    obtain ⟨l, c, ⟨h1, h2, h3, h4, h5⟩, hR⟩ := arg_sound (K := fun vc => ∃ l c : Nat, (a.eval x = .int .i64 l ∧ vc = .int .i64 c ∧ l ≤ c ∧ bytes * c ≤ 281474976710656 ∧ c ≤ 9223372036854775807) ∧ R (e.put d (.slice (some ⟨w.heap.size, 0, none⟩) l c)) (w.alloc (.cells (List.replicate c zv).toArray E)) K) ha
      (arg_sound (K := fun vl => arg e y fun vc => ∃ l c : Nat, (vl = .int .i64 l ∧ vc = .int .i64 c ∧ l ≤ c ∧ bytes * c ≤ 281474976710656 ∧ c ≤ 9223372036854775807) ∧ R (e.put d (.slice (some ⟨w.heap.size, 0, none⟩) l c)) (w.alloc (.cells (List.replicate c zv).toArray E)) K) ha h)
    cases hi : P.info? E with
    | none => simp [hi] at hz
    | some i =>
      simp only [hi, Option.map_some, Option.some.injEq, Prod.mk.injEq] at hz
      obtain ⟨hz1, hz2, hz3⟩ := hz
      cases hzz : i.zero with
      | none => simp [hzz] at hz1
      | some z =>
        simp only [hzz, Option.map_some, Option.some.injEq] at hz1
        refine ⟨_, w.alloc (.cells (List.replicate c zv).toArray E), n, ?_, hR⟩
        have := run_makeSlice' hu hi hzz hz1 hz2 h3 (by rw [hz3]; exact h4) (by simp only [maxLen]; omega) (w.drewN n)
        simp only [execOp, h1, h2, this, Sem.run_bind, Result.andThen_ok, Sem.run_pure]
        rfl
theorem fill_cells : ∀ (l : List Value) (i : Nat) (pre suf : List Value), suf.length = l.length → (∀ v ∈ l, v.cells = #[v]) → pre.length = i →
    Instr.fill (fun i => some (i * 1, 1)) (pre ++ suf).toArray ((l.zipIdx i).map fun p => (p.2, p.1)) = some (pre ++ l).toArray := by
  intro l
  induction l with
  | nil => intro i pre suf hs _ _; simp at hs; subst hs; simp [Instr.fill]
  | cons v l ih =>
    intro i pre suf hs hc hp
    cases suf with
    | nil => simp at hs
    | cons u suf =>
      simp only [List.zipIdx_cons, List.map_cons, Instr.fill]
      have hv := hc v (by simp)
      simp only [hv]
      rw [if_neg (by simp; omega)]
      have := ih (i + 1) (pre ++ [v]) suf (by simpa using hs) (fun u hu => hc u (by simp [hu])) (by simp [hp])
      have e1 : (#[v].zipIdx.foldl (fun cs x => cs.setIfInBounds (i * 1 + x.2) x.1) (pre ++ u :: suf).toArray) = ((pre ++ [v]) ++ suf).toArray := by
        simp only [Array.zipIdx]
        simp
        rw [← hp, List.set_append_right _ _ (Nat.le_refl _)]
        simp
      rw [e1, this]
      simp
theorem MemK_lit {T E : TypeId} {n : Nat} {ps : Array (Nat × Operand)} {xs : List Operand} (hu : P.underlying T = some (.slice E)) (hsz : P.szo E = some 1) (hz : (P.zeroOf E).isSome = true)
    (hps : ps.toList = (xs.zipIdx).map fun p => (p.2, p.1)) (hn : n = xs.length) (hb : n ≤ 1000000)
    (h : argL e xs fun vs => (∀ v ∈ vs, v.cells = #[v]) ∧ R (e.put d (.slice (some ⟨w.heap.size, 0, none⟩) n n)) (w.alloc (.cells vs.toArray E)) K) :
    MemK P N ⟨d, .buildSlice T n ps, ty, pos, af, gd⟩ e w R K :=
  Mem_of_run fun a m ha => by
    obtain ⟨h1, hR⟩ := argL_sound (K := fun vs => (∀ v ∈ vs, v.cells = #[v]) ∧ R (e.put d (.slice (some ⟨w.heap.size, 0, none⟩) n n)) (w.alloc (.cells vs.toArray E)) K) ha h
    refine ⟨_, _, m, ?_, hR⟩
    obtain ⟨z, hz⟩ := Option.isSome_iff_exists.1 hz
    have e1 : (ps.map fun (i, x) => (i, a.eval x)).toList = ((xs.map a.eval).zipIdx).map fun p => (p.2, p.1) := by
      rw [Array.toList_map, hps]
      simp [List.zipIdx_map]
    have hf := fill_cells (xs.map a.eval) 0 [] (((Array.range (n * 1)).map fun x => (if n = 0 then #[] else z.cells)[x % (if n = 0 then #[] else z.cells).size]!).toList) (by simp [hn]) h1 rfl
    simp only [List.nil_append, Array.toArray_toList] at hf
    have hs := run_szo (P := P) hsz
    simp only [execOp, Instr.buildSlice, Sem.run_bind, run_underlying hu, hs, Result.andThen_ok]
    rw [if_neg (by omega)]
    simp only [Nat.mul_one] at hf ⊢
    by_cases h0 : n = 0
    · rw [if_pos h0]
      rw [if_pos h0] at hf
      simp only [Sem.run_bind, Sem.run_pure, Result.andThen_ok, e1, hf, run_newRow]
      rfl
    · rw [if_neg h0]
      rw [if_neg h0] at hf
      simp only [Sem.run_bind, run_zeroOf hz, Sem.run_pure, Result.andThen_ok, e1, hf, run_newRow]
      rfl
def putBlk (w : World) (g : Nat) (cs : List Value) (T : TypeId) (fz : Nat × Nat) : World := { w with heap := w.heap.setIfInBounds g (.cells cs.toArray T fz) }
theorem putBlk_at {w : World} {g : Nat} {cs : List Value} {T : TypeId} {fz : Nat × Nat} (h : g < w.heap.size) : (putBlk w g cs T fz).heap[g]? = some (.cells cs.toArray T fz) := by
  simp [putBlk, h]
theorem putBlk_ne {w : World} {g k : Nat} {cs : List Value} {T : TypeId} {fz : Nat × Nat} (h : k ≠ g) : (putBlk w g cs T fz).heap[k]? = w.heap[k]? := by
  simp [putBlk, Ne.symm h]
theorem putBlk_upd (w : World) (g : Nat) (cs : List Value) (T : TypeId) (fz : Nat × Nat) : Upd [g] w (putBlk w g cs T fz) :=
  ⟨rfl, rfl, rfl, by simp [putBlk], fun k _ hk => putBlk_ne (by simpa using hk)⟩
theorem putBlk_size (w : World) (g : Nat) (cs : List Value) (T : TypeId) (fz : Nat × Nat) : (putBlk w g cs T fz).heap.size = w.heap.size := by simp [putBlk]
theorem putBlk_drewN (w : World) (n g : Nat) (cs : List Value) (T : TypeId) (fz : Nat × Nat) : putBlk (w.drewN n) g cs T fz = (putBlk w g cs T fz).drewN n := rfl
theorem setCell_putBlk {w : World} {g o : Nat} {cs : List Value} {T : TypeId} {fz : Nat × Nat} (h : w.heap[g]? = some (.cells cs.toArray T fz)) (v : Value) : w.setCell ⟨g, o, none⟩ v = putBlk w g (cs.set o v) T fz := by
  have hlt : g < w.heap.size := (Array.getElem?_eq_some_iff.1 h).1
  unfold World.setCell putBlk
  congr 1
  apply Array.ext_getElem?
  intro j
  rw [Array.getElem?_modify, Array.getElem?_setIfInBounds]
  by_cases hj : g = j
  · subst hj
    have hg : w.heap[g] = .cells cs.toArray T fz := (Array.getElem?_eq_some_iff.1 h).2
    simp [hlt, hg]
  · simp [hj]
theorem putBlk_same {w : World} {g : Nat} {cs : List Value} {T : TypeId} {fz : Nat × Nat} (h : w.heap[g]? = some (.cells cs.toArray T fz)) : putBlk w g cs T fz = w := by
  have hlt : g < w.heap.size := (Array.getElem?_eq_some_iff.1 h).1
  have e : w.heap.setIfInBounds g (.cells cs.toArray T fz) = w.heap := by
    apply Array.ext_getElem?
    intro j
    rw [Array.getElem?_setIfInBounds]
    by_cases hj : g = j
    · subst hj; rw [if_pos rfl, if_pos hlt]; exact h.symm
    · rw [if_neg hj]
  rw [putBlk, e]
theorem run_storeCells_blk (g o : Nat) (T : TypeId) (fz : Nat × Nat) : ∀ (vs : List Value) (i : Nat) (cs : List Value) (w : World), w.heap[g]? = some (.cells cs.toArray T fz) → Unfz fz cs.length → o + i + vs.length ≤ cs.length → (∀ v ∈ vs, v.oneCell' = true) →
    (storeCells ⟨g, o, none⟩ vs i).run P w = .ok () (putBlk w g (cs.take (o + i) ++ vs ++ cs.drop (o + i + vs.length)) T fz) := by
  intro vs
  induction vs with
  | nil =>
    intro i cs w hg _ hl _
    simp only [storeCells, Sem.run_pure]
    congr 1
    have : cs.take (o + i) ++ [] ++ cs.drop (o + i + 0) = cs := by simp
    simp only [List.length_nil]
    rw [this, putBlk_same hg]
  | cons v vs ih =>
    intro i cs w hg hfz hl h1
    simp only [List.length_cons] at hl
    have hadd : (⟨g, o, none⟩ : Addr).add i = ⟨g, o + i, none⟩ := by unfold Addr.add; split <;> simp_all
    have hcell : ∃ u, w.cell? ⟨g, o + i, none⟩ = some u := by
      refine ⟨cs[o + i], ?_⟩
      simp [World.cell?, hg]
    obtain ⟨u, hu⟩ := hcell
    have hfr : w.frozen? ⟨g, o + i, none⟩ = false := by
      simp only [World.frozen?, hg]
      have := hfz (o + i) (by omega)
      simpa using this
    have hone := h1 v (by simp)
    have hstore : (store ⟨g, o + i, none⟩ v).run P w = .ok () (w.setCell ⟨g, o + i, none⟩ v) := by
      cases v <;> simp [Value.oneCell'] at hone <;> simp [store, Sem.run, hu, hfr]
    have hlt : g < w.heap.size := (Array.getElem?_eq_some_iff.1 hg).1
    simp only [storeCells, Sem.run_bind, hadd, hstore, Result.andThen_ok]
    rw [setCell_putBlk hg, ih (i + 1) (cs.set (o + i) v) _ (putBlk_at hlt) (by simpa using hfz) (by simp; omega) (fun u hu => h1 u (by simp [hu]))]
    congr 1
    unfold putBlk
    simp only [Array.setIfInBounds_setIfInBounds]
    congr 2
    congr 1
    congr 1
    rw [show o + (i + 1) = o + i + 1 by omega, List.take_set, List.drop_set]
    simp only [List.length_cons]
    rw [if_pos (by omega), List.take_succ_eq_append_getElem (by omega), List.set_append_right _ _ (by simp; omega)]
    simp only [List.length_take]
    rw [show o + i - min (o + i) cs.length = 0 by omega]
    simp [show o + i + 1 + vs.length = o + i + (vs.length + 1) by omega]
end
end Go.Eng
set_option linter.unusedSimpArgs false
set_option linter.unusedVariables false
namespace Go.Eng
open Go
section
variable {P : Program} {N : Nat} {d : Option Tmp} {ty : Nat} {pos : String} {af : Array Edge} {gd : Option (Nat × Bool)} {e : Env} {w : World} {R : Env → World → (Env → World → Prop) → Prop} {K : Env → World → Prop}
def StoreK (P : Program) (T : TypeId) (x v : Value) (w : World) (C : World → Prop) : Prop :=
  ∃ w', (∀ n, (Instr.storeAt T x v).run P (w.drewN n) = .ok () (w'.drewN n)) ∧ C w'
theorem MemK_store {T : TypeId} {x y : Operand} (h : arg e x fun a => arg e y fun v => StoreK P T a v w fun w' => R (e.put d undef) w' K) :
    MemK P N ⟨d, .store T x y, ty, pos, af, gd⟩ e w R K :=
  Mem_of_skip fun a n ha => by
    obtain ⟨w', hr, hC⟩ := arg_sound (K := fun v => StoreK P T (a.eval x) v w fun w' => R (e.put d undef) w' K) ha (arg_sound (K := fun b => arg e y fun v => StoreK P T b v w fun w' => R (e.put d undef) w' K) ha h)
    exact ⟨w', n, by simp only [execOp, Sem.run_bind, hr n, Result.andThen_ok, Sem.run_pure], hC⟩
theorem run_storeVar_blk {T : TypeId} {g o : Nat} {T' : TypeId} {fz : Nat × Nat} {cs vs : List Value} {v : Value} (hv : v.cells = vs.toArray) (hsz : P.szo T = some vs.length) (hg : w.heap[g]? = some (.cells cs.toArray T' fz)) (hfz : Unfz fz cs.length) (hl : o + vs.length ≤ cs.length) (h1 : ∀ u ∈ vs, u.oneCell' = true) (n : Nat) :
    (Instr.storeAt T (.pointer (some ⟨g, o, none⟩)) v).run P (w.drewN n) = .ok () ((putBlk w g (cs.take o ++ vs ++ cs.drop (o + vs.length)) T' fz).drewN n) := by
  have hs := run_szo (P := P) hsz
  have hst := run_storeCells_blk (P := P) g o T' fz vs 0 cs (w.drewN n) hg hfz (by simpa using hl) h1
  simp only [Instr.storeAt, Instr.sureAddr, storeVar, Sem.run_bind, Sem.run_pure, Result.andThen_ok, hs, hv]
  rw [if_neg (by simp)]
  rw [hst]
  simp [putBlk_drewN]
def Res.blk (g : Nat) (T : TypeId) (cs : List Value) : Res where
  foot := [g]
  holds := fun w => ∃ fz, w.heap[g]? = some (.cells cs.toArray T fz) ∧ Unfz fz cs.length
  loc := by
    rintro w w' hb ⟨fz, h1, h2⟩
    exact ⟨fz, by rw [hb g (by simp)]; exact h1, h2⟩
theorem unfz00 (n : Nat) : Unfz (0, 0) n := fun j _ => by simp
theorem Heap.box {w0 w : World} {B : List Nat} {G : List Res} (h : Heap w0 B w G) (T : TypeId) (cs : List Value) : Heap w0 B (w.alloc (.cells cs.toArray T)) (Res.blk w.heap.size T cs :: G) :=
  h.new _ ⟨(0, 0), heap_alloc_new w _, unfz00 _⟩ (by simp [Res.blk])
theorem Heap.row {w0 w : World} {B : List Nat} {G : List Res} (h : Heap w0 B w G) (T : TypeId) {n cap sz : Nat} (xs rest : List Value) (h1 : xs.length = n * sz) (h2 : (xs ++ rest).length = cap * sz) (h3 : n ≤ cap) (h4 : cap ≤ 9223372036854775807) :
    Heap w0 B (w.alloc (.cells (xs ++ rest).toArray T)) (Res.row T sz (some ⟨w.heap.size, 0, none⟩) n cap xs :: G) :=
  h.new _ ⟨h1, h3, by simp only [maxLen]; omega, .inr ⟨w.heap.size, rest, (0, 0), rfl, heap_alloc_new w _, h2, unfz00 _⟩⟩ (by simp [Res.row])
theorem StoreK_blk {w0 : World} {B : List Nat} {G : List Res} (hH : Heap w0 B w G) (i : Nat) {g o : Nat} {T T' : TypeId} {cs vs : List Value} {v : Value} {C : World → Prop} (hi : G[i]? = some (Res.blk g T' cs)) (hv : v.cells = vs.toArray) (hsz : P.szo T = some vs.length) (hl : o + vs.length ≤ cs.length) (h1 : ∀ u ∈ vs, u.oneCell' = true)
    (h : ∀ w', Heap w0 B w' (G.set i (Res.blk g T' (cs.take o ++ vs ++ cs.drop (o + vs.length)))) → C w') : StoreK P T (.pointer (some ⟨g, o, none⟩)) v w C := by
  obtain ⟨fz, hg, hfz⟩ := hH.at i hi
  have hlt : g < w.heap.size := (Array.getElem?_eq_some_iff.1 hg).1
  refine ⟨_, run_storeVar_blk hv hsz hg hfz hl h1, h _ (hH.set i hi (putBlk_upd _ _ _ _ _) ⟨fz, putBlk_at hlt, ?_⟩ ?_)⟩
  · have : (cs.take o ++ vs ++ cs.drop (o + vs.length)).length = cs.length := by simp; omega
    rw [this]; exact hfz
  · intro b hb
    exact ⟨.inl hb, by rw [putBlk_size]; simp [Res.blk] at hb; omega⟩
theorem StoreK_row {w0 : World} {B : List Nat} {G : List Res} (hH : Heap w0 B w G) (i : Nat) {o n cap sz : Nat} {ad ap : Addr} {T T' : TypeId} {xs vs : List Value} {v : Value} {C : World → Prop} (hi : G[i]? = some (Res.row T' sz (some ad) n cap xs)) (hp : ap = ad.add o) (hv : v.cells = vs.toArray) (hsz : P.szo T = some vs.length) (hl : o + vs.length ≤ xs.length) (h1 : ∀ u ∈ vs, u.oneCell' = true)
    (h : ∀ w', Heap w0 B w' (G.set i (Res.row T' sz (some ad) n cap (xs.take o ++ vs ++ xs.drop (o + vs.length)))) → C w') : StoreK P T (.pointer (some ap)) v w C := by
  obtain ⟨h2, h3, h4, h5⟩ := hH.at i hi
  rcases h5 with h5 | ⟨g, rest, fz, hg0, hg, hl2, hfz⟩
  · cases h5.1
  · cases hg0
    subst hp
    have hlt : g < w.heap.size := (Array.getElem?_eq_some_iff.1 hg).1
    have hadd : (⟨g, 0, none⟩ : Addr).add o = ⟨g, o, none⟩ := by unfold Addr.add; split <;> simp_all
    rw [hadd]
    have hlen : o + vs.length ≤ (xs ++ rest).length := by simp; omega
    refine ⟨_, run_storeVar_blk hv hsz hg (by rw [hl2]; exact hfz) hlen h1, h _ (hH.set i hi (putBlk_upd _ _ _ _ _) ?_ ?_)⟩
    · refine ⟨by simp; omega, h3, h4, .inr ⟨g, rest, fz, rfl, ?_, by simp at hl2 ⊢; omega, hfz⟩⟩
      rw [putBlk_at hlt]
      congr 3
      rw [List.take_append_of_le_length (by omega), List.drop_append_of_le_length (by omega)]
      simp
    · intro b hb
      exact ⟨.inl hb, by rw [putBlk_size]; simp [Res.row] at hb; omega⟩
def Src (P : Program) (w : World) (x : Value) (T' : TypeId) (sz m : Nat) (news : List Value) : Prop :=
  match x with
  | .slice a k _ => k = m ∧ RS w a m sz news ∧ (∃ E, P.underlying T' = some (.slice E))
  | .string s => m = (toL s).length ∧ sz = 1 ∧ news = bytesV (toL s) ∧ P.underlying T' = some .string
  | _ => False
theorem Src.spec {x : Value} {T' : TypeId} {sz m : Nat} {news : List Value} (h : Src P w x T' sz m news) :
    news.length = m * sz ∧ (∀ w, (Builtin.lenOf x).run P w = .ok m w) ∧ (∀ w', w'.heap = w.heap → (Builtin.firstCells sz m x).run P w' = .ok news.toArray w') ∧ (∃ dd, P.underlying T' = some dd ∧ ∀ k, dd ≠ .int k) := by
  unfold Src at h
  split at h
  · rename_i a k c
    obtain ⟨rfl, ⟨h1, h2, h3⟩, E, hE⟩ := h
    refine ⟨h1, fun w => by simp [Builtin.lenOf], fun w' hw => ?_, _, hE, by simp⟩
    cases a with
    | none =>
      have := h2 rfl
      subst this
      have : news = [] := List.eq_nil_of_length_eq_zero (by simpa using h1)
      subst this
      simp [Builtin.firstCells]
    | some ad => exact run_firstCells_some (P := P) w' sz k ad k c news h1 (fun j v hv => (h3 ad rfl).heap hw j v hv)
  · rename_i s
    obtain ⟨rfl, rfl, rfl, hu⟩ := h
    refine ⟨by simp [bytesV], fun w => by simp only [Builtin.lenOf, Sem.run_pure]; rfl, fun w' _ => ?_, _, hu, by simp⟩
    have : s.extract 0 (toL s).length = s := by
      rw [str_extract, List.drop_zero, List.take_of_length_le (by simp [toL]), Array.toArray_toList]
    simp only [Builtin.firstCells, Sem.run_pure, this, bytesV, toL]
    congr 1
    apply Array.ext'; simp
  · exact h.elim
theorem notInt {dd : TypeDesc} (h : ∀ k, dd ≠ .int k) : (match (generalizing := false) dd with | .int _ => true | _ => false) = false := by cases dd <;> first | rfl | exact absurd rfl (h _)
theorem run_append_row {w0 : World} {B : List Nat} {G : List Res} (hH : Heap w0 B w G) (i : Nat) {T T' E ty : TypeId} {sz bytes : Nat} {zs : Array Value} {a : Option Addr} {n cap m : Nat} {xs news : List Value} {x : Value}
    (hi : G[i]? = some (Res.row E sz a n cap xs)) (hu : P.underlying T = some (.slice E)) (hz : (P.info? E).map (fun i => (i.zero.map Value.cells, i.size, i.bytes)) = some (some zs, sz, bytes)) (hzs : zs.size = sz)
    (hs : Src P w x T' sz m news) (h1 : ∀ u ∈ news, u.oneCell' = true) (hb : cap < n + m → (n + m) * bytes ≤ 140737488355328 ∧ n + m ≤ 9223372036854775807) (k : Nat) :
    ∃ a' cap' w' k', (Builtin.append_ #[T, T'] ty #[.slice a n cap, x]).run P (w.drewN k) = .ok (.slice a' (n + m) cap') (w'.drewN k') ∧ Heap w0 B w' (G.set i (Res.row E sz a' (n + m) cap' (xs ++ news))) ∧ (n + m ≤ cap → a' = a ∧ cap' = cap) := by
  have hrow := hH.at i hi
  obtain ⟨hxl, hnc, hcm, hcase⟩ := hrow
  obtain ⟨hnl, hlen, hfirst, dd, hdd, hni⟩ := hs.spec
  cases hinfo : P.info? E with
  | none => simp [hinfo] at hz
  | some ti =>
  simp only [hinfo, Option.map_some, Option.some.injEq, Prod.mk.injEq] at hz
  obtain ⟨hz1, hz2, hz3⟩ := hz
  cases hzz : ti.zero with
  | none => simp [hzz] at hz1
  | some z =>
  simp only [hzz, Option.map_some, Option.some.injEq] at hz1
  have hso : ∀ w, (sizeOf E).run P w = .ok sz w := fun w => by simp [sizeOf, typeInfo, hinfo, hz2]
  have hti : ∀ w, (typeInfo E).run P w = .ok ti w := fun w => by simp [typeInfo, hinfo]
  have hzv : ∀ w, (zeroValue E).run P w = .ok z w := fun w => by simp [zeroValue, typeInfo, hinfo, hzz]
  have hund : ∀ w, (underlying T').run P w = .ok dd w := fun w => run_underlying hdd w
  have hmatch := notInt hni
  by_cases hroom : n + m ≤ cap
  ·
    rcases hcase with ⟨rfl, rfl, rfl⟩ | ⟨g, rest, fz, rfl, hg, hl2, hfz⟩
    · have hm : m = 0 := by omega
      subst hm
      have hn : news = [] := List.eq_nil_of_length_eq_zero (by simpa using hnl)
      subst hn
      refine ⟨none, 0, w, k, ?_, ?_, fun _ => ⟨rfl, rfl⟩⟩
      · simp [Builtin.append_, run_underlying hu, hso, hund, hlen, hfirst (w.drewN k) rfl]
      · have : xs ++ [] = xs := by simp
        rw [this]
        have : G.set i (Res.row E sz none 0 0 xs) = G := by
          apply List.ext_getElem?
          intro j
          rw [List.getElem?_set]
          split
          · rename_i hj; subst hj; split <;> simp_all
          · rfl
        simp only [Nat.zero_add]
        rw [this]; exact hH
    · have hlt : g < w.heap.size := (Array.getElem?_eq_some_iff.1 hg).1
      have hfit : n * sz + news.length ≤ (xs ++ rest).length := by rw [hl2, hnl, ← Nat.add_mul]; exact Nat.mul_le_mul_right _ hroom
      have hst := run_storeCells_blk (P := P) g (n * sz) E fz news 0 (xs ++ rest) (w.drewN k) hg (by rw [hl2]; exact hfz) (by simpa using hfit) h1
      have hadd : (⟨g, 0, none⟩ : Addr).add (n * sz) = ⟨g, n * sz, none⟩ := by unfold Addr.add; split <;> simp_all
      have hcs : (xs ++ rest).take (n * sz + 0) ++ news ++ (xs ++ rest).drop (n * sz + 0 + news.length) = (xs ++ news) ++ rest.drop news.length := by
        rw [Nat.add_zero, ← hxl, List.take_left]
        rw [List.drop_append]
        simp
      rw [hcs] at hst
      refine ⟨some ⟨g, 0, none⟩, cap, putBlk w g ((xs ++ news) ++ rest.drop news.length) E fz, k, ?_, ?_, fun _ => ⟨rfl, rfl⟩⟩
      · simp [Builtin.append_, run_underlying hu, hso, hund, hlen, hfirst (w.drewN k) rfl, hroom, hadd, hst, putBlk_drewN]
      · refine hH.set i hi (putBlk_upd _ _ _ _ _) ⟨?_, hroom, hcm, .inr ⟨g, rest.drop news.length, fz, rfl, putBlk_at hlt, ?_, hfz⟩⟩ ?_
        · rw [List.length_append, hxl, hnl, Nat.add_mul]
        · simp at hl2 hfit ⊢; omega
        · intro b hb; exact ⟨.inl hb, by rw [putBlk_size]; simp [Res.row] at hb; omega⟩
  ·
    obtain ⟨hb1, hb2⟩ := hb (by omega)
    have hg63 : ¬ ((n + m : Nat) : Int) > IntKind.i64.max := by
      have : IntKind.i64.max = 9223372036854775807 := by decide
      rw [this]; omega
    have hfits : ¬ (Builtin.nextslicecap (n + m) cap * ti.bytes > 2 ^ 48) := by
      have := growslice_fits (need := n + m) (old := cap) (bytes := ti.bytes) (by omega) (by rw [hz3]; exact hb1)
      have e : (2 : Nat) ^ 48 = 281474976710656 := by decide
      rw [e]; omega
    have hold : (Builtin.firstCells sz n (.slice a n cap)).run P (w.drewN (k + 1)) = .ok xs.toArray (w.drewN (k + 1)) := by
      have hrs := row_rs (hH.at i hi)
      cases a with
      | none =>
        have hn0 := hrs.2.1 rfl
        subst hn0
        have : xs = [] := List.eq_nil_of_length_eq_zero (by simpa using hxl)
        subst this
        simp [Builtin.firstCells]
      | some ad => exact run_firstCells_some (P := P) _ sz n ad n cap xs hxl (fun j v hv => (hrs.2.2 ad rfl).heap (w' := w.drewN (k + 1)) rfl j v hv)
    have hge := grownCap_ge (w.drewN k) (n + m) cap E
    have hcm' := grownCap_le_maxLen (w.drewN k) (n + m) cap E (by simp only [maxLen]; omega)
    refine ⟨some ⟨w.heap.size, 0, none⟩, grownCap (w.drewN k) (n + m) cap E, w.alloc (.cells (xs.toArray ++ news.toArray ++ Builtin.zeroCells z.cells (grownCap (w.drewN k) (n + m) cap E - (n + m))) E), k + 1, ?_, ?_, fun h => absurd h hroom⟩
    · have hz2' : ¬ (9223372036854775807 < ((n : Int) + (m : Int))) := by omega
      have hz3' : ¬ (281474976710656 < Builtin.nextslicecap (n + m) cap * ti.bytes) := by
        have e : (2 : Nat) ^ 48 = 281474976710656 := by decide
        rw [e] at hfits; omega
      have hf2 := hfirst (w.drewN (k + 1)) rfl
      have hra := fun n w => run_askRoom (P := P) n w
      simp [Builtin.append_, run_underlying hu, hso, hund, hlen, hroom, hti, hz2', hz3', hra, hold, hf2, hzv, run_newRow, Question.forced, grownCap]
      rw [drewN_alloc]
      congr 3
      apply Array.ext'
      simp
    · have hcells : (xs.toArray ++ news.toArray ++ Builtin.zeroCells z.cells (grownCap (w.drewN k) (n + m) cap E - (n + m))) = ((xs ++ news) ++ (Builtin.zeroCells z.cells (grownCap (w.drewN k) (n + m) cap E - (n + m))).toList).toArray := by
        apply Array.ext'; simp
      rw [hcells]
      have hzc : z.cells.size = sz := by rw [hz1]; exact hzs
      refine hH.set i hi ⟨rfl, rfl, rfl, by simp, fun k hk _ => RowKit.Below.heap_alloc _ _ _ hk⟩ ⟨?_, hge, hcm', .inr ⟨w.heap.size, _, (0, 0), rfl, heap_alloc_new w _, ?_, unfz00 _⟩⟩ ?_
      · rw [List.length_append, hxl, hnl, Nat.add_mul]
      · rw [List.length_append, List.length_append, hxl, hnl, Array.length_toList, size_zeroCells, hzc, ← Nat.add_mul, ← Nat.add_mul]
        congr 1; omega
      · intro b hb
        simp [Res.row] at hb
        subst hb
        exact ⟨.inr (Nat.le_refl _), by simp⟩
def AppK (P : Program) (ts : Array TypeId) (ty : TypeId) (vs : List Value) (w : World) (C : Value → World → Prop) : Prop :=
  ∀ n, ∃ v w' m, (Builtin.append_ ts ty vs.toArray).run P (w.drewN n) = .ok v (w'.drewN m) ∧ C v w'
theorem MemK_append {as_ : Array Operand} {ts : Array TypeId} (h : argL e as_.toList fun vs => AppK P ts ty vs w fun v w' => R (e.put d v) w' K) :
    MemK P N ⟨d, .call { callee := .builtin .append, args := as_, argTypes := ts }, ty, pos, af, gd⟩ e w R K :=
  Mem_of_run fun a n ha => by
    obtain ⟨v, w', m, hr, hC⟩ := argL_sound (K := fun vs => AppK P ts ty vs w fun v w' => R (e.put d v) w' K) ha h n
    refine ⟨v, w', m, ?_, hC⟩
    simp only [execOp, resolve, invoke, builtin, map_eval, Sem.run_bind, Sem.run_pure, Result.andThen_ok, hr]
theorem AppK_row {w0 : World} {B : List Nat} {G : List Res} (hH : Heap w0 B w G) (i : Nat) {T T' E ty : TypeId} {sz bytes : Nat} {zs : Array Value} {a : Option Addr} {n cap m : Nat} {xs news : List Value} {x : Value} {C : Value → World → Prop}
    (hi : G[i]? = some (Res.row E sz a n cap xs)) (hu : P.underlying T = some (.slice E)) (hz : (P.info? E).map (fun i => (i.zero.map Value.cells, i.size, i.bytes)) = some (some zs, sz, bytes)) (hzs : zs.size = sz)
    (hs : Src P w x T' sz m news) (h1 : ∀ u ∈ news, u.oneCell' = true) (hb : cap < n + m → (n + m) * bytes ≤ 140737488355328 ∧ n + m ≤ 9223372036854775807)
    (h : ∀ a' cap' w', (n + m ≤ cap → a' = a ∧ cap' = cap) → Heap w0 B w' (G.set i (Res.row E sz a' (n + m) cap' (xs ++ news))) → C (.slice a' (n + m) cap') w') : AppK P #[T, T'] ty [.slice a n cap, x] w C := by
  intro k
  obtain ⟨a', cap', w', k', hr, hH', hc⟩ := run_append_row (P := P) (ty := ty) hH i hi hu hz hzs hs h1 hb k
  exact ⟨_, w', k', hr, h a' cap' w' hc hH'⟩
theorem map_rep (l : List UInt8) (m : Nat) : ((⟨l.toArray⟩ : ByteArray).data.map fun b => Value.int .u8 b.toNat) ++ Array.replicate m (Value.int .u8 0) = ((bytesV l) ++ List.replicate m (Value.int .u8 0)).toArray := by
  apply Array.ext'
  simp [bytesV]
theorem run_mark {E : TypeId} {cap : Nat} (w : World) (cs : Array Value) (hcs : cs.size = cap) : (markStringish ⟨w.heap.size, 0, none⟩).run P (w.alloc (.cells cs E)) = .ok () ({ w with heap := w.heap.push (.cells cs E (cap, cap + 1)) } : World) := by
  have h1 : (w.alloc (.cells cs E)).shape? w.heap.size = some (E, cap) := by
    have := heap_alloc_new w (.cells cs E)
    simp only [World.shape?, this, hcs]
  have h2 : (w.alloc (.cells cs E)).freeze { block := w.heap.size, off := cap } 1 = ({ w with heap := w.heap.push (.cells cs E (cap, cap + 1)) } : World) := by
    have e : (w.heap.push (.cells cs E)).modify w.heap.size (fun
      | .cells c elem (lo, hi) => .cells c elem (if lo == hi then (cap, cap + 1) else (min lo cap, max hi (cap + 1)))
      | o => o) = w.heap.push (.cells cs E (cap, cap + 1)) := by
      apply Array.ext_getElem?
      intro j
      rw [Array.getElem?_modify]
      simp only [Array.getElem?_push]
      by_cases hj : w.heap.size = j
      · subst hj; simp
      · rw [if_neg hj, if_neg (Ne.symm hj), if_neg (Ne.symm hj)]
    unfold World.freeze
    rw [if_neg (by omega)]
    exact congrArg (fun h => ({ w with heap := h } : World)) e
  have h3 : (shape w.heap.size).run P (w.alloc (.cells cs E)) = .ok (some (E, cap)) (w.alloc (.cells cs E)) := by
    simp only [shape, Sem.run, h1]
  simp only [markStringish, Sem.run_bind, h3, Result.andThen_ok]
  simp only [freeze, Sem.run, h2]
theorem run_bytesOf {T E : TypeId} {l : List UInt8} {S : TypeId} (hS : P.underlying S = some .string) (hT : P.underlying T = some (.slice E)) (hE : P.underlying E = some (.int .u8)) (hl : l.length ≤ 9223372036854775807) (k : Nat) :
    ∃ cap, l.length ≤ cap ∧ cap ≤ maxLen ∧ (convert S T (Str l)).run P (w.drewN k) = .ok (.slice (some ⟨w.heap.size, 0, none⟩) l.length cap) (({ w with heap := w.heap.push (.cells ((bytesV l) ++ List.replicate (cap - l.length) (Value.int .u8 0)).toArray E (cap, cap + 1)) } : World).drewN (k + 1)) := by
  have hge := grownCap_ge (w.drewN k) l.length 0 E
  have hle := grownCap_le_maxLen (w.drewN k) l.length 0 E (by simp only [maxLen]; exact hl)
  refine ⟨grownCap (w.drewN k) l.length 0 E, hge, hle, ?_⟩
  have hchoose : (choose (.appendCap (⟨l.toArray⟩ : ByteArray).size 0 E)).run P (w.drewN k) = .ok (grownCap (w.drewN k) l.length 0 E) (w.drewN (k + 1)) := by
    have : (⟨l.toArray⟩ : ByteArray).size = l.length := rfl
    rw [this]
    simp [grownCap, Question.forced]
  generalize grownCap (w.drewN k) l.length 0 E = cap at *
  have hsize : ((bytesV l) ++ List.replicate (cap - l.length) (Value.int .u8 0)).toArray.size = cap := by
    simp [bytesV]; omega
  simp only [convert, Sem.run_bind, run_underlying hS, run_underlying hT, run_underlying hE, Result.andThen_ok, Conv.stringToBytes, hchoose]
  have e : (⟨l.toArray⟩ : ByteArray).size = l.length := rfl
  rw [e, map_rep]
  have := run_mark (P := P) (E := E) (w.drewN (k + 1)) _ hsize
  simp only [run_newRow, Result.andThen_ok, this, Sem.run_pure]
  rfl
def BytesK (P : Program) (S T : TypeId) (x : Value) (w : World) (C : Value → World → Prop) : Prop :=
  ∀ n, ∃ v w' m, (convert S T x).run P (w.drewN n) = .ok v (w'.drewN m) ∧ C v w'
theorem MemK_bytes {S T : TypeId} {x : Operand} (h : arg e x fun v => BytesK P S T v w fun v w' => R (e.put d v) w' K) :
    MemK P N ⟨d, .convert S T x, ty, pos, af, gd⟩ e w R K :=
  Mem_of_run fun a n ha => by
    obtain ⟨v, w', m, hr, hC⟩ := arg_sound (K := fun v => BytesK P S T v w fun v w' => R (e.put d v) w' K) ha h n
    exact ⟨v, w', m, by simp only [execOp, Sem.run_bind, hr, Result.andThen_ok, Sem.run_pure], hC⟩
theorem BytesK_row {w0 : World} {B : List Nat} {G : List Res} (hH : Heap w0 B w G) {S T E : TypeId} {l : List UInt8} {C : Value → World → Prop} (hS : P.underlying S = some .string) (hT : P.underlying T = some (.slice E)) (hE : P.underlying E = some (.int .u8)) (hl : l.length ≤ 9223372036854775807)
    (h : ∀ g cap w', Heap w0 B w' (Res.row E 1 (some ⟨g, 0, none⟩) l.length cap (bytesV l) :: G) → C (.slice (some ⟨g, 0, none⟩) l.length cap) w') : BytesK P S T (Str l) w C := by
  intro k
  obtain ⟨cap, h1, h2, hr⟩ := run_bytesOf (P := P) (w := w) hS hT hE hl k
  refine ⟨_, _, _, hr, h _ _ _ ?_⟩
  refine hH.call0 (G' := [_]) ⟨⟨rfl, rfl, rfl, by simp, fun j hj _ => ?_⟩, ?_, ?_, by simp⟩
  · show (w.heap.push _)[j]? = _
    rw [Array.getElem?_push, if_neg (by omega)]
  · intro r hr
    simp at hr; subst hr
    refine ⟨by simp [bytesV], h1, h2, .inr ⟨w.heap.size, List.replicate (cap - l.length) (Value.int .u8 0), (cap, cap + 1), rfl, ?_, by simp [bytesV]; omega, fun j hj => by simp at hj ⊢; omega⟩⟩
    show (w.heap.push _)[w.heap.size]? = _
    simp
  · intro r hr b hb
    simp at hr; subst hr
    simp [Res.row] at hb
    subst hb
    exact ⟨.inr (Nat.le_refl _), by simp⟩
theorem bytes_one (l : List UInt8) : ∀ u ∈ bytesV l, u.oneCell' = true := by
  intro u hu
  obtain ⟨b, _, rfl⟩ := List.mem_map.1 hu
  rfl
theorem ints_one (l : List Int) : ∀ u ∈ intsV l, u.oneCell' = true := by
  intro u hu
  obtain ⟨b, _, rfl⟩ := List.mem_map.1 hu
  rfl
theorem bytesV_append (l m : List UInt8) : bytesV (l ++ m) = bytesV l ++ bytesV m := by simp [bytesV]
theorem intsV_append (l m : List Int) : intsV (l ++ m) = intsV l ++ intsV m := by simp [intsV]
theorem AppK_one {w0 : World} {B : List Nat} {G : List Res} (hH : Heap w0 B w G) (i : Nat) {T E ty : TypeId} {bytes : Nat} {z : Value} {a : Option Addr} {n cap : Nat} {xs : List Value} {x : Value} {C : Value → World → Prop}
    (hi : G[i]? = some (Res.row E 1 a n cap xs)) (hu : P.underlying T = some (.slice E)) (hz : (P.info? E).map (fun i => (i.zero.map Value.cells, i.size, i.bytes)) = some (some #[z], 1, bytes))
    (hx : x.oneCell' = true) (hb : cap < n + 1 → (n + 1) * bytes ≤ 140737488355328 ∧ n + 1 ≤ 9223372036854775807)
    (h : ∀ a' cap' w', (n + 1 ≤ cap → a' = a ∧ cap' = cap) → Heap w0 B w' (G.set i (Res.row E 1 a' (n + 1) cap' (xs ++ [x]))) → C (.slice a' (n + 1) cap') w') :
    AppK P #[T, T] ty [.slice a n cap, .slice (some ⟨w.heap.size, 0, none⟩) 1 1] (w.alloc (.cells [x].toArray E)) C := by
  have h1 := hH.row E (n := 1) (cap := 1) (sz := 1) [x] [] (by simp) (by simp) (by omega) (by omega)
  simp only [List.append_nil] at h1
  refine AppK_row h1 (i + 1) (sz := 1) (m := 1) (news := [x]) (by simpa using hi) hu hz rfl ⟨rfl, row_rs (h1.at 0 rfl), E, hu⟩ (by simpa using hx) hb fun a' cap' w' hc hH' => h a' cap' w' hc ?_
  simp only [List.set_cons_succ] at hH'
  exact hH'.sub (List.sublist_cons_self _ _)
theorem AppK_str {w0 : World} {B : List Nat} {G : List Res} (hH : Heap w0 B w G) (i : Nat) {T T' E ty : TypeId} {bytes : Nat} {z : Value} {a : Option Addr} {cap : Nat} {o t : List UInt8} {C : Value → World → Prop}
    (hi : G[i]? = some (Res.row E 1 a o.length cap (bytesV o))) (hu : P.underlying T = some (.slice E)) (hz : (P.info? E).map (fun i => (i.zero.map Value.cells, i.size, i.bytes)) = some (some #[z], 1, bytes)) (hS : P.underlying T' = some .string)
    (hb : cap < (o ++ t).length → (o ++ t).length * bytes ≤ 140737488355328 ∧ (o ++ t).length ≤ 9223372036854775807)
    (h : ∀ a' cap' w', ((o ++ t).length ≤ cap → a' = a ∧ cap' = cap) → Heap w0 B w' (G.set i (Res.row E 1 a' (o ++ t).length cap' (bytesV (o ++ t)))) → C (.slice a' (o ++ t).length cap') w') :
    AppK P #[T, T'] ty [.slice a o.length cap, Str t] w C := by
  have e : o.length + t.length = (o ++ t).length := by simp
  refine AppK_row hH i (sz := 1) (m := t.length) (news := bytesV t) hi hu hz rfl ⟨by simp [toL], rfl, by simp [toL], hS⟩ (bytes_one t) (by rw [e]; exact hb) fun a' cap' w' hc hH' => ?_
  rw [e] at hc hH' ⊢
  exact h a' cap' w' hc (by rw [bytesV_append]; exact hH')
theorem AppK_byte {w0 : World} {B : List Nat} {G : List Res} (hH : Heap w0 B w G) (i : Nat) {T E ty : TypeId} {bytes : Nat} {z : Value} {a : Option Addr} {cap : Nat} {o : List UInt8} (b : UInt8) {n : Int} {C : Value → World → Prop}
    (hi : G[i]? = some (Res.row E 1 a o.length cap (bytesV o))) (hu : P.underlying T = some (.slice E)) (hz : (P.info? E).map (fun i => (i.zero.map Value.cells, i.size, i.bytes)) = some (some #[z], 1, bytes)) (hn : n = b.toNat)
    (hb : cap < (o ++ [b]).length → (o ++ [b]).length * bytes ≤ 140737488355328 ∧ (o ++ [b]).length ≤ 9223372036854775807)
    (h : ∀ a' cap' w', ((o ++ [b]).length ≤ cap → a' = a ∧ cap' = cap) → Heap w0 B w' (G.set i (Res.row E 1 a' (o ++ [b]).length cap' (bytesV (o ++ [b])))) → C (.slice a' (o ++ [b]).length cap') w') :
    AppK P #[T, T] ty [.slice a o.length cap, .slice (some ⟨w.heap.size, 0, none⟩) 1 1] (w.alloc (.cells [Value.int .u8 n].toArray E)) C := by
  subst hn
  have e : o.length + 1 = (o ++ [b]).length := by simp
  refine AppK_one hH i hi hu hz rfl (by rw [e]; exact hb) fun a' cap' w' hc hH' => ?_
  rw [e] at hc hH' ⊢
  exact h a' cap' w' hc (by rw [bytesV_append]; exact hH')
theorem AppK_int {w0 : World} {B : List Nat} {G : List Res} (hH : Heap w0 B w G) (i : Nat) {T E ty : TypeId} {bytes : Nat} {z : Value} {a : Option Addr} {cap : Nat} {o : List Int} {n : Int} {C : Value → World → Prop}
    (hi : G[i]? = some (Res.row E 1 a o.length cap (intsV o))) (hu : P.underlying T = some (.slice E)) (hz : (P.info? E).map (fun i => (i.zero.map Value.cells, i.size, i.bytes)) = some (some #[z], 1, bytes))
    (hb : cap < (o ++ [n]).length → (o ++ [n]).length * bytes ≤ 140737488355328 ∧ (o ++ [n]).length ≤ 9223372036854775807)
    (h : ∀ a' cap' w', ((o ++ [n]).length ≤ cap → a' = a ∧ cap' = cap) → Heap w0 B w' (G.set i (Res.row E 1 a' (o ++ [n]).length cap' (intsV (o ++ [n])))) → C (.slice a' (o ++ [n]).length cap') w') :
    AppK P #[T, T] ty [.slice a o.length cap, .slice (some ⟨w.heap.size, 0, none⟩) 1 1] (w.alloc (.cells [Value.int .i64 n].toArray E)) C := by
  have e : o.length + 1 = (o ++ [n]).length := by simp
  refine AppK_one hH i hi hu hz rfl (by rw [e]; exact hb) fun a' cap' w' hc hH' => ?_
  rw [e] at hc hH' ⊢
  exact h a' cap' w' hc (by rw [intsV_append]; exact hH')
theorem AppK_ints {w0 : World} {B : List Nat} {G : List Res} (hH : Heap w0 B w G) (i : Nat) {T E ty : TypeId} {bytes : Nat} {z : Value} {a b : Option Addr} {cap m c : Nat} {o t : List Int} {C : Value → World → Prop}
    (hi : G[i]? = some (Res.row E 1 a o.length cap (intsV o))) (hu : P.underlying T = some (.slice E)) (hz : (P.info? E).map (fun i => (i.zero.map Value.cells, i.size, i.bytes)) = some (some #[z], 1, bytes)) (hm : m = t.length) (ht : RS w b t.length 1 (intsV t))
    (hb : cap < (o ++ t).length → (o ++ t).length * bytes ≤ 140737488355328 ∧ (o ++ t).length ≤ 9223372036854775807)
    (h : ∀ a' cap' w', ((o ++ t).length ≤ cap → a' = a ∧ cap' = cap) → Heap w0 B w' (G.set i (Res.row E 1 a' (o ++ t).length cap' (intsV (o ++ t)))) → C (.slice a' (o ++ t).length cap') w') :
    AppK P #[T, T] ty [.slice a o.length cap, .slice b m c] w C := by
  subst hm
  have e : o.length + t.length = (o ++ t).length := by simp
  refine AppK_row hH i (sz := 1) (m := t.length) (news := intsV t) hi hu hz rfl ⟨rfl, ht, E, hu⟩ (ints_one t) (by rw [e]; exact hb) fun a' cap' w' hc hH' => ?_
  rw [e] at hc hH' ⊢
  exact h a' cap' w' hc (by rw [intsV_append]; exact hH')
theorem AppK_bytes {w0 : World} {B : List Nat} {G : List Res} (hH : Heap w0 B w G) (i : Nat) {T E ty : TypeId} {bytes : Nat} {z : Value} {a b : Option Addr} {cap m c : Nat} {o t : List UInt8} {C : Value → World → Prop}
    (hi : G[i]? = some (Res.row E 1 a o.length cap (bytesV o))) (hu : P.underlying T = some (.slice E)) (hz : (P.info? E).map (fun i => (i.zero.map Value.cells, i.size, i.bytes)) = some (some #[z], 1, bytes)) (hm : m = t.length) (ht : RS w b t.length 1 (bytesV t))
    (hb : cap < (o ++ t).length → (o ++ t).length * bytes ≤ 140737488355328 ∧ (o ++ t).length ≤ 9223372036854775807)
    (h : ∀ a' cap' w', ((o ++ t).length ≤ cap → a' = a ∧ cap' = cap) → Heap w0 B w' (G.set i (Res.row E 1 a' (o ++ t).length cap' (bytesV (o ++ t)))) → C (.slice a' (o ++ t).length cap') w') :
    AppK P #[T, T] ty [.slice a o.length cap, .slice b m c] w C := by
  subst hm
  have e : o.length + t.length = (o ++ t).length := by simp
  refine AppK_row hH i (sz := 1) (m := t.length) (news := bytesV t) hi hu hz rfl ⟨rfl, ht, E, hu⟩ (bytes_one t) (by rw [e]; exact hb) fun a' cap' w' hc hH' => ?_
  rw [e] at hc hH' ⊢
  exact h a' cap' w' hc (by rw [bytesV_append]; exact hH')
theorem add_add (a : Addr) (hs : a.spot = none) (k j : Nat) : (a.add k).add j = a.add (k + j) := by
  obtain ⟨b, o, s⟩ := a
  simp only at hs
  subst hs
  unfold Addr.add
  by_cases hk : k = 0
  · subst hk; simp
  · by_cases hj : j = 0
    · subst hj; simp [hk]
    · simp [hk, hj, Nat.add_assoc]
theorem RS.drop {ad : Addr} {n sz : Nat} {xs : List Value} (h : RS w (some ad) n sz xs) (hs : ad.spot = none) (k : Nat) (hk : k ≤ n) : RS w (some (ad.add (k * sz))) (n - k) sz (xs.drop (k * sz)) := by
  refine ⟨by rw [List.length_drop, h.1, Nat.sub_mul], by simp, fun a' ha => ?_⟩
  cases ha
  intro j u hu
  rw [List.getElem?_drop] at hu
  rw [add_add ad hs]
  exact h.2.2 ad rfl _ u hu
theorem RS.take {a : Option Addr} {n sz : Nat} {xs : List Value} (h : RS w a n sz xs) (m : Nat) (hm : m ≤ n) : RS w a m sz (xs.take (m * sz)) := by
  refine ⟨by rw [List.length_take, h.1]; exact Nat.min_eq_left (Nat.mul_le_mul_right _ hm), fun ha => by have := h.2.1 ha; omega, fun ad ha j u hu => ?_⟩
  rw [List.getElem?_take] at hu
  split at hu
  · exact h.2.2 ad ha j u hu
  · cases hu
theorem row_cell {T sz g n cap k : Nat} {xs : List Value} {v : Value} (h : (Res.row T sz (some ⟨g, 0, none⟩) n cap xs).holds w) (hv : xs[k]? = some v) : w.cell? ⟨g, k, none⟩ = some v := by
  have := (row_rs h).2.2 _ rfl k v hv
  have hadd : (⟨g, 0, none⟩ : Addr).add k = ⟨g, k, none⟩ := by unfold Addr.add; split <;> simp_all
  rwa [hadd] at this
theorem row_pos {T sz n cap : Nat} {a : Option Addr} {xs : List Value} (h : (Res.row T sz a n cap xs).holds w) (hn : 0 < n) : ∃ g, a = some ⟨g, 0, none⟩ := by
  obtain ⟨h1, h2, h3, h4⟩ := h
  rcases h4 with h4 | ⟨g, rest, fz, h, _⟩
  · omega
  · exact ⟨g, h⟩
theorem Heap.readsBytes {w0 : World} {B : List Nat} {G : List Res} (hH : Heap w0 B w G) (i : Nat) {E cap : Nat} {a : Option Addr} {o : List UInt8} (hi : G[i]? = some (Res.row E 1 a o.length cap (bytesV o))) : ReadsBytes w a o.length o :=
  ReadsBytes_of (row_rs (hH.at i hi))
end
end Go.Eng
namespace Go.Eng
open Go
def planned (ops : List Oper) (plan : List (Nat × Bool)) : List (Bool × Oper) := plan.filterMap fun p => (ops[p.1]?).map fun o => (p.2, o)
def planOk (ops : Array Oper) : List (Nat × Bool) → Array Bool → Bool
  | [], listed => (Region.ready .any ops listed).isEmpty
  | (i, t) :: plan, listed =>
    (decide (i < ops.size)) && (match t with
      | true => Region.free .any ops listed i && (Region.ready .any ops listed).contains i
      | false => Region.ready .any ops listed == [i]) && planOk ops plan (listed.setIfInBounds i true)
def pw (b : Bool) (w0 w : World) : World := match b with | true => w0 | false => w
def MemH (P : Program) (N : Nat) (o : Oper) (e : Env) (w0 w : World) (R : Env → World → (Env → World → Prop) → Prop) (K : Env → World → Prop) : Prop :=
  Mem P N o e w fun v w' => Ext w0 w' ∧ R (e.put o.dst v) w' K
def vcStepH (P : Program) (N : Nat) (p b : Bool) (o : Oper) (e : Env) (w0 w : World) (R : Env → World → (Env → World → Prop) → Prop) (K : Env → World → Prop) : Prop :=
  match p, b with
  | true, b => vcOp P o.op e (pw b w0 w) fun v => R (e.put o.dst v) w K
  | false, false => MemH P N o e w0 w R K
  | false, true => False
def vcH (P : Program) (N : Nat) (ops : List Oper) (w0 : World) : List (Bool × Oper) → Env → World → (Env → World → Prop) → Prop
  | [], e, w, K => K e w
  | (b, o) :: rest, e, w, K => vGuard ops o.guard e
      (fun e => vcStepH P N (isPure P o.op) b o e w0 w (vcH P N ops w0 rest) K)
      (fun e => vcH P N ops w0 rest (e.put o.dst undef) w K)
theorem vcH_sound {P : Program} {N : Nat} {ops : List Oper} {w0 : World} {Q : Exit → Act → World → Prop} {K : Env → World → Prop} (hN : ops.all (dstOk N) = true) (hsel : Region.noSelect ops.toArray = true)
    (hQ : ∀ c a w (d : Option Tmp) v, Q (.panic c) (a.put d v) w → Q (.panic c) a w)
    (hK : ∀ e a w n, Fits N e a → K e w → Q .normal a (w.drewN n)) : ∀ (plan : List (Nat × Bool)) (fuel : Nat) (listed : Array Bool) (e : Env) (a : Act) (w : World) (n : Nat),
      plan.length ≤ fuel → planOk ops.toArray plan listed = true → Fits N e a → Ext w0 w → vcH P N ops w0 (planned ops plan) e w K →
      wpAnyH P .any ops.toArray Q (fun w' => Ext w0 w') fuel listed a (w.drewN n) := by
  intro plan
  induction plan with
  | nil =>
    intro fuel listed e a w n _ hp ha _ h
    simp only [planOk, List.isEmpty_iff] at hp
    exact wpAnyH_done hp (hK e a w n ha h) fuel
  | cons p plan ih =>
    obtain ⟨i, t⟩ := p
    intro fuel listed e a w n hf hp ha hx h
    simp only [planOk, Bool.and_eq_true, decide_eq_true_eq] at hp
    obtain ⟨⟨hi, hstep⟩, hp⟩ := hp
    have hi' : i < ops.length := by simpa using hi
    obtain ⟨o, ho⟩ : ∃ o, ops[i]? = some o := ⟨ops[i], List.getElem?_eq_getElem hi'⟩
    have hoa : ops.toArray[i]? = some o := by simpa using ho
    have hod : dstOk N o = true := by
      rw [List.all_eq_true] at hN
      exact hN o (List.mem_of_getElem? ho)
    have hpl : planned ops ((i, t) :: plan) = (t, o) :: planned ops plan := by simp [planned, ho]
    rw [hpl] at h
    cases fuel with
    | zero => simp at hf
    | succ fuel =>
    have hf' : plan.length ≤ fuel := by simpa using hf
    rcases vGuard_sound ha h with ⟨e', ha', h', hw⟩ | ⟨e', ha', h', hw⟩
    · cases t with
      | true =>
        simp only [Bool.and_eq_true] at hstep
        have h' : vcStepH P N (isPure P o.op) true o e' w0 w (vcH P N ops w0 (planned ops plan)) K := h'
        cases hpo : isPure P o.op with
        | true =>
          rw [hpo] at h'
          simp only [vcStepH, pw] at h'
          obtain ⟨v, hv, hr⟩ := vcOp_sound ha' h'
          refine wpAnyH_take hoa hsel hstep.1 hstep.2 (fun c a w => hQ c a w o.dst v) (.inl ⟨hw, fun w' hw' => hr w' hw'⟩) (hx.trans (Ext.drewN w n)) ?_
          exact ih fuel _ _ _ w n hf' hp (ha'.put' hod v) hx hv
        | false => rw [hpo] at h'; exact h'.elim
      | false =>
        simp only [beq_iff_eq] at hstep
        refine wpAnyH_all hstep (by simp) ?_
        intro j hj
        simp only [List.mem_singleton] at hj
        subst hj
        unfold wpOp
        simp only [hoa, hw, if_true]
        refine .inl ?_
        have h' : vcStepH P N (isPure P o.op) false o e' w0 w (vcH P N ops w0 (planned ops plan)) K := h'
        cases hpo : isPure P o.op with
        | true =>
          rw [hpo] at h'
          simp only [vcStepH, pw] at h'
          obtain ⟨v, hv, hr⟩ := vcOp_sound ha' h'
          unfold Oper.wp
          rw [hr (w.drewN n) (Ext.drewN w n)]
          exact ⟨hx.trans (Ext.drewN w n), ih fuel _ _ _ w n hf' hp (ha'.put' hod v) hx hv⟩
        | false =>
          rw [hpo] at h'
          have h' : MemH P N o e' w0 w (vcH P N ops w0 (planned ops plan)) K := h'
          exact h' a n _ Q ha' fun v w' m hv => ⟨hv.1.trans (Ext.drewN w' m), ih fuel _ _ _ w' m hf' hp (ha'.put' hod v) hv.1 hv.2⟩
    · have hnext : wpAnyH P .any ops.toArray Q (fun w' => Ext w0 w') fuel (listed.setIfInBounds i true) (a.put o.dst undef) (w.drewN n) :=
        ih fuel _ _ _ w n hf' hp (ha'.put' hod undef) hx h'
      cases t with
      | true =>
        simp only [Bool.and_eq_true] at hstep
        exact wpAnyH_take hoa hsel hstep.1 hstep.2 (fun c a w => hQ c a w o.dst undef) (.inr ⟨hw, rfl⟩) (hx.trans (Ext.drewN w n)) hnext
      | false =>
        simp only [beq_iff_eq] at hstep
        refine wpAnyH_all hstep (by simp) ?_
        intro j hj
        simp only [List.mem_singleton] at hj
        subst hj
        unfold wpOp
        simp only [hoa, hw, Bool.false_eq_true, if_false]
        exact ⟨hx.trans (Ext.drewN w n), hnext⟩
theorem cont_panic {C : Ctx} {k : List It} {c : List PanicEntry} {a : Act} {w : World} (d : Option Tmp) (v : Value) (h : cont C k (.panic c) (a.put d v) w) : cont C k (.panic c) a w := by
  induction k with
  | nil =>
    have h' : bodyPost C.P C.fn (endsIn C.F) (.panic c) (a.put d v) w := h
    obtain ⟨h1, h2⟩ := h'
    have h3 : a.defers = [] := by cases d <;> simpa [Act.put] using h1
    exact (⟨h3, h2⟩ : bodyPost C.P C.fn (endsIn C.F) (.panic c) a w)
  | cons x k ih => cases x <;> exact ih h
theorem VC_regionH {P : Program} {fn : Func} {F : Value → World → Prop} {N : Nat} {k : List It} {e : Env} {w : World} (w0 : World) (hx : Ext w0 w) (ks : List Nat) (plan : List (Nat × Bool)) {id : Nat} {ops : List Oper} {l : List (Bool × Oper)}
    (hm : P.follows .mixedOrders = true) (hB : (planOk ops.toArray plan (Array.replicate ops.toArray.size false) && Region.noSelect ops.toArray && decide (plan.length ≤ ops.length)) = true) (hN : ops.all (dstOk N) = true) (hl : planned ops plan = l)
    (h : ∀ K : Env → World → Prop, (∀ e w, VC ⟨P, fn, F, N⟩ k e w → K e w) → vcH P N ops w0 l e w (selC ks K)) : VC ⟨P, fn, F, N⟩ (.code (.region id ops.toArray true) :: k) e w := by
  intro a n ha
  simp only [Bool.and_eq_true, decide_eq_true_eq] at hB
  obtain ⟨⟨hB1, hB2⟩, hB3⟩ := hB
  refine wp_region_held (S := fun w' => Ext w0 w') hm ?_
  subst hl
  refine vcH_sound (K := selC ks (VC ⟨P, fn, F, N⟩ k)) hN hB2 (fun c a w d v hq => cont_panic d v hq) (fun e a w n ha hv => ?_) plan _ _ e a w (n + 1) (by simpa using hB3) hB1 ha hx (h _ fun _ _ hv => hv)
  exact ((selK_spec ks e _).1 hv) a n (ha.sel ks)
theorem Upd.ext {w w' : World} (h : Upd [] w w') : Ext w w' := .of_keep fun k hk => h.block k hk (by simp)
theorem Upd.extH {B : List Nat} {w w' : World} (h : Upd B w w') : Ext (holes B w) w' := .holes fun k hk hB => h.block k hk hB
theorem Heap.ext {w w' : World} {G : List Res} (h : Heap w [] w' G) : Ext w w' := h.upd.ext
theorem Ext.alloc (w : World) (o : Obj) : Ext w (w.alloc o) := .of_keep fun k hk => RowKit.Below.heap_alloc w o k hk
theorem cont_goto {C : Ctx} {k : List It} {l : Nat} {a : Act} {w : World} (h : cont C k (.goto l) a w) : False := by
  induction k with
  | nil => exact h
  | cons x k ih => cases x <;> exact ih h
theorem VC_scope {C : Ctx} {k : List It} {e : Env} {w : World} {c : Code} (h : VC C (.code c :: k) e w) : VC C (.code (.scope c) :: k) e w := by
  intro a n ha
  have h1 := h a n ha
  simp only [cont] at h1 ⊢
  refine wp_scope_straight (wp_mono h1 fun ex a w hq => ?_)
  cases ex with
  | goto l => exact (cont_goto hq).elim
  | _ => exact hq
section
variable {P : Program} {N : Nat} {d : Option Tmp} {ty : Nat} {pos : String} {af : Array Edge} {gd : Option (Nat × Bool)} {e : Env} {w : World} {R : Env → World → (Env → World → Prop) → Prop} {K : Env → World → Prop}
def CopyK (P : Program) (ts : Array TypeId) (ty : TypeId) (vs : List Value) (w : World) (C : Value → World → Prop) : Prop :=
  ∀ n, ∃ v w' m, (Builtin.copy_ ts ty vs.toArray).run P (w.drewN n) = .ok v (w'.drewN m) ∧ C v w'
theorem MemK_copy {as_ : Array Operand} {ts : Array TypeId} (h : argL e as_.toList fun vs => CopyK P ts ty vs w fun v w' => R (e.put d v) w' K) :
    MemK P N ⟨d, .call { callee := .builtin .copy, args := as_, argTypes := ts }, ty, pos, af, gd⟩ e w R K :=
  Mem_of_run fun a n ha => by
    obtain ⟨v, w', m, hr, hC⟩ := argL_sound (K := fun vs => CopyK P ts ty vs w fun v w' => R (e.put d v) w' K) ha h n
    refine ⟨v, w', m, ?_, hC⟩
    simp only [execOp, resolve, invoke, builtin, map_eval, Sem.run_bind, Sem.run_pure, Result.andThen_ok, hr]
theorem CopyK_row {w0 : World} {B : List Nat} {G : List Res} (hH : Heap w0 B w G) (i : Nat) {T T' E ty : TypeId} {sz : Nat} {ad ap : Addr} {n cap m dl c off : Nat} {xs news : List Value} {x : Value} {C : Value → World → Prop}
    (hi : G[i]? = some (Res.row E sz (some ad) n cap xs)) (hu : P.underlying T = some (.slice E)) (hz : P.szo E = some sz) (hp : ap = ad.add off)
    (hs : Src P w x T' sz m news) (h1 : ∀ u ∈ news, u.oneCell' = true) (hoff : off + min m dl * sz ≤ xs.length)
    (h : ∀ w', Upd [ad.block] w w' → Heap w0 B w' (G.set i (Res.row E sz (some ad) n cap (xs.take off ++ news.take (min m dl * sz) ++ xs.drop (off + min m dl * sz)))) → C (.int .i64 (min m dl : Nat)) w') :
    CopyK P #[T, T'] ty [.slice (some ap) dl c, x] w C := by
  intro k
  obtain ⟨hxl, hnc, hcm, hcase⟩ := hH.at i hi
  rcases hcase with hcase | ⟨g, rest, fz, hg0, hg, hl2, hfz⟩
  · cases hcase.1
  cases hg0
  subst hp
  have hlt : g < w.heap.size := (Array.getElem?_eq_some_iff.1 hg).1
  obtain ⟨hnl, hlen, _, _⟩ := hs.spec
  have hfirst : (Builtin.firstCells sz (min m dl) x).run P (w.drewN k) = .ok (news.take (min m dl * sz)).toArray (w.drewN k) := by
    cases x with
    | slice a k' c' =>
      obtain ⟨rfl, ⟨hr1, hr2, hr3⟩, _⟩ := hs
      cases a with
      | none =>
        have hk0 := hr2 rfl
        subst hk0
        simp [Builtin.firstCells]
      | some ad' =>
        refine run_firstCells_some (P := P) _ sz (min k' dl) ad' k' c' _ ?_ fun j v hv => ?_
        · rw [List.length_take, hr1]
          exact Nat.min_eq_left (Nat.mul_le_mul_right _ (Nat.min_le_left _ _))
        · rw [List.getElem?_take] at hv
          split at hv
          · exact (hr3 ad' rfl).heap (w' := w.drewN k) rfl j v hv
          · cases hv
    | string s =>
      obtain ⟨rfl, rfl, rfl, _⟩ := hs
      simp only [Builtin.firstCells, Sem.run_pure, str_extract, Nat.mul_one, bytesV, toL]
      congr 1
      apply Array.ext'
      simp [List.map_take]
    | _ => exact hs.elim
  have hadd : (⟨g, 0, none⟩ : Addr).add off = ⟨g, off, none⟩ := by unfold Addr.add; split <;> simp_all
  have hnt : (news.take (min m dl * sz)).length = min m dl * sz := by
    rw [List.length_take, hnl]
    exact Nat.min_eq_left (Nat.mul_le_mul_right _ (Nat.min_le_left _ _))
  have hst := run_storeCells_blk (P := P) g off E fz (news.take (min m dl * sz)) 0 (xs ++ rest) (w.drewN k) hg (by rw [hl2]; exact hfz) (by rw [hnt]; simp; omega) (fun u hu => h1 u (List.mem_of_mem_take hu))
  have hcells : (xs ++ rest).take (off + 0) ++ news.take (min m dl * sz) ++ (xs ++ rest).drop (off + 0 + (news.take (min m dl * sz)).length) = (xs.take off ++ news.take (min m dl * sz) ++ xs.drop (off + min m dl * sz)) ++ rest := by
    rw [hnt, Nat.add_zero, List.take_append_of_le_length (by omega), List.drop_append_of_le_length (by omega)]
    simp
  rw [hcells] at hst
  have hso := run_szo (P := P) hz
  refine ⟨.int .i64 (min m dl : Nat), putBlk w g ((xs.take off ++ news.take (min m dl * sz) ++ xs.drop (off + min m dl * sz)) ++ rest) E fz, k, ?_, h _ (putBlk_upd _ _ _ _ _) (hH.set i hi (putBlk_upd _ _ _ _ _) ⟨?_, hnc, hcm, .inr ⟨g, rest, fz, rfl, putBlk_at hlt, ?_, hfz⟩⟩ ?_)⟩
  · have hmin : Nat.min m dl = min m dl := rfl
    simp [Builtin.copy_, run_underlying hu, hlen, hso, hmin, hfirst, hadd, hst, putBlk_drewN, goInt]
  · rw [List.length_append, List.length_append, hnt, List.length_take, List.length_drop, ← hxl]; omega
  · rw [List.length_append, List.length_append, List.length_append, hnt, List.length_take, List.length_drop]
    rw [List.length_append] at hl2; omega
  · intro b hb
    exact ⟨.inl hb, by rw [putBlk_size]; simp [Res.row] at hb; omega⟩
end
end Go.Eng
namespace Go.Eng
open Go
def extR (w0 : World) (R : Env → World → (Env → World → Prop) → Prop) : Env → World → (Env → World → Prop) → Prop := fun e w K => Ext w0 w ∧ R e w K
theorem MemH_eq {P : Program} {N : Nat} {o : Oper} {e : Env} {w0 w : World} {R : Env → World → (Env → World → Prop) → Prop} {K : Env → World → Prop} : MemH P N o e w0 w R K = MemK P N o e w (extR w0 R) K := rfl
section
variable {P : Program} {N : Nat} {ops : List Oper} {rest : List (Bool × Oper)} {d : Option Tmp} {r t ty : Nat} {op : Op} {pos : String} {af : Array Edge} {e : Env} {w w0 : World} {K : Env → World → Prop}
theorem h_nilS (ks : List Nat) : vcH P N ops w0 [] e w (selC ks K) = selK ks e fun e => K e w := rfl
theorem extR_eq {R : Env → World → (Env → World → Prop) → Prop} : extR w0 R e w K = (Ext w0 w ∧ R e w K) := rfl
theorem pw_t : pw true w0 w = w0 := rfl
theorem pw_f : pw false w0 w = w := rfl
theorem h_move (x : Operand) (bf : Bool) : vcH P N ops w0 ((bf, ⟨some r, .move x, ty, pos, af, none⟩) :: rest) e w K = arg e x (fun v => vcH P N ops w0 rest ((r, v) :: e) w K) := rfl
theorem hg_move (x : Operand) (bf : Bool) (jj : Nat) (bb : Bool) : vcH P N ops w0 ((bf, ⟨some r, .move x, ty, pos, af, some (jj, bb)⟩) :: rest) e w K = vGuardL ops jj bb e (fun e => arg e x (fun v => vcH P N ops w0 rest ((r, v) :: e) w K)) (fun e => vcH P N ops w0 rest ((r, undef) :: e) w K) := by rw [← vGuardL_eq]; rfl
theorem h_assign (x : Operand) (bf : Bool) : vcH P N ops w0 ((bf, ⟨some r, .assign x, ty, pos, af, none⟩) :: rest) e w K = arg e x (fun v => vcH P N ops w0 rest ((r, v) :: e) w K) := rfl
theorem hg_assign (x : Operand) (bf : Bool) (jj : Nat) (bb : Bool) : vcH P N ops w0 ((bf, ⟨some r, .assign x, ty, pos, af, some (jj, bb)⟩) :: rest) e w K = vGuardL ops jj bb e (fun e => arg e x (fun v => vcH P N ops w0 rest ((r, v) :: e) w K)) (fun e => vcH P N ops w0 rest ((r, undef) :: e) w K) := by rw [← vGuardL_eq]; rfl
theorem h_pick (c x y : Operand) (bf : Bool) : vcH P N ops w0 ((bf, ⟨some r, .pick c x y, ty, pos, af, none⟩) :: rest) e w K = arg e c fun vc => vPick vc (arg e x (fun v => vcH P N ops w0 rest ((r, v) :: e) w K)) (arg e y (fun v => vcH P N ops w0 rest ((r, v) :: e) w K)) := rfl
theorem hg_pick (c x y : Operand) (bf : Bool) (jj : Nat) (bb : Bool) : vcH P N ops w0 ((bf, ⟨some r, .pick c x y, ty, pos, af, some (jj, bb)⟩) :: rest) e w K = vGuardL ops jj bb e (fun e => arg e c fun vc => vPick vc (arg e x (fun v => vcH P N ops w0 rest ((r, v) :: e) w K)) (arg e y (fun v => vcH P N ops w0 rest ((r, v) :: e) w K))) (fun e => vcH P N ops w0 rest ((r, undef) :: e) w K) := by rw [← vGuardL_eq]; rfl
theorem h_binOp (op : BinOp) (T T' : TypeId) (x y : Operand) (bf : Bool) : vcH P N ops w0 ((bf, ⟨some r, .binOp op T x y T', ty, pos, af, none⟩) :: rest) e w K = arg e x fun a => arg e y fun b => vBinO P op T x y a b (pw bf w0 w) (fun v => vcH P N ops w0 rest ((r, v) :: e) w K) := rfl
theorem hg_binOp (op : BinOp) (T T' : TypeId) (x y : Operand) (bf : Bool) (jj : Nat) (bb : Bool) : vcH P N ops w0 ((bf, ⟨some r, .binOp op T x y T', ty, pos, af, some (jj, bb)⟩) :: rest) e w K = vGuardL ops jj bb e (fun e => arg e x fun a => arg e y fun b => vBinO P op T x y a b (pw bf w0 w) (fun v => vcH P N ops w0 rest ((r, v) :: e) w K)) (fun e => vcH P N ops w0 rest ((r, undef) :: e) w K) := by rw [← vGuardL_eq]; rfl
theorem h_unOp (op : UnOp) (T : TypeId) (x : Operand) (bf : Bool) : vcH P N ops w0 ((bf, ⟨some r, .unOp op T x, ty, pos, af, none⟩) :: rest) e w K = arg e x fun a => vUn op a (fun v => vcH P N ops w0 rest ((r, v) :: e) w K) := rfl
theorem hg_unOp (op : UnOp) (T : TypeId) (x : Operand) (bf : Bool) (jj : Nat) (bb : Bool) : vcH P N ops w0 ((bf, ⟨some r, .unOp op T x, ty, pos, af, some (jj, bb)⟩) :: rest) e w K = vGuardL ops jj bb e (fun e => arg e x fun a => vUn op a (fun v => vcH P N ops w0 rest ((r, v) :: e) w K)) (fun e => vcH P N ops w0 rest ((r, undef) :: e) w K) := by rw [← vGuardL_eq]; rfl
theorem h_convert_some (s d : TypeId) (x : Operand) (bf : Bool) : vcH P N ops w0 ((bf, ⟨some r, .convert s d x, ty, pos, af, none⟩) :: rest) e w K = vcStepH P N (convPure P s d) bf ⟨some r, .convert s d x, ty, pos, af, none⟩ e w0 w (vcH P N ops w0 rest) K := rfl
theorem h_convert (s d : TypeId) (x : Operand) (bf : Bool) (hc : convPure P s d = true) : vcH P N ops w0 ((bf, ⟨some r, .convert s d x, ty, pos, af, none⟩) :: rest) e w K = arg e x fun a => vConv P s d a (pw bf w0 w) (fun v => vcH P N ops w0 rest ((r, v) :: e) w K) := by rw [h_convert_some, hc]; rfl
theorem h_convertM (s d : TypeId) (x : Operand) (hc : convPure P s d = false) : vcH P N ops w0 ((false, ⟨some r, .convert s d x, ty, pos, af, none⟩) :: rest) e w K = MemK P N ⟨some r, .convert s d x, ty, pos, af, none⟩ e w (extR w0 (vcH P N ops w0 rest)) K := by rw [h_convert_some, hc]; rfl
theorem hg_convert_some (s d : TypeId) (x : Operand) (bf : Bool) (jj : Nat) (bb : Bool) : vcH P N ops w0 ((bf, ⟨some r, .convert s d x, ty, pos, af, some (jj, bb)⟩) :: rest) e w K = vGuardL ops jj bb e (fun e => vcStepH P N (convPure P s d) bf ⟨some r, .convert s d x, ty, pos, af, some (jj, bb)⟩ e w0 w (vcH P N ops w0 rest) K) (fun e => vcH P N ops w0 rest ((r, undef) :: e) w K) := by rw [← vGuardL_eq]; rfl
theorem hg_convert (s d : TypeId) (x : Operand) (bf : Bool) (jj : Nat) (bb : Bool) (hc : convPure P s d = true) : vcH P N ops w0 ((bf, ⟨some r, .convert s d x, ty, pos, af, some (jj, bb)⟩) :: rest) e w K = vGuardL ops jj bb e (fun e => arg e x fun a => vConv P s d a (pw bf w0 w) (fun v => vcH P N ops w0 rest ((r, v) :: e) w K)) (fun e => vcH P N ops w0 rest ((r, undef) :: e) w K) := by rw [hg_convert_some, hc]; rfl
theorem h_slice (T : TypeId) (x : Operand) (lo hi : Option Operand) (bf : Bool) : vcH P N ops w0 ((bf, ⟨some r, .slice T x lo hi none, ty, pos, af, none⟩) :: rest) e w K = arg e x fun a => argO e lo fun l => argO e hi fun h => vSlice P T a l h (fun v => vcH P N ops w0 rest ((r, v) :: e) w K) := rfl
theorem hg_slice (T : TypeId) (x : Operand) (lo hi : Option Operand) (bf : Bool) (jj : Nat) (bb : Bool) : vcH P N ops w0 ((bf, ⟨some r, .slice T x lo hi none, ty, pos, af, some (jj, bb)⟩) :: rest) e w K = vGuardL ops jj bb e (fun e => arg e x fun a => argO e lo fun l => argO e hi fun h => vSlice P T a l h (fun v => vcH P N ops w0 rest ((r, v) :: e) w K)) (fun e => vcH P N ops w0 rest ((r, undef) :: e) w K) := by rw [← vGuardL_eq]; rfl
theorem h_fieldAddr (S : TypeId) (x : Operand) (f : Nat) (bf : Bool) : vcH P N ops w0 ((bf, ⟨some r, .fieldAddr S x f, ty, pos, af, none⟩) :: rest) e w K = arg e x fun a => vFieldAddr P S a f (fun v => vcH P N ops w0 rest ((r, v) :: e) w K) := rfl
theorem hg_fieldAddr (S : TypeId) (x : Operand) (f : Nat) (bf : Bool) (jj : Nat) (bb : Bool) : vcH P N ops w0 ((bf, ⟨some r, .fieldAddr S x f, ty, pos, af, some (jj, bb)⟩) :: rest) e w K = vGuardL ops jj bb e (fun e => arg e x fun a => vFieldAddr P S a f (fun v => vcH P N ops w0 rest ((r, v) :: e) w K)) (fun e => vcH P N ops w0 rest ((r, undef) :: e) w K) := by rw [← vGuardL_eq]; rfl
theorem h_field (S : TypeId) (x : Operand) (f : Nat) (bf : Bool) : vcH P N ops w0 ((bf, ⟨some r, .field S x f, ty, pos, af, none⟩) :: rest) e w K = arg e x fun a => vField P S a f (fun v => vcH P N ops w0 rest ((r, v) :: e) w K) := rfl
theorem hg_field (S : TypeId) (x : Operand) (f : Nat) (bf : Bool) (jj : Nat) (bb : Bool) : vcH P N ops w0 ((bf, ⟨some r, .field S x f, ty, pos, af, some (jj, bb)⟩) :: rest) e w K = vGuardL ops jj bb e (fun e => arg e x fun a => vField P S a f (fun v => vcH P N ops w0 rest ((r, v) :: e) w K)) (fun e => vcH P N ops w0 rest ((r, undef) :: e) w K) := by rw [← vGuardL_eq]; rfl
theorem h_indexAddr (T : TypeId) (x i : Operand) (bf : Bool) : vcH P N ops w0 ((bf, ⟨some r, .indexAddr T x i, ty, pos, af, none⟩) :: rest) e w K = arg e x fun a => arg e i fun n => vIndexAddr P T a n (fun v => vcH P N ops w0 rest ((r, v) :: e) w K) := rfl
theorem hg_indexAddr (T : TypeId) (x i : Operand) (bf : Bool) (jj : Nat) (bb : Bool) : vcH P N ops w0 ((bf, ⟨some r, .indexAddr T x i, ty, pos, af, some (jj, bb)⟩) :: rest) e w K = vGuardL ops jj bb e (fun e => arg e x fun a => arg e i fun n => vIndexAddr P T a n (fun v => vcH P N ops w0 rest ((r, v) :: e) w K)) (fun e => vcH P N ops w0 rest ((r, undef) :: e) w K) := by rw [← vGuardL_eq]; rfl
theorem h_index (T : TypeId) (x i : Operand) (bf : Bool) : vcH P N ops w0 ((bf, ⟨some r, .index T x i, ty, pos, af, none⟩) :: rest) e w K = arg e x fun a => arg e i fun n => vIndex P T a n (fun v => vcH P N ops w0 rest ((r, v) :: e) w K) := rfl
theorem hg_index (T : TypeId) (x i : Operand) (bf : Bool) (jj : Nat) (bb : Bool) : vcH P N ops w0 ((bf, ⟨some r, .index T x i, ty, pos, af, some (jj, bb)⟩) :: rest) e w K = vGuardL ops jj bb e (fun e => arg e x fun a => arg e i fun n => vIndex P T a n (fun v => vcH P N ops w0 rest ((r, v) :: e) w K)) (fun e => vcH P N ops w0 rest ((r, undef) :: e) w K) := by rw [← vGuardL_eq]; rfl
theorem h_extract (x : Operand) (i : Nat) (bf : Bool) : vcH P N ops w0 ((bf, ⟨some r, .extract x i, ty, pos, af, none⟩) :: rest) e w K = arg e x fun a => vExtract a i (fun v => vcH P N ops w0 rest ((r, v) :: e) w K) := rfl
theorem hg_extract (x : Operand) (i : Nat) (bf : Bool) (jj : Nat) (bb : Bool) : vcH P N ops w0 ((bf, ⟨some r, .extract x i, ty, pos, af, some (jj, bb)⟩) :: rest) e w K = vGuardL ops jj bb e (fun e => arg e x fun a => vExtract a i (fun v => vcH P N ops w0 rest ((r, v) :: e) w K)) (fun e => vcH P N ops w0 rest ((r, undef) :: e) w K) := by rw [← vGuardL_eq]; rfl
theorem h_makeInterface (T : TypeId) (x : Operand) (bf : Bool) : vcH P N ops w0 ((bf, ⟨some r, .makeInterface T x, ty, pos, af, none⟩) :: rest) e w K = arg e x fun a => vMakeIface P T a (fun v => vcH P N ops w0 rest ((r, v) :: e) w K) := rfl
theorem hg_makeInterface (T : TypeId) (x : Operand) (bf : Bool) (jj : Nat) (bb : Bool) : vcH P N ops w0 ((bf, ⟨some r, .makeInterface T x, ty, pos, af, some (jj, bb)⟩) :: rest) e w K = vGuardL ops jj bb e (fun e => arg e x fun a => vMakeIface P T a (fun v => vcH P N ops w0 rest ((r, v) :: e) w K)) (fun e => vcH P N ops w0 rest ((r, undef) :: e) w K) := by rw [← vGuardL_eq]; rfl
theorem h_makeFunc (fn : Go.Fn) (a b : Array Operand) (bf : Bool) : vcH P N ops w0 ((bf, ⟨some r, .makeFunc fn a b, ty, pos, af, none⟩) :: rest) e w K = argL e a.toList fun fs => argL e b.toList fun cs => ((fun v => vcH P N ops w0 rest ((r, v) :: e) w K)) (.func fn fs.toArray cs.toArray) := rfl
theorem hg_makeFunc (fn : Go.Fn) (a b : Array Operand) (bf : Bool) (jj : Nat) (bb : Bool) : vcH P N ops w0 ((bf, ⟨some r, .makeFunc fn a b, ty, pos, af, some (jj, bb)⟩) :: rest) e w K = vGuardL ops jj bb e (fun e => argL e a.toList fun fs => argL e b.toList fun cs => ((fun v => vcH P N ops w0 rest ((r, v) :: e) w K)) (.func fn fs.toArray cs.toArray)) (fun e => vcH P N ops w0 rest ((r, undef) :: e) w K) := by rw [← vGuardL_eq]; rfl
theorem h_build (T : TypeId) (ps : Array (Nat × Operand)) (bf : Bool) : vcH P N ops w0 ((bf, ⟨some r, .build T ps, ty, pos, af, none⟩) :: rest) e w K = vParts e ps.toList fun vs => vBuild P T vs (fun v => vcH P N ops w0 rest ((r, v) :: e) w K) := rfl
theorem hg_build (T : TypeId) (ps : Array (Nat × Operand)) (bf : Bool) (jj : Nat) (bb : Bool) : vcH P N ops w0 ((bf, ⟨some r, .build T ps, ty, pos, af, some (jj, bb)⟩) :: rest) e w K = vGuardL ops jj bb e (fun e => vParts e ps.toList fun vs => vBuild P T vs (fun v => vcH P N ops w0 rest ((r, v) :: e) w K)) (fun e => vcH P N ops w0 rest ((r, undef) :: e) w K) := by rw [← vGuardL_eq]; rfl
theorem h_load (T : TypeId) (x : Operand) (bf : Bool) : vcH P N ops w0 ((bf, ⟨some r, .load T x, ty, pos, af, none⟩) :: rest) e w K = arg e x fun a => vLoad P T a (pw bf w0 w) (fun v => vcH P N ops w0 rest ((r, v) :: e) w K) := rfl
theorem hg_load (T : TypeId) (x : Operand) (bf : Bool) (jj : Nat) (bb : Bool) : vcH P N ops w0 ((bf, ⟨some r, .load T x, ty, pos, af, some (jj, bb)⟩) :: rest) e w K = vGuardL ops jj bb e (fun e => arg e x fun a => vLoad P T a (pw bf w0 w) (fun v => vcH P N ops w0 rest ((r, v) :: e) w K)) (fun e => vcH P N ops w0 rest ((r, undef) :: e) w K) := by rw [← vGuardL_eq]; rfl
theorem h_nilCheck (x : Operand) (bf : Bool) : vcH P N ops w0 ((bf, ⟨some r, .nilCheck x, ty, pos, af, none⟩) :: rest) e w K = arg e x fun a => vNil a (fun v => vcH P N ops w0 rest ((r, v) :: e) w K) := rfl
theorem hg_nilCheck (x : Operand) (bf : Bool) (jj : Nat) (bb : Bool) : vcH P N ops w0 ((bf, ⟨some r, .nilCheck x, ty, pos, af, some (jj, bb)⟩) :: rest) e w K = vGuardL ops jj bb e (fun e => arg e x fun a => vNil a (fun v => vcH P N ops w0 rest ((r, v) :: e) w K)) (fun e => vcH P N ops w0 rest ((r, undef) :: e) w K) := by rw [← vGuardL_eq]; rfl
theorem h_len (as_ : Array Operand) (ts : Array TypeId) (bf : Bool) : vcH P N ops w0 ((bf, ⟨some r, .call { callee := .builtin .len, args := as_, argTypes := ts }, ty, pos, af, none⟩) :: rest) e w K = argL e as_.toList fun vs => vLenL P ts[0]? vs (fun v => vcH P N ops w0 rest ((r, v) :: e) w K) := rfl
theorem hg_len (as_ : Array Operand) (ts : Array TypeId) (bf : Bool) (jj : Nat) (bb : Bool) : vcH P N ops w0 ((bf, ⟨some r, .call { callee := .builtin .len, args := as_, argTypes := ts }, ty, pos, af, some (jj, bb)⟩) :: rest) e w K = vGuardL ops jj bb e (fun e => argL e as_.toList fun vs => vLenL P ts[0]? vs (fun v => vcH P N ops w0 rest ((r, v) :: e) w K)) (fun e => vcH P N ops w0 rest ((r, undef) :: e) w K) := by rw [← vGuardL_eq]; rfl
theorem h_min (as_ : Array Operand) (ts : Array TypeId) (bf : Bool) : vcH P N ops w0 ((bf, ⟨some r, .call { callee := .builtin .min, args := as_, argTypes := ts }, ty, pos, af, none⟩) :: rest) e w K = argL e as_.toList fun vs => vMin vs (fun v => vcH P N ops w0 rest ((r, v) :: e) w K) := rfl
theorem hg_min (as_ : Array Operand) (ts : Array TypeId) (bf : Bool) (jj : Nat) (bb : Bool) : vcH P N ops w0 ((bf, ⟨some r, .call { callee := .builtin .min, args := as_, argTypes := ts }, ty, pos, af, some (jj, bb)⟩) :: rest) e w K = vGuardL ops jj bb e (fun e => argL e as_.toList fun vs => vMin vs (fun v => vcH P N ops w0 rest ((r, v) :: e) w K)) (fun e => vcH P N ops w0 rest ((r, undef) :: e) w K) := by rw [← vGuardL_eq]; rfl
theorem h_max (as_ : Array Operand) (ts : Array TypeId) (bf : Bool) : vcH P N ops w0 ((bf, ⟨some r, .call { callee := .builtin .max, args := as_, argTypes := ts }, ty, pos, af, none⟩) :: rest) e w K = argL e as_.toList fun vs => vMax vs (fun v => vcH P N ops w0 rest ((r, v) :: e) w K) := rfl
theorem hg_max (as_ : Array Operand) (ts : Array TypeId) (bf : Bool) (jj : Nat) (bb : Bool) : vcH P N ops w0 ((bf, ⟨some r, .call { callee := .builtin .max, args := as_, argTypes := ts }, ty, pos, af, some (jj, bb)⟩) :: rest) e w K = vGuardL ops jj bb e (fun e => argL e as_.toList fun vs => vMax vs (fun v => vcH P N ops w0 rest ((r, v) :: e) w K)) (fun e => vcH P N ops w0 rest ((r, undef) :: e) w K) := by rw [← vGuardL_eq]; rfl
theorem h_append (as_ : Array Operand) (ts : Array TypeId) : vcH P N ops w0 ((false, ⟨d, .call { callee := .builtin .append, args := as_, argTypes := ts }, ty, pos, af, none⟩) :: rest) e w K = MemK P N ⟨d, .call { callee := .builtin .append, args := as_, argTypes := ts }, ty, pos, af, none⟩ e w (extR w0 (vcH P N ops w0 rest)) K := rfl
theorem hg_append (as_ : Array Operand) (ts : Array TypeId) (jj : Nat) (bb : Bool) : vcH P N ops w0 ((false, ⟨d, .call { callee := .builtin .append, args := as_, argTypes := ts }, ty, pos, af, some (jj, bb)⟩) :: rest) e w K = vGuardL ops jj bb e (fun e => MemK P N ⟨d, .call { callee := .builtin .append, args := as_, argTypes := ts }, ty, pos, af, some (jj, bb)⟩ e w (extR w0 (vcH P N ops w0 rest)) K) (fun e => vcH P N ops w0 rest (e.put d undef) w K) := by rw [← vGuardL_eq]; rfl
theorem h_copy (as_ : Array Operand) (ts : Array TypeId) : vcH P N ops w0 ((false, ⟨d, .call { callee := .builtin .copy, args := as_, argTypes := ts }, ty, pos, af, none⟩) :: rest) e w K = MemK P N ⟨d, .call { callee := .builtin .copy, args := as_, argTypes := ts }, ty, pos, af, none⟩ e w (extR w0 (vcH P N ops w0 rest)) K := rfl
theorem hg_copy (as_ : Array Operand) (ts : Array TypeId) (jj : Nat) (bb : Bool) : vcH P N ops w0 ((false, ⟨d, .call { callee := .builtin .copy, args := as_, argTypes := ts }, ty, pos, af, some (jj, bb)⟩) :: rest) e w K = vGuardL ops jj bb e (fun e => MemK P N ⟨d, .call { callee := .builtin .copy, args := as_, argTypes := ts }, ty, pos, af, some (jj, bb)⟩ e w (extR w0 (vcH P N ops w0 rest)) K) (fun e => vcH P N ops w0 rest (e.put d undef) w K) := by rw [← vGuardL_eq]; rfl
theorem h_recover (as_ : Array Operand) (ts : Array TypeId) : vcH P N ops w0 ((false, ⟨d, .call { callee := .builtin .recover, args := as_, argTypes := ts }, ty, pos, af, none⟩) :: rest) e w K = MemK P N ⟨d, .call { callee := .builtin .recover, args := as_, argTypes := ts }, ty, pos, af, none⟩ e w (extR w0 (vcH P N ops w0 rest)) K := rfl
theorem hg_recover (as_ : Array Operand) (ts : Array TypeId) (jj : Nat) (bb : Bool) : vcH P N ops w0 ((false, ⟨d, .call { callee := .builtin .recover, args := as_, argTypes := ts }, ty, pos, af, some (jj, bb)⟩) :: rest) e w K = vGuardL ops jj bb e (fun e => MemK P N ⟨d, .call { callee := .builtin .recover, args := as_, argTypes := ts }, ty, pos, af, some (jj, bb)⟩ e w (extR w0 (vcH P N ops w0 rest)) K) (fun e => vcH P N ops w0 rest (e.put d undef) w K) := by rw [← vGuardL_eq]; rfl
theorem h_delete (as_ : Array Operand) (ts : Array TypeId) : vcH P N ops w0 ((false, ⟨d, .call { callee := .builtin .delete, args := as_, argTypes := ts }, ty, pos, af, none⟩) :: rest) e w K = MemK P N ⟨d, .call { callee := .builtin .delete, args := as_, argTypes := ts }, ty, pos, af, none⟩ e w (extR w0 (vcH P N ops w0 rest)) K := rfl
theorem hg_delete (as_ : Array Operand) (ts : Array TypeId) (jj : Nat) (bb : Bool) : vcH P N ops w0 ((false, ⟨d, .call { callee := .builtin .delete, args := as_, argTypes := ts }, ty, pos, af, some (jj, bb)⟩) :: rest) e w K = vGuardL ops jj bb e (fun e => MemK P N ⟨d, .call { callee := .builtin .delete, args := as_, argTypes := ts }, ty, pos, af, some (jj, bb)⟩ e w (extR w0 (vcH P N ops w0 rest)) K) (fun e => vcH P N ops w0 rest (e.put d undef) w K) := by rw [← vGuardL_eq]; rfl
theorem h_cap (as_ : Array Operand) (ts : Array TypeId) : vcH P N ops w0 ((false, ⟨d, .call { callee := .builtin .cap, args := as_, argTypes := ts }, ty, pos, af, none⟩) :: rest) e w K = MemK P N ⟨d, .call { callee := .builtin .cap, args := as_, argTypes := ts }, ty, pos, af, none⟩ e w (extR w0 (vcH P N ops w0 rest)) K := rfl
theorem hg_cap (as_ : Array Operand) (ts : Array TypeId) (jj : Nat) (bb : Bool) : vcH P N ops w0 ((false, ⟨d, .call { callee := .builtin .cap, args := as_, argTypes := ts }, ty, pos, af, some (jj, bb)⟩) :: rest) e w K = vGuardL ops jj bb e (fun e => MemK P N ⟨d, .call { callee := .builtin .cap, args := as_, argTypes := ts }, ty, pos, af, some (jj, bb)⟩ e w (extR w0 (vcH P N ops w0 rest)) K) (fun e => vcH P N ops w0 rest (e.put d undef) w K) := by rw [← vGuardL_eq]; rfl
theorem h_callv (x : Operand) (as_ : Array Operand) (ts : Array TypeId) : vcH P N ops w0 ((false, ⟨d, .call { callee := .value x, args := as_, argTypes := ts }, ty, pos, af, none⟩) :: rest) e w K = MemK P N ⟨d, .call { callee := .value x, args := as_, argTypes := ts }, ty, pos, af, none⟩ e w (extR w0 (vcH P N ops w0 rest)) K := rfl
theorem hg_callv (x : Operand) (as_ : Array Operand) (ts : Array TypeId) (jj : Nat) (bb : Bool) : vcH P N ops w0 ((false, ⟨d, .call { callee := .value x, args := as_, argTypes := ts }, ty, pos, af, some (jj, bb)⟩) :: rest) e w K = vGuardL ops jj bb e (fun e => MemK P N ⟨d, .call { callee := .value x, args := as_, argTypes := ts }, ty, pos, af, some (jj, bb)⟩ e w (extR w0 (vcH P N ops w0 rest)) K) (fun e => vcH P N ops w0 rest (e.put d undef) w K) := by rw [← vGuardL_eq]; rfl
theorem h_invoke (x : Operand) (m : String) (as_ : Array Operand) (ts : Array TypeId) : vcH P N ops w0 ((false, ⟨d, .call { callee := .invoke x m, args := as_, argTypes := ts }, ty, pos, af, none⟩) :: rest) e w K = MemK P N ⟨d, .call { callee := .invoke x m, args := as_, argTypes := ts }, ty, pos, af, none⟩ e w (extR w0 (vcH P N ops w0 rest)) K := rfl
theorem hg_invoke (x : Operand) (m : String) (as_ : Array Operand) (ts : Array TypeId) (jj : Nat) (bb : Bool) : vcH P N ops w0 ((false, ⟨d, .call { callee := .invoke x m, args := as_, argTypes := ts }, ty, pos, af, some (jj, bb)⟩) :: rest) e w K = vGuardL ops jj bb e (fun e => MemK P N ⟨d, .call { callee := .invoke x m, args := as_, argTypes := ts }, ty, pos, af, some (jj, bb)⟩ e w (extR w0 (vcH P N ops w0 rest)) K) (fun e => vcH P N ops w0 rest (e.put d undef) w K) := by rw [← vGuardL_eq]; rfl
theorem h_alloc (T : TypeId) : vcH P N ops w0 ((false, ⟨d, .alloc T, ty, pos, af, none⟩) :: rest) e w K = MemK P N ⟨d, .alloc T, ty, pos, af, none⟩ e w (extR w0 (vcH P N ops w0 rest)) K := rfl
theorem hg_alloc (T : TypeId) (jj : Nat) (bb : Bool) : vcH P N ops w0 ((false, ⟨d, .alloc T, ty, pos, af, some (jj, bb)⟩) :: rest) e w K = vGuardL ops jj bb e (fun e => MemK P N ⟨d, .alloc T, ty, pos, af, some (jj, bb)⟩ e w (extR w0 (vcH P N ops w0 rest)) K) (fun e => vcH P N ops w0 rest (e.put d undef) w K) := by rw [← vGuardL_eq]; rfl
theorem h_box (T : TypeId) (x : Operand) : vcH P N ops w0 ((false, ⟨d, .box T x, ty, pos, af, none⟩) :: rest) e w K = MemK P N ⟨d, .box T x, ty, pos, af, none⟩ e w (extR w0 (vcH P N ops w0 rest)) K := rfl
theorem hg_box (T : TypeId) (x : Operand) (jj : Nat) (bb : Bool) : vcH P N ops w0 ((false, ⟨d, .box T x, ty, pos, af, some (jj, bb)⟩) :: rest) e w K = vGuardL ops jj bb e (fun e => MemK P N ⟨d, .box T x, ty, pos, af, some (jj, bb)⟩ e w (extR w0 (vcH P N ops w0 rest)) K) (fun e => vcH P N ops w0 rest (e.put d undef) w K) := by rw [← vGuardL_eq]; rfl
theorem h_buildSlice (T : TypeId) (n : Nat) (ps : Array (Nat × Operand)) : vcH P N ops w0 ((false, ⟨d, .buildSlice T n ps, ty, pos, af, none⟩) :: rest) e w K = MemK P N ⟨d, .buildSlice T n ps, ty, pos, af, none⟩ e w (extR w0 (vcH P N ops w0 rest)) K := rfl
theorem hg_buildSlice (T : TypeId) (n : Nat) (ps : Array (Nat × Operand)) (jj : Nat) (bb : Bool) : vcH P N ops w0 ((false, ⟨d, .buildSlice T n ps, ty, pos, af, some (jj, bb)⟩) :: rest) e w K = vGuardL ops jj bb e (fun e => MemK P N ⟨d, .buildSlice T n ps, ty, pos, af, some (jj, bb)⟩ e w (extR w0 (vcH P N ops w0 rest)) K) (fun e => vcH P N ops w0 rest (e.put d undef) w K) := by rw [← vGuardL_eq]; rfl
theorem h_store (T : TypeId) (x y : Operand) : vcH P N ops w0 ((false, ⟨d, .store T x y, ty, pos, af, none⟩) :: rest) e w K = MemK P N ⟨d, .store T x y, ty, pos, af, none⟩ e w (extR w0 (vcH P N ops w0 rest)) K := rfl
theorem hg_store (T : TypeId) (x y : Operand) (jj : Nat) (bb : Bool) : vcH P N ops w0 ((false, ⟨d, .store T x y, ty, pos, af, some (jj, bb)⟩) :: rest) e w K = vGuardL ops jj bb e (fun e => MemK P N ⟨d, .store T x y, ty, pos, af, some (jj, bb)⟩ e w (extR w0 (vcH P N ops w0 rest)) K) (fun e => vcH P N ops w0 rest (e.put d undef) w K) := by rw [← vGuardL_eq]; rfl
theorem h_makeSlice (T : TypeId) (x y : Operand) : vcH P N ops w0 ((false, ⟨d, .makeSlice T x y, ty, pos, af, none⟩) :: rest) e w K = MemK P N ⟨d, .makeSlice T x y, ty, pos, af, none⟩ e w (extR w0 (vcH P N ops w0 rest)) K := rfl
theorem hg_makeSlice (T : TypeId) (x y : Operand) (jj : Nat) (bb : Bool) : vcH P N ops w0 ((false, ⟨d, .makeSlice T x y, ty, pos, af, some (jj, bb)⟩) :: rest) e w K = vGuardL ops jj bb e (fun e => MemK P N ⟨d, .makeSlice T x y, ty, pos, af, some (jj, bb)⟩ e w (extR w0 (vcH P N ops w0 rest)) K) (fun e => vcH P N ops w0 rest (e.put d undef) w K) := by rw [← vGuardL_eq]; rfl
theorem h_makeMap (T : TypeId) (r : Option Operand) : vcH P N ops w0 ((false, ⟨d, .makeMap T r, ty, pos, af, none⟩) :: rest) e w K = MemK P N ⟨d, .makeMap T r, ty, pos, af, none⟩ e w (extR w0 (vcH P N ops w0 rest)) K := rfl
theorem hg_makeMap (T : TypeId) (r : Option Operand) (jj : Nat) (bb : Bool) : vcH P N ops w0 ((false, ⟨d, .makeMap T r, ty, pos, af, some (jj, bb)⟩) :: rest) e w K = vGuardL ops jj bb e (fun e => MemK P N ⟨d, .makeMap T r, ty, pos, af, some (jj, bb)⟩ e w (extR w0 (vcH P N ops w0 rest)) K) (fun e => vcH P N ops w0 rest (e.put d undef) w K) := by rw [← vGuardL_eq]; rfl
theorem h_lookup (T : TypeId) (x y : Operand) (c : Bool) : vcH P N ops w0 ((false, ⟨d, .lookup T x y c, ty, pos, af, none⟩) :: rest) e w K = MemK P N ⟨d, .lookup T x y c, ty, pos, af, none⟩ e w (extR w0 (vcH P N ops w0 rest)) K := rfl
theorem hg_lookup (T : TypeId) (x y : Operand) (c : Bool) (jj : Nat) (bb : Bool) : vcH P N ops w0 ((false, ⟨d, .lookup T x y c, ty, pos, af, some (jj, bb)⟩) :: rest) e w K = vGuardL ops jj bb e (fun e => MemK P N ⟨d, .lookup T x y c, ty, pos, af, some (jj, bb)⟩ e w (extR w0 (vcH P N ops w0 rest)) K) (fun e => vcH P N ops w0 rest (e.put d undef) w K) := by rw [← vGuardL_eq]; rfl
theorem h_mapUpdate (T : TypeId) (x y z : Operand) : vcH P N ops w0 ((false, ⟨d, .mapUpdate T x y z, ty, pos, af, none⟩) :: rest) e w K = MemK P N ⟨d, .mapUpdate T x y z, ty, pos, af, none⟩ e w (extR w0 (vcH P N ops w0 rest)) K := rfl
theorem hg_mapUpdate (T : TypeId) (x y z : Operand) (jj : Nat) (bb : Bool) : vcH P N ops w0 ((false, ⟨d, .mapUpdate T x y z, ty, pos, af, some (jj, bb)⟩) :: rest) e w K = vGuardL ops jj bb e (fun e => MemK P N ⟨d, .mapUpdate T x y z, ty, pos, af, some (jj, bb)⟩ e w (extR w0 (vcH P N ops w0 rest)) K) (fun e => vcH P N ops w0 rest (e.put d undef) w K) := by rw [← vGuardL_eq]; rfl
theorem h_range (T : TypeId) (x : Operand) : vcH P N ops w0 ((false, ⟨d, .range T x, ty, pos, af, none⟩) :: rest) e w K = MemK P N ⟨d, .range T x, ty, pos, af, none⟩ e w (extR w0 (vcH P N ops w0 rest)) K := rfl
theorem hg_range (T : TypeId) (x : Operand) (jj : Nat) (bb : Bool) : vcH P N ops w0 ((false, ⟨d, .range T x, ty, pos, af, some (jj, bb)⟩) :: rest) e w K = vGuardL ops jj bb e (fun e => MemK P N ⟨d, .range T x, ty, pos, af, some (jj, bb)⟩ e w (extR w0 (vcH P N ops w0 rest)) K) (fun e => vcH P N ops w0 rest (e.put d undef) w K) := by rw [← vGuardL_eq]; rfl
theorem h_next (x : Operand) (s : Bool) : vcH P N ops w0 ((false, ⟨d, .next x s, ty, pos, af, none⟩) :: rest) e w K = MemK P N ⟨d, .next x s, ty, pos, af, none⟩ e w (extR w0 (vcH P N ops w0 rest)) K := rfl
theorem hg_next (x : Operand) (s : Bool) (jj : Nat) (bb : Bool) : vcH P N ops w0 ((false, ⟨d, .next x s, ty, pos, af, some (jj, bb)⟩) :: rest) e w K = vGuardL ops jj bb e (fun e => MemK P N ⟨d, .next x s, ty, pos, af, some (jj, bb)⟩ e w (extR w0 (vcH P N ops w0 rest)) K) (fun e => vcH P N ops w0 rest (e.put d undef) w K) := by rw [← vGuardL_eq]; rfl
theorem h_entry (x : Operand) : vcH P N ops w0 ((false, ⟨d, .entry x, ty, pos, af, none⟩) :: rest) e w K = MemK P N ⟨d, .entry x, ty, pos, af, none⟩ e w (extR w0 (vcH P N ops w0 rest)) K := rfl
theorem hg_entry (x : Operand) (jj : Nat) (bb : Bool) : vcH P N ops w0 ((false, ⟨d, .entry x, ty, pos, af, some (jj, bb)⟩) :: rest) e w K = vGuardL ops jj bb e (fun e => MemK P N ⟨d, .entry x, ty, pos, af, some (jj, bb)⟩ e w (extR w0 (vcH P N ops w0 rest)) K) (fun e => vcH P N ops w0 rest (e.put d undef) w K) := by rw [← vGuardL_eq]; rfl
theorem h_typeAssert (x : Operand) (T T' : TypeId) (c : Bool) : vcH P N ops w0 ((false, ⟨d, .typeAssert x T T' c, ty, pos, af, none⟩) :: rest) e w K = MemK P N ⟨d, .typeAssert x T T' c, ty, pos, af, none⟩ e w (extR w0 (vcH P N ops w0 rest)) K := rfl
theorem hg_typeAssert (x : Operand) (T T' : TypeId) (c : Bool) (jj : Nat) (bb : Bool) : vcH P N ops w0 ((false, ⟨d, .typeAssert x T T' c, ty, pos, af, some (jj, bb)⟩) :: rest) e w K = vGuardL ops jj bb e (fun e => MemK P N ⟨d, .typeAssert x T T' c, ty, pos, af, some (jj, bb)⟩ e w (extR w0 (vcH P N ops w0 rest)) K) (fun e => vcH P N ops w0 rest (e.put d undef) w K) := by rw [← vGuardL_eq]; rfl
theorem h_defer (c : Call) : vcH P N ops w0 ((false, ⟨d, .defer c, ty, pos, af, none⟩) :: rest) e w K = MemK P N ⟨d, .defer c, ty, pos, af, none⟩ e w (extR w0 (vcH P N ops w0 rest)) K := rfl
theorem hg_defer (c : Call) (jj : Nat) (bb : Bool) : vcH P N ops w0 ((false, ⟨d, .defer c, ty, pos, af, some (jj, bb)⟩) :: rest) e w K = vGuardL ops jj bb e (fun e => MemK P N ⟨d, .defer c, ty, pos, af, some (jj, bb)⟩ e w (extR w0 (vcH P N ops w0 rest)) K) (fun e => vcH P N ops w0 rest (e.put d undef) w K) := by rw [← vGuardL_eq]; rfl
theorem h_panic (x : Operand) : vcH P N ops w0 ((false, ⟨d, .panic x, ty, pos, af, none⟩) :: rest) e w K = MemK P N ⟨d, .panic x, ty, pos, af, none⟩ e w (extR w0 (vcH P N ops w0 rest)) K := rfl
theorem hg_panic (x : Operand) (jj : Nat) (bb : Bool) : vcH P N ops w0 ((false, ⟨d, .panic x, ty, pos, af, some (jj, bb)⟩) :: rest) e w K = vGuardL ops jj bb e (fun e => MemK P N ⟨d, .panic x, ty, pos, af, some (jj, bb)⟩ e w (extR w0 (vcH P N ops w0 rest)) K) (fun e => vcH P N ops w0 rest (e.put d undef) w K) := by rw [← vGuardL_eq]; rfl
end
theorem tn1 (a b : Nat) : ((a : Int) + (b : Int)).toNat = a + b := by omega
theorem tn2 (a : Nat) : (a : Int).toNat = a := by omega
theorem tn3 (a k : Nat) : ((a : Int) + (no_index (OfNat.ofNat k : Int))).toNat = a + (OfNat.ofNat k : Nat) := Int.toNat_natCast (a + k)
theorem tn5 (a b : Nat) : ((a : Int) - (b : Int)).toNat = a - b := by omega
theorem tn4 (a k : Nat) : ((a : Int) - (no_index (OfNat.ofNat k : Int))).toNat = a - (OfNat.ofNat k : Nat) := tn5 a k
attribute [go_sem] tn1 tn2 tn3 tn4 tn5
attribute [go_sem ↓] h_nilS extR_eq pw_t pw_f h_move hg_move h_assign hg_assign h_pick hg_pick h_binOp hg_binOp h_unOp hg_unOp h_convert h_convertM hg_convert h_slice hg_slice h_fieldAddr hg_fieldAddr h_field hg_field h_indexAddr hg_indexAddr h_index hg_index h_extract hg_extract h_makeInterface hg_makeInterface h_makeFunc hg_makeFunc h_build hg_build h_load hg_load h_nilCheck hg_nilCheck h_len hg_len h_min hg_min h_max hg_max h_append hg_append h_copy hg_copy h_recover hg_recover h_delete hg_delete h_cap hg_cap h_callv hg_callv h_invoke hg_invoke h_alloc hg_alloc h_box hg_box h_buildSlice hg_buildSlice h_store hg_store h_makeSlice hg_makeSlice h_makeMap hg_makeMap h_lookup hg_lookup h_mapUpdate hg_mapUpdate h_range hg_range h_next hg_next h_entry hg_entry h_typeAssert hg_typeAssert h_defer hg_defer h_panic hg_panic
end Go.Eng
