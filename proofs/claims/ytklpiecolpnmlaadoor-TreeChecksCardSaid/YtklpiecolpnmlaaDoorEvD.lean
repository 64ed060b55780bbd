/- The evaluator: tables of what is known of calls. -/
import Derived.Test.YtklpiecolpnmlaaDoorEvC
namespace Go.Ev
open Go Go.Eng
set_option linter.unusedVariables false
set_option linter.constructorNameAsVariable false
set_option linter.unusedSimpArgs false

mutual
/-- Values that name no memory. -/
inductive Pl : AV → Prop
  | int (k : IntKind) (n : Int) : Pl (.int k n)
  | bool (b : Bool) : Pl (.bool b)
  | str (l : List Nat) : Pl (.str l)
  | nilp : Pl .nilp
  | nils : Pl .nils
  | em : Pl .em
  | nilf : Pl .nilf
  | nili : Pl .nili
  | fn {f : FuncId} {l m : List AV} (h : PlL l) (k : PlL m) : Pl (.fn f l m)
  | agg {l : List AV} (h : PlL l) : Pl (.agg l)
  | tup {l : List AV} (h : PlL l) : Pl (.tup l)
inductive PlL : List AV → Prop
  | nil : PlL []
  | cons {a : AV} {l : List AV} (h : Pl a) (k : PlL l) : PlL (a :: l)
end
mutual
theorem Pl.rel {s t : Mp} : ∀ {a : AV} {v : Value}, Pl a → Rel s a v → Rel t a v
  | _, _, .int _ _, .int k n => .int k n
  | _, _, .bool _, .bool b => .bool b
  | _, _, .str _, .str l h => .str l h
  | _, _, .nilp, .nilp => .nilp
  | _, _, .nils, .nils => .nils
  | _, _, .em, .em a c => .em a c
  | _, _, .nilf, .nilf => .nilf
  | _, _, .nili, .nili => .nili
  | _, _, .fn h1 h2, .fn h k => .fn (h1.rel h) (h2.rel k)
  | _, _, .agg hp, .agg h => .agg (hp.rel h)
  | _, _, .tup hp, .tup h => .tup (hp.rel h)
theorem PlL.rel {s t : Mp} : ∀ {l : List AV} {m : List Value}, PlL l → RelL s l m → RelL t l m
  | _, _, .nil, .nil => .nil
  | _, _, .cons hp hq, .cons h k => .cons (hp.rel h) (hq.rel k)
end

/-- What is known of one call. -/
def KnFact (P : Program) (f : FuncId) (args : List AV) (av : AV) : Prop :=
  ∀ (s : Mp) (w : World) (vs : List Value), RelL s args vs →
    (∀ (w : World) (vs : Array Value), (callFunc f vs).run P w = .ok (.enter f vs) w) ∧ Calls P f vs.toArray w fun e w' => ∃ v, e = .returned v ∧ Rel s av v ∧ Upd [] w w'
abbrev Tab := List (FuncId × (List AV → Option AV))
/-- What is known of calls of a row. -/
abbrev Rw := List (FuncId × Nat × (Nat → List AV → KV → Bool))
noncomputable def look (t : Tab) (f : FuncId) (l : List AV) : Option AV :=
  List.rec (motive := fun _ => Option AV) none (fun p _ ih => Bool.rec ih (Option.rec ih (fun v => some v) (p.2 l)) (Nat.beq f p.1)) t
/-- What is known of one call. -/
noncomputable def at1 (m : List AV) (v : AV) (l : List AV) : Option AV := Bool.rec none (some v) (eqAVL l m)
def TabFact (P : Program) (f : FuncId) (g : List AV → Option AV) : Prop := ∀ l v, g l = some v → KnFact P f l v
noncomputable def lookR (r : Rw) (f : FuncId) : Option (Nat × (Nat → List AV → KV → Bool)) :=
  List.rec (motive := fun _ => Option (Nat × (Nat → List AV → KV → Bool))) none (fun p _ ih => Bool.rec ih (some p.2) (Nat.beq f p.1)) r
def RwFact (P : Program) (f : FuncId) (q : Nat × (Nat → List AV → KV → Bool)) : Prop :=
  ∀ (m : Nat) (l : List AV) (c : KV), q.2 m l c = true → ∀ (s : Mp) (w : World) (vs : List Value) (a : Option Addr) (cap : Nat), RelL s l vs → RS w a m q.1 vs → (m = 0 ∨ ∀ p, a = some p → p.spot = none) →
    (∀ (w : World) (vs : Array Value), (callFunc f vs).run P w = .ok (.enter f vs) w) ∧ Calls P f #[.slice a m cap] w fun e w' => ∃ v av, e = .returned v ∧ Rel s av v ∧ c av = true ∧ Upd [] w w'
theorem eqAVL_s (l m : List AV) (h : eqAVL l m = true) : l = m := by
  have := eqAV_s (.agg l) (.agg m) h
  cases this; rfl
/-- What is known in all. -/
noncomputable abbrev cfg (P : Program) (t : Tab) (r : Rw) : Cfg := ⟨P, look t, lookR r⟩
structure Known (P : Program) (t : Tab) (r : Rw) : Prop where
  mo : P.follows .mixedOrders = true
  t : ∀ p ∈ t, TabFact P p.1 p.2
  r : ∀ p ∈ r, RwFact P p.1 p.2
theorem at1_s {P : Program} {f : FuncId} {m : List AV} {v : AV} (h : KnFact P f m v) : TabFact P f (at1 m v) := by
  intro l v' hk
  have hk : (Bool.rec none (some v) (eqAVL l m) : Option AV) = some v' := hk
  cases hb : eqAVL l m with
  | false => rw [hb] at hk; cases hk
  | true =>
    rw [hb] at hk
    cases hk
    obtain rfl := eqAVL_s _ _ hb
    exact h
theorem look_t {P : Program} {f : FuncId} {args : List AV} {av : AV} : ∀ {t : Tab}, (∀ p ∈ t, TabFact P p.1 p.2) → look t f args = some av → KnFact P f args av := by
  intro t
  induction t with
  | nil => intro _ hk; cases hk
  | cons p t ih =>
    intro h hk
    have hk : (Bool.rec (look t f args) (Option.rec (look t f args) (fun v => some v) (p.2 args)) (Nat.beq f p.1) : Option AV) = some av := hk
    have ih := ih (fun q hq => h q (List.mem_cons_of_mem _ hq))
    cases hb : Nat.beq f p.1 with
    | false => rw [hb] at hk; exact ih hk
    | true =>
      rw [hb] at hk
      obtain rfl := Nat.eq_of_beq_eq_true hb
      cases hg : p.2 args with
      | none => rw [hg] at hk; exact ih hk
      | some v =>
        rw [hg] at hk
        cases hk
        exact h p List.mem_cons_self _ _ hg
theorem look_r {P : Program} {f : FuncId} {q : Nat × (Nat → List AV → KV → Bool)} : ∀ {r : Rw}, (∀ p ∈ r, RwFact P p.1 p.2) → lookR r f = some q → RwFact P f q := by
  intro r
  induction r with
  | nil => intro _ hk; cases hk
  | cons p r ih =>
    intro h hk
    have hk : (Bool.rec (lookR r f) (some p.2) (Nat.beq f p.1) : Option (Nat × (Nat → List AV → KV → Bool))) = some q := hk
    cases hb : Nat.beq f p.1 with
    | false =>
      rw [hb] at hk
      exact ih (fun q hq => h q (List.mem_cons_of_mem _ hq)) hk
    | true =>
      rw [hb] at hk
      obtain rfl := Nat.eq_of_beq_eq_true hb
      cases hk
      exact h p List.mem_cons_self
theorem look_s {P : Program} {t : Tab} {r : Rw} (K : Known P t r) : KnOk (cfg P t r) :=
  ⟨fun f args av hk => look_t K.t hk, fun f q hk => look_r K.r hk⟩
/-- A call that the evaluator has run. -/
theorem fact {P : Program} {t : Tab} {r : Rw} (K : Known P t r) {f : FuncId} {args : List AV} {av : AV} (ha : PlL args) (hv : Pl av) (hk : run (cfg P t r) f args (fun x => eqAV x av) = true) : KnFact P f args av := by
  intro s w vs hr
  have hr := PlL.rel (t := noM) ha hr
  have H : SH P w noM (⟨.e, .e⟩ : Hp) (0, 1000000000) w := ⟨⟨rfl, rfl, rfl, Nat.le_refl _, fun _ _ _ => rfl⟩, fun i B hi => (by cases hi), fun i j B C b c c' hi => (by cases hi), fun _ _ _ => rfl, fun i p hi => (by cases hi), fun i j p q d c c' hi => (by cases hi)⟩
  obtain ⟨h1, h2⟩ := callK_s (codeK_s (C := cfg P t r) (w0 := w) K.mo (look_s K) 1000000 none).1 f args ⟨.e, .e⟩ (0, 1000000000) _ hk noM w vs H hr
  refine ⟨h1, h2.mono fun e w' => ?_⟩
  rintro ⟨v, s', x, h', n', rfl, g1, g2, g3, g4⟩
  obtain rfl := eqAV_s _ _ g4
  exact ⟨v, rfl, Pl.rel hv g2, g3.upd⟩
/-- A call that is known by its contract. -/
theorem fact_does {P : Program} {f : FuncId} {fn : Func} {b : Code} {args : List AV} {av : AV} {us : List Value} {u : Value} (hf : P.funcs[f]? = some fn) (hb : fn.body = some b) (he : enters fn = true) (hus : ∀ s vs, RelL s args vs → vs = us) (hu : ∀ s, Rel s av u)
    (h : ∀ w, Does P f us.toArray w fun v w' => Heap w [] w' [] ∧ v = u) : KnFact P f args av := by
  intro s w vs hr
  obtain rfl := hus s vs hr
  refine ⟨fun w vs => enters_s hf hb he w vs, ?_⟩
  have h1 := h w 0
  rw [drewN0] at h1
  refine h1.mono fun e w' hx => ?_
  obtain ⟨v, w1, m, rfl, rfl, hH, rfl⟩ := hx
  exact ⟨_, rfl, hu s, (hH.upd.drewN 0 m)⟩
theorem fact_true {P : Program} {t : Tab} {r : Rw} (K : Known P t r) {f : FuncId} (hk : run (cfg P t r) f [] isT = true) (w : World) :
    Does P f #[] w fun v w' => Heap w [] w' [] ∧ v = .bool true := run_true (C := cfg P t r) K.mo (look_s K) hk .nil w
theorem k0 {P : Program} (hm : P.follows .mixedOrders = true) : Known P [] [] := ⟨hm, fun p h => (by cases h), fun p h => (by cases h)⟩
theorem Known.fn {P : Program} {t : Tab} {r : Rw} (K : Known P t r) {f : FuncId} {g : List AV → Option AV} (h : TabFact P f g) : Known P ((f, g) :: t) r := ⟨K.mo, fun p hp => by
  rcases List.mem_cons.1 hp with rfl | hp
  · exact h
  · exact K.t p hp, K.r⟩
theorem Known.add {P : Program} {t : Tab} {r : Rw} (K : Known P t r) {f : FuncId} {a : List AV} {v : AV} (h : KnFact P f a v) : Known P ((f, at1 a v) :: t) r := K.fn (at1_s h)
theorem Known.row {P : Program} {t : Tab} {r : Rw} (K : Known P t r) {f : FuncId} {q : Nat × (Nat → List AV → KV → Bool)} (h : RwFact P f q) : Known P t ((f, q) :: r) := ⟨K.mo, K.t, fun p hp => by
  rcases List.mem_cons.1 hp with rfl | hp
  · exact h
  · exact K.r p hp⟩
end Go.Ev
