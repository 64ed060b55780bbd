/- What the proof leans on, part 5: no conditions. -/
import Derived.Test.YtklpiecolpnmlaaDoorC4
import Derived.Laws.StructEq
import Derived.Maps.RangeRun
import Derived.MapKept
namespace Go.Ev
open Go Go.Eng
set_option linter.unusedVariables false
set_option linter.constructorNameAsVariable false
set_option linter.unusedSimpArgs false
mutual
inductive Pl : AV → Prop
  | int (k : IntKind) (n : Int) : Pl (.int k n)
  | bool (b : Bool) : Pl (.bool b)
  | str (l : List Nat) : Pl (.str l)
  | nilp : Pl .nilp
  | nils : Pl .nils
  | em : Pl .em
  | nilf : Pl .nilf
  | nili : Pl .nili
  | fn {f : FuncId} {l m : List AV} (h : PlL l) (k : PlL m) : Pl (.fn f l m)
  | agg {l : List AV} (h : PlL l) : Pl (.agg l)
  | tup {l : List AV} (h : PlL l) : Pl (.tup l)
inductive PlL : List AV → Prop
  | nil : PlL []
  | cons {a : AV} {l : List AV} (h : Pl a) (k : PlL l) : PlL (a :: l)
end
mutual
theorem Pl.rel {s t : Mp} : ∀ {a : AV} {v : Value}, Pl a → Rel s a v → Rel t a v
  | _, _, .int _ _, .int k n => .int k n
  | _, _, .bool _, .bool b => .bool b
  | _, _, .str _, .str l h => .str l h
  | _, _, .nilp, .nilp => .nilp
  | _, _, .nils, .nils => .nils
  | _, _, .em, .em a c => .em a c
  | _, _, .nilf, .nilf => .nilf
  | _, _, .nili, .nili => .nili
  | _, _, .fn h1 h2, .fn h k => .fn (h1.rel h) (h2.rel k)
  | _, _, .agg hp, .agg h => .agg (hp.rel h)
  | _, _, .tup hp, .tup h => .tup (hp.rel h)
theorem PlL.rel {s t : Mp} : ∀ {l : List AV} {m : List Value}, PlL l → RelL s l m → RelL t l m
  | _, _, .nil, .nil => .nil
  | _, _, .cons hp hq, .cons h k => .cons (hp.rel h) (hq.rel k)
end
def KnFact (P : Program) (f : FuncId) (args : List AV) (av : AV) : Prop :=
  ∀ (s : Mp) (w : World) (vs : List Value), RelL s args vs →
    (∀ (w : World) (vs : Array Value), (callFunc f vs).run P w = .ok (.enter f vs) w) ∧ Calls P f vs.toArray w fun e w' => ∃ v, e = .returned v ∧ Rel s av v ∧ Upd [] w w'
abbrev Tab := List (FuncId × (List AV → Option AV))
abbrev Rw := List (FuncId × Nat × (Nat → List AV → KV → Bool))
noncomputable def look (t : Tab) (f : FuncId) (l : List AV) : Option AV :=
  List.rec (motive := fun _ => Option AV) none (fun p _ ih => Bool.rec ih (Option.rec ih (fun v => some v) (p.2 l)) (Nat.beq f p.1)) t
noncomputable def at1 (m : List AV) (v : AV) (l : List AV) : Option AV := Bool.rec none (some v) (eqAVL l m)
def TabFact (P : Program) (f : FuncId) (g : List AV → Option AV) : Prop := ∀ l v, g l = some v → KnFact P f l v
noncomputable def lookR (r : Rw) (f : FuncId) : Option (Nat × (Nat → List AV → KV → Bool)) :=
  List.rec (motive := fun _ => Option (Nat × (Nat → List AV → KV → Bool))) none (fun p _ ih => Bool.rec ih (some p.2) (Nat.beq f p.1)) r
def RwFact (P : Program) (f : FuncId) (q : Nat × (Nat → List AV → KV → Bool)) : Prop :=
  ∀ (m : Nat) (l : List AV) (c : KV), q.2 m l c = true → ∀ (s : Mp) (w : World) (vs : List Value) (a : Option Addr) (cap : Nat), RelL s l vs → RS w a m q.1 vs → (m = 0 ∨ ∀ p, a = some p → p.spot = none) →
    (∀ (w : World) (vs : Array Value), (callFunc f vs).run P w = .ok (.enter f vs) w) ∧ Calls P f #[.slice a m cap] w fun e w' => ∃ v av, e = .returned v ∧ Rel s av v ∧ c av = true ∧ Upd [] w w'
theorem eqAVL_s (l m : List AV) (h : eqAVL l m = true) : l = m := by
  have := eqAV_s (.agg l) (.agg m) h
  cases this; rfl
noncomputable abbrev cfg (P : Program) (t : Tab) (r : Rw) : Cfg := ⟨P, look t, lookR r⟩
structure Known (P : Program) (t : Tab) (r : Rw) : Prop where
  mo : P.follows .mixedOrders = true
  t : ∀ p ∈ t, TabFact P p.1 p.2
  r : ∀ p ∈ r, RwFact P p.1 p.2
theorem at1_s {P : Program} {f : FuncId} {m : List AV} {v : AV} (h : KnFact P f m v) : TabFact P f (at1 m v) := by
  intro l v' hk
  have hk : (Bool.rec none (some v) (eqAVL l m) : Option AV) = some v' := hk
  cases hb : eqAVL l m with
  | false => rw [hb] at hk; cases hk
  | true =>
    rw [hb] at hk
    cases hk
    obtain rfl := eqAVL_s _ _ hb
    exact h
theorem look_t {P : Program} {f : FuncId} {args : List AV} {av : AV} : ∀ {t : Tab}, (∀ p ∈ t, TabFact P p.1 p.2) → look t f args = some av → KnFact P f args av := by
  intro t
  induction t with
  | nil => intro _ hk; cases hk
  | cons p t ih =>
    intro h hk
    have hk : (Bool.rec (look t f args) (Option.rec (look t f args) (fun v => some v) (p.2 args)) (Nat.beq f p.1) : Option AV) = some av := hk
    have ih := ih (fun q hq => h q (List.mem_cons_of_mem _ hq))
    cases hb : Nat.beq f p.1 with
    | false => rw [hb] at hk; exact ih hk
    | true =>
      rw [hb] at hk
      obtain rfl := Nat.eq_of_beq_eq_true hb
      cases hg : p.2 args with
      | none => rw [hg] at hk; exact ih hk
      | some v =>
        rw [hg] at hk
        cases hk
        exact h p List.mem_cons_self _ _ hg
theorem look_r {P : Program} {f : FuncId} {q : Nat × (Nat → List AV → KV → Bool)} : ∀ {r : Rw}, (∀ p ∈ r, RwFact P p.1 p.2) → lookR r f = some q → RwFact P f q := by
  intro r
  induction r with
  | nil => intro _ hk; cases hk
  | cons p r ih =>
    intro h hk
    have hk : (Bool.rec (lookR r f) (some p.2) (Nat.beq f p.1) : Option (Nat × (Nat → List AV → KV → Bool))) = some q := hk
    cases hb : Nat.beq f p.1 with
    | false =>
      rw [hb] at hk
      exact ih (fun q hq => h q (List.mem_cons_of_mem _ hq)) hk
    | true =>
      rw [hb] at hk
      obtain rfl := Nat.eq_of_beq_eq_true hb
      cases hk
      exact h p List.mem_cons_self
theorem look_s {P : Program} {t : Tab} {r : Rw} (K : Known P t r) : KnOk (cfg P t r) :=
  ⟨fun f args av hk => look_t K.t hk, fun f q hk => look_r K.r hk⟩
theorem fact {P : Program} {t : Tab} {r : Rw} (K : Known P t r) {f : FuncId} {args : List AV} {av : AV} (ha : PlL args) (hv : Pl av) (hk : run (cfg P t r) f args (fun x => eqAV x av) = true) : KnFact P f args av := by
  intro s w vs hr
  have hr := PlL.rel (t := noM) ha hr
  have H : SH P w noM (⟨.e, .e⟩ : Hp) (0, 1000000000) w := ⟨⟨rfl, rfl, rfl, Nat.le_refl _, fun _ _ _ => rfl⟩, fun i B hi => (by cases hi), fun i j B C b c c' hi => (by cases hi), fun _ _ _ => rfl, fun i p hi => (by cases hi), fun i j p q d c c' hi => (by cases hi)⟩
  obtain ⟨h1, h2⟩ := callK_s (codeK_s (C := cfg P t r) (w0 := w) K.mo (look_s K) 1000000 none).1 f args ⟨.e, .e⟩ (0, 1000000000) _ hk noM w vs H hr
  refine ⟨h1, h2.mono fun e w' => ?_⟩
  rintro ⟨v, s', x, h', n', rfl, g1, g2, g3, g4⟩
  obtain rfl := eqAV_s _ _ g4
  exact ⟨v, rfl, Pl.rel hv g2, g3.upd⟩
theorem fact_does {P : Program} {f : FuncId} {fn : Func} {b : Code} {args : List AV} {av : AV} {us : List Value} {u : Value} (hf : P.funcs[f]? = some fn) (hb : fn.body = some b) (he : enters fn = true) (hus : ∀ s vs, RelL s args vs → vs = us) (hu : ∀ s, Rel s av u)
    (h : ∀ w, Does P f us.toArray w fun v w' => Heap w [] w' [] ∧ v = u) : KnFact P f args av := by
  intro s w vs hr
  obtain rfl := hus s vs hr
  refine ⟨fun w vs => enters_s hf hb he w vs, ?_⟩
  have h1 := h w 0
  rw [drewN0] at h1
  refine h1.mono fun e w' hx => ?_
  obtain ⟨v, w1, m, rfl, rfl, hH, rfl⟩ := hx
  exact ⟨_, rfl, hu s, (hH.upd.drewN 0 m)⟩
theorem fact_true {P : Program} {t : Tab} {r : Rw} (K : Known P t r) {f : FuncId} (hk : run (cfg P t r) f [] isT = true) (w : World) :
    Does P f #[] w fun v w' => Heap w [] w' [] ∧ v = .bool true := run_true (C := cfg P t r) K.mo (look_s K) hk .nil w
theorem k0 {P : Program} (hm : P.follows .mixedOrders = true) : Known P [] [] := ⟨hm, fun p h => (by cases h), fun p h => (by cases h)⟩
theorem Known.fn {P : Program} {t : Tab} {r : Rw} (K : Known P t r) {f : FuncId} {g : List AV → Option AV} (h : TabFact P f g) : Known P ((f, g) :: t) r := ⟨K.mo, fun p hp => by
  rcases List.mem_cons.1 hp with rfl | hp
  · exact h
  · exact K.t p hp, K.r⟩
theorem Known.add {P : Program} {t : Tab} {r : Rw} (K : Known P t r) {f : FuncId} {a : List AV} {v : AV} (h : KnFact P f a v) : Known P ((f, at1 a v) :: t) r := K.fn (at1_s h)
theorem Known.row {P : Program} {t : Tab} {r : Rw} (K : Known P t r) {f : FuncId} {q : Nat × (Nat → List AV → KV → Bool)} (h : RwFact P f q) : Known P t ((f, q) :: r) := ⟨K.mo, K.t, fun p hp => by
  rcases List.mem_cons.1 hp with rfl | hp
  · exact h
  · exact K.r p hp⟩
end Go.Ev
namespace Go.Proofs.YtklpiecolpnmlaaDoor
open Go Go.Eng
set_option maxRecDepth 100000
set_option maxHeartbeats 1000000
set_option linter.unusedSimpArgs false
set_option linter.unusedVariables false
def nilN : NT := .mk [] false [] none 0 []
def BadP (l : List En) : Prop := ∃ x ∈ l, checkP x.1 ≠ 0
def ApartP (x y : PE) : Prop := ¬ x.1 <+: y.1 ∧ ¬ y.1 <+: x.1
def Clash (l : List En) : Prop := ¬ (l.map toP).Pairwise ApartP
def BuildIs (w : World) (l : List En) (v : Value) (w' : World) : Prop :=
  BadP l ∧ v = .tuple #[nodeA nilN, .int .i64 140] ∧ Heap w [] w' [] ∨
  ¬ BadP l ∧ Clash l ∧ v = .tuple #[nodeA nilN, .int .i64 280] ∧ Heap w [] w' [] ∨
  ¬ BadP l ∧ ¬ Clash l ∧ ∃ (t : NT) (F : List Nat), v = .tuple #[nodeA t, .int .i64 0] ∧ Heap w [] w' [Res.trees F [t]] ∧ t.name = [] ∧ t.dir = true ∧ t.data = [] ∧ goodL (t.kids.map NT.pt) ∧ (flatL (t.kids.map NT.pt)).Perm (l.map toP)
theorem between : ∀ (a b c : Parts), a <+: c → ¬ b < a → ¬ c < b → a <+: b := by
  intro a
  induction a with
  | nil => intro b c _ _ _; exact List.nil_prefix
  | cons h a ih =>
    intro b c hp h1 h2
    obtain ⟨t, rfl⟩ := hp
    cases b with
    | nil => exact absurd (List.nil_lt_cons h a) h1
    | cons k b =>
      rw [List.cons_append] at h2
      rw [List.cons_lt_cons_iff] at h1 h2
      have hk : h = k := List.le_antisymm (fun h3 => h1 (.inl h3)) (fun h3 => h2 (.inl h3))
      subst hk
      rw [List.cons_prefix_cons]
      exact ⟨rfl, ih b (a ++ t) (List.prefix_append _ _) (fun h3 => h1 (.inr ⟨rfl, h3⟩)) (fun h3 => h2 (.inr ⟨rfl, h3⟩))⟩
theorem apart_symm {x y : PE} (h : ApartP x y) : ApartP y x := ⟨h.2, h.1⟩
theorem ord_apart {l : List PE} (h : Ord l) : l.Pairwise ApartP := by
  refine List.Pairwise.imp (fun {a b} hab => ⟨hab.2, fun hp => ?_⟩) h
  obtain ⟨t, ht⟩ := hp
  have := hab.1
  rw [← ht] at this
  have h2 := (lt_app_left b.1 t []).1 (by rw [List.append_nil]; exact this)
  exact absurd h2 (List.not_lt_nil _)
theorem perm_apart {l m : List PE} (h : l.Perm m) : l.Pairwise ApartP ↔ m.Pairwise ApartP := h.pairwise_iff (fun {a b} => apart_symm)
theorem ord_of_neighbours {l : List PE} (hs : l.Pairwise fun a b => ¬ b.1 < a.1) (hn : ∀ i a b, l[i]? = some a → l[i + 1]? = some b → ¬ a.1 <+: b.1) : Ord l := by
  induction l with
  | nil => exact .nil
  | cons x l ih =>
    have hx := List.pairwise_cons.1 hs
    have ho := ih hx.2 fun i a b h1 h2 => hn (i + 1) a b h1 h2
    refine List.pairwise_cons.2 ⟨?_, ho⟩
    cases l with
    | nil => intro y hy; cases hy
    | cons z l =>
      have hz := hn 0 x z rfl rfl
      have hxz : x.1 < z.1 := by
        have h1 := hx.1 z (by simp)
        exact Classical.byContradiction fun h2 => hz (by rw [List.le_antisymm h1 h2]; exact List.prefix_rfl)
      intro y hy
      rcases List.mem_cons.1 hy with rfl | hy
      · exact ⟨hxz, hz⟩
      · have hzy := (List.pairwise_cons.1 ho).1 y hy
        refine ⟨List.lt_trans hxz hzy.1, fun hp => hz (between _ _ _ hp (fun h => List.lt_irrefl _ (List.lt_trans hxz h)) (fun h => List.lt_irrefl _ (List.lt_trans hzy.1 h)))⟩
theorem prefix_iff (x y : En) : (toP x).1 <+: (toP y).1 ↔ (x.1 = y.1 ∨ underS x.1 y.1 = true) := by
  constructor
  · rintro ⟨r, hr⟩
    by_cases h : r = []
    · subst h
      rw [List.append_nil] at hr
      exact .inl (splitS_inj hr)
    · exact .inr ((underS_parts _ _).2 ⟨r, h, hr.symm⟩)
  · rintro (h | h)
    · rw [toP, toP, h]; exact List.prefix_rfl
    · obtain ⟨r, _, hr⟩ := (underS_parts _ _).1 h
      exact ⟨r, hr.symm⟩
theorem ens_get {w : World} {p : Addr} {n : Nat} {l : List En} (h : RS w (some p) n 2 (ensV l)) {i : Nat} {x : En} (hx : l[i]? = some x) : Reads w (p.add (i * 2)) (enV x) := by
  intro j u hu
  have := h.2.2 p rfl (i * 2 + j) u (rowsV_get (k := 2) enV_len l i x hx j u hu)
  rw [addr_add_add]
  exact this
theorem en_cells {w : World} {a : Addr} {x : En} (h : Reads w a (enV x)) : w.cell? a = some (Str x.1) := by
  have := h 0 (Str x.1) rfl
  rw [add_nought] at this
  exact this
theorem sortEn_none : Go.Ev.KnFact Tryd.prog 25 [.nils, .fn 26 [] []] (.tup []) :=
  Go.Ev.fact (Go.Ev.k0 (by kernel_rfl)) (.cons .nils (.cons (.fn .nil .nil) .nil)) (.tup .nil) (by kernel_rfl)
theorem sortEn_none_does (w : World) : Does Tryd.prog 25 #[.slice none 0 0, cmpFn] w fun v w' => Heap w [] w' [] := fun n => by
  obtain ⟨_, h⟩ := sortEn_none Go.Ev.noM (w.drewN n) [.slice none 0 0, cmpFn] (.cons .nils (.cons (.fn .nil .nil) .nil))
  refine h.mono fun e w' ⟨v, he, _, hu⟩ => ⟨v, w', 0, he, rfl, ⟨⟨hu.os, hu.tape, hu.output, hu.size, hu.block⟩, by simp, by simp, .nil⟩⟩
theorem sortRow_does (l : List En) (hT : l.length ≤ 1000000000000) (hok : ∀ t ∈ l, t.1.length ≤ 1000000000) (a : Option Addr) (c : Nat) (w0 w : World) (B : List Nat) (G : List Res) (hL : Heap w0 B w (Res.row 38 2 a l.length c (ensV l) :: G)) :
    Does Tryd.prog 25 #[.slice a l.length c, cmpFn] w fun v w' => ∃ T : List En, T.Perm l ∧ (T.Pairwise fun a b => ¬ splitS b.1 < splitS a.1) ∧ Heap w0 B w' (Res.row 38 2 a T.length c (ensV T) :: G) := by
  obtain ⟨_, _, _, h4⟩ := hL.at 0 rfl
  rcases h4 with ⟨rfl, h0, rfl⟩ | ⟨g, _, _, rfl, _⟩
  · have hnil : l = [] := List.eq_nil_of_length_eq_zero h0
    subst hnil
    refine Does.mono (sortEn_none_does w) fun v w' h => ?_
    exact ⟨[], .nil, .nil, hL.call0 h⟩
  · exact sortEn_does l hT hok g c w0 w B G hL
theorem build_does (l : List En) (a : Option Addr) (c : Nat) (w : World) (hl : RS w a l.length 2 (ensV l)) (hlen : l.length ≤ 1000000000) (hok : ∀ x ∈ l, EnS x) :
    Does Tryd.prog 13 #[.slice a l.length c] w (BuildIs w l) := by
  refine Does_enter (args := [.slice a l.length c]) 58 Tryd.func13 rfl rfl (of_decide_eq_true rfl) ?_
  simp only [Env.ofArgs]
  refine VR [0, 2] rfl rfl fun K hK => ?_; simp only [go_sem,↓reduceIte,Nat.reduceEqDiff]
  refine MemK_alloc (.agg #[.string ⟨#[]⟩, .bool false, .string ⟨#[]⟩, .slice none 0 0]) (by kernel_rfl) ?_
  simp only [go_sem,↓reduceIte,Nat.reduceEqDiff]
  have hH := (Heap.start w).box 24 (nodeV nilN)
  have hn : (nodeV nilN) = [.string ⟨#[]⟩, .bool false, .string ⟨#[]⟩, .slice none 0 0] := rfl
  rw [hn] at hH
  generalize w.alloc (Obj.cells [Value.string ⟨#[]⟩, .bool false, .string ⟨#[]⟩, .slice none 0 0].toArray 24) = w1 at *
  generalize w.heap.size = g at *
  (refine hK _ _ ?_; clear hK)
  refine VR [0, 2, 11, 12, 13] rfl rfl fun K hK => ?_; simp only [go_sem,↓reduceIte,Nat.reduceEqDiff]
  ((repeat refine And.intro (by omega) ?_); refine hK _ _ ?_; clear hK)
  (repeat refine VC_seq ?_)
  refine VC_block ?_
  refine VC_loopS [0, 2, 11, 12, 13] (fun m e w' => ∃ (i : Nat), Is e [(0, .slice a l.length c), (2, ptrV g), (11, .slice a l.length c), (12, .int .i64 l.length), (13, .int .i64 i)] ∧ Heap w [] w' [Res.blk g 24 (nodeV nilN)] ∧ i ≤ l.length ∧ (∀ x ∈ l.take i, checkP x.1 = 0) ∧ m = l.length - i) l.length ?_ ?_
  · simp only [go_sem,↓reduceIte,Nat.reduceEqDiff]
    exact ⟨0, rfl, hH, by omega, by simp, rfl⟩
  clear hH w1
  rintro m e w2 ⟨i, rfl, hH, hi, hpre, rfl⟩
  refine VR [0, 2, 11, 12, 13, 14] rfl rfl fun K hK => ?_; simp only [go_sem,↓reduceIte,Nat.reduceEqDiff]
  ((repeat refine And.intro (by omega) ?_); refine hK _ _ ?_; clear hK)
  (repeat refine VC_seq ?_)
  refine VC_cond rfl rfl (fun h => ?_) (fun h => ?_)
  · simp only [decide_eq_true_eq] at h
    have hi2 : i < l.length := by omega
    refine VC_skip ?_
    ((repeat refine VC_seq ?_); refine VC_block ?_)
    obtain ⟨x, hx⟩ : ∃ x, l[i]? = some x := ⟨_, List.getElem?_eq_getElem hi2⟩
    have hxm := List.mem_of_getElem? hx
    obtain ⟨hx1, hx2⟩ := hok x hxm
    obtain ⟨p, rfl⟩ : ∃ p, a = some p := by
      cases ha : a with
      | none => have := hl.2.1 ha; omega
      | some p => exact ⟨p, rfl⟩
    have hrd := ens_get (hH.rs' hl) hx
    refine VR [0, 2, 5, 11, 12, 13] rfl rfl fun K hK => ?_; simp only [go_sem,↓reduceIte,Nat.reduceEqDiff]
    refine ⟨⟨by omega, by omega⟩, enV x, ⟨rfl, hrd⟩, ?_⟩
    (try simp only [go_sem,↓reduceIte,Nat.reduceEqDiff])
    refine MemK_alloc (.agg #[.string ⟨#[]⟩, .string ⟨#[]⟩]) (by kernel_rfl) ?_
    simp only [go_sem,↓reduceIte,Nat.reduceEqDiff]
    have hHb := hH.box 38 [.string ⟨#[]⟩, .string ⟨#[]⟩]
    generalize w2.alloc (Obj.cells [Value.string ⟨#[]⟩, .string ⟨#[]⟩].toArray 38) = w3 at *
    generalize w2.heap.size = gx at *
    refine MemK_store ?_
    simp only [go_sem,↓reduceIte,Nat.reduceEqDiff]
    refine StoreK_blk hHb 0 (vs := enV x) rfl rfl (by kernel_rfl) (by simp [enV]) (enV_one x) fun w4 hHc => ?_
    have hHc : Heap w [] w4 [Res.blk gx 38 (enV x), Res.blk g 24 (nodeV nilN)] := hHc
    clear hHb hH
    (try simp only [go_sem,↓reduceIte,Nat.reduceEqDiff])
    (refine hK _ _ ?_; clear hK)
    have c1 : w4.cell? ⟨gx, 0, none⟩ = some (Str x.1) := blk_cell (hHc.at 0 rfl) rfl
    refine VR [0, 2, 6, 11, 12, 13] rfl rfl fun K hK => ?_; simp only [go_sem,↓reduceIte,Nat.reduceEqDiff]
    refine ⟨_, c1, ?_⟩
    (try simp only [go_sem,↓reduceIte,Nat.reduceEqDiff])
    refine MemK_call Tryd.call16 ?_; simp only [go_sem,↓reduceIte,Nat.reduceEqDiff]; refine CallK.mk (pcheck_does x.1 w4 hx1) ?_
    rintro v w5 ⟨hHd, rfl⟩
    have hHe : Heap w [] w5 [Res.blk gx 38 (enV x), Res.blk g 24 (nodeV nilN)] := hHc.call0 hHd
    clear hHd hHc
    (try simp only [go_sem,↓reduceIte,Nat.reduceEqDiff])
    (refine hK _ _ ?_; clear hK)
    refine VR [0, 2, 6, 11, 12, 13, 21] rfl rfl fun K hK => ?_; simp only [go_sem,↓reduceIte,Nat.reduceEqDiff]
    ((repeat refine And.intro (by omega) ?_); refine hK _ _ ?_; clear hK)
    refine VC_cond rfl rfl (fun h => ?_) (fun h => VC_skip ?_)
    · have hne : checkP x.1 ≠ 0 := by simpa using h
      have he : checkP x.1 = 140 := by
        unfold checkP at hne ⊢
        split
        · rename_i h3; rw [if_pos h3] at hne; exact absurd rfl hne
        · rfl
      refine VR [2, 3] rfl rfl fun K hK => ?_; simp only [go_sem,↓reduceIte,Nat.reduceEqDiff]
      refine MemK_store ?_
      simp only [go_sem,↓reduceIte,Nat.reduceEqDiff]
      refine StoreK_blk hHe 1 (vs := nodeV nilN) rfl rfl (by kernel_rfl) (by simp [nodeV]) (nodeV_one _) fun w6 hHf => ?_
      (try simp only [go_sem,↓reduceIte,Nat.reduceEqDiff])
      (refine hK _ _ ?_; clear hK)
      refine VC_ret (VX_retC2 rfl rfl rfl (vLoad_blk (hHf.at 1 rfl) (by kernel_rfl) (by kernel_rfl) rfl ?_))
      exact .inl ⟨⟨x, hxm, hne⟩, by rw [he]; rfl, hHf.sub (List.nil_sublist _)⟩
    have he : checkP x.1 = 0 := by simpa using h
    refine VC_blk ?_
    refine VR [0, 2, 11, 12, 13] rfl rfl fun K hK => ?_; simp only [go_sem,↓reduceIte,Nat.reduceEqDiff]
    ((repeat refine And.intro (by omega) ?_); refine hK _ _ ?_; clear hK)
    refine VC_again ?_
    simp only [go_sem,↓reduceIte,Nat.reduceEqDiff]
    refine ⟨l.length - (i + 1), by omega, i + 1, rfl, hHe.sub (.cons _ (.refl _)), by omega, ?_, rfl⟩
    rw [take_snoc hx]
    intro y hy
    rcases List.mem_append.1 hy with hy | hy
    · exact hpre y hy
    · simp at hy; rw [hy]; exact he
  simp only [decide_eq_false_iff_not] at h
  obtain rfl : i = l.length := by omega
  rw [List.take_length] at hpre
  have hnb : ¬ BadP l := fun ⟨x, hx, hne⟩ => hne (hpre x hx)
  clear h hi
  refine VC_exit rfl ?_
  refine VR [2, 7] rfl rfl fun K hK => ?_; simp only [go_sem,↓reduceIte,Nat.reduceEqDiff]
  refine MemK_callD Tryd.call24 (cloneEn_does l a c w2 (hH.rs' hl) (by omega)) (by simp only [go_sem,↓reduceIte,Nat.reduceEqDiff] <;> rfl) ?_
  rintro v w3 ⟨a7, c7, rfl, hHc⟩
  have hH2 : Heap w [] w3 [Res.row 38 2 a7 l.length c7 (ensV l), Res.blk g 24 (nodeV nilN)] := hH.call0 hHc
  clear hHc hH
  (try simp only [go_sem,↓reduceIte,Nat.reduceEqDiff])
  (refine hK _ _ ?_; clear hK)
  refine VR [2, 7] rfl rfl fun K hK => ?_; simp only [go_sem,↓reduceIte,Nat.reduceEqDiff]
  refine MemK_callD Tryd.call25 (sortRow_does l (by omega) (fun x hx => (hok x hx).1) a7 c7 w w3 [] _ hH2) (by simp only [go_sem,↓reduceIte,Nat.reduceEqDiff] <;> rfl) ?_
  rintro v w4 ⟨T, hp, hs, hH3⟩
  clear hH2
  (try simp only [go_sem,↓reduceIte,Nat.reduceEqDiff])
  (refine hK _ _ ?_; clear hK)
  have hTl : T.length = l.length := hp.length_eq
  rw [← hTl] at hlen ⊢
  have hTok : ∀ x ∈ T, EnS x := fun x hx => hok x (hp.mem_iff.1 hx)
  have hpm : (T.map toP).Perm (l.map toP) := hp.map _
  refine VR [2, 7, 8] rfl rfl fun K hK => ?_; simp only [go_sem,↓reduceIte,Nat.reduceEqDiff]
  ((repeat refine And.intro (by omega) ?_); refine hK _ _ ?_; clear hK)
  refine VC_block ?_
  refine VC_loopS [2, 7, 8] (fun m e w' => ∃ (i : Nat), Is e [(2, ptrV g), (7, .slice a7 T.length c7), (8, .int .i64 i)] ∧ Is w' w4 ∧ 1 ≤ i ∧ (∀ j u v, j + 1 < i → T[j]? = some u → T[j + 1]? = some v → ¬ (toP u).1 <+: (toP v).1) ∧ m = T.length + 1 - i) T.length ?_ ?_
  · simp only [go_sem,↓reduceIte,Nat.reduceEqDiff]
    exact ⟨1, rfl, rfl, by omega, fun j u v h => by omega, rfl⟩
  rintro m e w' ⟨i, rfl, rfl, hi1, hpre2, rfl⟩
  refine VR [2, 7, 8, 32] rfl rfl fun K hK => ?_; simp only [go_sem,↓reduceIte,Nat.reduceEqDiff]
  ((repeat refine And.intro (by omega) ?_); refine hK _ _ ?_; clear hK)
  refine VC_cond rfl rfl (fun h => ?_) (fun h => ?_)
  · simp only [decide_eq_true_eq] at h
    have hi2 : i < T.length := by omega
    refine VC_skip ?_
    ((repeat refine VC_seq ?_); refine VC_block ?_)
    obtain ⟨y, hy⟩ : ∃ y, T[i]? = some y := ⟨_, List.getElem?_eq_getElem hi2⟩
    obtain ⟨x, hx⟩ : ∃ x, T[i - 1]? = some x := ⟨_, List.getElem?_eq_getElem (by omega)⟩
    have hyo := (hTok y (List.mem_of_getElem? hy)).1
    have hxo := (hTok x (List.mem_of_getElem? hx)).1
    obtain ⟨g7, rfl⟩ : ∃ g7, a7 = some ⟨g7, 0, none⟩ := by
      obtain ⟨_, _, _, h4 | ⟨g, _, _, h4, _⟩⟩ := hH3.at 0 rfl
      · omega
      · exact ⟨g, h4⟩
    have hrs := row_rs (hH3.at 0 rfl)
    have e1 := en_cells (ens_get hrs hy)
    have e2 := en_cells (ens_get hrs hx)
    simp only [add_mk, Nat.zero_add] at e1 e2
    (repeat refine VC_seq ?_); refine VC_regionQ [2, 7, 8, 9, 10] (by kernel_rfl) (by kernel_rfl) rfl fun K hK => ?_; simp only [go_sem,↓reduceIte,Nat.reduceEqDiff]
    refine And.intro (I64.mk (by omega) (by omega)) (And.intro (And.intro (by omega) (by omega)) ⟨_, e2, And.intro (And.intro (by omega) (by omega)) ⟨_, e1, ?_⟩⟩)
    (refine hK _ ?_; clear hK)
    refine VR [2, 7, 8, 53] rfl rfl fun K hK => ?_; simp only [go_sem,↓reduceIte,Nat.reduceEqDiff]
    suffices out : ∀ b : Bool, (b = true ↔ (toP x).1 <+: (toP y).1) → K [(2, ptrV g), (7, .slice (some ⟨g7, 0, none⟩) T.length c7), (8, .int .i64 i), (53, .bool b)] w' by
      refine And.intro (fun h1 => ?_) (fun h1 => out _ ?_)
      · (try simp only [go_sem,↓reduceIte,Nat.reduceEqDiff])
        refine MemK_call Tryd.call27 ?_; simp only [go_sem,↓reduceIte,Nat.reduceEqDiff]; refine CallK.mk (punder_does x.1 y.1 w' (by omega) (by omega)) ?_
        rintro v w5 ⟨rfl, rfl⟩
        (try simp only [go_sem,↓reduceIte,Nat.reduceEqDiff])
        refine out _ ?_
        rw [prefix_iff]
        simp only [h1, false_or]
      · rw [prefix_iff]; simp [h1]
    intro b hb
    (refine hK _ _ ?_; clear hK)
    refine VC_cond rfl rfl (fun h => ?_) (fun h => VC_skip ?_)
    · have hpr := hb.1 h
      refine VR [2, 3] rfl rfl fun K hK => ?_; simp only [go_sem,↓reduceIte,Nat.reduceEqDiff]
      refine MemK_store ?_
      simp only [go_sem,↓reduceIte,Nat.reduceEqDiff]
      refine StoreK_blk hH3 1 (vs := nodeV nilN) rfl rfl (by kernel_rfl) (by simp [nodeV]) (nodeV_one _) fun w6 hHf => ?_
      (try simp only [go_sem,↓reduceIte,Nat.reduceEqDiff])
      (refine hK _ _ ?_; clear hK)
      refine VC_ret (VX_retC2 rfl rfl rfl (vLoad_blk (hHf.at 1 rfl) (by kernel_rfl) (by kernel_rfl) rfl ?_))
      refine .inr (.inl ⟨hnb, fun hap => ?_, rfl, hHf.sub (List.nil_sublist _)⟩)
      have h1 := (perm_apart hpm).2 hap
      rw [List.pairwise_map, List.pairwise_iff_getElem] at h1
      have h2 := h1 (i - 1) i (by omega) hi2 (by omega)
      rw [List.getElem?_eq_getElem (by omega)] at hx hy
      rw [Option.some.inj hx, Option.some.inj hy] at h2
      exact h2.1 hpr
    have hnp : ¬ (toP x).1 <+: (toP y).1 := fun hh => by rw [hb.2 hh] at h; cases h
    refine VC_blk ?_
    refine VR [2, 7, 8] rfl rfl fun K hK => ?_; simp only [go_sem,↓reduceIte,Nat.reduceEqDiff]
    ((repeat refine And.intro (by omega) ?_); refine hK _ _ ?_; clear hK)
    refine VC_again ?_
    simp only [go_sem,↓reduceIte,Nat.reduceEqDiff]
    refine ⟨T.length + 1 - (i + 1), by omega, i + 1, rfl, rfl, by omega, ?_, rfl⟩
    intro j u v hj hu hv
    by_cases hji : j + 1 = i
    · have : j = i - 1 := by omega
      subst this
      rw [hx] at hu
      rw [hji, hy] at hv
      cases hu
      cases hv
      exact hnp
    · exact hpre2 j u v (by omega) hu hv
  simp only [decide_eq_false_iff_not] at h
  refine VC_exit rfl ?_
  have hord : Ord (T.map toP) := by
    refine ord_of_neighbours (List.pairwise_map.2 hs) ?_
    intro j u v hu hv
    rw [List.getElem?_map] at hu hv
    cases hju : T[j]? with
    | none => rw [hju] at hu; cases hu
    | some u' =>
      cases hjv : T[j + 1]? with
      | none => rw [hjv] at hv; cases hv
      | some v' =>
        rw [hju] at hu
        rw [hjv] at hv
        cases hu
        cases hv
        have := (List.getElem?_eq_some_iff.1 hjv).1
        exact hpre2 j u' v' (by omega) hju hjv
  have hnc : ¬ Clash l := fun hc => hc ((perm_apart hpm).1 (ord_apart hord))
  have hsp : ∀ p, a7 = some p → p.spot = none := by
    intro p hp2
    obtain ⟨_, _, _, h4 | ⟨g, _, _, h4, _⟩⟩ := hH3.at 0 rfl
    · rw [h4.1] at hp2; cases hp2
    · rw [h4] at hp2; cases hp2; rfl
  obtain ⟨mx, hmx⟩ : ∃ mx, ∀ x ∈ T, x.1.length ≤ mx := ⟨1000000000, fun x hx => (hTok x hx).1⟩
  refine VR [2, 3] rfl rfl fun K hK => ?_; simp only [go_sem,↓reduceIte,Nat.reduceEqDiff]
  refine MemK_callD Tryd.call28 (built_does mx T a7 c7 w' hmx hlen hTok hord (row_rs (hH3.at 0 rfl)) (hH3.at 0 rfl).2.1 hsp) (by simp only [go_sem,↓reduceIte,Nat.reduceEqDiff] <;> rfl) ?_
  rintro v w5 ⟨ks, a9, c9, F9, rfl, hHk, hkf, hkg⟩
  have hH4 : Heap w [] w5 [nodeRow a9 ks c9, Res.trees F9 ks, Res.row 38 2 a7 T.length c7 (ensV T), Res.blk g 24 (nodeV nilN)] := hH3.call0 hHk
  clear hHk hH3
  (try simp only [go_sem,↓reduceIte,Nat.reduceEqDiff])
  rw [bd_root]
  have hkl : ks.length ≤ 1000000000 := by
    have := good_len _ hkg
    rw [hkf] at this
    simp at this
    omega
  refine MemK_store ?_
  simp only [go_sem,↓reduceIte,Nat.reduceEqDiff]
  refine StoreK_blk hH4 3 (vs := nodeV (.mk [] true [] a9 c9 ks)) rfl rfl (by kernel_rfl) (by simp [nodeV]) (nodeV_one _) fun w6 hHf => ?_
  (try simp only [go_sem,↓reduceIte,Nat.reduceEqDiff])
  (refine hK _ _ ?_; clear hK)
  refine VC_ret (VX_retC2 rfl rfl rfl (vLoad_blk (hHf.at 3 rfl) (by kernel_rfl) (by kernel_rfl) rfl ?_))
  have hH5 : Heap w [] w6 [nodeRow a9 ks c9, Res.trees F9 ks] := hHf.sub (.cons_cons _ (.cons_cons _ (List.nil_sublist _)))
  have hH6 := heap_dir (nm := []) (hH5.perm (.refl _) |>.perm (.refl _) |> fun h => (heap_trees0 h).perm ((List.Perm.swap _ _ _).trans (.cons _ (.swap _ _ _)))) (by simp) (by omega)
  exact .inr (.inr ⟨hnb, hnc, _, _, rfl, hH6, rfl, rfl, rfl, hkg, by rw [NT.kids, hkf]; exact hpm⟩)
end Go.Proofs.YtklpiecolpnmlaaDoor
namespace Go.Proofs.YtklpiecolpnmlaaDoor
open Go Go.Eng
set_option maxRecDepth 100000
set_option maxHeartbeats 2000000
set_option linter.unusedSimpArgs false
set_option linter.unusedVariables false
theorem sizeN_pos (t : NT) : 0 < sizeN t := by rw [sizeN_eq]; omega
theorem sizeL_len : ∀ l : List NT, l.length ≤ sizeL l := by
  intro l
  induction l with
  | nil => simp
  | cons x l ih =>
    have := sizeN_pos x
    rw [sizeL, List.length_cons]; omega
theorem sizeL_mem {l : List NT} {x : NT} (h : x ∈ l) : sizeN x ≤ sizeL l := by
  induction l with
  | nil => cases h
  | cons y l ih =>
    rw [sizeL]
    rcases List.mem_cons.1 h with rfl | h
    · omega
    · have := ih h; omega
theorem Heap.free {w0 w : World} {B : List Nat} {G : List Res} {r : Res} (h : Heap w0 B w G) (hf : r.foot = []) (hr : r.holds w) : Heap w0 B w (r :: G) := by
  refine ⟨h.upd, ?_, ?_, ?_⟩
  · intro s hs
    rcases List.mem_cons.1 hs with rfl | hs
    · exact hr
    · exact h.holds s hs
  · intro s hs b hb
    rcases List.mem_cons.1 hs with rfl | hs
    · rw [hf] at hb; cases hb
    · exact h.foot s hs b hb
  · rw [List.pairwise_cons]
    exact ⟨fun s _ b hb => (by rw [hf] at hb; cases hb), h.apart⟩
theorem withK_end (ks : List PT) (n : List UInt8) (d : List UInt8) : withK ks [n] d = ks.takeWhile (fun k => decide (k.name < n)) ++ .mk n false d [] :: ks.dropWhile (fun k => decide (k.name < n)) := by
  rw [withK]; simp
theorem withK_new (ks : List PT) (n : List UInt8) (ps : Parts) (d : List UInt8) (hps : ps ≠ []) (h : ∀ k r, ks.dropWhile (fun k => decide (k.name < n)) = k :: r → k.name ≠ n) : withK ks (n :: ps) d = ks.takeWhile (fun k => decide (k.name < n)) ++ .mk n true [] (withK [] ps d) :: ks.dropWhile (fun k => decide (k.name < n)) := by
  rw [withK]
  simp only [hps, if_false]
  cases hd : ks.dropWhile (fun k => decide (k.name < n)) with
  | nil => rfl
  | cons k r => simp only [if_neg (h k r hd)]
theorem withK_old (ks : List PT) (n : List UInt8) (ps : Parts) (d : List UInt8) (hps : ps ≠ []) {k : PT} {r : List PT} (h : ks.dropWhile (fun k => decide (k.name < n)) = k :: r) (hk : k.name = n) : withK ks (n :: ps) d = ks.takeWhile (fun k => decide (k.name < n)) ++ .mk k.name k.dir k.data (withK k.kids ps d) :: r := by
  rw [withK]
  simp only [hps, if_false, h, hk, if_true]
theorem tail_strs {w : World} {q : Addr} {x : List UInt8} {l : Parts} {c : Nat} (hr : RS w (some q) (x :: l).length 1 (strsV (x :: l))) (hs : q.spot = none) (hc : (x :: l).length ≤ c) :
    ∃ p, (if c = 1 then some q else Option.map (fun x : Addr => x.add 1) (some q)) = some p ∧ RS w (some p) l.length 1 (strsV l) ∧ p.spot = none := by
  rw [List.length_cons] at hc
  by_cases h1 : c = 1
  · have : l = [] := List.eq_nil_of_length_eq_zero (by omega)
    subst this
    refine ⟨q, if_pos h1, ⟨rfl, fun h => (by cases h), fun ad ha j u hu => by simp [strsV] at hu⟩, hs⟩
  · refine ⟨q.add 1, if_neg h1, ?_, ?_⟩
    · have := hr.drop hs 1 (by rw [List.length_cons]; omega)
      rw [List.length_cons, Nat.add_sub_cancel] at this
      exact this
    · unfold Addr.add
      split <;> simp_all
theorem rowsV_cons' {α : Type} (f : α → List Value) (x : α) (l : List α) : rowsV f (x :: l) = f x ++ rowsV f l := by simp [rowsV]
theorem bytesLess_eq' (x y : List UInt8) : Op.bytesLess x y = decide (x < y) := Go.Proofs.bytesLess_eq x y
theorem takeWhile_of {α : Type} {l : List α} {p : α → Bool} {i : Nat} (h1 : ∀ x ∈ l.take i, p x = true) (h2 : ∀ x, l[i]? = some x → p x = false) : l.takeWhile p = l.take i ∧ l.dropWhile p = l.drop i := by
  induction l generalizing i with
  | nil => simp
  | cons x l ih =>
    cases i with
    | zero =>
      have := h2 x rfl
      simp [this]
    | succ i =>
      have hx := h1 x (by simp)
      have := ih (i := i) (fun y hy => h1 y (by simp [hy])) (fun y hy => h2 y (by simpa using hy))
      simp [hx, this]
theorem tail_nodes {w : World} {a : Option Addr} {l : List NT} {c : Nat} (hr : RS w a l.length 4 (nodesV l)) (hs : ∀ p, a = some p → p.spot = none) (hc : l.length ≤ c) (i : Nat) (hi : i ≤ l.length) :
    ∃ q : Option Addr, (if c = i then a else Option.map (fun x : Addr => x.add (i * 4)) a) = q ∧ RS w q (l.drop i).length 4 (nodesV (l.drop i)) ∧ (∀ p, q = some p → p.spot = none ∧ ∃ p0, a = some p0 ∧ p.block = p0.block) := by
  refine ⟨_, rfl, ?_⟩
  cases a with
  | none =>
    have h0 := hr.2.1 rfl
    have : l = [] := List.eq_nil_of_length_eq_zero h0
    subst this
    have e : (if c = i then (none : Option Addr) else Option.map (fun x : Addr => x.add (i * 4)) none) = none := by split <;> rfl
    rw [e]
    exact ⟨⟨by simp [nodesV, rowsV], fun _ => by simp, fun ad h => (by cases h)⟩, fun p h => (by cases h)⟩
  | some p =>
    have hp := hs p rfl
    by_cases h1 : c = i
    · rw [if_pos h1]
      have : l.drop i = [] := List.drop_eq_nil_of_le (by omega)
      rw [this]
      exact ⟨⟨rfl, fun h => (by cases h), fun ad ha j u hu => by simp [nodesV, rowsV] at hu⟩, fun q hq => by cases hq; exact ⟨hp, p, rfl, rfl⟩⟩
    · rw [if_neg h1]
      have h2 := hr.drop hp i hi
      have h3 : (nodesV l).drop (i * 4) = nodesV (l.drop i) := by
        have e : nodesV l = nodesV (l.take i) ++ nodesV (l.drop i) := by
          rw [nodesV, nodesV, nodesV, ← rowsV_append, List.take_append_drop]
        have e2 : (nodesV (l.take i)).length = i * 4 := by rw [nodesV_len, List.length_take, Nat.min_eq_left hi]
        rw [e, ← e2, List.drop_left]
      rw [h3] at h2
      rw [List.length_drop]
      refine ⟨h2, fun q hq => ?_⟩
      cases hq
      refine ⟨?_, p, rfl, ?_⟩
      · unfold Addr.add; split <;> simp_all
      · unfold Addr.add; split <;> rfl
theorem nodesV_take (l : List NT) (i : Nat) (hi : i ≤ l.length) : (nodesV l).take (i * 4) = nodesV (l.take i) := by
  have e : nodesV l = nodesV (l.take i) ++ nodesV (l.drop i) := by
    rw [nodesV, nodesV, nodesV, ← rowsV_append, List.take_append_drop]
  have e2 : (nodesV (l.take i)).length = i * 4 := by rw [nodesV_len, List.length_take, Nat.min_eq_left hi]
  rw [e, ← e2, List.take_left]
def WithIs (w : World) (F : List Nat) (t : NT) (parts : Parts) (data : List UInt8) (v : Value) (w' : World) : Prop :=
  ∃ (t' : NT) (F1 : List Nat), v = nodeA t' ∧ Heap w [] w' [Res.mix w F F1 [t']] ∧ t'.name = t.name ∧ t'.dir = t.dir ∧ t'.data = t.data ∧ t'.kids.map NT.pt = withK (t.kids.map NT.pt) parts data
theorem with_does : ∀ (parts : Parts) (t : NT) (F : List Nat) (data : List UInt8) (a : Option Addr) (c : Nat) (w : World), LiesIn F w t → (∀ b ∈ F, b < w.heap.size) → RS w a parts.length 1 (strsV parts) → (∀ p, a = some p → p.spot = none) → parts.length ≤ c → parts ≠ [] →
    (∀ x ∈ parts, x.length ≤ 1000000000) → data.length ≤ 140737488355328 → sizeN t + parts.length ≤ 1000000000 →
    Does Tryd.prog 31 #[nodeA t, .slice a parts.length c, Str data] w (WithIs w F t parts data) := by
  intro parts
  induction parts with
  | nil => intro _ _ _ _ _ _ _ _ _ _ _ h; exact absurd rfl h
  | cons n ps ih =>
  intro t F data a c w hL hF hp hsp hpc _ hpl hd hsz
  have hkl : t.kids.length + (n :: ps).length ≤ 1000000000 := by
    have h1 := sizeN_eq t
    have h2 := sizeL_len t.kids
    omega
  obtain ⟨hFit, hRS, hpla, hcap, hkids⟩ := (LiesIn_iff _ _ _).1 hL
  obtain ⟨q, rfl⟩ : ∃ q, a = some q := by
    cases ha : a with
    | none => have := hp.2.1 ha; simp at this
    | some q => exact ⟨q, rfl⟩
  have hn0 : w.cell? q = some (Str n) := by
    have := hp.2.2 q rfl 0 (Str n) rfl
    rw [add_nought] at this
    exact this
  have hnl := hpl n (by simp)
  refine Does_enter (args := [nodeA t, .slice (some q) (n :: ps).length c, Str data]) 82 Tryd.func31 rfl rfl (of_decide_eq_true rfl) ?_
  simp only [Env.ofArgs]
  refine VR [1, 2, 3, 6] rfl rfl fun K hK => ?_; simp only [go_sem,↓reduceIte,Nat.reduceEqDiff]
  refine MemK_box ?_
  simp only [go_sem,↓reduceIte,Nat.reduceEqDiff]
  have hH := (Heap.start w).box 24 (nodeV t)
  generalize w.alloc (Obj.cells (nodeV t).toArray 24) = w1 at *
  generalize hgw : w.heap.size = g at hH ⊢
  refine MemK_alloc (.agg #[.string ⟨#[]⟩, .bool false, .string ⟨#[]⟩, .slice none 0 0]) (by kernel_rfl) ?_
  simp only [go_sem,↓reduceIte,Nat.reduceEqDiff]
  have hH2 : Heap w [] _ _ := hH.box 24 (nodeV nilN)
  have hn : (nodeV nilN) = [.string ⟨#[]⟩, .bool false, .string ⟨#[]⟩, .slice none 0 0] := rfl
  rw [hn] at hH2
  generalize w1.alloc (Obj.cells [Value.string ⟨#[]⟩, .bool false, .string ⟨#[]⟩, .slice none 0 0].toArray 24) = w2 at *
  generalize w1.heap.size = g6 at *
  rw [← hn] at hH2
  clear hH
  (refine hK _ _ ?_; clear hK)
  refine VR [1, 2, 3, 6, 7] rfl rfl fun K hK => ?_; simp only [go_sem,↓reduceIte,Nat.reduceEqDiff]
  ((repeat refine And.intro (by omega) ?_); refine hK _ _ ?_; clear hK)
  ((repeat refine VC_seq ?_); refine VC_block ?_)
  refine VC_loopS [1, 2, 3, 6, 7] (fun m e w' => ∃ (i : Nat), Is e [(1, .slice (some q) (n :: ps).length c), (2, Str data), (3, ptrV g), (6, ptrV g6), (7, .int .i64 i)] ∧ Is w' w2 ∧ i ≤ t.kids.length ∧ (∀ k ∈ t.kids.take i, k.name < n) ∧ m = t.kids.length - i) t.kids.length ?_ ?_
  · simp only [go_sem,↓reduceIte,Nat.reduceEqDiff]
    exact ⟨0, rfl, rfl, by omega, by simp, rfl⟩
  rintro m e w3 ⟨i, rfl, rfl, hi, hpre, rfl⟩
  have c3 : w3.cell? ⟨g, 3, none⟩ = some (.slice t.place t.kids.length t.cap) := blk_cell (hH2.at 1 rfl) rfl
  have cn : w3.cell? q = some (Str n) := by
    have := (hH2.rs' hp).2.2 q rfl 0 (Str n) rfl
    rw [add_nought] at this
    exact this
  (repeat refine VC_seq ?_); refine VC_regionQ [1, 2, 3, 6, 7, 27] (by kernel_rfl) (by kernel_rfl) rfl fun K hK => ?_; simp only [go_sem, ↓ex_hit c3,↓reduceIte,Nat.reduceEqDiff]
  suffices out : ∀ b : Bool, (b = true ↔ ∃ k, t.kids[i]? = some k ∧ k.name < n) → K [(1, .slice (some q) (n :: ps).length c), (2, Str data), (3, ptrV g), (6, ptrV g6), (7, .int .i64 i), (27, .bool b)] by
    refine And.intro (fun h1 => ?_) (fun h1 => out _ ?_)
    · have hi2 : i < t.kids.length := by omega
      obtain ⟨x, hx⟩ : ∃ x, t.kids[i]? = some x := ⟨_, List.getElem?_eq_getElem hi2⟩
      obtain ⟨pl, hplc⟩ : ∃ pl, t.place = some pl := by
        cases h : t.place with
        | none => have := hRS.2.1 h; omega
        | some pl => exact ⟨pl, rfl⟩
      rw [hplc] at c3 hRS ⊢
      have hrd := rs_node (hH2.rs' hRS) hx
      have hx0 : w3.cell? (pl.add (i * 4)) = some (Str x.name) := by
        have := hrd 0 (Str x.name) rfl
        rw [add_nought] at this
        exact this
      (try simp only [go_sem,↓reduceIte,Nat.reduceEqDiff])
      refine And.intro (And.intro (by omega) (by omega)) ⟨_, hx0, ?_⟩
      refine And.intro (by simp) ⟨_, by rw [show q.add (Int.toNat 0) = q from add_nought q]; exact cn, ?_⟩
      (try simp only [go_sem,↓reduceIte,Nat.reduceEqDiff])
      refine out _ ?_
      rw [bytesLess_eq', decide_eq_true_eq]
      constructor
      · exact fun h => ⟨x, hx, h⟩
      · rintro ⟨k, hk, h⟩
        rw [hx] at hk
        cases hk
        exact h
    · simp only [Bool.false_eq_true, false_iff]
      rintro ⟨k, hk, _⟩
      have := (List.getElem?_eq_some_iff.1 hk).1
      omega
  intro b hb
  (refine hK _ ?_; clear hK)
  refine VC_cond rfl rfl (fun h => ?_) (fun h => ?_)
  · obtain ⟨k, hk, hkn⟩ := hb.1 h
    have hi2 := (List.getElem?_eq_some_iff.1 hk).1
    refine VC_skip ?_
    refine VC_block ?_
    refine VR [1, 2, 3, 6, 7] rfl rfl fun K hK => ?_; simp only [go_sem,↓reduceIte,Nat.reduceEqDiff]
    ((repeat refine And.intro (by omega) ?_); refine hK _ _ ?_; clear hK)
    refine VC_blk ?_
    refine VC_again ?_
    simp only [go_sem,↓reduceIte,Nat.reduceEqDiff]
    refine ⟨t.kids.length - (i + 1), by omega, i + 1, rfl, rfl, by omega, ?_, rfl⟩
    rw [take_snoc hk]
    intro k' hk'
    rcases List.mem_append.1 hk' with h | h
    · exact hpre k' h
    · simp at h; rw [h]; exact hkn
  have hstop : ∀ k, t.kids[i]? = some k → ¬ k.name < n := fun k hk hkn => by rw [hb.2 ⟨k, hk, hkn⟩] at h; cases h
  clear hb h
  refine VC_exit rfl ?_
  have hcut : (t.kids.map NT.pt).takeWhile (fun k => decide (k.name < n)) = (t.kids.take i).map NT.pt ∧ (t.kids.map NT.pt).dropWhile (fun k => decide (k.name < n)) = (t.kids.drop i).map NT.pt := by
    rw [List.map_take, List.map_drop]
    refine takeWhile_of (fun x hx => ?_) (fun x hx => ?_)
    · rw [← List.map_take] at hx
      obtain ⟨k, hk, rfl⟩ := List.mem_map.1 hx
      rw [pt_name, decide_eq_true_eq]
      exact hpre k hk
    · rw [List.getElem?_map] at hx
      cases hk : t.kids[i]? with
      | none => rw [hk] at hx; cases hx
      | some k =>
        rw [hk] at hx
        cases hx
        rw [pt_name, decide_eq_false_iff_not]
        exact hstop k hk
  refine VR [1, 2, 3, 6, 7, 8] rfl rfl fun K hK => ?_; simp only [go_sem,↓reduceIte,Nat.reduceEqDiff]
  refine And.intro (by simp) ⟨_, by rw [show q.add (Int.toNat 0) = q from add_nought q]; exact cn, ?_⟩
  (try simp only [go_sem,↓reduceIte,Nat.reduceEqDiff])
  rw [bd_file]
  refine MemK_alloc (.agg #[.string ⟨#[]⟩, .bool false, .string ⟨#[]⟩, .slice none 0 0]) (by kernel_rfl) ?_
  simp only [go_sem,↓reduceIte,Nat.reduceEqDiff]
  have hH3 : Heap w [] _ _ := hH2.box 24 (nodeV nilN)
  rw [hn] at hH3
  generalize w3.alloc (Obj.cells [Value.string ⟨#[]⟩, .bool false, .string ⟨#[]⟩, .slice none 0 0].toArray 24) = w4 at *
  generalize w3.heap.size = gk at *
  rw [← hn] at hH3
  clear hH2
  refine MemK_store ?_
  simp only [go_sem,↓reduceIte,Nat.reduceEqDiff]
  refine StoreK_blk hH3 0 (vs := nodeV (.mk n false data none 0 [])) rfl rfl (by kernel_rfl) (by simp [nodeV]) (nodeV_one _) fun w5 hH4 => ?_
  have hH4 : Heap w [] w5 [Res.blk gk 24 (nodeV (.mk n false data none 0 [])), Res.blk g6 24 (nodeV nilN), Res.blk g 24 (nodeV t)] := hH4
  clear hH3
  (try simp only [go_sem,↓reduceIte,Nat.reduceEqDiff])
  (refine hK _ _ ?_; clear hK)
  have c3 : w5.cell? ⟨g, 3, none⟩ = some (.slice t.place t.kids.length t.cap) := blk_cell (hH4.at 2 rfl) rfl
  obtain ⟨q9, hq9, hr9, hs9⟩ := tail_nodes hRS (fun p hp => (hpla p hp).2) hcap i hi
  refine VR [1, 2, 3, 6, 7, 8, 9] rfl rfl fun K hK => ?_; simp only [go_sem,↓reduceIte,Nat.reduceEqDiff]
  refine ⟨_, c3, ?_⟩
  (try simp only [go_sem,↓reduceIte,Nat.reduceEqDiff])
  refine And.intro (by omega) ?_
  rw [hq9]
  (refine hK _ _ ?_; clear hK)
  rw [← List.length_drop] at *
  generalize hrl : t.kids.drop i = rl at *
  have hrk : ∀ k ∈ rl, k ∈ t.kids := fun k hk => List.mem_of_mem_drop (by rw [hrl]; exact hk)
  have hrlen : rl.length = t.kids.length - i := by rw [← hrl, List.length_drop]
  have hqb : ∀ p, q9 = some p → p.block < w.heap.size := fun p hp => by
    obtain ⟨_, p0, h1, h2⟩ := hs9 p hp
    rw [h2]
    exact hF _ (hpla p0 h1).1
  refine VR [1, 2, 3, 6, 7, 8, 9, 41] rfl rfl fun K hK => ?_; simp only [go_sem,↓reduceIte,Nat.reduceEqDiff]
  ((repeat refine And.intro (by omega) ?_); refine hK _ _ ?_; clear hK)
  refine VC_cut [3, 6, 7, 8, 9] (fun e w' => ∃ (kn : NT) (rr : List NT) (q8 : Option Addr) (c8 : Nat) (F1 : List Nat), Is e [(3, ptrV g), (6, ptrV g6), (7, .int .i64 i), (8, ptrV gk), (9, .slice q8 rr.length c8)] ∧ Heap w [] w' [Res.mix w F F1 [kn], Res.blk gk 24 (nodeV kn), Res.blk g6 24 (nodeV nilN), Res.blk g 24 (nodeV t)] ∧
      RS w q8 rr.length 4 (nodesV rr) ∧ rr.length ≤ c8 ∧ (∀ k ∈ rr, k ∈ t.kids) ∧ i + rr.length ≤ t.kids.length ∧ (∀ p, q8 = some p → p.block < w.heap.size) ∧ (t.kids.take i).map NT.pt ++ kn.pt :: rr.map NT.pt = withK (t.kids.map NT.pt) (n :: ps) data) ?_ ?_
  · refine VC_cond rfl rfl (fun h => ?_) (fun h => ?_)
    · have hps : ps ≠ [] := by
        rintro rfl
        simp at h
      clear h
      refine VR [1, 2, 3, 6, 7, 8, 9, 10] rfl rfl fun K hK => ?_; simp only [go_sem,↓reduceIte,Nat.reduceEqDiff]
      refine And.intro (by simp) ⟨_, by rw [show q.add (Int.toNat 0) = q from add_nought q]; exact (hH4.rs' hp |> fun h => by have := h.2.2 q rfl 0 (Str n) rfl; rw [add_nought] at this; exact this), ?_⟩
      (try simp only [go_sem,↓reduceIte,Nat.reduceEqDiff])
      rw [bd_dir0]
      refine MemK_alloc (.agg #[.string ⟨#[]⟩, .bool false, .string ⟨#[]⟩, .slice none 0 0]) (by kernel_rfl) ?_
      simp only [go_sem,↓reduceIte,Nat.reduceEqDiff]
      have hH5 : Heap w [] _ _ := hH4.box 24 (nodeV nilN)
      rw [hn] at hH5
      generalize w5.alloc (Obj.cells [Value.string ⟨#[]⟩, .bool false, .string ⟨#[]⟩, .slice none 0 0].toArray 24) = w6 at *
      generalize w5.heap.size = gd at *
      rw [← hn] at hH5
      clear hH4
      refine MemK_store ?_
      simp only [go_sem,↓reduceIte,Nat.reduceEqDiff]
      refine StoreK_blk hH5 0 (vs := nodeV (.mk n true [] none 0 [])) rfl rfl (by kernel_rfl) (by simp [nodeV]) (nodeV_one _) fun w7 hH6 => ?_
      have hH6 : Heap w [] w7 [Res.blk gd 24 (nodeV (.mk n true [] none 0 [])), Res.blk gk 24 (nodeV (.mk n false data none 0 [])), Res.blk g6 24 (nodeV nilN), Res.blk g 24 (nodeV t)] := hH6
      clear hH5
      (try simp only [go_sem,↓reduceIte,Nat.reduceEqDiff])
      (refine hK _ _ ?_; clear hK)
      have cn7 : w7.cell? q = some (Str n) := by
        have := (hH6.rs' hp).2.2 q rfl 0 (Str n) rfl
        rw [add_nought] at this
        exact this
      have hr97 := hH6.rs' hr9
      (repeat refine VC_seq ?_); refine VC_regionQ [1, 2, 3, 6, 7, 8, 9, 10, 58] (by kernel_rfl) (by kernel_rfl) rfl fun K hK => ?_; simp only [go_sem,↓reduceIte,Nat.reduceEqDiff]
      suffices out : ∀ b : Bool, (b = true ↔ ∃ k r', rl = k :: r' ∧ k.name = n) → K [(1, .slice (some q) (n :: ps).length c), (2, Str data), (3, ptrV g), (6, ptrV g6), (7, .int .i64 i), (8, ptrV gk), (9, .slice q9 rl.length (t.cap - i)), (10, ptrV gd), (58, .bool b)] by
        cases hrc : rl with
        | nil =>
          rw [hrc] at out
          refine And.intro (fun h => absurd h (by simp)) (fun _ => out _ (by simp))
        | cons x r' =>
          rw [hrc] at out hr97
          obtain ⟨pl, hplc⟩ : ∃ pl, q9 = some pl := by
            cases h : q9 with
            | none => have := hr97.2.1 h; simp at this
            | some pl => exact ⟨pl, rfl⟩
          rw [hplc] at hr97 out ⊢
          have hx0 : w7.cell? pl = some (Str x.name) := by
            have := hr97.2.2 pl rfl 0 (Str x.name) rfl
            rw [add_nought] at this
            exact this
          refine And.intro (fun _ => ?_) (fun h => absurd (by simp) h)
          (try simp only [go_sem,↓reduceIte,Nat.reduceEqDiff])
          refine And.intro (by simp) ⟨_, by rw [show pl.add (Int.toNat 0 * 4) = pl from add_nought pl]; exact hx0, ?_⟩
          (try simp only [go_sem,↓reduceIte,Nat.reduceEqDiff])
          refine And.intro (by simp) ⟨_, by rw [show q.add (Int.toNat 0) = q from add_nought q]; exact cn7, ?_⟩
          (try simp only [go_sem,↓reduceIte,Nat.reduceEqDiff])
          refine out _ ?_
          rw [decide_eq_true_eq]
          constructor
          · exact fun h => ⟨x, r', rfl, h⟩
          · rintro ⟨k, r2, he, hk⟩
            cases he
            exact hk
      intro b hb
      (refine hK _ ?_; clear hK)
      refine VC_cut [1, 2, 3, 6, 7, 8, 9, 10] (fun e w' => ∃ (dn : NT) (rr : List NT) (q8 : Option Addr) (c8 : Nat), Is e [(1, .slice (some q) (n :: ps).length c), (2, Str data), (3, ptrV g), (6, ptrV g6), (7, .int .i64 i), (8, ptrV gk), (9, .slice q8 rr.length c8), (10, ptrV gd)] ∧ Heap w [] w' [Res.blk gd 24 (nodeV dn), Res.blk gk 24 (nodeV (.mk n false data none 0 [])), Res.blk g6 24 (nodeV nilN), Res.blk g 24 (nodeV t)] ∧
        LiesIn F w dn ∧ sizeN dn < sizeN t + 1 ∧ RS w q8 rr.length 4 (nodesV rr) ∧ rr.length ≤ c8 ∧ (∀ k ∈ rr, k ∈ t.kids) ∧ i + rr.length ≤ t.kids.length ∧ (∀ p, q8 = some p → p.block < w.heap.size) ∧ (t.kids.take i).map NT.pt ++ .mk dn.name dn.dir dn.data (withK (dn.kids.map NT.pt) ps data) :: rr.map NT.pt = withK (t.kids.map NT.pt) (n :: ps) data) ?_ ?_
      · refine VC_cond rfl rfl (fun h => ?_) (fun h => VC_skip ?_)
        · obtain ⟨k, r', hrk2, hkn⟩ := hb.1 h
          clear hb h
          rw [hrk2] at hr97 hr9 hrlen hrk ⊢
          obtain ⟨pl, hplc⟩ : ∃ pl, q9 = some pl := by
            cases h : q9 with
            | none => have := hr97.2.1 h; simp at this
            | some pl => exact ⟨pl, rfl⟩
          have hspl := (hs9 pl hplc).1
          rw [hplc] at hr97 hr9 ⊢
          have hkr : Reads w7 pl (nodeV k) := by
            have := rs_node hr97 (i := 0) (x := k) rfl
            rw [Nat.zero_mul, add_nought] at this
            exact this
          have hkm := hrk k (by simp)
          obtain ⟨qt, hqt, hrt, hst⟩ := tail_nodes hr9 (fun p hp => by cases hp; exact hspl) (by omega : (k :: r').length ≤ t.cap - i) 1 (by simp)
          refine VR [1, 2, 3, 6, 7, 8, 9, 10] rfl rfl fun K hK => ?_; simp only [go_sem,↓reduceIte,Nat.reduceEqDiff]
          refine And.intro (by simp) ⟨nodeV k, ⟨rfl, by rw [show pl.add (Int.toNat 0 * 4) = pl from add_nought pl]; exact hkr⟩, ?_⟩
          (try simp only [go_sem,↓reduceIte,Nat.reduceEqDiff])
          refine MemK_store ?_
          simp only [go_sem,↓reduceIte,Nat.reduceEqDiff]
          refine StoreK_blk hH6 0 (vs := nodeV k) rfl rfl (by kernel_rfl) (by simp [nodeV]) (nodeV_one _) fun w8 hH7 => ?_
          have hH7 : Heap w [] w8 [Res.blk gd 24 (nodeV k), Res.blk gk 24 (nodeV (.mk n false data none 0 [])), Res.blk g6 24 (nodeV nilN), Res.blk g 24 (nodeV t)] := hH7
          clear hH6
          (try simp only [go_sem,↓reduceIte,Nat.reduceEqDiff])
          (refine hK _ _ ?_; clear hK)
          refine VR [1, 2, 3, 6, 7, 8, 9, 10] rfl rfl fun K hK => ?_; simp only [go_sem,↓reduceIte,Nat.reduceEqDiff]
          refine And.intro (by simp at hrlen ⊢; omega) ?_
          (refine hK _ _ ?_; clear hK)
          refine VC_again ?_
          simp only [go_sem,↓reduceIte,Nat.reduceEqDiff]
          have hqb2 : ∀ p, qt = some p → p.block < w.heap.size := fun p hp => by
            obtain ⟨_, p0, h1, h2⟩ := hst p hp
            cases h1
            rw [h2]
            exact hqb _ hplc
          have hszk : sizeN k ≤ sizeL t.kids := sizeL_mem hkm
          have hszt := sizeN_eq t
          refine ⟨k, r', qt, t.cap - i - 1, ?_, hH7, hkids k hkm, by omega, hrt, by simp at hrlen; omega, fun j hj => hrk j (List.mem_cons_of_mem _ hj), by simp at hrlen; omega, hqb2, ?_⟩
          · rw [show Int.toNat 1 = 1 from rfl, hqt]
            rfl
          · have e : (t.kids.map NT.pt).dropWhile (fun k => decide (k.name < n)) = k.pt :: r'.map NT.pt := by rw [hcut.2, hrk2]; rfl
            rw [withK_old _ n ps data hps e (by rw [pt_name]; exact hkn), hcut.1, pt_name, pt_kids, show k.pt.dir = k.dir by rw [pt_eq]; rfl, show k.pt.data = k.data by rw [pt_eq]; rfl]
        · have hno : ∀ k r', rl = k :: r' → k.name ≠ n := fun k r' h1 h2 => by rw [hb.2 ⟨k, r', h1, h2⟩] at h; cases h
          refine VC_again ?_
          simp only [go_sem,↓reduceIte,Nat.reduceEqDiff]
          refine ⟨.mk n true [] none 0 [], rl, q9, t.cap - i, rfl, hH6, ?_, ?_, hr9, by omega, hrk, by omega, hqb, ?_⟩
          · rw [LiesIn_iff]
            exact ⟨⟨by simp [NT.name]; omega, by simp [NT.data], by simp [NT.kids]⟩, ⟨rfl, fun _ => rfl, fun ad ha => (by cases ha)⟩, fun p hp => (by cases hp), Nat.zero_le _, fun j hj => (by cases hj)⟩
          · have h1 := sizeN_pos t
            simp only [sizeN, sizeL]
            omega
          · rw [withK_new _ n ps data hps, hcut.1, hcut.2]
            · rfl
            · rw [hcut.2]
              intro k r hk
              cases hrl2 : rl with
              | nil => rw [hrl2] at hk; cases hk
              | cons j r' =>
                rw [hrl2] at hk
                cases hk
                rw [pt_name]
                exact hno j r' hrl2
      rintro e w8 ⟨dn, rr, q8, c8, rfl, hH7, hdL, hdsz, hr8, hc8, hrr, hirr, hqb8, heq⟩
      clear hb hr97 cn7 hH6
      obtain ⟨qt, hqt, hpt8, hqts⟩ := tail_strs (hH7.rs' hp) (hsp q rfl) hpc
      have hF8 : ∀ b ∈ F, b < w8.heap.size := fun b hb => Nat.lt_of_lt_of_le (hF b hb) hH7.upd.size
      have hdL8 : LiesIn F w8 dn := LiesIn.move (fun _ h => h) (fun b hb => hH7.upd.block b (hF b hb) (by simp)) dn hdL
      have hqs2 : ∀ p, some qt = some p → p.spot = none := fun p hp => (Option.some.inj hp) ▸ hqts
      have hpc2 : ps.length ≤ c - 1 := by rw [List.length_cons] at hpc; omega
      have hsz2 : sizeN dn + ps.length ≤ 1000000000 := by rw [List.length_cons] at hsz; omega
      have hpl2 : ∀ x ∈ ps, x.length ≤ 1000000000 := fun x hx => hpl x (List.mem_cons_of_mem _ hx)
      (repeat refine VC_seq ?_); refine VC_regionL [3, 6, 7, 8, 9] 4 (by kernel_rfl) (by kernel_rfl) (by kernel_rfl) rfl fun K hK => ?_; simp only [go_sem,↓reduceIte,Nat.reduceEqDiff]
      refine ⟨nodeV dn, ⟨rfl, blk_reads (hH7.at 0 rfl)⟩, ?_⟩
      (try simp only [go_sem,↓reduceIte,Nat.reduceEqDiff])
      refine And.intro (by simp at hpc ⊢; omega) ?_
      rw [show (if c = Int.toNat 1 then some q else Option.map (fun x : Addr => x.add (Int.toNat 1)) (some q)) = some qt from hqt]
      refine MemK_callD Tryd.call31 (ih dn F data (some qt) (c - 1) w8 hdL8 hF8 hpt8 hqs2 hpc2 hps hpl2 hd hsz2) (by simp only [go_sem,↓reduceIte,Nat.reduceEqDiff] <;> rfl) ?_
      rintro v w9 ⟨t', F1, rfl, hHc, h1, h2, h3, h4⟩
      have htL := mix_lies hHc (i := 0) rfl hF8
      have hH8 : Heap w [] w9 [Res.mix w8 F F1 [t'], Res.blk gd 24 (nodeV dn), Res.blk gk 24 (nodeV (.mk n false data none 0 [])), Res.blk g6 24 (nodeV nilN), Res.blk g 24 (nodeV t)] := hH7.call0 hHc
      have hH9 : Heap w [] w9 [Res.mix w F F1 [t'], Res.blk gd 24 (nodeV dn), Res.blk gk 24 (nodeV (.mk n false data none 0 [])), Res.blk g6 24 (nodeV nilN), Res.blk g 24 (nodeV t)] := hH8.view (r' := Res.mix w F F1 [t']) 0 rfl (fun _ => mix_of hH8 htL) (fun b hb => hb)
      clear hH7 hH8 hHc
      (try simp only [go_sem,↓reduceIte,Nat.reduceEqDiff])
      refine MemK_store ?_
      simp only [go_sem,↓reduceIte,Nat.reduceEqDiff]
      refine StoreK_blk hH9 2 (vs := nodeV t') rfl rfl (by kernel_rfl) (by simp [nodeV]) (nodeV_one _) fun w10 hHa => ?_
      have hHa : Heap w [] w10 [Res.mix w F F1 [t'], Res.blk gd 24 (nodeV dn), Res.blk gk 24 (nodeV t'), Res.blk g6 24 (nodeV nilN), Res.blk g 24 (nodeV t)] := hHa
      (try simp only [go_sem,↓reduceIte,Nat.reduceEqDiff])
      (refine hK _ _ ?_; clear hK)
      refine VC_again ?_
      simp only [go_sem,↓reduceIte,Nat.reduceEqDiff]
      refine ⟨t', rr, q8, c8, F1, rfl, hHa.sub (.cons_cons _ (.cons _ (.refl _))), hr8, hc8, hrr, hirr, hqb8, ?_⟩
      rw [← heq, pt_eq t', h1, h2, h3, h4]
    · have hps : ps = [] := by
        cases ps with
        | nil => rfl
        | cons x ps => simp at h; omega
      subst hps
      refine VC_skip ?_
      refine VC_again ?_
      simp only [go_sem,↓reduceIte,Nat.reduceEqDiff]
      have hkL : LiesIn (F ++ []) w5 (.mk n false data none 0 []) := by
        rw [LiesIn_iff]
        exact ⟨⟨by simp [NT.name]; omega, hd, by simp [NT.kids]⟩, ⟨rfl, fun _ => rfl, fun ad ha => (by cases ha)⟩, fun p hp => (by cases hp), Nat.zero_le _, fun j hj => (by cases hj)⟩
      refine ⟨.mk n false data none 0 [], rl, q9, t.cap - i, [], rfl, Heap.free hH4 rfl (mix_of hH4 (by simpa using hkL)), hr9, by omega, hrk, by omega, hqb, ?_⟩
      rw [withK_end, hcut.1, hcut.2]
      rfl
  rintro e w8 ⟨kn, rr, q8, c8, F1, rfl, hH5, hr8, hc8, hrr, hirr, hqb8, heq⟩
  clear hcut hH4 hr9 hs9 hrk hrlen hrl c3 cn hstop hpre
  have hknL := mix_lies hH5 (i := 0) rfl hF kn (by simp)
  have hf := hH5.focus 3 rfl
  have hkr : Reads (holes (Res.blk g 24 (nodeV t)).foot w8) ⟨gk, 0, none⟩ (nodeV kn) := fun j u hu => by
    rw [add_mk, Nat.zero_add]
    exact hH5.hole_at 3 1 rfl rfl (by decide) hu
  have hR1 : RS w8 t.place i 4 (nodesV (t.kids.take i)) := by
    have := (hH5.rs' hRS).take i hi
    rw [nodesV_take _ _ hi] at this
    exact this
  have hR2 := hH5.rs' hr8
  have hne1 : ∀ ad, t.place = some ad → ad.block ∉ (Res.blk g 24 (nodeV t)).foot := fun ad ha hb => by
    have h1 := hF _ (hpla ad ha).1
    simp [Res.blk] at hb
    omega
  have hne2 : ∀ ad, q8 = some ad → ad.block ∉ (Res.blk g 24 (nodeV t)).foot := fun ad ha hb => by
    have h1 := hqb8 ad ha
    simp [Res.blk] at hb
    omega
  have hlt : (t.kids.take i).length = i := by rw [List.length_take, Nat.min_eq_left hi]
  have hkl9 : t.kids.length ≤ 1000000000 := by omega
  (repeat refine VC_seq ?_); refine VC_regionT3 (holes (Res.blk g 24 (nodeV t)).foot w8) (Upd.refl _ _).extH [3, 6] (.three [(1, true), (3, true), (6, true), (9, true)] 0 2 7 (.two [] 2 7 (.two [(4, true)] 5 7 (.seq [(7, false), (8, false), (10, false), (11, true), (12, false)]) (.seq [(5, false), (8, false), (10, false), (11, true), (12, false)])) (.seq [(2, false), (4, true), (5, false), (8, false), (10, false), (11, true), (12, false)])) (.two [(4, true)] 0 7 (.two [] 5 7 (.seq [(7, false), (8, false), (10, false), (11, true), (12, false)]) (.seq [(5, false), (8, false), (10, false), (11, true), (12, false)])) (.seq [(0, false), (5, false), (8, false), (10, false), (11, true), (12, false)])) (.two [] 0 2 (.seq [(2, false), (4, true), (5, false), (8, false), (10, false), (11, true), (12, false)]) (.seq [(4, true), (0, false), (5, false), (8, false), (10, false), (11, true), (12, false)]))) (by kernel_rfl) (by kernel_rfl) rfl fun K hK => ?_
  suffices outk : ∀ (gl : Nat) (a' : Option Addr) (c' : Nat) (w' : World), Heap w8 (Res.blk g 24 (nodeV t)).foot w' [Res.row 24 4 (some ⟨gl, 0, none⟩) 1 1 (nodeV kn), Res.row 24 4 a' (i + 1 + rr.length) c' (nodesV (t.kids.take i) ++ nodeV kn ++ nodesV rr), Res.blk g 24 [Str t.name, .bool t.dir, Str t.data, .slice a' (i + 1 + rr.length) c']] → K [(3, ptrV g), (6, ptrV g6)] w' by
    have hgz : ∀ {wz : World} {Gz : List Res}, Heap w8 (Res.blk g 24 (nodeV t)).foot wz (Res.blk g 24 (nodeV t) :: Gz) → wz.cell? ⟨g, 2 + 1, none⟩ = some (.slice t.place t.kids.length t.cap) := fun h => blk_cell (h.at 0 rfl) rfl
    simp only [vcT3, planned, List.filterMap_cons, List.filterMap_nil, List.getElem?_cons_succ, List.getElem?_cons_zero, Option.map_some]; simp only [go_sem,↓reduceIte,Nat.reduceEqDiff]
    simp only [vcH_nil2]
    (try simp only [go_sem,↓reduceIte,Nat.reduceEqDiff])
    refine ⟨nodeV kn, ⟨rfl, hkr⟩, ?_⟩
    (try simp only [go_sem,↓reduceIte,Nat.reduceEqDiff])
    refine And.intro ?_ (And.intro ?_ ?_)
    · refine MemK_lit0 hf 4 Tryd.underlying22 sz24 (z := .agg #[.string ⟨#[]⟩, .bool false, .string ⟨#[]⟩, .slice none 0 0]) (by kernel_rfl) rfl fun ga wz hf => ?_; refine ⟨hf.upd.extH, ?_⟩; (try simp only [vcH_nil2]); (try simp only [go_sem,↓reduceIte,Nat.reduceEqDiff])
      refine And.intro ?_ ?_
      · have hg := hgz (hf.perm (.swap _ _ _))
        refine ⟨_, hg, ?_⟩; (try simp only [vcH_nil2]); (try simp only [go_sem,↓reduceIte,Nat.reduceEqDiff])
        refine And.intro (And.intro (by omega) (by omega)) (And.intro ?_ ?_)
        · refine MemK_append ?_; simp only [go_sem,↓reduceIte,Nat.reduceEqDiff]; refine AppK_row (zs := #[.string ⟨#[]⟩, .bool false, .string ⟨#[]⟩, .slice none 0 0]) (bytes := 64) hf 0 rfl Tryd.underlying22 (by kernel_rfl) rfl (m := i) (news := nodesV (t.kids.take i)) ⟨rfl, hf.rs hR1 hne1, 24, Tryd.underlying22⟩ (nodesV_one _) (fun h => by omega) fun aa ca wx hca hf => ?_; simp only [List.set_cons_succ, List.set_cons_zero, List.nil_append, Nat.zero_add] at hf; refine ⟨hf.upd.extH, ?_⟩; (try simp only [vcH_nil2]); (try simp only [go_sem,↓reduceIte,Nat.reduceEqDiff])
          refine MemK_litK hf 4 (nodeV kn) (xs := [.tmp 75]) Tryd.underlying22 sz24 rfl rfl rfl (by omega) (by omega) ?_; simp only [go_sem,↓reduceIte,Nat.reduceEqDiff]; refine ⟨by simp [nodeV, Value.cells], by simp [nodeV, Value.cells], fun gl wy hf => ?_⟩; refine ⟨hf.upd.extH, ?_⟩; (try simp only [vcH_nil2]); (try simp only [go_sem,↓reduceIte,Nat.reduceEqDiff])
          refine MemK_append ?_; simp only [go_sem,↓reduceIte,Nat.reduceEqDiff]; refine AppK_row (zs := #[.string ⟨#[]⟩, .bool false, .string ⟨#[]⟩, .slice none 0 0]) (bytes := 64) hf 1 rfl Tryd.underlying22 (by kernel_rfl) rfl (m := 1) (news := nodeV kn) ⟨rfl, row_rs (hf.at 0 rfl), 24, Tryd.underlying22⟩ (nodeV_one _) (fun h => by omega) fun ab cb wv hcb hf => ?_; simp only [List.set_cons_succ, List.set_cons_zero] at hf; refine ⟨hf.upd.extH, ?_⟩; (try simp only [vcH_nil2]); (try simp only [go_sem,↓reduceIte,Nat.reduceEqDiff]); refine MemK_append ?_; simp only [go_sem,↓reduceIte,Nat.reduceEqDiff]; refine AppK_row (zs := #[.string ⟨#[]⟩, .bool false, .string ⟨#[]⟩, .slice none 0 0]) (bytes := 64) hf 1 rfl Tryd.underlying22 (by kernel_rfl) rfl (m := rr.length) (news := nodesV rr) ⟨rfl, hf.rs hR2 hne2, 24, Tryd.underlying22⟩ (nodesV_one _) (fun h => by omega) fun ac cc wu hcc hf => ?_; simp only [List.set_cons_succ, List.set_cons_zero] at hf; refine ⟨hf.upd.extH, ?_⟩; (try simp only [vcH_nil2]); (try simp only [go_sem,↓reduceIte,Nat.reduceEqDiff]); refine MemK_store ?_; simp only [go_sem,↓reduceIte,Nat.reduceEqDiff]; refine StoreK_blk hf 2 (o := 3) (vs := [.slice ac (i + 1 + rr.length) cc]) rfl rfl (by kernel_rfl) (by simp [nodeV]) (by simp [Value.oneCell']) fun wt hf => ?_; refine ⟨hf.upd.extH, ?_⟩; (try simp only [vcH_nil2]); (try simp only [go_sem,↓reduceIte,Nat.reduceEqDiff]); exact outk _ _ _ _ hf
        · refine MemK_litK hf 4 (nodeV kn) (xs := [.tmp 75]) Tryd.underlying22 sz24 rfl rfl rfl (by omega) (by omega) ?_; simp only [go_sem,↓reduceIte,Nat.reduceEqDiff]; refine ⟨by simp [nodeV, Value.cells], by simp [nodeV, Value.cells], fun gl wy hf => ?_⟩; refine ⟨hf.upd.extH, ?_⟩; (try simp only [vcH_nil2]); (try simp only [go_sem,↓reduceIte,Nat.reduceEqDiff])
          refine MemK_append ?_; simp only [go_sem,↓reduceIte,Nat.reduceEqDiff]; refine AppK_row (zs := #[.string ⟨#[]⟩, .bool false, .string ⟨#[]⟩, .slice none 0 0]) (bytes := 64) hf 1 rfl Tryd.underlying22 (by kernel_rfl) rfl (m := i) (news := nodesV (t.kids.take i)) ⟨rfl, hf.rs hR1 hne1, 24, Tryd.underlying22⟩ (nodesV_one _) (fun h => by omega) fun aa ca wx hca hf => ?_; simp only [List.set_cons_succ, List.set_cons_zero, List.nil_append, Nat.zero_add] at hf; refine ⟨hf.upd.extH, ?_⟩; (try simp only [vcH_nil2]); (try simp only [go_sem,↓reduceIte,Nat.reduceEqDiff])
          refine MemK_append ?_; simp only [go_sem,↓reduceIte,Nat.reduceEqDiff]; refine AppK_row (zs := #[.string ⟨#[]⟩, .bool false, .string ⟨#[]⟩, .slice none 0 0]) (bytes := 64) hf 1 rfl Tryd.underlying22 (by kernel_rfl) rfl (m := 1) (news := nodeV kn) ⟨rfl, row_rs (hf.at 0 rfl), 24, Tryd.underlying22⟩ (nodeV_one _) (fun h => by omega) fun ab cb wv hcb hf => ?_; simp only [List.set_cons_succ, List.set_cons_zero] at hf; refine ⟨hf.upd.extH, ?_⟩; (try simp only [vcH_nil2]); (try simp only [go_sem,↓reduceIte,Nat.reduceEqDiff]); refine MemK_append ?_; simp only [go_sem,↓reduceIte,Nat.reduceEqDiff]; refine AppK_row (zs := #[.string ⟨#[]⟩, .bool false, .string ⟨#[]⟩, .slice none 0 0]) (bytes := 64) hf 1 rfl Tryd.underlying22 (by kernel_rfl) rfl (m := rr.length) (news := nodesV rr) ⟨rfl, hf.rs hR2 hne2, 24, Tryd.underlying22⟩ (nodesV_one _) (fun h => by omega) fun ac cc wu hcc hf => ?_; simp only [List.set_cons_succ, List.set_cons_zero] at hf; refine ⟨hf.upd.extH, ?_⟩; (try simp only [vcH_nil2]); (try simp only [go_sem,↓reduceIte,Nat.reduceEqDiff]); refine MemK_store ?_; simp only [go_sem,↓reduceIte,Nat.reduceEqDiff]; refine StoreK_blk hf 2 (o := 3) (vs := [.slice ac (i + 1 + rr.length) cc]) rfl rfl (by kernel_rfl) (by simp [nodeV]) (by simp [Value.oneCell']) fun wt hf => ?_; refine ⟨hf.upd.extH, ?_⟩; (try simp only [vcH_nil2]); (try simp only [go_sem,↓reduceIte,Nat.reduceEqDiff]); exact outk _ _ _ _ hf
      · refine MemK_litK hf 4 (nodeV kn) (xs := [.tmp 75]) Tryd.underlying22 sz24 rfl rfl rfl (by omega) (by omega) ?_; simp only [go_sem,↓reduceIte,Nat.reduceEqDiff]; refine ⟨by simp [nodeV, Value.cells], by simp [nodeV, Value.cells], fun gl wy hf => ?_⟩; refine ⟨hf.upd.extH, ?_⟩; (try simp only [vcH_nil2]); (try simp only [go_sem,↓reduceIte,Nat.reduceEqDiff])
        have hg := hgz (hf.perm (List.perm_append_comm (l₁ := [_, _]) (l₂ := [_])))
        refine ⟨_, hg, ?_⟩; (try simp only [vcH_nil2]); (try simp only [go_sem,↓reduceIte,Nat.reduceEqDiff])
        refine And.intro (And.intro (by omega) (by omega)) ?_
        refine MemK_append ?_; simp only [go_sem,↓reduceIte,Nat.reduceEqDiff]; refine AppK_row (zs := #[.string ⟨#[]⟩, .bool false, .string ⟨#[]⟩, .slice none 0 0]) (bytes := 64) hf 1 rfl Tryd.underlying22 (by kernel_rfl) rfl (m := i) (news := nodesV (t.kids.take i)) ⟨rfl, hf.rs hR1 hne1, 24, Tryd.underlying22⟩ (nodesV_one _) (fun h => by omega) fun aa ca wx hca hf => ?_; simp only [List.set_cons_succ, List.set_cons_zero, List.nil_append, Nat.zero_add] at hf; refine ⟨hf.upd.extH, ?_⟩; (try simp only [vcH_nil2]); (try simp only [go_sem,↓reduceIte,Nat.reduceEqDiff])
        refine MemK_append ?_; simp only [go_sem,↓reduceIte,Nat.reduceEqDiff]; refine AppK_row (zs := #[.string ⟨#[]⟩, .bool false, .string ⟨#[]⟩, .slice none 0 0]) (bytes := 64) hf 1 rfl Tryd.underlying22 (by kernel_rfl) rfl (m := 1) (news := nodeV kn) ⟨rfl, row_rs (hf.at 0 rfl), 24, Tryd.underlying22⟩ (nodeV_one _) (fun h => by omega) fun ab cb wv hcb hf => ?_; simp only [List.set_cons_succ, List.set_cons_zero] at hf; refine ⟨hf.upd.extH, ?_⟩; (try simp only [vcH_nil2]); (try simp only [go_sem,↓reduceIte,Nat.reduceEqDiff]); refine MemK_append ?_; simp only [go_sem,↓reduceIte,Nat.reduceEqDiff]; refine AppK_row (zs := #[.string ⟨#[]⟩, .bool false, .string ⟨#[]⟩, .slice none 0 0]) (bytes := 64) hf 1 rfl Tryd.underlying22 (by kernel_rfl) rfl (m := rr.length) (news := nodesV rr) ⟨rfl, hf.rs hR2 hne2, 24, Tryd.underlying22⟩ (nodesV_one _) (fun h => by omega) fun ac cc wu hcc hf => ?_; simp only [List.set_cons_succ, List.set_cons_zero] at hf; refine ⟨hf.upd.extH, ?_⟩; (try simp only [vcH_nil2]); (try simp only [go_sem,↓reduceIte,Nat.reduceEqDiff]); refine MemK_store ?_; simp only [go_sem,↓reduceIte,Nat.reduceEqDiff]; refine StoreK_blk hf 2 (o := 3) (vs := [.slice ac (i + 1 + rr.length) cc]) rfl rfl (by kernel_rfl) (by simp [nodeV]) (by simp [Value.oneCell']) fun wt hf => ?_; refine ⟨hf.upd.extH, ?_⟩; (try simp only [vcH_nil2]); (try simp only [go_sem,↓reduceIte,Nat.reduceEqDiff]); exact outk _ _ _ _ hf
    · have hg := hgz hf
      refine ⟨_, hg, ?_⟩; (try simp only [vcH_nil2]); (try simp only [go_sem,↓reduceIte,Nat.reduceEqDiff])
      refine And.intro (And.intro (by omega) (by omega)) (And.intro ?_ ?_)
      · refine MemK_lit0 hf 4 Tryd.underlying22 sz24 (z := .agg #[.string ⟨#[]⟩, .bool false, .string ⟨#[]⟩, .slice none 0 0]) (by kernel_rfl) rfl fun ga wz hf => ?_; refine ⟨hf.upd.extH, ?_⟩; (try simp only [vcH_nil2]); (try simp only [go_sem,↓reduceIte,Nat.reduceEqDiff])
        refine And.intro ?_ ?_
        · refine MemK_append ?_; simp only [go_sem,↓reduceIte,Nat.reduceEqDiff]; refine AppK_row (zs := #[.string ⟨#[]⟩, .bool false, .string ⟨#[]⟩, .slice none 0 0]) (bytes := 64) hf 0 rfl Tryd.underlying22 (by kernel_rfl) rfl (m := i) (news := nodesV (t.kids.take i)) ⟨rfl, hf.rs hR1 hne1, 24, Tryd.underlying22⟩ (nodesV_one _) (fun h => by omega) fun aa ca wx hca hf => ?_; simp only [List.set_cons_succ, List.set_cons_zero, List.nil_append, Nat.zero_add] at hf; refine ⟨hf.upd.extH, ?_⟩; (try simp only [vcH_nil2]); (try simp only [go_sem,↓reduceIte,Nat.reduceEqDiff])
          refine MemK_litK hf 4 (nodeV kn) (xs := [.tmp 75]) Tryd.underlying22 sz24 rfl rfl rfl (by omega) (by omega) ?_; simp only [go_sem,↓reduceIte,Nat.reduceEqDiff]; refine ⟨by simp [nodeV, Value.cells], by simp [nodeV, Value.cells], fun gl wy hf => ?_⟩; refine ⟨hf.upd.extH, ?_⟩; (try simp only [vcH_nil2]); (try simp only [go_sem,↓reduceIte,Nat.reduceEqDiff])
          refine MemK_append ?_; simp only [go_sem,↓reduceIte,Nat.reduceEqDiff]; refine AppK_row (zs := #[.string ⟨#[]⟩, .bool false, .string ⟨#[]⟩, .slice none 0 0]) (bytes := 64) hf 1 rfl Tryd.underlying22 (by kernel_rfl) rfl (m := 1) (news := nodeV kn) ⟨rfl, row_rs (hf.at 0 rfl), 24, Tryd.underlying22⟩ (nodeV_one _) (fun h => by omega) fun ab cb wv hcb hf => ?_; simp only [List.set_cons_succ, List.set_cons_zero] at hf; refine ⟨hf.upd.extH, ?_⟩; (try simp only [vcH_nil2]); (try simp only [go_sem,↓reduceIte,Nat.reduceEqDiff]); refine MemK_append ?_; simp only [go_sem,↓reduceIte,Nat.reduceEqDiff]; refine AppK_row (zs := #[.string ⟨#[]⟩, .bool false, .string ⟨#[]⟩, .slice none 0 0]) (bytes := 64) hf 1 rfl Tryd.underlying22 (by kernel_rfl) rfl (m := rr.length) (news := nodesV rr) ⟨rfl, hf.rs hR2 hne2, 24, Tryd.underlying22⟩ (nodesV_one _) (fun h => by omega) fun ac cc wu hcc hf => ?_; simp only [List.set_cons_succ, List.set_cons_zero] at hf; refine ⟨hf.upd.extH, ?_⟩; (try simp only [vcH_nil2]); (try simp only [go_sem,↓reduceIte,Nat.reduceEqDiff]); refine MemK_store ?_; simp only [go_sem,↓reduceIte,Nat.reduceEqDiff]; refine StoreK_blk hf 2 (o := 3) (vs := [.slice ac (i + 1 + rr.length) cc]) rfl rfl (by kernel_rfl) (by simp [nodeV]) (by simp [Value.oneCell']) fun wt hf => ?_; refine ⟨hf.upd.extH, ?_⟩; (try simp only [vcH_nil2]); (try simp only [go_sem,↓reduceIte,Nat.reduceEqDiff]); exact outk _ _ _ _ hf
        · refine MemK_litK hf 4 (nodeV kn) (xs := [.tmp 75]) Tryd.underlying22 sz24 rfl rfl rfl (by omega) (by omega) ?_; simp only [go_sem,↓reduceIte,Nat.reduceEqDiff]; refine ⟨by simp [nodeV, Value.cells], by simp [nodeV, Value.cells], fun gl wy hf => ?_⟩; refine ⟨hf.upd.extH, ?_⟩; (try simp only [vcH_nil2]); (try simp only [go_sem,↓reduceIte,Nat.reduceEqDiff])
          refine MemK_append ?_; simp only [go_sem,↓reduceIte,Nat.reduceEqDiff]; refine AppK_row (zs := #[.string ⟨#[]⟩, .bool false, .string ⟨#[]⟩, .slice none 0 0]) (bytes := 64) hf 1 rfl Tryd.underlying22 (by kernel_rfl) rfl (m := i) (news := nodesV (t.kids.take i)) ⟨rfl, hf.rs hR1 hne1, 24, Tryd.underlying22⟩ (nodesV_one _) (fun h => by omega) fun aa ca wx hca hf => ?_; simp only [List.set_cons_succ, List.set_cons_zero, List.nil_append, Nat.zero_add] at hf; refine ⟨hf.upd.extH, ?_⟩; (try simp only [vcH_nil2]); (try simp only [go_sem,↓reduceIte,Nat.reduceEqDiff])
          refine MemK_append ?_; simp only [go_sem,↓reduceIte,Nat.reduceEqDiff]; refine AppK_row (zs := #[.string ⟨#[]⟩, .bool false, .string ⟨#[]⟩, .slice none 0 0]) (bytes := 64) hf 1 rfl Tryd.underlying22 (by kernel_rfl) rfl (m := 1) (news := nodeV kn) ⟨rfl, row_rs (hf.at 0 rfl), 24, Tryd.underlying22⟩ (nodeV_one _) (fun h => by omega) fun ab cb wv hcb hf => ?_; simp only [List.set_cons_succ, List.set_cons_zero] at hf; refine ⟨hf.upd.extH, ?_⟩; (try simp only [vcH_nil2]); (try simp only [go_sem,↓reduceIte,Nat.reduceEqDiff]); refine MemK_append ?_; simp only [go_sem,↓reduceIte,Nat.reduceEqDiff]; refine AppK_row (zs := #[.string ⟨#[]⟩, .bool false, .string ⟨#[]⟩, .slice none 0 0]) (bytes := 64) hf 1 rfl Tryd.underlying22 (by kernel_rfl) rfl (m := rr.length) (news := nodesV rr) ⟨rfl, hf.rs hR2 hne2, 24, Tryd.underlying22⟩ (nodesV_one _) (fun h => by omega) fun ac cc wu hcc hf => ?_; simp only [List.set_cons_succ, List.set_cons_zero] at hf; refine ⟨hf.upd.extH, ?_⟩; (try simp only [vcH_nil2]); (try simp only [go_sem,↓reduceIte,Nat.reduceEqDiff]); refine MemK_store ?_; simp only [go_sem,↓reduceIte,Nat.reduceEqDiff]; refine StoreK_blk hf 2 (o := 3) (vs := [.slice ac (i + 1 + rr.length) cc]) rfl rfl (by kernel_rfl) (by simp [nodeV]) (by simp [Value.oneCell']) fun wt hf => ?_; refine ⟨hf.upd.extH, ?_⟩; (try simp only [vcH_nil2]); (try simp only [go_sem,↓reduceIte,Nat.reduceEqDiff]); exact outk _ _ _ _ hf
      · refine MemK_litK hf 4 (nodeV kn) (xs := [.tmp 75]) Tryd.underlying22 sz24 rfl rfl rfl (by omega) (by omega) ?_; simp only [go_sem,↓reduceIte,Nat.reduceEqDiff]; refine ⟨by simp [nodeV, Value.cells], by simp [nodeV, Value.cells], fun gl wy hf => ?_⟩; refine ⟨hf.upd.extH, ?_⟩; (try simp only [vcH_nil2]); (try simp only [go_sem,↓reduceIte,Nat.reduceEqDiff])
        refine MemK_lit0 hf 4 Tryd.underlying22 sz24 (z := .agg #[.string ⟨#[]⟩, .bool false, .string ⟨#[]⟩, .slice none 0 0]) (by kernel_rfl) rfl fun ga wz hf => ?_; refine ⟨hf.upd.extH, ?_⟩; (try simp only [vcH_nil2]); (try simp only [go_sem,↓reduceIte,Nat.reduceEqDiff])
        replace hf := hf.perm (.swap _ _ _)
        refine MemK_append ?_; simp only [go_sem,↓reduceIte,Nat.reduceEqDiff]; refine AppK_row (zs := #[.string ⟨#[]⟩, .bool false, .string ⟨#[]⟩, .slice none 0 0]) (bytes := 64) hf 1 rfl Tryd.underlying22 (by kernel_rfl) rfl (m := i) (news := nodesV (t.kids.take i)) ⟨rfl, hf.rs hR1 hne1, 24, Tryd.underlying22⟩ (nodesV_one _) (fun h => by omega) fun aa ca wx hca hf => ?_; simp only [List.set_cons_succ, List.set_cons_zero, List.nil_append, Nat.zero_add] at hf; refine ⟨hf.upd.extH, ?_⟩; (try simp only [vcH_nil2]); (try simp only [go_sem,↓reduceIte,Nat.reduceEqDiff])
        refine MemK_append ?_; simp only [go_sem,↓reduceIte,Nat.reduceEqDiff]; refine AppK_row (zs := #[.string ⟨#[]⟩, .bool false, .string ⟨#[]⟩, .slice none 0 0]) (bytes := 64) hf 1 rfl Tryd.underlying22 (by kernel_rfl) rfl (m := 1) (news := nodeV kn) ⟨rfl, row_rs (hf.at 0 rfl), 24, Tryd.underlying22⟩ (nodeV_one _) (fun h => by omega) fun ab cb wv hcb hf => ?_; simp only [List.set_cons_succ, List.set_cons_zero] at hf; refine ⟨hf.upd.extH, ?_⟩; (try simp only [vcH_nil2]); (try simp only [go_sem,↓reduceIte,Nat.reduceEqDiff]); refine MemK_append ?_; simp only [go_sem,↓reduceIte,Nat.reduceEqDiff]; refine AppK_row (zs := #[.string ⟨#[]⟩, .bool false, .string ⟨#[]⟩, .slice none 0 0]) (bytes := 64) hf 1 rfl Tryd.underlying22 (by kernel_rfl) rfl (m := rr.length) (news := nodesV rr) ⟨rfl, hf.rs hR2 hne2, 24, Tryd.underlying22⟩ (nodesV_one _) (fun h => by omega) fun ac cc wu hcc hf => ?_; simp only [List.set_cons_succ, List.set_cons_zero] at hf; refine ⟨hf.upd.extH, ?_⟩; (try simp only [vcH_nil2]); (try simp only [go_sem,↓reduceIte,Nat.reduceEqDiff]); refine MemK_store ?_; simp only [go_sem,↓reduceIte,Nat.reduceEqDiff]; refine StoreK_blk hf 2 (o := 3) (vs := [.slice ac (i + 1 + rr.length) cc]) rfl rfl (by kernel_rfl) (by simp [nodeV]) (by simp [Value.oneCell']) fun wt hf => ?_; refine ⟨hf.upd.extH, ?_⟩; (try simp only [vcH_nil2]); (try simp only [go_sem,↓reduceIte,Nat.reduceEqDiff]); exact outk _ _ _ _ hf
    · refine MemK_litK hf 4 (nodeV kn) (xs := [.tmp 75]) Tryd.underlying22 sz24 rfl rfl rfl (by omega) (by omega) ?_; simp only [go_sem,↓reduceIte,Nat.reduceEqDiff]; refine ⟨by simp [nodeV, Value.cells], by simp [nodeV, Value.cells], fun gl wy hf => ?_⟩; refine ⟨hf.upd.extH, ?_⟩; (try simp only [vcH_nil2]); (try simp only [go_sem,↓reduceIte,Nat.reduceEqDiff])
      refine And.intro ?_ ?_
      · refine MemK_lit0 hf 4 Tryd.underlying22 sz24 (z := .agg #[.string ⟨#[]⟩, .bool false, .string ⟨#[]⟩, .slice none 0 0]) (by kernel_rfl) rfl fun ga wz hf => ?_; refine ⟨hf.upd.extH, ?_⟩; (try simp only [vcH_nil2]); (try simp only [go_sem,↓reduceIte,Nat.reduceEqDiff])
        replace hf := hf.perm (.swap _ _ _)
        have hg := hgz (hf.perm (List.perm_append_comm (l₁ := [_, _]) (l₂ := [_])))
        refine ⟨_, hg, ?_⟩; (try simp only [vcH_nil2]); (try simp only [go_sem,↓reduceIte,Nat.reduceEqDiff])
        refine And.intro (And.intro (by omega) (by omega)) ?_
        refine MemK_append ?_; simp only [go_sem,↓reduceIte,Nat.reduceEqDiff]; refine AppK_row (zs := #[.string ⟨#[]⟩, .bool false, .string ⟨#[]⟩, .slice none 0 0]) (bytes := 64) hf 1 rfl Tryd.underlying22 (by kernel_rfl) rfl (m := i) (news := nodesV (t.kids.take i)) ⟨rfl, hf.rs hR1 hne1, 24, Tryd.underlying22⟩ (nodesV_one _) (fun h => by omega) fun aa ca wx hca hf => ?_; simp only [List.set_cons_succ, List.set_cons_zero, List.nil_append, Nat.zero_add] at hf; refine ⟨hf.upd.extH, ?_⟩; (try simp only [vcH_nil2]); (try simp only [go_sem,↓reduceIte,Nat.reduceEqDiff])
        refine MemK_append ?_; simp only [go_sem,↓reduceIte,Nat.reduceEqDiff]; refine AppK_row (zs := #[.string ⟨#[]⟩, .bool false, .string ⟨#[]⟩, .slice none 0 0]) (bytes := 64) hf 1 rfl Tryd.underlying22 (by kernel_rfl) rfl (m := 1) (news := nodeV kn) ⟨rfl, row_rs (hf.at 0 rfl), 24, Tryd.underlying22⟩ (nodeV_one _) (fun h => by omega) fun ab cb wv hcb hf => ?_; simp only [List.set_cons_succ, List.set_cons_zero] at hf; refine ⟨hf.upd.extH, ?_⟩; (try simp only [vcH_nil2]); (try simp only [go_sem,↓reduceIte,Nat.reduceEqDiff]); refine MemK_append ?_; simp only [go_sem,↓reduceIte,Nat.reduceEqDiff]; refine AppK_row (zs := #[.string ⟨#[]⟩, .bool false, .string ⟨#[]⟩, .slice none 0 0]) (bytes := 64) hf 1 rfl Tryd.underlying22 (by kernel_rfl) rfl (m := rr.length) (news := nodesV rr) ⟨rfl, hf.rs hR2 hne2, 24, Tryd.underlying22⟩ (nodesV_one _) (fun h => by omega) fun ac cc wu hcc hf => ?_; simp only [List.set_cons_succ, List.set_cons_zero] at hf; refine ⟨hf.upd.extH, ?_⟩; (try simp only [vcH_nil2]); (try simp only [go_sem,↓reduceIte,Nat.reduceEqDiff]); refine MemK_store ?_; simp only [go_sem,↓reduceIte,Nat.reduceEqDiff]; refine StoreK_blk hf 2 (o := 3) (vs := [.slice ac (i + 1 + rr.length) cc]) rfl rfl (by kernel_rfl) (by simp [nodeV]) (by simp [Value.oneCell']) fun wt hf => ?_; refine ⟨hf.upd.extH, ?_⟩; (try simp only [vcH_nil2]); (try simp only [go_sem,↓reduceIte,Nat.reduceEqDiff]); exact outk _ _ _ _ hf
      · have hg := hgz (hf.perm (.swap _ _ _))
        refine ⟨_, hg, ?_⟩; (try simp only [vcH_nil2]); (try simp only [go_sem,↓reduceIte,Nat.reduceEqDiff])
        refine And.intro (And.intro (by omega) (by omega)) ?_
        refine MemK_lit0 hf 4 Tryd.underlying22 sz24 (z := .agg #[.string ⟨#[]⟩, .bool false, .string ⟨#[]⟩, .slice none 0 0]) (by kernel_rfl) rfl fun ga wz hf => ?_; refine ⟨hf.upd.extH, ?_⟩; (try simp only [vcH_nil2]); (try simp only [go_sem,↓reduceIte,Nat.reduceEqDiff])
        replace hf := hf.perm (.swap _ _ _)
        refine MemK_append ?_; simp only [go_sem,↓reduceIte,Nat.reduceEqDiff]; refine AppK_row (zs := #[.string ⟨#[]⟩, .bool false, .string ⟨#[]⟩, .slice none 0 0]) (bytes := 64) hf 1 rfl Tryd.underlying22 (by kernel_rfl) rfl (m := i) (news := nodesV (t.kids.take i)) ⟨rfl, hf.rs hR1 hne1, 24, Tryd.underlying22⟩ (nodesV_one _) (fun h => by omega) fun aa ca wx hca hf => ?_; simp only [List.set_cons_succ, List.set_cons_zero, List.nil_append, Nat.zero_add] at hf; refine ⟨hf.upd.extH, ?_⟩; (try simp only [vcH_nil2]); (try simp only [go_sem,↓reduceIte,Nat.reduceEqDiff])
        refine MemK_append ?_; simp only [go_sem,↓reduceIte,Nat.reduceEqDiff]; refine AppK_row (zs := #[.string ⟨#[]⟩, .bool false, .string ⟨#[]⟩, .slice none 0 0]) (bytes := 64) hf 1 rfl Tryd.underlying22 (by kernel_rfl) rfl (m := 1) (news := nodeV kn) ⟨rfl, row_rs (hf.at 0 rfl), 24, Tryd.underlying22⟩ (nodeV_one _) (fun h => by omega) fun ab cb wv hcb hf => ?_; simp only [List.set_cons_succ, List.set_cons_zero] at hf; refine ⟨hf.upd.extH, ?_⟩; (try simp only [vcH_nil2]); (try simp only [go_sem,↓reduceIte,Nat.reduceEqDiff]); refine MemK_append ?_; simp only [go_sem,↓reduceIte,Nat.reduceEqDiff]; refine AppK_row (zs := #[.string ⟨#[]⟩, .bool false, .string ⟨#[]⟩, .slice none 0 0]) (bytes := 64) hf 1 rfl Tryd.underlying22 (by kernel_rfl) rfl (m := rr.length) (news := nodesV rr) ⟨rfl, hf.rs hR2 hne2, 24, Tryd.underlying22⟩ (nodesV_one _) (fun h => by omega) fun ac cc wu hcc hf => ?_; simp only [List.set_cons_succ, List.set_cons_zero] at hf; refine ⟨hf.upd.extH, ?_⟩; (try simp only [vcH_nil2]); (try simp only [go_sem,↓reduceIte,Nat.reduceEqDiff]); refine MemK_store ?_; simp only [go_sem,↓reduceIte,Nat.reduceEqDiff]; refine StoreK_blk hf 2 (o := 3) (vs := [.slice ac (i + 1 + rr.length) cc]) rfl rfl (by kernel_rfl) (by simp [nodeV]) (by simp [Value.oneCell']) fun wt hf => ?_; refine ⟨hf.upd.extH, ?_⟩; (try simp only [vcH_nil2]); (try simp only [go_sem,↓reduceIte,Nat.reduceEqDiff]); exact outk _ _ _ _ hf
  intro gl a' c' w9 hfin
  have hnl2 : (t.kids.take i ++ kn :: rr).length = i + 1 + rr.length := by rw [List.length_append, hlt, List.length_cons]; omega
  have hcat : nodesV (t.kids.take i) ++ nodeV kn ++ nodesV rr = nodesV (t.kids.take i ++ kn :: rr) := by
    rw [nodesV, nodesV, nodesV, rowsV_append, rowsV_cons', List.append_assoc]
  rw [hcat, ← hnl2] at hfin
  generalize hNK : t.kids.take i ++ kn :: rr = NK at *
  have hHb := hH5.call1 3 rfl (hfin.perm ((List.perm_append_comm (l₁ := [_, _]) (l₂ := [_]))))
  simp only [List.set_cons_succ, List.set_cons_zero] at hHb
  have hHc : Heap w [] w9 [Res.row 24 4 (some ⟨gl, 0, none⟩) 1 1 (nodeV kn), nodeRow a' NK c', Res.mix w F F1 [kn], Res.blk gk 24 (nodeV kn), Res.blk g6 24 (nodeV nilN), Res.blk g 24 (nodeV (.mk t.name t.dir t.data a' c' NK))] := hHb
  clear hHb hfin hf hkr hR1 hR2 hH4
  (refine hK _ _ ?_; clear hK)
  refine VR [6] rfl rfl fun K hK => ?_; simp only [go_sem,↓reduceIte,Nat.reduceEqDiff]
  refine ⟨nodeV (.mk t.name t.dir t.data a' c' NK), ⟨rfl, blk_reads (hHc.at 5 rfl)⟩, ?_⟩
  (try simp only [go_sem,↓reduceIte,Nat.reduceEqDiff])
  refine MemK_store ?_
  simp only [go_sem,↓reduceIte,Nat.reduceEqDiff]
  refine StoreK_blk hHc 4 (vs := nodeV (.mk t.name t.dir t.data a' c' NK)) rfl rfl (by kernel_rfl) (by simp [nodeV]) (nodeV_one _) fun w10 hHd => ?_
  (try simp only [go_sem,↓reduceIte,Nat.reduceEqDiff])
  (refine hK _ _ ?_; clear hK)
  refine VC_ret (VX_retC1 rfl rfl (vLoad_blk (hHd.at 4 rfl) (by kernel_rfl) (by kernel_rfl) rfl ?_))
  have hHe : Heap w [] w10 [nodeRow a' NK c', Res.mix w F F1 [kn]] := hHd.sub (.cons _ (.cons_cons _ (.cons_cons _ (List.nil_sublist _))))
  have hknL := mix_lies hHe (i := 1) rfl hF kn (by simp)
  have hrow := hHe.at 0 rfl
  have hFF : ∀ b ∈ F ++ F1, b ∈ F ++ ((a'.map (·.block)).toList ++ F1) := fun b hb => by
    rcases List.mem_append.1 hb with h | h
    · exact List.mem_append_left _ h
    · exact List.mem_append_right _ (List.mem_append_right _ h)
  have hfl : LiesIn (F ++ ((a'.map (·.block)).toList ++ F1)) w10 (.mk t.name t.dir t.data a' c' NK) := by
    rw [LiesIn_iff]
    refine ⟨⟨hFit.1, hFit.2.1, by show NK.length ≤ _; omega⟩, row_rs hrow, fun p hp2 => ?_, hrow.2.1, fun j hj => ?_⟩
    · have hp2 : a' = some p := hp2
      refine ⟨List.mem_append_right _ (List.mem_append_left _ (by rw [hp2]; simp)), ?_⟩
      obtain ⟨_, _, _, h4 | ⟨g, _, _, h4, _⟩⟩ := hrow
      · rw [h4.1] at hp2; cases hp2
      · rw [h4] at hp2; cases hp2; rfl
    · have hj : j ∈ NK := hj
      rw [← hNK] at hj
      have hold : ∀ k, k ∈ t.kids → LiesIn (F ++ ((a'.map (·.block)).toList ++ F1)) w10 k := fun k hk => LiesIn.move (fun b hb => List.mem_append_left _ hb) (fun b hb => hHe.upd.block b (hF b hb) (by simp)) k (hkids k hk)
      rcases List.mem_append.1 hj with hj | hj
      · exact hold j (List.mem_of_mem_take hj)
      · rcases List.mem_cons.1 hj with rfl | hj
        · exact LiesIn.move hFF (fun _ _ => rfl) j hknL
        · exact hold j (hrr j hj)
  have hHf : Heap w [] w10 [Res.mix w F ((a'.map (·.block)).toList ++ F1) [.mk t.name t.dir t.data a' c' NK]] :=
    Heap.meld hHe (fun b hb => List.mem_append.1 hb) (fun _ _ => mix_of hHe (by simpa using hfl))
  refine ⟨.mk t.name t.dir t.data a' c' NK, _, rfl, hHf, rfl, rfl, rfl, ?_⟩
  rw [← heq, show (NT.mk t.name t.dir t.data a' c' NK).kids = NK from rfl, ← hNK]
  simp
end Go.Proofs.YtklpiecolpnmlaaDoor
namespace Go.Proofs.YtklpiecolpnmlaaDoor
open Go Go.Eng
set_option maxRecDepth 100000
set_option maxHeartbeats 1000000
set_option linter.unusedSimpArgs false
set_option linter.unusedVariables false
theorem part_at {l : List UInt8} {i f : Nat} (hf : f ≤ i) (hi : i < l.length) : (l.drop f).take (i + 1 - f) = (l.drop f).take (i - f) ++ [l.getD i 0] := by
  have h1 : (l.drop f)[i - f]? = some (l.getD i 0) := by
    rw [List.getElem?_drop, show f + (i - f) = i by omega, List.getD_eq_getElem?_getD, List.getElem?_eq_getElem hi]; rfl
  rw [show i + 1 - f = (i - f) + 1 by omega, take_snoc h1]
theorem rparts_does (s : List UInt8) (w : World) (hs : s.length ≤ 1000000000) : Does Tryd.prog 32 #[Str s] w fun v w' =>
    ∃ a c, v = .slice a (splitS s).length c ∧ Heap w [] w' [strRow a (splitS s) c] := by
  refine Does_enter (args := [Str s]) 37 Tryd.func32 rfl rfl (of_decide_eq_true rfl) ?_
  simp only [Env.ofArgs]
  refine VR [0] rfl rfl fun K hK => ?_; simp only [go_sem,↓reduceIte,Nat.reduceEqDiff]
  ((repeat refine And.intro (by omega) ?_); refine hK _ _ ?_; clear hK)
  refine VR [0, 3] rfl rfl fun K hK => ?_; simp only [go_sem,↓reduceIte,Nat.reduceEqDiff]
  refine MemK_lits (Heap.start w) [Str []] (xs := [.const (Str [])]) Tryd.underlying60 sz9 rfl rfl rfl (by omega) ?_
  simp only [go_sem,↓reduceIte,Nat.reduceEqDiff]
  refine ⟨trivial, by simp [Value.cells], fun g w2 hH => ?_⟩
  (try simp only [go_sem,↓reduceIte,Nat.reduceEqDiff])
  (refine hK _ _ ?_; clear hK)
  refine VR [0, 3, 4] rfl rfl fun K hK => ?_; simp only [go_sem,↓reduceIte,Nat.reduceEqDiff]
  ((repeat refine And.intro (by omega) ?_); refine hK _ _ ?_; clear hK)
  refine VC_block ?_
  refine VC_loopS [0, 3, 4] (fun m e w' => ∃ (i f : Nat) (dn : Parts) (a : Option Addr) (c : Nat), Is e [(0, Str s), (3, .slice a (dn ++ [(s.drop f).take (i - f)]).length c), (4, .int .i64 i)] ∧ Heap w [] w' [strRow a (dn ++ [(s.drop f).take (i - f)]) c] ∧ f ≤ i ∧ i ≤ s.length ∧ dn.length ≤ i ∧ (47 : UInt8) ∉ (s.drop f).take (i - f) ∧ dn ++ splitS (s.drop f) = splitS s ∧ m = s.length - i) s.length ?_ ?_
  · simp only [go_sem,↓reduceIte,Nat.reduceEqDiff]
    exact ⟨0, 0, [], some ⟨g, 0, none⟩, 1, rfl, hH, by omega, by omega, by simp, by simp, rfl, rfl⟩
  clear hH
  rintro m e w3 ⟨i, f, dn, a, c, rfl, hH, hf, hi, hdl, hno, hsp, rfl⟩
  refine VR [0, 3, 4, 9] rfl rfl fun K hK => ?_; simp only [go_sem,↓reduceIte,Nat.reduceEqDiff]
  ((repeat refine And.intro (by omega) ?_); refine hK _ _ ?_; clear hK)
  refine VC_cond rfl rfl (fun h => ?_) (fun h => ?_)
  · simp only [decide_eq_true_eq] at h
    have hi2 : i < s.length := by omega
    refine VC_skip ?_
    ((repeat refine VC_seq ?_); refine VC_block ?_)
    refine VR [0, 3, 4, 15] rfl rfl fun K hK => ?_; simp only [go_sem,↓reduceIte,Nat.reduceEqDiff]
    refine And.intro (by omega) ?_
    (refine hK _ _ ?_; clear hK)
    refine VC_cond rfl rfl (fun h2 => ?_) (fun h2 => ?_)
    · simp only [decide_eq_true_eq, i47] at h2
      rw [split_at hf hi2 hno h2] at hsp
      generalize (s.drop f).take (i - f) = cur at *
      refine VR [0, 3, 4] rfl rfl fun K hK => ?_; simp only [go_sem,↓reduceIte,Nat.reduceEqDiff]
      refine MemK_lits hH [Str []] (xs := [.const (Str [])]) Tryd.underlying60 sz9 rfl rfl rfl (by omega) ?_
      simp only [go_sem,↓reduceIte,Nat.reduceEqDiff]
      refine ⟨trivial, by simp [Value.cells], fun g w4 hH2 => ?_⟩
      (try simp only [go_sem,↓reduceIte,Nat.reduceEqDiff])
      refine MemK_append ?_
      simp only [go_sem,↓reduceIte,Nat.reduceEqDiff]
      refine AppK_row (zs := #[.string ⟨#[]⟩]) (bytes := 16) hH2 1 rfl Tryd.underlying60 (by kernel_rfl) rfl (m := 1) (news := strsV [[]]) ⟨rfl, row_rs (hH2.at 0 rfl), 9, Tryd.underlying60⟩ (strsV_one _) (fun h => by simp; omega) fun a' cap' w5 hc' hH3 => ?_
      simp only [List.set_cons_succ, List.set_cons_zero] at hH3
      rw [← strsV_append] at hH3
      (try simp only [go_sem,↓reduceIte,Nat.reduceEqDiff])
      (refine hK _ _ ?_; clear hK)
      refine VC_blk ?_
      refine VR [0, 3, 4] rfl rfl fun K hK => ?_; simp only [go_sem,↓reduceIte,Nat.reduceEqDiff]
      ((repeat refine And.intro (by omega) ?_); refine hK _ _ ?_; clear hK)
      refine VC_again ?_
      simp only [go_sem,↓reduceIte,Nat.reduceEqDiff]
      refine ⟨s.length - (i + 1), by omega, i + 1, i + 1, dn ++ [cur], a', cap', ?_, ?_, by omega, by omega, by simp; omega, by simp, ?_, rfl⟩
      · rw [Nat.sub_self, List.take_zero, show (dn ++ [cur] ++ [([] : List UInt8)]).length = (dn ++ [cur]).length + 1 by simp]; rfl
      · rw [Nat.sub_self, List.take_zero]
        have := hH3.sub (.cons _ (.refl _))
        rw [show (dn ++ [cur]).length + 1 = (dn ++ [cur] ++ [[]]).length by simp] at this
        exact this
      · rw [List.append_assoc]; exact hsp
    · simp only [decide_eq_false_iff_not, i47] at h2
      have hno2 := not_mem_snoc hf hi2 hno h2
      have hcur := part_at hf hi2
      generalize hcu : (s.drop f).take (i - f) = cur at *
      obtain ⟨g, rfl⟩ : ∃ g, a = some ⟨g, 0, none⟩ := by
        obtain ⟨_, _, _, h4 | ⟨g, _, _, h4, _⟩⟩ := hH.at 0 rfl
        · have := h4.2.1; simp at this
        · exact ⟨g, h4⟩
      have hlen : (dn ++ [cur]).length = dn.length + 1 := by simp
      have hcl : cur.length ≤ s.length := by rw [← hcu]; simp; omega
      have c1 : w3.cell? ⟨g, dn.length, none⟩ = some (Str cur) := row_cell (hH.at 0 rfl) (strsV_get (by simp))
      (repeat refine VC_seq ?_); refine VC_regionL [0, 3, 4] 17 (by kernel_rfl) (by kernel_rfl) (by kernel_rfl) rfl fun K hK => ?_; simp only [go_sem,↓reduceIte,Nat.reduceEqDiff]
      simp only [hlen]
      rw [show dn.length + 1 - 1 = dn.length by omega]
      (repeat first | refine And.intro (by omega) ?_ | refine ⟨⟨by omega, by omega⟩, ?_⟩)
      refine ⟨_, c1, ?_⟩
      (try simp only [go_sem,↓reduceIte,Nat.reduceEqDiff])
      (repeat first | refine And.intro (by omega) ?_ | refine ⟨⟨by omega, by omega⟩, ?_⟩)
      (try simp only [go_sem,↓reduceIte,Nat.reduceEqDiff])
      have h1b : (s.drop i).take (i + 1 - i) = [s.getD i 0] := by
        rw [show i + 1 - i = 1 by omega, List.drop_eq_getElem_cons hi2, List.getD_eq_getElem?_getD, List.getElem?_eq_getElem hi2]; rfl
      rw [h1b, ← hcur]
      refine And.intro (by simp; omega) (And.intro (And.intro (by omega) (by omega)) ?_)
      have hset : (strsV (dn ++ [cur])).take dn.length ++ [Str ((s.drop f).take (i + 1 - f))] ++ (strsV (dn ++ [cur])).drop (dn.length + 1) = strsV (dn ++ [(s.drop f).take (i + 1 - f)]) := by
        rw [strsV_set _ _ _ (by simp)]
        congr 1
        rw [List.set_append, if_neg (Nat.lt_irrefl _), Nat.sub_self]; rfl
      refine MemK_store ?_; simp only [go_sem,↓reduceIte,Nat.reduceEqDiff]; refine StoreK_row hH 0 (o := (dn.length)) (vs := [Str ((s.drop f).take (i + 1 - f))]) rfl (by first | exact (add_mk _ _ _).symm | rfl | simp [add_mk]) rfl (by kernel_rfl) (by first | omega | (simp; done) | (simp; omega) | (simp [bytesV, intsV]; omega) | (rw [natsV_len]; simp; omega)) (by simp [Value.oneCell']) fun w6 hH2 => ?_; (try simp only [go_sem,↓reduceIte,Nat.reduceEqDiff])
      simp only [List.length_singleton, List.set_cons_zero] at hH2
      rw [hset] at hH2
      (refine hK _ _ ?_; clear hK)
      refine VC_blk ?_
      refine VR [0, 3, 4] rfl rfl fun K hK => ?_; simp only [go_sem,↓reduceIte,Nat.reduceEqDiff]
      ((repeat refine And.intro (by omega) ?_); refine hK _ _ ?_; clear hK)
      refine VC_again ?_
      simp only [go_sem,↓reduceIte,Nat.reduceEqDiff]
      refine ⟨s.length - (i + 1), by omega, i + 1, f, dn, some ⟨g, 0, none⟩, c, ?_, ?_, by omega, by omega, by omega, hno2, hsp, rfl⟩
      · simp [Is]
      · rw [show (dn ++ [cur]).length = (dn ++ [(s.drop f).take (i + 1 - f)]).length by simp] at hH2
        exact hH2
  · simp only [decide_eq_false_iff_not] at h
    obtain rfl : i = s.length := by omega
    rw [split_last hf hno] at hsp
    rw [hsp] at hH ⊢
    refine VC_exit rfl ?_
    refine VR [2] rfl rfl fun K hK => ?_; simp only [go_sem,↓reduceIte,Nat.reduceEqDiff]
    ((repeat refine And.intro (by omega) ?_); refine hK _ _ ?_; clear hK)
    exact VC_ret (VX_ret1 rfl rfl ⟨a, c, rfl, hH⟩)
theorem join_snoc (kept : Parts) (x : List UInt8) : joinS (kept ++ [x]) = if kept = [] then x else joinS kept ++ 47 :: x := by
  by_cases h : kept = []
  · subst h; rw [if_pos rfl, List.nil_append, joinS_one]
  · rw [if_neg h, joinS_app h (by simp), joinS_one]
theorem join_keep {l : Parts} (h : joinS (l.filter keepP) = []) : l.filter keepP = [] := by
  apply Classical.byContradiction
  intro hne
  obtain ⟨x, l', hx⟩ := List.exists_cons_of_ne_nil hne
  have hk : keepP x = true := (List.mem_filter.1 (by rw [hx]; simp : x ∈ l.filter keepP)).2
  have h1 := joinS_len _ hne
  rw [h, hx] at h1
  simp [keepP] at hk
  simp only [List.map_cons, List.sum_cons, List.length_nil] at h1
  have := List.length_pos_iff.2 hk.1
  omega
theorem keep_bound2 {s : List UInt8} {dn rest : Parts} (h : dn ++ rest = splitS s) : (joinS (dn.filter keepP)).length ≤ s.length := by
  refine Nat.le_trans (join_filter_le dn) ?_
  have h4 := joinS_split s
  rw [← h] at h4
  by_cases hd : dn = []
  · subst hd; simp [joinS_nil]
  by_cases hr : rest = []
  · subst hr; rw [List.append_nil] at h4; rw [h4]; exact Nat.le_refl _
  · rw [joinS_app hd hr] at h4
    rw [← h4]; simp
theorem rclean_does (s : List UInt8) (w : World) (hs : s.length ≤ 1000000000) : Does Tryd.prog 43 #[Str s] w fun v w' => Heap w [] w' [] ∧ v = cleanV (cleanS s) := by
  refine Does_enter (args := [Str s]) 67 Tryd.func43 rfl rfl (of_decide_eq_true rfl) ?_
  simp only [Env.ofArgs]
  refine VR [0] rfl rfl fun K hK => ?_; simp only [go_sem,↓reduceIte,Nat.reduceEqDiff]
  ((repeat refine And.intro (by omega) ?_); refine hK _ _ ?_; clear hK)
  refine VR [0, 4] rfl rfl fun K hK => ?_; simp only [go_sem,↓reduceIte,Nat.reduceEqDiff]
  ((repeat refine And.intro (by omega) ?_); refine hK _ _ ?_; clear hK)
  refine VR [0, 4, 5] rfl rfl fun K hK => ?_; simp only [go_sem,↓reduceIte,Nat.reduceEqDiff]
  refine MemK_call Tryd.call32 ?_; simp only [go_sem,↓reduceIte,Nat.reduceEqDiff]; refine CallK.mk (rparts_does s w hs) ?_
  rintro v w2 ⟨a, c, rfl, hH⟩
  (try simp only [go_sem,↓reduceIte,Nat.reduceEqDiff])
  (refine hK _ _ ?_; clear hK)
  have hll := splitS_len s
  have hall : cleanS s = cleanS s := rfl
  conv at hall => rhs; unfold cleanS
  generalize hl : splitS s = l at *
  refine VR [0, 4, 5, 6] rfl rfl fun K hK => ?_; simp only [go_sem,↓reduceIte,Nat.reduceEqDiff]
  ((repeat refine And.intro (by omega) ?_); refine hK _ _ ?_; clear hK)
  refine VC_block ?_
  refine VC_loopS [0, 4, 5, 6] (fun m e w' => ∃ (i : Nat), Is e [(0, Str s), (4, Str (joinS ((l.take i).filter keepP))), (5, .slice a l.length c), (6, .int .i64 i)] ∧ Is w' w2 ∧ i ≤ l.length ∧ ([46, 46] : List UInt8) ∉ l.take i ∧ m = l.length - i) l.length ?_ ?_
  · simp only [go_sem,↓reduceIte,Nat.reduceEqDiff]
    exact ⟨0, rfl, rfl, by omega, by simp, rfl⟩
  rintro m e w4 ⟨i, rfl, rfl, hi, hno, rfl⟩
  have hkb : (joinS ((l.take i).filter keepP)).length ≤ s.length := keep_bound2 (rest := l.drop i) (by rw [List.take_append_drop, hl])
  refine VR [0, 4, 5, 6, 13] rfl rfl fun K hK => ?_; simp only [go_sem,↓reduceIte,Nat.reduceEqDiff]
  ((repeat refine And.intro (by omega) ?_); refine hK _ _ ?_; clear hK)
  refine VC_cond rfl rfl (fun h => ?_) (fun h => ?_)
  · simp only [decide_eq_true_eq] at h
    have hi2 : i < l.length := by omega
    refine VC_skip ?_
    ((repeat refine VC_seq ?_); refine VC_block ?_)
    obtain ⟨x, hx, hxd⟩ := take_get (l := l) (i := i) hi2
    have hxl : x.length ≤ s.length := splitS_mem_len s x (by rw [hl]; exact List.mem_of_getElem? hx)
    obtain ⟨g, rfl⟩ : ∃ g, a = some ⟨g, 0, none⟩ := by
      obtain ⟨_, _, _, h4 | ⟨g, _, _, h4, _⟩⟩ := hH.at 0 rfl
      · omega
      · exact ⟨g, h4⟩
    have c1 : w4.cell? ⟨g, i, none⟩ = some (Str x) := row_cell (hH.at 0 rfl) (strsV_get hx)
    have hts := take_snoc hx
    have hkb2 : (joinS ((l.take (i + 1)).filter keepP)).length ≤ s.length := keep_bound2 (rest := l.drop (i + 1)) (by rw [List.take_append_drop, hl])
    refine VR [0, 4, 5, 6, 20] rfl rfl fun K hK => ?_; simp only [go_sem, ↓ex_hit c1,↓reduceIte,Nat.reduceEqDiff]
    ((repeat refine And.intro (by omega) ?_); refine hK _ _ ?_; clear hK)
    by_cases hx2 : x = [46, 46]
    · subst hx2
      refine VC_cond rfl rfl (fun h => ?_) (fun h => by simp at h)
      rw [if_neg (fun hh => hh.2.1 (List.mem_of_getElem? hx))] at hall
      refine VR [2, 3] rfl rfl fun K hK => ?_; simp only [go_sem,↓reduceIte,Nat.reduceEqDiff]
      ((repeat refine And.intro (by omega) ?_); refine hK _ _ ?_; clear hK)
      exact VC_ret (VX_ret2 rfl rfl rfl ⟨hH.sub (List.nil_sublist _), by rw [hall]; rfl⟩)
    refine VC_cond rfl rfl (fun h => absurd (of_decide_eq_true h) hx2) (fun h => VC_skip ?_)
    clear h
    have hno2 : ([46, 46] : List UInt8) ∉ l.take (i + 1) := by
      rw [hts, List.mem_append, List.mem_singleton]
      rintro (h | h)
      · exact hno h
      · exact hx2 h.symm
    refine VR [0, 4, 5, 6, 32] rfl rfl fun K hK => ?_; simp only [go_sem, ↓ex_hit c1,↓reduceIte,Nat.reduceEqDiff]
    suffices out : ∀ b : Bool, (b = true ↔ keepP x = false) → K [(0, Str s), (4, Str (joinS ((l.take i).filter keepP))), (5, .slice (some ⟨g, 0, none⟩) l.length c), (6, .int .i64 i), (32, .bool b)] w4 by
      refine And.intro (by omega) (And.intro (fun h1 => And.intro (by omega) (out _ ?_)) (fun h1 => out _ ?_))
      · simp [keepP, h1]
      · simp [keepP, h1]
    intro b hb
    (refine hK _ _ ?_; clear hK)
    refine VC_cond rfl rfl (fun h => ?_) (fun h => VC_skip ?_)
    · have hk := hb.1 h
      refine VC_exit rfl ?_
      refine VR [0, 4, 5, 6] rfl rfl fun K hK => ?_; simp only [go_sem,↓reduceIte,Nat.reduceEqDiff]
      ((repeat refine And.intro (by omega) ?_); refine hK _ _ ?_; clear hK)
      refine VC_again ?_
      simp only [go_sem,↓reduceIte,Nat.reduceEqDiff]
      refine ⟨l.length - (i + 1), by omega, i + 1, ?_, rfl, by omega, hno2, rfl⟩
      rw [hts, List.filter_append, show [x].filter keepP = [] by simp [hk], List.append_nil]
      rfl
    have hk : keepP x = true := by
      cases h5 : keepP x
      · rw [hb.2 h5] at h; cases h
      · rfl
    have hnew : joinS ((l.take (i + 1)).filter keepP) = if (l.take i).filter keepP = [] then x else joinS ((l.take i).filter keepP) ++ 47 :: x := by
      rw [hts, List.filter_append, show [x].filter keepP = [x] by simp [hk], join_snoc]
    clear hb h
    refine VR [0, 4, 5, 6, 34] rfl rfl fun K hK => ?_; simp only [go_sem,↓reduceIte,Nat.reduceEqDiff]
    ((repeat refine And.intro (by omega) ?_); refine hK _ _ ?_; clear hK)
    refine VC_cut [0, 4, 5, 6] (fun e w' => Is e [(0, Str s), (4, Str (if (l.take i).filter keepP = [] then [] else joinS ((l.take i).filter keepP) ++ [47])), (5, .slice (some ⟨g, 0, none⟩) l.length c), (6, .int .i64 i)] ∧ Is w' w4) ?_ ?_
    · refine VC_cond rfl rfl (fun h => ?_) (fun h => ?_)
      · have hne : (l.take i).filter keepP ≠ [] := by
          intro e
          rw [e] at h
          simp [joinS_nil] at h
        refine VR [0, 4, 5, 6] rfl rfl fun K hK => ?_; simp only [go_sem,↓reduceIte,Nat.reduceEqDiff]
        refine And.intro (by simp; omega) ?_
        (refine hK _ _ ?_; clear hK)
        refine VC_again ?_
        simp only [go_sem,↓reduceIte,Nat.reduceEqDiff]
        rw [if_neg hne]
        exact ⟨rfl, rfl⟩
      · have he : (l.take i).filter keepP = [] := join_keep (by simpa using h)
        refine VC_skip ?_
        refine VC_again ?_
        simp only [go_sem,↓reduceIte,Nat.reduceEqDiff]
        rw [if_pos he, he]
        exact ⟨rfl, rfl⟩
    rintro e w3 ⟨rfl, rfl⟩
    have hnew2 : (if (l.take i).filter keepP = [] then [] else joinS ((l.take i).filter keepP) ++ [47]) ++ x = joinS ((l.take (i + 1)).filter keepP) := by
      rw [hnew]
      split <;> simp
    have hnl : (if (l.take i).filter keepP = [] then ([] : List UInt8) else joinS ((l.take i).filter keepP) ++ [47]).length ≤ s.length + 1 := by
      split
      · simp
      · simp; omega
    generalize (if (l.take i).filter keepP = [] then ([] : List UInt8) else joinS ((l.take i).filter keepP) ++ [47]) = pre at *
    refine VR [0, 4, 5, 6] rfl rfl fun K hK => ?_; simp only [go_sem,↓reduceIte,Nat.reduceEqDiff]
    refine And.intro (by omega) ⟨_, c1, ?_⟩
    (try simp only [go_sem,↓reduceIte,Nat.reduceEqDiff])
    refine And.intro (by omega) ?_
    rw [hnew2]
    (refine hK _ _ ?_; clear hK)
    refine VC_blk ?_
    refine VR [0, 4, 5, 6] rfl rfl fun K hK => ?_; simp only [go_sem,↓reduceIte,Nat.reduceEqDiff]
    ((repeat refine And.intro (by omega) ?_); refine hK _ _ ?_; clear hK)
    refine VC_again ?_
    simp only [go_sem,↓reduceIte,Nat.reduceEqDiff]
    exact ⟨l.length - (i + 1), by omega, i + 1, rfl, rfl, by omega, hno2, rfl⟩
  · simp only [decide_eq_false_iff_not] at h
    obtain rfl : i = l.length := by omega
    rw [List.take_length] at *
    refine VC_exit rfl ?_
    refine VR [0, 4, 7] rfl rfl fun K hK => ?_; simp only [go_sem,↓reduceIte,Nat.reduceEqDiff]
    ((repeat refine And.intro (by omega) ?_); refine hK _ _ ?_; clear hK)
    refine VC_block ?_
    refine VC_loopS [0, 4, 7] (fun m e w' => ∃ (i : Nat), Is e [(0, Str s), (4, Str (joinS (l.filter keepP))), (7, .int .i64 i)] ∧ Is w' w4 ∧ i ≤ s.length ∧ (s.take i).all okAsc = true ∧ m = s.length - i) s.length ?_ ?_
    · simp only [go_sem,↓reduceIte,Nat.reduceEqDiff]
      exact ⟨0, rfl, rfl, by omega, by simp, rfl⟩
    rintro m e w' ⟨i, rfl, rfl, hi, hasc, rfl⟩
    refine VR [0, 4, 7, 46] rfl rfl fun K hK => ?_; simp only [go_sem,↓reduceIte,Nat.reduceEqDiff]
    ((repeat refine And.intro (by omega) ?_); refine hK _ _ ?_; clear hK)
    refine VC_cond rfl rfl (fun h => ?_) (fun h => ?_)
    · simp only [decide_eq_true_eq] at h
      have hi2 : i < s.length := by omega
      refine VC_skip ?_
      ((repeat refine VC_seq ?_); refine VC_block ?_)
      refine VR [0, 4, 7, 58] rfl rfl fun K hK => ?_; simp only [go_sem,↓reduceIte,Nat.reduceEqDiff]
      suffices out : ∀ b : Bool, (b = true ↔ okAsc (s.getD i 0) = false) → K [(0, Str s), (4, Str (joinS (l.filter keepP))), (7, .int .i64 i), (58, .bool b)] w' by
        have e : okAsc (s.getD i 0) = false ↔ ¬ (32 ≤ (s.getD i 0).toNat ∧ (s.getD i 0).toNat ≤ 126) := by
          cases h : okAsc (s.getD i 0) <;> simp [okAsc] at h ⊢ <;> omega
        refine And.intro (by omega) (And.intro (fun h1 => And.intro (by omega) (out _ ?_)) (fun h1 => out _ ?_))
        · rw [e, decide_eq_true_eq]; omega
        · rw [e]; simp only [true_iff]; omega
      intro b hb
      (refine hK _ _ ?_; clear hK)
      refine VC_cond rfl rfl (fun h2 => ?_) (fun h2 => VC_skip ?_)
      · have hbad := hb.1 h2
        rw [if_neg] at hall
        · refine VR [2, 3] rfl rfl fun K hK => ?_; simp only [go_sem,↓reduceIte,Nat.reduceEqDiff]
          ((repeat refine And.intro (by omega) ?_); refine hK _ _ ?_; clear hK)
          exact VC_ret (VX_ret2 rfl rfl rfl ⟨hH.sub (List.nil_sublist _), by rw [hall]; rfl⟩)
        rintro ⟨ha, _⟩
        rw [List.all_eq_true] at ha
        have := ha (s.getD i 0) (by rw [List.getD_eq_getElem?_getD, List.getElem?_eq_getElem hi2]; exact List.getElem_mem hi2)
        rw [this] at hbad; cases hbad
      have hok : okAsc (s.getD i 0) = true := by
        cases h5 : okAsc (s.getD i 0)
        · have := hb.2 h5; rw [this] at h2; cases h2
        · rfl
      refine VC_blk ?_
      refine VR [0, 4, 7] rfl rfl fun K hK => ?_; simp only [go_sem,↓reduceIte,Nat.reduceEqDiff]
      ((repeat refine And.intro (by omega) ?_); refine hK _ _ ?_; clear hK)
      refine VC_again ?_
      simp only [go_sem,↓reduceIte,Nat.reduceEqDiff]
      refine ⟨s.length - (i + 1), by omega, i + 1, rfl, rfl, by omega, ?_, rfl⟩
      rw [take_snoc (List.getElem?_eq_getElem hi2), List.all_append, hasc]
      rw [List.getD_eq_getElem?_getD, List.getElem?_eq_getElem hi2] at hok
      simpa using hok
    · simp only [decide_eq_false_iff_not] at h
      obtain rfl : i = s.length := by omega
      rw [List.take_length] at hasc
      refine VC_exit rfl ?_
      generalize hp : joinS (l.filter keepP) = p at *
      refine VR [4, 65] rfl rfl fun K hK => ?_; simp only [go_sem,↓reduceIte,Nat.reduceEqDiff]
      suffices out : ∀ b : Bool, (b = true ↔ (p = [] ∨ 120 < p.length)) → K [(4, Str p), (65, .bool b)] w' by
        refine And.intro (fun h1 => out _ ?_) (fun h1 => out _ ?_)
        · rw [decide_eq_true_eq]; simp only [h1, false_or]; omega
        · simp [h1]
      intro b hb
      (refine hK _ _ ?_; clear hK)
      refine VC_cond rfl rfl (fun h => ?_) (fun h => VC_skip ?_)
      · have h3 := hb.1 h
        rw [if_neg] at hall
        · refine VR [2, 3] rfl rfl fun K hK => ?_; simp only [go_sem,↓reduceIte,Nat.reduceEqDiff]
          ((repeat refine And.intro (by omega) ?_); refine hK _ _ ?_; clear hK)
          exact VC_ret (VX_ret2 rfl rfl rfl ⟨hH.sub (List.nil_sublist _), by rw [hall]; rfl⟩)
        rintro ⟨_, _, h4, h5⟩
        rcases h3 with h3 | h3
        · exact h4 h3
        · omega
      · have hg : ¬ (p = [] ∨ 120 < p.length) := fun hh => by rw [hb.2 hh] at h; cases h
        rw [if_pos ⟨hasc, hno, fun e => hg (.inl e), Nat.le_of_not_lt fun e => hg (.inr e)⟩] at hall
        refine VR [2, 3] rfl rfl fun K hK => ?_; simp only [go_sem,↓reduceIte,Nat.reduceEqDiff]
        ((repeat refine And.intro (by omega) ?_); refine hK _ _ ?_; clear hK)
        exact VC_ret (VX_ret2 rfl rfl rfl ⟨hH.sub (List.nil_sublist _), by rw [hall]; rfl⟩)
theorem rcheck14_does (s : List UInt8) (w : World) (hs : s.length ≤ 1000000000) : Does Tryd.prog 29 #[Str s] w fun v w' => Heap w [] w' [] ∧ v = .int .i64 (checkP s) := by
  refine Does_enter (args := [Str s]) 17 Tryd.func29 rfl rfl (of_decide_eq_true rfl) ?_
  simp only [Env.ofArgs]
  refine VR [0] rfl rfl fun K hK => ?_; simp only [go_sem,↓reduceIte,Nat.reduceEqDiff]
  ((repeat refine And.intro (by omega) ?_); refine hK _ _ ?_; clear hK)
  refine VR [0, 3, 4] rfl rfl fun K hK => ?_; simp only [go_sem,↓reduceIte,Nat.reduceEqDiff]
  refine MemK_call Tryd.call43 ?_; simp only [go_sem,↓reduceIte,Nat.reduceEqDiff]; refine CallK.mk (rclean_does s w hs) ?_
  rintro v w2 ⟨hH, rfl⟩
  unfold cleanV
  (try simp only [go_sem,↓reduceIte,Nat.reduceEqDiff])
  (refine hK _ _ ?_; clear hK)
  refine VR [16] rfl rfl fun K hK => ?_; simp only [go_sem,↓reduceIte,Nat.reduceEqDiff]
  suffices out : ∀ b : Bool, (b = true ↔ cleanS s ≠ some s) → K [(16, .bool b)] w2 by
    cases hc : cleanS s with
    | none =>
      rw [hc] at out
      exact And.intro (fun h => absurd h (by simp)) (fun _ => out _ (by simp))
    | some q =>
      rw [hc] at out
      refine And.intro (fun _ => out _ ?_) (fun h => absurd rfl h)
      simp
  intro b hb
  (refine hK _ _ ?_; clear hK)
  refine VC_cond rfl rfl (fun h => ?_) (fun h => VC_skip ?_)
  · refine VR [2] rfl rfl fun K hK => ?_; simp only [go_sem,↓reduceIte,Nat.reduceEqDiff]
    ((repeat refine And.intro (by omega) ?_); refine hK _ _ ?_; clear hK)
    exact VC_ret (VX_ret1 rfl rfl ⟨hH, by rw [checkP, if_neg (hb.1 h)]⟩)
  · have hg : cleanS s = some s := Classical.byContradiction fun hh => by rw [hb.2 hh] at h; cases h
    refine VR [2] rfl rfl fun K hK => ?_; simp only [go_sem,↓reduceIte,Nat.reduceEqDiff]
    ((repeat refine And.intro (by omega) ?_); refine hK _ _ ?_; clear hK)
    exact VC_ret (VX_ret1 rfl rfl ⟨hH, by rw [checkP, if_pos hg]⟩)
theorem runder_does (d p : List UInt8) (w : World) (hd : d.length ≤ 140737488355328) (hp : p.length ≤ 140737488355328) : Does Tryd.prog 30 #[Str d, Str p] w fun v w' => w' = w ∧ v = .bool (underS d p) := by
  refine Does_enter (args := [Str d, Str p]) 21 Tryd.func30 rfl rfl (of_decide_eq_true rfl) ?_
  simp only [Env.ofArgs]
  refine VR [0, 1] rfl rfl fun K hK => ?_; simp only [go_sem,↓reduceIte,Nat.reduceEqDiff]
  ((repeat refine And.intro (by omega) ?_); refine hK _ _ ?_; clear hK)
  refine VR [1, 5] rfl rfl fun K hK => ?_; simp only [go_sem,↓reduceIte,Nat.reduceEqDiff]
  refine And.intro (by simp; omega) ?_
  (refine hK _ _ ?_; clear hK)
  refine VR [4] rfl rfl fun K hK => ?_; simp only [go_sem,↓reduceIte,Nat.reduceEqDiff]
  suffices out : ∀ b : Bool, b = underS d p → K [(4, .bool b)] w by
    have hlen : (d ++ [47]).length = d.length + 1 := by simp
    have hu : underS d p = decide (p.take (d.length + 1) = d ++ [47]) := by
      rw [underS, Bool.eq_iff_iff, List.isPrefixOf_iff_prefix, decide_eq_true_eq, List.prefix_iff_eq_take, hlen]
      exact eq_comm
    rw [hu] at out
    simp only [hlen]
    refine And.intro (fun h => And.intro (by omega) (out _ rfl)) (fun h => out _ ?_)
    rw [eq_comm, decide_eq_false_iff_not]
    intro e
    have := congrArg List.length e
    simp at this
    omega
  rintro b rfl
  (refine hK _ _ ?_; clear hK)
  exact VC_ret (VX_ret1 rfl rfl ⟨rfl, rfl⟩)
end Go.Proofs.YtklpiecolpnmlaaDoor
namespace Go.Proofs.YtklpiecolpnmlaaDoor
open Go Go.Eng
set_option maxRecDepth 100000
set_option maxHeartbeats 2000000
set_option linter.unusedSimpArgs false
set_option linter.unusedVariables false
def lens (l : List PE) : Nat := (l.map fun e => e.1.length).sum
theorem lens_app (l m : List PE) : lens (l ++ m) = lens l + lens m := by simp [lens]
theorem lens_under (n : List UInt8) (l : List PE) : lens (l.map (under1 n)) = lens l + l.length := by
  induction l with
  | nil => rfl
  | cons x l ih =>
    simp only [lens, List.map_cons, List.sum_cons, under1, List.length_cons] at ih ⊢
    omega
theorem size_flat : ∀ t : NT, goodN t.pt → sizeN t ≤ lens (flatN t.pt) := by
  have key : ∀ l : List NT, (∀ k ∈ l, goodN k.pt → sizeN k ≤ lens (flatN k.pt)) → goodL (l.map NT.pt) → sizeL l ≤ lens (flatL (l.map NT.pt)) := by
    intro l
    induction l with
    | nil => intro _ _; simp [sizeL]
    | cons x l ihl =>
      intro ih hg
      rw [List.map_cons, goodL] at hg
      rw [sizeL, List.map_cons, flatL, lens_app]
      have h1 := ih x (by simp) hg.1
      have h2 := ihl (fun k hk => ih k (List.mem_cons_of_mem _ hk)) hg.2.2
      omega
  refine NT.ind fun t ih hg => ?_
  have hne := flatN_ne _ hg
  rw [pt_eq] at hg hne ⊢
  rw [goodN] at hg
  rw [sizeN_eq]
  rw [flatN] at hne ⊢
  split
  · rename_i hd
    rw [if_pos hd] at hg hne
    have h1 := key _ ih hg.2.2
    rw [lens_under]
    have : 0 < (flatL (t.kids.map NT.pt)).length := List.length_pos_iff.2 (by intro e; rw [e] at hne; exact hne rfl)
    omega
  · rename_i hd
    rw [if_neg hd] at hg
    have : t.kids = [] := by simpa using hg
    rw [this]
    simp [sizeL, lens]
theorem sizeL_flat (l : List NT) (hg : goodL (l.map NT.pt)) : sizeL l ≤ lens (flatL (l.map NT.pt)) := by
  induction l with
  | nil => simp [sizeL]
  | cons x l ih =>
    rw [List.map_cons, goodL] at hg
    rw [sizeL, List.map_cons, flatL, lens_app]
    have h1 := size_flat x hg.1
    have h2 := ih hg.2.2
    omega
theorem lens_perm {l m : List PE} (h : l.Perm m) : lens l = lens m := (h.map _).sum_nat
theorem lens_le {l : List PE} {b : Nat} (h : ∀ e ∈ l, e.1.length ≤ b) : lens l ≤ l.length * b := by
  induction l with
  | nil => simp [lens]
  | cons x l ih =>
    have h1 := h x (by simp)
    have h2 := ih fun e he => h e (List.mem_cons_of_mem _ he)
    simp only [lens, List.map_cons, List.sum_cons, List.length_cons, Nat.add_mul, Nat.one_mul] at h2 ⊢
    omega
theorem cell_spot {w : World} {a : Addr} {v : Value} (h : w.cell? a = some v) : a.spot = none := by
  unfold World.cell? at h
  split at h
  · split at h
    · cases h
    · rename_i h2; cases hs : a.spot with
      | none => rfl
      | some s => rw [hs] at h2; exact absurd rfl h2
  · cases h
theorem rbuild_does (l : List En) (a : Option Addr) (c : Nat) (w : World) (hl : RS w a l.length 2 (ensV l)) (hlen : l.length ≤ 1000000) (hok : ∀ x ∈ l, EnS x) :
    Does Tryd.prog 14 #[.slice a l.length c] w (BuildIs w l) := by
  refine Does_enter (args := [.slice a l.length c]) 86 Tryd.func14 rfl rfl (of_decide_eq_true rfl) ?_
  simp only [Env.ofArgs]
  refine VR [0, 2] rfl rfl fun K hK => ?_; simp only [go_sem,↓reduceIte,Nat.reduceEqDiff]
  refine MemK_alloc (.agg #[.string ⟨#[]⟩, .bool false, .string ⟨#[]⟩, .slice none 0 0]) (by kernel_rfl) ?_
  simp only [go_sem,↓reduceIte,Nat.reduceEqDiff]
  have hH := (Heap.start w).box 24 (nodeV nilN)
  have hn : (nodeV nilN) = [.string ⟨#[]⟩, .bool false, .string ⟨#[]⟩, .slice none 0 0] := rfl
  rw [hn] at hH
  generalize w.alloc (Obj.cells [Value.string ⟨#[]⟩, .bool false, .string ⟨#[]⟩, .slice none 0 0].toArray 24) = w1 at *
  generalize hgw : w.heap.size = g at hH ⊢
  rw [← hn] at hH
  (refine hK _ _ ?_; clear hK)
  refine VR [0, 2, 4] rfl rfl fun K hK => ?_; simp only [go_sem,↓reduceIte,Nat.reduceEqDiff]
  ((repeat refine And.intro (by omega) ?_); refine hK _ _ ?_; clear hK)
  (repeat refine VC_seq ?_)
  refine VC_block ?_
  refine VC_loopS [0, 2, 4] (fun m e w' => ∃ (i : Nat), Is e [(0, .slice a l.length c), (2, ptrV g), (4, .int .i64 i)] ∧ Heap w [] w' [Res.blk g 24 (nodeV nilN)] ∧ i ≤ l.length ∧ (∀ x ∈ l.take i, checkP x.1 = 0) ∧ m = l.length - i) l.length ?_ ?_
  · simp only [go_sem,↓reduceIte,Nat.reduceEqDiff]
    exact ⟨0, rfl, hH, by omega, by simp, rfl⟩
  clear hH w1
  rintro m e w2 ⟨i, rfl, hH, hi, hpre, rfl⟩
  refine VR [0, 2, 4, 12] rfl rfl fun K hK => ?_; simp only [go_sem,↓reduceIte,Nat.reduceEqDiff]
  ((repeat refine And.intro (by omega) ?_); refine hK _ _ ?_; clear hK)
  refine VC_cond rfl rfl (fun h => ?_) (fun h => ?_)
  · simp only [decide_eq_true_eq] at h
    have hi2 : i < l.length := by omega
    refine VC_skip ?_
    ((repeat refine VC_seq ?_); refine VC_block ?_)
    obtain ⟨x, hx⟩ : ∃ x, l[i]? = some x := ⟨_, List.getElem?_eq_getElem hi2⟩
    have hxm := List.mem_of_getElem? hx
    obtain ⟨hx1, hx2⟩ := hok x hxm
    obtain ⟨p, rfl⟩ : ∃ p, a = some p := by
      cases ha : a with
      | none => have := hl.2.1 ha; omega
      | some p => exact ⟨p, rfl⟩
    have c1 := en_cells (ens_get (hH.rs' hl) hx)
    refine VR [0, 2, 4, 21] rfl rfl fun K hK => ?_; simp only [go_sem,↓reduceIte,Nat.reduceEqDiff]
    refine And.intro (And.intro (by omega) (by omega)) ⟨_, c1, ?_⟩
    (try simp only [go_sem,↓reduceIte,Nat.reduceEqDiff])
    refine MemK_call Tryd.call29 ?_; simp only [go_sem,↓reduceIte,Nat.reduceEqDiff]; refine CallK.mk (rcheck14_does x.1 w2 hx1) ?_
    rintro v w5 ⟨hHd, rfl⟩
    have hHe : Heap w [] w5 [Res.blk g 24 (nodeV nilN)] := hH.call0 hHd
    clear hHd hH
    (try simp only [go_sem,↓reduceIte,Nat.reduceEqDiff])
    (refine hK _ _ ?_; clear hK)
    refine VC_cond rfl rfl (fun h => ?_) (fun h => VC_skip ?_)
    · have hne : checkP x.1 ≠ 0 := by simpa using h
      refine VR [2, 3] rfl rfl fun K hK => ?_; simp only [go_sem,↓reduceIte,Nat.reduceEqDiff]
      refine MemK_store ?_
      simp only [go_sem,↓reduceIte,Nat.reduceEqDiff]
      refine StoreK_blk hHe 0 (vs := nodeV nilN) rfl rfl (by kernel_rfl) (by simp [nodeV]) (nodeV_one _) fun w6 hHf => ?_
      (try simp only [go_sem,↓reduceIte,Nat.reduceEqDiff])
      (refine hK _ _ ?_; clear hK)
      refine VC_ret (VX_retC2 rfl rfl rfl (vLoad_blk (hHf.at 0 rfl) (by kernel_rfl) (by kernel_rfl) rfl ?_))
      exact .inl ⟨⟨x, hxm, hne⟩, rfl, hHf.sub (List.nil_sublist _)⟩
    have he : checkP x.1 = 0 := by simpa using h
    refine VC_blk ?_
    refine VR [0, 2, 4] rfl rfl fun K hK => ?_; simp only [go_sem,↓reduceIte,Nat.reduceEqDiff]
    ((repeat refine And.intro (by omega) ?_); refine hK _ _ ?_; clear hK)
    refine VC_again ?_
    simp only [go_sem,↓reduceIte,Nat.reduceEqDiff]
    refine ⟨l.length - (i + 1), by omega, i + 1, rfl, hHe, by omega, ?_, rfl⟩
    rw [take_snoc hx]
    intro y hy
    rcases List.mem_append.1 hy with hy | hy
    · exact hpre y hy
    · simp at hy; rw [hy]; exact he
  simp only [decide_eq_false_iff_not] at h
  obtain rfl : i = l.length := by omega
  rw [List.take_length] at hpre
  have hnb : ¬ BadP l := fun ⟨x, hx, hne⟩ => hne (hpre x hx)
  have hval : ∀ x ∈ l, x.1.length ≤ 120 := fun x hx => by
    have := hpre x hx
    unfold checkP at this
    split at this
    · rename_i hc; exact (cleanS_self hc).2.1
    · cases this
  clear h hi
  refine VC_exit rfl ?_
  refine VR [0, 2, 5] rfl rfl fun K hK => ?_; simp only [go_sem,↓reduceIte,Nat.reduceEqDiff]
  ((repeat refine And.intro (by omega) ?_); refine hK _ _ ?_; clear hK)
  (repeat refine VC_seq ?_)
  refine VC_block ?_
  refine VC_loopS [0, 2, 5] (fun m e w' => ∃ (i : Nat), Is e [(0, .slice a l.length c), (2, ptrV g), (5, .int .i64 i)] ∧ Is w' w2 ∧ i ≤ l.length ∧ (∀ i' k x y, i' < i → i' ≠ k → l[i']? = some x → l[k]? = some y → ¬ (toP x).1 <+: (toP y).1) ∧ m = l.length - i) l.length ?_ ?_
  · simp only [go_sem,↓reduceIte,Nat.reduceEqDiff]
    exact ⟨0, rfl, rfl, by omega, fun i' k x y h => by omega, rfl⟩
  rintro m e w3 ⟨i, rfl, rfl, hi, hap, rfl⟩
  refine VR [0, 2, 5, 26] rfl rfl fun K hK => ?_; simp only [go_sem,↓reduceIte,Nat.reduceEqDiff]
  ((repeat refine And.intro (by omega) ?_); refine hK _ _ ?_; clear hK)
  refine VC_cond rfl rfl (fun h => ?_) (fun h => ?_)
  · simp only [decide_eq_true_eq] at h
    have hi2 : i < l.length := by omega
    obtain ⟨x, hx⟩ : ∃ x, l[i]? = some x := ⟨_, List.getElem?_eq_getElem hi2⟩
    have hxv := hval x (List.mem_of_getElem? hx)
    obtain ⟨p, rfl⟩ : ∃ p, a = some p := by
      cases ha : a with
      | none => have := hl.2.1 ha; omega
      | some p => exact ⟨p, rfl⟩
    have c1 := en_cells (ens_get (hH.rs' hl) hx)
    refine VC_skip ?_
    ((repeat refine VC_seq ?_); refine VC_block ?_)
    refine VR [0, 2, 5, 6] rfl rfl fun K hK => ?_; simp only [go_sem,↓reduceIte,Nat.reduceEqDiff]
    ((repeat refine And.intro (by omega) ?_); refine hK _ _ ?_; clear hK)
    (repeat refine VC_seq ?_)
    refine VC_block ?_
    refine VC_loopS [0, 2, 5, 6] (fun m e w' => ∃ (k : Nat), Is e [(0, .slice (some p) l.length c), (2, ptrV g), (5, .int .i64 i), (6, .int .i64 k)] ∧ Is w' w3 ∧ k ≤ l.length ∧ (∀ k' y, k' < k → i ≠ k' → l[k']? = some y → ¬ (toP x).1 <+: (toP y).1) ∧ m = l.length - k) l.length ?_ ?_
    · simp only [go_sem,↓reduceIte,Nat.reduceEqDiff]
      exact ⟨0, rfl, rfl, by omega, fun k' y h => by omega, rfl⟩
    rintro m e w4 ⟨k, rfl, rfl, hk, hap2, rfl⟩
    refine VR [0, 2, 5, 6, 32] rfl rfl fun K hK => ?_; simp only [go_sem,↓reduceIte,Nat.reduceEqDiff]
    ((repeat refine And.intro (by omega) ?_); refine hK _ _ ?_; clear hK)
    refine VC_cond rfl rfl (fun h => ?_) (fun h => ?_)
    · simp only [decide_eq_true_eq] at h
      have hk2 : k < l.length := by omega
      obtain ⟨y, hy⟩ : ∃ y, l[k]? = some y := ⟨_, List.getElem?_eq_getElem hk2⟩
      have hyv := hval y (List.mem_of_getElem? hy)
      have c2 := en_cells (ens_get (hH.rs' hl) hy)
      refine VC_skip ?_
      ((repeat refine VC_seq ?_); refine VC_block ?_)
      (repeat refine VC_seq ?_); refine VC_regionL [0, 2, 5, 6, 63] 26 (by kernel_rfl) (by kernel_rfl) (by kernel_rfl) rfl fun K hK => ?_; simp only [go_sem,↓reduceIte,Nat.reduceEqDiff]
      suffices out : ∀ b : Bool, (b = true ↔ i ≠ k ∧ (toP x).1 <+: (toP y).1) → K [(0, .slice (some p) l.length c), (2, ptrV g), (5, .int .i64 i), (6, .int .i64 k), (63, .bool b)] w4 by
        rw [prefix_iff] at out
        refine And.intro (fun h1 => ?_) (fun h1 => ?_)
        · refine And.intro (And.intro (by omega) (by omega)) ⟨_, c1, And.intro (And.intro (by omega) (by omega)) ⟨_, c2, ?_⟩⟩
          (try simp only [go_sem,↓reduceIte,Nat.reduceEqDiff])
          refine And.intro (fun h2 => And.intro (And.intro (by omega) (by omega)) ⟨_, c1, And.intro (And.intro (by omega) (by omega)) ⟨_, c2, ?_⟩⟩) (fun h2 => out _ ?_)
          · (try simp only [go_sem,↓reduceIte,Nat.reduceEqDiff])
            refine MemK_call Tryd.call30 ?_; simp only [go_sem,↓reduceIte,Nat.reduceEqDiff]; refine CallK.mk (runder_does x.1 y.1 w4 (by omega) (by omega)) ?_
            rintro v w5 ⟨rfl, rfl⟩
            (try simp only [go_sem,↓reduceIte,Nat.reduceEqDiff])
            refine out _ ?_
            have hik : i ≠ k := by omega
            simp only [h2, false_or, hik, ne_eq, not_false_eq_true, true_and]
          · have hik : i ≠ k := by omega
            simp [hik, h2]
        · refine out _ ?_
          have hik : i = k := by omega
          simp [hik]
      intro b hb
      (refine hK _ _ ?_; clear hK)
      refine VC_cond rfl rfl (fun h => ?_) (fun h => VC_skip ?_)
      · obtain ⟨h1, h2⟩ := hb.1 h
        refine VR [2, 3] rfl rfl fun K hK => ?_; simp only [go_sem,↓reduceIte,Nat.reduceEqDiff]
        refine MemK_store ?_
        simp only [go_sem,↓reduceIte,Nat.reduceEqDiff]
        refine StoreK_blk hH 0 (vs := nodeV nilN) rfl rfl (by kernel_rfl) (by simp [nodeV]) (nodeV_one _) fun w6 hHf => ?_
        (try simp only [go_sem,↓reduceIte,Nat.reduceEqDiff])
        (refine hK _ _ ?_; clear hK)
        refine VC_ret (VX_retC2 rfl rfl rfl (vLoad_blk (hHf.at 0 rfl) (by kernel_rfl) (by kernel_rfl) rfl ?_))
        refine .inr (.inl ⟨hnb, fun hpw => ?_, rfl, hHf.sub (List.nil_sublist _)⟩)
        rw [List.pairwise_map, List.pairwise_iff_getElem] at hpw
        rw [List.getElem?_eq_getElem hi2] at hx
        rw [List.getElem?_eq_getElem hk2] at hy
        cases hx
        cases hy
        rcases Nat.lt_or_gt_of_ne h1 with h3 | h3
        · exact (hpw i k hi2 hk2 h3).1 h2
        · exact (hpw k i hk2 hi2 h3).2 h2
      have hnp : ¬ (i ≠ k ∧ (toP x).1 <+: (toP y).1) := fun hh => by rw [hb.2 hh] at h; cases h
      refine VC_blk ?_
      refine VR [0, 2, 5, 6] rfl rfl fun K hK => ?_; simp only [go_sem,↓reduceIte,Nat.reduceEqDiff]
      ((repeat refine And.intro (by omega) ?_); refine hK _ _ ?_; clear hK)
      refine VC_again ?_
      simp only [go_sem,↓reduceIte,Nat.reduceEqDiff]
      refine ⟨l.length - (k + 1), by omega, k + 1, rfl, rfl, by omega, ?_, rfl⟩
      intro k' y' hk' hne hy'
      by_cases hkk : k' = k
      · subst hkk
        rw [hy] at hy'
        cases hy'
        exact fun hp => hnp ⟨hne, hp⟩
      · exact hap2 k' y' (by omega) hne hy'
    · simp only [decide_eq_false_iff_not] at h
      refine VC_exit rfl ?_
      refine VC_blk ?_
      refine VR [0, 2, 5] rfl rfl fun K hK => ?_; simp only [go_sem,↓reduceIte,Nat.reduceEqDiff]
      ((repeat refine And.intro (by omega) ?_); refine hK _ _ ?_; clear hK)
      refine VC_again ?_
      simp only [go_sem,↓reduceIte,Nat.reduceEqDiff]
      refine ⟨l.length - (i + 1), by omega, i + 1, rfl, rfl, by omega, ?_, rfl⟩
      intro i' k' x' y' hi' hne hx' hy'
      by_cases hii : i' = i
      · subst hii
        rw [hx] at hx'
        cases hx'
        exact hap2 k' y' (by have := (List.getElem?_eq_some_iff.1 hy').1; omega) hne hy'
      · exact hap i' k' x' y' (by omega) hne hx' hy'
  simp only [decide_eq_false_iff_not] at h
  obtain rfl : i = l.length := by omega
  have hpw : (l.map toP).Pairwise ApartP := by
    rw [List.pairwise_map, List.pairwise_iff_getElem]
    intro i j hi hj hij
    exact ⟨hap i j _ _ hi (by omega) (List.getElem?_eq_getElem hi) (List.getElem?_eq_getElem hj), hap j i _ _ hj (by omega) (List.getElem?_eq_getElem hj) (List.getElem?_eq_getElem hi)⟩
  have hnc : ¬ Clash l := fun hc => hc hpw
  clear h hi hap
  refine VC_exit rfl ?_
  refine VR [0, 2, 7] rfl rfl fun K hK => ?_; simp only [go_sem,↓reduceIte,Nat.reduceEqDiff]
  rw [bd_root0]
  refine MemK_alloc (.agg #[.string ⟨#[]⟩, .bool false, .string ⟨#[]⟩, .slice none 0 0]) (by kernel_rfl) ?_
  simp only [go_sem,↓reduceIte,Nat.reduceEqDiff]
  have hH3 : Heap w [] _ _ := hH.box 24 (nodeV nilN)
  rw [hn] at hH3
  generalize w3.alloc (Obj.cells [Value.string ⟨#[]⟩, .bool false, .string ⟨#[]⟩, .slice none 0 0].toArray 24) = w4 at *
  generalize w3.heap.size = g7 at *
  rw [← hn] at hH3
  clear hH
  refine MemK_store ?_
  simp only [go_sem,↓reduceIte,Nat.reduceEqDiff]
  refine StoreK_blk hH3 0 (vs := nodeV (.mk [] true [] none 0 [])) rfl rfl (by kernel_rfl) (by simp [nodeV]) (nodeV_one _) fun w5 hH4 => ?_
  have hH4 : Heap w [] w5 [Res.blk g7 24 (nodeV (.mk [] true [] none 0 [])), Res.blk g 24 (nodeV nilN)] := hH4
  clear hH3
  (try simp only [go_sem,↓reduceIte,Nat.reduceEqDiff])
  (refine hK _ _ ?_; clear hK)
  refine VR [0, 2, 7, 8] rfl rfl fun K hK => ?_; simp only [go_sem,↓reduceIte,Nat.reduceEqDiff]
  ((repeat refine And.intro (by omega) ?_); refine hK _ _ ?_; clear hK)
  (repeat refine VC_seq ?_)
  refine VC_block ?_
  refine VC_loopS [0, 2, 7, 8] (fun m e w' => ∃ (i : Nat) (tn : NT) (F : List Nat), Is e [(0, .slice a l.length c), (2, ptrV g), (7, ptrV g7), (8, .int .i64 i)] ∧ Heap w [] w' [Res.trees F [tn], Res.blk g7 24 (nodeV tn), Res.blk g 24 (nodeV nilN)] ∧ i ≤ l.length ∧
      tn.name = [] ∧ tn.dir = true ∧ tn.data = [] ∧ goodL (tn.kids.map NT.pt) ∧ (flatL (tn.kids.map NT.pt)).Perm ((l.take i).map toP) ∧ m = l.length - i) l.length ?_ ?_
  · simp only [go_sem,↓reduceIte,Nat.reduceEqDiff]
    have h0 : LiesIn [] w5 (.mk [] true [] none 0 []) := by
      rw [LiesIn_iff]
      exact ⟨⟨by simp [NT.name], by simp [NT.data], by simp [NT.kids]⟩, ⟨rfl, fun _ => rfl, fun ad ha => (by cases ha)⟩, fun p hp => (by cases hp), Nat.zero_le _, fun j hj => (by cases hj)⟩
    exact ⟨0, .mk [] true [] none 0 [], [], rfl, Heap.free hH4 rfl (fun k hk => by simp at hk; rw [hk]; exact h0), by omega, rfl, rfl, rfl, by simp [NT.kids, goodL], by simp [NT.kids, flatL], rfl⟩
  clear hH4
  rintro m e w6 ⟨i, tn, F, rfl, hH, hi, hn1, hn2, hn3, hgood, hperm, rfl⟩
  refine VR [0, 2, 7, 8, 69] rfl rfl fun K hK => ?_; simp only [go_sem,↓reduceIte,Nat.reduceEqDiff]
  ((repeat refine And.intro (by omega) ?_); refine hK _ _ ?_; clear hK)
  refine VC_cond rfl rfl (fun h => ?_) (fun h => ?_)
  · simp only [decide_eq_true_eq] at h
    have hi2 : i < l.length := by omega
    obtain ⟨x, hx⟩ : ∃ x, l[i]? = some x := ⟨_, List.getElem?_eq_getElem hi2⟩
    have hxm := List.mem_of_getElem? hx
    have hxv := hval x hxm
    obtain ⟨hx1, hx2⟩ := hok x hxm
    obtain ⟨p, rfl⟩ : ∃ p, a = some p := by
      cases ha : a with
      | none => have := hl.2.1 ha; omega
      | some p => exact ⟨p, rfl⟩
    have hapx : ∀ e ∈ flatL (tn.kids.map NT.pt), ¬ e.1 <+: (toP x).1 ∧ ¬ (toP x).1 <+: e.1 := by
      intro e he
      have he2 := hperm.mem_iff.1 he
      have := hpw
      rw [← List.take_append_drop i l, List.map_append, List.pairwise_append] at this
      exact this.2.2 e he2 (toP x) (List.mem_map_of_mem (by rw [List.drop_eq_getElem_cons hi2]; rw [List.getElem?_eq_getElem hi2] at hx; rw [Option.some.inj hx]; simp))
    have hpx : (toP x).1 ≠ [] := splitS_ne _
    obtain ⟨hw1, hw2⟩ := withK_flat (toP x).1 (tn.kids.map NT.pt) x.2 hpx hgood hapx
    have hsz : sizeN tn + (splitS x.1).length ≤ 1000000000 := by
      have h1 := sizeN_eq tn
      have h2 := sizeL_flat tn.kids hgood
      have h3 := lens_perm hperm
      have h4 : lens ((l.take i).map toP) ≤ ((l.take i).map toP).length * 121 := lens_le fun e he => by
        obtain ⟨y, hy, rfl⟩ := List.mem_map.1 he
        have := hval y (List.mem_of_mem_take hy)
        have h5 := splitS_len y.1
        show (splitS y.1).length ≤ 121
        omega
      have h5 : ((l.take i).map toP).length ≤ 1000000 := by simp; omega
      have h6 := splitS_len x.1
      have h7 := Nat.mul_le_mul_right 121 h5
      omega
    have hF6 : ∀ b ∈ F, b < w6.heap.size := fun b hb => (hH.foot (Res.trees F [tn]) (by simp) b hb).2
    have hLn : LiesIn F w6 tn := hH.at 0 rfl tn (by simp)
    have hrd := ens_get hl hx
    have hpl9 : ∀ y ∈ splitS x.1, y.length ≤ 1000000000 := fun y hy => by
      have := splitS_mem_len x.1 y hy
      omega
    have e1 := (hH.rs' hl)
    have r1 := en_cells (ens_get e1 hx)
    have r2 : w6.cell? ((p.add (i * 2)).add 1) = some (Str x.2) := (ens_get e1 hx) 1 (Str x.2) rfl
    have b1 := hH.hole_cell 1 rfl (en_cells hrd)
    have b2 := hH.hole_cell 1 rfl (hrd 1 (Str x.2) rfl)
    have ebk : (⟨(p.add (i * 2)).block, (p.add (i * 2)).off + 1, none⟩ : Addr) = (p.add (i * 2)).add 1 := by
      have := cell_spot (en_cells hrd)
      unfold Addr.add at this ⊢
      split at this <;> split <;> simp_all
    refine VC_skip ?_
    ((repeat refine VC_seq ?_); refine VC_block ?_)
    (repeat refine VC_seq ?_); refine VC_regionT (holes (Res.blk g7 24 (nodeV tn)).foot w6) (Upd.refl _ _).extH [0, 2, 7, 8] (.two [(1, true), (2, true), (3, true), (4, true), (5, true), (7, true), (8, true), (9, true), (10, true), (11, true)] 0 6 (.seq [(6, false), (12, false), (13, false)]) (.seq [(0, false), (12, false), (13, false)])) (by kernel_rfl) (by kernel_rfl) rfl fun K hK => ?_
    suffices outk : ∀ (t' : NT) (F' : List Nat) (w9 : World), Heap w [] w9 [Res.trees F' [t'], Res.blk g7 24 (nodeV t'), Res.blk g 24 (nodeV nilN)] → t'.name = tn.name → t'.dir = tn.dir → t'.data = tn.data → t'.kids.map NT.pt = withK (tn.kids.map NT.pt) (toP x).1 x.2 → K [(0, .slice (some p) l.length c), (2, ptrV g), (7, ptrV g7), (8, .int .i64 i)] w9 by
      have hf0 := hH.focus 1 rfl
      have fin : ∀ {w7 w8 w9 : World} {a9 : Option Addr} {c9 : Nat} {t' : NT} {F1 : List Nat}, Heap w6 [] w7 [strRow a9 (splitS x.1) c9] → Heap w7 [] w8 [Res.mix w7 F F1 [t']] → Heap w6 (Res.blk g7 24 (nodeV tn)).foot w9 [Res.mix w7 F F1 [t'], strRow a9 (splitS x.1) c9, Res.blk g7 24 (nodeV t')] →
          Heap w [] w9 [Res.trees (F ++ F1) [t'], Res.blk g7 24 (nodeV t'), Res.blk g 24 (nodeV nilN)] := by
        intro w7 w8 w9 a9 c9 t' F1 h1 h2 h3
        have hF7 : ∀ b ∈ F, b < w7.heap.size := fun b hb => Nat.lt_of_lt_of_le (hF6 b hb) h1.upd.size
        have hb7 : ∀ b ∈ F, b ∉ (Res.blk g7 24 (nodeV tn)).foot := fun b hb => (List.pairwise_cons.1 hH.apart).1 _ (by simp) b hb
        have hm := h3.at 0 rfl hF7 t' (by simp)
        have hlies : LiesIn (F ++ F1) w9 t' := by
          refine LiesIn.move (fun _ h => h) (fun b hbm => ?_) t' hm
          by_cases hb : b ∈ F
          · rw [hyb_old hb (hF7 b hb), h1.upd.block b (hF6 b hb) (by simp), h3.upd.block b (hF6 b hb) (hb7 b hb)]
          · exact (hyb_new hb (h3.foot _ (by simp : Res.mix w7 F F1 [t'] ∈ _) b ((List.mem_append.1 hbm).resolve_left hb)).2).symm
        have h4 := hH.call1 1 rfl (h3.perm (List.perm_append_comm (l₁ := [_, _]) (l₂ := [_])))
        simp only [List.set_cons_succ, List.set_cons_zero] at h4
        have h5 : Heap w [] w9 [Res.mix w7 F F1 [t'], strRow a9 (splitS x.1) c9, Res.trees F [tn], Res.blk g7 24 (nodeV t'), Res.blk g 24 (nodeV nilN)] := h4
        have h6 : Heap w [] w9 [Res.mix w7 F F1 [t'], Res.trees F [tn], Res.blk g7 24 (nodeV t'), Res.blk g 24 (nodeV nilN)] := h5.sub (.cons_cons _ (.cons _ (.refl _)))
        exact Heap.meld h6 (fun b hb => (List.mem_append.1 hb).symm) (fun _ _ k hk => by simp at hk; rw [hk]; exact hlies)
      have hL7 : ∀ {w7 : World} {G7 : List Res}, Heap w6 [] w7 G7 → LiesIn F w7 tn := fun h => LiesIn.move (fun _ h => h) (fun b hb => h.upd.block b (hF6 b hb) (by simp)) tn hLn
      have hF7 : ∀ {w7 : World} {G7 : List Res}, Heap w6 [] w7 G7 → ∀ b ∈ F, b < w7.heap.size := fun h b hb => Nat.lt_of_lt_of_le (hF6 b hb) h.upd.size
      have hsp9 : ∀ {w7 : World} {a9 : Option Addr} {c9 : Nat} {G7 : List Res}, Heap w6 [] w7 (strRow a9 (splitS x.1) c9 :: G7) → ∀ p, a9 = some p → p.spot = none := fun h p hp => by
        obtain ⟨_, _, _, h4 | ⟨g, _, _, h4, _⟩⟩ := h.at 0 rfl
        · rw [h4.1] at hp; cases hp
        · rw [h4] at hp; cases hp; rfl
      have hf := hf0
      simp only [vcT, planned, List.filterMap_cons, List.filterMap_nil, List.getElem?_cons_succ, List.getElem?_cons_zero, Option.map_some]; simp only [go_sem,↓reduceIte,Nat.reduceEqDiff]
      refine And.intro (And.intro (by omega) (by omega)) ⟨_, b1, And.intro (And.intro (by omega) (by omega)) ⟨_, by rw [ebk]; exact b2, ?_⟩⟩
      (try simp only [go_sem,↓reduceIte,Nat.reduceEqDiff])
      (try simp only [vcH_nil2])
      (try simp only [go_sem,↓reduceIte,Nat.reduceEqDiff])
      refine And.intro ?_ ?_
      · refine ⟨nodeV tn, ⟨rfl, blk_reads (hf.at 0 rfl)⟩, ?_⟩; (try simp only [vcH_nil2]); (try simp only [go_sem,↓reduceIte,Nat.reduceEqDiff])
        refine MemK_callD Tryd.call32 (rparts_does x.1 w6 hx1) (by simp only [go_sem,↓reduceIte,Nat.reduceEqDiff] <;> rfl) ?_; rintro v w7 ⟨a9, c9, rfl, hHp⟩; replace hf := (hf0.call0 hHp); refine ⟨hf.upd.extH, ?_⟩; (try simp only [vcH_nil2]); (try simp only [go_sem,↓reduceIte,Nat.reduceEqDiff])
        refine MemK_callD Tryd.call31 (with_does (splitS x.1) tn F x.2 a9 c9 w7 (hL7 hHp) (hF7 hHp) (row_rs (hHp.at 0 rfl)) (hsp9 hHp) (hHp.at 0 rfl).2.1 hpx hpl9 hx2 hsz) (by simp only [go_sem,↓reduceIte,Nat.reduceEqDiff] <;> rfl) ?_; rintro v w8 ⟨t', F1, rfl, hHw, k1, k2, k3, k4⟩; replace hf := hf.call0 hHw; refine ⟨hf.upd.extH, ?_⟩; (try simp only [vcH_nil2]); (try simp only [go_sem,↓reduceIte,Nat.reduceEqDiff])
        refine MemK_store ?_; simp only [go_sem,↓reduceIte,Nat.reduceEqDiff]; refine StoreK_blk hf 2 (o := 0) (vs := nodeV t') rfl rfl (by kernel_rfl) (by simp [nodeV]) (nodeV_one _) fun w9 hf => ?_; refine ⟨hf.upd.extH, ?_⟩; (try simp only [vcH_nil2]); (try simp only [go_sem,↓reduceIte,Nat.reduceEqDiff])
        exact outk _ _ _ (fin hHp hHw hf) k1 k2 k3 k4
      · refine MemK_callD Tryd.call32 (rparts_does x.1 w6 hx1) (by simp only [go_sem,↓reduceIte,Nat.reduceEqDiff] <;> rfl) ?_; rintro v w7 ⟨a9, c9, rfl, hHp⟩; replace hf := (hf0.call0 hHp); refine ⟨hf.upd.extH, ?_⟩; (try simp only [vcH_nil2]); (try simp only [go_sem,↓reduceIte,Nat.reduceEqDiff])
        refine ⟨nodeV tn, ⟨rfl, blk_reads (hf.at 1 rfl)⟩, ?_⟩
        (try simp only [go_sem,↓reduceIte,Nat.reduceEqDiff])
        (try simp only [vcH_nil2])
        (try simp only [go_sem,↓reduceIte,Nat.reduceEqDiff])
        refine MemK_callD Tryd.call31 (with_does (splitS x.1) tn F x.2 a9 c9 w7 (hL7 hHp) (hF7 hHp) (row_rs (hHp.at 0 rfl)) (hsp9 hHp) (hHp.at 0 rfl).2.1 hpx hpl9 hx2 hsz) (by simp only [go_sem,↓reduceIte,Nat.reduceEqDiff] <;> rfl) ?_; rintro v w8 ⟨t', F1, rfl, hHw, k1, k2, k3, k4⟩; replace hf := hf.call0 hHw; refine ⟨hf.upd.extH, ?_⟩; (try simp only [vcH_nil2]); (try simp only [go_sem,↓reduceIte,Nat.reduceEqDiff])
        refine MemK_store ?_; simp only [go_sem,↓reduceIte,Nat.reduceEqDiff]; refine StoreK_blk hf 2 (o := 0) (vs := nodeV t') rfl rfl (by kernel_rfl) (by simp [nodeV]) (nodeV_one _) fun w9 hf => ?_; refine ⟨hf.upd.extH, ?_⟩; (try simp only [vcH_nil2]); (try simp only [go_sem,↓reduceIte,Nat.reduceEqDiff])
        exact outk _ _ _ (fin hHp hHw hf) k1 k2 k3 k4
    intro t' F' w9 hH9 k1 k2 k3 k4
    (refine hK _ _ ?_; clear hK)
    refine VC_blk ?_
    refine VR [0, 2, 7, 8] rfl rfl fun K hK => ?_; simp only [go_sem,↓reduceIte,Nat.reduceEqDiff]
    ((repeat refine And.intro (by omega) ?_); refine hK _ _ ?_; clear hK)
    refine VC_again ?_
    simp only [go_sem,↓reduceIte,Nat.reduceEqDiff]
    refine ⟨l.length - (i + 1), by omega, i + 1, t', F', rfl, hH9, by omega, by rw [k1, hn1], by rw [k2, hn2], by rw [k3, hn3], by rw [k4]; exact hw1, ?_, rfl⟩
    rw [k4, take_snoc hx, List.map_append]
    exact hw2.trans ((hperm.cons _).trans (List.perm_append_comm (l₁ := [toP x])))
  simp only [decide_eq_false_iff_not] at h
  obtain rfl : i = l.length := by omega
  rw [List.take_length] at hperm
  refine VC_exit rfl ?_
  refine VR [2, 3] rfl rfl fun K hK => ?_; simp only [go_sem,↓reduceIte,Nat.reduceEqDiff]
  refine ⟨nodeV tn, ⟨rfl, blk_reads (hH.at 1 rfl)⟩, ?_⟩
  (try simp only [go_sem,↓reduceIte,Nat.reduceEqDiff])
  refine MemK_store ?_
  simp only [go_sem,↓reduceIte,Nat.reduceEqDiff]
  refine StoreK_blk hH 2 (vs := nodeV tn) rfl rfl (by kernel_rfl) (by simp [nodeV]) (nodeV_one _) fun w7 hHf => ?_
  (try simp only [go_sem,↓reduceIte,Nat.reduceEqDiff])
  (refine hK _ _ ?_; clear hK)
  refine VC_ret (VX_retC2 rfl rfl rfl (vLoad_blk (hHf.at 2 rfl) (by kernel_rfl) (by kernel_rfl) rfl ?_))
  exact .inr (.inr ⟨hnb, hnc, tn, F, rfl, hHf.sub (.cons_cons _ (List.nil_sublist _)), hn1, hn2, hn3, hgood, hperm⟩)
end Go.Proofs.YtklpiecolpnmlaaDoor
namespace Go.Proofs.YtklpiecolpnmlaaDoor
open Go Go.Eng
set_option maxRecDepth 100000
set_option maxHeartbeats 1000000
set_option linter.unusedSimpArgs false
set_option linter.unusedVariables false
theorem VX_retCC2 {C : Ctx} {e : Env} {w : World} {t u : Tmp} {T U : TypeId} {a b : Addr} (hr : C.fn.results = #[.cell t T, .cell u U]) (ht : e.find? t = some (.pointer (some a))) (hu : e.find? u = some (.pointer (some b)))
    (h : vLoad C.P T (.pointer (some a)) w fun v => vLoad C.P U (.pointer (some b)) w fun x => C.F (.tuple #[v, x]) w) : VX C [] .ret e w := by
  intro ac n ha
  obtain ⟨v, hv, r1⟩ := run_vLoadVar h
  obtain ⟨x, hv, r2⟩ := run_vLoadVar hv
  refine ⟨ha.defers, .tuple #[v, x], ?_, _, w, n, rfl, rfl, hv⟩
  have h1 := ha.at_ t _ ht
  rw [Array.getD_eq_getD_getElem?] at h1
  have h2 := ha.at_ u _ hu
  rw [Array.getD_eq_getD_getElem?] at h2
  have q1 := r1 (w.drewN n) (Ext.drewN w n)
  have q2 := r2 (w.drewN n) (Ext.drewN w n)
  simp [results, hr, h1, h2, asAddr, q1, q2]
theorem ld_sl1 {w : World} {g T E : Nat} {v : Value} {K : Value → Prop} (h : (Res.blk g T [v]).holds w) (hu : Tryd.prog.underlying T = some (.slice E)) (hk : K v) : vLoad Tryd.prog T (.pointer (some ⟨g, 0, none⟩)) w K := by
  rw [ld_sl T E _ hu]
  exact ⟨_, blk_cell h rfl, hk⟩
theorem ld_int1 {w : World} {g T : Nat} {k : IntKind} {v : Value} {K : Value → Prop} (h : (Res.blk g T [v]).holds w) (hu : Tryd.prog.underlying T = some (.int k)) (hk : K v) : vLoad Tryd.prog T (.pointer (some ⟨g, 0, none⟩)) w K := by
  rw [ld_int T _ k hu]
  exact ⟨_, blk_cell h rfl, hk⟩
def walkS (t : NT) : List En × Int :=
  if checkS t = 0 then (if (filesS t []).all (fun x => decide (x.1.length ≤ 120)) = true then (filesS t [], 0) else ([], 140)) else ([], 280)
theorem filesL_len : ∀ (t : NT) (ahead : List UInt8), (filesS t ahead).length ≤ sizeN t := by
  refine NT.ind fun t ih => ?_
  intro ahead
  rw [filesS_eq, sizeN_eq]
  have key : ∀ l : List NT, (∀ k ∈ l, ∀ ahead, (filesS k ahead).length ≤ sizeN k) → (filesL l ahead).length ≤ sizeL l := by
    intro l
    induction l with
    | nil => intro _; simp [filesL]
    | cons x l ihl =>
      intro h
      rw [filesL, List.length_append, sizeL]
      have h1 := ihl fun k hk => h k (List.mem_cons_of_mem _ hk)
      have h2 : (if x.dir then filesS x (ahead ++ x.name ++ [47]) else [(ahead ++ x.name, x.data)]).length ≤ sizeN x := by
        split
        · exact h x (List.mem_cons_self ..) _
        · rw [sizeN_eq]; simp
      omega
  have := key t.kids ih
  omega
theorem twalk_does (t : NT) (w : World) (hL : Lies w t) (hsz : sizeN t ≤ 30000) : Does Tryd.prog 8 #[nodeA t] w fun v w' =>
    ∃ a c, v = .tuple #[.slice a (walkS t).1.length c, .int .i64 (walkS t).2] ∧ Heap w [] w' [Res.row 38 2 a (walkS t).1.length c (ensV (walkS t).1)] := by
  refine Does_enterG (args := [nodeA t]) 24 Tryd.func8 rfl rfl (of_decide_eq_true rfl) ?_
  simp only [Env.ofArgs, Nat.reduceAdd]
  (repeat with_reducible refine VG_seq ?_); refine VG_region [1, 2, 3] (by kernel_rfl) fun K hK => ?_; simp only [go_sem,↓reduceIte,Nat.reduceEqDiff]
  refine MemK_box ?_
  simp only [go_sem,↓reduceIte,Nat.reduceEqDiff]
  have hH := (Heap.start w).box 24 (nodeV t)
  generalize w.alloc (Obj.cells (nodeV t).toArray 24) = w1 at *
  generalize w.heap.size = g1 at *
  refine MemK_alloc (.slice none 0 0) (by kernel_rfl) ?_
  simp only [go_sem,↓reduceIte,Nat.reduceEqDiff]
  have hH2 : Heap w [] _ _ := hH.box 27 [.slice none 0 0]
  generalize w1.alloc (Obj.cells [Value.slice none 0 0].toArray 27) = w2 at *
  generalize w1.heap.size = g2 at *
  refine MemK_alloc (.int .i64 0) (by kernel_rfl) ?_
  simp only [go_sem,↓reduceIte,Nat.reduceEqDiff]
  have hH3 : Heap w [] _ _ := hH2.box 28 [.int .i64 0]
  generalize w2.alloc (Obj.cells [Value.int IntKind.i64 0].toArray 28) = w3 at *
  generalize w2.heap.size = g3 at *
  clear hH hH2
  (refine hK _ _ ?_; clear hK)
  have hL3 := Lies.keep hH3 t hL
  (repeat with_reducible refine VG_seq ?_); refine VG_region [1, 2, 3, 4] (by kernel_rfl) fun K hK => ?_; simp only [go_sem,↓reduceIte,Nat.reduceEqDiff]
  refine ⟨nodeV t, ⟨rfl, blk_reads (hH3.at 2 rfl)⟩, ?_⟩
  (try simp only [go_sem,↓reduceIte,Nat.reduceEqDiff])
  refine MemK_callD Tryd.call11 (tcheck_does t w3 hL3) (by simp only [go_sem,↓reduceIte,Nat.reduceEqDiff] <;> rfl) ?_
  rintro v w4 ⟨hHc, rfl⟩
  have hH4 := hH3.call0 hHc
  clear hHc hH3
  have hH4 : Heap w [] w4 [Res.blk g3 28 [.int .i64 0], Res.blk g2 27 [.slice none 0 0], Res.blk g1 24 (nodeV t)] := hH4
  (try simp only [go_sem,↓reduceIte,Nat.reduceEqDiff])
  (refine hK _ _ ?_; clear hK)
  (repeat with_reducible refine VG_seq ?_); refine VG_region [1, 2, 3, 4, 10] (by kernel_rfl) fun K hK => ?_; simp only [go_sem,↓reduceIte,Nat.reduceEqDiff]
  (refine hK _ _ ?_; clear hK)
  have res : ∀ {e : Env} {N : Nat} {w' : World} {a : Option Addr} {c : Nat} {G : List Res}, e.find? 2 = some (ptV g2) → e.find? 3 = some (ptV g3) → Heap w [] w' (Res.blk g3 28 [.int .i64 (walkS t).2] :: Res.blk g2 27 [.slice a (walkS t).1.length c] :: Res.row 38 2 a (walkS t).1.length c (ensV (walkS t).1) :: G) →
      VX ⟨Tryd.prog, Tryd.f8, fun v w' => ∃ a c, v = .tuple #[.slice a (walkS t).1.length c, .int .i64 (walkS t).2] ∧ Heap w [] w' [Res.row 38 2 a (walkS t).1.length c (ensV (walkS t).1)], N⟩ [] .ret e w' := by
    intro e N w' a c G e2 e3 hh
    refine VX_retCC2 rfl e2 e3 ?_
    refine ld_sl1 (hh.at 1 rfl) Tryd.underlying27 ?_
    refine ld_int1 (hh.at 0 rfl) Tryd.underlying28 ?_
    exact ⟨a, c, rfl, hh.sub (.cons _ (.cons _ (.cons_cons _ (List.nil_sublist _))))⟩
  (repeat with_reducible refine VG_seq ?_)
  refine VG_cond rfl rfl (fun h => ?_) (fun h => VG_skip ?_)
  · have hw : walkS t = ([], 280) := by
      rw [walkS, if_neg (by simpa using h)]
    have hc : checkS t = 280 := by
      unfold checkS at h ⊢
      split
      · rename_i hh; rw [if_pos hh] at h; simp at h
      · rfl
    rw [hw] at res ⊢
    rw [hc]
    (repeat with_reducible refine VG_seq ?_); refine VG_region [2, 3] (by kernel_rfl) fun K hK => ?_; simp only [go_sem,↓reduceIte,Nat.reduceEqDiff]
    refine MemK_store ?_
    simp only [go_sem,↓reduceIte,Nat.reduceEqDiff]
    refine StoreK_blk hH4 1 (vs := [.slice none 0 0]) rfl rfl (by kernel_rfl) (by simp) (by simp [Value.oneCell']) fun w5 hH5 => ?_
    (try simp only [go_sem,↓reduceIte,Nat.reduceEqDiff])
    refine MemK_store ?_
    simp only [go_sem,↓reduceIte,Nat.reduceEqDiff]
    refine StoreK_blk hH5 0 (vs := [.int .i64 280]) rfl rfl (by kernel_rfl) (by simp) (by simp [Value.oneCell']) fun w6 hH6 => ?_
    (try simp only [go_sem,↓reduceIte,Nat.reduceEqDiff])
    (refine hK _ _ ?_; clear hK)
    have hH7 := (hH6.nilRow 38 2).front 2 rfl
    exact VG_ret (ret0 (res (a := none) (c := 0) rfl rfl (((hH6.nilRow 38 2).front 2 rfl).front 2 rfl)))
  have hc : checkS t = 0 := by simpa using h
  clear h
  (repeat with_reducible refine VG_seq ?_); refine VG_region [1, 2, 3, 5] (by kernel_rfl) fun K hK => ?_; simp only [go_sem,↓reduceIte,Nat.reduceEqDiff]
  refine MemK_alloc (.slice none 0 0) (by kernel_rfl) ?_
  simp only [go_sem,↓reduceIte,Nat.reduceEqDiff]
  have hH5 := (hH4.nilRow 38 2).box 27 [.slice none 0 0]
  generalize w4.alloc (Obj.cells [Value.slice none 0 0].toArray 27) = w5 at *
  generalize w4.heap.size = g5 at *
  (refine hK _ _ ?_; clear hK)
  clear hH4
  (repeat with_reducible refine VG_seq ?_); refine VG_region [2, 3, 5, 13] (by kernel_rfl) fun K hK => ?_; simp only [go_sem,↓reduceIte,Nat.reduceEqDiff]
  refine ⟨nodeV t, ⟨rfl, blk_reads (hH5.at 4 rfl)⟩, ?_⟩
  (try simp only [go_sem,↓reduceIte,Nat.reduceEqDiff])
  refine MemK_callD Tryd.call20 (tfiles_does t [] w5) (by simp only [go_sem,↓reduceIte,Nat.reduceEqDiff] <;> rfl) ?_
  rintro v w6 ⟨gn, ga, rfl, hHf⟩
  have hH6 := hH5.call0 hHf
  have hH6 : Heap w [] w6 [Res.blk ga 9 [Str []], Res.blk gn 24 (nodeV t), Res.blk g5 27 [.slice none 0 0], Res.row 38 2 none 0 0 [], Res.blk g3 28 [.int .i64 0], Res.blk g2 27 [.slice none 0 0], Res.blk g1 24 (nodeV t)] := hH6
  clear hHf hH5 hL3
  (try simp only [go_sem,↓reduceIte,Nat.reduceEqDiff])
  (refine hK _ _ ?_; clear hK)
  ((repeat with_reducible refine VG_seq ?_); refine VG_block ?_)
  refine VG_rangeFunc rfl rfl (fun _ _ => rfl) fun r r1 r2 r3 r4 r5 r6 r7 r8 => ?_
  generalize hdr : w6.heap.size = dr at *
  have hH7 := (hH6.newObj (.deferred (some []))).newObj (.loop r)
  rw [show (w6.alloc (.deferred (some []))).heap.size = dr + 1 by rw [← hdr]; show (w6.heap.push _).size = _; rw [Array.size_push], hdr] at hH7
  clear r6 hH6
  generalize (w6.alloc (Obj.deferred (some []))).alloc (Obj.loop r) = wl at *
  have hr := Loop.same r1 r2
  have hH8 : Heap w [] wl [Res.obj (dr + 1) (.loop r), Res.obj dr (.deferred (some [])), Res.blk ga 9 [Str []], Res.blk gn 24 (nodeV t), Res.blk g5 27 [.slice none 0 0], Res.row 38 2 none 0 0 [], Res.blk g3 28 [.int .i64 0], Res.blk g2 27 [.slice none 0 0], Res.blk g1 24 (nodeV t)] := hH7
  clear hH7
  have hH9 := (((((((hH8.front 2 rfl).front 3 rfl).front 7 rfl).front 7 rfl).front 7 rfl).front 7 rfl).front 6 rfl)
  have hcnt : ∀ done rest : List En, done ++ rest = filesS t [] → done.length + rest.length ≤ 30000 := by
    intro done rest h
    have h1 := filesL_len t []
    rw [← h, List.length_append] at h1
    omega
  refine (filesRun_does w t hL [] (dr + 1) gn ga
    (fun l0 G0 => ∃ (done : List En) (a : Option Addr) (c : Nat), done ++ l0 = filesS t [] ∧ (∀ x ∈ done, x.1.length ≤ 120) ∧ G0 = [Res.obj (dr + 1) (.loop r), Res.blk g5 27 [.slice a done.length c], Res.row 38 2 a done.length c (ensV done), Res.blk g3 28 [.int .i64 0], Res.blk g2 27 [.slice none 0 0]])
    (fun G0 => (∃ x ∈ filesS t [], 120 < x.1.length) ∧ G0 = [Res.obj (dr + 1) (.loop { r with state := .done, pending := some .ret }), Res.blk g3 28 [.int .i64 140], Res.blk g2 27 [.slice none 0 0]]) ?_ (by simp; omega)
    [] _ [Res.obj dr (.deferred (some [])), Res.blk g1 24 (nodeV t)] wl ⟨[], none, 0, by simp, by simp, rfl⟩ hH9).mono ?_ (fun _ _ h => h)
  · rintro x rest _ FR w7 ⟨done, a, c, hdone, hshort, rfl⟩ hH10
    have hHa : Heap w [] w7 (Res.obj (dr + 1) (.loop r) :: Res.blk g5 27 [.slice a done.length c] :: Res.row 38 2 a done.length c (ensV done) :: Res.blk g3 28 [.int .i64 0] :: Res.blk g2 27 [.slice none 0 0] :: FR) := hH10
    have hdl := hcnt _ _ hdone
    rw [List.length_cons] at hdl
    refine YieldK_round (N := 24) (e := (14, enA x) :: [(2, ptV g2), (3, ptV g3), (5, ptV g5), (13, filesV gn ga)]) (hHa.at 0 rfl) r1 r7 (by rw [r3]; rfl) (round_env r3 (by rw [r7]; decide) r8) ?_
    refine (congrArg (fun c => VG _ [.code c] _ _) r4).mpr ?_
    (repeat with_reducible refine VG_seq ?_); refine VG_region [2, 3, 5, 6] (by kernel_rfl) fun K hK => ?_; simp only [go_sem,↓reduceIte,Nat.reduceEqDiff]
    refine MemK_alloc (.agg #[.string ⟨#[]⟩, .string ⟨#[]⟩]) (by kernel_rfl) ?_
    simp only [go_sem,↓reduceIte,Nat.reduceEqDiff]
    have hHb := hHa.box 38 [.string ⟨#[]⟩, .string ⟨#[]⟩]
    generalize w7.alloc (Obj.cells [Value.string ⟨#[]⟩, .string ⟨#[]⟩].toArray 38) = w8 at *
    generalize w7.heap.size = gx at *
    refine MemK_store ?_
    simp only [go_sem,↓reduceIte,Nat.reduceEqDiff]
    refine StoreK_blk hHb 0 (vs := enV x) rfl rfl (by kernel_rfl) (by simp [enV]) (enV_one x) fun w9 hHc => ?_
    have hHc : Heap w [] w9 (Res.blk gx 38 (enV x) :: Res.obj (dr + 1) (.loop r) :: Res.blk g5 27 [.slice a done.length c] :: Res.row 38 2 a done.length c (ensV done) :: Res.blk g3 28 [.int .i64 0] :: Res.blk g2 27 [.slice none 0 0] :: FR) := hHc
    clear hHb hHa hH10
    (try simp only [go_sem,↓reduceIte,Nat.reduceEqDiff])
    (refine hK _ _ ?_; clear hK)
    refine VG_nil fun a n hf => ⟨rfl, _, _, n, rfl, hf, hHc.at 1 rfl, ?_⟩
    have hHd := (hHc.front 1 rfl).put (.loop { r with state := .busy })
    generalize w9.putObj (dr + 1) (Obj.loop { r with state := .busy }) = wb at *
    clear hHc hf a n
    refine (congrArg (fun c => VG _ [.code c] _ _) r5).mpr ?_
    ((repeat with_reducible refine VG_seq ?_); refine VG_block ?_)
    have d0 : wb.cell? ⟨gx, 0, none⟩ = some (Str x.1) := blk_cell (hHd.at 1 rfl) rfl
    (repeat with_reducible refine VG_seq ?_); refine VG_region [2, 3, 5, 6, 18] (by kernel_rfl) fun K hK => ?_; simp only [go_sem,↓reduceIte,Nat.reduceEqDiff]
    refine ⟨_, d0, ?_⟩
    (try simp only [go_sem,↓reduceIte,Nat.reduceEqDiff])
    (refine hK _ _ ?_; clear hK)
    have hxm : x ∈ filesS t [] := by rw [← hdone]; simp
    (repeat with_reducible refine VG_seq ?_)
    refine VG_cond rfl rfl (fun h => ?_) (fun h => VG_skip ?_)
    · have hlong : 120 < x.1.length := by simp at h; omega
      (repeat with_reducible refine VG_seq ?_); refine VG_region [2, 3] (by kernel_rfl) fun K hK => ?_; simp only [go_sem,↓reduceIte,Nat.reduceEqDiff]
      refine MemK_store ?_
      simp only [go_sem,↓reduceIte,Nat.reduceEqDiff]
      refine StoreK_blk hHd 5 (vs := [.slice none 0 0]) rfl rfl (by kernel_rfl) (by simp) (by simp [Value.oneCell']) fun w10 hHe => ?_
      (try simp only [go_sem,↓reduceIte,Nat.reduceEqDiff])
      refine MemK_store ?_
      simp only [go_sem,↓reduceIte,Nat.reduceEqDiff]
      refine StoreK_blk hHe 4 (vs := [.int .i64 140]) rfl rfl (by kernel_rfl) (by simp) (by simp [Value.oneCell']) fun w11 hHf => ?_
      (try simp only [go_sem,↓reduceIte,Nat.reduceEqDiff])
      (refine hK _ _ ?_; clear hK)
      have hHg : Heap w [] w11 (Res.obj (dr + 1) (.loop { r with state := .busy }) :: Res.blk g3 28 [.int .i64 140] :: Res.blk g2 27 [.slice none 0 0] :: FR) := hHf.sub (.cons_cons _ (.cons _ (.cons _ (.cons _ (.refl _)))))
      refine VG_ret fun a n hf => ⟨_, n, rfl, hHg.at 0 rfl, ?_⟩
      exact ⟨_, hHg.put (.loop { r with state := .done, pending := some .ret }), .inr ⟨rfl, ⟨x, hxm, hlong⟩, rfl⟩⟩
    have hsh : x.1.length ≤ 120 := by simp at h; omega
    clear h
    (repeat with_reducible refine VG_seq ?_); refine VG_region [2, 3, 5] (by kernel_rfl) fun K hK => ?_; simp only [go_sem,↓reduceIte,Nat.reduceEqDiff]
    refine ⟨_, blk_cell (hHd.at 2 rfl) rfl, enV x, ⟨rfl, blk_reads (hHd.at 1 rfl)⟩, ?_⟩
    (try simp only [go_sem,↓reduceIte,Nat.reduceEqDiff])
    refine MemK_litK hHd 2 (enV x) (xs := [.tmp 20]) Tryd.underlying27 sz38 rfl rfl rfl (by omega) (by omega) ?_
    simp only [go_sem,↓reduceIte,Nat.reduceEqDiff]
    refine ⟨by simp [enV, Value.cells], by simp [enV, Value.cells], fun gl w10 hHe => ?_⟩
    (try simp only [go_sem,↓reduceIte,Nat.reduceEqDiff])
    refine MemK_append ?_
    simp only [go_sem,↓reduceIte,Nat.reduceEqDiff]
    refine AppK_row (zs := #[.string ⟨#[]⟩, .string ⟨#[]⟩]) (bytes := 32) hHe 4 rfl Tryd.underlying27 (by kernel_rfl) rfl ⟨rfl, row_rs (hHe.at 0 rfl), 38, Tryd.underlying27⟩ (enV_one x) (fun h => by omega) fun a' cap' w11 hc' hHf => ?_
    simp only [List.set_cons_succ, List.set_cons_zero] at hHf
    (try simp only [go_sem,↓reduceIte,Nat.reduceEqDiff])
    refine MemK_store ?_
    simp only [go_sem,↓reduceIte,Nat.reduceEqDiff]
    refine StoreK_blk hHf 3 (vs := [.slice a' (done.length + 1) cap']) rfl rfl (by kernel_rfl) (by simp) (by simp [Value.oneCell']) fun w12 hHg => ?_
    simp only [List.set_cons_succ, List.set_cons_zero] at hHg
    (try simp only [go_sem,↓reduceIte,Nat.reduceEqDiff])
    (refine hK _ _ ?_; clear hK)
    have hHh : Heap w [] w12 (Res.obj (dr + 1) (.loop { r with state := .busy }) :: Res.blk g5 27 [.slice a' (done ++ [x]).length cap'] :: Res.row 38 2 a' (done ++ [x]).length cap' (ensV (done ++ [x])) :: Res.blk g3 28 [.int .i64 0] :: Res.blk g2 27 [.slice none 0 0] :: FR) := by
      rw [ensV_snoc, show (done ++ [x]).length = done.length + 1 by simp]
      exact hHg.sub (.cons _ (.cons_cons _ (.cons _ (.refl _))))
    refine VG_blk (VG_nil fun a n hf => ⟨_, n, rfl, hHh.at 0 rfl, ?_⟩)
    rw [hr]
    refine ⟨_, hHh.put (.loop r), .inl ⟨rfl, done ++ [x], a', cap', by simpa using hdone, ?_, rfl⟩⟩
    intro y hy
    rcases List.mem_append.1 hy with hy | hy
    · exact hshort y hy
    · simp at hy; rw [hy]; exact hsh
  · rintro _ w7 ⟨G0, hH10, hv⟩
    rcases hv with ⟨done, a, c, hdone, hshort, rfl⟩ | ⟨⟨x, hxm, hlong⟩, rfl⟩
    · rw [List.append_nil] at hdone
      subst hdone
      have hw : walkS t = (filesS t [], 0) := by
        rw [walkS, if_pos hc, if_pos]
        rw [List.all_eq_true]
        intro y hy
        simpa using hshort y hy
      rw [hw] at res ⊢
      have hHa : Heap w [] w7 [Res.obj (dr + 1) (.loop r), Res.blk g5 27 [.slice a (filesS t []).length c], Res.row 38 2 a (filesS t []).length c (ensV (filesS t [])), Res.blk g3 28 [.int .i64 0], Res.blk g2 27 [.slice none 0 0], Res.obj dr (.deferred (some [])), Res.blk g1 24 (nodeV t)] := hH10
      refine ⟨.ready, none, ?_, by simp, ?_⟩
      · rw [hr]
        exact hHa.at 0 rfl
      simp only
      have hHb := hHa.put (.loop { r with state := .exhausted, pending := none })
      generalize w7.putObj (dr + 1) (Obj.loop { r with state := .exhausted, pending := none }) = wb at *
      generalize Obj.loop { r with state := .exhausted, pending := none } = ro at *
      clear hHa hH10 r1 r2 r3 r4 r5 r7 r8 hr hH9 hH8 w7
      refine VG_blk ?_
      (repeat with_reducible refine VG_seq ?_); refine VG_region [2, 3] (by kernel_rfl) fun K hK => ?_; simp only [go_sem,↓reduceIte,Nat.reduceEqDiff]
      refine ⟨_, blk_cell (hHb.at 1 rfl) rfl, ?_⟩
      (try simp only [go_sem,↓reduceIte,Nat.reduceEqDiff])
      refine MemK_store ?_
      simp only [go_sem,↓reduceIte,Nat.reduceEqDiff]
      refine StoreK_blk hHb 4 (vs := [.slice a (filesS t []).length c]) rfl rfl (by kernel_rfl) (by simp) (by simp [Value.oneCell']) fun w10 hHe => ?_
      (try simp only [go_sem,↓reduceIte,Nat.reduceEqDiff])
      refine MemK_store ?_
      simp only [go_sem,↓reduceIte,Nat.reduceEqDiff]
      refine StoreK_blk hHe 3 (vs := [.int .i64 0]) rfl rfl (by kernel_rfl) (by simp) (by simp [Value.oneCell']) fun w11 hHf => ?_
      (try simp only [go_sem,↓reduceIte,Nat.reduceEqDiff])
      (refine hK _ _ ?_; clear hK)
      have hHg := ((((hHf.front 2 rfl).front 4 rfl).front 4 rfl).front 5 rfl)
      exact VG_ret (retN (ms := [dr]) hHg fun w' hh => res rfl rfl hh)
    · have hw : walkS t = ([], 140) := by
        rw [walkS, if_pos hc, if_neg]
        intro hh
        rw [List.all_eq_true] at hh
        have := hh x hxm
        simp at this
        omega
      rw [hw] at res ⊢
      have hHa : Heap w [] w7 [Res.obj (dr + 1) (.loop { r with state := .done, pending := some .ret }), Res.blk g3 28 [.int .i64 140], Res.blk g2 27 [.slice none 0 0], Res.obj dr (.deferred (some [])), Res.blk g1 24 (nodeV t)] := hH10
      refine ⟨.done, some .ret, hHa.at 0 rfl, by simp, ?_⟩
      simp only
      have hHb := hHa.put (.loop { r with state := .exhausted, pending := some .ret })
      generalize w7.putObj (dr + 1) (Obj.loop { r with state := .exhausted, pending := some .ret }) = wb at *
      have hHg := ((((hHb.nilRow 38 2).front 3 rfl).front 3 rfl).front 4 rfl)
      exact VG_ret (retN (ms := [dr]) hHg fun w' hh => res (a := none) (c := 0) rfl rfl hh)
end Go.Proofs.YtklpiecolpnmlaaDoor
namespace Go.Proofs.YtklpiecolpnmlaaDoor
open Go Go.Eng
set_option maxRecDepth 100000
set_option maxHeartbeats 1000000
set_option linter.unusedSimpArgs false
set_option linter.unusedVariables false
def aheadOf (way : List (List UInt8)) : List UInt8 := way.flatMap fun s => s ++ [47]
theorem aheadOf_append (l m : List (List UInt8)) : aheadOf (l ++ m) = aheadOf l ++ aheadOf m := by simp [aheadOf]
theorem aheadOf_one (s : List UInt8) : aheadOf [s] = s ++ [47] := by simp [aheadOf]
theorem aheadOf_take (l : List (List UInt8)) (i : Nat) : (aheadOf (l.take i)).length ≤ (aheadOf l).length := by
  have := aheadOf_append (l.take i) (l.drop i)
  rw [List.take_append_drop] at this
  rw [this, List.length_append]
  omega
theorem aheadOf_mem {l : List (List UInt8)} {i : Nat} {s : List UInt8} (h : l[i]? = some s) : (aheadOf (l.take i)).length + s.length + 1 ≤ (aheadOf l).length := by
  have h1 := aheadOf_take l (i + 1)
  rw [take_snoc h, aheadOf_append, aheadOf_one] at h1
  simp at h1
  omega
theorem rfiles_does : ∀ (t : NT) (way : List (List UInt8)) (a : Option Addr) (c : Nat) (w : World), Lies w t → RS w a way.length 1 (strsV way) → sizeN t ≤ 500 → way.length + sizeN t ≤ 1000 →
    (aheadOf way).length + sizeN t * 140737488355329 ≤ 4611686018427387904 →
    Does Tryd.prog 21 #[nodeA t, .slice a way.length c] w fun v w' =>
      ∃ a' c', v = .slice a' (filesS t (aheadOf way)).length c' ∧ Heap w [] w' [Res.row 38 2 a' (filesS t (aheadOf way)).length c' (ensV (filesS t (aheadOf way)))] := by
  refine NT.ind fun t ih => ?_
  intro way a c w hL hway hsz hwl hlen
  rw [Lies_iff] at hL
  obtain ⟨hF, hRS, hKd⟩ := hL
  have hF3 := hF.2.2
  have hfl := filesL_len t (aheadOf way)
  rw [sizeN_eq] at hlen hsz hwl hfl
  refine Does_enter (args := [nodeA t, .slice a way.length c]) 61 Tryd.func21 rfl rfl (of_decide_eq_true rfl) ?_
  simp only [Env.ofArgs]
  refine VR [1, 2] rfl rfl fun K hK => ?_; simp only [go_sem,↓reduceIte,Nat.reduceEqDiff]
  refine MemK_box ?_
  simp only [go_sem,↓reduceIte,Nat.reduceEqDiff]
  have hH := (Heap.start w).box 24 (nodeV t)
  generalize w.alloc (Obj.cells (nodeV t).toArray 24) = w1 at *
  generalize w.heap.size = g at *
  have hHn := hH.nilRow 38 2
  clear hH
  (refine hK _ _ ?_; clear hK)
  refine VR [1, 2, 5] rfl rfl fun K hK => ?_; simp only [go_sem,↓reduceIte,Nat.reduceEqDiff]
  ((repeat refine And.intro (by omega) ?_); refine hK _ _ ?_; clear hK)
  refine VR [1, 2, 5, 6] rfl rfl fun K hK => ?_; simp only [go_sem,↓reduceIte,Nat.reduceEqDiff]
  ((repeat refine And.intro (by omega) ?_); refine hK _ _ ?_; clear hK)
  ((repeat refine VC_seq ?_); refine VC_block ?_)
  refine VC_loopS [1, 2, 5, 6] (fun m e w' => ∃ (i : Nat) (done : List En) (a5 : Option Addr) (c5 : Nat), Is e [(1, .slice a way.length c), (2, ptV g), (5, .slice a5 done.length c5), (6, .int .i64 i)] ∧
      Heap w [] w' [Res.row 38 2 a5 done.length c5 (ensV done), Res.blk g 24 (nodeV t)] ∧ done ++ filesL (t.kids.drop i) (aheadOf way) = filesS t (aheadOf way) ∧ i ≤ t.kids.length ∧ m = t.kids.length - i) t.kids.length ?_ ?_
  · simp only [go_sem,↓reduceIte,Nat.reduceEqDiff]
    exact ⟨0, [], none, 0, rfl, hHn, by rw [filesS_eq]; rfl, by omega, rfl⟩
  clear hHn w1
  rintro m e w2 ⟨i, done, a5, c5, rfl, hH, hgo, hi, rfl⟩
  have c3 : w2.cell? ⟨g, 2 + 1, none⟩ = some (.slice t.place t.kids.length t.cap) := blk_cell (hH.at 1 rfl) rfl
  refine VR [1, 2, 5, 6, 15] rfl rfl fun K hK => ?_; simp only [go_sem, ↓ex_hit c3,↓reduceIte,Nat.reduceEqDiff]
  ((repeat refine And.intro (by omega) ?_); refine hK _ _ ?_; clear hK)
  refine VC_cond rfl rfl (fun h => ?_) (fun h => ?_)
  · simp only [decide_eq_true_eq] at h
    have h1 : i < t.kids.length := by omega
    refine VC_skip ?_
    ((repeat refine VC_seq ?_); refine VC_block ?_)
    obtain ⟨x, hx⟩ : ∃ x, t.kids[i]? = some x := ⟨_, List.getElem?_eq_getElem h1⟩
    have hxm : x ∈ t.kids := List.mem_of_getElem? hx
    have hdr : t.kids.drop i = x :: t.kids.drop (i + 1) := by
      rw [List.drop_eq_getElem_cons h1]; congr 1
      rw [List.getElem?_eq_getElem h1] at hx; exact Option.some.inj hx
    rw [hdr, filesL] at hgo
    have hxL := hKd x hxm
    have hxF : x.Fits := ((Lies_iff _ _).1 hxL).1
    have hxF1 := hxF.1
    cases hpl : t.place with
    | none => have := hRS.2.1 hpl; omega
    | some p =>
    rw [hpl] at hRS c3
    have hrd := rs_node (hH.rs' hRS) hx
    have hszx : sizeN x ≤ sizeL t.kids := by
      have := sizeL_take t.kids (i + 1)
      rw [take_snoc hx, sizeL_append] at this
      simp only [sizeL] at this
      omega
    have hdone : done.length + (if x.dir then filesS x (aheadOf way ++ x.name ++ [47]) else [(aheadOf way ++ x.name, x.data)]).length ≤ 500 := by
      have := congrArg List.length hgo
      simp only [List.length_append] at this
      omega
    refine VR [1, 2, 5, 6, 7] rfl rfl fun K hK => ?_; simp only [go_sem,↓reduceIte,Nat.reduceEqDiff]
    refine ⟨_, c3, ?_⟩
    (try simp only [go_sem,↓reduceIte,Nat.reduceEqDiff])
    refine ⟨⟨by omega, by omega⟩, nodeV x, ⟨rfl, hrd⟩, ?_⟩
    (try simp only [go_sem,↓reduceIte,Nat.reduceEqDiff])
    refine MemK_alloc (.agg #[.string ⟨#[]⟩, .bool false, .string ⟨#[]⟩, .slice none 0 0]) (by kernel_rfl) ?_
    simp only [go_sem,↓reduceIte,Nat.reduceEqDiff]
    have hH1 := hH.box 24 [.string ⟨#[]⟩, .bool false, .string ⟨#[]⟩, .slice none 0 0]
    generalize w2.alloc (Obj.cells [Value.string ⟨#[]⟩, .bool false, .string ⟨#[]⟩, .slice none 0 0].toArray 24) = w3 at *
    generalize w2.heap.size = gb at *
    refine MemK_store ?_
    simp only [go_sem,↓reduceIte,Nat.reduceEqDiff]
    refine StoreK_blk hH1 0 (vs := nodeV x) rfl rfl (by kernel_rfl) (by simp [nodeV]) (nodeV_one x) fun w4 hH2 => ?_
    have hH2 : Heap w [] w4 [Res.blk gb 24 (nodeV x), Res.row 38 2 a5 done.length c5 (ensV done), Res.blk g 24 (nodeV t)] := hH2
    clear hH1 hH
    (try simp only [go_sem,↓reduceIte,Nat.reduceEqDiff])
    (refine hK _ _ ?_; clear hK)
    obtain ⟨d0, d1, d2, d3⟩ := node_cells (hH2.at 0 rfl)
    have hw4 := hH2.rs' hway
    (repeat refine VC_seq ?_); refine VC_regionT w4 (Ext.refl _) [1, 2, 5, 6, 7, 8] (.two [(1, true), (3, true), (4, true)] 0 5 (.two [] 2 5 (.seq [(5, false), (6, false), (7, true)]) (.seq [(2, false), (6, false), (7, true)])) (.seq [(0, false), (2, false), (6, false), (7, true)])) (by kernel_rfl) (by kernel_rfl) rfl fun K hK => ?_
    suffices out : ∀ (a8 : Option Addr) (c8 : Nat) (w' : World) (G : List Res), Heap w4 [] w' (Res.row 9 1 a8 (way ++ [x.name]).length c8 (strsV (way ++ [x.name])) :: G) → K [(1, .slice a way.length c), (2, ptV g), (5, .slice a5 done.length c5), (6, .int .i64 i), (7, ptV gb), (8, .slice a8 (way ++ [x.name]).length c8)] w' by
      have out2 : ∀ (a8 : Option Addr) (c8 : Nat) (w' : World) (G : List Res), Heap w4 [] w' (Res.row 9 1 a8 (way.length + 1) c8 (strsV way ++ strsV [x.name]) :: G) → K [(1, .slice a way.length c), (2, ptV g), (5, .slice a5 done.length c5), (6, .int .i64 i), (7, ptV gb), (8, .slice a8 (way.length + 1) c8)] w' := by
        intro a8 c8 w' G hh
        rw [← strsV_append] at hh
        have := out a8 c8 w' G (by rw [List.length_append]; exact hh)
        rw [List.length_append] at this
        exact this
      have hf := Heap.start w4
      simp only [vcT, planned, List.filterMap_cons, List.filterMap_nil, List.getElem?_cons_succ, List.getElem?_cons_zero, Option.map_some]; simp only [go_sem,↓reduceIte,Nat.reduceEqDiff]
      refine ⟨_, d0, ?_⟩
      (try simp only [go_sem,↓reduceIte,Nat.reduceEqDiff])
      (try simp only [vcH_nil2])
      (try simp only [go_sem,↓reduceIte,Nat.reduceEqDiff])
      refine And.intro ?_ ?_
      · refine MemK_lits hf [] (xs := []) Tryd.underlying60 sz9 rfl rfl rfl (by omega) ?_; simp only [go_sem,↓reduceIte,Nat.reduceEqDiff]; refine ⟨trivial, by simp [Value.cells], fun g wz hf => ?_⟩; (try simp only [go_sem,↓reduceIte,Nat.reduceEqDiff]); refine ⟨hf.ext, ?_⟩; (try simp only [vcH_nil2]); (try simp only [go_sem,↓reduceIte,Nat.reduceEqDiff])
        refine And.intro ?_ ?_
        · refine MemK_append ?_; simp only [go_sem,↓reduceIte,Nat.reduceEqDiff]; refine AppK_row (zs := #[.string ⟨#[]⟩]) (bytes := 16) (m := way.length) (news := strsV way) hf 0 rfl Tryd.underlying60 (by kernel_rfl) rfl ⟨rfl, hf.rs' hw4, 9, Tryd.underlying60⟩ (strsV_one way) (fun h => by omega) fun aa ca wa hca hf => ?_; simp only [List.set_cons_succ, List.set_cons_zero, List.nil_append, Nat.zero_add] at hf; rw [Nat.zero_add]; refine ⟨hf.ext, ?_⟩; (try simp only [vcH_nil2]); (try simp only [go_sem,↓reduceIte,Nat.reduceEqDiff])
          refine MemK_lits hf (strsV [x.name]) (xs := [.tmp 27]) Tryd.underlying60 sz9 rfl rfl rfl (by omega) ?_; simp only [go_sem,↓reduceIte,Nat.reduceEqDiff]; refine ⟨rfl, by simp [Value.cells], fun g w4 hf => ?_⟩; (try simp only [go_sem,↓reduceIte,Nat.reduceEqDiff]); refine ⟨hf.ext, ?_⟩; (try simp only [vcH_nil2]); (try simp only [go_sem,↓reduceIte,Nat.reduceEqDiff])
          refine MemK_append ?_; simp only [go_sem,↓reduceIte,Nat.reduceEqDiff]; refine AppK_row (zs := #[.string ⟨#[]⟩]) (bytes := 16) hf 1 rfl Tryd.underlying60 (by kernel_rfl) rfl ⟨rfl, row_rs (hf.at 0 rfl), 9, Tryd.underlying60⟩ (strsV_one [x.name]) (fun h => by omega) fun a8 c8 wb hcb hf => ?_; simp only [List.set_cons_succ, List.set_cons_zero] at hf; refine ⟨hf.ext, ?_⟩; (try simp only [vcH_nil2]); (try simp only [go_sem,↓reduceIte,Nat.reduceEqDiff])
          exact out2 _ _ _ _ (hf.front 1 rfl)
        · refine MemK_lits hf (strsV [x.name]) (xs := [.tmp 27]) Tryd.underlying60 sz9 rfl rfl rfl (by omega) ?_; simp only [go_sem,↓reduceIte,Nat.reduceEqDiff]; refine ⟨rfl, by simp [Value.cells], fun g w4 hf => ?_⟩; (try simp only [go_sem,↓reduceIte,Nat.reduceEqDiff]); refine ⟨hf.ext, ?_⟩; (try simp only [vcH_nil2]); (try simp only [go_sem,↓reduceIte,Nat.reduceEqDiff])
          refine MemK_append ?_; simp only [go_sem,↓reduceIte,Nat.reduceEqDiff]; refine AppK_row (zs := #[.string ⟨#[]⟩]) (bytes := 16) (m := way.length) (news := strsV way) hf 1 rfl Tryd.underlying60 (by kernel_rfl) rfl ⟨rfl, hf.rs' hw4, 9, Tryd.underlying60⟩ (strsV_one way) (fun h => by omega) fun aa ca wa hca hf => ?_; simp only [List.set_cons_succ, List.set_cons_zero, List.nil_append, Nat.zero_add] at hf; rw [Nat.zero_add]; refine ⟨hf.ext, ?_⟩; (try simp only [vcH_nil2]); (try simp only [go_sem,↓reduceIte,Nat.reduceEqDiff])
          refine MemK_append ?_; simp only [go_sem,↓reduceIte,Nat.reduceEqDiff]; refine AppK_row (zs := #[.string ⟨#[]⟩]) (bytes := 16) hf 1 rfl Tryd.underlying60 (by kernel_rfl) rfl ⟨rfl, row_rs (hf.at 0 rfl), 9, Tryd.underlying60⟩ (strsV_one [x.name]) (fun h => by omega) fun a8 c8 wb hcb hf => ?_; simp only [List.set_cons_succ, List.set_cons_zero] at hf; refine ⟨hf.ext, ?_⟩; (try simp only [vcH_nil2]); (try simp only [go_sem,↓reduceIte,Nat.reduceEqDiff])
          exact out2 _ _ _ _ (hf.front 1 rfl)
      · refine MemK_lits hf (strsV [x.name]) (xs := [.tmp 27]) Tryd.underlying60 sz9 rfl rfl rfl (by omega) ?_; simp only [go_sem,↓reduceIte,Nat.reduceEqDiff]; refine ⟨rfl, by simp [Value.cells], fun g w4 hf => ?_⟩; (try simp only [go_sem,↓reduceIte,Nat.reduceEqDiff]); refine ⟨hf.ext, ?_⟩; (try simp only [vcH_nil2]); (try simp only [go_sem,↓reduceIte,Nat.reduceEqDiff])
        refine MemK_lits hf [] (xs := []) Tryd.underlying60 sz9 rfl rfl rfl (by omega) ?_; simp only [go_sem,↓reduceIte,Nat.reduceEqDiff]; refine ⟨trivial, by simp [Value.cells], fun g wz hf => ?_⟩; (try simp only [go_sem,↓reduceIte,Nat.reduceEqDiff]); refine ⟨hf.ext, ?_⟩; (try simp only [vcH_nil2]); (try simp only [go_sem,↓reduceIte,Nat.reduceEqDiff])
        refine MemK_append ?_; simp only [go_sem,↓reduceIte,Nat.reduceEqDiff]; refine AppK_row (zs := #[.string ⟨#[]⟩]) (bytes := 16) (m := way.length) (news := strsV way) hf 0 rfl Tryd.underlying60 (by kernel_rfl) rfl ⟨rfl, hf.rs' hw4, 9, Tryd.underlying60⟩ (strsV_one way) (fun h => by omega) fun aa ca wa hca hf => ?_; simp only [List.set_cons_succ, List.set_cons_zero, List.nil_append, Nat.zero_add] at hf; rw [Nat.zero_add]; refine ⟨hf.ext, ?_⟩; (try simp only [vcH_nil2]); (try simp only [go_sem,↓reduceIte,Nat.reduceEqDiff])
        refine MemK_append ?_; simp only [go_sem,↓reduceIte,Nat.reduceEqDiff]; refine AppK_row (zs := #[.string ⟨#[]⟩]) (bytes := 16) hf 0 rfl Tryd.underlying60 (by kernel_rfl) rfl ⟨rfl, row_rs (hf.at 1 rfl), 9, Tryd.underlying60⟩ (strsV_one [x.name]) (fun h => by omega) fun a8 c8 wb hcb hf => ?_; simp only [List.set_cons_succ, List.set_cons_zero] at hf; refine ⟨hf.ext, ?_⟩; (try simp only [vcH_nil2]); (try simp only [go_sem,↓reduceIte,Nat.reduceEqDiff])
        exact out2 _ _ _ _ hf
    intro a8 c8 w5 G5 hf
    have hH5 : Heap w [] w5 (G5 ++ [Res.blk gb 24 (nodeV x), Res.row 38 2 a5 done.length c5 (ensV done), Res.blk g 24 (nodeV t)]) := hH2.call0 (hf.sub (List.sublist_cons_self _ _))
    have hH6 : Heap w [] w5 [Res.row 9 1 a8 (way ++ [x.name]).length c8 (strsV (way ++ [x.name])), Res.blk gb 24 (nodeV x), Res.row 38 2 a5 done.length c5 (ensV done), Res.blk g 24 (nodeV t)] := hH2.call0 (hf.sub (.cons_cons _ (List.nil_sublist _)))
    clear hH5 hf hH2
    (refine hK _ _ ?_; clear hK)
    obtain ⟨d0, d1, d2, d3⟩ := node_cells (hH6.at 1 rfl)
    refine VR [1, 2, 5, 6, 7, 8, 31] rfl rfl fun K hK => ?_; simp only [go_sem,↓reduceIte,Nat.reduceEqDiff]
    refine ⟨_, d1, ?_⟩
    (try simp only [go_sem,↓reduceIte,Nat.reduceEqDiff])
    (refine hK _ _ ?_; clear hK)
    refine VC_cond rfl rfl (fun h => ?_) (fun h => VC_skip ?_)
    · have hd : x.dir = true := by simpa using h
      rw [hd, if_pos rfl] at hgo hdone
      have hah : aheadOf (way ++ [x.name]) = aheadOf way ++ x.name ++ [47] := by rw [aheadOf_append, aheadOf_one, List.append_assoc]
      have hwl2 : (way ++ [x.name]).length = way.length + 1 := by simp
      have hcall := ih x hxm (way ++ [x.name]) a8 c8 w5 (Lies.keep hH6 x hxL) (row_rs (hH6.at 0 rfl)) (by omega) (by omega) (by rw [hah]; simp; omega)
      rw [hah] at hcall
      refine VR [1, 2, 5, 6] rfl rfl fun K hK => ?_; simp only [go_sem,↓reduceIte,Nat.reduceEqDiff]
      refine ⟨nodeV x, ⟨rfl, blk_reads (hH6.at 1 rfl)⟩, ?_⟩
      (try simp only [go_sem,↓reduceIte,Nat.reduceEqDiff])
      refine MemK_callD Tryd.call21 hcall (by simp only [go_sem,↓reduceIte,Nat.reduceEqDiff] <;> rfl) ?_
      rintro v w6 ⟨a', c', rfl, hHr⟩
      have hH7 := hH6.call0 hHr
      clear hHr hcall
      (try simp only [go_sem,↓reduceIte,Nat.reduceEqDiff])
      refine MemK_append ?_
      simp only [go_sem,↓reduceIte,Nat.reduceEqDiff]
      refine AppK_row (zs := #[.string ⟨#[]⟩, .string ⟨#[]⟩]) (bytes := 32) hH7 3 rfl Tryd.underlying27 (by kernel_rfl) rfl ⟨rfl, row_rs (hH7.at 0 rfl), 38, Tryd.underlying27⟩ (ensV_one _) (fun h => by omega) fun a6 c6 w7 hc' hH8 => ?_
      have hH9 : Heap w [] w7 [Res.row 38 2 a6 (done ++ filesS x (aheadOf way ++ x.name ++ [47])).length c6 (ensV (done ++ filesS x (aheadOf way ++ x.name ++ [47]))), Res.blk g 24 (nodeV t)] := by
        rw [ensV, rowsV_append, List.length_append]
        exact hH8.sub (.cons _ (.cons _ (.cons _ (.refl _))))
      clear hH8 hH7 hH6
      rw [← List.append_assoc] at hgo
      rw [← List.length_append]
      generalize done ++ filesS x (aheadOf way ++ x.name ++ [47]) = done2 at *
      (try simp only [go_sem,↓reduceIte,Nat.reduceEqDiff])
      (refine hK _ _ ?_; clear hK)
      refine VC_exit rfl ?_
      refine VR [1, 2, 5, 6] rfl rfl fun K hK => ?_; simp only [go_sem,↓reduceIte,Nat.reduceEqDiff]
      ((repeat refine And.intro (by omega) ?_); refine hK _ _ ?_; clear hK)
      refine VC_again ?_
      simp only [go_sem,↓reduceIte,Nat.reduceEqDiff]
      exact ⟨t.kids.length - (i + 1), by omega, i + 1, done2, a6, c6, rfl, hH9, hgo, by omega, rfl⟩
    have hd : x.dir = false := by simpa using h
    rw [hd, if_neg (by simp)] at hgo hdone
    clear h
    obtain ⟨go, rfl⟩ := row_pos (hH6.at 0 rfl) (by simp)
    generalize hown : way ++ [x.name] = own at *
    have hol : own.length = way.length + 1 := by rw [← hown]; simp
    have hal : (aheadOf own).length = (aheadOf way).length + x.name.length + 1 := by rw [← hown, aheadOf_append, aheadOf_one]; simp; omega
    obtain ⟨s0, hs0⟩ : ∃ s, own[0]? = some s := ⟨_, List.getElem?_eq_getElem (by omega)⟩
    refine VR [1, 2, 5, 6, 7, 8, 9] rfl rfl fun K hK => ?_; simp only [go_sem,↓reduceIte,Nat.reduceEqDiff]
    refine ⟨⟨by omega, by omega⟩, _, row_cell (hH6.at 0 rfl) (strsV_get hs0), ?_⟩
    (try simp only [go_sem,↓reduceIte,Nat.reduceEqDiff])
    (refine hK _ _ ?_; clear hK)
    refine VR [1, 2, 5, 6, 7, 8, 9, 10] rfl rfl fun K hK => ?_; simp only [go_sem,↓reduceIte,Nat.reduceEqDiff]
    ((repeat refine And.intro (by omega) ?_); refine hK _ _ ?_; clear hK)
    ((repeat refine VC_seq ?_); refine VC_block ?_)
    refine VC_loopS [1, 2, 5, 6, 7, 8, 9, 10] (fun m e w' => ∃ (k : Nat) (s : List UInt8), Is e [(1, .slice a way.length c), (2, ptV g), (5, .slice a5 done.length c5), (6, .int .i64 i), (7, ptV gb), (8, .slice (some ⟨go, 0, none⟩) own.length c8), (9, Str (aheadOf (own.take k) ++ s)), (10, .int .i64 (k + 1 : Nat))] ∧
        Is w' w5 ∧ own[k]? = some s ∧ m = own.length - k) own.length ?_ ?_
    · simp only [go_sem,↓reduceIte,Nat.reduceEqDiff]
      exact ⟨0, s0, by simp [aheadOf, Is], rfl, hs0, rfl⟩
    rintro m e w' ⟨k, s, rfl, rfl, hks, rfl⟩
    have hkl : k < own.length := (List.getElem?_eq_some_iff.1 hks).1
    have hkm := aheadOf_mem hks
    refine VR [1, 2, 5, 6, 7, 8, 9, 10, 43] rfl rfl fun K hK => ?_; simp only [go_sem,↓reduceIte,Nat.reduceEqDiff]
    ((repeat refine And.intro (by omega) ?_); refine hK _ _ ?_; clear hK)
    refine VC_cond rfl rfl (fun h => ?_) (fun h => ?_)
    · simp only [decide_eq_true_eq] at h
      have h2 : k + 1 < own.length := by omega
      refine VC_skip ?_
      ((repeat refine VC_seq ?_); refine VC_block ?_)
      obtain ⟨s2, hs2⟩ : ∃ s, own[k + 1]? = some s := ⟨_, List.getElem?_eq_getElem h2⟩
      have hkm2 := aheadOf_mem hs2
      refine VR [1, 2, 5, 6, 7, 8, 9, 10] rfl rfl fun K hK => ?_; simp only [go_sem,↓reduceIte,Nat.reduceEqDiff]
      refine And.intro (by simp; omega) ?_
      (try simp only [go_sem,↓reduceIte,Nat.reduceEqDiff])
      refine ⟨⟨by omega, by omega⟩, _, row_cell (hH6.at 0 rfl) (strsV_get hs2), ?_⟩
      (try simp only [go_sem,↓reduceIte,Nat.reduceEqDiff])
      refine And.intro (by simp; omega) ?_
      (refine hK _ _ ?_; clear hK)
      refine VC_blk ?_
      refine VR [1, 2, 5, 6, 7, 8, 9, 10] rfl rfl fun K hK => ?_; simp only [go_sem,↓reduceIte,Nat.reduceEqDiff]
      ((repeat refine And.intro (by omega) ?_); refine hK _ _ ?_; clear hK)
      refine VC_again ?_
      simp only [go_sem,↓reduceIte,Nat.reduceEqDiff]
      refine ⟨own.length - (k + 1), by omega, k + 1, s2, ?_, rfl, hs2, rfl⟩
      rw [take_snoc hks, aheadOf_append, aheadOf_one]
      simp only [List.append_assoc]
      rfl
    · simp only [decide_eq_false_iff_not] at h
      have hkw : k = way.length := by omega
      have hfin : aheadOf (own.take k) ++ s = aheadOf way ++ x.name := by
        rw [← hown, hkw] at hks ⊢
        simp at hks
        rw [List.take_left, hks]
      rw [hfin]
      refine VC_exit rfl ?_
      refine VR [1, 2, 5, 6] rfl rfl fun K hK => ?_; simp only [go_sem,↓reduceIte,Nat.reduceEqDiff]
      refine ⟨_, d2, ?_⟩
      (try simp only [go_sem,↓reduceIte,Nat.reduceEqDiff])
      refine MemK_litK hH6 2 (enV (aheadOf way ++ x.name, x.data)) (xs := [.tmp 57]) Tryd.underlying27 sz38 rfl rfl rfl (by omega) (by omega) ?_
      simp only [go_sem,↓reduceIte,Nat.reduceEqDiff]
      refine ⟨by simp [enV, Value.cells], by simp [enV, Value.cells], fun gl w6 hH7 => ?_⟩
      (try simp only [go_sem,↓reduceIte,Nat.reduceEqDiff])
      refine MemK_append ?_
      simp only [go_sem,↓reduceIte,Nat.reduceEqDiff]
      refine AppK_row (zs := #[.string ⟨#[]⟩, .string ⟨#[]⟩]) (bytes := 32) hH7 3 rfl Tryd.underlying27 (by kernel_rfl) rfl ⟨rfl, row_rs (hH7.at 0 rfl), 38, Tryd.underlying27⟩ (enV_one _) (fun h => by simp at hdone; omega) fun a6 c6 w7 hc' hH8 => ?_
      have hH9 : Heap w [] w7 [Res.row 38 2 a6 (done ++ [(aheadOf way ++ x.name, x.data)]).length c6 (ensV (done ++ [(aheadOf way ++ x.name, x.data)])), Res.blk g 24 (nodeV t)] := by
        rw [ensV_snoc, List.length_append]
        exact hH8.sub (.cons _ (.cons _ (.cons _ (.refl _))))
      clear hH8 hH7
      rw [← List.append_assoc] at hgo
      rw [show done.length + 1 = (done ++ [(aheadOf way ++ x.name, x.data)]).length by simp]
      generalize done ++ [(aheadOf way ++ x.name, x.data)] = done2 at *
      (try simp only [go_sem,↓reduceIte,Nat.reduceEqDiff])
      (refine hK _ _ ?_; clear hK)
      refine VC_blk ?_
      refine VR [1, 2, 5, 6] rfl rfl fun K hK => ?_; simp only [go_sem,↓reduceIte,Nat.reduceEqDiff]
      ((repeat refine And.intro (by omega) ?_); refine hK _ _ ?_; clear hK)
      refine VC_again ?_
      simp only [go_sem,↓reduceIte,Nat.reduceEqDiff]
      exact ⟨t.kids.length - (i + 1), by omega, i + 1, done2, a6, c6, rfl, hH9, hgo, by omega, rfl⟩
  · simp only [decide_eq_false_iff_not] at h
    obtain rfl : i = t.kids.length := by omega
    rw [List.drop_length, filesL, List.append_nil] at hgo
    refine VC_exit rfl ?_
    refine VR [4] rfl rfl fun K hK => ?_; simp only [go_sem,↓reduceIte,Nat.reduceEqDiff]
    ((repeat refine And.intro (by omega) ?_); refine hK _ _ ?_; clear hK)
    rw [← hgo]
    exact VC_ret (VX_ret1 rfl rfl ⟨a5, c5, rfl, hH.sub (.cons_cons _ (List.nil_sublist _))⟩)
end Go.Proofs.YtklpiecolpnmlaaDoor
namespace Go.Proofs.YtklpiecolpnmlaaDoor
open Go Go.Eng
set_option maxRecDepth 100000
set_option maxHeartbeats 1000000
set_option linter.unusedSimpArgs false
set_option linter.unusedVariables false
theorem rwalk_does (t : NT) (w : World) (hL : Lies w t) (hsz : sizeN t ≤ 500) : Does Tryd.prog 9 #[nodeA t] w fun v w' =>
    ∃ a c, v = .tuple #[.slice a (walkS t).1.length c, .int .i64 (walkS t).2] ∧ Heap w [] w' [Res.row 38 2 a (walkS t).1.length c (ensV (walkS t).1)] := by
  refine Does_enter (args := [nodeA t]) 25 Tryd.func9 rfl rfl (of_decide_eq_true rfl) ?_
  simp only [Env.ofArgs]
  refine VR [1] rfl rfl fun K hK => ?_; simp only [go_sem,↓reduceIte,Nat.reduceEqDiff]
  refine MemK_box ?_
  simp only [go_sem,↓reduceIte,Nat.reduceEqDiff]
  have hH := (Heap.start w).box 24 (nodeV t)
  generalize w.alloc (Obj.cells (nodeV t).toArray 24) = w1 at *
  generalize w.heap.size = g at *
  (refine hK _ _ ?_; clear hK)
  have hL1 := Lies.keep hH t hL
  have nil : ∀ {w' : World}, Heap w [] w' [] → Heap w [] w' [Res.row 38 2 none 0 0 (ensV [])] := fun h => h.nilRow 38 2
  refine VR [1, 8] rfl rfl fun K hK => ?_; simp only [go_sem,↓reduceIte,Nat.reduceEqDiff]
  refine ⟨nodeV t, ⟨rfl, blk_reads (hH.at 0 rfl)⟩, ?_⟩
  (try simp only [go_sem,↓reduceIte,Nat.reduceEqDiff])
  refine MemK_callD Tryd.call12 (rcheck_does t w1 hL1) (by simp only [go_sem,↓reduceIte,Nat.reduceEqDiff] <;> rfl) ?_
  rintro v w2 ⟨hHc, rfl⟩
  have hH2 := hH.call0 hHc
  have hH2 : Heap w [] w2 [Res.blk g 24 (nodeV t)] := hH2
  clear hHc hH
  (try simp only [go_sem,↓reduceIte,Nat.reduceEqDiff])
  (refine hK _ _ ?_; clear hK)
  refine VC_cond rfl rfl (fun h => ?_) (fun h => VC_skip ?_)
  · have hw : walkS t = ([], 280) := by
      rw [walkS, if_neg (by simpa using h)]
    rw [hw]
    refine VR [2, 3] rfl rfl fun K hK => ?_; simp only [go_sem,↓reduceIte,Nat.reduceEqDiff]
    ((repeat refine And.intro (by omega) ?_); refine hK _ _ ?_; clear hK)
    exact VC_ret (VX_ret2 rfl rfl rfl ⟨none, 0, rfl, nil (hH2.sub (List.nil_sublist _))⟩)
  have hc : checkS t = 0 := by simpa using h
  clear h
  have hL2 := Lies.keep hH2 t hL
  have hfl := filesL_len t []
  have hcall := rfiles_does t [] none 0 w2 hL2 ⟨rfl, fun _ => rfl, fun ad h => by cases h⟩ hsz (by simp; omega) (by simp [aheadOf]; omega)
  refine VR [4] rfl rfl fun K hK => ?_; simp only [go_sem,↓reduceIte,Nat.reduceEqDiff]
  refine ⟨nodeV t, ⟨rfl, blk_reads (hH2.at 0 rfl)⟩, ?_⟩
  (try simp only [go_sem,↓reduceIte,Nat.reduceEqDiff])
  refine MemK_callD Tryd.call21 hcall (by simp only [go_sem,↓reduceIte,Nat.reduceEqDiff] <;> rfl) ?_
  rintro v w3 ⟨a, c, rfl, hHf⟩
  have hH3 := hH2.call0 hHf
  rw [show aheadOf [] = [] from rfl] at hH3 ⊢
  clear hHf hH2
  (try simp only [go_sem,↓reduceIte,Nat.reduceEqDiff])
  (refine hK _ _ ?_; clear hK)
  refine VR [4, 5] rfl rfl fun K hK => ?_; simp only [go_sem,↓reduceIte,Nat.reduceEqDiff]
  ((repeat refine And.intro (by omega) ?_); refine hK _ _ ?_; clear hK)
  ((repeat refine VC_seq ?_); refine VC_block ?_)
  refine VC_loopS [4, 5] (fun m e w' => ∃ (i : Nat), Is e [(4, .slice a (filesS t []).length c), (5, .int .i64 i)] ∧ Is w' w3 ∧ i ≤ (filesS t []).length ∧ (∀ j x, j < i → (filesS t [])[j]? = some x → x.1.length ≤ 120) ∧ m = (filesS t []).length - i) (filesS t []).length ?_ ?_
  · simp only [go_sem,↓reduceIte,Nat.reduceEqDiff]
    exact ⟨0, rfl, rfl, by omega, fun j x h => by omega, rfl⟩
  rintro m e w' ⟨i, rfl, rfl, hi, hall, rfl⟩
  refine VR [4, 5, 14] rfl rfl fun K hK => ?_; simp only [go_sem,↓reduceIte,Nat.reduceEqDiff]
  ((repeat refine And.intro (by omega) ?_); refine hK _ _ ?_; clear hK)
  refine VC_cond rfl rfl (fun h => ?_) (fun h => ?_)
  · simp only [decide_eq_true_eq] at h
    have h1 : i < (filesS t []).length := by omega
    refine VC_skip ?_
    ((repeat refine VC_seq ?_); refine VC_block ?_)
    obtain ⟨x, hx⟩ : ∃ x, (filesS t [])[i]? = some x := ⟨_, List.getElem?_eq_getElem h1⟩
    obtain ⟨gf, rfl⟩ := row_pos (hH3.at 0 rfl) (by omega)
    have cx : w'.cell? ⟨gf, i * 2, none⟩ = some (Str x.1) := row_cell (hH3.at 0 rfl) (rowsV_get (k := 2) enV_len _ i x hx 0 _ rfl)
    refine VR [4, 5, 23] rfl rfl fun K hK => ?_; simp only [go_sem,↓reduceIte,Nat.reduceEqDiff]
    refine ⟨⟨by omega, by omega⟩, ?_⟩
    (try simp only [go_sem,↓reduceIte,Nat.reduceEqDiff])
    refine ⟨_, cx, ?_⟩
    (try simp only [go_sem,↓reduceIte,Nat.reduceEqDiff])
    (refine hK _ _ ?_; clear hK)
    refine VC_cond rfl rfl (fun h => ?_) (fun h => VC_skip ?_)
    · have hw : walkS t = ([], 140) := by
        rw [walkS, if_pos hc, if_neg]
        intro hh
        rw [List.all_eq_true] at hh
        have := hh x (List.mem_of_getElem? hx)
        simp at this h
        omega
      rw [hw]
      refine VR [2, 3] rfl rfl fun K hK => ?_; simp only [go_sem,↓reduceIte,Nat.reduceEqDiff]
      ((repeat refine And.intro (by omega) ?_); refine hK _ _ ?_; clear hK)
      exact VC_ret (VX_ret2 rfl rfl rfl ⟨none, 0, rfl, nil (hH3.sub (List.nil_sublist _))⟩)
    have hsh : x.1.length ≤ 120 := by simp at h; omega
    refine VC_blk ?_
    refine VR [4, 5] rfl rfl fun K hK => ?_; simp only [go_sem,↓reduceIte,Nat.reduceEqDiff]
    ((repeat refine And.intro (by omega) ?_); refine hK _ _ ?_; clear hK)
    refine VC_again ?_
    simp only [go_sem,↓reduceIte,Nat.reduceEqDiff]
    refine ⟨(filesS t []).length - (i + 1), by omega, i + 1, rfl, rfl, by omega, fun j y hj hy => ?_, rfl⟩
    by_cases hji : j = i
    · subst hji
      rw [hx] at hy
      cases hy
      exact hsh
    · exact hall j y (by omega) hy
  · simp only [decide_eq_false_iff_not] at h
    obtain rfl : i = (filesS t []).length := by omega
    have hw : walkS t = (filesS t [], 0) := by
      rw [walkS, if_pos hc, if_pos]
      rw [List.all_eq_true]
      intro y hy
      obtain ⟨j, hj⟩ := List.getElem?_of_mem hy
      have := hall j y (List.getElem?_eq_some_iff.1 hj).1 hj
      simpa using this
    rw [hw]
    refine VC_exit rfl ?_
    refine VR [2, 3] rfl rfl fun K hK => ?_; simp only [go_sem,↓reduceIte,Nat.reduceEqDiff]
    ((repeat refine And.intro (by omega) ?_); refine hK _ _ ?_; clear hK)
    exact VC_ret (VX_ret2 rfl rfl rfl ⟨a, c, rfl, hH3.sub (.cons_cons _ (List.nil_sublist _))⟩)
theorem neq_en (a : En) (xo yo : Operand) (w : World) (KV : Value → Prop) : vBinO Tryd.prog .neq 38 xo yo (enA a) (enA a) w KV = KV (.bool false) := by
  refine EqR_of fun w' => ?_
  have hS : Tryd.prog.underlying 38 = some (.struct (Tryd.prog.fieldsOf 38)) := by kernel_rfl
  have hp : Tryd.prog.stoodInHeld 38 = false := by kernel_rfl
  have hg : Tryd.prog.eqGuardType Tryd.prog.depth 38 = false := by kernel_rfl
  simp only [Sem.run_bind]
  rw [run_eqGuard_agg _ _ _ _ _ _ _ hg]
  simp only [Result.andThen_ok]
  rw [run_neq_struct, show (10000 : Nat) = 9999 + 1 from rfl, run_equalIn_agg w' 9999 38 _ _ hS hp]
  simp only [Program.fieldsOf, Tryd.underlying38]
  have u3 := Tryd.underlying9
  have a3 := Tryd.isAgg9
  have z3 := Tryd.sizeOf9
  simp only [enV]
  go_simp
theorem rs_en {w : World} {p : Addr} {n : Nat} {l : List En} (h : RS w (some p) n 2 (ensV l)) {i : Nat} {x : En} (hx : l[i]? = some x) : Reads w (p.add (i * 2)) (enV x) := by
  intro j u hu
  have := h.2.2 p rfl (i * 2 + j) u (rowsV_get (k := 2) enV_len l i x hx j u hu)
  rw [addr_add_add]
  exact this
theorem rs_pos {w : World} {a : Option Addr} {n sz : Nat} {xs : List Value} (h : RS w a n sz xs) (hn : 0 < n) : ∃ p, a = some p := by
  cases a with
  | none => have := h.2.1 rfl; omega
  | some p => exact ⟨p, rfl⟩
theorem same_does (l : List En) (a b : Option Addr) (c c' : Nat) (w : World) (hl : RS w a l.length 2 (ensV l)) (hl2 : RS w b l.length 2 (ensV l)) (hlen : l.length ≤ 1000000) :
    Does Tryd.prog 10 #[.slice a l.length c, .slice b l.length c'] w fun v w' => w' = w ∧ v = .bool true := by
  refine Does_enter (args := [.slice a l.length c, .slice b l.length c']) 26 Tryd.func10 rfl rfl (of_decide_eq_true rfl) ?_
  simp only [Env.ofArgs]
  refine VR [0, 1] rfl rfl fun K hK => ?_; simp only [go_sem,↓reduceIte,Nat.reduceEqDiff]
  ((repeat refine And.intro (by omega) ?_); refine hK _ _ ?_; clear hK)
  refine VR [0, 1, 10] rfl rfl fun K hK => ?_; simp only [go_sem,↓reduceIte,Nat.reduceEqDiff]
  ((repeat refine And.intro (by omega) ?_); refine hK _ _ ?_; clear hK)
  refine VC_cond rfl rfl (fun h => by simp at h) (fun h => VC_skip ?_)
  clear h
  refine VR [0, 1, 5] rfl rfl fun K hK => ?_; simp only [go_sem,↓reduceIte,Nat.reduceEqDiff]
  ((repeat refine And.intro (by omega) ?_); refine hK _ _ ?_; clear hK)
  ((repeat refine VC_seq ?_); refine VC_block ?_)
  refine VC_loopS [0, 1, 5] (fun m e w' => ∃ (i : Nat), Is e [(0, .slice a l.length c), (1, .slice b l.length c'), (5, .int .i64 i)] ∧ Is w' w ∧ i ≤ l.length ∧ m = l.length - i) l.length ?_ ?_
  · simp only [go_sem,↓reduceIte,Nat.reduceEqDiff]
    exact ⟨0, rfl, rfl, by omega, rfl⟩
  rintro m e w3 ⟨i, rfl, rfl, hi, rfl⟩
  refine VR [0, 1, 5, 14] rfl rfl fun K hK => ?_; simp only [go_sem,↓reduceIte,Nat.reduceEqDiff]
  ((repeat refine And.intro (by omega) ?_); refine hK _ _ ?_; clear hK)
  refine VC_cond rfl rfl (fun h => ?_) (fun h => ?_)
  · simp only [decide_eq_true_eq] at h
    refine VC_skip ?_
    ((repeat refine VC_seq ?_); refine VC_block ?_)
    have hi' : i < l.length := by omega
    obtain ⟨x, hx⟩ : ∃ x, l[i]? = some x := ⟨_, List.getElem?_eq_getElem hi'⟩
    obtain ⟨p, rfl⟩ := rs_pos hl (by omega)
    obtain ⟨q, rfl⟩ := rs_pos hl2 (by omega)
    have hr1 := rs_en hl hx
    have hr2 := rs_en hl2 hx
    (repeat refine VC_seq ?_); refine VC_regionQ [0, 1, 5, 25] (by kernel_rfl) (by kernel_rfl) rfl fun K hK => ?_; simp only [go_sem,↓reduceIte,Nat.reduceEqDiff]
    refine ⟨⟨by omega, by omega⟩, enV x, ⟨rfl, hr1⟩, ⟨by omega, by omega⟩, enV x, ⟨rfl, hr2⟩, ?_⟩
    rw [neq_en]
    (refine hK _ ?_; clear hK)
    refine VC_cond rfl rfl (fun h => by simp at h) (fun h => VC_skip ?_)
    clear h
    refine VC_blk ?_
    refine VR [0, 1, 5] rfl rfl fun K hK => ?_; simp only [go_sem,↓reduceIte,Nat.reduceEqDiff]
    ((repeat refine And.intro (by omega) ?_); refine hK _ _ ?_; clear hK)
    refine VC_again ?_
    simp only [go_sem,↓reduceIte,Nat.reduceEqDiff]
    exact ⟨l.length - (i + 1), by omega, i + 1, rfl, rfl, by omega, rfl⟩
  · simp only [decide_eq_false_iff_not] at h
    obtain rfl : i = l.length := by omega
    refine VC_exit rfl ?_
    refine VR [4] rfl rfl fun K hK => ?_; simp only [go_sem,↓reduceIte,Nat.reduceEqDiff]
    ((repeat refine And.intro (by omega) ?_); refine hK _ _ ?_; clear hK)
    exact VC_ret (VX_ret1 rfl rfl ⟨rfl, rfl⟩)
end Go.Proofs.YtklpiecolpnmlaaDoor
namespace Go.Proofs.YtklpiecolpnmlaaDoor
open Go Go.Eng
set_option maxRecDepth 100000
set_option linter.unusedSimpArgs false
set_option linter.unusedVariables false
theorem size_does : ∀ (t : NT) (most : Int) (w : World), 0 ≤ most → most ≤ 500 → Lies w t →
    Does Tryd.prog 6 #[nodeA t, .int .i64 most] w fun v w' => Heap w [] w' [] ∧ v = .int .i64 (min (sizeN t) (most + 1)) := by
  refine NT.ind fun t ih => ?_
  intro most w hm0 hm hL
  rw [Lies_iff] at hL
  obtain ⟨hF, hRS, hKd⟩ := hL
  have hsz := sizeN_eq t
  refine Does_enter (args := [nodeA t, .int .i64 most]) 31 Tryd.func6 rfl rfl (of_decide_eq_true rfl) ?_
  simp only [Env.ofArgs]
  refine VR [1, 2] rfl rfl fun K hK => ?_; simp only [go_sem,↓reduceIte,Nat.reduceEqDiff]
  refine MemK_box ?_
  simp only [go_sem,↓reduceIte,Nat.reduceEqDiff]
  have hH := (Heap.start w).box 24 (nodeV t)
  generalize w.alloc (Obj.cells (nodeV t).toArray 24) = w1 at *
  generalize w.heap.size = g at *
  (refine hK _ _ ?_; clear hK)
  refine VR [1, 2, 5] rfl rfl fun K hK => ?_; simp only [go_sem,↓reduceIte,Nat.reduceEqDiff]
  ((repeat refine And.intro (by omega) ?_); refine hK _ _ ?_; clear hK)
  refine VR [1, 2, 5, 6] rfl rfl fun K hK => ?_; simp only [go_sem,↓reduceIte,Nat.reduceEqDiff]
  ((repeat refine And.intro (by omega) ?_); refine hK _ _ ?_; clear hK)
  ((repeat refine VC_seq ?_); refine VC_block ?_)
  refine VC_loopS [1, 2, 5, 6] (fun m e w' => ∃ (i : Nat), Is e [(1, .int .i64 most), (2, .pointer (some ⟨g, 0, none⟩)), (5, .int .i64 (min ((1 + sizeL (t.kids.take i) : Nat) : Int) (most + 1))), (6, .int .i64 i)] ∧ Heap w [] w' [Res.blk g 24 (nodeV t)] ∧ i ≤ t.kids.length ∧ m = t.kids.length - i) t.kids.length ?_ ?_
  · simp only [go_sem,↓reduceIte,Nat.reduceEqDiff]
    exact ⟨0, by simp [Is, sizeL]; omega, hH, by omega, rfl⟩
  clear hH
  rintro m e w2 ⟨i, rfl, hH, hi, rfl⟩
  have c3 : w2.cell? ⟨g, 3, none⟩ = some (.slice t.place t.kids.length t.cap) := blk_cell (hH.at 0 rfl) rfl
  have hF3 := hF.2.2
  refine VR [1, 2, 5, 6, 16] rfl rfl fun K hK => ?_; simp only [go_sem,↓reduceIte,Nat.reduceEqDiff]
  suffices out : ∀ b : Bool, (b = true ↔ i < t.kids.length ∧ ((1 + sizeL (t.kids.take i) : Nat) : Int) ≤ most) → K [(1, .int .i64 most), (2, .pointer (some ⟨g, 0, none⟩)), (5, .int .i64 (min ((1 + sizeL (t.kids.take i) : Nat) : Int) (most + 1))), (6, .int .i64 i), (16, .bool b)] w2 by
    refine ⟨_, c3, ?_⟩
    (try simp only [go_sem,↓reduceIte,Nat.reduceEqDiff])
    (repeat' (first | exact out _ _ (by first | omega | (simp; done) | (simp; omega)) | exact out _ (by first | omega | (simp; done) | (simp; omega)) | refine ⟨fun _ => ?_, fun _ => ?_⟩ | refine And.intro (by omega) ?_))
  intro b hb
  (refine hK _ _ ?_; clear hK)
  refine VC_cond rfl rfl (fun h => ?_) (fun h => ?_)
  · obtain ⟨h1, h2⟩ := hb.1 h
    clear hb h
    refine VC_skip ?_
    ((repeat refine VC_seq ?_); refine VC_block ?_)
    obtain ⟨x, hx⟩ : ∃ x, t.kids[i]? = some x := ⟨_, List.getElem?_eq_getElem h1⟩
    have hxm : x ∈ t.kids := List.mem_of_getElem? hx
    cases hpl : t.place with
    | none => have := hRS.2.1 hpl; omega
    | some p =>
    rw [hpl] at hRS c3
    have hrd := rs_node (hH.rs' hRS) hx
    rw [show min ((1 + sizeL (t.kids.take i) : Nat) : Int) (most + 1) = ((1 + sizeL (t.kids.take i) : Nat) : Int) by omega]
    generalize hq : ((1 + sizeL (t.kids.take i) : Nat) : Int) = q at *
    refine VR [1, 2, 5, 6] rfl rfl fun K hK => ?_; simp only [go_sem,↓reduceIte,Nat.reduceEqDiff]
    refine ⟨_, c3, ?_⟩
    (try simp only [go_sem,↓reduceIte,Nat.reduceEqDiff])
    refine ⟨⟨by omega, by omega⟩, nodeV x, ⟨rfl, hrd⟩, ?_⟩
    (try simp only [go_sem,↓reduceIte,Nat.reduceEqDiff])
    refine ⟨I64.mk (by omega) (by omega), ?_⟩
    refine MemK_call Tryd.call6 ?_; simp only [go_sem,↓reduceIte,Nat.reduceEqDiff]; refine CallK.mk (ih x hxm (most - q) w2 (by omega) (by omega) (Lies.keep hH x (hKd x hxm))) ?_
    rintro v w3 ⟨hH2, rfl⟩
    have hH3 := hH.call0 hH2
    (try simp only [go_sem,↓reduceIte,Nat.reduceEqDiff])
    refine ⟨I64.mk (by omega) (by omega), ?_⟩
    (refine hK _ _ ?_; clear hK)
    refine VC_blk ?_
    refine VR [1, 2, 5, 6] rfl rfl fun K hK => ?_; simp only [go_sem,↓reduceIte,Nat.reduceEqDiff]
    ((repeat refine And.intro (by omega) ?_); refine hK _ _ ?_; clear hK)
    refine VC_again ?_
    simp only [go_sem,↓reduceIte,Nat.reduceEqDiff]
    refine ⟨t.kids.length - (i + 1), by omega, i + 1, ?_, hH3, by omega, rfl⟩
    rw [take_snoc hx, sizeL_append, show sizeL [x] = sizeN x by simp [sizeL]]
    have : q + min (sizeN x : Int) (most - q + 1) = min ((1 + (sizeL (t.kids.take i) + sizeN x) : Nat) : Int) (most + 1) := by omega
    rw [this]
    rfl
  · refine VC_exit rfl ?_
    refine VR [4] rfl rfl fun K hK => ?_; simp only [go_sem,↓reduceIte,Nat.reduceEqDiff]
    ((repeat refine And.intro (by omega) ?_); refine hK _ _ ?_; clear hK)
    refine VC_ret (VX_ret1 rfl rfl ⟨hH.sub (List.nil_sublist _), ?_⟩)
    have hg : ¬ (i < t.kids.length ∧ ((1 + sizeL (t.kids.take i) : Nat) : Int) ≤ most) := fun hh => by rw [hb.2 hh] at h; cases h
    have h4 := sizeL_take t.kids i
    rw [hsz]
    by_cases h5 : i < t.kids.length
    · rw [show min ((1 + sizeL (t.kids.take i) : Nat) : Int) (most + 1) = min ((1 + sizeL t.kids : Nat) : Int) (most + 1) by omega]
    · rw [show t.kids.take i = t.kids from List.take_of_length_le (by omega)]
end Go.Proofs.YtklpiecolpnmlaaDoor
namespace Go.Proofs.YtklpiecolpnmlaaDoor
open Go Go.Eng Go.Ev
set_option maxRecDepth 100000
theorem awake28_does (w : World) : Does Tryd.prog 7 #[] w fun v w' => Heap w [] w' [] ∧ v = .bool true :=
  run_true (C := ⟨Tryd.prog, fun _ _ => none, fun _ => none⟩) (by kernel_rfl) (noKn _) (args := []) (by kernel_rfl) .nil w
end Go.Proofs.YtklpiecolpnmlaaDoor
namespace Go.Proofs.YtklpiecolpnmlaaDoor
open Go Go.Eng
set_option maxRecDepth 100000
set_option maxHeartbeats 1000000
set_option linter.unusedSimpArgs false
set_option linter.unusedVariables false
theorem row_spot {T sz n cap : Nat} {a : Option Addr} {xs : List Value} {w : World} (h : (Res.row T sz a n cap xs).holds w) : ∀ p, a = some p → p.spot = none := by
  intro p hp
  obtain ⟨_, _, _, h | ⟨g, rest, fz, h, _⟩⟩ := h
  · rw [h.1] at hp; cases hp
  · rw [h] at hp; cases hp; rfl
theorem treeChecks_law (t : NT) (w : World) (hL : Lies w t) : Does Tryd.prog 3 #[nodeA t] w fun v w' => Heap w [] w' [] ∧ v = .bool true := by
  refine Does_enter (args := [nodeA t]) 39 Tryd.func3 rfl rfl (of_decide_eq_true rfl) ?_
  simp only [Env.ofArgs]
  refine VR [1] rfl rfl fun K hK => ?_; simp only [go_sem,↓reduceIte,Nat.reduceEqDiff]
  refine MemK_box ?_
  simp only [go_sem,↓reduceIte,Nat.reduceEqDiff]
  have hH := (Heap.start w).box 24 (nodeV t)
  generalize w.alloc (Obj.cells (nodeV t).toArray 24) = w1 at *
  generalize w.heap.size = g at *
  (refine hK _ _ ?_; clear hK)
  have hL1 := Lies.keep hH t hL
  refine VR [1, 9] rfl rfl fun K hK => ?_; simp only [go_sem,↓reduceIte,Nat.reduceEqDiff]
  refine ⟨nodeV t, ⟨rfl, blk_reads (hH.at 0 rfl)⟩, ?_⟩
  (try simp only [go_sem,↓reduceIte,Nat.reduceEqDiff])
  refine MemK_callD Tryd.call6 (size_does t 500 w1 (by omega) (by omega) hL1) (by simp only [go_sem,↓reduceIte,Nat.reduceEqDiff] <;> rfl) ?_
  rintro v w2 ⟨hHc, rfl⟩
  have hH2 : Heap w [] w2 [Res.blk g 24 (nodeV t)] := hH.call0 hHc
  clear hHc hH
  (try simp only [go_sem,↓reduceIte,Nat.reduceEqDiff])
  (refine hK _ _ ?_; clear hK)
  refine VC_cond rfl rfl (fun h => ?_) (fun h => VC_skip ?_)
  · refine VR [2] rfl rfl fun K hK => ?_; simp only [go_sem,↓reduceIte,Nat.reduceEqDiff]
    refine MemK_callD Tryd.call7 (awake28_does w2) (by simp only [go_sem,↓reduceIte,Nat.reduceEqDiff] <;> rfl) ?_
    rintro v w3 ⟨hHc, rfl⟩
    (try simp only [go_sem,↓reduceIte,Nat.reduceEqDiff])
    (refine hK _ _ ?_; clear hK)
    exact VC_ret (VX_ret1 rfl rfl ⟨(hH2.sub (List.nil_sublist _)).call0 hHc, rfl⟩)
  have hsz : sizeN t ≤ 500 := by simp at h; omega
  clear h
  have hL2 := Lies.keep hH2 t hL
  refine VR [1, 3, 4] rfl rfl fun K hK => ?_; simp only [go_sem,↓reduceIte,Nat.reduceEqDiff]
  refine ⟨nodeV t, ⟨rfl, blk_reads (hH2.at 0 rfl)⟩, ?_⟩
  (try simp only [go_sem,↓reduceIte,Nat.reduceEqDiff])
  refine MemK_callD Tryd.call8 (twalk_does t w2 hL2 (by omega)) (by simp only [go_sem,↓reduceIte,Nat.reduceEqDiff] <;> rfl) ?_
  rintro v w3 ⟨a3, c3, rfl, hHc⟩
  have hH3 := hH2.call0 hHc
  clear hHc hH2
  (try simp only [go_sem,↓reduceIte,Nat.reduceEqDiff])
  (refine hK _ _ ?_; clear hK)
  have hL3 := Lies.keep hH3 t hL
  refine VR [1, 3, 4, 5, 6] rfl rfl fun K hK => ?_; simp only [go_sem,↓reduceIte,Nat.reduceEqDiff]
  refine ⟨nodeV t, ⟨rfl, blk_reads (hH3.at 1 rfl)⟩, ?_⟩
  (try simp only [go_sem,↓reduceIte,Nat.reduceEqDiff])
  refine MemK_callD Tryd.call9 (rwalk_does t w3 hL3 hsz) (by simp only [go_sem,↓reduceIte,Nat.reduceEqDiff] <;> rfl) ?_
  rintro v w4 ⟨a4, c4, rfl, hHc⟩
  have hH4 := hH3.call0 hHc
  clear hHc hH3
  have hH4 : Heap w [] w4 [Res.row 38 2 a4 (walkS t).1.length c4 (ensV (walkS t).1), Res.row 38 2 a3 (walkS t).1.length c3 (ensV (walkS t).1), Res.blk g 24 (nodeV t)] := hH4
  (try simp only [go_sem,↓reduceIte,Nat.reduceEqDiff])
  (refine hK _ _ ?_; clear hK)
  have hL4 := Lies.keep hH4 t hL
  have hcnt : (walkS t).1.length ≤ 500 := by
    have := filesL_len t []
    unfold walkS
    split
    · split
      · simp; omega
      · simp
    · simp
  have hb : Reads w4 ⟨g, 0, none⟩ (nodeV t) := blk_reads (hH4.at 2 rfl)
  have hs := same_does (walkS t).1 a3 a4 c3 c4 w4 (row_rs (hH4.at 1 rfl)) (row_rs (hH4.at 0 rfl)) (by omega)
  generalize (walkS t).1.length = n at *
  generalize (walkS t).2 = er at *
  (repeat refine VC_seq ?_); refine VC_regionH _ (Ext.refl _) [2] [(0, true), (1, true), (2, false), (3, true), (4, true), (5, true), (6, true), (7, true), (8, true), (9, true), (11, true), (10, false), (12, false), (13, true), (14, true), (15, true), (16, false), (17, true), (18, true)] (by kernel_rfl) (by kernel_rfl) rfl (by simp only [planned, List.filterMap_cons, List.filterMap_nil, List.getElem?_cons_succ, List.getElem?_cons_zero, Option.map_some]; rfl) fun K hK => ?_; simp only [go_sem,↓reduceIte,Nat.reduceEqDiff]
  suffices out : ∀ w', Heap w4 [] w' [] → K [(2, .bool true)] w' by
    refine MemK_callD Tryd.call10 hs (by simp only [go_sem,↓reduceIte,Nat.reduceEqDiff] <;> rfl) ?_
    rintro v w5 ⟨rfl, rfl⟩
    refine ⟨Ext.refl _, ?_⟩
    (try simp only [go_sem,↓reduceIte,Nat.reduceEqDiff])
    refine And.intro (fun _ => ?_) (fun h => absurd trivial h)
    refine ⟨nodeV t, ⟨rfl, hb⟩, nodeV t, ⟨rfl, hb⟩, ?_⟩
    (try simp only [go_sem,↓reduceIte,Nat.reduceEqDiff])
    refine MemK_callD Tryd.call11 (tcheck_does t w5 hL4) (by simp only [go_sem,↓reduceIte,Nat.reduceEqDiff] <;> rfl) ?_
    rintro v w6 ⟨hH6, rfl⟩
    refine ⟨hH6.ext, ?_⟩
    (try simp only [go_sem,↓reduceIte,Nat.reduceEqDiff])
    refine MemK_callD Tryd.call12 (rcheck_does t w6 (Lies.keep hH6 t hL4)) (by simp only [go_sem,↓reduceIte,Nat.reduceEqDiff] <;> rfl) ?_
    rintro v w7 ⟨hH7, rfl⟩
    have hH8 := hH6.call0 hH7
    refine ⟨hH8.ext, ?_⟩
    (try simp only [go_sem,↓reduceIte,Nat.reduceEqDiff])
    refine And.intro (fun _ => ?_) (fun h => absurd trivial h)
    refine MemK_callD Tryd.call7 (awake28_does w7) (by simp only [go_sem,↓reduceIte,Nat.reduceEqDiff] <;> rfl) ?_
    rintro v w8 ⟨hH9, rfl⟩
    refine ⟨(hH8.call0 hH9).ext, ?_⟩
    (try simp only [go_sem,↓reduceIte,Nat.reduceEqDiff])
    exact out _ (hH8.call0 hH9)
  intro w5 hH5
  (refine hK _ _ ?_; clear hK)
  exact VC_ret (VX_ret1 rfl rfl ⟨(hH4.sub (List.nil_sublist _)).call0 hH5, rfl⟩)
end Go.Proofs.YtklpiecolpnmlaaDoor
namespace Go.Proofs.YtklpiecolpnmlaaDoor
open Go Go.Eng
set_option maxRecDepth 100000
set_option maxHeartbeats 1000000
set_option linter.unusedSimpArgs false
set_option linter.unusedVariables false
theorem same28_does : ∀ (a b : NT) (w : World), Lies w a → Lies w b → Does Tryd.prog 15 #[nodeA a, nodeA b] w fun v w' => Heap w [] w' [] ∧ ∃ r : Bool, v = .bool r ∧ (r = true ↔ a.pt = b.pt) := by
  refine NT.ind fun a ih => ?_
  intro b w hA hB
  rw [Lies_iff] at hA hB
  obtain ⟨hFa, hRa, hKa⟩ := hA
  obtain ⟨hFb, hRb, hKb⟩ := hB
  have hFa3 := hFa.2.2
  have hFb3 := hFb.2.2
  refine Does_enter (args := [nodeA a, nodeA b]) 53 Tryd.func15 rfl rfl (of_decide_eq_true rfl) ?_
  simp only [Env.ofArgs]
  refine VR [2, 3] rfl rfl fun K hK => ?_; simp only [go_sem,↓reduceIte,Nat.reduceEqDiff]
  refine MemK_box ?_
  simp only [go_sem,↓reduceIte,Nat.reduceEqDiff]
  have hH := (Heap.start w).box 24 (nodeV a)
  generalize w.alloc (Obj.cells (nodeV a).toArray 24) = w1 at *
  generalize w.heap.size = ga at *
  refine MemK_box ?_
  simp only [go_sem,↓reduceIte,Nat.reduceEqDiff]
  have hH2 := hH.box 24 (nodeV b)
  generalize w1.alloc (Obj.cells (nodeV b).toArray 24) = w2 at *
  generalize w1.heap.size = gb at *
  clear hH
  (refine hK _ _ ?_; clear hK)
  obtain ⟨c0, c1, c2, c3⟩ := node_cells (hH2.at 1 rfl)
  obtain ⟨d0, d1, d2, d3⟩ := node_cells (hH2.at 0 rfl)
  refine VR [2, 3, 33] rfl rfl fun K hK => ?_; simp only [go_sem, ↓ex_hit c0, ↓ex_hit c1, ↓ex_hit c2, ↓ex_hit c3, ↓ex_hit d0, ↓ex_hit d1, ↓ex_hit d2, ↓ex_hit d3,↓reduceIte,Nat.reduceEqDiff]
  suffices out : ∀ r : Bool, (r = true ↔ ¬ (a.name = b.name ∧ a.dir = b.dir ∧ a.data = b.data ∧ a.kids.length = b.kids.length)) → K [(2, ptrV ga), (3, ptrV gb), (33, .bool r)] w2 by
    have hlen : (¬ (a.kids.length : Int) = b.kids.length) ↔ ¬ a.kids.length = b.kids.length := by omega
    refine And.intro (fun h1 => And.intro (fun h2 => And.intro (fun h3 => out _ ?_) (fun h3 => out _ ?_)) (fun h2 => out _ ?_)) (fun h1 => out _ ?_)
    · have h1 := Classical.not_not.1 h1
      have h2 := Classical.not_not.1 h2
      have h3 := Classical.not_not.1 h3
      rw [decide_eq_true_eq, hlen]
      simp [h1, h2, h3]
    · simp [h3]
    · simp [h2]
    · simp [h1]
  intro r hr
  (refine hK _ _ ?_; clear hK)
  refine VC_cond rfl rfl (fun h => ?_) (fun h => VC_skip ?_)
  · have h1 := hr.1 h
    refine VR [4] rfl rfl fun K hK => ?_; simp only [go_sem,↓reduceIte,Nat.reduceEqDiff]
    ((repeat refine And.intro (by omega) ?_); refine hK _ _ ?_; clear hK)
    refine VC_ret (VX_ret1 rfl rfl ⟨hH2.sub (List.nil_sublist _), false, rfl, ?_⟩)
    simp only [Bool.false_eq_true, false_iff]
    intro he
    rw [pt_eq, pt_eq] at he
    injection he with e1 e2 e3 e4
    exact h1 ⟨e1, e2, e3, by have := congrArg List.length e4; simpa using this⟩
  have hg : a.name = b.name ∧ a.dir = b.dir ∧ a.data = b.data ∧ a.kids.length = b.kids.length := Classical.byContradiction fun hh => by rw [hr.2 hh] at h; cases h
  obtain ⟨g1, g2, g3, g4⟩ := hg
  clear hr h
  refine VR [2, 3, 5] rfl rfl fun K hK => ?_; simp only [go_sem,↓reduceIte,Nat.reduceEqDiff]
  ((repeat refine And.intro (by omega) ?_); refine hK _ _ ?_; clear hK)
  refine VC_block ?_
  refine VC_loopS [2, 3, 5] (fun m e w' => ∃ (i : Nat), Is e [(2, ptrV ga), (3, ptrV gb), (5, .int .i64 i)] ∧ Heap w [] w' [Res.blk gb 24 (nodeV b), Res.blk ga 24 (nodeV a)] ∧ i ≤ a.kids.length ∧ (a.kids.take i).map NT.pt = (b.kids.take i).map NT.pt ∧ m = a.kids.length - i) a.kids.length ?_ ?_
  · simp only [go_sem,↓reduceIte,Nat.reduceEqDiff]
    exact ⟨0, rfl, hH2, by omega, rfl, rfl⟩
  clear hH2 c0 c1 c2 c3 d0 d1 d2 d3
  rintro m e w3 ⟨i, rfl, hH, hi, hpre, rfl⟩
  have c3 : w3.cell? ⟨ga, 3, none⟩ = some (.slice a.place a.kids.length a.cap) := blk_cell (hH.at 1 rfl) rfl
  have d3 : w3.cell? ⟨gb, 3, none⟩ = some (.slice b.place b.kids.length b.cap) := blk_cell (hH.at 0 rfl) rfl
  refine VR [2, 3, 5, 38] rfl rfl fun K hK => ?_; simp only [go_sem, ↓ex_hit c3,↓reduceIte,Nat.reduceEqDiff]
  ((repeat refine And.intro (by omega) ?_); refine hK _ _ ?_; clear hK)
  refine VC_cond rfl rfl (fun h => ?_) (fun h => ?_)
  · simp only [decide_eq_true_eq] at h
    have h1 : i < a.kids.length := by omega
    refine VC_skip ?_
    ((repeat refine VC_seq ?_); refine VC_block ?_)
    obtain ⟨x, hx⟩ : ∃ x, a.kids[i]? = some x := ⟨_, List.getElem?_eq_getElem h1⟩
    obtain ⟨y, hy⟩ : ∃ y, b.kids[i]? = some y := ⟨_, List.getElem?_eq_getElem (by omega)⟩
    have hxm := List.mem_of_getElem? hx
    have hym := List.mem_of_getElem? hy
    cases hpa : a.place with
    | none => have := hRa.2.1 hpa; omega
    | some p =>
    cases hpb : b.place with
    | none => have := hRb.2.1 hpb; omega
    | some q =>
    rw [hpa] at c3 hRa
    rw [hpb] at d3 hRb
    have hrx := rs_node (hH.rs' hRa) hx
    have hry := rs_node (hH.rs' hRb) hy
    (repeat refine VC_seq ?_); refine VC_regionL [2, 3, 5, 52] 10 (by kernel_rfl) (by kernel_rfl) (by kernel_rfl) rfl fun K hK => ?_; simp only [go_sem,↓reduceIte,Nat.reduceEqDiff]
    (try simp only [go_sem, ↓ex_hit c3, ↓ex_hit d3,↓reduceIte,Nat.reduceEqDiff])
    refine And.intro (And.intro (by omega) (by omega)) ⟨nodeV x, ⟨rfl, hrx⟩, ?_⟩
    (try simp only [go_sem, ↓ex_hit c3, ↓ex_hit d3,↓reduceIte,Nat.reduceEqDiff])
    refine And.intro (And.intro (by omega) (by omega)) ⟨nodeV y, ⟨rfl, hry⟩, ?_⟩
    (try simp only [go_sem,↓reduceIte,Nat.reduceEqDiff])
    refine MemK_callD Tryd.call15 (ih x hxm y w3 (Lies.keep hH x (hKa x hxm)) (Lies.keep hH y (hKb y hym))) (by simp only [go_sem,↓reduceIte,Nat.reduceEqDiff] <;> rfl) ?_
    rintro v w4 ⟨hHc, r, rfl, hr⟩
    have hH4 : Heap w [] w4 [Res.blk gb 24 (nodeV b), Res.blk ga 24 (nodeV a)] := hH.call0 hHc
    (try simp only [go_sem,↓reduceIte,Nat.reduceEqDiff])
    (refine hK _ _ ?_; clear hK)
    have hta := take_snoc hx
    have htb := take_snoc hy
    refine VC_cond rfl rfl (fun h => ?_) (fun h => VC_skip ?_)
    · have hne : ¬ x.pt = y.pt := fun he => by rw [hr.2 he] at h; simp at h
      refine VR [4] rfl rfl fun K hK => ?_; simp only [go_sem,↓reduceIte,Nat.reduceEqDiff]
      ((repeat refine And.intro (by omega) ?_); refine hK _ _ ?_; clear hK)
      refine VC_ret (VX_ret1 rfl rfl ⟨hH4.sub (List.nil_sublist _), false, rfl, ?_⟩)
      simp only [Bool.false_eq_true, false_iff]
      intro he
      rw [pt_eq, pt_eq] at he
      injection he with e1 e2 e3 e4
      have e5 := congrArg (fun l => l[i]?) e4
      simp only [List.getElem?_map, hx, hy, Option.map_some, Option.some.injEq] at e5
      exact hne e5
    · have he : x.pt = y.pt := by
        apply hr.1
        cases r
        · simp at h
        · rfl
      refine VC_blk ?_
      refine VR [2, 3, 5] rfl rfl fun K hK => ?_; simp only [go_sem,↓reduceIte,Nat.reduceEqDiff]
      ((repeat refine And.intro (by omega) ?_); refine hK _ _ ?_; clear hK)
      refine VC_again ?_
      simp only [go_sem,↓reduceIte,Nat.reduceEqDiff]
      refine ⟨a.kids.length - (i + 1), by omega, i + 1, rfl, hH4, by omega, ?_, rfl⟩
      rw [hta, htb, List.map_append, List.map_append, hpre]
      simp [he]
  · simp only [decide_eq_false_iff_not] at h
    obtain rfl : i = a.kids.length := by omega
    refine VC_exit rfl ?_
    refine VR [4] rfl rfl fun K hK => ?_; simp only [go_sem,↓reduceIte,Nat.reduceEqDiff]
    ((repeat refine And.intro (by omega) ?_); refine hK _ _ ?_; clear hK)
    refine VC_ret (VX_ret1 rfl rfl ⟨hH.sub (List.nil_sublist _), true, rfl, ?_⟩)
    rw [List.take_length, g4, List.take_length] at hpre
    simp only [true_iff]
    rw [pt_eq, pt_eq b, g1, g2, g3, hpre]
def OutB (l : List En) (t : NT) (er : Int) : Prop :=
  BadP l ∧ t = nilN ∧ er = 140 ∨ ¬ BadP l ∧ Clash l ∧ t = nilN ∧ er = 280 ∨
  ¬ BadP l ∧ ¬ Clash l ∧ er = 0 ∧ t.name = [] ∧ t.dir = true ∧ t.data = [] ∧ goodL (t.kids.map NT.pt) ∧ (flatL (t.kids.map NT.pt)).Perm (l.map toP)
theorem nilN_lies (F : List Nat) (w : World) : LiesIn F w nilN := by
  rw [LiesIn_iff]
  exact ⟨⟨by simp [nilN, NT.name], by simp [nilN, NT.data], by simp [nilN, NT.kids]⟩, ⟨rfl, fun _ => rfl, fun ad ha => (by cases ha)⟩, fun p hp => (by cases hp), Nat.zero_le _, fun j hj => (by cases hj)⟩
theorem out_of {w w' : World} {l : List En} {v : Value} (h : BuildIs w l v w') : ∃ (t : NT) (er : Int) (F : List Nat), v = .tuple #[nodeA t, .int .i64 er] ∧ Heap w [] w' [Res.trees F [t]] ∧ OutB l t er := by
  have hnil : ∀ {w' : World}, Heap w [] w' [] → Heap w [] w' [Res.trees [] [nilN]] := fun h => Heap.free h rfl (fun k hk => by simp at hk; rw [hk]; exact nilN_lies _ _)
  rcases h with ⟨h1, rfl, h3⟩ | ⟨h1, h2, rfl, h3⟩ | ⟨h1, h2, t, F, rfl, h3, h4⟩
  · exact ⟨nilN, 140, [], rfl, hnil h3, .inl ⟨h1, rfl, rfl⟩⟩
  · exact ⟨nilN, 280, [], rfl, hnil h3, .inr (.inl ⟨h1, h2, rfl, rfl⟩)⟩
  · exact ⟨t, 0, F, rfl, h3, .inr (.inr ⟨h1, h2, rfl, h4⟩)⟩
theorem out_same {l : List En} {t t' : NT} {e e' : Int} (h : OutB l t e) (h' : OutB l t' e') : e = e' ∧ t.pt = t'.pt := by
  rcases h with ⟨h1, rfl, rfl⟩ | ⟨h1, h2, rfl, rfl⟩ | ⟨h1, h2, rfl, a1, a2, a3, a4, a5⟩ <;> rcases h' with ⟨k1, rfl, rfl⟩ | ⟨k1, k2, rfl, rfl⟩ | ⟨k1, k2, rfl, b1, b2, b3, b4, b5⟩
  · exact ⟨rfl, rfl⟩
  · exact absurd h1 k1
  · exact absurd h1 k1
  · exact absurd k1 h1
  · exact ⟨rfl, rfl⟩
  · exact absurd h2 k2
  · exact absurd k1 h1
  · exact absurd k2 h2
  · refine ⟨rfl, ?_⟩
    have hf := perm_flat_ord (a5.trans b5.symm) (flatL_ord a4) (flatL_ord b4)
    rw [pt_eq t, pt_eq t', a1, a2, a3, b1, b2, b3, flatL_inj a4 b4 hf]
def EnsOk (l : List En) : Prop := ∀ x ∈ l, x.1.length ≤ 140737488355328 ∧ x.2.length ≤ 140737488355328
theorem treeBuilds_law (l : List En) (a : Option Addr) (c : Nat) (w : World) (hl : RS w a l.length 2 (ensV l)) (hok : EnsOk l) : Does Tryd.prog 4 #[.slice a l.length c] w fun v w' => Heap w [] w' [] ∧ v = .bool true := by
  refine Does_enter (args := [.slice a l.length c]) 56 Tryd.func4 rfl rfl (of_decide_eq_true rfl) ?_
  simp only [Env.ofArgs]
  refine VR [0] rfl rfl fun K hK => ?_; simp only [go_sem,↓reduceIte,Nat.reduceEqDiff]
  ((repeat refine And.intro (by omega) ?_); refine hK _ _ ?_; clear hK)
  refine VR [0, 11] rfl rfl fun K hK => ?_; simp only [go_sem,↓reduceIte,Nat.reduceEqDiff]
  ((repeat refine And.intro (by omega) ?_); refine hK _ _ ?_; clear hK)
  refine VC_cond rfl rfl (fun h => ?_) (fun h => VC_skip ?_)
  · refine VR [2] rfl rfl fun K hK => ?_; simp only [go_sem,↓reduceIte,Nat.reduceEqDiff]
    refine MemK_callD Tryd.call7 (awake28_does w) (by simp only [go_sem,↓reduceIte,Nat.reduceEqDiff] <;> rfl) ?_
    rintro v w3 ⟨hHc, rfl⟩
    (try simp only [go_sem,↓reduceIte,Nat.reduceEqDiff])
    (refine hK _ _ ?_; clear hK)
    exact VC_ret (VX_ret1 rfl rfl ⟨hHc, rfl⟩)
  have hlen : l.length ≤ 100 := by simp at h; omega
  clear h
  refine VR [0, 3] rfl rfl fun K hK => ?_; simp only [go_sem,↓reduceIte,Nat.reduceEqDiff]
  ((repeat refine And.intro (by omega) ?_); refine hK _ _ ?_; clear hK)
  (repeat refine VC_seq ?_)
  refine VC_block ?_
  refine VC_loopS [0, 3] (fun m e w' => ∃ (i : Nat), Is e [(0, .slice a l.length c), (3, .int .i64 i)] ∧ Is w' w ∧ i ≤ l.length ∧ (∀ x ∈ l.take i, x.1.length ≤ 300) ∧ m = l.length - i) l.length ?_ ?_
  · simp only [go_sem,↓reduceIte,Nat.reduceEqDiff]
    exact ⟨0, rfl, rfl, by omega, by simp, rfl⟩
  rintro m e w' ⟨i, rfl, rfl, hi, hpre, rfl⟩
  refine VR [0, 3, 16] rfl rfl fun K hK => ?_; simp only [go_sem,↓reduceIte,Nat.reduceEqDiff]
  ((repeat refine And.intro (by omega) ?_); refine hK _ _ ?_; clear hK)
  refine VC_cond rfl rfl (fun h => ?_) (fun h => ?_)
  · simp only [decide_eq_true_eq] at h
    have hi2 : i < l.length := by omega
    refine VC_skip ?_
    ((repeat refine VC_seq ?_); refine VC_block ?_)
    obtain ⟨x, hx⟩ : ∃ x, l[i]? = some x := ⟨_, List.getElem?_eq_getElem hi2⟩
    have hx1 := (hok x (List.mem_of_getElem? hx)).1
    obtain ⟨p, rfl⟩ : ∃ p, a = some p := by
      cases ha : a with
      | none => have := hl.2.1 ha; omega
      | some p => exact ⟨p, rfl⟩
    have c1 := en_cells (ens_get hl hx)
    refine VR [0, 3, 25] rfl rfl fun K hK => ?_; simp only [go_sem,↓reduceIte,Nat.reduceEqDiff]
    refine And.intro (And.intro (by omega) (by omega)) ⟨_, c1, ?_⟩
    (try simp only [go_sem,↓reduceIte,Nat.reduceEqDiff])
    (refine hK _ _ ?_; clear hK)
    refine VC_cond rfl rfl (fun h => ?_) (fun h => VC_skip ?_)
    · refine VR [2] rfl rfl fun K hK => ?_; simp only [go_sem,↓reduceIte,Nat.reduceEqDiff]
      refine MemK_callD Tryd.call7 (awake28_does w') (by simp only [go_sem,↓reduceIte,Nat.reduceEqDiff] <;> rfl) ?_
      rintro v w3 ⟨hHc, rfl⟩
      (try simp only [go_sem,↓reduceIte,Nat.reduceEqDiff])
      (refine hK _ _ ?_; clear hK)
      exact VC_ret (VX_ret1 rfl rfl ⟨hHc, rfl⟩)
    refine VC_blk ?_
    refine VR [0, 3] rfl rfl fun K hK => ?_; simp only [go_sem,↓reduceIte,Nat.reduceEqDiff]
    ((repeat refine And.intro (by omega) ?_); refine hK _ _ ?_; clear hK)
    refine VC_again ?_
    simp only [go_sem,↓reduceIte,Nat.reduceEqDiff]
    refine ⟨l.length - (i + 1), by omega, i + 1, rfl, rfl, by omega, ?_, rfl⟩
    rw [take_snoc hx]
    intro y hy
    rcases List.mem_append.1 hy with hy | hy
    · exact hpre y hy
    · simp at hy; rw [hy]; simp at h; omega
  simp only [decide_eq_false_iff_not] at h
  obtain rfl : i = l.length := by omega
  rw [List.take_length] at hpre
  have hes : ∀ x ∈ l, EnS x := fun x hx => ⟨by have := hpre x hx; omega, (hok x hx).2⟩
  refine VC_exit rfl ?_
  refine VR [0, 4] rfl rfl fun K hK => ?_; simp only [go_sem,↓reduceIte,Nat.reduceEqDiff]
  refine MemK_lit0 (Heap.start w') 2 Tryd.underlying27 sz38 (z := .agg #[.string ⟨#[]⟩, .string ⟨#[]⟩]) (by kernel_rfl) rfl fun g w1 hH => ?_
  (try simp only [go_sem,↓reduceIte,Nat.reduceEqDiff])
  refine MemK_append ?_
  simp only [go_sem,↓reduceIte,Nat.reduceEqDiff]
  refine AppK_row (zs := #[.string ⟨#[]⟩, .string ⟨#[]⟩]) (bytes := 32) hH 0 rfl Tryd.underlying27 (by kernel_rfl) rfl (m := l.length) (news := ensV l) ⟨rfl, hH.rs' hl, 38, Tryd.underlying27⟩ (ensV_one l) (fun h => by omega) fun a4 c4 w2 hc' hH2 => ?_
  simp only [List.set_cons_zero, List.nil_append, Nat.zero_add] at hH2
  rw [Nat.zero_add]
  (try simp only [go_sem,↓reduceIte,Nat.reduceEqDiff])
  (refine hK _ _ ?_; clear hK)
  refine VR [0, 4, 5, 6] rfl rfl fun K hK => ?_; simp only [go_sem,↓reduceIte,Nat.reduceEqDiff]
  refine MemK_callD Tryd.call13 (build_does l a4 c4 w2 (row_rs (hH2.at 0 rfl)) (by omega) hes) (by simp only [go_sem,↓reduceIte,Nat.reduceEqDiff] <;> rfl) ?_
  rintro v w3 hB1
  obtain ⟨t1, e1, F1, rfl, hHb, o1⟩ := out_of hB1
  have hH3 : Heap w' [] w3 [Res.trees F1 [t1], Res.row 38 2 a4 l.length c4 (ensV l)] := hH2.call0 hHb
  clear hHb hH2 hH hB1
  (try simp only [go_sem,↓reduceIte,Nat.reduceEqDiff])
  refine MemK_alloc (.agg #[.string ⟨#[]⟩, .bool false, .string ⟨#[]⟩, .slice none 0 0]) (by kernel_rfl) ?_
  simp only [go_sem,↓reduceIte,Nat.reduceEqDiff]
  have hn : (nodeV nilN) = [.string ⟨#[]⟩, .bool false, .string ⟨#[]⟩, .slice none 0 0] := rfl
  have hH4 : Heap w' [] _ _ := hH3.box 24 (nodeV nilN)
  rw [hn] at hH4
  generalize w3.alloc (Obj.cells [Value.string ⟨#[]⟩, .bool false, .string ⟨#[]⟩, .slice none 0 0].toArray 24) = w4 at *
  generalize w3.heap.size = g5 at *
  rw [← hn] at hH4
  refine MemK_store ?_
  simp only [go_sem,↓reduceIte,Nat.reduceEqDiff]
  refine StoreK_blk hH4 0 (vs := nodeV t1) rfl rfl (by kernel_rfl) (by simp [nodeV]) (nodeV_one _) fun w5 hH5 => ?_
  have hH5 : Heap w' [] w5 [Res.blk g5 24 (nodeV t1), Res.trees F1 [t1], Res.row 38 2 a4 l.length c4 (ensV l)] := hH5
  clear hH3 hH4
  (try simp only [go_sem,↓reduceIte,Nat.reduceEqDiff])
  (refine hK _ _ ?_; clear hK)
  refine VR [0, 4, 5, 6, 7, 8] rfl rfl fun K hK => ?_; simp only [go_sem,↓reduceIte,Nat.reduceEqDiff]
  refine MemK_callD Tryd.call14 (rbuild_does l a c w5 (hH5.rs' hl) (by omega) hes) (by simp only [go_sem,↓reduceIte,Nat.reduceEqDiff] <;> rfl) ?_
  rintro v w6 hB2
  obtain ⟨t2, e2, F2, rfl, hHb, o2⟩ := out_of hB2
  have hH6 : Heap w' [] w6 [Res.trees F2 [t2], Res.blk g5 24 (nodeV t1), Res.trees F1 [t1], Res.row 38 2 a4 l.length c4 (ensV l)] := hH5.call0 hHb
  clear hHb hH5 hB2
  (try simp only [go_sem,↓reduceIte,Nat.reduceEqDiff])
  refine MemK_alloc (.agg #[.string ⟨#[]⟩, .bool false, .string ⟨#[]⟩, .slice none 0 0]) (by kernel_rfl) ?_
  simp only [go_sem,↓reduceIte,Nat.reduceEqDiff]
  have hH7 : Heap w' [] _ _ := hH6.box 24 (nodeV nilN)
  rw [hn] at hH7
  generalize w6.alloc (Obj.cells [Value.string ⟨#[]⟩, .bool false, .string ⟨#[]⟩, .slice none 0 0].toArray 24) = w7 at *
  generalize w6.heap.size = g7 at *
  rw [← hn] at hH7
  refine MemK_store ?_
  simp only [go_sem,↓reduceIte,Nat.reduceEqDiff]
  refine StoreK_blk hH7 0 (vs := nodeV t2) rfl rfl (by kernel_rfl) (by simp [nodeV]) (nodeV_one _) fun w8 hH8 => ?_
  have hH8 : Heap w' [] w8 [Res.blk g7 24 (nodeV t2), Res.trees F2 [t2], Res.blk g5 24 (nodeV t1), Res.trees F1 [t1], Res.row 38 2 a4 l.length c4 (ensV l)] := hH8
  clear hH6 hH7
  (try simp only [go_sem,↓reduceIte,Nat.reduceEqDiff])
  (refine hK _ _ ?_; clear hK)
  obtain ⟨ee, hpt⟩ := out_same o1 o2
  have hL1 : Lies w8 t1 := LiesIn.lies t1 (hH8.at 3 rfl t1 (by simp))
  have hL2 : Lies w8 t2 := LiesIn.lies t2 (hH8.at 1 rfl t2 (by simp))
  have hl8 := hH8.rs' hl
  have hr4 := row_rs (hH8.at 4 rfl)
  refine VR [2] rfl rfl fun K hK => ?_; simp only [go_sem,↓reduceIte,Nat.reduceEqDiff]
  refine ⟨nodeV t1, ⟨rfl, blk_reads (hH8.at 2 rfl)⟩, ?_⟩
  (try simp only [go_sem,↓reduceIte,Nat.reduceEqDiff])
  refine ⟨nodeV t2, ⟨rfl, blk_reads (hH8.at 0 rfl)⟩, ?_⟩
  (try simp only [go_sem,↓reduceIte,Nat.reduceEqDiff])
  refine MemK_callD Tryd.call15 (same28_does t1 t2 w8 hL1 hL2) (by simp only [go_sem,↓reduceIte,Nat.reduceEqDiff] <;> rfl) ?_
  rintro v w9 ⟨hHs, r, rfl, hr⟩
  obtain rfl : r = true := hr.2 hpt
  have hH9 := hH8.call0 hHs
  (try simp only [go_sem,↓reduceIte,Nat.reduceEqDiff])
  refine And.intro (fun _ => ?_) (fun h => absurd ee h)
  refine MemK_callD Tryd.call10 (same_does l a4 a c4 c w9 (row_rs (hH9.at 4 rfl)) (hH9.rs' hl) (by omega)) (by simp only [go_sem,↓reduceIte,Nat.reduceEqDiff] <;> rfl) ?_
  rintro v w10 ⟨rfl, rfl⟩
  (try simp only [go_sem,↓reduceIte,Nat.reduceEqDiff])
  refine MemK_callD Tryd.call7 (awake28_does w10) (by simp only [go_sem,↓reduceIte,Nat.reduceEqDiff] <;> rfl) ?_
  rintro v w11 ⟨hHz, rfl⟩
  (try simp only [go_sem,↓reduceIte,Nat.reduceEqDiff])
  (refine hK _ _ ?_; clear hK)
  exact VC_ret (VX_ret1 rfl rfl ⟨(hH9.sub (List.nil_sublist _)).call0 hHz, rfl⟩)
end Go.Proofs.YtklpiecolpnmlaaDoor
namespace Go.Proofs.YtklpiecolpnmlaaDoor
open Go Go.Eng
set_option maxRecDepth 100000
set_option linter.unusedSimpArgs false
set_option linter.unusedVariables false
mutual
def wN : PT → Prop
  | .mk _ d dt ks => (if d then dt = [] else ks = []) ∧ wL ks
def wL : List PT → Prop
  | [] => True
  | k :: ks => wN k ∧ (∀ j ∈ ks, k.name < j.name) ∧ wL ks
end
theorem wN_eq (t : PT) : wN t = ((if t.dir then t.data = [] else t.kids = []) ∧ wL t.kids) := by cases t; rw [wN]; rfl
mutual
def bareN : PT → Bool
  | .mk _ _ _ ks => bareL ks
def bareL : List PT → Bool
  | [] => false
  | k :: ks => (k.dir && k.kids.isEmpty) || bareN k || bareL ks
end
theorem bareN_eq (t : PT) : bareN t = bareL t.kids := by cases t; rw [bareN]; rfl
theorem good_of_w : ∀ t : PT, wN t → bareL t.kids = false → (t.dir = true → t.kids ≠ []) → goodN t := by
  have key : ∀ l : List PT, (∀ k ∈ l, wN k → bareL k.kids = false → (k.dir = true → k.kids ≠ []) → goodN k) → wL l → bareL l = false → goodL l := by
    intro l
    induction l with
    | nil => intro _ _ _; rw [goodL]; trivial
    | cons x l ihl =>
      intro ih hw hb
      rw [wL] at hw
      rw [bareL, Bool.or_eq_false_iff, Bool.or_eq_false_iff, bareN_eq] at hb
      rw [goodL]
      refine ⟨ih x (by simp) hw.1 hb.1.2 (fun hd hk => ?_), hw.2.1, ihl (fun k hk => ih k (List.mem_cons_of_mem _ hk)) hw.2.2 hb.2⟩
      have := hb.1.1
      rw [hd, hk] at this
      cases this
  refine PT.ind fun t ih hw hb hd => ?_
  rw [wN_eq] at hw
  rw [goodN_eq]
  split
  · rename_i h
    rw [if_pos h] at hw
    exact ⟨hw.1, hd h, key _ ih hw.2 hb⟩
  · rename_i h
    rw [if_neg h] at hw
    exact hw.1
theorem goodL_of_w {l : List PT} (hw : wL l) (hb : bareL l = false) : goodL l := by
  cases l with
  | nil => rw [goodL]; trivial
  | cons x l =>
    have := good_of_w (.mk [] true [] (x :: l)) (by rw [wN]; exact ⟨rfl, hw⟩) hb (fun _ => by simp [PT.kids])
    rw [goodN] at this
    exact this.2.2
theorem not_bare : ∀ t : PT, goodN t → bareL t.kids = false := by
  have key : ∀ l : List PT, (∀ k ∈ l, goodN k → bareL k.kids = false) → goodL l → bareL l = false := by
    intro l
    induction l with
    | nil => intro _ _; rw [bareL]
    | cons x l ihl =>
      intro ih hg
      rw [goodL] at hg
      rw [bareL, Bool.or_eq_false_iff, Bool.or_eq_false_iff, bareN_eq]
      refine ⟨⟨?_, ih x (by simp) hg.1⟩, ihl (fun k hk => ih k (List.mem_cons_of_mem _ hk)) hg.2.2⟩
      have h1 := hg.1
      rw [goodN_eq] at h1
      cases hd : x.dir with
      | false => rfl
      | true =>
        rw [if_pos hd] at h1
        cases hk : x.kids with
        | nil => exact absurd hk h1.2.1
        | cons y l => rfl
  refine PT.ind fun t ih hg => ?_
  rw [goodN_eq] at hg
  split at hg
  · exact key _ ih hg.2.2
  · rw [hg]; rw [bareL]
theorem goodL_bare {l : List PT} (h : goodL l) : bareL l = false := by
  cases l with
  | nil => rw [bareL]
  | cons x l => exact not_bare (.mk [] true [] (x :: l)) (by rw [goodN]; exact ⟨rfl, by simp, h⟩)
theorem w_ord : ∀ t : PT, wN t → Ord (flatN t) := by
  have key : ∀ l : List PT, (∀ k ∈ l, wN k → Ord (flatN k)) → wL l → Ord (flatL l) := by
    intro l
    induction l with
    | nil => intro _ _; simp [flatL, Ord]
    | cons x l ihl =>
      intro ih hg
      rw [wL] at hg
      unfold Ord at *
      rw [flatL, List.pairwise_append]
      refine ⟨ih x (by simp) hg.1, ihl (fun k hk => ih k (List.mem_cons_of_mem _ hk)) hg.2.2, ?_⟩
      intro e he f hf
      obtain ⟨r, hr⟩ := flatN_head x e he
      obtain ⟨j, hj, q, hq⟩ := flatL_head hf
      rw [hr, hq]
      exact apart_heads (hg.2.1 j hj)
  refine PT.ind fun t ih hg => ?_
  rw [flatN_eq]
  rw [wN_eq] at hg
  split
  · exact ord_map.2 (key _ ih hg.2)
  · simp [Ord]
theorem wL_ord {l : List PT} (hg : wL l) : Ord (flatL l) := by
  have h := w_ord (.mk [] true [] l) (by rw [wN]; exact ⟨rfl, hg⟩)
  rw [flatN] at h
  exact ord_map.1 h
theorem nil_less {s : List UInt8} (h : Op.bytesLess [] s = true) : s ≠ [] := by rintro rfl; simp [Op.bytesLess] at h
theorem right_w : ∀ (t : NT) (lv : Nat), rightS t lv = true → wN t.pt ∧ ∀ e ∈ flatL (t.kids.map NT.pt), ∀ x ∈ e.1, namedS x = true := by
  have key : ∀ (l : List NT), (∀ k ∈ l, ∀ lv, rightS k lv = true → wN k.pt ∧ ∀ e ∈ flatL (k.kids.map NT.pt), ∀ x ∈ e.1, namedS x = true) → ∀ lv last, rightL l lv last = true →
      wL (l.map NT.pt) ∧ (∀ j ∈ l, last < j.name) ∧ ∀ e ∈ flatL (l.map NT.pt), ∀ x ∈ e.1, namedS x = true := by
    intro l
    induction l with
    | nil => intro _ lv last _; exact ⟨by rw [List.map_nil, wL]; trivial, by simp, by simp [flatL]⟩
    | cons k l ihl =>
      intro ih lv last h
      simp only [rightL, Bool.and_eq_true] at h
      obtain ⟨⟨⟨h1, h2⟩, h3⟩, h4⟩ := h
      obtain ⟨a1, a2⟩ := ih k (by simp) _ h3
      obtain ⟨b1, b2, b3⟩ := ihl (fun j hj => ih j (List.mem_cons_of_mem _ hj)) _ _ h4
      rw [bytesLess_eq', decide_eq_true_eq] at h2
      refine ⟨?_, ?_, ?_⟩
      · rw [List.map_cons, wL]
        refine ⟨a1, fun j hj => ?_, b1⟩
        obtain ⟨j', hj', rfl⟩ := List.mem_map.1 hj
        rw [pt_name, pt_name]
        exact b2 j' hj'
      · intro j hj
        rcases List.mem_cons.1 hj with rfl | hj
        · exact h2
        · exact List.lt_trans h2 (b2 j hj)
      · intro e he x hx
        rw [List.map_cons, flatL, List.mem_append] at he
        rcases he with he | he
        · rw [pt_eq, flatN] at he
          split at he
          · obtain ⟨e', he', rfl⟩ := List.mem_map.1 he
            simp only [under1, List.mem_cons] at hx
            rcases hx with rfl | hx
            · exact h1
            · exact a2 e' he' x hx
          · simp at he
            rw [he] at hx
            simp at hx
            rw [hx]; exact h1
        · exact b3 e he x hx
  refine NT.ind fun t ih lv h => ?_
  rw [rightS_eq] at h
  simp only [Bool.and_eq_true, Bool.not_eq_true', Bool.and_eq_false_iff, decide_eq_false_iff_not, decide_eq_true_eq, Bool.not_eq_false'] at h
  obtain ⟨⟨⟨h1, h2⟩, h3⟩, h4⟩ := h
  obtain ⟨b1, _, b3⟩ := key t.kids ih lv [] h4
  refine ⟨?_, b3⟩
  rw [wN_eq, pt_kids]
  refine ⟨?_, b1⟩
  rw [pt_eq]
  simp only [PT.dir, PT.data, PT.kids]
  cases hd : t.dir with
  | true =>
    rw [hd] at h1
    simp at h1 ⊢
    exact h1
  | false =>
    rw [hd] at h2
    simp at h2 ⊢
    exact h2
theorem good_right : ∀ (t : NT) (lv : Nat), goodN t.pt → lv ≤ 60 → (∀ e ∈ flatL (t.kids.map NT.pt), (∀ x ∈ e.1, namedS x = true) ∧ lv + e.1.length ≤ 60) → rightS t lv = true := by
  have key : ∀ (l : List NT), (∀ k ∈ l, ∀ lv, goodN k.pt → lv ≤ 60 → (∀ e ∈ flatL (k.kids.map NT.pt), (∀ x ∈ e.1, namedS x = true) ∧ lv + e.1.length ≤ 60) → rightS k lv = true) → ∀ lv last, goodL (l.map NT.pt) → (∀ j ∈ l, last < j.name) →
      (∀ e ∈ flatL (l.map NT.pt), (∀ x ∈ e.1, namedS x = true) ∧ lv + e.1.length ≤ 60) → rightL l lv last = true := by
    intro l
    induction l with
    | nil => intro _ lv last _ _ _; rw [rightL]
    | cons k l ihl =>
      intro ih lv last hg hlast hall
      rw [List.map_cons, goodL] at hg
      rw [List.map_cons, flatL] at hall
      obtain ⟨e0, r0, he0⟩ := List.exists_cons_of_ne_nil (flatN_ne _ hg.1)
      have hh0 := hall e0 (by rw [he0]; simp)
      obtain ⟨q0, hq0⟩ := flatN_head k.pt e0 (by rw [he0]; simp)
      rw [pt_name] at hq0
      simp only [rightL, Bool.and_eq_true]
      refine ⟨⟨⟨hh0.1 k.name (by rw [hq0]; simp), by rw [bytesLess_eq', decide_eq_true_eq]; exact hlast k (by simp)⟩, ?_⟩, ?_⟩
      · refine ih k (by simp) _ hg.1 ?_ ?_
        · have := hh0.2
          rw [hq0, List.length_cons] at this
          omega
        · intro e he
          have hd : k.pt.dir = true := by
            cases hd : k.pt.dir with
            | true => rfl
            | false =>
              have h1 := hg.1
              rw [goodN_eq, hd, if_neg (by simp), pt_kids] at h1
              rw [h1] at he
              simp [flatL] at he
          have := hall (under1 k.name e) (List.mem_append_left _ (by rw [flatN_eq, if_pos hd, pt_kids, pt_name]; exact List.mem_map_of_mem he))
          simp only [under1, List.length_cons] at this
          exact ⟨fun x hx => this.1 x (List.mem_cons_of_mem _ hx), by omega⟩
      · refine ihl (fun j hj => ih j (List.mem_cons_of_mem _ hj)) lv k.name hg.2.2 (fun j hj => ?_) (fun e he => hall e (List.mem_append_right _ he))
        have := hg.2.1 j.pt (List.mem_map_of_mem hj)
        rw [pt_name, pt_name] at this
        exact this
  refine NT.ind fun t ih lv hg hlv hall => ?_
  rw [rightS_eq]
  rw [goodN_eq, pt_kids] at hg
  have hdd : t.pt.dir = t.dir := by rw [pt_eq]; rfl
  have hda : t.pt.data = t.data := by rw [pt_eq]; rfl
  rw [hdd, hda] at hg
  split at hg
  · rename_i hd
    have hr := key t.kids ih lv [] hg.2.2 (fun j hj => by
      obtain ⟨x, hx⟩ := List.exists_cons_of_ne_nil (flatN_ne _ (by
        have := hg.2.2
        exact (show ∀ l : List PT, goodL l → ∀ k ∈ l, goodN k from fun l => by
          induction l with
          | nil => intro _ k hk; cases hk
          | cons y l ih => intro h k hk; rw [goodL] at h; rcases List.mem_cons.1 hk with rfl | hk; exact h.1; exact ih h.2.2 k hk) _ this j.pt (List.mem_map_of_mem hj)))
      obtain ⟨r, hr⟩ := hx
      obtain ⟨q, hq⟩ := flatN_head j.pt x (by rw [hr]; simp)
      have hm : x ∈ flatL (t.kids.map NT.pt) := by
        have : ∀ l : List PT, j.pt ∈ l → ∀ e ∈ flatN j.pt, e ∈ flatL l := fun l => by
          induction l with
          | nil => intro h; cases h
          | cons y l ih =>
            intro h e he
            rw [flatL, List.mem_append]
            rcases List.mem_cons.1 h with h | h
            · left; rw [← h]; exact he
            · exact .inr (ih h e he)
        exact this _ (List.mem_map_of_mem hj) x (by rw [hr]; simp)
      have hnm := (hall x hm).1 j.name (by rw [hq, pt_name]; simp)
      have := named_ne hnm
      rw [bytesLess_eq', decide_eq_true_eq] at this
      exact this) hall
    rw [hd, hg.1, hr]
    simp [hlv]
  · rename_i hd
    have hk : t.kids = [] := by simpa using hg
    rw [hk]
    simp [hlv, rightL, hd]
def unP (ahead : List UInt8) (e : PE) : En := (ahead ++ joinS e.1, e.2)
theorem files_flat : ∀ (t : NT) (ahead : List UInt8), filesS t ahead = (flatL (t.kids.map NT.pt)).map (unP ahead) := by
  refine NT.ind fun t ih ahead => ?_
  rw [filesS_eq]
  have key : ∀ l : List NT, (∀ k ∈ l, ∀ ahead, filesS k ahead = (flatL (k.kids.map NT.pt)).map (unP ahead)) → filesL l ahead = (flatL (l.map NT.pt)).map (unP ahead) := by
    intro l
    induction l with
    | nil => intro _; simp [filesL, flatL]
    | cons k l ihl =>
      intro ih
      rw [filesL, List.map_cons, flatL, List.map_append, ihl fun j hj => ih j (List.mem_cons_of_mem _ hj)]
      congr 1
      rw [pt_eq, flatN]
      split
      · rw [ih k (by simp), List.map_map]
        apply List.map_congr_left
        intro e he
        have hne := flatL_ne he
        obtain ⟨p, ps, hp⟩ := List.exists_cons_of_ne_nil hne
        simp only [Function.comp, unP, under1, hp, joinS_cons]
        simp
      · simp [unP, joinS_one]
  exact key t.kids ih
end Go.Proofs.YtklpiecolpnmlaaDoor
namespace Go.Eng
open Go
set_option linter.unusedSimpArgs false
set_option linter.unusedVariables false
set_option maxRecDepth 100000
abbrev MEnt := List UInt8 × Value × Nat
def mE (x : MEnt) : MapEntry := ⟨Str x.1, x.2.1, x.2.2⟩
def mEs (L : List MEnt) : Array MapEntry := (L.map mE).toArray
structure MapOk (L : List MEnt) (cl : Nat) : Prop where
  keys : (L.map (·.1)).Nodup
  borns : (L.map (·.2.2)).Nodup
  lt : ∀ x ∈ L, x.2.2 < cl
def mapL (L : List MEnt) (cl : Nat) (k : List UInt8) (v : Value) : List MEnt := if k ∈ L.map (·.1) then L.map (fun e => if e.1 = k then (k, v, e.2.2) else e) else L ++ [(k, v, cl)]
def mapC (L : List MEnt) (cl : Nat) (k : List UInt8) : Nat := if k ∈ L.map (·.1) then cl else cl + 1
theorem mapOk_nil : MapOk [] 0 := ⟨by simp, by simp, by simp⟩
theorem map_borns (L : List MEnt) (k : List UInt8) (v : Value) : (L.map (fun e => if e.1 = k then (k, v, e.2.2) else e)).map (·.2.2) = L.map (·.2.2) := by
  rw [List.map_map]
  apply List.map_congr_left
  intro e _
  simp only [Function.comp]
  split <;> rfl
theorem map_keys (L : List MEnt) (k : List UInt8) (v : Value) : (L.map (fun e => if e.1 = k then (k, v, e.2.2) else e)).map (·.1) = L.map (·.1) := by
  rw [List.map_map]
  apply List.map_congr_left
  intro e _
  simp only [Function.comp]
  split
  · rename_i h; exact h.symm
  · rfl
theorem mapOk_set {L : List MEnt} {cl : Nat} (h : MapOk L cl) (k : List UInt8) (v : Value) : MapOk (mapL L cl k v) (mapC L cl k) := by
  unfold mapL mapC
  by_cases hk : k ∈ L.map (·.1)
  · rw [if_pos hk, if_pos hk]
    refine ⟨by rw [map_keys]; exact h.keys, by rw [map_borns]; exact h.borns, ?_⟩
    intro x hx
    obtain ⟨e, he, rfl⟩ := List.mem_map.1 hx
    have := h.lt e he
    split <;> exact this
  · rw [if_neg hk, if_neg hk]
    refine ⟨?_, ?_, ?_⟩
    · rw [List.map_append, List.nodup_append]
      refine ⟨h.keys, by simp, ?_⟩
      intro a ha b hb
      simp at hb
      subst hb
      rintro rfl
      exact hk ha
    · rw [List.map_append, List.nodup_append]
      refine ⟨h.borns, by simp, ?_⟩
      intro a ha b hb
      simp at hb
      subst hb
      obtain ⟨e, he, rfl⟩ := List.mem_map.1 ha
      have := h.lt e he
      omega
    · intro x hx
      rcases List.mem_append.1 hx with hx | hx
      · have := h.lt x hx; omega
      · simp at hx; subst hx; simp
theorem bytes_beq (k l : List UInt8) : ((⟨k.toArray⟩ : ByteArray) == ⟨l.toArray⟩) = decide (k = l) := by
  show (k.toArray == l.toArray) = _
  rw [Bool.eq_iff_iff, beq_iff_eq, decide_eq_true_eq]
  simp
def findI (k : List UInt8) : List MEnt → Nat → Option (Nat × Value)
  | [], _ => none
  | e :: L, i => if k = e.1 then some (i, e.2.1) else findI k L (i + 1)
theorem findNow_eq (k : List UInt8) : ∀ (L : List MEnt) (i : Nat), Instr.findNow .string (Str k) (L.map mE) i = some (findI k L i) := by
  intro L
  induction L with
  | nil => intro i; rfl
  | cons e L ih =>
    intro i
    have hs : Instr.sameNow .string (Str k) (mE e).key = some (decide (k = e.1)) := by
      show some ((⟨k.toArray⟩ : ByteArray) == ⟨e.1.toArray⟩) = _
      congr 1
      rw [bytes_beq]
    rw [List.map_cons, Instr.findNow, hs, findI]
    by_cases h : k = e.1
    · rw [if_pos h, decide_eq_true h]; rfl
    · rw [if_neg h, decide_eq_false h]; exact ih (i + 1)
theorem findI_none {k : List UInt8} : ∀ {L : List MEnt} {i : Nat}, k ∉ L.map (·.1) → findI k L i = none := by
  intro L
  induction L with
  | nil => intro i _; rfl
  | cons e L ih =>
    intro i h
    simp only [List.map_cons, List.mem_cons, not_or] at h
    rw [findI, if_neg h.1]
    exact ih h.2
theorem findI_some {k : List UInt8} : ∀ {L : List MEnt} {i : Nat}, k ∈ L.map (·.1) → ∃ (j : Nat) (e : MEnt), findI k L i = some (i + j, e.2.1) ∧ L[j]? = some e ∧ e.1 = k := by
  intro L
  induction L with
  | nil => intro i h; simp at h
  | cons e L ih =>
    intro i h
    by_cases hk : k = e.1
    · exact ⟨0, e, by rw [findI, if_pos hk]; rfl, rfl, hk.symm⟩
    · simp only [List.map_cons, List.mem_cons, hk, false_or] at h
      obtain ⟨j, e', h1, h2, h3⟩ := ih (i := i + 1) h
      exact ⟨j + 1, e', by rw [findI, if_neg hk, h1, Nat.add_assoc, Nat.add_comm 1 j], h2, h3⟩
theorem modify_eq {L : List MEnt} (hn : (L.map (·.1)).Nodup) {j : Nat} {e : MEnt} (hj : L[j]? = some e) (k : List UInt8) (v : Value) (hk : e.1 = k) :
    (mEs L).modify j (fun e => { e with key := Str k, val := v }) = mEs (L.map (fun e => if e.1 = k then (k, v, e.2.2) else e)) := by
  apply Array.ext_getElem?
  intro i
  rw [Array.getElem?_modify]
  simp only [mEs, List.getElem?_toArray, List.getElem?_map]
  by_cases h : j = i
  · subst h
    rw [if_pos rfl, hj]
    simp [mE, hk]
  · rw [if_neg h]
    cases hi : L[i]? with
    | none => rfl
    | some e' =>
      have hne : e'.1 ≠ k := by
        intro he
        apply h
        have h1 : (L.map (·.1))[j]? = some k := by rw [List.getElem?_map, hj]; simp [hk]
        have h2 : (L.map (·.1))[i]? = some k := by rw [List.getElem?_map, hi]; simp [he]
        obtain ⟨b1, c1⟩ := List.getElem?_eq_some_iff.1 h1
        obtain ⟨b2, c2⟩ := List.getElem?_eq_some_iff.1 h2
        exact (List.getElem_inj hn).1 (c1.trans c2.symm)
      simp [hne]
section
variable {P : Program} {N : Nat} {d : Option Tmp} {ty : Nat} {pos : String} {af : Array Edge} {gd : Option (Nat × Bool)} {e : Env} {w : World} {R : Env → World → (Env → World → Prop) → Prop} {K : Env → World → Prop} {w0 : World} {B : List Nat} {G : List Res}
theorem MemK_makeMap {T : TypeId} (h : R (e.put d (.map (some w.heap.size))) (w.alloc (.map #[] 0)) K) : MemK P N ⟨d, .makeMap T none, ty, pos, af, gd⟩ e w R K :=
  Mem_of_run fun a n ha => ⟨_, _, n, rfl, h⟩
theorem run_getObj {W : World} {g : Nat} {o : Obj} (h : W.heap[g]? = some o) (hc : ∀ c T fz, o ≠ .cells c T fz) : (getObj g).run P W = .ok o W := by
  cases o <;> simp [getObj, Sem.run, h]
  exact absurd rfl (hc _ _ _)
theorem run_setObj {W : World} {g : Nat} {o : Obj} (h : W.heap[g]? = some o) (o' : Obj) (hm : (∃ es cl, o = .map es cl) ∨ ∃ m s n c, o = .mapIter m s n c) : (setObj g o').run P W = .ok () (W.putObj g o') := by
  rcases hm with ⟨es, cl, rfl⟩ | ⟨m, s, n, c, rfl⟩ <;> simp [setObj, Sem.run, h, World.putObj]
theorem run_mapUpdate {W : World} {T kt et : TypeId} (hT : P.underlying T = some (.map kt et)) (hk : P.underlying kt = some .string) {g : Nat} {L : List MEnt} {cl : Nat} (hg : W.heap[g]? = some (.map (mEs L) cl)) (hok : MapOk L cl) (k : List UInt8) (v : Value) :
    (Instr.mapUpdate T (.map (some g)) (Str k) v).run P W = .ok () (W.putObj g (.map (mEs (mapL L cl k v)) (mapC L cl k))) := by
  have hck : ∀ W : World, (Instr.checkKey false 10000 kt (Str k)).run P W = .ok () W := fun W => by
    unfold Instr.checkKey
    simp only [Sem.run_bind, run_underlying hk, Result.andThen_ok]
    rfl
  have hfk : ∀ W : World, (Instr.findKey kt (Str k) (mEs L).toList).run P W = .ok (findI k L 0) W := fun W => by
    unfold Instr.findKey
    simp only [Sem.run_bind, run_underlying hk, Result.andThen_ok]
    rw [show (mEs L).toList = L.map mE from rfl, findNow_eq]
    rfl
  simp only [Instr.mapUpdate, Sem.run_bind, run_underlying hT, Result.andThen_ok, run_getObj hg (by simp), hck, hfk]
  by_cases hm : k ∈ L.map (·.1)
  · obtain ⟨j, e, h1, h2, h3⟩ := findI_some (i := 0) hm
    have hks : ∀ W : World, (Instr.keyThatStays (Str e.1) (Str k)).run P W = .ok (Str k) W := fun W => by
      unfold Instr.keyThatStays
      have hs : Instr.sameBits 10000 (Str e.1) (Str k) = true := by
        rw [h3]
        show ((⟨k.toArray⟩ : ByteArray) == ⟨k.toArray⟩) = true
        rw [bytes_beq]; simp
      rw [hs]; rfl
    have hgk : (((mEs L)[0 + j]?).map (·.key)).getD (Str k) = Str e.1 := by
      rw [Nat.zero_add]
      simp only [mEs, List.getElem?_toArray, List.getElem?_map, h2]
      rfl
    rw [h1]
    simp only [hgk, Sem.run_bind, hks, Result.andThen_ok]
    rw [Nat.zero_add, modify_eq hok.keys h2 k v h3, run_setObj hg _ (.inl ⟨_, _, rfl⟩)]
    simp only [mapL, mapC, if_pos hm]
  · rw [findI_none hm]
    simp only []
    rw [run_setObj hg _ (.inl ⟨_, _, rfl⟩)]
    simp only [mapL, mapC, if_neg hm]
    congr 3
    simp [mEs, mE]
theorem heap_putAt (hH : Heap w0 B w G) (i : Nat) {g : Nat} {o : Obj} (hi : G[i]? = some (Res.obj g o)) (o' : Obj) : Heap w0 B (w.putObj g o') (G.set i (Res.obj g o')) := by
  have hlt : g < w.heap.size := (hH.foot _ (List.mem_of_getElem? hi) g (by simp [Res.obj])).2
  refine hH.set i hi ⟨rfl, rfl, rfl, by rw [putObj_size]; exact Nat.le_refl _, fun k _ hk => putObj_ne (by simpa [Res.obj] using hk)⟩ (putObj_at hlt) fun b hb => ?_
  simp [Res.obj] at hb
  subst hb
  exact ⟨.inl (by simp [Res.obj]), by rw [putObj_size]; exact hlt⟩
theorem MemK_mapUpdate (hH : Heap w0 B w G) (i : Nat) {T kt et : TypeId} {g cl : Nat} {L : List MEnt} {m k x : Operand} (hi : G[i]? = some (Res.obj g (.map (mEs L) cl))) (hok : MapOk L cl) (hT : P.underlying T = some (.map kt et)) (hk : P.underlying kt = some .string)
    (h : arg e m fun mv => arg e k fun kv => arg e x fun xv => mv = .map (some g) ∧ ∃ s, kv = Str s ∧ ∀ w', Heap w0 B w' (G.set i (Res.obj g (.map (mEs (mapL L cl s xv)) (mapC L cl s)))) → R (e.put d undef) w' K) : MemK P N ⟨d, .mapUpdate T m k x, ty, pos, af, gd⟩ e w R K :=
  Mem_of_skip fun a n ha => by
    obtain ⟨hm, s, hs, hR⟩ := arg_sound (K := fun xv => a.eval m = .map (some g) ∧ ∃ s, a.eval k = Str s ∧ ∀ w', Heap w0 B w' (G.set i (Res.obj g (.map (mEs (mapL L cl s xv)) (mapC L cl s)))) → R (e.put d undef) w' K) ha
      (arg_sound (K := fun kv => arg e x fun xv => a.eval m = .map (some g) ∧ ∃ s, kv = Str s ∧ ∀ w', Heap w0 B w' (G.set i (Res.obj g (.map (mEs (mapL L cl s xv)) (mapC L cl s)))) → R (e.put d undef) w' K) ha
        (arg_sound (K := fun mv => arg e k fun kv => arg e x fun xv => mv = .map (some g) ∧ ∃ s, kv = Str s ∧ ∀ w', Heap w0 B w' (G.set i (Res.obj g (.map (mEs (mapL L cl s xv)) (mapC L cl s)))) → R (e.put d undef) w' K) ha h))
    have hg : w.heap[g]? = some (.map (mEs L) cl) := hH.at i hi
    refine ⟨w.putObj g (.map (mEs (mapL L cl s (a.eval x))) (mapC L cl s)), n, ?_, hR _ (heap_putAt hH i hi _)⟩
    have hg' : (w.drewN n).heap[g]? = some (.map (mEs L) cl) := hg
    simp only [execOp, Sem.run_bind, hm, hs, run_mapUpdate hT hk hg' hok, Result.andThen_ok, Sem.run_pure]
    rfl
def mapGet (L : List MEnt) (k : List UInt8) : Option Value := (findI k L 0).map (·.2)
theorem MemK_lookup (hH : Heap w0 B w G) (i : Nat) {T kt et : TypeId} {g cl : Nat} {L : List MEnt} {m k : Operand} {c : Bool} {z : Value} (hi : G[i]? = some (Res.obj g (.map (mEs L) cl))) (hT : P.underlying T = some (.map kt et)) (hk : P.underlying kt = some .string) (hz : P.zeroOf et = some z)
    (h : arg e m fun mv => arg e k fun kv => mv = .map (some g) ∧ ∃ s, kv = Str s ∧ R (e.put d (if c then .tuple #[(mapGet L s).getD z, .bool (mapGet L s).isSome] else (mapGet L s).getD z)) w K) : MemK P N ⟨d, .lookup T m k c, ty, pos, af, gd⟩ e w R K :=
  Mem_of_run fun a n ha => by
    obtain ⟨hm, s, hs, hR⟩ := arg_sound (K := fun kv => a.eval m = .map (some g) ∧ ∃ s, kv = Str s ∧ R (e.put d (if c then .tuple #[(mapGet L s).getD z, .bool (mapGet L s).isSome] else (mapGet L s).getD z)) w K) ha
      (arg_sound (K := fun mv => arg e k fun kv => mv = .map (some g) ∧ ∃ s, kv = Str s ∧ R (e.put d (if c then .tuple #[(mapGet L s).getD z, .bool (mapGet L s).isSome] else (mapGet L s).getD z)) w K) ha h)
    have hg : (w.drewN n).heap[g]? = some (.map (mEs L) cl) := hH.at i hi
    refine ⟨_, w, n, ?_, hR⟩
    have hck : ∀ b (W : World), (Instr.checkKey b 10000 kt (Str s)).run P W = .ok () W := fun b W => by
      unfold Instr.checkKey
      simp only [Sem.run_bind, run_underlying hk, Result.andThen_ok]
      rfl
    have hfk : ∀ W : World, (Instr.findKey kt (Str s) (mEs L).toList).run P W = .ok (findI s L 0) W := fun W => by
      unfold Instr.findKey
      simp only [Sem.run_bind, run_underlying hk, Result.andThen_ok]
      rw [show (mEs L).toList = L.map mE from rfl, findNow_eq]
      rfl
    simp only [execOp, Sem.run_bind, hm, hs, Instr.lookup, run_underlying hT, Result.andThen_ok, run_getObj hg (by simp), Sem.run_pure, hck, hfk]
    unfold mapGet
    cases findI s L 0 with
    | none => simp only [Sem.run_bind, run_zeroOf hz, Result.andThen_ok, Sem.run_pure]; cases c <;> rfl
    | some p => obtain ⟨j, v⟩ := p; simp only [Sem.run_bind, Result.andThen_ok, Sem.run_pure]; cases c <;> rfl
theorem MemK_rangeMap (hH : Heap w0 B w G) (i : Nat) {T kt et : TypeId} {g cl : Nat} {L : List MEnt} {m : Operand} (hi : G[i]? = some (Res.obj g (.map (mEs L) cl))) (hT : P.underlying T = some (.map kt et))
    (h : arg e m fun mv => mv = .map (some g) ∧ R (e.put d (.pointer (some ⟨w.heap.size, 0, none⟩))) (w.alloc (.mapIter (some g) cl #[] cl)) K) : MemK P N ⟨d, .range T m, ty, pos, af, gd⟩ e w R K :=
  Mem_of_run fun a n ha => by
    obtain ⟨hm, hR⟩ := arg_sound (K := fun mv => mv = .map (some g) ∧ R (e.put d (.pointer (some ⟨w.heap.size, 0, none⟩))) (w.alloc (.mapIter (some g) cl #[] cl)) K) ha h
    have hg : (w.drewN n).heap[g]? = some (.map (mEs L) cl) := hH.at i hi
    refine ⟨_, w.alloc (.mapIter (some g) cl #[] cl), n, ?_, hR⟩
    simp only [execOp, Sem.run_bind, hm, Instr.range, run_underlying hT, Result.andThen_ok, run_getObj hg (by simp), Sem.run_pure]
    rfl
theorem MemK_nextMap (hH : Heap w0 B w G) (i j : Nat) {g r cl : Nat} {L : List MEnt} {D : List MEnt} {it : Operand} (hi : G[i]? = some (Res.obj g (.map (mEs L) cl))) (hj : G[j]? = some (Res.obj r (.mapIter (some g) cl (D.map (·.2.2)).toArray cl))) (hok : MapOk L cl)
    (h : arg e it fun iv => iv = .pointer (some ⟨r, 0, none⟩) ∧ ((∀ x ∈ L, x.2.2 ∈ D.map (·.2.2)) → R (e.put d (.tuple #[.bool false])) w K) ∧
      (∀ x ∈ L, x.2.2 ∉ D.map (·.2.2) → ∀ w', Heap w0 B w' (G.set j (Res.obj r (.mapIter (some g) cl ((D ++ [x]).map (·.2.2)).toArray cl))) → R (e.put d (.tuple #[.bool true, Str x.1, x.2.1])) w' K)) : MemK P N ⟨d, .next it false, ty, pos, af, gd⟩ e w R K :=
  Mem_of_run fun a n ha => by
    obtain ⟨hm, hR0, hR1⟩ := arg_sound (K := fun iv => iv = .pointer (some ⟨r, 0, none⟩) ∧ ((∀ x ∈ L, x.2.2 ∈ D.map (·.2.2)) → R (e.put d (.tuple #[.bool false])) w K) ∧
      (∀ x ∈ L, x.2.2 ∉ D.map (·.2.2) → ∀ w', Heap w0 B w' (G.set j (Res.obj r (.mapIter (some g) cl ((D ++ [x]).map (·.2.2)).toArray cl))) → R (e.put d (.tuple #[.bool true, Str x.1, x.2.1])) w' K)) ha h
    have hg : (w.drewN n).heap[g]? = some (.map (mEs L) cl) := hH.at i hi
    have hr : (w.drewN n).heap[r]? = some (.mapIter (some g) cl (D.map (·.2.2)).toArray cl) := hH.at j hj
    have hlo : ∀ x, x ∈ (leftOf (mEs L) (D.map (·.2.2)).toArray).toList ↔ ∃ y ∈ L, x = mE y ∧ y.2.2 ∉ D.map (·.2.2) := by
      intro x
      simp only [leftOf, mEs, Array.toList_filter, List.mem_filter, List.mem_map]
      constructor
      · rintro ⟨⟨y, hy, rfl⟩, h2⟩
        refine ⟨y, hy, rfl, ?_⟩
        simp [mE] at h2
        simpa using h2
      · rintro ⟨y, hy, rfl, h2⟩
        refine ⟨⟨y, hy, rfl⟩, ?_⟩
        simp [mE]
        simpa using h2
    rcases run_next_at (P := P) (w.drewN n) ty r g cl cl (D.map (·.2.2)).toArray (mEs L) cl hr hg (fun x hx => by
        obtain ⟨y, hy, rfl⟩ := List.mem_map.1 (show x ∈ L.map mE from hx)
        exact hok.lt y hy) (Nat.le_refl _) with ⟨h0, hrun⟩ | ⟨x, hx, w1, hw1, hrun⟩
    · refine ⟨_, w, n, by simp only [execOp, Sem.run_bind, hm, hrun, Result.andThen_ok, Sem.run_pure], hR0 fun x hx => ?_⟩
      apply Classical.byContradiction
      intro hn
      have := (hlo (mE x)).2 ⟨x, hx, rfl, hn⟩
      rw [Array.eq_empty_of_size_eq_zero h0] at this
      simp at this
    · obtain ⟨y, hy, rfl, hn⟩ := (hlo x).1 hx
      have e1 : ((D.map (·.2.2)).toArray.push (mE y).born) = ((D ++ [y]).map (·.2.2)).toArray := by simp [mE]
      rw [e1] at hrun
      obtain ⟨m1, hm1⟩ : ∃ m1, w1 = w.drewN m1 := by
        rcases hw1 with rfl | rfl
        · exact ⟨n, rfl⟩
        · exact ⟨n + 1, rfl⟩
      subst hm1
      exact ⟨_, w.putObj r (.mapIter (some g) cl ((D ++ [y]).map (·.2.2)).toArray cl), m1, by simp only [execOp, Sem.run_bind, hm, hrun, Result.andThen_ok, Sem.run_pure]; rfl, hR1 y hy hn _ (heap_putAt hH j hj _)⟩
theorem MemK_entry (hH : Heap w0 B w G) (i j : Nat) {g r cl : Nat} {L : List MEnt} {D : List MEnt} {x : MEnt} {it : Operand} (hi : G[i]? = some (Res.obj g (.map (mEs L) cl))) (hj : G[j]? = some (Res.obj r (.mapIter (some g) cl ((D ++ [x]).map (·.2.2)).toArray cl))) (hok : MapOk L cl) (hx : x ∈ L)
    (h : arg e it fun iv => iv = .pointer (some ⟨r, 0, none⟩) ∧ R (e.put d (.tuple #[Str x.1, x.2.1])) w K) : MemK P N ⟨d, .entry it, ty, pos, af, gd⟩ e w R K :=
  Mem_of_run fun a n ha => by
    obtain ⟨hm, hR⟩ := arg_sound (K := fun iv => iv = .pointer (some ⟨r, 0, none⟩) ∧ R (e.put d (.tuple #[Str x.1, x.2.1])) w K) ha h
    have hg : (w.drewN n).heap[g]? = some (.map (mEs L) cl) := hH.at i hi
    have hr : (w.drewN n).heap[r]? = some (.mapIter (some g) cl ((D.map (·.2.2)).toArray.push (mE x).born) cl) := by
      have := hH.at j hj
      have e1 : ((D.map (·.2.2)).toArray.push (mE x).born) = ((D ++ [x]).map (·.2.2)).toArray := by simp [mE]
      rw [e1]; exact this
    have hrun := run_entry_at (P := P) (w.drewN n) r g cl (D.map (·.2.2)).toArray (mEs L) cl (mE x) hr hg (List.mem_map_of_mem hx) (by
      have := hok.borns
      rw [show (mEs L).toList = L.map mE from rfl, List.map_map]
      exact this)
    exact ⟨_, w, n, by simp only [execOp, Sem.run_bind, hm, hrun, Result.andThen_ok, Sem.run_pure]; rfl, hR⟩
end
end Go.Eng
namespace Go.Proofs.YtklpiecolpnmlaaDoor
open Go Go.Eng
set_option maxRecDepth 100000
set_option maxHeartbeats 1000000
set_option linter.unusedSimpArgs false
set_option linter.unusedVariables false
theorem bareL_app (l m : List PT) : bareL (l ++ m) = (bareL l || bareL m) := by
  induction l with
  | nil => simp [bareL]
  | cons x l ih => rw [List.cons_append, bareL, bareL, ih]; simp only [Bool.or_assoc]
theorem bare_does : ∀ (t : NT) (w : World), Lies w t → Does Tryd.prog 18 #[nodeA t] w fun v w' => Heap w [] w' [] ∧ v = .bool (bareN t.pt) := by
  refine NT.ind fun t ih => ?_
  intro w hL
  rw [Lies_iff] at hL
  obtain ⟨hF, hRS, hKd⟩ := hL
  have hF3 := hF.2.2
  refine Does_enter (args := [nodeA t]) 35 Tryd.func18 rfl rfl (of_decide_eq_true rfl) ?_
  simp only [Env.ofArgs]
  refine VR [1] rfl rfl fun K hK => ?_; simp only [go_sem,↓reduceIte,Nat.reduceEqDiff]
  refine MemK_box ?_
  simp only [go_sem,↓reduceIte,Nat.reduceEqDiff]
  have hH := (Heap.start w).box 24 (nodeV t)
  generalize w.alloc (Obj.cells (nodeV t).toArray 24) = w1 at *
  generalize w.heap.size = g at *
  (refine hK _ _ ?_; clear hK)
  refine VR [1, 3] rfl rfl fun K hK => ?_; simp only [go_sem,↓reduceIte,Nat.reduceEqDiff]
  ((repeat refine And.intro (by omega) ?_); refine hK _ _ ?_; clear hK)
  refine VC_block ?_
  refine VC_loopS [1, 3] (fun m e w' => ∃ (i : Nat), Is e [(1, ptrV g), (3, .int .i64 i)] ∧ Heap w [] w' [Res.blk g 24 (nodeV t)] ∧ i ≤ t.kids.length ∧ bareL ((t.kids.take i).map NT.pt) = false ∧ m = t.kids.length - i) t.kids.length ?_ ?_
  · simp only [go_sem,↓reduceIte,Nat.reduceEqDiff]
    exact ⟨0, rfl, hH, by omega, by simp [bareL], rfl⟩
  clear hH
  rintro m e w2 ⟨i, rfl, hH, hi, hpre, rfl⟩
  have c3 : w2.cell? ⟨g, 3, none⟩ = some (.slice t.place t.kids.length t.cap) := blk_cell (hH.at 0 rfl) rfl
  refine VR [1, 3, 8] rfl rfl fun K hK => ?_; simp only [go_sem, ↓ex_hit c3,↓reduceIte,Nat.reduceEqDiff]
  ((repeat refine And.intro (by omega) ?_); refine hK _ _ ?_; clear hK)
  refine VC_cond rfl rfl (fun h => ?_) (fun h => ?_)
  · simp only [decide_eq_true_eq] at h
    have h1 : i < t.kids.length := by omega
    refine VC_skip ?_
    ((repeat refine VC_seq ?_); refine VC_block ?_)
    obtain ⟨x, hx⟩ : ∃ x, t.kids[i]? = some x := ⟨_, List.getElem?_eq_getElem h1⟩
    have hxm := List.mem_of_getElem? hx
    have hxL := hKd x hxm
    cases hpl : t.place with
    | none => have := hRS.2.1 hpl; omega
    | some p =>
    rw [hpl] at hRS c3
    have hrd := rs_node (hH.rs' hRS) hx
    have e1 : w2.cell? ((p.add (i * 4)).add 1) = some (.bool x.dir) := hrd 1 _ rfl
    have e3 : w2.cell? ((p.add (i * 4)).add 3) = some (.slice x.place x.kids.length x.cap) := hrd 3 _ rfl
    have ea : ∀ k, (p.add (i * 4)).add k = ⟨(p.add (i * 4)).block, (p.add (i * 4)).off + k, none⟩ := by
      intro k
      have h0 : (p.add (i * 4)).spot = none := by
        have := hrd 0 _ (show (nodeV x)[0]? = some (Str x.name) from rfl)
        rw [add_nought] at this
        exact cell_spot this
      generalize p.add (i * 4) = q at h0 ⊢
      obtain ⟨qb, qo, qs⟩ := q
      simp only at h0
      subst h0
      exact add_mk _ _ _
    rw [ea] at e1 e3
    have hnext : (t.kids.take (i + 1)).map NT.pt = (t.kids.take i).map NT.pt ++ [x.pt] := by rw [take_snoc hx]; simp
    have hfull : bareL (t.kids.map NT.pt) = (bareL ((t.kids.take i).map NT.pt) || (bareL [x.pt] || bareL ((t.kids.drop (i + 1)).map NT.pt))) := by
      rw [← bareL_app, ← bareL_app]
      congr 1
      conv => lhs; rw [← List.take_append_drop (i + 1) t.kids]
      rw [List.map_append, hnext]
      simp
    have hone : bareL [x.pt] = ((x.dir && decide (x.kids.length = 0)) || bareN x.pt) := by
      rw [bareL, bareL, Bool.or_false]
      congr 1
      rw [pt_eq]
      simp only [PT.dir, PT.kids]
      cases x.kids <;> simp
    refine VR [1, 3, 34] rfl rfl fun K hK => ?_; simp only [go_sem,↓reduceIte,Nat.reduceEqDiff]
    suffices out : ∀ (b : Bool) (w' : World), Heap w [] w' [Res.blk g 24 (nodeV t)] → b = bareL [x.pt] → K [(1, ptrV g), (3, .int .i64 i), (34, .bool b)] w' by
      have hkz : ((x.kids.length : Int) = 0) ↔ x.kids.length = 0 := by omega
      cases hd : x.dir with
      | false =>
        rw [hd] at e1 hone
        rw [Bool.false_and, Bool.false_or] at hone
        (try simp only [go_sem, ↓ex_hit c3, ↓ex_hit e1, ↓ex_hit e3,↓reduceIte,Nat.reduceEqDiff])
        refine And.intro (by omega) ?_
        refine And.intro (by omega) ⟨nodeV x, ⟨rfl, hrd⟩, ?_⟩
        (try simp only [go_sem,↓reduceIte,Nat.reduceEqDiff])
        refine MemK_callD Tryd.call18 (ih x hxm w2 (Lies.keep hH x hxL)) (by simp only [go_sem,↓reduceIte,Nat.reduceEqDiff] <;> rfl) ?_
        rintro v w3 ⟨hHc, rfl⟩
        (try simp only [go_sem,↓reduceIte,Nat.reduceEqDiff])
        exact out _ _ (hH.call0 hHc) hone.symm
      | true =>
        rw [hd] at e1 hone
        rw [Bool.true_and] at hone
        (try simp only [go_sem, ↓ex_hit c3, ↓ex_hit e1, ↓ex_hit e3,↓reduceIte,Nat.reduceEqDiff])
        refine And.intro (by omega) (And.intro (by omega) ?_)
        refine And.intro (fun h2 => And.intro (by omega) ⟨nodeV x, ⟨rfl, hrd⟩, ?_⟩) (fun h2 => out _ _ hH ?_)
        · (try simp only [go_sem,↓reduceIte,Nat.reduceEqDiff])
          refine MemK_callD Tryd.call18 (ih x hxm w2 (Lies.keep hH x hxL)) (by simp only [go_sem,↓reduceIte,Nat.reduceEqDiff] <;> rfl) ?_
          rintro v w3 ⟨hHc, rfl⟩
          (try simp only [go_sem,↓reduceIte,Nat.reduceEqDiff])
          refine out _ _ (hH.call0 hHc) ?_
          rw [hone, decide_eq_false (fun h => h2 (hkz.2 h)), Bool.false_or]
        · rw [hone, decide_eq_true (hkz.1 h2), Bool.true_or]
    intro b w3 hH3 hb
    (refine hK _ _ ?_; clear hK)
    refine VC_cond rfl rfl (fun h => ?_) (fun h => VC_skip ?_)
    · refine VR [2] rfl rfl fun K hK => ?_; simp only [go_sem,↓reduceIte,Nat.reduceEqDiff]
      ((repeat refine And.intro (by omega) ?_); refine hK _ _ ?_; clear hK)
      refine VC_ret (VX_ret1 rfl rfl ⟨hH3.sub (List.nil_sublist _), ?_⟩)
      rw [bareN_eq, pt_kids, hfull, ← hb, show b = true from h]
      simp
    refine VC_blk ?_
    refine VR [1, 3] rfl rfl fun K hK => ?_; simp only [go_sem,↓reduceIte,Nat.reduceEqDiff]
    ((repeat refine And.intro (by omega) ?_); refine hK _ _ ?_; clear hK)
    refine VC_again ?_
    simp only [go_sem,↓reduceIte,Nat.reduceEqDiff]
    refine ⟨t.kids.length - (i + 1), by omega, i + 1, rfl, hH3, by omega, ?_, rfl⟩
    rw [hnext, bareL_app, hpre, ← hb, show b = false from h]
    rfl
  · simp only [decide_eq_false_iff_not] at h
    obtain rfl : i = t.kids.length := by omega
    rw [List.take_length] at hpre
    refine VC_exit rfl ?_
    refine VR [2] rfl rfl fun K hK => ?_; simp only [go_sem,↓reduceIte,Nat.reduceEqDiff]
    ((repeat refine And.intro (by omega) ?_); refine hK _ _ ?_; clear hK)
    exact VC_ret (VX_ret1 rfl rfl ⟨hH.sub (List.nil_sublist _), by rw [bareN_eq, pt_kids, hpre]⟩)
theorem cmpLast_does (x y : En) (w : World) (hx : x.1.length ≤ 1000000000) (hy : y.1.length ≤ 1000000000) : Does Tryd.prog 36 #[enA x, enA y] w fun v w' => v = .int .i64 (cmpS x.1 y.1) ∧ Heap w [] w' [] ∧ w'.drawn = w.drawn := by
  refine Does_enter (args := [enA x, enA y]) 10 Tryd.func36 rfl rfl (of_decide_eq_true rfl) ?_
  simp only [Env.ofArgs]
  refine VR [2, 3] rfl rfl fun K hK => ?_; simp only [go_sem,↓reduceIte,Nat.reduceEqDiff]
  refine MemK_box ?_
  simp only [go_sem,↓reduceIte,Nat.reduceEqDiff]
  have hH := (Heap.start w).box 38 (enV x)
  have hD : (w.alloc (Obj.cells (enV x).toArray 38)).drawn = w.drawn := rfl
  generalize w.alloc (Obj.cells (enV x).toArray 38) = w1 at *
  generalize w.heap.size = ga at *
  refine MemK_box ?_
  simp only [go_sem,↓reduceIte,Nat.reduceEqDiff]
  have hH2 := hH.box 38 (enV y)
  have hD2 : (w1.alloc (Obj.cells (enV y).toArray 38)).drawn = w1.drawn := rfl
  generalize w1.alloc (Obj.cells (enV y).toArray 38) = w2 at *
  generalize w1.heap.size = gb at *
  clear hH
  (refine hK _ _ ?_; clear hK)
  have c1 : w2.cell? ⟨ga, 0, none⟩ = some (Str x.1) := blk_cell (hH2.at 1 rfl) rfl
  have c2 : w2.cell? ⟨gb, 0, none⟩ = some (Str y.1) := blk_cell (hH2.at 0 rfl) rfl
  refine VR [4] rfl rfl fun K hK => ?_; simp only [go_sem,↓reduceIte,Nat.reduceEqDiff]
  refine ⟨_, c1, _, c2, ?_⟩
  (try simp only [go_sem,↓reduceIte,Nat.reduceEqDiff])
  refine MemK_call Tryd.call17 ?_; simp only [go_sem,↓reduceIte,Nat.reduceEqDiff]; refine CallK.mk (pcmp_does x.1 y.1 w2 hx hy) ?_
  rintro v w3 ⟨hH3, rfl, hD3⟩
  have hH4 := hH2.call0 hH3
  (try simp only [go_sem,↓reduceIte,Nat.reduceEqDiff])
  (refine hK _ _ ?_; clear hK)
  exact VC_ret (VX_ret1 rfl rfl ⟨rfl, hH4.sub (List.nil_sublist _), by rw [hD3, hD2, hD]⟩)
theorem sortLast_none : Go.Ev.KnFact Tryd.prog 25 [.nils, .fn 36 [] []] (.tup []) :=
  Go.Ev.fact (Go.Ev.k0 (by kernel_rfl)) (.cons .nils (.cons (.fn .nil .nil) .nil)) (.tup .nil) (by kernel_rfl)
theorem sortLast_none_does (w : World) : Does Tryd.prog 25 #[.slice none 0 0, .func (.func 36) #[] #[]] w fun v w' => Heap w [] w' [] := fun n => by
  obtain ⟨_, h⟩ := sortLast_none Go.Ev.noM (w.drewN n) [.slice none 0 0, .func (.func 36) #[] #[]] (.cons .nils (.cons (.fn .nil .nil) .nil))
  refine h.mono fun e w' ⟨v, he, _, hu⟩ => ⟨v, w', 0, he, rfl, ⟨⟨hu.os, hu.tape, hu.output, hu.size, hu.block⟩, by simp, by simp, .nil⟩⟩
theorem sortRowF_does (fc : FuncId) (hfc : ∀ args w, (callFunc fc args).run Tryd.prog w = .ok (.enter fc args) w) (hcm : ∀ (x y : En) (w : World), x.1.length ≤ 1000000000 → y.1.length ≤ 1000000000 → Does Tryd.prog fc #[enA x, enA y] w fun v w' => v = .int .i64 (cmpS x.1 y.1) ∧ Heap w [] w' [] ∧ w'.drawn = w.drawn)
    (hn : ∀ w, Does Tryd.prog 25 #[.slice none 0 0, .func (.func fc) #[] #[]] w fun v w' => Heap w [] w' [])
    (l : List En) (hT : l.length ≤ 1000000000000) (hok : ∀ t ∈ l, t.1.length ≤ 1000000000) (a : Option Addr) (c : Nat) (w0 w : World) (B : List Nat) (G : List Res) (hL : Heap w0 B w (Res.row 38 2 a l.length c (ensV l) :: G)) :
    Does Tryd.prog 25 #[.slice a l.length c, .func (.func fc) #[] #[]] w fun v w' => ∃ T : List En, T.Perm l ∧ (T.Pairwise fun a b => ¬ splitS b.1 < splitS a.1) ∧ Heap w0 B w' (Res.row 38 2 a T.length c (ensV T) :: G) := by
  obtain ⟨_, _, _, h4⟩ := hL.at 0 rfl
  rcases h4 with ⟨rfl, h0, rfl⟩ | ⟨g, _, _, rfl, _⟩
  · have hnil : l = [] := List.eq_nil_of_length_eq_zero h0
    subst hnil
    refine Does.mono (hn w) fun v w' h => ?_
    exact ⟨[], .nil, .nil, hL.call0 h⟩
  · exact sortEnF_does fc hfc hcm l hT hok g c w0 w B G hL
theorem nodup_of_map {α β : Type} {f : α → β} {l : List α} (h : (l.map f).Nodup) : l.Nodup := by
  rw [List.Nodup, List.pairwise_map] at h
  exact h.imp fun hab e => hab (by rw [e])
def lastL : List En → Nat → List MEnt
  | [], _ => []
  | x :: l, i => (x.1, .int .i64 i, i) :: lastL l (i + 1)
theorem lastL_snoc (l : List En) (x : En) (i : Nat) : lastL (l ++ [x]) i = lastL l i ++ [(x.1, .int .i64 (i + l.length : Nat), i + l.length)] := by
  induction l generalizing i with
  | nil => rfl
  | cons y l ih =>
    rw [List.cons_append, lastL, lastL, ih, List.length_cons, Nat.add_assoc, Nat.add_comm 1]
    rfl
theorem lastL_keys (l : List En) (i : Nat) : (lastL l i).map (·.1) = l.map (·.1) := by
  induction l generalizing i with
  | nil => rfl
  | cons y l ih => rw [lastL, List.map_cons, List.map_cons, ih]
theorem lastL_borns (l : List En) (i : Nat) : (lastL l i).map (·.2.2) = (List.range l.length).map (i + ·) := by
  induction l generalizing i with
  | nil => rfl
  | cons y l ih =>
    rw [lastL, List.map_cons, ih, List.length_cons, List.range_succ_eq_map, List.map_cons, List.map_map]
    congr 1
    apply List.map_congr_left
    intro k _
    simp only [Function.comp]
    omega
theorem lastL_mem {l : List En} {i : Nat} {e : MEnt} (h : e ∈ lastL l i) : ∃ (j : Nat) (x : En), l[j]? = some x ∧ e = (x.1, .int .i64 (i + j : Nat), i + j) := by
  induction l generalizing i with
  | nil => cases h
  | cons y l ih =>
    rw [lastL] at h
    rcases List.mem_cons.1 h with rfl | h
    · exact ⟨0, y, rfl, rfl⟩
    · obtain ⟨j, x, h1, h2⟩ := ih h
      exact ⟨j + 1, x, by simpa using h1, by rw [h2, show i + 1 + j = i + (j + 1) by omega]⟩
theorem lastL_ok (l : List En) (h : (l.map (·.1)).Nodup) : MapOk (lastL l 0) l.length := by
  refine ⟨by rw [lastL_keys]; exact h, ?_, ?_⟩
  · rw [lastL_borns]
    have : (List.range l.length).map (0 + ·) = List.range l.length := by simp
    rw [this]
    exact List.nodup_range
  · intro x hx
    obtain ⟨j, y, h1, rfl⟩ := lastL_mem hx
    have := (List.getElem?_eq_some_iff.1 h1).1
    simp only
    omega
def entOf (l : List En) (e : MEnt) : En := (l[e.2.2]?).getD ([], [])
theorem lastL_ents (l : List En) : (lastL l 0).map (entOf l) = l := by
  apply List.ext_getElem?
  intro k
  have key : ∀ (m : List En) (i k : Nat), (lastL m i)[k]? = (m[k]?).map fun x => (x.1, Value.int .i64 (i + k : Nat), i + k) := by
    intro m
    induction m with
    | nil => intro i k; simp [lastL]
    | cons y m ih =>
      intro i k
      cases k with
      | zero => simp [lastL]
      | succ k => rw [lastL, List.getElem?_cons_succ, ih, List.getElem?_cons_succ, show i + 1 + k = i + (k + 1) by omega]
  rw [List.getElem?_map, key]
  cases h : l[k]? with
  | none => rfl
  | some x => simp [entOf, h]
theorem last_does (l : List En) (a : Option Addr) (c : Nat) (w : World) (hl : RS w a l.length 2 (ensV l)) (hlen : l.length ≤ 1000000) (hok : ∀ x ∈ l, EnS x) (hnd : (l.map (·.1)).Nodup) :
    Does Tryd.prog 19 #[.slice a l.length c] w fun v w' => ∃ (T : List En) (a' : Option Addr) (c' : Nat), T.Perm l ∧ (T.Pairwise fun a b => ¬ splitS b.1 < splitS a.1) ∧ v = .slice a' T.length c' ∧ Heap w [] w' [Res.row 38 2 a' T.length c' (ensV T)] := by
  refine Does_enter (args := [.slice a l.length c]) 38 Tryd.func19 rfl rfl (of_decide_eq_true rfl) ?_
  simp only [Env.ofArgs]
  refine VR [0] rfl rfl fun K hK => ?_; simp only [go_sem,↓reduceIte,Nat.reduceEqDiff]
  ((repeat refine And.intro (by omega) ?_); refine hK _ _ ?_; clear hK)
  refine VR [0, 3] rfl rfl fun K hK => ?_; simp only [go_sem,↓reduceIte,Nat.reduceEqDiff]
  refine MemK_makeMap ?_
  have hH := (Heap.start w).newObj (.map (mEs []) 0)
  rw [show mEs [] = #[] from rfl] at hH
  generalize w.alloc (Obj.map #[] 0) = w1 at *
  generalize w.heap.size = gm at *
  (try simp only [go_sem,↓reduceIte,Nat.reduceEqDiff])
  (refine hK _ _ ?_; clear hK)
  refine VR [0, 3, 10, 11, 12] rfl rfl fun K hK => ?_; simp only [go_sem,↓reduceIte,Nat.reduceEqDiff]
  ((repeat refine And.intro (by omega) ?_); refine hK _ _ ?_; clear hK)
  refine VC_block ?_
  refine VC_loopS [0, 3, 10, 11, 12] (fun m e w' => ∃ (i : Nat), Is e [(0, .slice a l.length c), (3, .map (some gm)), (10, .slice a l.length c), (11, .int .i64 l.length), (12, .int .i64 i)] ∧ Heap w [] w' [Res.obj gm (.map (mEs (lastL (l.take i) 0)) i)] ∧ i ≤ l.length ∧ m = l.length - i) l.length ?_ ?_
  · simp only [go_sem,↓reduceIte,Nat.reduceEqDiff]
    exact ⟨0, rfl, hH, by omega, rfl⟩
  clear hH w1
  rintro m e w2 ⟨i, rfl, hH, hi, rfl⟩
  refine VR [0, 3, 10, 11, 12, 13] rfl rfl fun K hK => ?_; simp only [go_sem,↓reduceIte,Nat.reduceEqDiff]
  ((repeat refine And.intro (by omega) ?_); refine hK _ _ ?_; clear hK)
  (repeat refine VC_seq ?_)
  refine VC_cond rfl rfl (fun h => ?_) (fun h => ?_)
  · simp only [decide_eq_true_eq] at h
    have hi2 : i < l.length := by omega
    refine VC_skip ?_
    ((repeat refine VC_seq ?_); refine VC_block ?_)
    obtain ⟨x, hx⟩ : ∃ x, l[i]? = some x := ⟨_, List.getElem?_eq_getElem hi2⟩
    obtain ⟨p, rfl⟩ : ∃ p, a = some p := by
      cases ha : a with
      | none => have := hl.2.1 ha; omega
      | some p => exact ⟨p, rfl⟩
    have hrd := ens_get (hH.rs' hl) hx
    refine VR [0, 3, 4, 5, 10, 11, 12] rfl rfl fun K hK => ?_; simp only [go_sem,↓reduceIte,Nat.reduceEqDiff]
    refine ⟨⟨by omega, by omega⟩, enV x, ⟨rfl, hrd⟩, ?_⟩
    (try simp only [go_sem,↓reduceIte,Nat.reduceEqDiff])
    refine MemK_alloc (.agg #[.string ⟨#[]⟩, .string ⟨#[]⟩]) (by kernel_rfl) ?_
    simp only [go_sem,↓reduceIte,Nat.reduceEqDiff]
    have hHb := hH.box 38 [.string ⟨#[]⟩, .string ⟨#[]⟩]
    generalize w2.alloc (Obj.cells [Value.string ⟨#[]⟩, .string ⟨#[]⟩].toArray 38) = w3 at *
    generalize w2.heap.size = gx at *
    refine MemK_store ?_
    simp only [go_sem,↓reduceIte,Nat.reduceEqDiff]
    refine StoreK_blk hHb 0 (vs := enV x) rfl rfl (by kernel_rfl) (by simp [enV]) (enV_one x) fun w4 hHc => ?_
    have hHc : Heap w [] w4 [Res.blk gx 38 (enV x), Res.obj gm (.map (mEs (lastL (l.take i) 0)) i)] := hHc
    clear hHb hH
    (try simp only [go_sem,↓reduceIte,Nat.reduceEqDiff])
    (refine hK _ _ ?_; clear hK)
    have c1 : w4.cell? ⟨gx, 0, none⟩ = some (Str x.1) := blk_cell (hHc.at 0 rfl) rfl
    have htl : (l.take i).length = i := by rw [List.length_take, Nat.min_eq_left hi]
    have hndi : ((l.take (i + 1)).map (·.1)).Nodup := hnd.sublist ((List.take_sublist _ _).map _)
    rw [take_snoc hx, List.map_append, List.nodup_append] at hndi
    have hok2 := lastL_ok (l.take i) hndi.1
    rw [htl] at hok2
    have hno : x.1 ∉ (lastL (l.take i) 0).map (·.1) := by
      rw [lastL_keys]
      exact fun hm => hndi.2.2 x.1 hm x.1 (by simp) rfl
    refine VR [0, 3, 10, 11, 12] rfl rfl fun K hK => ?_; simp only [go_sem,↓reduceIte,Nat.reduceEqDiff]
    refine ⟨_, c1, ?_⟩
    (try simp only [go_sem,↓reduceIte,Nat.reduceEqDiff])
    refine MemK_mapUpdate hHc 1 rfl hok2 Tryd.underlying64 Tryd.underlying9 ?_
    simp only [go_sem,↓reduceIte,Nat.reduceEqDiff]
    refine ⟨trivial, x.1, rfl, fun w5 hHd => ?_⟩
    have hHe : Heap w [] w5 [Res.obj gm (.map (mEs (lastL (l.take (i + 1)) 0)) (i + 1))] := by
      have := hHd.sub (.cons _ (.refl _))
      rw [take_snoc hx, lastL_snoc, htl, Nat.zero_add]
      simp only [mapL, mapC, if_neg hno] at this
      exact this
    clear hHd hHc
    (try simp only [go_sem,↓reduceIte,Nat.reduceEqDiff])
    (refine hK _ _ ?_; clear hK)
    refine VC_blk ?_
    refine VR [0, 3, 10, 11, 12] rfl rfl fun K hK => ?_; simp only [go_sem,↓reduceIte,Nat.reduceEqDiff]
    ((repeat refine And.intro (by omega) ?_); refine hK _ _ ?_; clear hK)
    refine VC_again ?_
    simp only [go_sem,↓reduceIte,Nat.reduceEqDiff]
    exact ⟨l.length - (i + 1), by omega, i + 1, rfl, hHe, by omega, rfl⟩
  simp only [decide_eq_false_iff_not] at h
  obtain rfl : i = l.length := by omega
  rw [List.take_length] at hH
  have hok2 := lastL_ok l hnd
  clear h hi
  refine VC_exit rfl ?_
  refine VR [0, 3, 6] rfl rfl fun K hK => ?_; simp only [go_sem,↓reduceIte,Nat.reduceEqDiff]
  ((repeat refine And.intro (by omega) ?_); refine hK _ _ ?_; clear hK)
  refine VR [0, 6, 23] rfl rfl fun K hK => ?_; simp only [go_sem,↓reduceIte,Nat.reduceEqDiff]
  refine MemK_rangeMap hH 0 rfl Tryd.underlying64 ?_
  simp only [go_sem,↓reduceIte,Nat.reduceEqDiff]
  refine And.intro trivial ?_
  have hH2 : Heap w [] _ _ := hH.newObj (.mapIter (some gm) l.length #[] l.length)
  generalize w2.alloc (Obj.mapIter (some gm) l.length #[] l.length) = w3 at *
  generalize w2.heap.size = gi at *
  clear hH
  (try simp only [go_sem,↓reduceIte,Nat.reduceEqDiff])
  (refine hK _ _ ?_; clear hK)
  (repeat refine VC_seq ?_)
  refine VC_block ?_
  refine VC_loopS [0, 6, 23] (fun m e w' => ∃ (D : List MEnt) (a6 : Option Addr) (c6 : Nat), Is e [(0, .slice a l.length c), (6, .slice a6 (D.map (entOf l)).length c6), (23, ptrV gi)] ∧ Heap w [] w' [Res.row 38 2 a6 (D.map (entOf l)).length c6 (ensV (D.map (entOf l))), Res.obj gi (.mapIter (some gm) l.length (D.map (·.2.2)).toArray l.length), Res.obj gm (.map (mEs (lastL l 0)) l.length)] ∧
      (∀ e ∈ D, e ∈ lastL l 0) ∧ (D.map (·.2.2)).Nodup ∧ m = l.length + 1 - D.length) (l.length + 1) ?_ ?_
  · simp only [go_sem,↓reduceIte,Nat.reduceEqDiff]
    exact ⟨[], none, 0, rfl, hH2.nilRow 38 2, by simp, by simp, rfl⟩
  clear hH2 w3
  rintro m e w3 ⟨D, a6, c6, rfl, hH, hsub, hnD, rfl⟩
  have hDl : D.length ≤ l.length := by
    have h1 : (D.map (·.2.2)) ⊆ ((lastL l 0).map (·.2.2)) := fun b hb => by
      obtain ⟨e, he, rfl⟩ := List.mem_map.1 hb
      exact List.mem_map_of_mem (hsub e he)
    have h2 := hnD.length_le_of_subset h1
    rw [lastL_borns] at h2
    simpa using h2
  refine VR [0, 6, 23, 25] rfl rfl fun K hK => ?_; simp only [go_sem,↓reduceIte,Nat.reduceEqDiff]
  refine MemK_nextMap hH 2 1 rfl rfl hok2 ?_
  simp only [go_sem,↓reduceIte,Nat.reduceEqDiff]
  refine ⟨trivial, fun hall => ?_, fun x hx hno w4 hH2 => ?_⟩
  · (try simp only [go_sem,↓reduceIte,Nat.reduceEqDiff])
    (refine hK _ _ ?_; clear hK)
    (repeat refine VC_seq ?_)
    refine VC_cond rfl rfl (fun h => by simp at h) (fun h => ?_)
    refine VC_exit rfl ?_
    have hDp : (D.map (entOf l)).Perm l := by
      have h1 : D.Nodup := nodup_of_map hnD
      have h2 : (lastL l 0).Nodup := nodup_of_map hok2.borns
      have h3 : D.Perm (lastL l 0) := (List.perm_ext_iff_of_nodup h1 h2).2 fun x => ⟨hsub x, fun hx => by
        obtain ⟨y, hy, he⟩ := List.mem_map.1 (hall x hx)
        obtain ⟨j, u, hu, rfl⟩ := lastL_mem hx
        obtain ⟨j2, u2, hu2, hy2⟩ := lastL_mem (hsub y hy)
        rw [hy2] at he
        have : j2 = j := by simp at he; omega
        subst this
        rw [hu] at hu2
        cases hu2
        rw [← hy2]; exact hy⟩
      have := h3.map (entOf l)
      rwa [lastL_ents] at this
    have hEl : (D.map (entOf l)).length ≤ 1000000000000 := by simp; omega
    have hEo : ∀ t ∈ D.map (entOf l), t.1.length ≤ 1000000000 := fun t ht => (hok t (hDp.mem_iff.1 ht)).1
    generalize D.map (entOf l) = E at *
    refine VR [6] rfl rfl fun K hK => ?_; simp only [go_sem,↓reduceIte,Nat.reduceEqDiff]
    refine MemK_callD Tryd.call25 (sortRowF_does 36 Tryd.call36 cmpLast_does sortLast_none_does E hEl hEo a6 c6 w w3 [] _ hH) (by simp only [go_sem,↓reduceIte,Nat.reduceEqDiff] <;> rfl) ?_
    rintro v w4 ⟨T, hTp, hTs, hH4⟩
    (try simp only [go_sem,↓reduceIte,Nat.reduceEqDiff])
    (refine hK _ _ ?_; clear hK)
    refine VR [2] rfl rfl fun K hK => ?_; simp only [go_sem,↓reduceIte,Nat.reduceEqDiff]
    ((repeat refine And.intro (by omega) ?_); refine hK _ _ ?_; clear hK)
    refine VC_ret (VX_ret1 rfl rfl ⟨T, a6, c6, hTp.trans hDp, hTs, ?_, hH4.sub (.cons_cons _ (List.nil_sublist _))⟩)
    rw [hTp.length_eq]
  · obtain ⟨j, u, hu, hxe⟩ := lastL_mem hx
    have hjl := (List.getElem?_eq_some_iff.1 hu).1
    rw [Nat.zero_add] at hxe
    (try simp only [go_sem,↓reduceIte,Nat.reduceEqDiff])
    (refine hK _ _ ?_; clear hK)
    (repeat refine VC_seq ?_)
    refine VC_cond rfl rfl (fun h => ?_) (fun h => by simp at h)
    refine VC_skip ?_
    ((repeat refine VC_seq ?_); refine VC_block ?_)
    simp only [List.set_cons_succ, List.set_cons_zero] at hH2
    refine VR [0, 6, 8, 23] rfl rfl fun K hK => ?_; simp only [go_sem,↓reduceIte,Nat.reduceEqDiff]
    refine MemK_entry hH2 2 1 rfl rfl hok2 hx ?_
    simp only [go_sem,↓reduceIte,Nat.reduceEqDiff]
    refine ⟨trivial, ?_⟩
    have hsubx : ∀ e ∈ D ++ [x], e ∈ lastL l 0 := fun e he => by
      rcases List.mem_append.1 he with h | h
      · exact hsub e h
      · simp at h; rw [h]; exact hx
    have hnDx : ((D ++ [x]).map (·.2.2)).Nodup := by
      rw [List.map_append, List.nodup_append]
      refine ⟨hnD, by simp, ?_⟩
      intro a ha b hb
      simp at hb
      subst hb
      rintro rfl
      exact hno ha
    have hent : entOf l x = u := by rw [hxe, entOf, hu]; rfl
    have hDl2 : (D ++ [x]).length ≤ l.length := by
      have h1 : ((D ++ [x]).map (·.2.2)) ⊆ ((lastL l 0).map (·.2.2)) := fun b hb => by
        obtain ⟨e, he, rfl⟩ := List.mem_map.1 hb
        exact List.mem_map_of_mem (hsubx e he)
      have h2 := hnDx.length_le_of_subset h1
      rw [lastL_borns] at h2
      simpa using h2
    have hx2 : x.2.1 = .int .i64 (j : Nat) := by rw [hxe]
    rw [hx2]
    (try simp only [go_sem,↓reduceIte,Nat.reduceEqDiff])
    (refine hK _ _ ?_; clear hK)
    obtain ⟨p, rfl⟩ : ∃ p, a = some p := by
      cases ha : a with
      | none => have := hl.2.1 ha; omega
      | some p => exact ⟨p, rfl⟩
    have hrd := ens_get (hH2.rs' hl) hu
    refine VR [0, 6, 23] rfl rfl fun K hK => ?_; simp only [go_sem,↓reduceIte,Nat.reduceEqDiff]
    refine ⟨⟨by omega, by omega⟩, enV u, ⟨rfl, hrd⟩, ?_⟩
    (try simp only [go_sem,↓reduceIte,Nat.reduceEqDiff])
    refine MemK_litK hH2 2 (enV u) (xs := [.tmp 32]) Tryd.underlying27 sz38 rfl rfl rfl (by omega) (by omega) ?_
    simp only [go_sem,↓reduceIte,Nat.reduceEqDiff]
    refine ⟨by simp [enV, Value.cells], by simp [enV, Value.cells], fun gl w5 hH3 => ?_⟩
    (try simp only [go_sem,↓reduceIte,Nat.reduceEqDiff])
    refine MemK_append ?_
    simp only [go_sem,↓reduceIte,Nat.reduceEqDiff]
    refine AppK_row (zs := #[.string ⟨#[]⟩, .string ⟨#[]⟩]) (bytes := 32) hH3 1 rfl Tryd.underlying27 (by kernel_rfl) rfl ⟨rfl, row_rs (hH3.at 0 rfl), 38, Tryd.underlying27⟩ (enV_one u) (fun h => by simp; omega) fun a' cap' w6 hc' hH4 => ?_
    simp only [List.set_cons_succ, List.set_cons_zero] at hH4
    (try simp only [go_sem,↓reduceIte,Nat.reduceEqDiff])
    (refine hK _ _ ?_; clear hK)
    have hmap : (D ++ [x]).map (entOf l) = D.map (entOf l) ++ [u] := by rw [List.map_append]; simp [hent]
    refine VC_blk ?_
    refine VC_again ?_
    simp only [go_sem,↓reduceIte,Nat.reduceEqDiff]
    refine ⟨l.length + 1 - (D ++ [x]).length, by simp at hDl2 ⊢; omega, D ++ [x], a', cap', ?_, ?_, hsubx, hnDx, rfl⟩
    · rw [hmap, show (D.map (entOf l) ++ [u]).length = (D.map (entOf l)).length + 1 by simp]
      rfl
    · rw [hmap, ensV_snoc, show (D.map (entOf l) ++ [u]).length = (D.map (entOf l)).length + 1 by simp]
      exact hH4.sub (.cons _ (.refl _))
end Go.Proofs.YtklpiecolpnmlaaDoor
