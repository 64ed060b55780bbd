/- The evaluator: code and calls (regions in the order of their text). -/
import Derived.Test.YtklpiecolpnmlaaDoorEv7
namespace Go.Ev
open Go Go.Eng
set_option linter.unusedVariables false
set_option linter.constructorNameAsVariable false
set_option linter.unusedSimpArgs false
section
variable {C : Cfg} {w0 w w' : World} {s : Mp} {h h' : Hp} {n : Rg} {N : Nat} {e : Env'} {a : Act} {L : Option Nat}

theorem FE.put {t : Nat} {av : AV} {v : Value} {e' : Env'} (F : FE N s e a) (ht : t < N) (hr : Rel s av v) (he : ∀ j, e'.get j = if j = t then some av else e.get j) (hd : e'.df = e.df) : FE N s e' (a.put (some t) v) := by
  refine ⟨by simp [Act.put, F.size], fun j x hj => ?_, by rw [hd]; exact F.df⟩
  rw [he] at hj
  simp only [Act.put]
  by_cases hjt : j = t
  · subst hjt
    rw [if_pos rfl] at hj; cases hj
    refine ⟨ht, ?_⟩
    simpa [F.size, ht] using hr
  · rw [if_neg hjt] at hj
    obtain ⟨h1, h2⟩ := F.at_ j x hj
    refine ⟨h1, ?_⟩
    rw [Array.getD_eq_getD_getElem?, Array.getElem?_setIfInBounds, if_neg (fun he => hjt he.symm), ← Array.getD_eq_getD_getElem?]
    exact h2
theorem putK_s {d : Option Tmp} {av : AV} {c : Env' → Bool} (hk : putK N e d av c = true) : ∃ e', c e' = true ∧ (∀ s a v, FE N s e a → Rel s av v → FE N s e' (a.put d v)) ∧ (∀ j, e'.get j = if some j = d then some av else e.get j) ∧ e'.df = e.df := by
  cases d with
  | none => exact ⟨e, hk, fun s a v F _ => F, fun j => by rw [if_neg (by simp)], rfl⟩
  | some t =>
    obtain ⟨h1, h2⟩ := brec_f (show (Bool.rec false (Env'.rec (motive := fun _ => Bool) (fun cr l tr df => c ⟨cr, (t, av) :: l, tr, df⟩) e) (Nat.blt t N) : Bool) = true from hk)
    obtain ⟨cr, l, tr, df⟩ := e
    have h4 : ∀ j, (Env'.mk cr ((t, av) :: l) tr df).get j = if j = t then some av else (Env'.mk cr l tr df).get j := fun j => by
      rw [Env'.get_mk, Env'.get_mk, findL_cons]
      by_cases hj : j = t
      · rw [if_pos hj.symm, if_pos hj]
      · rw [if_neg (Ne.symm hj), if_neg hj]
    exact ⟨_, h2, fun s a v F hr => F.put (Nat.blt_eq.mp h1) hr h4 rfl, fun j => by rw [h4]; simp, rfl⟩
theorem guardK_s {ops : List Oper} {o : Oper} {A B : Bool} (F : FE N s e a) (hk : guardK ops o.guard e A B = true) :
    (A = true ∧ Region.wanted o (yielded ops.toArray a.tmps) = true) ∨ (B = true ∧ Region.wanted o (yielded ops.toArray a.tmps) = false) := by
  unfold guardK guardT at hk
  cases hg : o.guard with
  | none => rw [hg] at hk; exact .inl ⟨hk, by simp [Region.wanted, hg]⟩
  | some p =>
    obtain ⟨j, want⟩ := p
    rw [hg] at hk
    simp only [getL_eq] at hk
    cases hoj : ops[j]? with
    | none =>
      rw [hoj] at hk
      have hy : yielded ops.toArray a.tmps j = none := by unfold yielded; simp [hoj]
      exact .inr ⟨hk, by simp [Region.wanted, hg, hy]⟩
    | some oj =>
      rw [hoj] at hk
      have hk : (Option.rec B (fun t => guardV e t want A B) oj.dst : Bool) = true := hk
      cases ht : oj.dst with
      | none =>
        rw [ht] at hk
        have hy : yielded ops.toArray a.tmps j = none := by unfold yielded; simp [hoj, ht]
        exact .inr ⟨hk, by simp [Region.wanted, hg, hy]⟩
      | some t =>
        rw [ht] at hk
        obtain ⟨v, hv, h1⟩ := orec_f (show guardV e t want A B = true from hk)
        obtain ⟨htN, hr⟩ := F.at_ t v hv
        have hd : ((ops.toArray[j]?).bind (·.dst)) = some t := by simp [hoj, ht]
        have hget : a.tmps[t]? = some (a.tmps.getD t undef) := by
          rw [Array.getD_eq_getD_getElem?, Array.getElem?_eq_getElem (by rw [F.size]; exact htN)]; rfl
        generalize a.tmps.getD t undef = vv at *
        split at h1
        · rename_i b
          cases hr
          have hy : yielded ops.toArray a.tmps j = some b := by
            unfold yielded; rw [hd]; simp [hget]
          cases b <;> cases want <;> simp_all [Region.wanted]
        · cases hr
          have hy : yielded ops.toArray a.tmps j = none := by
            unfold yielded; rw [hd]; simp [hget]
          exact .inr ⟨h1, by simp [Region.wanted, hg, hy]⟩
        · cases h1
theorem opK_nd {rec : CT} {op : Op} {c : KH} (hk : opK C rec op e h n c = true) : ∀ d, op ≠ .defer d := by
  intro d hd; subst hd; exact (Bool.false_ne_true hk).elim
theorem comes_in {P : Program} {o : Oper} {R : Value → World → Prop} {next : Act → World → Prop} {Q : Exit → Act → World → Prop} (hd : ∀ d, o.op ≠ .defer d) (hc : Comes1 P R ((execOp a.eval o).run P w)) (hn : ∀ v w', R v w' → next (a.put o.dst v) w') :
    o.wpIn (wideR L) 0 P a w next Q := by
  refine ⟨fun _ _ => trivial, ?_⟩
  rw [Oper.semAt_eq _ _ _ hd]
  rcases hc with ⟨v, w', hr, hR⟩ | ⟨w', hr, hR⟩ | ⟨f, args, w1, hr, hC⟩ | ⟨l, fn, tmps, asg, bd, w1, hr, hC⟩
  · rw [hr]; exact hn _ _ hR
  · rw [hr]; exact hn _ _ hR
  · rw [hr]
    exact ⟨by simp [wideR, Fence.wide], callsIn_wideR (hC.mono fun e' w' ⟨v, he, hR⟩ => by subst he; exact hn _ _ hR)⟩
  · rw [hr]
    exact ⟨by simp [wideR, Fence.wide], RoundIn.mono (F := wideR L) (show RoundIn (wideR L) (0 - 1) P l fn tmps asg bd w1 _ from hC) fun e' w' ⟨v, he, hR⟩ => by subst he; exact hn _ _ hR⟩

def exOf : Ex → Exit
  | .norm => .normal
  | .exit id => .exit id
  | .ret => .ret
/-- What the evaluator's word on code means. -/
def CodeOk (C : Cfg) (w0 : World) (L : Option Nat) (rec : CT) : Prop :=
  ∀ (N : Nat) (c : Code) (e : Env') (h : Hp) (n : Rg) (k : KX), rec N c e h n k = true → ∀ (s : Mp) (a : Act) (w : World) (Q : Exit → Act → World → Prop), FE N s e a → SH C.P w0 s h n w → (L ≠ none → e.df = none) →
    (∀ ex s' e' h' n' a' w', Ls n s n' s' → FE N s' e' a' → SH C.P w0 s' h' n' w' → (e.df = none → e'.df = none) → k ex e' h' n' = true → Q (exOf ex) a' w') → c.wpIn (wideR L) 0 C.P Q a w

theorem put_defers (a : Act) (d : Option Tmp) (v : Value) : (a.put d v).defers = a.defers := by cases d <;> rfl

theorem opsK_s {rec : CT} (hrec : CallOk C.P w0 (callK C.P rec)) (hyl : YieldOk C w0 rec) (hkn : KnOk C) {ops : List Oper} {Q : Exit → Act → World → Prop} : ∀ (l : List Oper) {e : Env'} {h : Hp} {n : Rg} {k : KX}, opsK C rec N ops l e h n k = true →
    ∀ {s : Mp} {a : Act} {w : World}, FE N s e a → SH C.P w0 s h n w → (∀ s' e' h' n' a' w', Ls n s n' s' → FE N s' e' a' → SH C.P w0 s' h' n' w' → e'.df = e.df → k .norm e' h' n' = true → Q .normal a' w') →
    wpListIn (wideR L) 0 C.P ops.toArray Q l a w := by
  intro l
  induction l with
  | nil =>
    intro e h n k hk s a w F H hq
    obtain ⟨e', h1, h2, h3⟩ := flushK_s (show flushK e (fun e => k .norm e h n) = true from hk)
    exact hq s e' h n a w (Ls.refl n s) ⟨F.size, fun t v ht => F.at_ t v (h2 t v ht), by rw [h3]; exact F.df⟩ H h3 h1
  | cons o l ih =>
    intro e h n k hk s a w F H hq
    have hk : stepK C rec N ops o e h n (fun e h n => opsK C rec N ops l e h n k) = true := hk
    unfold wpListIn
    rcases guardK_s F hk with ⟨h1, h2⟩ | ⟨h1, h2⟩
    · rw [if_pos h2]
      refine comes_in (opK_nd h1) (opK_s hrec hyl hkn H F h1) ?_
      rintro v w' ⟨s', av, h', n', g1, g2, g3, g4⟩
      obtain ⟨e', g5, g6, _, g7⟩ := putK_s g4
      exact ih g5 (g6 s' a v (F.mono g1.1) g2) g3 fun s2 e2 h2 n2 a2 w2 q1 q2 q3 q4 q5 => hq s2 e2 h2 n2 a2 w2 (g1.trans q1) q2 q3 (q4.trans g7) q5
    · rw [if_neg (by rw [h2]; simp)]
      refine ⟨fun _ _ => trivial, ?_⟩
      obtain ⟨e', g5, g6, _, g7⟩ := putK_s h1
      exact ih g5 (g6 s a undef F (.tup .nil)) H fun s2 e2 h2 n2 a2 w2 q1 q2 q3 q4 q5 => hq s2 e2 h2 n2 a2 w2 q1 q2 q3 (q4.trans g7) q5

theorem resK_s {fn : Func} : ∀ {l : List ResultVar} {f : List AV → Bool}, resK C.P l e h f = true → FE N s e a → SH C.P w0 s h n w →
    ∃ m vs, f m = true ∧ RelL s m vs ∧ (l.mapM (fun r : ResultVar => match r with | .tmp t => (pure (a.tmps.getD t undef) : Sem Value) | .cell x t => do loadVar t (← asAddr (a.tmps.getD x undef)))).run C.P w = .ok vs w := by
  intro l
  induction l with
  | nil => intro f hk F H; exact ⟨[], [], hk, .nil, by simp⟩
  | cons r l ih =>
    intro f hk F H
    cases r with
    | tmp t =>
      obtain ⟨av, h1, h2⟩ := orec_f (show (Option.rec false (fun v => resK C.P l e h fun l => f (v :: l)) (e.get t) : Bool) = true from hk)
      obtain ⟨m, vs, h3, h4, h5⟩ := ih h2 F H
      exact ⟨_, _, h3, .cons (F.at_ t av h1).2 h4, by simp only [List.mapM_cons, Sem.run_bind, Sem.run_pure, Result.andThen_ok, h5]⟩
    | cell t T =>
      obtain ⟨ap, h1, h2⟩ := orec_f (show (Option.rec false (fun p => loadK C.P T p h fun v => resK C.P l e h fun l => f (v :: l)) (e.get t) : Bool) = true from hk)
      have hr := (F.at_ t ap h1).2
      have h3 := loadK_s H hr h2
      obtain ⟨v, ⟨av, h4, h5⟩, h6⟩ := run_vLoad h3
      obtain ⟨m, vs, h7, h8, h9⟩ := ih h4 F H
      refine ⟨_, _, h7, .cons h5 h8, ?_⟩
      have h10 := h6 w (Ext.refl w)
      obtain ⟨ad, hpv⟩ : ∃ ad, a.tmps.getD t undef = .pointer (some ad) := by
        cases hpv : a.tmps.getD t undef with
        | pointer o =>
          cases o with
          | some ad => exact ⟨ad, rfl⟩
          | none => rw [hpv] at h3; exact absurd h3 (by simp [vLoad])
        | _ => rw [hpv] at h3; exact absurd h3 (by simp [vLoad])
      rw [hpv] at h10
      have h11 : (loadVar T ad).run C.P w = .ok v w := by simpa [Instr.loadAt, Instr.sureAddr] using h10
      simp only [List.mapM_cons, Sem.run_bind, hpv, asAddr, Sem.run_pure, Result.andThen_ok, h11] at h9 ⊢
      rw [h9]; rfl

theorem enters_s {P : Program} {f : FuncId} {fn : Func} {b : Code} (hf : P.funcs[f]? = some fn) (hb : fn.body = some b) (he : enters fn = true) (w : World) (vs : Array Value) : (callFunc f vs).run P w = .ok (.enter f vs) w := by
  have hn : ¬ fn.name = "runtime.NumGoroutine" := fun h => by rw [enters, h] at he; simp at he
  unfold callFunc
  simp [hf, hb, hn]

/-- One of a range's two objects changes. -/
theorem SH.obj {i d c r : Nat} {p : Lp} {x : Option Lp} {o : Obj} (H : SH C.P w0 s h n w) (hp : h.lp.get i = some p) (hs : s i = some (d, c)) (hr : r = d ∨ r = d + 1) (hh : ∀ j, h'.get j = h.get j) (hl : ∀ j, h'.lp.get j = if j = i then x else h.lp.get j)
    (hx : ∀ q, x = some q → LpOk w0 s i q (w.putObj r o)) : SH C.P w0 s h' n (w.putObj r o) := by
  obtain ⟨d1, c1, r1, h1, h2, h3, h4, h5⟩ := H.lps i p hp
  rw [hs] at h1; cases h1
  have hrw : w0.heap.size ≤ r := by omega
  have hu : Upd [r] w (w.putObj r o) := ⟨rfl, rfl, rfl, by simp, fun k hk hn => World.putObj_heap_other (by simpa using hn)⟩
  have hnc : ∀ cs T fz, w.heap[r]? ≠ some (.cells cs T fz) := fun cs T fz => by
    rcases hr with rfl | rfl
    · rw [h3]; simp
    · rw [h4]; simp
  have key : ∀ j q, h'.lp.get j = some q → (j = i ∧ x = some q) ∨ (j ≠ i ∧ h.lp.get j = some q) := fun j q hj => by
    rw [hl] at hj
    split at hj
    · rename_i hji; exact .inl ⟨hji, hj⟩
    · rename_i hji; exact .inr ⟨hji, hj⟩
  have key2 : ∀ j q, h'.lp.get j = some q → ∃ q', h.lp.get j = some q' := fun j q hj => by
    rcases key j q hj with ⟨rfl, _⟩ | ⟨_, hj⟩
    · exact ⟨_, hp⟩
    · exact ⟨_, hj⟩
  refine ⟨H.upd.trans hu (by intro y hy; simp at hy; subst hy; exact .inr hrw), fun j B hj => ?_, fun j1 j2 B D b1 c1 c2 g1 g2 => H.inj j1 j2 B D b1 c1 c2 (by rw [← hh]; exact g1) (by rw [← hh]; exact g2), H.fresh, fun j q hj => ?_, fun j1 j2 p1 p2 e c c' g1 g2 => ?_⟩
  · rw [hh] at hj
    obtain ⟨b, k, q1, q2, q3⟩ := H.blk j B hj
    refine ⟨b, k, q1, q2, q3.mono (Le.refl s) (World.putObj_heap_other fun he => ?_)⟩
    obtain ⟨vs, rest, fz, q4, _⟩ := q3
    rw [he] at q4
    exact hnc _ _ _ q4
  · rcases key j q hj with ⟨rfl, hq⟩ | ⟨hji, hj⟩
    · exact hx q hq
    · obtain ⟨e, k, r2, q1, q2, q3, q4, q5⟩ := H.lps j q hj
      have hne : e ≠ d := fun he => by subst he; exact hji (H.lin _ _ _ _ _ _ _ hj hp q1 hs)
      have n1 : e ≠ r := fun he => by
        rcases hr with rfl | rfl
        · exact hne he
        · subst he; rw [h4] at q3; cases q3
      have n2 : e + 1 ≠ r := fun he => by
        rcases hr with rfl | rfl
        · subst he; rw [h3] at q4; cases q4
        · omega
      exact ⟨e, k, r2, q1, q2, by rw [World.putObj_heap_other n1]; exact q3, by rw [World.putObj_heap_other n2]; exact q4, q5⟩
  · obtain ⟨p1', g1'⟩ := key2 _ _ g1
    obtain ⟨p2', g2'⟩ := key2 _ _ g2
    exact H.lin _ _ _ _ _ _ _ g1' g2'
/-- A range's state changes. -/
theorem SH.state {i d c : Nat} {q : Lp} {r r' : Loop} {st : LSt} {f : Hp → Bool} (H : SH C.P w0 s h n w) (hp : h.lp.get i = some q) (hs : s i = some (d, c)) (hl : w.heap[d + 1]? = some (.loop r)) (hno : q.st ≠ .over) (hr : r'.tmps = r.tmps ∧ r'.params = r.params ∧ r'.assign = r.assign ∧ r'.body = r.body ∧ r'.defers = r.defers) (hst : StOk st r')
    (hk : setSt h i q st f = true) : ∃ h', f h' = true ∧ SH C.P w0 s h' n (w.putObj (d + 1) (.loop r')) ∧ h'.lp.get i = some ⟨q.N, q.e, q.ps, q.as_, q.bd, st⟩ := by
  obtain ⟨N, e, ps, asg, bd, st0⟩ := q
  obtain ⟨h', h1, h2, h3⟩ := Hp.putL_spec (show Hp.putL h i (some ⟨N, e, ps, asg, bd, st⟩) f = true from hk)
  refine ⟨h', h1, SH.obj H hp hs (.inr rfl) h2 h3 fun q hq => ?_, by rw [h3, if_pos rfl]⟩
  cases hq
  obtain ⟨d1, c1, r1, g1, g2, g3, g4, g50⟩ := H.lps i _ hp
  obtain ⟨g5, g6, g7, g8, g9, g10, g11⟩ := g50 hno
  rw [hs] at g1; cases g1
  rw [hl] at g4; cases g4
  obtain ⟨e1, e2, e3, e4, e5⟩ := hr
  have hlt : d + 1 < w.heap.size := (Array.getElem?_eq_some_iff.1 hl).1
  exact ⟨d, c, r', hs, g2, by rw [World.putObj_heap_other (by omega)]; exact g3, World.putObj_heap_same hlt, fun _ => ⟨by rw [e1]; exact g5, by rw [e1]; exact g6, by rw [e2]; exact g7, by rw [e3]; exact g8, by rw [e4]; exact g9, by rw [e5]; exact g10, hst⟩⟩

theorem doneL_s {fn : Func} {T : Array Value} {R : Ending → World → Prop} {c : Hp → Bool} : ∀ {l : List Nat} {h : Hp} {D : List Deferred} {w : World}, doneL c l h = true → DFl s l D → SH C.P w0 s h n w →
    (∀ h' w', SH C.P w0 s h' n w' → c h' = true → LeavesInM Fence.wide 0 C.P fn T R [] .returning w') → LeavesInM Fence.wide 0 C.P fn T R D .returning w := by
  intro l
  induction l with
  | nil => intro h D w hk hd H hq; obtain rfl : D = [] := hd; exact hq h w H hk
  | cons i l ih =>
    intro h D w hk hd H hq
    obtain ⟨d, c', D', h1, rfl, h2⟩ := hd
    obtain ⟨p, hp, h3⟩ := orec_f (show (Option.rec (motive := fun _ => Bool) false (fun _ => Hp.putL h i none (doneL c l)) (h.lp.get i) : Bool) = true from hk)
    obtain ⟨h', h4, h5, h6⟩ := Hp.putL_spec h3
    obtain ⟨d1, c1, r1, g1, g2, g3, g4, g5⟩ := H.lps i p hp
    rw [h1] at g1; cases g1
    exact ⟨by simp, .inl ⟨d, w.putObj d (.deferred none), rfl, run_takeDeferred g3, ih h4 h2 (SH.obj H hp h1 (.inl rfl) h5 h6 fun q hq => by cases hq) hq⟩⟩

theorem findL_append (l m : List (Nat × AV)) (j : Nat) (d : Option AV) : findL (List.append l m) j d = findL l j (findL m j d) := by
  induction l with
  | nil => rfl
  | cons p l ih =>
    show findL (p :: List.append l m) j d = _
    rw [findL_cons, findL_cons, ih]
theorem allLt_s {N : Nat} : ∀ {l : List Nat}, allLt N l = true → ∀ t ∈ l, t < N := by
  intro l
  induction l with
  | nil => intro _ t ht; cases ht
  | cons a l ih =>
    intro h t ht
    obtain ⟨h1, h2⟩ := brec_f (show (Bool.rec false (allLt N l) (Nat.blt a N) : Bool) = true from h)
    rcases List.mem_cons.1 ht with rfl | ht
    · exact Nat.blt_eq.mp h1
    · exact ih h2 t ht
/-- Parameters put one by one. -/
theorem bind_s {N : Nat} {d0 : Nat → Option AV} : ∀ {ps : List Nat} {vs : List AV} {us : List Value} {T : Array Value} {l : List (Nat × AV)}, ps.length = vs.length → RelL s vs us → (∀ t ∈ ps, t < N) → T.size = N →
    (∀ t v, findL l t (d0 t) = some v → t < N ∧ Rel s v (T.getD t undef)) →
    ((ps.zip us).foldl (fun tmps (x : Tmp × Value) => tmps.setIfInBounds x.1 x.2) T).size = N ∧ ∀ t v, findL (List.append (ps.zip vs).reverse l) t (d0 t) = some v → t < N ∧ Rel s v (((ps.zip us).foldl (fun tmps (x : Tmp × Value) => tmps.setIfInBounds x.1 x.2) T).getD t undef) := by
  intro ps
  induction ps with
  | nil => intro vs us T l hl hr hp hT h; exact ⟨hT, h⟩
  | cons p ps ih =>
    intro vs us T l hl hr hp hT h
    cases vs with
    | nil => simp at hl
    | cons v vs =>
      obtain ⟨u, us', rfl, h1, h2⟩ := hr.cons_inv
      have hpN := hp p List.mem_cons_self
      have := ih (T := T.setIfInBounds p u) (l := (p, v) :: l) (by simpa using hl) h2 (fun t ht => hp t (List.mem_cons_of_mem _ ht)) (by simpa using hT) (fun t v' ht => by
        rw [findL_cons] at ht
        split at ht
        · rename_i hpt
          have hpt : p = t := hpt
          subst hpt
          cases ht
          refine ⟨hpN, ?_⟩
          rw [Array.getD_eq_getD_getElem?, Array.getElem?_setIfInBounds, if_pos rfl, if_pos (by rw [hT]; exact hpN)]
          exact h1
        · rename_i hpt
          have hpt : ¬ p = t := hpt
          obtain ⟨h3, h4⟩ := h t v' ht
          refine ⟨h3, ?_⟩
          rw [Array.getD_eq_getD_getElem?, Array.getElem?_setIfInBounds, if_neg hpt, ← Array.getD_eq_getD_getElem?]
          exact h4)
      have e1 : List.append ((p :: ps).zip (v :: vs)).reverse l = List.append (ps.zip vs).reverse ((p, v) :: l) := by
        show ((p :: ps).zip (v :: vs)).reverse ++ l = (ps.zip vs).reverse ++ ((p, v) :: l)
        simp
      rw [e1]
      exact this

/-- One round of a range over a function. -/
theorem yieldK_s {rec : CT} (hrec : ∀ L, CodeOk C w0 L rec) : YieldOk C w0 rec := by
  intro id args h n c hk s w vs d k H hid hrel
  obtain ⟨p, hp, h1⟩ := orec_f (show (Option.rec (motive := fun _ => Bool) false (fun p => Bool.rec false (Bool.rec false (bindE p.ps args p.e fun e => rec p.N p.as_ e h n fun ex e h n => match ex with
    | .norm => Option.rec (motive := fun _ => Bool) false (fun q => Bool.rec false (setSt h id q .busy fun h => rec p.N p.bd e h n fun ex e h n =>
      Option.rec (motive := fun _ => Bool) false (fun q => Bool.rec false (match ex with
        | .norm => setSt h id q .ready fun h => c (.bool true) h n
        | ex => setSt h id q (.done ex) fun h => c (.bool false) h n) (isBusy q.st)) (h.lp.get id)) (isReady q.st)) (h.lp.get id)
    | _ => false) (Nat.beq p.ps.length args.length && allLt p.N p.ps)) (isReady p.st)) (h.lp.get id) : Bool) = true from hk)
  obtain ⟨hrd, h2⟩ := brec_f h1
  obtain ⟨hln, h3⟩ := brec_f h2
  simp only [Bool.and_eq_true] at hln
  have hlen : p.ps.length = args.length := Nat.eq_of_beq_eq_true hln.1
  obtain ⟨d1, c1, r, g1, g2, g3, g4, g50⟩ := H.lps id p hp
  rw [hid] at g1; cases g1
  obtain ⟨g5, g6, g7, g8, g9, g10, g11⟩ := g50 (fun he => by rw [he] at hrd; cases hrd)
  have hvl := hrel.length
  have hps : r.params.size = vs.length := by rw [← hvl, ← hlen, ← g7]; simp
  refine ⟨_, _, _, _, run_yield g4 (by simpa using hps.symm), roundIn_of_wpIn trivial ?_⟩
  rcases hpe : p.e with ⟨cr, l, t, df⟩
  rw [hpe] at h3 g6
  have h3 : rec p.N p.as_ ⟨cr, List.append (p.ps.zip args).reverse l, t, none⟩ h n (fun ex e h n => match ex with
    | .norm => Option.rec (motive := fun _ => Bool) false (fun q => Bool.rec false (setSt h id q .busy fun h => rec p.N p.bd e h n fun ex e h n =>
      Option.rec (motive := fun _ => Bool) false (fun q => Bool.rec false (match ex with
        | .norm => setSt h id q .ready fun h => c (.bool true) h n
        | ex => setSt h id q (.done ex) fun h => c (.bool false) h n) (isBusy q.st)) (h.lp.get id)) (isReady q.st)) (h.lp.get id)
    | _ => false) = true := h3
  have hb := bind_s (s := s) (N := p.N) (d0 := fun j => if bit cr j then t.get j else none) (l := l) (T := r.tmps) hlen hrel (allLt_s hln.2) g5 (fun j v hj => g6 j v (by rw [Env'.get_mk]; exact hj))
  have hfold : (r.params.zip vs.toArray).foldl (fun tmps (t, a) => tmps.setIfInBounds t a) r.tmps = (p.ps.zip vs).foldl (fun tmps (x : Tmp × Value) => tmps.setIfInBounds x.1 x.2) r.tmps := by
    rw [← Array.foldl_toList, ← g7]
    simp
  rw [hfold, g8, g9]
  refine wpIn_mono (F := Fence.wide.inRound (d + 1)) (hrec (some (d + 1)) _ _ _ _ _ _ h3 s { tmps := (p.ps.zip vs).foldl (fun tmps (x : Tmp × Value) => tmps.setIfInBounds x.1 x.2) r.tmps, defers := [] } w
    (fun ex a w' => ex = .normal ∧ ∃ w₂, (Instr.beginRound (d + 1)).run C.P w' = .ok () w₂ ∧ p.bd.wpIn (Fence.wide.inRound (d + 1)) 0 C.P (roundPost C.P (d + 1) fun e w' => ∃ v, e = .returned v ∧ W C w0 n s c v w') a w₂)
    ⟨hb.1, fun j v hj => hb.2 j v (by rw [Env'.get_mk] at hj; exact hj), trivial⟩ H (fun _ => rfl) ?_) fun ex a w' hq => ?_
  · intro ex s1 e1 h1 n1 a1 w1 q1 q2 q3 q4 q5
    cases ex with
    | exit i => cases q5
    | ret => cases q5
    | norm =>
      refine ⟨rfl, ?_⟩
      obtain ⟨q, hq, q6⟩ := orec_f q5
      obtain ⟨hqr, q7⟩ := brec_f q6
      have hid1 := q1.1 _ _ hid
      obtain ⟨d2, c2, r1, k1, k2, k3, k4, k50⟩ := q3.lps id q hq
      rw [hid1] at k1; cases k1
      have hno : q.st ≠ .over := fun he => by rw [he] at hqr; cases hqr
      obtain ⟨k5, k6, k7, k8, k9, k10, k11⟩ := k50 hno
      have hst : r1.state = .ready := by
        unfold isReady at hqr
        split at hqr
        · rename_i he; rw [he] at k11; exact k11.1
        · cases hqr
      obtain ⟨h2, q8, q9, q10⟩ := SH.state (r' := { r1 with state := .busy }) q3 hq hid1 k4 hno ⟨rfl, rfl, rfl, rfl, rfl⟩ (show StOk .busy _ from rfl) q7
      refine ⟨_, run_beginRound k4 hst, ?_⟩
      refine hrec (some (d + 1)) _ _ _ _ _ _ q8 s1 a1 _ _ q2 q9 (fun _ => q4 rfl) ?_
      intro ex s2 e2 h3 n2 a2 w2 p1 p2 p3 p4 p5
      obtain ⟨q', hq', p6⟩ := orec_f p5
      obtain ⟨hqb, p7⟩ := brec_f p6
      have hid2 := p1.1 _ _ hid1
      obtain ⟨d3, c3, r2, m1, m2, m3, m4, m5⟩ := p3.lps id q' hq'
      rw [hid2] at m1; cases m1
      have hno : q'.st ≠ .over := fun he => by rw [he] at hqb; cases hqb
      cases ex with
      | norm =>
        obtain ⟨h4, p8, p9, _⟩ := SH.state (r' := { r2 with state := .ready, pending := none }) p3 hq' hid2 m4 hno ⟨rfl, rfl, rfl, rfl, rfl⟩ (show StOk .ready _ from ⟨rfl, rfl⟩) p7
        exact ⟨_, _, run_endRound none m4, _, rfl, s2, _, h4, n2, q1.trans p1, .bool true, p9, p8⟩
      | ret =>
        obtain ⟨h4, p8, p9, _⟩ := SH.state (r' := { r2 with state := .done, pending := some .ret }) p3 hq' hid2 m4 hno ⟨rfl, rfl, rfl, rfl, rfl⟩ (show StOk (.done .ret) _ from ⟨rfl, rfl⟩) p7
        exact ⟨_, _, run_endRound (some .ret) m4, _, rfl, s2, _, h4, n2, q1.trans p1, .bool false, p9, p8⟩
      | exit i =>
        obtain ⟨h4, p8, p9, _⟩ := SH.state (r' := { r2 with state := .done, pending := some (.exit i) }) p3 hq' hid2 m4 hno ⟨rfl, rfl, rfl, rfl, rfl⟩ (show StOk (.done (.exit i)) _ from ⟨rfl, rfl⟩) p7
        exact ⟨_, _, run_endRound (some (.exit i)) m4, _, rfl, s2, _, h4, n2, q1.trans p1, .bool false, p9, p8⟩
  · obtain ⟨rfl, hq⟩ := hq
    exact hq

theorem callK_s {rec : CT} (hrec : CodeOk C w0 none rec) : CallOk C.P w0 (callK C.P rec) := by
  intro f args h n c hk s w vs H hrel
  unfold callK at hk
  split at hk
  · rename_i fn hf
    split at hk
    · rename_i b hb
      obtain ⟨h1, h2⟩ := brec_f hk
      rw [lenL_eq] at h2
      obtain ⟨h3, h4⟩ := brec_f h2
      obtain ⟨tr, h5, h6⟩ := writeK_s h4
      have h3 : args.length ≤ fn.ntmps := Nat.le_of_ble_eq_true h3
      refine ⟨fun w vs => enters_s hf hb h1 w vs, callsIn_wide.1 (callsIn_of_wp_marks (F := Fence.wide) (n := 0) hf hb trivial ?_ rfl)⟩
      have hl := hrel.length
      have F : FE fn.ntmps s ⟨crossOf fn b, [], tr, some []⟩ { tmps := vs.toArray ++ Array.replicate (fn.ntmps - vs.toArray.size) undef, defers := [] } := by
        refine ⟨by simp; omega, fun t av ht => ?_, rfl⟩
        rw [Env'.get_mk, findL_nil] at ht
        split at ht
        case isFalse => cases ht
        rw [h6] at ht
        split at ht
        · rename_i hin
          simp only [Nat.sub_zero, Nat.zero_add] at ht hin
          obtain ⟨v, hv, hr⟩ := hrel.get t av ht
          refine ⟨by omega, ?_⟩
          have hlt : t < vs.length := by omega
          rw [Array.getD_eq_getD_getElem?, Array.getElem?_append]
          simp only [List.size_toArray, hlt, if_true, List.getElem?_toArray, hv, Option.getD_some]
          exact hr
        · cases ht
      refine wpIn_mono (F := Fence.wide) (hrec _ _ _ _ _ _ h5 s _ w (bodyPostM Fence.wide 0 C.P fn _) F H (fun h => absurd rfl h) ?_) fun ex a w hq => hq
      intro ex s' e' h' n' a' w' g1 g2 g3 g4 g5
      have fin : ∀ (hg : doneK e'.df h' (fun h' => resK C.P fn.results.toList e' h' (fun vs => match vs with | [v] => c v h' n' | vs => c (.tup vs) h' n')) = true),
          LeavesInM Fence.wide 0 C.P fn a'.tmps (fun e w' => ∃ v s' av h' n', e = .returned v ∧ Ls n s n' s' ∧ Rel s' av v ∧ SH C.P w0 s' h' n' w' ∧ c av h' n' = true) a'.defers .returning w' := by
        intro hg
        obtain ⟨l, hl, hg⟩ := orec_f (show (Option.rec (motive := fun _ => Bool) false (fun l => doneL (fun h' => resK C.P fn.results.toList e' h' (fun vs => match vs with | [v] => c v h' n' | vs => c (.tup vs) h' n')) l h') e'.df : Bool) = true from hg)
        have hdf := g2.df
        rw [hl] at hdf
        refine doneL_s hg hdf g3 fun h' w' g3 hg => ?_
        obtain ⟨m, us, q1, q2, q3⟩ := resK_s (fn := fn) hg g2 g3
        have hres : ∃ v, (results fn a'.tmps).run C.P w' = .ok v w' ∧ ∃ av, Rel s' av v ∧ c av h' n' = true := by
          have e0 : ∀ g : ResultVar → Sem Value, (∀ r, g r = match r with | .tmp t => (pure (a'.tmps.getD t undef) : Sem Value) | .cell x t => do loadVar t (← asAddr (a'.tmps.getD x undef))) → (fn.results.mapM g).run C.P w' = .ok us.toArray w' := by
            intro g hg
            obtain rfl : g = _ := funext hg
            rw [Array.mapM_eq_mapM_toList]
            simp only [map_eq_pure_bind, Sem.run_bind, q3, Result.andThen_ok, Sem.run_pure]
          have e1 : (results fn a'.tmps).run C.P w' = .ok (if h : us.toArray.size = 1 then us.toArray[0] else .tuple us.toArray) w' := by
            unfold results
            rw [Sem.run_bind, e0 _ (fun r => by cases r <;> rfl)]
            rfl
          refine ⟨_, e1, ?_⟩
          have hml := q2.length
          split at q1
          · obtain ⟨v1, m1, rfl, q4, q5⟩ := q2.cons_inv
            obtain rfl := q5.nil_inv
            exact ⟨_, by simpa using q4, q1⟩
          · rename_i hne
            refine ⟨_, ?_, q1⟩
            have : ¬ us.toArray.size = 1 := fun h1 => by
              have h2 : m.length = 1 := by rw [hml]; simpa using h1
              obtain ⟨x, rfl⟩ := List.length_eq_one_iff.1 h2
              exact hne x rfl
            rw [dif_neg this]
            exact .tup q2
        obtain ⟨v, hv, av, q4, q5⟩ := hres
        exact ⟨v, hv, v, s', av, h', n', rfl, g1, q4, g3, q5⟩
      cases ex with
      | norm => exact fin g5
      | ret => exact fin g5
      | exit id => cases g5
    · cases hk
  · cases hk
end
end Go.Ev
