/- A program logic over the model: what is left to do, what is known of the frame, what the call holds of memory. No conditions: a library of lemmas. -/
import Derived.Test.YtklpiecolpnmlaaDoorEngB
set_option linter.unusedSimpArgs false
set_option linter.unusedVariables false
/-! The engine, part 7: memory of the call's own: what it holds, and what may have changed. -/
namespace Go.Eng
open Go

/-- From w to w' no block that was there has changed but these. -/
structure Upd (B : List Nat) (w w' : World) : Prop where
  os : w'.os = w.os
  tape : w'.tape = w.tape
  output : w'.output = w.output
  size : w.heap.size ≤ w'.heap.size
  block : ∀ k, k < w.heap.size → k ∉ B → w'.heap[k]? = w.heap[k]?

theorem Upd.refl (B : List Nat) (w : World) : Upd B w w := ⟨rfl, rfl, rfl, Nat.le_refl _, fun _ _ _ => rfl⟩
theorem Upd.trans {B B' : List Nat} {a b c : World} (h : Upd B a b) (k : Upd B' b c) (hB : ∀ x ∈ B', x ∈ B ∨ a.heap.size ≤ x) : Upd B a c :=
  ⟨k.os.trans h.os, k.tape.trans h.tape, k.output.trans h.output, Nat.le_trans h.size k.size, fun i hi hn =>
    (k.block i (Nat.lt_of_lt_of_le hi h.size) (fun hx => by rcases hB i hx with h1 | h1; exact hn h1; omega)).trans (h.block i hi hn)⟩
theorem Upd.below {w w' : World} (h : Upd [] w w') : RowKit.Below w.heap.size w w' := ⟨h.os, h.tape, h.output, h.size, fun k hk => h.block k hk (by simp)⟩
theorem Upd.drewN {B : List Nat} {w w' : World} (h : Upd B w w') (n m : Nat) : Upd B (w.drewN n) (w'.drewN m) := ⟨h.os, h.tape, h.output, h.size, h.block⟩
theorem Upd.mono {B B' : List Nat} {w w' : World} (h : Upd B w w') (hs : ∀ x ∈ B, x ∈ B') : Upd B' w w' := ⟨h.os, h.tape, h.output, h.size, fun k hk hn => h.block k hk fun hx => hn (hs k hx)⟩

/-- A part of memory: its blocks, and what they hold. -/
structure Res where
  foot : List Nat
  holds : World → Prop
  loc : ∀ w w', (∀ b ∈ foot, w'.heap[b]? = w.heap[b]?) → holds w → holds w'

def Apart (r s : Res) : Prop := ∀ b ∈ r.foot, b ∉ s.foot

/-- SINCE w0 nothing that was there has changed but the blocks B; of its own (and of those) the call holds these parts. -/
structure Heap (w0 : World) (B : List Nat) (w : World) (G : List Res) : Prop where
  upd : Upd B w0 w
  holds : ∀ r ∈ G, r.holds w
  foot : ∀ r ∈ G, ∀ b ∈ r.foot, (b ∈ B ∨ w0.heap.size ≤ b) ∧ b < w.heap.size
  apart : G.Pairwise Apart

theorem Apart.symm {r s : Res} (h : Apart r s) : Apart s r := fun b hb hr => h b hr hb

theorem Heap.start (w : World) : Heap w [] w [] := ⟨.refl _ _, by simp, by simp, .nil⟩

theorem Heap.one {w : World} {r : Res} (h : r.holds w) (hf : ∀ b ∈ r.foot, b < w.heap.size) : Heap w r.foot w [r] :=
  ⟨.refl _ _, by simpa using h, by simpa using fun b hb => ⟨.inl hb, hf b hb⟩, by simp⟩

theorem Heap.drewN {w0 w : World} {B : List Nat} {G : List Res} (h : Heap w0 B w G) (n m : Nat) : Heap (w0.drewN n) B (w.drewN m) G :=
  ⟨h.upd.drewN n m, fun r hr => r.loc w _ (fun _ _ => rfl) (h.holds r hr), h.foot, h.apart⟩

/-- A step that changes no block of what is held; new parts come to it. -/
theorem Heap.step {w0 w w' : World} {B S : List Nat} {G G' : List Res} (h : Heap w0 B w G) (hs : Heap w S w' G') (hS : ∀ b ∈ S, (b ∈ B ∨ w0.heap.size ≤ b) ∧ ∀ r ∈ G, b ∉ r.foot) : Heap w0 B w' (G' ++ G) := by
  refine ⟨h.upd.trans hs.upd fun x hx => (hS x hx).1, ?_, ?_, ?_⟩
  · intro r hr
    rcases List.mem_append.1 hr with hr | hr
    · exact hs.holds r hr
    · refine r.loc w w' (fun b hb => hs.upd.block b (h.foot r hr b hb).2 fun hx => (hS b hx).2 r hr hb) (h.holds r hr)
  · intro r hr b hb
    rcases List.mem_append.1 hr with hr | hr
    · obtain ⟨h1, h2⟩ := hs.foot r hr b hb
      refine ⟨?_, h2⟩
      rcases h1 with h1 | h1
      · exact (hS b h1).1
      · exact .inr (Nat.le_trans h.upd.size h1)
    · exact ⟨(h.foot r hr b hb).1, Nat.lt_of_lt_of_le (h.foot r hr b hb).2 hs.upd.size⟩
  · rw [List.pairwise_append]
    refine ⟨hs.apart, h.apart, fun r hr s hs' b hb hbs => ?_⟩
    rcases (hs.foot r hr b hb).1 with h1 | h1
    · exact (hS b h1).2 s hs' hbs
    · have := (h.foot s hs' b hbs).2; omega

theorem Heap.call0 {w0 w w' : World} {B : List Nat} {G G' : List Res} (h : Heap w0 B w G) (hs : Heap w [] w' G') : Heap w0 B w' (G' ++ G) := h.step hs (by simp)

theorem Heap.sub {w0 w : World} {B : List Nat} {G G' : List Res} (h : Heap w0 B w G) (hs : G'.Sublist G) : Heap w0 B w G' :=
  ⟨h.upd, fun r hr => h.holds r (hs.subset hr), fun r hr => h.foot r (hs.subset hr), h.apart.sublist hs⟩

theorem Heap.perm {w0 w : World} {B : List Nat} {G G' : List Res} (h : Heap w0 B w G) (hs : G.Perm G') : Heap w0 B w G' :=
  ⟨h.upd, fun r hr => h.holds r (hs.mem_iff.2 hr), fun r hr => h.foot r (hs.mem_iff.2 hr), (hs.pairwise_iff fun h => h.symm).1 h.apart⟩

/-- One part is given into a step, and comes back changed. -/
theorem Heap.step1 {w0 w w' : World} {B : List Nat} {G1 G2 G' : List Res} {r r' : Res} (h : Heap w0 B w (G1 ++ r :: G2)) (hs : Heap w r.foot w' (r' :: G')) : Heap w0 B w' (G' ++ (G1 ++ r' :: G2)) := by
  have hp : (G1 ++ r :: G2).Perm (r :: (G1 ++ G2)) := List.perm_middle
  have h1 := h.perm hp
  have ha := h1.apart
  rw [List.pairwise_cons] at ha
  have h2 : Heap w0 B w (G1 ++ G2) := h1.sub (List.sublist_cons_self _ _)
  have h3 := h2.step hs fun b hb => ⟨(h1.foot r (by simp) b hb).1, fun s hs hbs => ha.1 s hs b hb hbs⟩
  refine h3.perm ?_
  simp only [List.cons_append]
  refine List.Perm.trans ?_ (List.perm_append_left_iff G' |>.2 (List.perm_middle (l₁ := G1) (l₂ := G2) (a := r')).symm)
  exact (List.perm_middle (l₁ := G') (l₂ := G1 ++ G2) (a := r')).symm

theorem set_split {α : Type} (G : List α) (i : Nat) (r r' : α) (h : G[i]? = some r) : ∃ G1 G2, G = G1 ++ r :: G2 ∧ G.set i r' = G1 ++ r' :: G2 := by
  induction G generalizing i with
  | nil => simp at h
  | cons a l ih =>
    cases i with
    | zero => simp at h; subst h; exact ⟨[], l, rfl, rfl⟩
    | succ i =>
      obtain ⟨G1, G2, e1, e2⟩ := ih i (by simpa using h)
      exact ⟨a :: G1, G2, by simp [e1], by simp [e2]⟩

theorem Heap.call1 {w0 w w' : World} {B : List Nat} {G G' : List Res} {r r' : Res} (i : Nat) (h : Heap w0 B w G) (hi : G[i]? = some r) (hs : Heap w r.foot w' (r' :: G')) : Heap w0 B w' (G' ++ G.set i r') := by
  obtain ⟨G1, G2, e1, e2⟩ := set_split G i r r' hi
  rw [e2]
  rw [e1] at h
  exact h.step1 hs

theorem Heap.at {w0 w : World} {B : List Nat} {G : List Res} {r : Res} (h : Heap w0 B w G) (i : Nat) (hi : G[i]? = some r) : r.holds w := h.holds r (List.mem_of_getElem? hi)

/-- One part changes in place (or moves to a new block). -/
theorem Heap.set {w0 w w' : World} {B : List Nat} {G : List Res} {r r' : Res} (i : Nat) (h : Heap w0 B w G) (hi : G[i]? = some r) (hu : Upd r.foot w w') (hr : r'.holds w') (hf : ∀ b ∈ r'.foot, (b ∈ r.foot ∨ w.heap.size ≤ b) ∧ b < w'.heap.size) :
    Heap w0 B w' (G.set i r') :=
  h.call1 (G' := []) i hi ⟨hu, by simpa using hr, by simpa using hf, by simp⟩

/-- The same world, a part seen in another way. -/
theorem Heap.view {w0 w : World} {B : List Nat} {G : List Res} {r r' : Res} (i : Nat) (h : Heap w0 B w G) (hi : G[i]? = some r) (hr : r.holds w → r'.holds w) (hf : ∀ b ∈ r'.foot, b ∈ r.foot) : Heap w0 B w (G.set i r') :=
  h.set i hi (.refl _ _) (hr (h.at i hi)) fun b hb => ⟨.inl (hf b hb), (h.foot r (List.mem_of_getElem? hi) b (hf b hb)).2⟩

/-- A new block. -/
theorem Heap.new {w0 w : World} {B : List Nat} {G : List Res} {r : Res} (o : Obj) (h : Heap w0 B w G) (hr : r.holds (w.alloc o)) (hf : ∀ b ∈ r.foot, b = w.heap.size) : Heap w0 B (w.alloc o) (r :: G) := by
  refine h.call0 (G' := [r]) ⟨⟨rfl, rfl, rfl, by simp, fun k hk _ => RowKit.Below.heap_alloc w o k hk⟩, by simpa using hr, ?_, by simp⟩
  intro s hs b hb
  simp at hs; subst hs
  rw [hf b hb]
  simp

/-- What was there ahead of all reads as it did. -/
theorem Heap.reads {w0 w : World} {B : List Nat} {G : List Res} (h : Heap w0 B w G) {a : Addr} {xs : List Value} (hr : Reads w0 a xs) (hb : a.block ∉ B) : Reads w a xs := by
  intro j u hu
  have h1 := hr j u hu
  have e : (a.add j).block = a.block := by unfold Addr.add; split <;> rfl
  have hlt : a.block < w0.heap.size := by
    have := World.block_lt_of_cell? w0 _ h1
    rwa [e] at this
  rw [World.cell?_of_block (w := w0)]
  · exact h1
  · rw [e]; exact h.upd.block _ hlt hb

/-- A slice reads as these cells. -/
def RS (w : World) (a : Option Addr) (n sz : Nat) (xs : List Value) : Prop := xs.length = n * sz ∧ (a = none → n = 0) ∧ ∀ ad, a = some ad → Reads w ad xs

theorem Heap.rs {w0 w : World} {B : List Nat} {G : List Res} (h : Heap w0 B w G) {a : Option Addr} {n sz : Nat} {xs : List Value} (hr : RS w0 a n sz xs) (hb : ∀ ad, a = some ad → ad.block ∉ B) : RS w a n sz xs :=
  ⟨hr.1, hr.2.1, fun ad ha => h.reads (hr.2.2 ad ha) (hb ad ha)⟩
theorem Heap.rs' {w0 w : World} {G : List Res} (h : Heap w0 [] w G) {a : Option Addr} {n sz : Nat} {xs : List Value} (hr : RS w0 a n sz xs) : RS w a n sz xs := h.rs hr (by simp)

def intsV (l : List Int) : List Value := l.map fun n => .int .i64 n
theorem bytesV_len (l : List UInt8) : (bytesV l).length = l.length := by simp [bytesV]
theorem intsV_len (l : List Int) : (intsV l).length = l.length := by simp [intsV]

theorem ReadsBytes_of {w : World} {a : Option Addr} {n : Nat} {l : List UInt8} (h : RS w a n 1 (bytesV l)) : ReadsBytes w a n l :=
  ⟨by have := h.1; simp [bytesV] at this; exact this, h.2.1, h.2.2⟩

/-! ### Rows: what append, make and literals make -/

def Unfz (fz : Nat × Nat) (n : Nat) : Prop := ∀ j, j < n → ¬ (fz.1 ≤ j ∧ j < fz.2)

def rowHolds (T sz : Nat) (a : Option Addr) (n cap : Nat) (xs : List Value) (w : World) : Prop :=
  xs.length = n * sz ∧ n ≤ cap ∧ cap ≤ maxLen ∧
  ((a = none ∧ n = 0 ∧ cap = 0) ∨ ∃ g rest fz, a = some ⟨g, 0, none⟩ ∧ w.heap[g]? = some (.cells (xs ++ rest).toArray T fz) ∧ (xs ++ rest).length = cap * sz ∧ Unfz fz (cap * sz))

/-- A slice over the whole of a block of its own. -/
def Res.row (T sz : Nat) (a : Option Addr) (n cap : Nat) (xs : List Value) : Res where
  foot := (a.map (·.block)).toList
  holds := rowHolds T sz a n cap xs
  loc := by
    rintro w w' hb ⟨h1, h2, h3, h4⟩
    refine ⟨h1, h2, h3, ?_⟩
    rcases h4 with h4 | ⟨g, rest, fz, rfl, hg, h5⟩
    · exact .inl h4
    · exact .inr ⟨g, rest, fz, rfl, by rw [hb g (by simp)]; exact hg, h5⟩

theorem row_nil (T sz : Nat) (w : World) : (Res.row T sz none 0 0 []).holds w := ⟨by simp, Nat.le_refl _, by simp [maxLen], .inl ⟨rfl, rfl, rfl⟩⟩

theorem row_rs {T sz n cap : Nat} {a : Option Addr} {xs : List Value} {w : World} (h : (Res.row T sz a n cap xs).holds w) : RS w a n sz xs := by
  obtain ⟨h1, h2, h3, h4⟩ := h
  refine ⟨h1, ?_, ?_⟩
  · rintro rfl
    rcases h4 with h4 | ⟨g, rest, fz, h, _⟩
    · exact h4.2.1
    · cases h
  · rintro ad rfl
    rcases h4 with h4 | ⟨g, rest, fz, h, hg, _⟩
    · cases h4.1
    · cases h
      intro j u hu
      have hadd : (⟨g, 0, none⟩ : Addr).add j = ⟨g, j, none⟩ := by unfold Addr.add; split <;> simp_all
      rw [hadd, cell_of_row w g j _ T fz hg]
      have hlt : j < xs.length := (List.getElem?_eq_some_iff.1 hu).1
      simp [List.getElem?_append_left hlt, hu]

theorem row_cap {T sz n cap : Nat} {a : Option Addr} {xs : List Value} {w : World} (h : (Res.row T sz a n cap xs).holds w) : n ≤ cap ∧ cap ≤ maxLen ∧ (a = none → n = 0 ∧ cap = 0) := by
  obtain ⟨h1, h2, h3, h4⟩ := h
  refine ⟨h2, h3, ?_⟩
  rintro rfl
  rcases h4 with h4 | ⟨g, rest, fz, h, _⟩
  · exact h4.2
  · cases h

end Go.Eng

/-! The engine, part 8: operations that change the world. -/
namespace Go
/-- The zero value of a type. -/
def Program.zeroOf (P : Program) (T : TypeId) : Option Value := ((P.info? T).bind (·.zero))
end Go
namespace Go.Eng
open Go

section
variable {P : Program} {N : Nat} {d : Option Tmp} {ty : Nat} {pos : String} {af : Array Edge} {gd : Option (Nat × Bool)} {e : Env} {w : World} {R : Env → World → (Env → World → Prop) → Prop} {RQ : Env → World → (Env → Prop) → Prop} {K : Env → World → Prop} {KQ : Env → Prop}

/-- Whoever runs to a value runs on. -/
theorem Mem_of_run {o : Oper} {C : Value → World → Prop} (h : ∀ a n, Fits N e a → ∃ v w' m, (execOp a.eval o).run P (w.drewN n) = .ok (.value v) (w'.drewN m) ∧ C v w') : Mem P N o e w C := by
  intro a n next Q ha hK
  obtain ⟨v, w', m, hr, hC⟩ := h a n ha
  unfold Oper.wp
  rw [hr]
  exact hK v w' m hC
theorem Mem_of_skip {o : Oper} {C : Value → World → Prop} (h : ∀ a n, Fits N e a → ∃ w' m, (execOp a.eval o).run P (w.drewN n) = .ok .skip (w'.drewN m) ∧ C undef w') : Mem P N o e w C := by
  intro a n next Q ha hK
  obtain ⟨w', m, hr, hC⟩ := h a n ha
  unfold Oper.wp
  rw [hr]
  exact hK _ w' m hC

/-! calls -/

/-- A call that does what its contract says. -/
def CallK (P : Program) (f : FuncId) (args : List Value) (w : World) (C : Value → World → Prop) : Prop := ∃ F, Does P f args.toArray w F ∧ ∀ v w', F v w' → C v w'

theorem CallK.mk {f : FuncId} {args : List Value} {C F : Value → World → Prop} (h : Does P f args.toArray w F) (hc : ∀ v w', F v w' → C v w') : CallK P f args w C := ⟨F, h, hc⟩

theorem MemK_call {f : FuncId} {as : Array Operand} {ts : Array TypeId} (hf : ∀ args w, (callFunc f args).run P w = .ok (.enter f args) w)
    (h : argL e as.toList fun vs => CallK P f vs w fun v w' => R (e.put d v) w' K) :
    MemK P N ⟨d, .call { callee := .value (.func f), args := as, argTypes := ts }, ty, pos, af, gd⟩ e w R K := by
  intro a n next Q ha hK
  have h1 := argL_sound (K := fun vs => CallK P f vs w fun v w' => R (e.put d v) w' K) ha h
  obtain ⟨F, hD, hC⟩ := h1
  have hm : (as.map a.eval) = (as.toList.map a.eval).toArray := map_eval as a
  have hrun : (execOp a.eval ⟨d, .call { callee := .value (.func f), args := as, argTypes := ts }, ty, pos, af, gd⟩).run P (w.drewN n) = .ok (.enter f (as.toList.map a.eval).toArray) (w.drewN n) := by
    simp only [execOp, resolve, Act.eval, Deferred.ofValue, Sem.run_bind, Sem.run_pure, Result.andThen_ok, invoke]
    simp [hm, hf]
  unfold Oper.wp
  rw [hrun]
  exact (hD n).mono fun e' w' ⟨v, w'', m, he, hw, hF⟩ => by subst he; subst hw; exact hK v w'' m (hC v w'' hF)

/-- A call that leaves the world alone. -/
def QCallK (P : Program) (f : FuncId) (args : List Value) (w : World) (C : Value → Prop) : Prop := ∃ v, Does P f args.toArray w (fun v' w' => w' = w ∧ v' = v) ∧ C v

theorem QCallK.mk {f : FuncId} {args : List Value} {C : Value → Prop} {v : Value} (h : Does P f args.toArray w (fun v' w' => w' = w ∧ v' = v)) (hc : C v) : QCallK P f args w C := ⟨v, h, hc⟩

theorem QuietK_call {f : FuncId} {as : Array Operand} {ts : Array TypeId} (hf : ∀ args w, (callFunc f args).run P w = .ok (.enter f args) w)
    (h : argL e as.toList fun vs => QCallK P f vs w fun v => RQ (e.put d v) w KQ) :
    QuietK P N ⟨d, .call { callee := .value (.func f), args := as, argTypes := ts }, ty, pos, af, gd⟩ e w RQ KQ := by
  -- the arguments are the same in every frame that fits
  obtain ⟨vs, hvs, v, hD, hC⟩ : ∃ vs, (∀ a, Fits N e a → as.toList.map a.eval = vs) ∧ QCallK P f vs w fun v => RQ (e.put d v) w KQ := by
    have key : ∀ (xs : List Operand) (K : List Value → Prop), argL e xs K → ∃ vs, (∀ a, Fits N e a → xs.map a.eval = vs) ∧ K vs := by
      intro xs
      induction xs with
      | nil => intro K h; exact ⟨[], fun _ _ => rfl, h⟩
      | cons x xs ih =>
        intro K h
        have : ∃ v, (∀ a, Fits N e a → a.eval x = v) ∧ argL e xs fun vs => K (v :: vs) := by
          simp only [argL] at h
          cases x with
          | tmp t => obtain ⟨v, hv, hK⟩ := argT_find h; exact ⟨v, fun a ha => ha.at_ t v hv, hK⟩
          | const v => exact ⟨v, fun _ _ => rfl, h⟩
          | global g => exact ⟨_, fun _ _ => rfl, h⟩
          | func f => exact ⟨_, fun _ _ => rfl, h⟩
        obtain ⟨v, hv, h⟩ := this
        obtain ⟨vs, hvs, hK⟩ := ih _ h
        exact ⟨v :: vs, fun a ha => by simp [hv a ha, hvs a ha], hK⟩
    exact key _ _ h
  refine ⟨v, fun a n ha => ?_, hC⟩
  have hm : (as.map a.eval) = vs.toArray := by rw [map_eval as a, hvs a ha]
  have hrun : (execOp a.eval ⟨d, .call { callee := .value (.func f), args := as, argTypes := ts }, ty, pos, af, gd⟩).run P (w.drewN n) = .ok (.enter f vs.toArray) (w.drewN n) := by
    simp only [execOp, resolve, Act.eval, Deferred.ofValue, Sem.run_bind, Sem.run_pure, Result.andThen_ok, invoke]
    simp [hm, hf]
  unfold Oper.quietAt
  rw [hrun]
  exact ⟨rfl, (hD n).mono fun e' w' ⟨v', w'', m, he, hw, hF⟩ => by obtain ⟨rfl, rfl⟩ := hF; exact ⟨he, m, hw⟩⟩

/-! new memory -/

theorem run_newRow (T : TypeId) (cs : Array Value) (w : World) : (newRow T cs).run P w = .ok ⟨w.heap.size, 0, none⟩ (w.alloc (.cells cs T)) := rfl
theorem run_newVar (T : TypeId) (v : Value) (w : World) : (newVar T v).run P w = .ok ⟨w.heap.size, 0, none⟩ (w.alloc (.cells v.cells T)) := rfl
theorem run_askRoom (n : Nat) (w : World) : (askRoom n).run P w = .ok () w := by unfold askRoom; split <;> rfl

def AllocK (w : World) (o : Obj) (v : Value) (C : Value → World → Prop) : Prop := C v (w.alloc o)

theorem drewN_alloc (w : World) (n : Nat) (o : Obj) : (w.drewN n).alloc o = (w.alloc o).drewN n := rfl

theorem MemK_box {T : TypeId} {x : Operand} (h : arg e x fun v => R (e.put d (.pointer (some ⟨w.heap.size, 0, none⟩))) (w.alloc (.cells v.cells T)) K) :
    MemK P N ⟨d, .box T x, ty, pos, af, gd⟩ e w R K :=
  Mem_of_run fun a n ha => by
    have h1 := arg_sound (K := fun v => R (e.put d (.pointer (some ⟨w.heap.size, 0, none⟩))) (w.alloc (.cells v.cells T)) K) ha h
    exact ⟨_, w.alloc (.cells (a.eval x).cells T), n, by simp only [execOp, Instr.box, Sem.run_bind, run_newVar, Result.andThen_ok, Sem.run_pure]; rfl, h1⟩


theorem run_zeroOf {T : TypeId} {z : Value} (h : P.zeroOf T = some z) (w : World) : (zeroValue T).run P w = .ok z w := by
  unfold Program.zeroOf at h
  cases hi : P.info? T with
  | none => simp [hi] at h
  | some i =>
    simp [hi] at h
    simp [zeroValue, typeInfo, hi, h]

theorem MemK_alloc {T : TypeId} (z : Value) (hz : P.zeroOf T = some z) (h : R (e.put d (.pointer (some ⟨w.heap.size, 0, none⟩))) (w.alloc (.cells z.cells T)) K) :
    MemK P N ⟨d, .alloc T, ty, pos, af, gd⟩ e w R K :=
  Mem_of_run fun a n _ => ⟨_, w.alloc (.cells z.cells T), n, by simp only [execOp, Instr.alloc, run_zeroOf hz, Sem.run_bind, run_newVar, Result.andThen_ok, Sem.run_pure]; rfl, h⟩

/-- What make gives: so many cells, nought each. -/
theorem run_makeSlice' {T E : TypeId} {i : TypeInfo} {z zv : Value} (hu : P.underlying T = some (.slice E)) (hi : P.info? E = some i) (hz : i.zero = some z) (hzv : z.cells = #[zv]) (h1 : i.size = 1)
    {l c : Nat} (hlc : l ≤ c) (hb : i.bytes * c ≤ 2 ^ 48) (hc : c ≤ maxLen) (w : World) :
    (Instr.makeSlice T (.int .i64 l) (.int .i64 c)).run P w = .ok (.slice (some ⟨w.heap.size, 0, none⟩) l c) (w.alloc (.cells (List.replicate c zv).toArray E)) := by
  have hcm : (c : Int) ≤ 9223372036854775807 := by simp only [maxLen] at hc; omega
  have e1 : IntKind.i64.wrap (l : Int) = l := wrap_i64_of ⟨by omega, by omega⟩
  have e2 : IntKind.i64.wrap (c : Int) = c := wrap_i64_of ⟨by omega, by omega⟩
  have hb1 : ((i.bytes * c : Nat) : Int) ≤ 281474976710656 := by
    have h : i.bytes * c ≤ 281474976710656 := hb
    omega
  have hb' : ¬ ((i.bytes : Int) * (c : Int) > 281474976710656) := by
    have e3 : ((i.bytes * c : Nat) : Int) = (i.bytes : Int) * (c : Int) := Int.natCast_mul _ _
    omega
  have hrow : (Array.range (c * 1)).map (fun x => (#[zv] : Array Value)[x % 1]!) = (List.replicate c zv).toArray := by
    apply Array.ext
    · simp
    · intro j h1 h2
      simp [Nat.mod_one]
  have hti : ∀ w, (typeInfo E).run P w = .ok i w := fun w => by simp [typeInfo, hi]
  have hzi : ∀ w, (zeroValue E).run P w = .ok z w := fun w => by simp [zeroValue, typeInfo, hi, hz]
  have hso : ∀ w, (sizeOf E).run P w = .ok 1 w := fun w => by simp [sizeOf, typeInfo, hi, h1]
  simp only [Instr.makeSlice, Sem.run_bind, run_underlying hu, Result.andThen_ok, asInt, asIntOf, Sem.run_pure, hti, e1, e2]
  rw [if_neg (by simp [hb']; omega)]
  simp only [Sem.run_bind, run_askRoom, Result.andThen_ok, hso, Int.toNat_natCast]
  by_cases hc0 : c = 0
  · subst hc0
    simp only [Nat.zero_mul, if_true, Sem.run_bind, Sem.run_pure, Result.andThen_ok, run_newRow]
    simp [show Array.range 0 = #[] from rfl]
  · rw [if_neg (by omega)]
    simp only [Sem.run_bind, hzi, Result.andThen_ok, Sem.run_pure, run_newRow, hzv]
    rw [← hrow]
    simp

theorem MemK_make {T E : TypeId} {x y : Operand} {zv : Value} {bytes : Nat} (hu : P.underlying T = some (.slice E)) (hz : (P.info? E).map (fun i => (i.zero.map Value.cells, i.size, i.bytes)) = some (some #[zv], 1, bytes))
    (h : arg e x fun vl => arg e y fun vc => ∃ l c : Nat, (vl = .int .i64 l ∧ vc = .int .i64 c ∧ l ≤ c ∧ bytes * c ≤ 281474976710656 ∧ c ≤ 9223372036854775807) ∧ R (e.put d (.slice (some ⟨w.heap.size, 0, none⟩) l c)) (w.alloc (.cells (List.replicate c zv).toArray E)) K) :
    MemK P N ⟨d, .makeSlice T x y, ty, pos, af, gd⟩ e w R K :=
  Mem_of_run fun a n ha => by
    obtain ⟨l, c, ⟨h1, h2, h3, h4, h5⟩, hR⟩ := arg_sound (K := fun vc => ∃ l c : Nat, (a.eval x = .int .i64 l ∧ vc = .int .i64 c ∧ l ≤ c ∧ bytes * c ≤ 281474976710656 ∧ c ≤ 9223372036854775807) ∧ R (e.put d (.slice (some ⟨w.heap.size, 0, none⟩) l c)) (w.alloc (.cells (List.replicate c zv).toArray E)) K) ha
      (arg_sound (K := fun vl => arg e y fun vc => ∃ l c : Nat, (vl = .int .i64 l ∧ vc = .int .i64 c ∧ l ≤ c ∧ bytes * c ≤ 281474976710656 ∧ c ≤ 9223372036854775807) ∧ R (e.put d (.slice (some ⟨w.heap.size, 0, none⟩) l c)) (w.alloc (.cells (List.replicate c zv).toArray E)) K) ha h)
    cases hi : P.info? E with
    | none => simp [hi] at hz
    | some i =>
      simp only [hi, Option.map_some, Option.some.injEq, Prod.mk.injEq] at hz
      obtain ⟨hz1, hz2, hz3⟩ := hz
      cases hzz : i.zero with
      | none => simp [hzz] at hz1
      | some z =>
        simp only [hzz, Option.map_some, Option.some.injEq] at hz1
        refine ⟨_, w.alloc (.cells (List.replicate c zv).toArray E), n, ?_, hR⟩
        have := run_makeSlice' hu hi hzz hz1 hz2 h3 (by rw [hz3]; exact h4) (by simp only [maxLen]; omega) (w.drewN n)
        simp only [execOp, h1, h2, this, Sem.run_bind, Result.andThen_ok, Sem.run_pure]
        rfl

/-- A literal of a slice: its elements one behind the other, a cell each. -/
theorem fill_cells : ∀ (l : List Value) (i : Nat) (pre suf : List Value), suf.length = l.length → (∀ v ∈ l, v.cells = #[v]) → pre.length = i →
    Instr.fill (fun i => some (i * 1, 1)) (pre ++ suf).toArray ((l.zipIdx i).map fun p => (p.2, p.1)) = some (pre ++ l).toArray := by
  intro l
  induction l with
  | nil => intro i pre suf hs _ _; simp at hs; subst hs; simp [Instr.fill]
  | cons v l ih =>
    intro i pre suf hs hc hp
    cases suf with
    | nil => simp at hs
    | cons u suf =>
      simp only [List.zipIdx_cons, List.map_cons, Instr.fill]
      have hv := hc v (by simp)
      simp only [hv]
      rw [if_neg (by simp; omega)]
      have := ih (i + 1) (pre ++ [v]) suf (by simpa using hs) (fun u hu => hc u (by simp [hu])) (by simp [hp])
      have e1 : (#[v].zipIdx.foldl (fun cs x => cs.setIfInBounds (i * 1 + x.2) x.1) (pre ++ u :: suf).toArray) = ((pre ++ [v]) ++ suf).toArray := by
        simp only [Array.zipIdx]
        simp
        rw [← hp, List.set_append_right _ _ (Nat.le_refl _)]
        simp
      rw [e1, this]
      simp

theorem MemK_lit {T E : TypeId} {n : Nat} {ps : Array (Nat × Operand)} {xs : List Operand} (hu : P.underlying T = some (.slice E)) (hsz : P.szo E = some 1) (hz : (P.zeroOf E).isSome = true)
    (hps : ps.toList = (xs.zipIdx).map fun p => (p.2, p.1)) (hn : n = xs.length) (hb : n ≤ 1000000)
    (h : argL e xs fun vs => (∀ v ∈ vs, v.cells = #[v]) ∧ R (e.put d (.slice (some ⟨w.heap.size, 0, none⟩) n n)) (w.alloc (.cells vs.toArray E)) K) :
    MemK P N ⟨d, .buildSlice T n ps, ty, pos, af, gd⟩ e w R K :=
  Mem_of_run fun a m ha => by
    obtain ⟨h1, hR⟩ := argL_sound (K := fun vs => (∀ v ∈ vs, v.cells = #[v]) ∧ R (e.put d (.slice (some ⟨w.heap.size, 0, none⟩) n n)) (w.alloc (.cells vs.toArray E)) K) ha h
    refine ⟨_, _, m, ?_, hR⟩
    obtain ⟨z, hz⟩ := Option.isSome_iff_exists.1 hz
    have e1 : (ps.map fun (i, x) => (i, a.eval x)).toList = ((xs.map a.eval).zipIdx).map fun p => (p.2, p.1) := by
      rw [Array.toList_map, hps]
      simp [List.zipIdx_map]
    have hf := fill_cells (xs.map a.eval) 0 [] (((Array.range (n * 1)).map fun x => (if n = 0 then #[] else z.cells)[x % (if n = 0 then #[] else z.cells).size]!).toList) (by simp [hn]) h1 rfl
    simp only [List.nil_append, Array.toArray_toList] at hf
    have hs := run_szo (P := P) hsz
    simp only [execOp, Instr.buildSlice, Sem.run_bind, run_underlying hu, hs, Result.andThen_ok]
    rw [if_neg (by omega)]
    simp only [Nat.mul_one] at hf ⊢
    by_cases h0 : n = 0
    · rw [if_pos h0]
      rw [if_pos h0] at hf
      simp only [Sem.run_bind, Sem.run_pure, Result.andThen_ok, e1, hf, run_newRow]
      rfl
    · rw [if_neg h0]
      rw [if_neg h0] at hf
      simp only [Sem.run_bind, run_zeroOf hz, Sem.run_pure, Result.andThen_ok, e1, hf, run_newRow]
      rfl

/-! stores -/

/-- The world with these cells in a block. -/
def putBlk (w : World) (g : Nat) (cs : List Value) (T : TypeId) (fz : Nat × Nat) : World := { w with heap := w.heap.setIfInBounds g (.cells cs.toArray T fz) }

theorem putBlk_at {w : World} {g : Nat} {cs : List Value} {T : TypeId} {fz : Nat × Nat} (h : g < w.heap.size) : (putBlk w g cs T fz).heap[g]? = some (.cells cs.toArray T fz) := by
  simp [putBlk, h]
theorem putBlk_ne {w : World} {g k : Nat} {cs : List Value} {T : TypeId} {fz : Nat × Nat} (h : k ≠ g) : (putBlk w g cs T fz).heap[k]? = w.heap[k]? := by
  simp [putBlk, Ne.symm h]
theorem putBlk_upd (w : World) (g : Nat) (cs : List Value) (T : TypeId) (fz : Nat × Nat) : Upd [g] w (putBlk w g cs T fz) :=
  ⟨rfl, rfl, rfl, by simp [putBlk], fun k _ hk => putBlk_ne (by simpa using hk)⟩
theorem putBlk_size (w : World) (g : Nat) (cs : List Value) (T : TypeId) (fz : Nat × Nat) : (putBlk w g cs T fz).heap.size = w.heap.size := by simp [putBlk]

theorem putBlk_drewN (w : World) (n g : Nat) (cs : List Value) (T : TypeId) (fz : Nat × Nat) : putBlk (w.drewN n) g cs T fz = (putBlk w g cs T fz).drewN n := rfl

theorem setCell_putBlk {w : World} {g o : Nat} {cs : List Value} {T : TypeId} {fz : Nat × Nat} (h : w.heap[g]? = some (.cells cs.toArray T fz)) (v : Value) : w.setCell ⟨g, o, none⟩ v = putBlk w g (cs.set o v) T fz := by
  have hlt : g < w.heap.size := (Array.getElem?_eq_some_iff.1 h).1
  unfold World.setCell putBlk
  congr 1
  apply Array.ext_getElem?
  intro j
  rw [Array.getElem?_modify, Array.getElem?_setIfInBounds]
  by_cases hj : g = j
  · subst hj
    have hg : w.heap[g] = .cells cs.toArray T fz := (Array.getElem?_eq_some_iff.1 h).2
    simp [hlt, hg]
  · simp [hj]

theorem putBlk_same {w : World} {g : Nat} {cs : List Value} {T : TypeId} {fz : Nat × Nat} (h : w.heap[g]? = some (.cells cs.toArray T fz)) : putBlk w g cs T fz = w := by
  have hlt : g < w.heap.size := (Array.getElem?_eq_some_iff.1 h).1
  have e : w.heap.setIfInBounds g (.cells cs.toArray T fz) = w.heap := by
    apply Array.ext_getElem?
    intro j
    rw [Array.getElem?_setIfInBounds]
    by_cases hj : g = j
    · subst hj; rw [if_pos rfl, if_pos hlt]; exact h.symm
    · rw [if_neg hj]
  rw [putBlk, e]

/-- Cells stored one behind the other. -/
theorem run_storeCells_blk (g o : Nat) (T : TypeId) (fz : Nat × Nat) : ∀ (vs : List Value) (i : Nat) (cs : List Value) (w : World), w.heap[g]? = some (.cells cs.toArray T fz) → Unfz fz cs.length → o + i + vs.length ≤ cs.length → (∀ v ∈ vs, v.oneCell' = true) →
    (storeCells ⟨g, o, none⟩ vs i).run P w = .ok () (putBlk w g (cs.take (o + i) ++ vs ++ cs.drop (o + i + vs.length)) T fz) := by
  intro vs
  induction vs with
  | nil =>
    intro i cs w hg _ hl _
    simp only [storeCells, Sem.run_pure]
    congr 1
    have : cs.take (o + i) ++ [] ++ cs.drop (o + i + 0) = cs := by simp
    simp only [List.length_nil]
    rw [this, putBlk_same hg]
  | cons v vs ih =>
    intro i cs w hg hfz hl h1
    simp only [List.length_cons] at hl
    have hadd : (⟨g, o, none⟩ : Addr).add i = ⟨g, o + i, none⟩ := by unfold Addr.add; split <;> simp_all
    have hcell : ∃ u, w.cell? ⟨g, o + i, none⟩ = some u := by
      refine ⟨cs[o + i], ?_⟩
      simp [World.cell?, hg]
    obtain ⟨u, hu⟩ := hcell
    have hfr : w.frozen? ⟨g, o + i, none⟩ = false := by
      simp only [World.frozen?, hg]
      have := hfz (o + i) (by omega)
      simpa using this
    have hone := h1 v (by simp)
    have hstore : (store ⟨g, o + i, none⟩ v).run P w = .ok () (w.setCell ⟨g, o + i, none⟩ v) := by
      cases v <;> simp [Value.oneCell'] at hone <;> simp [store, Sem.run, hu, hfr]
    have hlt : g < w.heap.size := (Array.getElem?_eq_some_iff.1 hg).1
    simp only [storeCells, Sem.run_bind, hadd, hstore, Result.andThen_ok]
    rw [setCell_putBlk hg, ih (i + 1) (cs.set (o + i) v) _ (putBlk_at hlt) (by simpa using hfz) (by simp; omega) (fun u hu => h1 u (by simp [hu]))]
    congr 1
    unfold putBlk
    simp only [Array.setIfInBounds_setIfInBounds]
    congr 2
    congr 1
    congr 1
    rw [show o + (i + 1) = o + i + 1 by omega, List.take_set, List.drop_set]
    simp only [List.length_cons]
    rw [if_pos (by omega), List.take_succ_eq_append_getElem (by omega), List.set_append_right _ _ (by simp; omega)]
    simp only [List.length_take]
    rw [show o + i - min (o + i) cs.length = 0 by omega]
    simp [show o + i + 1 + vs.length = o + i + (vs.length + 1) by omega]
end

end Go.Eng
