/- A program logic over the model: what is left to do, what is known of the frame, what the call holds of memory. No conditions: a library of lemmas. -/
import Derived.Test.YtklpiecolpnmlaaDoorEngI
set_option linter.unusedSimpArgs false
set_option linter.unusedVariables false
/-! The engine, part 23: short forms of steps that come often (the scripts stand as the lemmas' own defaults). -/
namespace Go.Eng
open Go
/-- One round of evaluation. -/
theorem Qs {P Q : Prop} (q : Q) (h : P = Q := by simp only [go_sem,↓reduceIte,Nat.reduceEqDiff]; exact rfl) : P := h.mpr q
/-- A bound, by arithmetic. -/
theorem Qo {A B : Prop} (b : B) (a : A := by omega) : A ∧ B := ⟨a, b⟩
/-- Two bounds. -/
theorem Qp {A B C : Prop} (c : C) (a : A := by omega) (b : B := by omega) : (A ∧ B) ∧ C := ⟨⟨a, b⟩, c⟩
/-- A region at the head of a sequence, evaluated. -/
theorem VQ {P : Program} {fn : Func} {F : Value → World → Prop} {N : Nat} {k k' : List It} {e : Env} {w : World} (ks : List Nat) {c : Code} {id : Nat} {ops : List Oper} {Y : (Env → World → Prop) → Prop}
    (h : ∀ K : Env → World → Prop, (∀ e w, VC ⟨P, fn, F, N⟩ k' e w → K e w) → Y K)
    (hp : peel c k = .code (.region id ops.toArray false) :: k' := by rfl) (hN : ops.all (dstOk N) = true := by rfl)
    (hY : ∀ K, vcOps P N ops ops e w (selC ks K) = Y K := by intro K; simp only [go_sem,↓reduceIte,Nat.reduceEqDiff]; exact rfl) : VC ⟨P, fn, F, N⟩ (.code c :: k) e w :=
  VR ks hp hN fun K hK => (hY K).mpr (h K hK)
/-- A block at the head of a sequence. -/
theorem VB {C : Ctx} {k k' : List It} {e : Env} {w : World} {c d : Code} {id : Nat} (h : VC C (.code d :: .blk id :: k') e w) (hp : peel c k = .code (.block id d) :: k' := by rfl) : VC C (.code c :: k) e w :=
  VC_peel c k (hp ▸ VC_block h)
/-- A branch. -/
theorem Vi {C : Ctx} {k : List It} {e : Env} {w : World} {t : Tmp} {b : Bool} {x y : Code} (ht : b = true → VC C (.code x :: k) e w) (hf : b = false → VC C (.code y :: k) e w) (hv : e.find? t = some (.bool b) := by rfl) : VC C (.code (.cond (.tmp t) x y) :: k) e w :=
  VC_cond rfl hv ht hf
/-- What a cell of a held part holds. -/
theorem Gc {w0 w : World} {B : List Nat} {G : List Res} (hH : Heap w0 B w G) {ad : Addr} {v : Value} {Q : Value → Prop} (q : Q v)
    (h : Heap w0 B w G → w.cell? ad = some v := by intro hH; first | exact blk_cell (hH.at 0 rfl) rfl | exact row_cell (hH.at 0 rfl) (bytesV_get (by omega)) | exact row_cell (hH.at 0 rfl) (intsV_get (by omega)) | exact blk_cell (hH.at 1 rfl) rfl | exact row_cell (hH.at 1 rfl) (bytesV_get (by omega)) | exact row_cell (hH.at 1 rfl) (intsV_get (by omega)) | exact blk_cell (hH.at 2 rfl) rfl | exact row_cell (hH.at 2 rfl) (bytesV_get (by omega)) | exact row_cell (hH.at 2 rfl) (intsV_get (by omega)) | exact blk_cell (hH.at 3 rfl) rfl | exact row_cell (hH.at 3 rfl) (bytesV_get (by omega)) | exact row_cell (hH.at 3 rfl) (intsV_get (by omega))) :
    ∃ v, w.cell? ad = some v ∧ Q v := ⟨v, h hH, q⟩
theorem Qi {P Q : Prop} (q : Q) (h : P = Q := by simp -implicitDefEqProofs only [go_sem,↓reduceIte,Nat.reduceEqDiff]; exact rfl) : P := h.mpr q
theorem VQi {P : Program} {fn : Func} {F : Value → World → Prop} {N : Nat} {k k' : List It} {e : Env} {w : World} (ks : List Nat) {c : Code} {id : Nat} {ops : List Oper} {Y : (Env → World → Prop) → Prop}
    (h : ∀ K : Env → World → Prop, (∀ e w, VC ⟨P, fn, F, N⟩ k' e w → K e w) → Y K) (hp : peel c k = .code (.region id ops.toArray false) :: k' := by rfl) (hN : ops.all (dstOk N) = true := by rfl)
    (hY : ∀ K, vcOps P N ops ops e w (selC ks K) = Y K := by intro K; simp -implicitDefEqProofs only [go_sem,↓reduceIte,Nat.reduceEqDiff]; exact rfl) : VC ⟨P, fn, F, N⟩ (.code c :: k) e w := VR ks hp hN fun K hK => (hY K).mpr (h K hK)
/-- Regions whose order is open. -/
theorem VL {P : Program} {fn : Func} {F : Value → World → Prop} {N : Nat} {k k' : List It} {e : Env} {w : World} (ks : List Nat) (m : Nat) {c : Code} {id : Nat} {ops : List Oper} {Y : (Env → World → Prop) → Prop}
    (h : ∀ K : Env → World → Prop, (∀ e w, VC ⟨P, fn, F, N⟩ k' e w → K e w) → Y K) (hp : peel c k = .code (.region id ops.toArray true) :: k' := by rfl) (hm : P.follows .mixedOrders = true := by kernel_rfl)
    (hB : Region.lexTailB .any ops.toArray m = true := by kernel_rfl) (hq : (ops.take m).all (fun o => isPure P o.op) = true := by kernel_rfl) (hN : ops.all (dstOk N) = true := by rfl)
    (hY : ∀ K, vcOps P N ops ops e w (selC ks K) = Y K := by intro K; simp only [go_sem,↓reduceIte,Nat.reduceEqDiff]; exact rfl) : VC ⟨P, fn, F, N⟩ (.code c :: k) e w := VC_peel c k (hp ▸ VC_regionL ks m hm hB hq hN fun K hK => (hY K).mpr (h K hK))
theorem Vq {P : Program} {fn : Func} {F : Value → World → Prop} {N : Nat} {k k' : List It} {e : Env} {w : World} (ks : List Nat) {c : Code} {id : Nat} {ops : List Oper} {Y : (Env → Prop) → Prop}
    (h : ∀ K : Env → Prop, (∀ e, VC ⟨P, fn, F, N⟩ k' e w → K e) → Y K) (hp : peel c k = .code (.region id ops.toArray true) :: k' := by rfl) (hm : P.follows .mixedOrders = true := by kernel_rfl)
    (hB : Region.lexB .any ops.toArray = true := by kernel_rfl) (hN : ops.all (dstOk N) = true := by rfl)
    (hY : ∀ K, vcQ P N ops ops e w (selQ ks K) = Y K := by intro K; simp only [go_sem,↓reduceIte,Nat.reduceEqDiff]; exact rfl) : VC ⟨P, fn, F, N⟩ (.code c :: k) e w := VC_peel c k (hp ▸ VC_regionQ ks hm hB hN fun K hK => (hY K).mpr (h K hK))
theorem VH {P : Program} {fn : Func} {F : Value → World → Prop} {N : Nat} {k k' : List It} {e : Env} {w : World} (w0 : World) (hx : Ext w0 w) (ks : List Nat) (plan : List (Nat × Bool)) {c : Code} {id : Nat} {ops : List Oper} {l : List (Bool × Oper)} {Y : (Env → World → Prop) → Prop}
    (h : ∀ K : Env → World → Prop, (∀ e w, VC ⟨P, fn, F, N⟩ k' e w → K e w) → Y K) (hp : peel c k = .code (.region id ops.toArray true) :: k' := by rfl) (hm : P.follows .mixedOrders = true := by kernel_rfl)
    (hB : (planOk ops.toArray plan (Array.replicate ops.toArray.size false) && Region.noSelect ops.toArray && decide (plan.length ≤ ops.length)) = true := by kernel_rfl) (hN : ops.all (dstOk N) = true := by rfl) (hl : planned ops plan = l := by simp only [planned, List.filterMap_cons, List.filterMap_nil, List.getElem?_cons_succ, List.getElem?_cons_zero, Option.map_some]; rfl)
    (hY : ∀ K, vcH P N ops w0 l e w (selC ks K) = Y K := by intro K; simp only [go_sem,↓reduceIte,Nat.reduceEqDiff]; exact rfl) : VC ⟨P, fn, F, N⟩ (.code c :: k) e w := VC_peel c k (hp ▸ VC_regionH w0 hx ks plan hm hB hN hl fun K hK => (hY K).mpr (h K hK))
theorem Vb {P : Program} {fn : Func} {F : Value → World → Prop} {N : Nat} {k k' : List It} {e : Env} {w : World} (ks : List Nat) (plan : List (Nat × Nat)) {c : Code} {id : Nat} {ops : List Oper} {l : List (Bool × Oper)} {Y : (Env → World → Prop) → Prop}
    (h : ∀ K : Env → World → Prop, (∀ e w, VC ⟨P, fn, F, N⟩ k' e w → K e w) → Y K) (hp : peel c k = .code (.region id ops.toArray true) :: k' := by rfl) (hm : P.follows .mixedOrders = true := by kernel_rfl)
    (hB : (planB ops.toArray plan (Array.replicate ops.toArray.size false) && Region.noSelect ops.toArray && decide (plan.length ≤ ops.length)) = true := by kernel_rfl) (hN : ops.all (dstOk N) = true := by kernel_rfl) (hl : planned ops (plan.map fun p => (p.1, p.2 == 0)) = l := by simp only [planned, List.map_cons, List.map_nil, beq_self_eq_true, Nat.reduceBEq, List.filterMap_cons, List.filterMap_nil, List.getElem?_cons_succ, List.getElem?_cons_zero, Option.map_some]; rfl)
    (hY : ∀ K, vcH P N ops (bare w) l e w (selC ks K) = Y K := by intro K; simp only [go_sem,↓reduceIte,Nat.reduceEqDiff]; exact rfl) : VC ⟨P, fn, F, N⟩ (.code c :: k) e w := VC_peel c k (hp ▸ VC_regionB ks plan hm hB hN hl fun K hK => (hY K).mpr (h K hK))
theorem V3 {P : Program} {fn : Func} {F : Value → World → Prop} {N : Nat} {k k' : List It} {e : Env} {w : World} (w0 : World) (hx : Ext w0 w) (ks : List Nat) (t : Tree3) {c : Code} {id : Nat} {ops : List Oper}
    (h : ∀ K : Env → World → Prop, (∀ e w, VC ⟨P, fn, F, N⟩ k' e w → K e w) → vcT3 P N ops w0 t e w (selC ks K)) (hp : peel c k = .code (.region id ops.toArray true) :: k' := by rfl) (hm : P.follows .mixedOrders = true := by kernel_rfl)
    (hB : (treeOk3 ops.toArray t ops.toArray.size (Array.replicate ops.toArray.size false) && Region.noSelect ops.toArray) = true := by kernel_rfl) (hN : ops.all (dstOk N) = true := by rfl) : VC ⟨P, fn, F, N⟩ (.code c :: k) e w := VC_peel c k (hp ▸ VC_regionT3 w0 hx ks t hm hB hN h)
/-- The first of a sequence, in the general judgement. -/
theorem VG_peel {C : CtxG} {e : Env} {w : World} : ∀ (c : Code) (k : List It), VG C (peel c k) e w → VG C (.code c :: k) e w := by
  intro c
  induction c with
  | seq a b iha ihb => intro k h; exact VG_seq (iha _ h)
  | _ => intro k h; exact h
theorem GQ {C : CtxG} {k k' : List It} {e : Env} {w : World} (ks : List Nat) {c : Code} {id : Nat} {ops : List Oper} {Y : (Env → World → Prop) → Prop}
    (h : ∀ K : Env → World → Prop, (∀ e w, VG C k' e w → K e w) → Y K) (hp : peel c k = .code (.region id ops.toArray false) :: k' := by rfl) (hN : (ops.all (dstOk C.N) && ops.all noDefer) = true := by kernel_rfl)
    (hY : ∀ K, vcOps C.P C.N ops ops e w (selC ks K) = Y K := by intro K; simp only [go_sem,↓reduceIte,Nat.reduceEqDiff]; exact rfl) : VG C (.code c :: k) e w := VG_peel c k (hp ▸ VG_region ks hN fun K hK => (hY K).mpr (h K hK))
/-- A function entered. -/
theorem En {P : Program} {f : FuncId} {fn : Func} {c : Code} {w : World} {F : Value → World → Prop} {E : Env} (args : List Value) (N : Nat) (hf : P.funcs[f]? = some fn) (h : VC ⟨P, fn, F, N⟩ [.code c] E w)
    (hb : fn.body = some c := by rfl) (hN : fn.ntmps = N := by rfl) (hle : args.length ≤ N := by exact of_decide_eq_true rfl) (hE : Env.ofArgs 0 args = E := by simp only [Env.ofArgs]; exact rfl) : Does P f args.toArray w F :=
  Does_enter N hf hb hN hle (hE ▸ h)
/-- A branch on what can be decided. -/
theorem VD {C : Ctx} {k : List It} {e : Env} {w : World} {t : Tmp} {p : Prop} {d : Decidable p} {x y : Code} (ht : p → VC C (.code x :: k) e w) (hf : ¬p → VC C (.code y :: k) e w) (hv : e.find? t = some (.bool (decide p)) := by rfl) : VC C (.code (.cond (.tmp t) x y) :: k) e w :=
  VC_cond rfl hv (fun h => ht (of_decide_eq_true h)) fun h => hf (of_decide_eq_false h)
end Go.Eng
