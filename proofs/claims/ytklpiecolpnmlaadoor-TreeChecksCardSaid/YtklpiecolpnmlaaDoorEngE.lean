/- A program logic over the model: what is left to do, what is known of the frame, what the call holds of memory. No conditions: a library of lemmas. -/
import Derived.Test.YtklpiecolpnmlaaDoorEngD
import Derived.StillTail
set_option linter.unusedSimpArgs false
set_option linter.unusedVariables false
/-! The engine, part 12: regions in which two operations may come up side by side: every order is asked. -/
namespace Go.Eng
open Go

/-- What is listed behind a plan, if each of its operations may be taken first or is the only one that may come up. -/
def planTo (ops : Array Oper) : List (Nat × Bool) → Array Bool → Option (Array Bool)
  | [], listed => some listed
  | (i, t) :: plan, listed =>
    if (decide (i < ops.size) && (match t with
      | true => Region.free .any ops listed i && (Region.ready .any ops listed).contains i
      | false => Region.ready .any ops listed == [i])) = true then planTo ops plan (listed.setIfInBounds i true) else none

theorem ite_some {α : Type} {c : Prop} [Decidable c] {a : Option α} {x : α} (h : (if c then a else none) = some x) : c ∧ a = some x := by
  by_cases hc : c
  · rw [if_pos hc] at h; exact ⟨hc, h⟩
  · rw [if_neg hc] at h; cases h

inductive Tree where
  | seq (pre : List (Nat × Bool)) : Tree
  | two (pre : List (Nat × Bool)) (i j : Nat) (k k' : Tree) : Tree

def treeOk (ops : Array Oper) : Tree → Nat → Array Bool → Bool
  | .seq pre, fuel, listed => decide (pre.length ≤ fuel) && match planTo ops pre listed with
    | some l => (Region.ready .any ops l).isEmpty
    | none => false
  | .two pre i j k k', fuel, listed => decide (pre.length + 1 ≤ fuel) && match planTo ops pre listed with
    | some l => Region.ready .any ops l == [i, j] && decide (i < ops.size) && decide (j < ops.size) && treeOk ops k (fuel - pre.length - 1) (l.setIfInBounds i true) && treeOk ops k' (fuel - pre.length - 1) (l.setIfInBounds j true)
    | none => false

def vcT (P : Program) (N : Nat) (ops : List Oper) (w0 : World) : Tree → Env → World → (Env → World → Prop) → Prop
  | .seq pre, e, w, K => vcH P N ops w0 (planned ops pre) e w K
  | .two pre i j k k', e, w, K => vcH P N ops w0 (planned ops pre) e w fun e w =>
      vcH P N ops w0 (planned ops [(i, false)]) e w (fun e w => vcT P N ops w0 k e w K) ∧ vcH P N ops w0 (planned ops [(j, false)]) e w (fun e w => vcT P N ops w0 k' e w K)

section
variable {P : Program} {N : Nat} {ops : List Oper} {w0 : World} {Q : Exit → Act → World → Prop}

/-- One of those that may come up comes up. -/
theorem vcH_pick {K : Env → World → Prop} (hN : ops.all (dstOk N) = true) {i : Nat} (hi : i < ops.length) {R : Act → World → Prop} {e : Env} {a : Act} {w : World} {n : Nat} (ha : Fits N e a) (hx : Ext w0 w)
    (h : vcH P N ops w0 (planned ops [(i, false)]) e w K) (hR : ∀ e a w n, Fits N e a → Ext w0 w → K e w → R a (w.drewN n)) : wpOp P ops.toArray Q i R a (w.drewN n) := by
  obtain ⟨o, ho⟩ : ∃ o, ops[i]? = some o := ⟨ops[i], List.getElem?_eq_getElem hi⟩
  have hoa : ops.toArray[i]? = some o := by simpa using ho
  have hod : dstOk N o = true := by
    rw [List.all_eq_true] at hN
    exact hN o (List.mem_of_getElem? ho)
  have hpl : planned ops [(i, false)] = [(false, o)] := by simp [planned, ho]
  rw [hpl] at h
  rcases vGuard_sound ha h with ⟨e', ha', h', hw⟩ | ⟨e', ha', h', hw⟩
  · unfold wpOp
    simp only [hoa, hw, if_true]
    refine .inl ?_
    have h' : vcStepH P N (isPure P o.op) false o e' w0 w (vcH P N ops w0 []) K := h'
    cases hpo : isPure P o.op with
    | true =>
      rw [hpo] at h'
      simp only [vcStepH, pw] at h'
      obtain ⟨v, hv, hr⟩ := vcOp_sound ha' h'
      unfold Oper.wp
      rw [hr (w.drewN n) (Ext.drewN w n)]
      exact hR _ _ w n (ha'.put' hod v) hx hv
    | false =>
      rw [hpo] at h'
      have h' : MemH P N o e' w0 w (vcH P N ops w0 []) K := h'
      exact h' a n _ Q ha' fun v w' m hv => hR _ _ w' m (ha'.put' hod v) hv.1 hv.2
  · unfold wpOp
    simp only [hoa, hw, Bool.false_eq_true, if_false]
    exact hR _ _ w n (ha'.put' hod undef) hx h'

theorem vcH_then {K : Env → World → Prop} (hN : ops.all (dstOk N) = true) (hsel : Region.noSelect ops.toArray = true)
    (hQ : ∀ c a w (d : Option Tmp) v, Q (.panic c) (a.put d v) w → Q (.panic c) a w) : ∀ (plan : List (Nat × Bool)) (fuel : Nat) (listed l' : Array Bool) (e : Env) (a : Act) (w : World) (n : Nat),
      plan.length ≤ fuel → planTo ops.toArray plan listed = some l' → Fits N e a → Ext w0 w → vcH P N ops w0 (planned ops plan) e w K →
      (∀ e a w n, Fits N e a → Ext w0 w → K e w → wpAnyH P .any ops.toArray Q (fun w' => Ext w0 w') (fuel - plan.length) l' a (w.drewN n)) →
      wpAnyH P .any ops.toArray Q (fun w' => Ext w0 w') fuel listed a (w.drewN n) := by
  intro plan
  induction plan with
  | nil =>
    intro fuel listed l' e a w n _ hp ha hx h hK
    simp only [planTo, Option.some.injEq] at hp
    subst hp
    exact hK e a w n ha hx h
  | cons p plan ih =>
    obtain ⟨i, t⟩ := p
    intro fuel listed l' e a w n hf hp ha hx h hK
    simp only [planTo] at hp
    obtain ⟨hstep, hp2⟩ := ite_some hp
    clear hp
    simp only [Bool.and_eq_true, decide_eq_true_eq] at hstep
    obtain ⟨hi, hstep⟩ := hstep
    have hi' : i < ops.length := by simpa using hi
    obtain ⟨o, ho⟩ : ∃ o, ops[i]? = some o := ⟨ops[i], List.getElem?_eq_getElem hi'⟩
    have hoa : ops.toArray[i]? = some o := by simpa using ho
    have hod : dstOk N o = true := by
      rw [List.all_eq_true] at hN
      exact hN o (List.mem_of_getElem? ho)
    have hpl : planned ops ((i, t) :: plan) = (t, o) :: planned ops plan := by simp [planned, ho]
    cases fuel with
    | zero => simp at hf
    | succ fuel =>
    have hf' : plan.length ≤ fuel := by simpa using hf
    have hK' : ∀ e a w n, Fits N e a → Ext w0 w → K e w → wpAnyH P .any ops.toArray Q (fun w' => Ext w0 w') (fuel - plan.length) l' a (w.drewN n) := by
      intro e a w n h1 h2 h3
      have := hK e a w n h1 h2 h3
      simpa using this
    cases t with
    | true =>
      rw [hpl] at h
      simp only [Bool.and_eq_true] at hstep
      rcases vGuard_sound ha h with ⟨e', ha', h', hw⟩ | ⟨e', ha', h', hw⟩
      · have h' : vcStepH P N (isPure P o.op) true o e' w0 w (vcH P N ops w0 (planned ops plan)) K := h'
        cases hpo : isPure P o.op with
        | true =>
          rw [hpo] at h'
          simp only [vcStepH, pw] at h'
          obtain ⟨v, hv, hr⟩ := vcOp_sound ha' h'
          refine wpAnyH_take hoa hsel hstep.1 hstep.2 (fun c a w => hQ c a w o.dst v) (.inl ⟨hw, fun w' hw' => hr w' hw'⟩) (hx.trans (Ext.drewN w n)) ?_
          exact ih fuel _ _ _ _ w n hf' hp2 (ha'.put' hod v) hx hv hK'
        | false => rw [hpo] at h'; exact h'.elim
      · exact wpAnyH_take hoa hsel hstep.1 hstep.2 (fun c a w => hQ c a w o.dst undef) (.inr ⟨hw, rfl⟩) (hx.trans (Ext.drewN w n)) (ih fuel _ _ _ _ w n hf' hp2 (ha'.put' hod undef) hx h' hK')
    | false =>
      simp only [beq_iff_eq] at hstep
      refine wpAnyH_all hstep (by simp) ?_
      intro j hj
      simp only [List.mem_singleton] at hj
      subst hj
      have h2 : vcH P N ops w0 (planned ops [(j, false)]) e w (fun e w => vcH P N ops w0 (planned ops plan) e w K) := by
        rw [hpl] at h
        have hp1 : planned ops [(j, false)] = [(false, o)] := by simp [planned, ho]
        rw [hp1]
        exact h
      exact vcH_pick hN hi' ha hx h2 fun e a w n h1 h2 h3 => ⟨h2.trans (Ext.drewN w n), ih fuel _ _ _ _ w n hf' hp2 h1 h2 h3 hK'⟩

theorem vcT_sound {K : Env → World → Prop} (hN : ops.all (dstOk N) = true) (hsel : Region.noSelect ops.toArray = true)
    (hQ : ∀ c a w (d : Option Tmp) v, Q (.panic c) (a.put d v) w → Q (.panic c) a w)
    (hK : ∀ e a w n, Fits N e a → K e w → Q .normal a (w.drewN n)) : ∀ (t : Tree) (fuel : Nat) (listed : Array Bool) (e : Env) (a : Act) (w : World) (n : Nat),
      treeOk ops.toArray t fuel listed = true → Fits N e a → Ext w0 w → vcT P N ops w0 t e w K →
      wpAnyH P .any ops.toArray Q (fun w' => Ext w0 w') fuel listed a (w.drewN n) := by
  intro t
  induction t with
  | seq pre =>
    intro fuel listed e a w n ht ha hx h
    simp only [treeOk, Bool.and_eq_true, decide_eq_true_eq] at ht
    obtain ⟨hf, ht⟩ := ht
    cases hp : planTo ops.toArray pre listed with
    | none => rw [hp] at ht; cases ht
    | some l =>
      rw [hp] at ht
      simp only [List.isEmpty_iff] at ht
      exact vcH_then hN hsel hQ pre fuel listed l e a w n hf hp ha hx h fun e a w n h1 _ h3 => wpAnyH_done ht (hK e a w n h1 h3) _
  | two pre i j k k' ihk ihk' =>
    intro fuel listed e a w n ht ha hx h
    simp only [treeOk, Bool.and_eq_true, decide_eq_true_eq] at ht
    obtain ⟨hf, ht⟩ := ht
    cases hp : planTo ops.toArray pre listed with
    | none => rw [hp] at ht; cases ht
    | some l =>
      rw [hp] at ht
      simp only [Bool.and_eq_true, beq_iff_eq, decide_eq_true_eq] at ht
      obtain ⟨⟨⟨⟨hr, hi⟩, hj⟩, h1⟩, h2⟩ := ht
      refine vcH_then hN hsel hQ pre fuel listed l e a w n (by omega) hp ha hx h fun e a w n g1 g2 g3 => ?_
      obtain ⟨m, hm⟩ : ∃ m, fuel - pre.length = m + 1 := ⟨fuel - pre.length - 1, by omega⟩
      rw [hm]
      have hm' : fuel - pre.length - 1 = m := by omega
      rw [hm'] at h1 h2
      refine wpAnyH_all hr (by simp) ?_
      intro x hx2
      simp only [List.mem_cons, List.not_mem_nil, or_false] at hx2
      rcases hx2 with rfl | rfl
      · exact vcH_pick hN (by simpa using hi) g1 g2 g3.1 fun e a w n f1 f2 f3 => ⟨f2.trans (Ext.drewN w n), ihk m _ e a w n h1 f1 f2 f3⟩
      · exact vcH_pick hN (by simpa using hj) g1 g2 g3.2 fun e a w n f1 f2 f3 => ⟨f2.trans (Ext.drewN w n), ihk' m _ e a w n h2 f1 f2 f3⟩
end

/-- A region whose order is open, in every order that the tree names. -/
theorem VC_regionT {P : Program} {fn : Func} {F : Value → World → Prop} {N : Nat} {k : List It} {e : Env} {w : World} (w0 : World) (hx : Ext w0 w) (ks : List Nat) (t : Tree) {id : Nat} {ops : List Oper}
    (hm : P.follows .mixedOrders = true) (hB : (treeOk ops.toArray t ops.toArray.size (Array.replicate ops.toArray.size false) && Region.noSelect ops.toArray) = true) (hN : ops.all (dstOk N) = true)
    (h : ∀ K : Env → World → Prop, (∀ e w, VC ⟨P, fn, F, N⟩ k e w → K e w) → vcT P N ops w0 t e w (selC ks K)) : VC ⟨P, fn, F, N⟩ (.code (.region id ops.toArray true) :: k) e w := by
  intro a n ha
  simp only [Bool.and_eq_true] at hB
  obtain ⟨hB1, hB2⟩ := hB
  refine wp_region_held (S := fun w' => Ext w0 w') hm ?_
  refine vcT_sound (K := selC ks (VC ⟨P, fn, F, N⟩ k)) hN hB2 (fun c a w d v hq => cont_panic d v hq) (fun e a w n ha hv => ?_) t _ _ e a w (n + 1) hB1 ha hx (h _ fun _ _ hv => hv)
  exact ((selK_spec ks e _).1 hv) a n (ha.sel ks)
end Go.Eng

/-! The engine, part 13: append of noughts (append(out, make(..)...)). -/
namespace Go.Eng
open Go
section
variable {P : Program} {N : Nat} {d : Option Tmp} {ty : Nat} {pos : String} {af : Array Edge} {gd : Option (Nat × Bool)} {e : Env} {w : World} {R : Env → World → (Env → World → Prop) → Prop} {K : Env → World → Prop}

/-- append of noughts, over a row of the call's own. -/
theorem run_append_zeros1 {w0 : World} {B : List Nat} {G : List Res} (hH : Heap w0 B w G) (i : Nat) {T T' E ty : TypeId} {bytes : Nat} {zv : Value} {a : Option Addr} {n cap m : Nat} {xs : List Value}
    (hi : G[i]? = some (Res.row E 1 a n cap xs)) (hu : P.underlying T = some (.slice E)) (hz : (P.info? E).map (fun i => (i.zero.map Value.cells, i.size, i.bytes)) = some (some #[zv], 1, bytes))
    (hT' : P.underlying T' = some (.int .i64)) (h1 : zv.oneCell' = true) (hm0 : ¬ m = 0) (hmb : m * bytes ≤ 281474976710656) (hm63 : m ≤ 9223372036854775807) (hb : cap < n + m → (n + m) * bytes ≤ 140737488355328 ∧ n + m ≤ 9223372036854775807) (k : Nat) :
    ∃ a' cap' w' k', (Builtin.append_ #[T, T'] ty #[.slice a n cap, .int .i64 m]).run P (w.drewN k) = .ok (.slice a' (n + m) cap') (w'.drewN k') ∧ Heap w0 B w' (G.set i (Res.row E 1 a' (n + m) cap' (xs ++ List.replicate m zv))) ∧ (n + m ≤ cap → a' = a ∧ cap' = cap) := by
  have hrow := hH.at i hi
  obtain ⟨hxl, hnc, hcm, hcase⟩ := hrow
  generalize hnews : List.replicate m zv = news
  have hnl : news.length = m * 1 := by rw [← hnews]; simp
  have h1 : ∀ u ∈ news, u.oneCell' = true := by
    intro u hu
    rw [← hnews] at hu
    rw [(List.mem_replicate.1 hu).2]; exact h1
  cases hinfo : P.info? E with
  | none => simp [hinfo] at hz
  | some ti =>
  simp only [hinfo, Option.map_some, Option.some.injEq, Prod.mk.injEq] at hz
  obtain ⟨hz1, hz2, hz3⟩ := hz
  cases hzz : ti.zero with
  | none => simp [hzz] at hz1
  | some z =>
  simp only [hzz, Option.map_some, Option.some.injEq] at hz1
  have hso : ∀ w, (sizeOf E).run P w = .ok 1 w := fun w => by simp [sizeOf, typeInfo, hinfo, hz2]
  have hti : ∀ w, (typeInfo E).run P w = .ok ti w := fun w => by simp [typeInfo, hinfo]
  have hzv : ∀ w, (zeroValue E).run P w = .ok z w := fun w => by simp [zeroValue, typeInfo, hinfo, hzz]
  have hund : ∀ w, (underlying T').run P w = .ok (.int .i64) w := fun w => run_underlying hT' w
  have hwr : IntKind.i64.wrap (m : Int) = m := wrap_i64_of ⟨by omega, by omega⟩
  have hneg : ¬ (m : Int) < 0 := by omega
  have hw0 : IntKind.i64.wrap 0 = 0 := by decide
  have hbig : ¬ 281474976710656 < (m : Int) * (bytes : Int) := by
    have : ((m * bytes : Nat) : Int) = (m : Int) * (bytes : Int) := Int.natCast_mul _ _
    omega
  have hzc : Builtin.zeroCells z.cells m = news.toArray := by
    rw [hz1, ← hnews]
    apply Array.ext
    · simp [Builtin.zeroCells]
    · intro j h1 h2
      simp [Builtin.zeroCells, Nat.mod_one]
  by_cases hroom : n + m ≤ cap
  · -- there is room
    rcases hcase with ⟨rfl, rfl, rfl⟩ | ⟨g, rest, fz, rfl, hg, hl2, hfz⟩
    · have hm : m = 0 := by omega
      subst hm
      have hn : news = [] := List.eq_nil_of_length_eq_zero (by simpa using hnl)
      subst hn
      refine ⟨none, 0, w, k, ?_, ?_, fun _ => ⟨rfl, rfl⟩⟩
      · simp [Builtin.append_, run_underlying hu, hso, hund, asInt, asIntOf, hw0, hwr, hneg, hbig, hz3, hti, hm0, hzv, hzc]
      · have : xs ++ [] = xs := by simp
        rw [this]
        have : G.set i (Res.row E 1 none 0 0 xs) = G := by
          apply List.ext_getElem?
          intro j
          rw [List.getElem?_set]
          split
          · rename_i hj; subst hj; split <;> simp_all
          · rfl
        simp only [Nat.zero_add]
        rw [this]; exact hH
    · have hlt : g < w.heap.size := (Array.getElem?_eq_some_iff.1 hg).1
      have hfit : n * 1 + news.length ≤ (xs ++ rest).length := by rw [hl2, hnl, ← Nat.add_mul]; exact Nat.mul_le_mul_right _ hroom
      have hst := run_storeCells_blk (P := P) g (n * 1) E fz news 0 (xs ++ rest) (w.drewN k) hg (by rw [hl2]; exact hfz) (by simpa using hfit) h1
      have hadd : (⟨g, 0, none⟩ : Addr).add (n * 1) = ⟨g, n * 1, none⟩ := by unfold Addr.add; split <;> simp_all
      have hcs : (xs ++ rest).take (n * 1 + 0) ++ news ++ (xs ++ rest).drop (n * 1 + 0 + news.length) = (xs ++ news) ++ rest.drop news.length := by
        rw [Nat.add_zero, ← hxl, List.take_left]
        rw [List.drop_append]
        simp
      rw [hcs] at hst
      have hadd' : (⟨g, 0, none⟩ : Addr).add n = ⟨g, n, none⟩ := by rw [Nat.mul_one] at hadd; exact hadd
      have hst' := hst
      rw [Nat.mul_one] at hst'
      refine ⟨some ⟨g, 0, none⟩, cap, putBlk w g ((xs ++ news) ++ rest.drop news.length) E fz, k, ?_, ?_, fun _ => ⟨rfl, rfl⟩⟩
      · simp [Builtin.append_, run_underlying hu, hso, hund, asInt, asIntOf, hw0, hwr, hneg, hbig, hz3, hti, hm0, hzv, hzc, hroom, hadd', hst', putBlk_drewN]
      · refine hH.set i hi (putBlk_upd _ _ _ _ _) ⟨?_, hroom, hcm, .inr ⟨g, rest.drop news.length, fz, rfl, putBlk_at hlt, ?_, hfz⟩⟩ ?_
        · rw [List.length_append, hxl, hnl, Nat.add_mul]
        · simp at hl2 hfit ⊢; omega
        · intro b hb; exact ⟨.inl hb, by rw [putBlk_size]; simp [Res.row] at hb; omega⟩
  · -- it grows
    obtain ⟨hb1, hb2⟩ := hb (by omega)
    have hg63 : ¬ ((n + m : Nat) : Int) > IntKind.i64.max := by
      have : IntKind.i64.max = 9223372036854775807 := by decide
      rw [this]; omega
    have hfits : ¬ (Builtin.nextslicecap (n + m) cap * ti.bytes > 2 ^ 48) := by
      have := growslice_fits (need := n + m) (old := cap) (bytes := ti.bytes) (by omega) (by rw [hz3]; exact hb1)
      have e : (2 : Nat) ^ 48 = 281474976710656 := by decide
      rw [e]; omega
    have hold : (Builtin.firstCells 1 n (.slice a n cap)).run P (w.drewN (k + 1)) = .ok xs.toArray (w.drewN (k + 1)) := by
      have hrs := row_rs (hH.at i hi)
      cases a with
      | none =>
        have hn0 := hrs.2.1 rfl
        subst hn0
        have : xs = [] := List.eq_nil_of_length_eq_zero (by simpa using hxl)
        subst this
        simp [Builtin.firstCells]
      | some ad => exact run_firstCells_some (P := P) _ 1 n ad n cap xs hxl (fun j v hv => (hrs.2.2 ad rfl).heap (w' := w.drewN (k + 1)) rfl j v hv)
    have hge := grownCap_ge (w.drewN k) (n + m) cap E
    have hcm' := grownCap_le_maxLen (w.drewN k) (n + m) cap E (by simp only [maxLen]; omega)
    refine ⟨some ⟨w.heap.size, 0, none⟩, grownCap (w.drewN k) (n + m) cap E, w.alloc (.cells (xs.toArray ++ news.toArray ++ Builtin.zeroCells z.cells (grownCap (w.drewN k) (n + m) cap E - (n + m))) E), k + 1, ?_, ?_, fun h => absurd h hroom⟩
    · have hz2' : ¬ (9223372036854775807 < ((n : Int) + (m : Int))) := by omega
      have hz3' : ¬ (281474976710656 < Builtin.nextslicecap (n + m) cap * ti.bytes) := by
        have e : (2 : Nat) ^ 48 = 281474976710656 := by decide
        rw [e] at hfits; omega
      have hf2 := hzv (w.drewN (k + 1))
      have hra := fun n w => run_askRoom (P := P) n w
      simp [Builtin.append_, run_underlying hu, hso, hund, asInt, asIntOf, hwr, hneg, hbig, hz3, hm0, hzc, hroom, hti, hz2', (hz3 ▸ hz3'), hra, hold, hf2, hzv, run_newRow, Question.forced, grownCap]
      rw [drewN_alloc]
      congr 3
      apply Array.ext'
      simp
    · have hcells : (xs.toArray ++ news.toArray ++ Builtin.zeroCells z.cells (grownCap (w.drewN k) (n + m) cap E - (n + m))) = ((xs ++ news) ++ (Builtin.zeroCells z.cells (grownCap (w.drewN k) (n + m) cap E - (n + m))).toList).toArray := by
        apply Array.ext'; simp
      rw [hcells]
      have hzc : z.cells.size = 1 := by rw [hz1]; rfl
      refine hH.set i hi ⟨rfl, rfl, rfl, by simp, fun k hk _ => RowKit.Below.heap_alloc _ _ _ hk⟩ ⟨?_, hge, hcm', .inr ⟨w.heap.size, _, (0, 0), rfl, heap_alloc_new w _, ?_, unfz00 _⟩⟩ ?_
      · rw [List.length_append, hxl, hnl, Nat.add_mul]
      · rw [List.length_append, List.length_append, hxl, hnl, Array.length_toList, size_zeroCells, hzc, ← Nat.add_mul, ← Nat.add_mul]
        congr 1; omega
      · intro b hb
        simp [Res.row] at hb
        subst hb
        exact ⟨.inr (Nat.le_refl _), by simp⟩


theorem run_append_zeros0 {w0 : World} {B : List Nat} {G : List Res} (hH : Heap w0 B w G) (i : Nat) {T T' E ty : TypeId} {bytes : Nat} {zv : Value} {a : Option Addr} {n cap : Nat} {xs : List Value}
    (hi : G[i]? = some (Res.row E 1 a n cap xs)) (hu : P.underlying T = some (.slice E)) (hz : (P.info? E).map (fun i => (i.zero.map Value.cells, i.size, i.bytes)) = some (some #[zv], 1, bytes)) (hT' : P.underlying T' = some (.int .i64)) (k : Nat) :
    (Builtin.append_ #[T, T'] ty #[.slice a n cap, .int .i64 0]).run P (w.drewN k) = .ok (.slice a n cap) (w.drewN k) := by
  obtain ⟨hxl, hnc, hcm, hcase⟩ := hH.at i hi
  cases hinfo : P.info? E with
  | none => simp [hinfo] at hz
  | some ti =>
  simp only [hinfo, Option.map_some, Option.some.injEq, Prod.mk.injEq] at hz
  obtain ⟨hz1, hz2, hz3⟩ := hz
  have hso : ∀ w, (sizeOf E).run P w = .ok 1 w := fun w => by simp [sizeOf, typeInfo, hinfo, hz2]
  have hti : ∀ w, (typeInfo E).run P w = .ok ti w := fun w => by simp [typeInfo, hinfo]
  have hund : ∀ w, (underlying T').run P w = .ok (.int .i64) w := fun w => run_underlying hT' w
  have hw0 : IntKind.i64.wrap 0 = 0 := by decide
  cases a with
  | none => simp [Builtin.append_, run_underlying hu, hso, hund, asInt, asIntOf, hw0, hti, hnc]
  | some ad => simp [Builtin.append_, run_underlying hu, hso, hund, asInt, asIntOf, hw0, hti, hnc, storeCells]

theorem AppK_zeros {w0 : World} {B : List Nat} {G : List Res} (hH : Heap w0 B w G) (i : Nat) {T T' E ty : TypeId} {bytes : Nat} {zv : Value} {a : Option Addr} {n cap m : Nat} {xs : List Value} {x : Int} {C : Value → World → Prop}
    (hi : G[i]? = some (Res.row E 1 a n cap xs)) (hx : x = m) (hu : P.underlying T = some (.slice E)) (hz : (P.info? E).map (fun i => (i.zero.map Value.cells, i.size, i.bytes)) = some (some #[zv], 1, bytes))
    (hT' : P.underlying T' = some (.int .i64)) (h1 : zv.oneCell' = true) (hb : (n + m) * bytes ≤ 140737488355328 ∧ n + m ≤ 9223372036854775807)
    (h : ∀ a' cap' w', (n + m ≤ cap → a' = a ∧ cap' = cap) → Heap w0 B w' (G.set i (Res.row E 1 a' (n + m) cap' (xs ++ List.replicate m zv))) → C (.slice a' (n + m) cap') w') :
    AppK P #[T, T'] ty [.slice a n cap, .int .i64 x] w C := by
  subst hx
  intro k
  have hle : m * bytes ≤ (n + m) * bytes := Nat.mul_le_mul_right _ (by omega)
  by_cases hm0 : m = 0
  · subst hm0
    have e : G.set i (Res.row E 1 a (n + 0) cap (xs ++ List.replicate 0 zv)) = G := by
      simp only [Nat.add_zero, List.replicate_zero, List.append_nil]
      exact List.ext_getElem? fun j => by
        rw [List.getElem?_set]
        split
        · rename_i hj; subst hj; rw [hi]; simp [(List.getElem?_eq_some_iff.1 hi).1]
        · rfl
    exact ⟨_, w, k, run_append_zeros0 (P := P) (ty := ty) hH i hi hu hz hT' k, h a cap w (fun _ => ⟨rfl, rfl⟩) (by rw [e]; exact hH)⟩
  obtain ⟨a', cap', w', k', hr, hH', hc⟩ := run_append_zeros1 (P := P) (ty := ty) hH i hi hu hz hT' h1 hm0 (by omega) (by omega) (fun _ => hb) k
  exact ⟨_, w', k', hr, h a' cap' w' hc hH'⟩

/-- One part alone. -/
theorem Heap.focus {w0 : World} {B : List Nat} {G : List Res} {r : Res} (h : Heap w0 B w G) (i : Nat) (hi : G[i]? = some r) : Heap w r.foot w [r] :=
  Heap.one (h.at i hi) fun b hb => (h.foot r (List.mem_of_getElem? hi) b hb).2

/-- What was there ahead of all lies in no part of the call's own. -/
theorem Heap.hole_cell {w0 : World} {G : List Res} {r : Res} (h : Heap w0 [] w G) (i : Nat) (hi : G[i]? = some r) {ad : Addr} {v : Value} (hc : w0.cell? ad = some v) : (holes r.foot w).cell? ad = some v := by
  have hlt := World.block_lt_of_cell? w0 _ hc
  refine holes_cell ?_ fun hb => ?_
  · rw [World.cell?_of_block (w := w0)]
    · exact hc
    · exact h.upd.block _ hlt (by simp)
  · rcases (h.foot r (List.mem_of_getElem? hi) _ hb).1 with h1 | h1
    · cases h1
    · omega

/-- A literal of a slice: a new row. -/
theorem MemK_lits {w0 : World} {B : List Nat} {G : List Res} (hH : Heap w0 B w G) (vs0 : List Value) {T E : TypeId} {n : Nat} {ps : Array (Nat × Operand)} {xs : List Operand} (hu : P.underlying T = some (.slice E)) (hsz : P.szo E = some 1) (hz : (P.zeroOf E).isSome = true)
    (hps : ps.toList = (xs.zipIdx).map fun p => (p.2, p.1)) (hn : n = xs.length) (hb : n ≤ 1000000)
    (h : argL e xs fun vs => vs = vs0 ∧ (∀ v ∈ vs, v.cells = #[v]) ∧ ∀ g w', Heap w0 B w' (Res.row E 1 (some ⟨g, 0, none⟩) n n vs0 :: G) → R (e.put d (.slice (some ⟨g, 0, none⟩) n n)) w' K) :
    MemK P N ⟨d, .buildSlice T n ps, ty, pos, af, gd⟩ e w R K := by
  refine MemK_lit hu hsz hz hps hn hb ?_
  have key : ∀ (xs : List Operand) (K K' : List Value → Prop), argL e xs K → (∀ vs, vs.length = xs.length → K vs → K' vs) → argL e xs K' := by
    intro xs
    induction xs with
    | nil => intro K K' h hk; exact hk [] rfl h
    | cons x xs ih =>
      intro K K' h hk
      simp only [argL] at h ⊢
      have ka : ∀ (K K' : Value → Prop), arg e x K → (∀ v, K v → K' v) → arg e x K' := by
        intro K K' h2 hk2
        have kt : ∀ (e : Env) (n : Nat), argT e n K → argT e n K' := by
          intro e
          induction e with
          | nil => intro n h; exact h
          | cons p e ihe =>
            intro n h
            simp only [argT] at h ⊢
            split
            · rename_i hn; rw [if_pos hn] at h; exact hk2 _ h
            · rename_i hn; rw [if_neg hn] at h; exact ihe _ h
        cases x with
        | tmp t => exact kt e t h2
        | const v => exact hk2 _ h2
        | global g => exact hk2 _ h2
        | func f => exact hk2 _ h2
      exact ka _ _ h fun v hv => ih _ _ hv fun vs hl hvs => hk (v :: vs) (by simp [hl]) hvs
  refine key xs _ _ h fun vs hl hv => ?_
  obtain ⟨rfl, h1, h2⟩ := hv
  refine ⟨h1, ?_⟩
  have := hH.row E (n := n) (cap := n) (sz := 1) vs [] (by rw [hl, hn]; omega) (by rw [List.append_nil, hl, hn]; omega) (Nat.le_refl _) (by omega)
  rw [List.append_nil] at this
  exact h2 _ _ this
end
end Go.Eng

/-! The engine, part 14: function values called; pointers compared with nil; parts of memory in pairs and lists. -/
namespace Go.Eng
open Go

section
variable {P : Program} {N : Nat} {d : Option Tmp} {ty : Nat} {pos : String} {af : Array Edge} {gd : Option (Nat × Bool)} {e : Env} {w : World} {R : Env → World → (Env → World → Prop) → Prop} {RQ : Env → World → (Env → Prop) → Prop} {K : Env → World → Prop} {KQ : Env → Prop} {KV : Value → Prop}

/-- A function value's own function, with what it holds. -/
def FnK (P : Program) (fv : Value) (vs : List Value) (w : World) (C : Value → World → Prop) : Prop :=
  ∃ f first cs, fv = .func (.func f) first cs ∧ (∀ args w, (callFunc f args).run P w = .ok (.enter f args) w) ∧ CallK P f (first.toList ++ vs ++ cs.toList) w C

theorem MemK_callv {x : Operand} {as : Array Operand} {ts : Array TypeId}
    (h : arg e x fun fv => argL e as.toList fun vs => FnK P fv vs w fun v w' => R (e.put d v) w' K) :
    MemK P N ⟨d, .call { callee := .value x, args := as, argTypes := ts }, ty, pos, af, gd⟩ e w R K := by
  intro a n next Q ha hK
  have h0 := arg_sound (K := fun fv => argL e as.toList fun vs => FnK P fv vs w fun v w' => R (e.put d v) w' K) ha h
  have h1 := argL_sound (K := fun vs => FnK P (a.eval x) vs w fun v w' => R (e.put d v) w' K) ha h0
  obtain ⟨f, first, cs, hx, hf, F, hD, hC⟩ := h1
  have hm : (as.map a.eval) = (as.toList.map a.eval).toArray := map_eval as a
  have e1 : first ++ (as.toList.map a.eval).toArray ++ cs = (first.toList ++ as.toList.map a.eval ++ cs.toList).toArray := by
    apply Array.ext'; simp
  have hrun : (execOp a.eval ⟨d, .call { callee := .value x, args := as, argTypes := ts }, ty, pos, af, gd⟩).run P (w.drewN n) = .ok (.enter f (first.toList ++ as.toList.map a.eval ++ cs.toList).toArray) (w.drewN n) := by
    simp only [execOp, Go.resolve, hx, Deferred.ofValue, Sem.run_bind, Sem.run_pure, Result.andThen_ok, invoke]
    rw [hm, e1, hf]
  unfold Oper.wp
  rw [hrun]
  exact (hD n).mono fun e' w' ⟨v, w'', m, he, hw, hF⟩ => by subst he; subst hw; exact hK v w'' m (hC v w'' hF)

theorem FnK.mk {f : FuncId} {first cs : Array Value} {vs : List Value} {C F : Value → World → Prop} (hf : ∀ args w, (callFunc f args).run P w = .ok (.enter f args) w)
    (h : Does P f (first.toList ++ vs ++ cs.toList).toArray w F) (hc : ∀ v w', F v w' → C v w') : FnK P (.func (.func f) first cs) vs w C := ⟨f, first, cs, rfl, hf, F, h, hc⟩

/-! comparisons with nil -/

theorem EqR_of {op : BinOp} {T : TypeId} {xo yo : Operand} {x y : Value} {b : Bool} (h : ∀ w', (do eqGuard op T xo yo x y; binOp op T x y : Sem Value).run P w' = .ok (.bool b) w') : EqR P op T xo yo x y w KV = KV (.bool b) := by
  apply propext
  constructor
  · rintro ⟨b', hr, hk⟩
    have h1 := hr w (Ext.refl w)
    rw [h w] at h1
    simp only [Result.ok.injEq, Value.bool.injEq] at h1
    rw [h1.1]; exact hk
  · intro hk; exact ⟨b, fun w' _ => h w', hk⟩

theorem eqGuard_free {op : BinOp} {T : TypeId} {xo yo : Operand} {x y : Value} (h : (∀ c, x ≠ .agg c) ∧ x ≠ .nilIface) (w : World) : (eqGuard op T xo yo x y).run P w = .ok () w := run_eqGuard h w

theorem run_eqIn_ptr {T E : TypeId} (hu : P.underlying T = some (.pointer E)) (d : Nat) (a : Option Addr) (w : World) : (Op.equalIn (d + 1) T (.pointer a) (.pointer none)).run P w = .ok a.isNone w := by
  unfold Op.equalIn
  cases a <;> simp [run_underlying hu]
theorem run_eq_ptr {T E : TypeId} (hu : P.underlying T = some (.pointer E)) (a : Option Addr) (w : World) : (Op.equal T (.pointer a) (.pointer none)).run P w = .ok a.isNone w := run_eqIn_ptr hu 9999 a w
theorem run_eqIn_fun {T : TypeId} {ps rs : Array TypeId} {v : Bool} (hu : P.underlying T = some (.func ps rs v)) (d : Nat) (f : Fn) (x y : Array Value) (w : World) : (Op.equalIn (d + 1) T (.func f x y) .nilFunc).run P w = .ok false w := by
  unfold Op.equalIn
  simp [run_underlying hu]
theorem run_eq_fun {T : TypeId} {ps rs : Array TypeId} {v : Bool} (hu : P.underlying T = some (.func ps rs v)) (f : Fn) (x y : Array Value) (w : World) : (Op.equal T (.func f x y) .nilFunc).run P w = .ok false w := run_eqIn_fun hu 9999 f x y w
theorem be_ptr {T E : TypeId} (hu : P.underlying T = some (.pointer E)) (a : Option Addr) (xo yo : Operand) : vBinO P .eql T xo yo (.pointer a) (.pointer none) w KV = KV (.bool a.isNone) := by
  refine EqR_of fun w' => ?_
  simp only [Sem.run_bind]
  rw [eqGuard_free ⟨by simp, by simp⟩]
  simp only [Result.andThen_ok, binOp, Sem.run_bind, run_eq_ptr hu, Sem.run_pure]
theorem bn_ptr {T E : TypeId} (hu : P.underlying T = some (.pointer E)) (a : Option Addr) (xo yo : Operand) : vBinO P .neq T xo yo (.pointer a) (.pointer none) w KV = KV (.bool !a.isNone) := by
  refine EqR_of fun w' => ?_
  simp only [Sem.run_bind]
  rw [eqGuard_free ⟨by simp, by simp⟩]
  simp only [Result.andThen_ok, binOp, Sem.run_bind, run_eq_ptr hu, Sem.run_pure]
theorem be_fun {T : TypeId} {ps rs : Array TypeId} {v : Bool} (hu : P.underlying T = some (.func ps rs v)) (f : Fn) (x y : Array Value) (xo yo : Operand) : vBinO P .eql T xo yo (.func f x y) .nilFunc w KV = KV (.bool false) := by
  refine EqR_of fun w' => ?_
  simp only [Sem.run_bind]
  rw [eqGuard_free ⟨by simp, by simp⟩]
  simp only [Result.andThen_ok, binOp, Sem.run_bind, run_eq_fun hu, Sem.run_pure]

/-! parts in pairs -/

def Res.pair (r s : Res) : Res where
  foot := r.foot ++ s.foot
  holds := fun w => r.holds w ∧ s.holds w ∧ Apart r s
  loc := by
    rintro w w' hb ⟨h1, h2, h3⟩
    exact ⟨r.loc w w' (fun b h => hb b (List.mem_append_left _ h)) h1, s.loc w w' (fun b h => hb b (List.mem_append_right _ h)) h2, h3⟩

theorem Heap.unpair {w0 : World} {B : List Nat} {G : List Res} {r s : Res} (h : Heap w0 B w (Res.pair r s :: G)) : Heap w0 B w (r :: s :: G) := by
  obtain ⟨h1, h2, h3⟩ := h.holds (Res.pair r s) (by simp)
  have hf := h.foot (Res.pair r s) (by simp)
  have ha := List.pairwise_cons.1 h.apart
  refine ⟨h.upd, ?_, ?_, ?_⟩
  · intro x hx
    simp only [List.mem_cons] at hx
    rcases hx with rfl | rfl | hx
    · exact h1
    · exact h2
    · exact h.holds x (by simp [hx])
  · intro x hx b hb
    simp only [List.mem_cons] at hx
    rcases hx with rfl | rfl | hx
    · exact hf b (List.mem_append_left _ hb)
    · exact hf b (List.mem_append_right _ hb)
    · exact h.foot x (by simp [hx]) b hb
  · rw [List.pairwise_cons, List.pairwise_cons]
    refine ⟨fun x hx => ?_, fun x hx b hb => ha.1 x hx b (List.mem_append_right _ hb), ha.2⟩
    rcases List.mem_cons.1 hx with rfl | hx
    · exact h3
    · exact fun b hb => ha.1 x hx b (List.mem_append_left _ hb)

theorem Heap.pair {w0 : World} {B : List Nat} {G : List Res} {r s : Res} (h : Heap w0 B w (r :: s :: G)) : Heap w0 B w (Res.pair r s :: G) := by
  have ha := List.pairwise_cons.1 h.apart
  have ha2 := List.pairwise_cons.1 ha.2
  refine ⟨h.upd, ?_, ?_, ?_⟩
  · intro x hx
    rcases List.mem_cons.1 hx with rfl | hx
    · exact ⟨h.holds r (by simp), h.holds s (by simp), ha.1 s (by simp)⟩
    · exact h.holds x (by simp [hx])
  · intro x hx b hb
    rcases List.mem_cons.1 hx with rfl | hx
    · rcases List.mem_append.1 hb with hb | hb
      · exact h.foot r (by simp) b hb
      · exact h.foot s (by simp) b hb
    · exact h.foot x (by simp [hx]) b hb
  · rw [List.pairwise_cons]
    refine ⟨fun x hx b hb => ?_, ha2.2⟩
    rcases List.mem_append.1 hb with hb | hb
    · exact ha.1 x (by simp [hx]) b hb
    · exact ha2.1 x hx b hb

/-- A cell of a block known whole. -/
theorem blk_cell {g T k : Nat} {cs : List Value} {v : Value} (h : (Res.blk g T cs).holds w) (hv : cs[k]? = some v) : w.cell? ⟨g, k, none⟩ = some v := by
  obtain ⟨fz, hg, _⟩ := h
  simp [World.cell?, hg, hv]
theorem blk_reads {g T : Nat} {cs : List Value} (h : (Res.blk g T cs).holds w) : Reads w ⟨g, 0, none⟩ cs := by
  intro j u hu
  have hadd : (⟨g, 0, none⟩ : Addr).add j = ⟨g, j, none⟩ := by unfold Addr.add; split <;> simp_all
  rw [hadd]; exact blk_cell h hu

theorem add_mk (g o k : Nat) : (⟨g, o, none⟩ : Addr).add k = ⟨g, o + k, none⟩ := by unfold Addr.add; split <;> simp_all

/-- Each of a list of parts, and all apart. -/
def Res.bag (l : List Res) : Res where
  foot := l.flatMap Res.foot
  holds := fun w => (∀ r ∈ l, r.holds w) ∧ l.Pairwise Apart
  loc := by
    rintro w w' hb ⟨h1, h2⟩
    exact ⟨fun r hr => r.loc w w' (fun b h => hb b (List.mem_flatMap.2 ⟨r, hr, h⟩)) (h1 r hr), h2⟩

theorem Heap.unbag {w0 : World} {B : List Nat} {G l : List Res} (h : Heap w0 B w (Res.bag l :: G)) : Heap w0 B w (l ++ G) := by
  obtain ⟨h1, h2⟩ := h.holds (Res.bag l) (by simp)
  have hf := h.foot (Res.bag l) (by simp)
  have ha := List.pairwise_cons.1 h.apart
  refine ⟨h.upd, ?_, ?_, ?_⟩
  · intro x hx
    rcases List.mem_append.1 hx with hx | hx
    · exact h1 x hx
    · exact h.holds x (by simp [hx])
  · intro x hx b hb
    rcases List.mem_append.1 hx with hx | hx
    · exact hf b (List.mem_flatMap.2 ⟨x, hx, hb⟩)
    · exact h.foot x (by simp [hx]) b hb
  · rw [List.pairwise_append]
    exact ⟨h2, ha.2, fun r hr s hs b hb => ha.1 s hs b (List.mem_flatMap.2 ⟨r, hr, hb⟩)⟩

theorem Heap.bag {w0 : World} {B : List Nat} {G : List Res} (l : List Res) (h : Heap w0 B w (l ++ G)) : Heap w0 B w (Res.bag l :: G) := by
  have ha := List.pairwise_append.1 h.apart
  refine ⟨h.upd, ?_, ?_, ?_⟩
  · intro x hx
    rcases List.mem_cons.1 hx with rfl | hx
    · exact ⟨fun r hr => h.holds r (List.mem_append_left _ hr), ha.1⟩
    · exact h.holds x (List.mem_append_right _ hx)
  · intro x hx b hb
    rcases List.mem_cons.1 hx with rfl | hx
    · obtain ⟨r, hr, hb⟩ := List.mem_flatMap.1 hb
      exact h.foot r (List.mem_append_left _ hr) b hb
    · exact h.foot x (List.mem_append_right _ hx) b hb
  · rw [List.pairwise_cons]
    refine ⟨fun x hx b hb => ?_, ha.2.1⟩
    obtain ⟨r, hr, hb⟩ := List.mem_flatMap.1 hb
    exact ha.2.2 r hr x hx b hb

/-- To the front. -/
theorem Heap.front {w0 : World} {B : List Nat} {G : List Res} {r : Res} (i : Nat) (h : Heap w0 B w G) (hi : G[i]? = some r) : Heap w0 B w (r :: G.eraseIdx i) := by
  refine h.perm ?_
  have : ∀ (G : List Res) (i : Nat), G[i]? = some r → G.Perm (r :: G.eraseIdx i) := by
    intro G
    induction G with
    | nil => intro i h; simp at h
    | cons x G ih =>
      intro i h
      cases i with
      | zero => simp at h; subst h; exact List.Perm.refl _
      | succ i =>
        rw [List.eraseIdx_cons_succ]
        exact ((ih i (by simpa using h)).cons x).trans (List.Perm.swap _ _ _)
  exact this G i hi

/-! fields and elements of what is no address -/

def vNth : List Value → Nat → (Value → Prop) → Prop
  | [], _, _ => False
  | v :: _, 0, K => K v
  | _ :: l, i + 1, K => vNth l i K
theorem vNth_zero (v : Value) (l : List Value) : vNth (v :: l) 0 KV = KV v := rfl
theorem vNth_succ (v : Value) (l : List Value) (i : Nat) : vNth (v :: l) (i + 1) KV = vNth l i KV := rfl
theorem vNth_eq (l : List Value) : ∀ (i : Nat) (K : Value → Prop), vNth l i K = match l[i]? with | some v => K v | none => False := by
  induction l with
  | nil => intro i K; simp [vNth]
  | cons v l ih =>
    intro i K
    cases i with
    | zero => simp [vNth]
    | succ i => simp [vNth, ih]
theorem vNth_of {l : List Value} {i : Nat} {v : Value} (h : l[i]? = some v) (hk : KV v) : vNth l i KV := by rw [vNth_eq, h]; exact hk

def plainDesc (d : Option TypeDesc) : Bool := match d with
  | some (.struct _) | some (.array _ _) | none => false
  | some _ => true
def aggDesc (d : Option TypeDesc) : Bool := match d with
  | some (.struct _) | some (.array _ _) => true
  | _ => false

theorem part_cell {T : TypeId} (l : List Value) (off : Nat) (h : plainDesc (P.underlying T) = true) : vPart P T l.toArray off KV = vNth l off KV := by
  rw [vNth_eq, vPart]
  cases hu : P.underlying T with
  | none => simp [hu, plainDesc] at h
  | some d =>
    cases d <;> first
      | (exfalso; simp [plainDesc, hu] at h; done)
      | (simp only [List.getElem?_toArray] <;> cases l[off]? <;> rfl)
theorem part_agg {T : TypeId} (l : List Value) (off n : Nat) (h : aggDesc (P.underlying T) = true) (hz : P.szo T = some n) : vPart P T l.toArray off KV = KV (.agg ((l.take (off + n)).drop off).toArray) := by
  have e : l.toArray.extract off (off + n) = ((l.take (off + n)).drop off).toArray := by
    apply Array.ext'
    simp [List.extract_eq_take_drop]
    rw [List.drop_take]; congr 1; omega
  rw [vPart]
  cases hu : P.underlying T with
  | none => simp [hu, aggDesc] at h
  | some d => cases d <;> simp_all [aggDesc]
theorem fd_cell (S f : Nat) (l : List Value) {fields : Array Field} {fd : Field} {o : Nat} (h : P.underlying S = some (.struct fields)) (hf : fields[f]? = some fd) (hp : plainDesc (P.underlying fd.type) = true) (ho : fd.offset = o) (_hz : P.szo fd.type = some 1) : vField P S (.agg l.toArray) f KV = vNth l o KV := by
  subst ho
  simp only [vField, h, hf, part_cell l _ hp]
theorem fd_agg (S f : Nat) (l : List Value) (n : Nat) {fields : Array Field} {fd : Field} {o m : Nat} (h : P.underlying S = some (.struct fields)) (hf : fields[f]? = some fd) (hp : aggDesc (P.underlying fd.type) = true) (ho : (fd.offset, fd.offset + n) = (o, m)) (hz : P.szo fd.type = some n) : vField P S (.agg l.toArray) f KV = KV (.agg ((l.take m).drop o).toArray) := by
  simp only [Prod.mk.injEq] at ho
  obtain ⟨rfl, rfl⟩ := ho
  simp only [vField, h, hf, part_agg l _ n hp hz]
theorem bd_of {T : TypeId} {ps : List (Nat × Value)} {cells : Array Value} (h : P.built T ps = some cells) : vBuild P T ps KV = KV (.agg cells) := by simp [vBuild, h]
theorem ix_agg (T : TypeId) (l : List Value) (k : IntKind) (i : Int) {n E : Nat} (h : P.underlying T = some (.array n E)) (hz : P.szo E = some 1) (hp : plainDesc (P.underlying E) = true) (_hn : P.szo T = some n) : vIndex P T (.agg l.toArray) (.int k i) KV = ((0 ≤ i ∧ i < (n : Int)) ∧ vNth l i.toNat KV) := by
  simp only [vIndex, h, hz, Nat.mul_one, part_cell l _ hp]
theorem ln_ar {n E : Nat} (T : TypeId) (v : Value) (h : P.underlying T = some (.array n E)) : vLen P T v KV = KV (.int .i64 (n : Int)) := by
  simp [vLen, h]
end
attribute [go_sem ↓] vNth_zero vNth_succ
attribute [go_sem] add_mk Option.isNone_some Option.isNone_none

end Go.Eng

/-! The engine, part 15: regions whose order is open till all but a tail is done. -/
namespace Go.Eng
open Go

theorem vcOps_still {P : Program} {N : Nat} {ops rest : List Oper} {Q : Exit → Act → World → Prop} {K : Env → World → Prop} {w : World} {n : Nat} (hR : rest.all (dstOk N) = true)
    (hK : ∀ e a w n, Fits N e a → K e w → Q .normal a (w.drewN n)) : ∀ (pre : List Oper) (e : Env) (a : Act), pre.all (dstOk N) = true → pre.all (fun o => isPure P o.op) = true → Fits N e a →
      vcOps P N ops (pre ++ rest) e w K → wpStill P ops.toArray (w.drewN n) (fun a' => wpList P ops.toArray Q rest a' (w.drewN n)) pre a := by
  intro pre
  induction pre with
  | nil => intro e a _ _ ha h; exact vcOps_sound hK rest e a w n hR ha h
  | cons o pre ih =>
    intro e a hl hp ha h
    simp only [List.all_cons, Bool.and_eq_true] at hl hp
    unfold wpStill
    rcases vGuard_sound ha h with ⟨e', ha', h', hw⟩ | ⟨e', ha', h', hw⟩
    · rw [if_pos hw]
      unfold vcStep at h'
      rw [hp.1] at h'
      obtain ⟨v, hv, hr⟩ := vcOp_sound ha' h'
      unfold Oper.still
      rw [hr (w.drewN n) (Ext.drewN w n)]
      exact ⟨rfl, ih _ _ hl.2 hp.2 (ha'.put' hl.1 v) hv⟩
    · rw [if_neg (by rw [hw]; simp)]
      exact ih _ _ hl.2 hp.2 (ha'.put' hl.1 undef) h'

/-- A region whose order is open; but all that comes first leaves the world alone, and what comes last waits for all of it. -/
theorem VC_regionL {P : Program} {fn : Func} {F : Value → World → Prop} {N : Nat} {k : List It} {e : Env} {w : World} (ks : List Nat) (m : Nat) {id : Nat} {ops : List Oper} (hm : P.follows .mixedOrders = true)
    (hB : Region.lexTailB .any ops.toArray m = true) (hp : (ops.take m).all (fun o => isPure P o.op) = true) (hN : ops.all (dstOk N) = true)
    (h : ∀ K : Env → World → Prop, (∀ e w, VC ⟨P, fn, F, N⟩ k e w → K e w) → vcOps P N ops ops e w (selC ks K)) : VC ⟨P, fn, F, N⟩ (.code (.region id ops.toArray true) :: k) e w := by
  intro a n ha
  have hN' := hN
  rw [← List.take_append_drop m ops, List.all_append, Bool.and_eq_true] at hN'
  refine wp_region_still_tail m hm hB ?_
  show wpStill P ops.toArray (w.drewN (n + 1)) (fun a' => wpList P ops.toArray (fun ex a w => cont ⟨P, fn, F, N⟩ k ex a w) (ops.drop m) a' (w.drewN (n + 1))) (ops.take m) a
  refine vcOps_still (n := n + 1) (K := selC ks (VC ⟨P, fn, F, N⟩ k)) hN'.2 (fun e a w n ha hv => ?_) (ops.take m) e a hN'.1 hp ha ?_
  · exact ((selK_spec ks e _).1 hv) a n (ha.sel ks)
  · rw [List.take_append_drop]; exact h _ fun _ _ hv => hv

/-! helpers -/
theorem bytesV_take (l : List UInt8) (k : Nat) : (bytesV l).take k = bytesV (l.take k) := by simp [bytesV]
theorem bytesV_drop (l : List UInt8) (k : Nat) : (bytesV l).drop k = bytesV (l.drop k) := by simp [bytesV]
theorem bytesV_zero (n : Nat) : List.replicate n (Value.int .u8 0) = bytesV (List.replicate n 0) := by simp [bytesV]
theorem bytesV_get {l : List UInt8} {i : Nat} (h : i < l.length) : (bytesV l)[i]? = some (.int .u8 (l.getD i 0).toNat) := by
  simp [bytesV, List.getElem?_eq_getElem h, List.getD_eq_getElem?_getD]
theorem intsV_take (l : List Int) (k : Nat) : (intsV l).take k = intsV (l.take k) := by simp [intsV]
theorem intsV_drop (l : List Int) (k : Nat) : (intsV l).drop k = intsV (l.drop k) := by simp [intsV]
theorem intsV_zero (n : Nat) : List.replicate n (Value.int .i64 0) = intsV (List.replicate n 0) := by simp [intsV]
theorem intsV_get {l : List Int} {i : Nat} (h : i < l.length) : (intsV l)[i]? = some (.int .i64 (l.getD i 0)) := by
  simp [intsV, List.getElem?_eq_getElem h, List.getD_eq_getElem?_getD]
theorem intsV_set (l : List Int) (i : Nat) (v : Int) : (intsV l).set i (.int .i64 v) = intsV (l.set i v) := by simp [intsV, List.map_set]
theorem bytesV_set (l : List UInt8) (i : Nat) (v : UInt8) : (bytesV l).set i (.int .u8 v.toNat) = bytesV (l.set i v) := by simp [bytesV, List.map_set]
/-- A store of one cell, as a set. -/
theorem splice1 {α : Type} (l : List α) (i : Nat) (v : α) (h : i < l.length) : l.take i ++ [v] ++ l.drop (i + 1) = l.set i v := by
  rw [List.set_eq_take_append_cons_drop, if_pos h, List.append_assoc]; rfl
theorem rs_pos {w : World} {a : Option Addr} {n sz : Nat} {xs : List Value} (h : RS w a n sz xs) (hn : 0 < n) : ∃ p, a = some p := by
  cases a with
  | none => have := h.2.1 rfl; omega
  | some p => exact ⟨p, rfl⟩
theorem rs_int {w : World} {p : Addr} {l : List Int} {n : Nat} (h : RS w (some p) n 1 (intsV l)) {i : Nat} (hi : i < l.length) : w.cell? (p.add i) = some (.int .i64 (l.getD i 0)) :=
  h.2.2 p rfl i _ (intsV_get hi)
theorem rs_byte {w : World} {p : Addr} {l : List UInt8} {n : Nat} (h : RS w (some p) n 1 (bytesV l)) {i : Nat} (hi : i < l.length) : w.cell? (p.add i) = some (.int .u8 (l.getD i 0).toNat) :=
  h.2.2 p rfl i _ (bytesV_get hi)
theorem drop_getD {α : Type} {l : List α} {i : Nat} (d : α) (h : i < l.length) : l.drop i = l.getD i d :: l.drop (i + 1) := by
  rw [List.drop_eq_getElem_cons h, List.getD_eq_getElem?_getD, List.getElem?_eq_getElem h]; rfl
theorem take_getD {α : Type} {l : List α} {i : Nat} (d : α) (h : i < l.length) : l.take (i + 1) = l.take i ++ [l.getD i d] := by
  rw [List.take_add_one, List.getD_eq_getElem?_getD, List.getElem?_eq_getElem h]; rfl
theorem getD_mem {α : Type} {l : List α} {i : Nat} (d : α) (h : i < l.length) : l.getD i d ∈ l := by
  rw [List.getD_eq_getElem?_getD, List.getElem?_eq_getElem h]; exact List.getElem_mem h
theorem heap_nil {w : World} {E sz : Nat} : Heap w [] w [Res.row E sz none 0 0 []] := Heap.one (r := Res.row E sz none 0 0 []) (row_nil E sz w) (by intro b hb; cases hb)
theorem Heap.nilRow {w0 w : World} {B : List Nat} {G : List Res} (h : Heap w0 B w G) (E sz : Nat) : Heap w0 B w (Res.row E sz none 0 0 [] :: G) := h.call0 (G' := [Res.row E sz none 0 0 []]) heap_nil
/-- A shift's width. -/
theorem shN_of {k : IntKind} {i : Int} {n : Nat} (h : i = n) (hn : n ≤ k.bits) : shN k i = n := by subst h; simp [shN]; exact Nat.min_eq_left hn
theorem shN_u {k : IntKind} {i : Int} {n : Nat} (h : i = n) (hn : n ≤ k.bits) (hk : k.bits ≤ 64) : shN k (i % 18446744073709551616) = n := by
  subst h
  rw [Int.emod_eq_of_lt (by omega) (by omega), shN]; simp; exact Nat.min_eq_left hn
theorem pow2_cast (n : Nat) : ((2 : Int) ^ n) = ((2 ^ n : Nat) : Int) := by push_cast; rfl
theorem shr_cast (v n : Nat) : (v : Int) / 2 ^ n = ((v / 2 ^ n : Nat) : Int) := by rw [pow2_cast, ← Int.natCast_ediv]
theorem shl_cast (v n : Nat) : (v : Int) * 2 ^ n = ((v * 2 ^ n : Nat) : Int) := by rw [pow2_cast, ← Int.natCast_mul]
end Go.Eng

/-! The engine, part 16: results that lie in memory. -/
namespace Go.Eng
open Go

theorem run_vLoadVar {P : Program} {T : TypeId} {a : Addr} {w : World} {K : Value → Prop} (h : vLoad P T (.pointer (some a)) w K) :
    ∃ v, K v ∧ ∀ w', Ext w w' → (loadVar T a).run P w' = .ok v w' := by
  have key : ∀ (n : Nat), (P.szo T = some n) → (∀ w, (isAgg T).run P w = .ok true w) → ∀ cs : List Value, cs.length = n → Reads w a cs →
      ∀ w', Ext w w' → (loadVar T a).run P w' = .ok (.agg cs.toArray) w' := by
    intro n hn hagg cs hl hr w' hw
    have := run_loadCells_reads (P := P) (hr.ext hw)
    rw [hl] at this
    simp [loadVar, hagg, run_szo hn, this]
  unfold vLoad at h
  simp only at h
  split at h
  · rename_i hu
    split at h
    · rename_i n hn
      obtain ⟨cs, ⟨hl, hr⟩, hK⟩ := h
      exact ⟨_, hK, key n hn (fun w => by simp [isAgg, run_underlying hu]) cs hl hr⟩
    · exact h.elim
  · rename_i hu
    split at h
    · rename_i n hn
      obtain ⟨cs, ⟨hl, hr⟩, hK⟩ := h
      exact ⟨_, hK, key n hn (fun w => by simp [isAgg, run_underlying hu]) cs hl hr⟩
    · exact h.elim
  · rename_i d hd1 hd2 hu
    obtain ⟨v, hv, hK⟩ := h
    refine ⟨v, hK, fun w' hw => ?_⟩
    have hc : w'.cell? a = some v := hw.cell hv
    have : (isAgg T).run P w' = .ok false w' := by
      cases d <;> simp_all [isAgg, run_underlying hu]
    simp [loadVar, this, hc]
  · exact h.elim

section
variable {C : Ctx} {e : Env} {w : World}
theorem VX_retC1 {t : Tmp} {T : TypeId} {a : Addr} (hr : C.fn.results = #[.cell t T]) (ht : e.find? t = some (.pointer (some a))) (h : vLoad C.P T (.pointer (some a)) w fun v => C.F v w) : VX C [] .ret e w := by
  intro ac n ha
  obtain ⟨v, hv, hrun⟩ := run_vLoadVar h
  refine ⟨ha.defers, v, ?_, v, w, n, rfl, rfl, hv⟩
  have h1 := ha.at_ t _ ht
  rw [Array.getD_eq_getD_getElem?] at h1
  have h2 := hrun (w.drewN n) (Ext.drewN w n)
  simp [results, hr, h1, asAddr, h2]
theorem VX_retC2 {t u : Tmp} {T : TypeId} {a : Addr} {x : Value} (hr : C.fn.results = #[.cell t T, .tmp u]) (ht : e.find? t = some (.pointer (some a))) (hu : e.find? u = some x) (h : vLoad C.P T (.pointer (some a)) w fun v => C.F (.tuple #[v, x]) w) : VX C [] .ret e w := by
  intro ac n ha
  obtain ⟨v, hv, hrun⟩ := run_vLoadVar h
  refine ⟨ha.defers, .tuple #[v, x], ?_, _, w, n, rfl, rfl, hv⟩
  have h1 := ha.at_ t _ ht
  rw [Array.getD_eq_getD_getElem?] at h1
  have h3 := ha.at_ u _ hu
  rw [Array.getD_eq_getD_getElem?] at h3
  have h2 := hrun (w.drewN n) (Ext.drewN w n)
  simp [results, hr, h1, h3, asAddr, h2]
theorem VX_retC3 {t u s : Tmp} {T : TypeId} {a : Addr} {x y : Value} (hr : C.fn.results = #[.cell t T, .tmp u, .tmp s]) (ht : e.find? t = some (.pointer (some a))) (hu : e.find? u = some x) (hs : e.find? s = some y) (h : vLoad C.P T (.pointer (some a)) w fun v => C.F (.tuple #[v, x, y]) w) : VX C [] .ret e w := by
  intro ac n ha
  obtain ⟨v, hv, hrun⟩ := run_vLoadVar h
  refine ⟨ha.defers, .tuple #[v, x, y], ?_, _, w, n, rfl, rfl, hv⟩
  have h1 := ha.at_ t _ ht
  rw [Array.getD_eq_getD_getElem?] at h1
  have h3 := ha.at_ u _ hu
  rw [Array.getD_eq_getD_getElem?] at h3
  have h4 := ha.at_ s _ hs
  rw [Array.getD_eq_getD_getElem?] at h4
  have h2 := hrun (w.drewN n) (Ext.drewN w n)
  simp [results, hr, h1, h3, h4, asAddr, h2]
end

/-- What a struct result reads as, out of a block known whole. -/
theorem vLoad_blk {P : Program} {T : TypeId} {g T' n : Nat} {cs : List Value} {w : World} {K : Value → Prop} (h : (Res.blk g T' cs).holds w) (hd : aggDesc (P.underlying T) = true) (hz : P.szo T = some n) (hn : cs.length = n) (hk : K (.agg cs.toArray)) : vLoad P T (.pointer (some ⟨g, 0, none⟩)) w K := by
  unfold vLoad
  cases hu : P.underlying T with
  | none => simp [hu, aggDesc] at hd
  | some d =>
    cases d <;> first
      | (exfalso; simp [aggDesc, hu] at hd; done)
      | (simp only [hz]; exact ⟨cs, ⟨hn, blk_reads h⟩, hk⟩)
end Go.Eng

/-! The engine, part 17: literals of slices of structs. -/
namespace Go.Eng
open Go

theorem foldl_set (cs : List Value) : ∀ (i : Nat) (pre mid suf : List Value), mid.length = cs.length → pre.length = i →
    (cs.zipIdx i).foldl (fun (a : Array Value) (x : Value × Nat) => a.setIfInBounds x.2 x.1) (pre ++ mid ++ suf).toArray = (pre ++ cs ++ suf).toArray := by
  induction cs with
  | nil => intro i pre mid suf hm hp; simp at hm; subst hm; simp
  | cons c cs ih =>
    intro i pre mid suf hm hp
    cases mid with
    | nil => simp at hm
    | cons m mid =>
      simp only [List.zipIdx_cons, List.foldl_cons]
      have e : (pre ++ m :: mid ++ suf).toArray.setIfInBounds i c = ((pre ++ [c]) ++ mid ++ suf).toArray := by
        subst hp
        apply Array.ext'
        simp [List.set_append_right]
      rw [e, ih (i + 1) (pre ++ [c]) mid suf (by simpa using hm) (by simp [hp])]
      simp

theorem fill_cellsK (k : Nat) : ∀ (l : List Value) (i : Nat) (pre suf : List Value), suf.length = l.length * k → (∀ v ∈ l, v.cells.size = k) → pre.length = i * k →
    Instr.fill (fun i => some (i * k, k)) (pre ++ suf).toArray ((l.zipIdx i).map fun p => (p.2, p.1)) = some (pre ++ l.flatMap fun v => v.cells.toList).toArray := by
  intro l
  induction l with
  | nil => intro i pre suf hs _ _; simp at hs; subst hs; simp [Instr.fill]
  | cons v l ih =>
    intro i pre suf hs hc hp
    have hv := hc v (by simp)
    simp only [List.length_cons, Nat.add_mul, Nat.one_mul] at hs
    obtain ⟨mid, suf', rfl, hmid⟩ : ∃ mid suf', suf = mid ++ suf' ∧ mid.length = k := ⟨suf.take k, suf.drop k, by simp, by simp; omega⟩
    simp only [List.length_append] at hs
    simp only [List.zipIdx_cons, List.map_cons, Instr.fill]
    rw [if_neg (by simp; omega)]
    have hcl : v.cells.toList.length = k := by rw [Array.length_toList]; exact hv
    have e1 : (v.cells.zipIdx.foldl (fun cs (x : Value × Nat) => cs.setIfInBounds (i * k + x.2) x.1) (pre ++ (mid ++ suf')).toArray) = ((pre ++ v.cells.toList) ++ suf').toArray := by
      have h2 := foldl_set v.cells.toList (i * k) pre mid suf' (by rw [hmid, hcl]) hp
      rw [← List.append_assoc, ← h2, ← Array.foldl_toList]
      rw [List.zipIdx_eq_map_add]
      simp [Array.toList_zipIdx, List.foldl_map, Nat.add_comm]
    have hih := ih (i + 1) (pre ++ v.cells.toList) suf' (by omega) (fun u hu => hc u (by simp [hu])) (by rw [List.length_append, hcl, hp, Nat.add_mul, Nat.one_mul])
    rw [e1, hih, List.flatMap_cons, List.append_assoc]

section
variable {P : Program} {N : Nat} {d : Option Tmp} {ty : Nat} {pos : String} {af : Array Edge} {gd : Option (Nat × Bool)} {e : Env} {w : World} {R : Env → World → (Env → World → Prop) → Prop} {K : Env → World → Prop}

theorem argL_mono' {e : Env} : ∀ (xs : List Operand) (K K' : List Value → Prop), argL e xs K → (∀ vs, vs.length = xs.length → K vs → K' vs) → argL e xs K' := by
  intro xs
  induction xs with
  | nil => intro K K' h hk; exact hk [] rfl h
  | cons x xs ih =>
    intro K K' h hk
    simp only [argL] at h ⊢
    have ka : ∀ (x : Operand) (K K' : Value → Prop), arg e x K → (∀ v, K v → K' v) → arg e x K' := by
      intro x K K' h2 hk2
      have kt : ∀ (e : Env) (n : Nat), argT e n K → argT e n K' := by
        intro e
        induction e with
        | nil => intro n h; exact h
        | cons p e ihe =>
          intro n h
          simp only [argT] at h ⊢
          split
          · rename_i hn; rw [if_pos hn] at h; exact hk2 _ h
          · rename_i hn; rw [if_neg hn] at h; exact ihe _ h
      cases x with
      | tmp t => exact kt e t h2
      | const v => exact hk2 _ h2
      | global g => exact hk2 _ h2
      | func f => exact hk2 _ h2
    exact ka x _ _ h fun v hv => ih _ _ hv fun vs hl hvs => hk (v :: vs) (by simp [hl]) hvs

/-- A literal of a slice whose elements have k cells each: a new row. -/
theorem MemK_litK {w0 : World} {B : List Nat} {G : List Res} (hH : Heap w0 B w G) (k : Nat) (cs : List Value) {T E : TypeId} {n : Nat} {ps : Array (Nat × Operand)} {xs : List Operand} (hu : P.underlying T = some (.slice E)) (hsz : P.szo E = some k) (hz : (P.zeroOf E).isSome = true)
    (hps : ps.toList = (xs.zipIdx).map fun p => (p.2, p.1)) (hn : n = xs.length) (hb : n * k ≤ 1000000) (hn0 : n * k ≠ 0)
    (h : argL e xs fun vs => (vs.flatMap fun v => v.cells.toList) = cs ∧ (∀ v ∈ vs, v.cells.size = k) ∧ ∀ g w', Heap w0 B w' (Res.row E k (some ⟨g, 0, none⟩) n n cs :: G) → R (e.put d (.slice (some ⟨g, 0, none⟩) n n)) w' K) :
    MemK P N ⟨d, .buildSlice T n ps, ty, pos, af, gd⟩ e w R K := by
  refine Mem_of_run fun a m ha => ?_
  have h' := argL_mono' xs _ (fun vs => vs.length = xs.length ∧ (vs.flatMap fun v => v.cells.toList) = cs ∧ (∀ v ∈ vs, v.cells.size = k) ∧ ∀ g w', Heap w0 B w' (Res.row E k (some ⟨g, 0, none⟩) n n cs :: G) → R (e.put d (.slice (some ⟨g, 0, none⟩) n n)) w' K) h fun vs hl hv => ⟨hl, hv⟩
  obtain ⟨hl, h1, h2, hR⟩ := argL_sound (K := fun vs => vs.length = xs.length ∧ (vs.flatMap fun v => v.cells.toList) = cs ∧ (∀ v ∈ vs, v.cells.size = k) ∧ ∀ g w', Heap w0 B w' (Res.row E k (some ⟨g, 0, none⟩) n n cs :: G) → R (e.put d (.slice (some ⟨g, 0, none⟩) n n)) w' K) ha h'
  obtain ⟨z, hz⟩ := Option.isSome_iff_exists.1 hz
  have hcl : cs.length = n * k := by
    rw [← h1, hn, ← hl]
    have : ∀ (vs : List Value), (∀ v ∈ vs, v.cells.size = k) → (vs.flatMap fun v => v.cells.toList).length = vs.length * k := by
      intro vs
      induction vs with
      | nil => intro _; simp
      | cons v vs ih => intro hv; rw [List.flatMap_cons, List.length_append, ih fun u hu => hv u (by simp [hu]), Array.length_toList, hv v (by simp), List.length_cons, Nat.add_mul]; omega
    exact this _ h2
  refine ⟨.slice (some ⟨w.heap.size, 0, none⟩) n n, w.alloc (.cells cs.toArray E), m, ?_, ?_⟩
  · have e1 : (ps.map fun (i, x) => (i, a.eval x)).toList = ((xs.map a.eval).zipIdx).map fun p => (p.2, p.1) := by
      rw [Array.toList_map, hps]
      simp [List.zipIdx_map]
    have hf := fill_cellsK k (xs.map a.eval) 0 [] (((Array.range (n * k)).map fun x => z.cells[x % z.cells.size]!).toList) (by rw [Array.length_toList, Array.size_map, Array.size_range, hl, hn]) h2 (by simp)
    simp only [List.nil_append, Array.toArray_toList, h1] at hf
    have hs := run_szo (P := P) hsz
    simp only [execOp, Instr.buildSlice, Sem.run_bind, run_underlying hu, hs, Result.andThen_ok]
    rw [if_neg (by omega), if_neg hn0]
    simp only [Sem.run_bind, run_zeroOf hz, Sem.run_pure, Result.andThen_ok, e1, hf, run_newRow]
    rfl
  · have := hH.row E (n := n) (cap := n) (sz := k) cs [] hcl (by rw [List.append_nil]; exact hcl) (Nat.le_refl _) (by
      have : n ≤ n * k := Nat.le_mul_of_pos_right _ (Nat.pos_of_ne_zero fun h => hn0 (by rw [h]; simp))
      omega)
    rw [List.append_nil] at this
    exact hR _ _ this

/-- A part of what a slice reads as. -/
theorem rs_part {w : World} {p : Addr} {n sz : Nat} {xs : List Value} (h : RS w (some p) n sz xs) (hs : p.spot = none) (k : Nat) (ys : List Value) (hy : ∀ j u, ys[j]? = some u → xs[k + j]? = some u) : Reads w (p.add k) ys := by
  intro j u hu
  rw [add_add p hs]
  exact h.2.2 p rfl _ u (hy j u hu)
end
end Go.Eng
