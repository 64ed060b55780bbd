/- A program logic over the model: what is left to do, what is known of the frame, what the call holds of memory. No conditions: a library of lemmas. -/
import Derived.Test.YtgepfjlecmmokaaEngD
set_option linter.unusedSimpArgs false
set_option linter.unusedVariables false
/-! The engine, part 12: regions in which two operations may come up side by side: every order is asked. -/
namespace Go.Eng
open Go

/-- What is listed behind a plan, if each of its operations may be taken first or is the only one that may come up. -/
def planTo (ops : Array Oper) : List (Nat × Bool) → Array Bool → Option (Array Bool)
  | [], listed => some listed
  | (i, t) :: plan, listed =>
    if (decide (i < ops.size) && (match t with
      | true => Region.free .any ops listed i && (Region.ready .any ops listed).contains i
      | false => Region.ready .any ops listed == [i])) = true then planTo ops plan (listed.setIfInBounds i true) else none

theorem ite_some {α : Type} {c : Prop} [Decidable c] {a : Option α} {x : α} (h : (if c then a else none) = some x) : c ∧ a = some x := by
  by_cases hc : c
  · rw [if_pos hc] at h; exact ⟨hc, h⟩
  · rw [if_neg hc] at h; cases h

inductive Tree where
  | seq (pre : List (Nat × Bool)) : Tree
  | two (pre : List (Nat × Bool)) (i j : Nat) (k k' : Tree) : Tree

def treeOk (ops : Array Oper) : Tree → Nat → Array Bool → Bool
  | .seq pre, fuel, listed => decide (pre.length ≤ fuel) && match planTo ops pre listed with
    | some l => (Region.ready .any ops l).isEmpty
    | none => false
  | .two pre i j k k', fuel, listed => decide (pre.length + 1 ≤ fuel) && match planTo ops pre listed with
    | some l => Region.ready .any ops l == [i, j] && decide (i < ops.size) && decide (j < ops.size) && treeOk ops k (fuel - pre.length - 1) (l.setIfInBounds i true) && treeOk ops k' (fuel - pre.length - 1) (l.setIfInBounds j true)
    | none => false

def vcT (P : Program) (N : Nat) (ops : List Oper) (w0 : World) : Tree → Env → World → (Env → World → Prop) → Prop
  | .seq pre, e, w, K => vcH P N ops w0 (planned ops pre) e w K
  | .two pre i j k k', e, w, K => vcH P N ops w0 (planned ops pre) e w fun e w =>
      vcH P N ops w0 (planned ops [(i, false)]) e w (fun e w => vcT P N ops w0 k e w K) ∧ vcH P N ops w0 (planned ops [(j, false)]) e w (fun e w => vcT P N ops w0 k' e w K)

section
variable {P : Program} {N : Nat} {ops : List Oper} {w0 : World} {Q : Exit → Act → World → Prop}

/-- One of those that may come up comes up. -/
theorem vcH_pick {K : Env → World → Prop} (hN : ops.all (dstOk N) = true) {i : Nat} (hi : i < ops.length) {R : Act → World → Prop} {e : Env} {a : Act} {w : World} {n : Nat} (ha : Fits N e a) (hx : Ext w0 w)
    (h : vcH P N ops w0 (planned ops [(i, false)]) e w K) (hR : ∀ e a w n, Fits N e a → Ext w0 w → K e w → R a (w.drewN n)) : wpOp P ops.toArray Q i R a (w.drewN n) := by
  obtain ⟨o, ho⟩ : ∃ o, ops[i]? = some o := ⟨ops[i], List.getElem?_eq_getElem hi⟩
  have hoa : ops.toArray[i]? = some o := by simpa using ho
  have hod : dstOk N o = true := by
    rw [List.all_eq_true] at hN
    exact hN o (List.mem_of_getElem? ho)
  have hpl : planned ops [(i, false)] = [(false, o)] := by simp [planned, ho]
  rw [hpl] at h
  rcases vGuard_sound ha h with ⟨e', ha', h', hw⟩ | ⟨e', ha', h', hw⟩
  · unfold wpOp
    simp only [hoa, hw, if_true]
    refine .inl ?_
    have h' : vcStepH P N (isPure P o.op) false o e' w0 w (vcH P N ops w0 []) K := h'
    cases hpo : isPure P o.op with
    | true =>
      rw [hpo] at h'
      simp only [vcStepH, pw] at h'
      obtain ⟨v, hv, hr⟩ := vcOp_sound ha' h'
      unfold Oper.wp
      rw [hr (w.drewN n) (Ext.drewN w n)]
      exact hR _ _ w n (ha'.put' hod v) hx hv
    | false =>
      rw [hpo] at h'
      have h' : MemH P N o e' w0 w (vcH P N ops w0 []) K := h'
      exact h' a n _ Q ha' fun v w' m hv => hR _ _ w' m (ha'.put' hod v) hv.1 hv.2
  · unfold wpOp
    simp only [hoa, hw, Bool.false_eq_true, if_false]
    exact hR _ _ w n (ha'.put' hod undef) hx h'

theorem vcH_then {K : Env → World → Prop} (hN : ops.all (dstOk N) = true) (hsel : Region.noSelect ops.toArray = true)
    (hQ : ∀ c a w (d : Option Tmp) v, Q (.panic c) (a.put d v) w → Q (.panic c) a w) : ∀ (plan : List (Nat × Bool)) (fuel : Nat) (listed l' : Array Bool) (e : Env) (a : Act) (w : World) (n : Nat),
      plan.length ≤ fuel → planTo ops.toArray plan listed = some l' → Fits N e a → Ext w0 w → vcH P N ops w0 (planned ops plan) e w K →
      (∀ e a w n, Fits N e a → Ext w0 w → K e w → wpAnyH P .any ops.toArray Q (fun w' => Ext w0 w') (fuel - plan.length) l' a (w.drewN n)) →
      wpAnyH P .any ops.toArray Q (fun w' => Ext w0 w') fuel listed a (w.drewN n) := by
  intro plan
  induction plan with
  | nil =>
    intro fuel listed l' e a w n _ hp ha hx h hK
    simp only [planTo, Option.some.injEq] at hp
    subst hp
    exact hK e a w n ha hx h
  | cons p plan ih =>
    obtain ⟨i, t⟩ := p
    intro fuel listed l' e a w n hf hp ha hx h hK
    simp only [planTo] at hp
    obtain ⟨hstep, hp2⟩ := ite_some hp
    clear hp
    simp only [Bool.and_eq_true, decide_eq_true_eq] at hstep
    obtain ⟨hi, hstep⟩ := hstep
    have hi' : i < ops.length := by simpa using hi
    obtain ⟨o, ho⟩ : ∃ o, ops[i]? = some o := ⟨ops[i], List.getElem?_eq_getElem hi'⟩
    have hoa : ops.toArray[i]? = some o := by simpa using ho
    have hod : dstOk N o = true := by
      rw [List.all_eq_true] at hN
      exact hN o (List.mem_of_getElem? ho)
    have hpl : planned ops ((i, t) :: plan) = (t, o) :: planned ops plan := by simp [planned, ho]
    cases fuel with
    | zero => simp at hf
    | succ fuel =>
    have hf' : plan.length ≤ fuel := by simpa using hf
    have hK' : ∀ e a w n, Fits N e a → Ext w0 w → K e w → wpAnyH P .any ops.toArray Q (fun w' => Ext w0 w') (fuel - plan.length) l' a (w.drewN n) := by
      intro e a w n h1 h2 h3
      have := hK e a w n h1 h2 h3
      simpa using this
    cases t with
    | true =>
      rw [hpl] at h
      simp only [Bool.and_eq_true] at hstep
      rcases vGuard_sound ha h with ⟨e', ha', h', hw⟩ | ⟨e', ha', h', hw⟩
      · have h' : vcStepH P N (isPure P o.op) true o e' w0 w (vcH P N ops w0 (planned ops plan)) K := h'
        cases hpo : isPure P o.op with
        | true =>
          rw [hpo] at h'
          simp only [vcStepH, pw] at h'
          obtain ⟨v, hv, hr⟩ := vcOp_sound ha' h'
          refine wpAnyH_take hoa hsel hstep.1 hstep.2 (fun c a w => hQ c a w o.dst v) (.inl ⟨hw, fun w' hw' => hr w' hw'⟩) (hx.trans (Ext.drewN w n)) ?_
          exact ih fuel _ _ _ _ w n hf' hp2 (ha'.put' hod v) hx hv hK'
        | false => rw [hpo] at h'; exact h'.elim
      · exact wpAnyH_take hoa hsel hstep.1 hstep.2 (fun c a w => hQ c a w o.dst undef) (.inr ⟨hw, rfl⟩) (hx.trans (Ext.drewN w n)) (ih fuel _ _ _ _ w n hf' hp2 (ha'.put' hod undef) hx h' hK')
    | false =>
      simp only [beq_iff_eq] at hstep
      refine wpAnyH_all hstep (by simp) ?_
      intro j hj
      simp only [List.mem_singleton] at hj
      subst hj
      have h2 : vcH P N ops w0 (planned ops [(j, false)]) e w (fun e w => vcH P N ops w0 (planned ops plan) e w K) := by
        rw [hpl] at h
        have hp1 : planned ops [(j, false)] = [(false, o)] := by simp [planned, ho]
        rw [hp1]
        exact h
      exact vcH_pick hN hi' ha hx h2 fun e a w n h1 h2 h3 => ⟨h2.trans (Ext.drewN w n), ih fuel _ _ _ _ w n hf' hp2 h1 h2 h3 hK'⟩

theorem vcT_sound {K : Env → World → Prop} (hN : ops.all (dstOk N) = true) (hsel : Region.noSelect ops.toArray = true)
    (hQ : ∀ c a w (d : Option Tmp) v, Q (.panic c) (a.put d v) w → Q (.panic c) a w)
    (hK : ∀ e a w n, Fits N e a → K e w → Q .normal a (w.drewN n)) : ∀ (t : Tree) (fuel : Nat) (listed : Array Bool) (e : Env) (a : Act) (w : World) (n : Nat),
      treeOk ops.toArray t fuel listed = true → Fits N e a → Ext w0 w → vcT P N ops w0 t e w K →
      wpAnyH P .any ops.toArray Q (fun w' => Ext w0 w') fuel listed a (w.drewN n) := by
  intro t
  induction t with
  | seq pre =>
    intro fuel listed e a w n ht ha hx h
    simp only [treeOk, Bool.and_eq_true, decide_eq_true_eq] at ht
    obtain ⟨hf, ht⟩ := ht
    cases hp : planTo ops.toArray pre listed with
    | none => rw [hp] at ht; cases ht
    | some l =>
      rw [hp] at ht
      simp only [List.isEmpty_iff] at ht
      exact vcH_then hN hsel hQ pre fuel listed l e a w n hf hp ha hx h fun e a w n h1 _ h3 => wpAnyH_done ht (hK e a w n h1 h3) _
  | two pre i j k k' ihk ihk' =>
    intro fuel listed e a w n ht ha hx h
    simp only [treeOk, Bool.and_eq_true, decide_eq_true_eq] at ht
    obtain ⟨hf, ht⟩ := ht
    cases hp : planTo ops.toArray pre listed with
    | none => rw [hp] at ht; cases ht
    | some l =>
      rw [hp] at ht
      simp only [Bool.and_eq_true, beq_iff_eq, decide_eq_true_eq] at ht
      obtain ⟨⟨⟨⟨hr, hi⟩, hj⟩, h1⟩, h2⟩ := ht
      refine vcH_then hN hsel hQ pre fuel listed l e a w n (by omega) hp ha hx h fun e a w n g1 g2 g3 => ?_
      obtain ⟨m, hm⟩ : ∃ m, fuel - pre.length = m + 1 := ⟨fuel - pre.length - 1, by omega⟩
      rw [hm]
      have hm' : fuel - pre.length - 1 = m := by omega
      rw [hm'] at h1 h2
      refine wpAnyH_all hr (by simp) ?_
      intro x hx2
      simp only [List.mem_cons, List.not_mem_nil, or_false] at hx2
      rcases hx2 with rfl | rfl
      · exact vcH_pick hN (by simpa using hi) g1 g2 g3.1 fun e a w n f1 f2 f3 => ⟨f2.trans (Ext.drewN w n), ihk m _ e a w n h1 f1 f2 f3⟩
      · exact vcH_pick hN (by simpa using hj) g1 g2 g3.2 fun e a w n f1 f2 f3 => ⟨f2.trans (Ext.drewN w n), ihk' m _ e a w n h2 f1 f2 f3⟩
end

/-- A region whose order is open, in every order that the tree names. -/
theorem VC_regionT {P : Program} {fn : Func} {F : Value → World → Prop} {N : Nat} {k : List It} {e : Env} {w : World} (w0 : World) (hx : Ext w0 w) (ks : List Nat) (t : Tree) {id : Nat} {ops : List Oper}
    (hm : P.follows .mixedOrders = true) (hB : (treeOk ops.toArray t ops.toArray.size (Array.replicate ops.toArray.size false) && Region.noSelect ops.toArray) = true) (hN : ops.all (dstOk N) = true)
    (h : ∀ K : Env → World → Prop, (∀ e w, VC ⟨P, fn, F, N⟩ k e w → K e w) → vcT P N ops w0 t e w (selC ks K)) : VC ⟨P, fn, F, N⟩ (.code (.region id ops.toArray true) :: k) e w := by
  intro a n ha
  simp only [Bool.and_eq_true] at hB
  obtain ⟨hB1, hB2⟩ := hB
  refine wp_region_held (S := fun w' => Ext w0 w') hm ?_
  refine vcT_sound (K := selC ks (VC ⟨P, fn, F, N⟩ k)) hN hB2 (fun c a w d v hq => cont_panic d v hq) (fun e a w n ha hv => ?_) t _ _ e a w (n + 1) hB1 ha hx (h _ fun _ _ hv => hv)
  exact ((selK_spec ks e _).1 hv) a n (ha.sel ks)
end Go.Eng

/-! The engine, part 13: append of noughts (append(out, make(..)...)). -/
namespace Go.Eng
open Go
section
variable {P : Program} {N : Nat} {d : Option Tmp} {ty : Nat} {pos : String} {af : Array Edge} {gd : Option (Nat × Bool)} {e : Env} {w : World} {R : Env → World → (Env → World → Prop) → Prop} {K : Env → World → Prop}

/-- append of noughts, over a row of the call's own. -/
theorem run_append_zeros1 {w0 : World} {B : List Nat} {G : List Res} (hH : Heap w0 B w G) (i : Nat) {T T' E ty : TypeId} {bytes : Nat} {zv : Value} {a : Option Addr} {n cap m : Nat} {xs : List Value}
    (hi : G[i]? = some (Res.row E 1 a n cap xs)) (hu : P.underlying T = some (.slice E)) (hz : (P.info? E).map (fun i => (i.zero.map Value.cells, i.size, i.bytes)) = some (some #[zv], 1, bytes))
    (hT' : P.underlying T' = some (.int .i64)) (h1 : zv.oneCell' = true) (hm0 : ¬ m = 0) (hmb : m * bytes ≤ 281474976710656) (hm63 : m ≤ 9223372036854775807) (hb : cap < n + m → (n + m) * bytes ≤ 140737488355328 ∧ n + m ≤ 9223372036854775807) (k : Nat) :
    ∃ a' cap' w' k', (Builtin.append_ #[T, T'] ty #[.slice a n cap, .int .i64 m]).run P (w.drewN k) = .ok (.slice a' (n + m) cap') (w'.drewN k') ∧ Heap w0 B w' (G.set i (Res.row E 1 a' (n + m) cap' (xs ++ List.replicate m zv))) ∧ (n + m ≤ cap → a' = a ∧ cap' = cap) := by
  have hrow := hH.at i hi
  obtain ⟨hxl, hnc, hcm, hcase⟩ := hrow
  generalize hnews : List.replicate m zv = news
  have hnl : news.length = m * 1 := by rw [← hnews]; simp
  have h1 : ∀ u ∈ news, u.oneCell' = true := by
    intro u hu
    rw [← hnews] at hu
    rw [(List.mem_replicate.1 hu).2]; exact h1
  cases hinfo : P.info? E with
  | none => simp [hinfo] at hz
  | some ti =>
  simp only [hinfo, Option.map_some, Option.some.injEq, Prod.mk.injEq] at hz
  obtain ⟨hz1, hz2, hz3⟩ := hz
  cases hzz : ti.zero with
  | none => simp [hzz] at hz1
  | some z =>
  simp only [hzz, Option.map_some, Option.some.injEq] at hz1
  have hso : ∀ w, (sizeOf E).run P w = .ok 1 w := fun w => by simp [sizeOf, typeInfo, hinfo, hz2]
  have hti : ∀ w, (typeInfo E).run P w = .ok ti w := fun w => by simp [typeInfo, hinfo]
  have hzv : ∀ w, (zeroValue E).run P w = .ok z w := fun w => by simp [zeroValue, typeInfo, hinfo, hzz]
  have hund : ∀ w, (underlying T').run P w = .ok (.int .i64) w := fun w => run_underlying hT' w
  have hwr : IntKind.i64.wrap (m : Int) = m := wrap_i64_of ⟨by omega, by omega⟩
  have hneg : ¬ (m : Int) < 0 := by omega
  have hw0 : IntKind.i64.wrap 0 = 0 := by decide
  have hbig : ¬ 281474976710656 < (m : Int) * (bytes : Int) := by
    have : ((m * bytes : Nat) : Int) = (m : Int) * (bytes : Int) := Int.natCast_mul _ _
    omega
  have hzc : Builtin.zeroCells z.cells m = news.toArray := by
    rw [hz1, ← hnews]
    apply Array.ext
    · simp [Builtin.zeroCells]
    · intro j h1 h2
      simp [Builtin.zeroCells, Nat.mod_one]
  by_cases hroom : n + m ≤ cap
  · -- there is room
    rcases hcase with ⟨rfl, rfl, rfl⟩ | ⟨g, rest, fz, rfl, hg, hl2, hfz⟩
    · have hm : m = 0 := by omega
      subst hm
      have hn : news = [] := List.eq_nil_of_length_eq_zero (by simpa using hnl)
      subst hn
      refine ⟨none, 0, w, k, ?_, ?_, fun _ => ⟨rfl, rfl⟩⟩
      · simp [Builtin.append_, run_underlying hu, hso, hund, asInt, asIntOf, hw0, hwr, hneg, hbig, hz3, hti, hm0, hzv, hzc]
      · have : xs ++ [] = xs := by simp
        rw [this]
        have : G.set i (Res.row E 1 none 0 0 xs) = G := by
          apply List.ext_getElem?
          intro j
          rw [List.getElem?_set]
          split
          · rename_i hj; subst hj; split <;> simp_all
          · rfl
        simp only [Nat.zero_add]
        rw [this]; exact hH
    · have hlt : g < w.heap.size := (Array.getElem?_eq_some_iff.1 hg).1
      have hfit : n * 1 + news.length ≤ (xs ++ rest).length := by rw [hl2, hnl, ← Nat.add_mul]; exact Nat.mul_le_mul_right _ hroom
      have hst := run_storeCells_blk (P := P) g (n * 1) E fz news 0 (xs ++ rest) (w.drewN k) hg (by rw [hl2]; exact hfz) (by simpa using hfit) h1
      have hadd : (⟨g, 0, none⟩ : Addr).add (n * 1) = ⟨g, n * 1, none⟩ := by unfold Addr.add; split <;> simp_all
      have hcs : (xs ++ rest).take (n * 1 + 0) ++ news ++ (xs ++ rest).drop (n * 1 + 0 + news.length) = (xs ++ news) ++ rest.drop news.length := by
        rw [Nat.add_zero, ← hxl, List.take_left]
        rw [List.drop_append]
        simp
      rw [hcs] at hst
      have hadd' : (⟨g, 0, none⟩ : Addr).add n = ⟨g, n, none⟩ := by rw [Nat.mul_one] at hadd; exact hadd
      have hst' := hst
      rw [Nat.mul_one] at hst'
      refine ⟨some ⟨g, 0, none⟩, cap, putBlk w g ((xs ++ news) ++ rest.drop news.length) E fz, k, ?_, ?_, fun _ => ⟨rfl, rfl⟩⟩
      · simp [Builtin.append_, run_underlying hu, hso, hund, asInt, asIntOf, hw0, hwr, hneg, hbig, hz3, hti, hm0, hzv, hzc, hroom, hadd', hst', putBlk_drewN]
      · refine hH.set i hi (putBlk_upd _ _ _ _ _) ⟨?_, hroom, hcm, .inr ⟨g, rest.drop news.length, fz, rfl, putBlk_at hlt, ?_, hfz⟩⟩ ?_
        · rw [List.length_append, hxl, hnl, Nat.add_mul]
        · simp at hl2 hfit ⊢; omega
        · intro b hb; exact ⟨.inl hb, by rw [putBlk_size]; simp [Res.row] at hb; omega⟩
  · -- it grows
    obtain ⟨hb1, hb2⟩ := hb (by omega)
    have hg63 : ¬ ((n + m : Nat) : Int) > IntKind.i64.max := by
      have : IntKind.i64.max = 9223372036854775807 := by decide
      rw [this]; omega
    have hfits : ¬ (Builtin.nextslicecap (n + m) cap * ti.bytes > 2 ^ 48) := by
      have := growslice_fits (need := n + m) (old := cap) (bytes := ti.bytes) (by omega) (by rw [hz3]; exact hb1)
      have e : (2 : Nat) ^ 48 = 281474976710656 := by decide
      rw [e]; omega
    have hold : (Builtin.firstCells 1 n (.slice a n cap)).run P (w.drewN (k + 1)) = .ok xs.toArray (w.drewN (k + 1)) := by
      have hrs := row_rs (hH.at i hi)
      cases a with
      | none =>
        have hn0 := hrs.2.1 rfl
        subst hn0
        have : xs = [] := List.eq_nil_of_length_eq_zero (by simpa using hxl)
        subst this
        simp [Builtin.firstCells]
      | some ad => exact run_firstCells_some (P := P) _ 1 n ad n cap xs hxl (fun j v hv => (hrs.2.2 ad rfl).heap (w' := w.drewN (k + 1)) rfl j v hv)
    have hge := grownCap_ge (w.drewN k) (n + m) cap E
    have hcm' := grownCap_le_maxLen (w.drewN k) (n + m) cap E (by simp only [maxLen]; omega)
    refine ⟨some ⟨w.heap.size, 0, none⟩, grownCap (w.drewN k) (n + m) cap E, w.alloc (.cells (xs.toArray ++ news.toArray ++ Builtin.zeroCells z.cells (grownCap (w.drewN k) (n + m) cap E - (n + m))) E), k + 1, ?_, ?_, fun h => absurd h hroom⟩
    · have hz2' : ¬ (9223372036854775807 < ((n : Int) + (m : Int))) := by omega
      have hz3' : ¬ (281474976710656 < Builtin.nextslicecap (n + m) cap * ti.bytes) := by
        have e : (2 : Nat) ^ 48 = 281474976710656 := by decide
        rw [e] at hfits; omega
      have hf2 := hzv (w.drewN (k + 1))
      have hra := fun n w => run_askRoom (P := P) n w
      simp [Builtin.append_, run_underlying hu, hso, hund, asInt, asIntOf, hwr, hneg, hbig, hz3, hm0, hzc, hroom, hti, hz2', (hz3 ▸ hz3'), hra, hold, hf2, hzv, run_newRow, Question.forced, grownCap]
      rw [drewN_alloc]
      congr 3
      apply Array.ext'
      simp
    · have hcells : (xs.toArray ++ news.toArray ++ Builtin.zeroCells z.cells (grownCap (w.drewN k) (n + m) cap E - (n + m))) = ((xs ++ news) ++ (Builtin.zeroCells z.cells (grownCap (w.drewN k) (n + m) cap E - (n + m))).toList).toArray := by
        apply Array.ext'; simp
      rw [hcells]
      have hzc : z.cells.size = 1 := by rw [hz1]; rfl
      refine hH.set i hi ⟨rfl, rfl, rfl, by simp, fun k hk _ => RowKit.Below.heap_alloc _ _ _ hk⟩ ⟨?_, hge, hcm', .inr ⟨w.heap.size, _, (0, 0), rfl, heap_alloc_new w _, ?_, unfz00 _⟩⟩ ?_
      · rw [List.length_append, hxl, hnl, Nat.add_mul]
      · rw [List.length_append, List.length_append, hxl, hnl, Array.length_toList, size_zeroCells, hzc, ← Nat.add_mul, ← Nat.add_mul]
        congr 1; omega
      · intro b hb
        simp [Res.row] at hb
        subst hb
        exact ⟨.inr (Nat.le_refl _), by simp⟩


theorem run_append_zeros0 {w0 : World} {B : List Nat} {G : List Res} (hH : Heap w0 B w G) (i : Nat) {T T' E ty : TypeId} {bytes : Nat} {zv : Value} {a : Option Addr} {n cap : Nat} {xs : List Value}
    (hi : G[i]? = some (Res.row E 1 a n cap xs)) (hu : P.underlying T = some (.slice E)) (hz : (P.info? E).map (fun i => (i.zero.map Value.cells, i.size, i.bytes)) = some (some #[zv], 1, bytes)) (hT' : P.underlying T' = some (.int .i64)) (k : Nat) :
    (Builtin.append_ #[T, T'] ty #[.slice a n cap, .int .i64 0]).run P (w.drewN k) = .ok (.slice a n cap) (w.drewN k) := by
  obtain ⟨hxl, hnc, hcm, hcase⟩ := hH.at i hi
  cases hinfo : P.info? E with
  | none => simp [hinfo] at hz
  | some ti =>
  simp only [hinfo, Option.map_some, Option.some.injEq, Prod.mk.injEq] at hz
  obtain ⟨hz1, hz2, hz3⟩ := hz
  have hso : ∀ w, (sizeOf E).run P w = .ok 1 w := fun w => by simp [sizeOf, typeInfo, hinfo, hz2]
  have hti : ∀ w, (typeInfo E).run P w = .ok ti w := fun w => by simp [typeInfo, hinfo]
  have hund : ∀ w, (underlying T').run P w = .ok (.int .i64) w := fun w => run_underlying hT' w
  have hw0 : IntKind.i64.wrap 0 = 0 := by decide
  cases a with
  | none => simp [Builtin.append_, run_underlying hu, hso, hund, asInt, asIntOf, hw0, hti, hnc]
  | some ad => simp [Builtin.append_, run_underlying hu, hso, hund, asInt, asIntOf, hw0, hti, hnc, storeCells]

theorem AppK_zeros {w0 : World} {B : List Nat} {G : List Res} (hH : Heap w0 B w G) (i : Nat) {T T' E ty : TypeId} {bytes : Nat} {zv : Value} {a : Option Addr} {n cap m : Nat} {xs : List Value} {x : Int} {C : Value → World → Prop}
    (hi : G[i]? = some (Res.row E 1 a n cap xs)) (hx : x = m) (hu : P.underlying T = some (.slice E)) (hz : (P.info? E).map (fun i => (i.zero.map Value.cells, i.size, i.bytes)) = some (some #[zv], 1, bytes))
    (hT' : P.underlying T' = some (.int .i64)) (h1 : zv.oneCell' = true) (hb : (n + m) * bytes ≤ 140737488355328 ∧ n + m ≤ 9223372036854775807)
    (h : ∀ a' cap' w', (n + m ≤ cap → a' = a ∧ cap' = cap) → Heap w0 B w' (G.set i (Res.row E 1 a' (n + m) cap' (xs ++ List.replicate m zv))) → C (.slice a' (n + m) cap') w') :
    AppK P #[T, T'] ty [.slice a n cap, .int .i64 x] w C := by
  subst hx
  intro k
  have hle : m * bytes ≤ (n + m) * bytes := Nat.mul_le_mul_right _ (by omega)
  by_cases hm0 : m = 0
  · subst hm0
    have e : G.set i (Res.row E 1 a (n + 0) cap (xs ++ List.replicate 0 zv)) = G := by
      simp only [Nat.add_zero, List.replicate_zero, List.append_nil]
      exact List.ext_getElem? fun j => by
        rw [List.getElem?_set]
        split
        · rename_i hj; subst hj; rw [hi]; simp [(List.getElem?_eq_some_iff.1 hi).1]
        · rfl
    exact ⟨_, w, k, run_append_zeros0 (P := P) (ty := ty) hH i hi hu hz hT' k, h a cap w (fun _ => ⟨rfl, rfl⟩) (by rw [e]; exact hH)⟩
  obtain ⟨a', cap', w', k', hr, hH', hc⟩ := run_append_zeros1 (P := P) (ty := ty) hH i hi hu hz hT' h1 hm0 (by omega) (by omega) (fun _ => hb) k
  exact ⟨_, w', k', hr, h a' cap' w' hc hH'⟩

/-- One part alone. -/
theorem Heap.focus {w0 : World} {B : List Nat} {G : List Res} {r : Res} (h : Heap w0 B w G) (i : Nat) (hi : G[i]? = some r) : Heap w r.foot w [r] :=
  Heap.one (h.at i hi) fun b hb => (h.foot r (List.mem_of_getElem? hi) b hb).2

/-- What was there ahead of all lies in no part of the call's own. -/
theorem Heap.hole_cell {w0 : World} {G : List Res} {r : Res} (h : Heap w0 [] w G) (i : Nat) (hi : G[i]? = some r) {ad : Addr} {v : Value} (hc : w0.cell? ad = some v) : (holes r.foot w).cell? ad = some v := by
  have hlt := World.block_lt_of_cell? w0 _ hc
  refine holes_cell ?_ fun hb => ?_
  · rw [World.cell?_of_block (w := w0)]
    · exact hc
    · exact h.upd.block _ hlt (by simp)
  · rcases (h.foot r (List.mem_of_getElem? hi) _ hb).1 with h1 | h1
    · cases h1
    · omega

/-- A literal of a slice: a new row. -/
theorem MemK_lits {w0 : World} {B : List Nat} {G : List Res} (hH : Heap w0 B w G) (vs0 : List Value) {T E : TypeId} {n : Nat} {ps : Array (Nat × Operand)} {xs : List Operand} (hu : P.underlying T = some (.slice E)) (hsz : P.szo E = some 1) (hz : (P.zeroOf E).isSome = true)
    (hps : ps.toList = (xs.zipIdx).map fun p => (p.2, p.1)) (hn : n = xs.length) (hb : n ≤ 1000000)
    (h : argL e xs fun vs => vs = vs0 ∧ (∀ v ∈ vs, v.cells = #[v]) ∧ ∀ g w', Heap w0 B w' (Res.row E 1 (some ⟨g, 0, none⟩) n n vs0 :: G) → R (e.put d (.slice (some ⟨g, 0, none⟩) n n)) w' K) :
    MemK P N ⟨d, .buildSlice T n ps, ty, pos, af, gd⟩ e w R K := by
  refine MemK_lit hu hsz hz hps hn hb ?_
  have key : ∀ (xs : List Operand) (K K' : List Value → Prop), argL e xs K → (∀ vs, vs.length = xs.length → K vs → K' vs) → argL e xs K' := by
    intro xs
    induction xs with
    | nil => intro K K' h hk; exact hk [] rfl h
    | cons x xs ih =>
      intro K K' h hk
      simp only [argL] at h ⊢
      have ka : ∀ (K K' : Value → Prop), arg e x K → (∀ v, K v → K' v) → arg e x K' := by
        intro K K' h2 hk2
        have kt : ∀ (e : Env) (n : Nat), argT e n K → argT e n K' := by
          intro e
          induction e with
          | nil => intro n h; exact h
          | cons p e ihe =>
            intro n h
            simp only [argT] at h ⊢
            split
            · rename_i hn; rw [if_pos hn] at h; exact hk2 _ h
            · rename_i hn; rw [if_neg hn] at h; exact ihe _ h
        cases x with
        | tmp t => exact kt e t h2
        | const v => exact hk2 _ h2
        | global g => exact hk2 _ h2
        | func f => exact hk2 _ h2
      exact ka _ _ h fun v hv => ih _ _ hv fun vs hl hvs => hk (v :: vs) (by simp [hl]) hvs
  refine key xs _ _ h fun vs hl hv => ?_
  obtain ⟨rfl, h1, h2⟩ := hv
  refine ⟨h1, ?_⟩
  have := hH.row E (n := n) (cap := n) (sz := 1) vs [] (by rw [hl, hn]; omega) (by rw [List.append_nil, hl, hn]; omega) (Nat.le_refl _) (by omega)
  rw [List.append_nil] at this
  exact h2 _ _ this
end
end Go.Eng
