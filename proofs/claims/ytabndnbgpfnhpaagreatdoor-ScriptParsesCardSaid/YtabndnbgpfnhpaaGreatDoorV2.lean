/- What the proof leans on, part 2: no conditions. -/
import Derived.Test.YtabndnbgpfnhpaaGreatDoorV1
import Derived.StillTail
import Derived.RangeFuncLeaves
import Derived.RangeFuncRecord
import Derived.RangeFuncNested
import Derived.RecoverIn
import Derived.TacticsIn
import Derived.Lib.MapLaws
import Derived.Lib.FieldsP
import Derived.Test.YtabndnbgpfnhpaaGreatDoorChecked
import Derived.Sort.Grow
import Derived.Shelf.Strings.Repeat
import Derived.Shelf.Strings.OnBuilder
import Derived.Shelf.Strings.Search3
import Derived.Shelf.Strings.Count
import Derived.Shelf.Small.Strs
import Derived.Sort.Walk0
import Derived.Lib.Join
import Derived.Lib.Bytealg
import Derived.Shelf.Strings.SlTrimAscii
import Derived.Shelf.Strings.FieldsFuncAny
set_option linter.unusedSimpArgs false
set_option linter.unusedVariables false
namespace Go.Eng
open Go
def planTo (ops : Array Oper) : List (Nat × Bool) → Array Bool → Option (Array Bool)
  | [], listed => some listed
  | (i, t) :: plan, listed =>
    if (decide (i < ops.size) && (match t with
      | true => Region.free .any ops listed i && (Region.ready .any ops listed).contains i
      | false => Region.ready .any ops listed == [i])) = true then planTo ops plan (listed.setIfInBounds i true) else none
theorem ite_some {α : Type} {c : Prop} [Decidable c] {a : Option α} {x : α} (h : (if c then a else none) = some x) : c ∧ a = some x := by
  by_cases hc : c
  · rw [if_pos hc] at h; exact ⟨hc, h⟩
  · rw [if_neg hc] at h; cases h
inductive Tree where
  | seq (pre : List (Nat × Bool)) : Tree
  | two (pre : List (Nat × Bool)) (i j : Nat) (k k' : Tree) : Tree
def treeOk (ops : Array Oper) : Tree → Nat → Array Bool → Bool
  | .seq pre, fuel, listed => decide (pre.length ≤ fuel) && match planTo ops pre listed with
    | some l => (Region.ready .any ops l).isEmpty
    | none => false
  | .two pre i j k k', fuel, listed => decide (pre.length + 1 ≤ fuel) && match planTo ops pre listed with
    | some l => Region.ready .any ops l == [i, j] && decide (i < ops.size) && decide (j < ops.size) && treeOk ops k (fuel - pre.length - 1) (l.setIfInBounds i true) && treeOk ops k' (fuel - pre.length - 1) (l.setIfInBounds j true)
    | none => false
def vcT (P : Program) (N : Nat) (ops : List Oper) (w0 : World) : Tree → Env → World → (Env → World → Prop) → Prop
  | .seq pre, e, w, K => vcH P N ops w0 (planned ops pre) e w K
  | .two pre i j k k', e, w, K => vcH P N ops w0 (planned ops pre) e w fun e w =>
      vcH P N ops w0 (planned ops [(i, false)]) e w (fun e w => vcT P N ops w0 k e w K) ∧ vcH P N ops w0 (planned ops [(j, false)]) e w (fun e w => vcT P N ops w0 k' e w K)
section
variable {P : Program} {N : Nat} {ops : List Oper} {w0 : World} {Q : Exit → Act → World → Prop}
theorem vcH_pick {K : Env → World → Prop} (hN : ops.all (dstOk N) = true) {i : Nat} (hi : i < ops.length) {R : Act → World → Prop} {e : Env} {a : Act} {w : World} {n : Nat} (ha : Fits N e a) (hx : Ext w0 w)
    (h : vcH P N ops w0 (planned ops [(i, false)]) e w K) (hR : ∀ e a w n, Fits N e a → Ext w0 w → K e w → R a (w.drewN n)) : wpOp P ops.toArray Q i R a (w.drewN n) := by
  obtain ⟨o, ho⟩ : ∃ o, ops[i]? = some o := ⟨ops[i], List.getElem?_eq_getElem hi⟩
  have hoa : ops.toArray[i]? = some o := by simpa using ho
  have hod : dstOk N o = true := by
    rw [List.all_eq_true] at hN
    exact hN o (List.mem_of_getElem? ho)
  have hpl : planned ops [(i, false)] = [(false, o)] := by simp [planned, ho]
  rw [hpl] at h
  rcases vGuard_sound ha h with ⟨e', ha', h', hw⟩ | ⟨e', ha', h', hw⟩
  · unfold wpOp
    simp only [hoa, hw, if_true]
    refine .inl ?_
    have h' : vcStepH P N (isPure P o.op) false o e' w0 w (vcH P N ops w0 []) K := h'
    cases hpo : isPure P o.op with
    | true =>
      rw [hpo] at h'
      simp only [vcStepH, pw] at h'
      obtain ⟨v, hv, hr⟩ := vcOp_sound ha' h'
      unfold Oper.wp
      rw [hr (w.drewN n) (Ext.drewN w n)]
      exact hR _ _ w n (ha'.put' hod v) hx hv
    | false =>
      rw [hpo] at h'
      have h' : MemH P N o e' w0 w (vcH P N ops w0 []) K := h'
      exact h' a n _ Q ha' fun v w' m hv => hR _ _ w' m (ha'.put' hod v) hv.1 hv.2
  · unfold wpOp
    simp only [hoa, hw, Bool.false_eq_true, if_false]
    exact hR _ _ w n (ha'.put' hod undef) hx h'
theorem vcH_then {K : Env → World → Prop} (hN : ops.all (dstOk N) = true) (hsel : Region.noSelect ops.toArray = true)
    (hQ : ∀ c a w (d : Option Tmp) v, Q (.panic c) (a.put d v) w → Q (.panic c) a w) : ∀ (plan : List (Nat × Bool)) (fuel : Nat) (listed l' : Array Bool) (e : Env) (a : Act) (w : World) (n : Nat),
      plan.length ≤ fuel → planTo ops.toArray plan listed = some l' → Fits N e a → Ext w0 w → vcH P N ops w0 (planned ops plan) e w K →
      (∀ e a w n, Fits N e a → Ext w0 w → K e w → wpAnyH P .any ops.toArray Q (fun w' => Ext w0 w') (fuel - plan.length) l' a (w.drewN n)) →
      wpAnyH P .any ops.toArray Q (fun w' => Ext w0 w') fuel listed a (w.drewN n) := by
  intro plan
  induction plan with
  | nil =>
    intro fuel listed l' e a w n _ hp ha hx h hK
    simp only [planTo, Option.some.injEq] at hp
    subst hp
    exact hK e a w n ha hx h
  | cons p plan ih =>
    obtain ⟨i, t⟩ := p
    intro fuel listed l' e a w n hf hp ha hx h hK
    simp only [planTo] at hp
    obtain ⟨hstep, hp2⟩ := ite_some hp
    clear hp
    simp only [Bool.and_eq_true, decide_eq_true_eq] at hstep
    obtain ⟨hi, hstep⟩ := hstep
    have hi' : i < ops.length := by simpa using hi
    obtain ⟨o, ho⟩ : ∃ o, ops[i]? = some o := ⟨ops[i], List.getElem?_eq_getElem hi'⟩
    have hoa : ops.toArray[i]? = some o := by simpa using ho
    have hod : dstOk N o = true := by
      rw [List.all_eq_true] at hN
      exact hN o (List.mem_of_getElem? ho)
    have hpl : planned ops ((i, t) :: plan) = (t, o) :: planned ops plan := by simp [planned, ho]
    cases fuel with
    | zero => simp at hf
    | succ fuel =>
    have hf' : plan.length ≤ fuel := by simpa using hf
    have hK' : ∀ e a w n, Fits N e a → Ext w0 w → K e w → wpAnyH P .any ops.toArray Q (fun w' => Ext w0 w') (fuel - plan.length) l' a (w.drewN n) := by
      intro e a w n h1 h2 h3
      have := hK e a w n h1 h2 h3
      simpa using this
    cases t with
    | true =>
      rw [hpl] at h
      simp only [Bool.and_eq_true] at hstep
      rcases vGuard_sound ha h with ⟨e', ha', h', hw⟩ | ⟨e', ha', h', hw⟩
      · have h' : vcStepH P N (isPure P o.op) true o e' w0 w (vcH P N ops w0 (planned ops plan)) K := h'
        cases hpo : isPure P o.op with
        | true =>
          rw [hpo] at h'
          simp only [vcStepH, pw] at h'
          obtain ⟨v, hv, hr⟩ := vcOp_sound ha' h'
          refine wpAnyH_take hoa hsel hstep.1 hstep.2 (fun c a w => hQ c a w o.dst v) (.inl ⟨hw, fun w' hw' => hr w' hw'⟩) (hx.trans (Ext.drewN w n)) ?_
          exact ih fuel _ _ _ _ w n hf' hp2 (ha'.put' hod v) hx hv hK'
        | false => rw [hpo] at h'; exact h'.elim
      · exact wpAnyH_take hoa hsel hstep.1 hstep.2 (fun c a w => hQ c a w o.dst undef) (.inr ⟨hw, rfl⟩) (hx.trans (Ext.drewN w n)) (ih fuel _ _ _ _ w n hf' hp2 (ha'.put' hod undef) hx h' hK')
    | false =>
      simp only [beq_iff_eq] at hstep
      refine wpAnyH_all hstep (by simp) ?_
      intro j hj
      simp only [List.mem_singleton] at hj
      subst hj
      have h2 : vcH P N ops w0 (planned ops [(j, false)]) e w (fun e w => vcH P N ops w0 (planned ops plan) e w K) := by
        rw [hpl] at h
        have hp1 : planned ops [(j, false)] = [(false, o)] := by simp [planned, ho]
        rw [hp1]
        exact h
      exact vcH_pick hN hi' ha hx h2 fun e a w n h1 h2 h3 => ⟨h2.trans (Ext.drewN w n), ih fuel _ _ _ _ w n hf' hp2 h1 h2 h3 hK'⟩
theorem vcT_sound {K : Env → World → Prop} (hN : ops.all (dstOk N) = true) (hsel : Region.noSelect ops.toArray = true)
    (hQ : ∀ c a w (d : Option Tmp) v, Q (.panic c) (a.put d v) w → Q (.panic c) a w)
    (hK : ∀ e a w n, Fits N e a → K e w → Q .normal a (w.drewN n)) : ∀ (t : Tree) (fuel : Nat) (listed : Array Bool) (e : Env) (a : Act) (w : World) (n : Nat),
      treeOk ops.toArray t fuel listed = true → Fits N e a → Ext w0 w → vcT P N ops w0 t e w K →
      wpAnyH P .any ops.toArray Q (fun w' => Ext w0 w') fuel listed a (w.drewN n) := by
  intro t
  induction t with
  | seq pre =>
    intro fuel listed e a w n ht ha hx h
    simp only [treeOk, Bool.and_eq_true, decide_eq_true_eq] at ht
    obtain ⟨hf, ht⟩ := ht
    cases hp : planTo ops.toArray pre listed with
    | none => rw [hp] at ht; cases ht
    | some l =>
      rw [hp] at ht
      simp only [List.isEmpty_iff] at ht
      exact vcH_then hN hsel hQ pre fuel listed l e a w n hf hp ha hx h fun e a w n h1 _ h3 => wpAnyH_done ht (hK e a w n h1 h3) _
  | two pre i j k k' ihk ihk' =>
    intro fuel listed e a w n ht ha hx h
    simp only [treeOk, Bool.and_eq_true, decide_eq_true_eq] at ht
    obtain ⟨hf, ht⟩ := ht
    cases hp : planTo ops.toArray pre listed with
    | none => rw [hp] at ht; cases ht
    | some l =>
      rw [hp] at ht
      simp only [Bool.and_eq_true, beq_iff_eq, decide_eq_true_eq] at ht
      obtain ⟨⟨⟨⟨hr, hi⟩, hj⟩, h1⟩, h2⟩ := ht
      refine vcH_then hN hsel hQ pre fuel listed l e a w n (by omega) hp ha hx h fun e a w n g1 g2 g3 => ?_
      obtain ⟨m, hm⟩ : ∃ m, fuel - pre.length = m + 1 := ⟨fuel - pre.length - 1, by omega⟩
      rw [hm]
      have hm' : fuel - pre.length - 1 = m := by omega
      rw [hm'] at h1 h2
      refine wpAnyH_all hr (by simp) ?_
      intro x hx2
      simp only [List.mem_cons, List.not_mem_nil, or_false] at hx2
      rcases hx2 with rfl | rfl
      · exact vcH_pick hN (by simpa using hi) g1 g2 g3.1 fun e a w n f1 f2 f3 => ⟨f2.trans (Ext.drewN w n), ihk m _ e a w n h1 f1 f2 f3⟩
      · exact vcH_pick hN (by simpa using hj) g1 g2 g3.2 fun e a w n f1 f2 f3 => ⟨f2.trans (Ext.drewN w n), ihk' m _ e a w n h2 f1 f2 f3⟩
end
theorem VC_regionT {P : Program} {fn : Func} {F : Value → World → Prop} {N : Nat} {k : List It} {e : Env} {w : World} (w0 : World) (hx : Ext w0 w) (ks : List Nat) (t : Tree) {id : Nat} {ops : List Oper}
    (hm : P.follows .mixedOrders = true) (hB : (treeOk ops.toArray t ops.toArray.size (Array.replicate ops.toArray.size false) && Region.noSelect ops.toArray) = true) (hN : ops.all (dstOk N) = true)
    (h : ∀ K : Env → World → Prop, (∀ e w, VC ⟨P, fn, F, N⟩ k e w → K e w) → vcT P N ops w0 t e w (selC ks K)) : VC ⟨P, fn, F, N⟩ (.code (.region id ops.toArray true) :: k) e w := by
  intro a n ha
  simp only [Bool.and_eq_true] at hB
  obtain ⟨hB1, hB2⟩ := hB
  refine wp_region_held (S := fun w' => Ext w0 w') hm ?_
  refine vcT_sound (K := selC ks (VC ⟨P, fn, F, N⟩ k)) hN hB2 (fun c a w d v hq => cont_panic d v hq) (fun e a w n ha hv => ?_) t _ _ e a w (n + 1) hB1 ha hx (h _ fun _ _ hv => hv)
  exact ((selK_spec ks e _).1 hv) a n (ha.sel ks)
end Go.Eng
namespace Go.Eng
open Go
section
variable {P : Program} {N : Nat} {d : Option Tmp} {ty : Nat} {pos : String} {af : Array Edge} {gd : Option (Nat × Bool)} {e : Env} {w : World} {R : Env → World → (Env → World → Prop) → Prop} {K : Env → World → Prop}
theorem run_append_zeros1 {w0 : World} {B : List Nat} {G : List Res} (hH : Heap w0 B w G) (i : Nat) {T T' E ty : TypeId} {bytes : Nat} {zv : Value} {a : Option Addr} {n cap m : Nat} {xs : List Value}
    (hi : G[i]? = some (Res.row E 1 a n cap xs)) (hu : P.underlying T = some (.slice E)) (hz : (P.info? E).map (fun i => (i.zero.map Value.cells, i.size, i.bytes)) = some (some #[zv], 1, bytes))
    (hT' : P.underlying T' = some (.int .i64)) (h1 : zv.oneCell' = true) (hm0 : ¬ m = 0) (hmb : m * bytes ≤ 281474976710656) (hm63 : m ≤ 9223372036854775807) (hb : cap < n + m → (n + m) * bytes ≤ 140737488355328 ∧ n + m ≤ 9223372036854775807) (k : Nat) :
    ∃ a' cap' w' k', (Builtin.append_ #[T, T'] ty #[.slice a n cap, .int .i64 m]).run P (w.drewN k) = .ok (.slice a' (n + m) cap') (w'.drewN k') ∧ Heap w0 B w' (G.set i (Res.row E 1 a' (n + m) cap' (xs ++ List.replicate m zv))) ∧ (n + m ≤ cap → a' = a ∧ cap' = cap) := by
  have hrow := hH.at i hi
  obtain ⟨hxl, hnc, hcm, hcase⟩ := hrow
  generalize hnews : List.replicate m zv = news
  have hnl : news.length = m * 1 := by rw [← hnews]; simp
  have h1 : ∀ u ∈ news, u.oneCell' = true := by
    intro u hu
    rw [← hnews] at hu
    rw [(List.mem_replicate.1 hu).2]; exact h1
  cases hinfo : P.info? E with
  | none => simp [hinfo] at hz
  | some ti =>
  simp only [hinfo, Option.map_some, Option.some.injEq, Prod.mk.injEq] at hz
  obtain ⟨hz1, hz2, hz3⟩ := hz
  cases hzz : ti.zero with
  | none => simp [hzz] at hz1
  | some z =>
  simp only [hzz, Option.map_some, Option.some.injEq] at hz1
  have hso : ∀ w, (sizeOf E).run P w = .ok 1 w := fun w => by simp [sizeOf, typeInfo, hinfo, hz2]
  have hti : ∀ w, (typeInfo E).run P w = .ok ti w := fun w => by simp [typeInfo, hinfo]
  have hzv : ∀ w, (zeroValue E).run P w = .ok z w := fun w => by simp [zeroValue, typeInfo, hinfo, hzz]
  have hund : ∀ w, (underlying T').run P w = .ok (.int .i64) w := fun w => run_underlying hT' w
  have hwr : IntKind.i64.wrap (m : Int) = m := wrap_i64_of ⟨by omega, by omega⟩
  have hneg : ¬ (m : Int) < 0 := by omega
  have hw0 : IntKind.i64.wrap 0 = 0 := by decide
  have hbig : ¬ 281474976710656 < (m : Int) * (bytes : Int) := by
    have : ((m * bytes : Nat) : Int) = (m : Int) * (bytes : Int) := Int.natCast_mul _ _
    omega
  have hzc : Builtin.zeroCells z.cells m = news.toArray := by
    rw [hz1, ← hnews]
    apply Array.ext
    · simp [Builtin.zeroCells]
    · intro j h1 h2
      simp [Builtin.zeroCells, Nat.mod_one]
  by_cases hroom : n + m ≤ cap
  ·
    rcases hcase with ⟨rfl, rfl, rfl⟩ | ⟨g, rest, fz, rfl, hg, hl2, hfz⟩
    · have hm : m = 0 := by omega
      subst hm
      have hn : news = [] := List.eq_nil_of_length_eq_zero (by simpa using hnl)
      subst hn
      refine ⟨none, 0, w, k, ?_, ?_, fun _ => ⟨rfl, rfl⟩⟩
      · simp [Builtin.append_, run_underlying hu, hso, hund, asInt, asIntOf, hw0, hwr, hneg, hbig, hz3, hti, hm0, hzv, hzc]
      · have : xs ++ [] = xs := by simp
        rw [this]
        have : G.set i (Res.row E 1 none 0 0 xs) = G := by
          apply List.ext_getElem?
          intro j
          rw [List.getElem?_set]
          split
          · rename_i hj; subst hj; split <;> simp_all
          · rfl
        simp only [Nat.zero_add]
        rw [this]; exact hH
    · have hlt : g < w.heap.size := (Array.getElem?_eq_some_iff.1 hg).1
      have hfit : n * 1 + news.length ≤ (xs ++ rest).length := by rw [hl2, hnl, ← Nat.add_mul]; exact Nat.mul_le_mul_right _ hroom
      have hst := run_storeCells_blk (P := P) g (n * 1) E fz news 0 (xs ++ rest) (w.drewN k) hg (by rw [hl2]; exact hfz) (by simpa using hfit) h1
      have hadd : (⟨g, 0, none⟩ : Addr).add (n * 1) = ⟨g, n * 1, none⟩ := by unfold Addr.add; split <;> simp_all
      have hcs : (xs ++ rest).take (n * 1 + 0) ++ news ++ (xs ++ rest).drop (n * 1 + 0 + news.length) = (xs ++ news) ++ rest.drop news.length := by
        rw [Nat.add_zero, ← hxl, List.take_left]
        rw [List.drop_append]
        simp
      rw [hcs] at hst
      have hadd' : (⟨g, 0, none⟩ : Addr).add n = ⟨g, n, none⟩ := by rw [Nat.mul_one] at hadd; exact hadd
      have hst' := hst
      rw [Nat.mul_one] at hst'
      refine ⟨some ⟨g, 0, none⟩, cap, putBlk w g ((xs ++ news) ++ rest.drop news.length) E fz, k, ?_, ?_, fun _ => ⟨rfl, rfl⟩⟩
      · simp [Builtin.append_, run_underlying hu, hso, hund, asInt, asIntOf, hw0, hwr, hneg, hbig, hz3, hti, hm0, hzv, hzc, hroom, hadd', hst', putBlk_drewN]
      · refine hH.set i hi (putBlk_upd _ _ _ _ _) ⟨?_, hroom, hcm, .inr ⟨g, rest.drop news.length, fz, rfl, putBlk_at hlt, ?_, hfz⟩⟩ ?_
        · rw [List.length_append, hxl, hnl, Nat.add_mul]
        · simp at hl2 hfit ⊢; omega
        · intro b hb; exact ⟨.inl hb, by rw [putBlk_size]; simp [Res.row] at hb; omega⟩
  ·
    obtain ⟨hb1, hb2⟩ := hb (by omega)
    have hg63 : ¬ ((n + m : Nat) : Int) > IntKind.i64.max := by
      have : IntKind.i64.max = 9223372036854775807 := by decide
      rw [this]; omega
    have hfits : ¬ (Builtin.nextslicecap (n + m) cap * ti.bytes > 2 ^ 48) := by
      have := growslice_fits (need := n + m) (old := cap) (bytes := ti.bytes) (by omega) (by rw [hz3]; exact hb1)
      have e : (2 : Nat) ^ 48 = 281474976710656 := by decide
      rw [e]; omega
    have hold : (Builtin.firstCells 1 n (.slice a n cap)).run P (w.drewN (k + 1)) = .ok xs.toArray (w.drewN (k + 1)) := by
      have hrs := row_rs (hH.at i hi)
      cases a with
      | none =>
        have hn0 := hrs.2.1 rfl
        subst hn0
        have : xs = [] := List.eq_nil_of_length_eq_zero (by simpa using hxl)
        subst this
        simp [Builtin.firstCells]
      | some ad => exact run_firstCells_some (P := P) _ 1 n ad n cap xs hxl (fun j v hv => (hrs.2.2 ad rfl).heap (w' := w.drewN (k + 1)) rfl j v hv)
    have hge := grownCap_ge (w.drewN k) (n + m) cap E
    have hcm' := grownCap_le_maxLen (w.drewN k) (n + m) cap E (by simp only [maxLen]; omega)
    refine ⟨some ⟨w.heap.size, 0, none⟩, grownCap (w.drewN k) (n + m) cap E, w.alloc (.cells (xs.toArray ++ news.toArray ++ Builtin.zeroCells z.cells (grownCap (w.drewN k) (n + m) cap E - (n + m))) E), k + 1, ?_, ?_, fun h => absurd h hroom⟩
    · have hz2' : ¬ (9223372036854775807 < ((n : Int) + (m : Int))) := by omega
      have hz3' : ¬ (281474976710656 < Builtin.nextslicecap (n + m) cap * ti.bytes) := by
        have e : (2 : Nat) ^ 48 = 281474976710656 := by decide
        rw [e] at hfits; omega
      have hf2 := hzv (w.drewN (k + 1))
      have hra := fun n w => run_askRoom (P := P) n w
      simp [Builtin.append_, run_underlying hu, hso, hund, asInt, asIntOf, hwr, hneg, hbig, hz3, hm0, hzc, hroom, hti, hz2', (hz3 ▸ hz3'), hra, hold, hf2, hzv, run_newRow, Question.forced, grownCap]
      rw [drewN_alloc]
      congr 3
      apply Array.ext'
      simp
    · have hcells : (xs.toArray ++ news.toArray ++ Builtin.zeroCells z.cells (grownCap (w.drewN k) (n + m) cap E - (n + m))) = ((xs ++ news) ++ (Builtin.zeroCells z.cells (grownCap (w.drewN k) (n + m) cap E - (n + m))).toList).toArray := by
        apply Array.ext'; simp
      rw [hcells]
      have hzc : z.cells.size = 1 := by rw [hz1]; rfl
      refine hH.set i hi ⟨rfl, rfl, rfl, by simp, fun k hk _ => RowKit.Below.heap_alloc _ _ _ hk⟩ ⟨?_, hge, hcm', .inr ⟨w.heap.size, _, (0, 0), rfl, heap_alloc_new w _, ?_, unfz00 _⟩⟩ ?_
      · rw [List.length_append, hxl, hnl, Nat.add_mul]
      · rw [List.length_append, List.length_append, hxl, hnl, Array.length_toList, size_zeroCells, hzc, ← Nat.add_mul, ← Nat.add_mul]
        congr 1; omega
      · intro b hb
        simp [Res.row] at hb
        subst hb
        exact ⟨.inr (Nat.le_refl _), by simp⟩
theorem run_append_zeros0 {w0 : World} {B : List Nat} {G : List Res} (hH : Heap w0 B w G) (i : Nat) {T T' E ty : TypeId} {bytes : Nat} {zv : Value} {a : Option Addr} {n cap : Nat} {xs : List Value}
    (hi : G[i]? = some (Res.row E 1 a n cap xs)) (hu : P.underlying T = some (.slice E)) (hz : (P.info? E).map (fun i => (i.zero.map Value.cells, i.size, i.bytes)) = some (some #[zv], 1, bytes)) (hT' : P.underlying T' = some (.int .i64)) (k : Nat) :
    (Builtin.append_ #[T, T'] ty #[.slice a n cap, .int .i64 0]).run P (w.drewN k) = .ok (.slice a n cap) (w.drewN k) := by
  obtain ⟨hxl, hnc, hcm, hcase⟩ := hH.at i hi
  cases hinfo : P.info? E with
  | none => simp [hinfo] at hz
  | some ti =>
  simp only [hinfo, Option.map_some, Option.some.injEq, Prod.mk.injEq] at hz
  obtain ⟨hz1, hz2, hz3⟩ := hz
  have hso : ∀ w, (sizeOf E).run P w = .ok 1 w := fun w => by simp [sizeOf, typeInfo, hinfo, hz2]
  have hti : ∀ w, (typeInfo E).run P w = .ok ti w := fun w => by simp [typeInfo, hinfo]
  have hund : ∀ w, (underlying T').run P w = .ok (.int .i64) w := fun w => run_underlying hT' w
  have hw0 : IntKind.i64.wrap 0 = 0 := by decide
  cases a with
  | none => simp [Builtin.append_, run_underlying hu, hso, hund, asInt, asIntOf, hw0, hti, hnc]
  | some ad => simp [Builtin.append_, run_underlying hu, hso, hund, asInt, asIntOf, hw0, hti, hnc, storeCells]
theorem AppK_zeros {w0 : World} {B : List Nat} {G : List Res} (hH : Heap w0 B w G) (i : Nat) {T T' E ty : TypeId} {bytes : Nat} {zv : Value} {a : Option Addr} {n cap m : Nat} {xs : List Value} {x : Int} {C : Value → World → Prop}
    (hi : G[i]? = some (Res.row E 1 a n cap xs)) (hx : x = m) (hu : P.underlying T = some (.slice E)) (hz : (P.info? E).map (fun i => (i.zero.map Value.cells, i.size, i.bytes)) = some (some #[zv], 1, bytes))
    (hT' : P.underlying T' = some (.int .i64)) (h1 : zv.oneCell' = true) (hb : (n + m) * bytes ≤ 140737488355328 ∧ n + m ≤ 9223372036854775807)
    (h : ∀ a' cap' w', (n + m ≤ cap → a' = a ∧ cap' = cap) → Heap w0 B w' (G.set i (Res.row E 1 a' (n + m) cap' (xs ++ List.replicate m zv))) → C (.slice a' (n + m) cap') w') :
    AppK P #[T, T'] ty [.slice a n cap, .int .i64 x] w C := by
  subst hx
  intro k
  have hle : m * bytes ≤ (n + m) * bytes := Nat.mul_le_mul_right _ (by omega)
  by_cases hm0 : m = 0
  · subst hm0
    have e : G.set i (Res.row E 1 a (n + 0) cap (xs ++ List.replicate 0 zv)) = G := by
      simp only [Nat.add_zero, List.replicate_zero, List.append_nil]
      exact List.ext_getElem? fun j => by
        rw [List.getElem?_set]
        split
        · rename_i hj; subst hj; rw [hi]; simp [(List.getElem?_eq_some_iff.1 hi).1]
        · rfl
    exact ⟨_, w, k, run_append_zeros0 (P := P) (ty := ty) hH i hi hu hz hT' k, h a cap w (fun _ => ⟨rfl, rfl⟩) (by rw [e]; exact hH)⟩
  obtain ⟨a', cap', w', k', hr, hH', hc⟩ := run_append_zeros1 (P := P) (ty := ty) hH i hi hu hz hT' h1 hm0 (by omega) (by omega) (fun _ => hb) k
  exact ⟨_, w', k', hr, h a' cap' w' hc hH'⟩
theorem Heap.focus {w0 : World} {B : List Nat} {G : List Res} {r : Res} (h : Heap w0 B w G) (i : Nat) (hi : G[i]? = some r) : Heap w r.foot w [r] :=
  Heap.one (h.at i hi) fun b hb => (h.foot r (List.mem_of_getElem? hi) b hb).2
theorem Heap.hole_cell {w0 : World} {G : List Res} {r : Res} (h : Heap w0 [] w G) (i : Nat) (hi : G[i]? = some r) {ad : Addr} {v : Value} (hc : w0.cell? ad = some v) : (holes r.foot w).cell? ad = some v := by
  have hlt := World.block_lt_of_cell? w0 _ hc
  refine holes_cell ?_ fun hb => ?_
  · rw [World.cell?_of_block (w := w0)]
    · exact hc
    · exact h.upd.block _ hlt (by simp)
  · rcases (h.foot r (List.mem_of_getElem? hi) _ hb).1 with h1 | h1
    · cases h1
    · omega
theorem MemK_lits {w0 : World} {B : List Nat} {G : List Res} (hH : Heap w0 B w G) (vs0 : List Value) {T E : TypeId} {n : Nat} {ps : Array (Nat × Operand)} {xs : List Operand} (hu : P.underlying T = some (.slice E)) (hsz : P.szo E = some 1) (hz : (P.zeroOf E).isSome = true)
    (hps : ps.toList = (xs.zipIdx).map fun p => (p.2, p.1)) (hn : n = xs.length) (hb : n ≤ 1000000)
    (h : argL e xs fun vs => vs = vs0 ∧ (∀ v ∈ vs, v.cells = #[v]) ∧ ∀ g w', Heap w0 B w' (Res.row E 1 (some ⟨g, 0, none⟩) n n vs0 :: G) → R (e.put d (.slice (some ⟨g, 0, none⟩) n n)) w' K) :
    MemK P N ⟨d, .buildSlice T n ps, ty, pos, af, gd⟩ e w R K := by
  refine MemK_lit hu hsz hz hps hn hb ?_
  have key : ∀ (xs : List Operand) (K K' : List Value → Prop), argL e xs K → (∀ vs, vs.length = xs.length → K vs → K' vs) → argL e xs K' := by
    intro xs
    induction xs with
    | nil => intro K K' h hk; exact hk [] rfl h
    | cons x xs ih =>
      intro K K' h hk
      simp only [argL] at h ⊢
      have ka : ∀ (K K' : Value → Prop), arg e x K → (∀ v, K v → K' v) → arg e x K' := by
        intro K K' h2 hk2
        have kt : ∀ (e : Env) (n : Nat), argT e n K → argT e n K' := by
          intro e
          induction e with
          | nil => intro n h; exact h
          | cons p e ihe =>
            intro n h
            simp only [argT] at h ⊢
            split
            · rename_i hn; rw [if_pos hn] at h; exact hk2 _ h
            · rename_i hn; rw [if_neg hn] at h; exact ihe _ h
        cases x with
        | tmp t => exact kt e t h2
        | const v => exact hk2 _ h2
        | global g => exact hk2 _ h2
        | func f => exact hk2 _ h2
      exact ka _ _ h fun v hv => ih _ _ hv fun vs hl hvs => hk (v :: vs) (by simp [hl]) hvs
  refine key xs _ _ h fun vs hl hv => ?_
  obtain ⟨rfl, h1, h2⟩ := hv
  refine ⟨h1, ?_⟩
  have := hH.row E (n := n) (cap := n) (sz := 1) vs [] (by rw [hl, hn]; omega) (by rw [List.append_nil, hl, hn]; omega) (Nat.le_refl _) (by omega)
  rw [List.append_nil] at this
  exact h2 _ _ this
end
end Go.Eng
namespace Go.Eng
open Go
section
variable {P : Program} {N : Nat} {d : Option Tmp} {ty : Nat} {pos : String} {af : Array Edge} {gd : Option (Nat × Bool)} {e : Env} {w : World} {R : Env → World → (Env → World → Prop) → Prop} {RQ : Env → World → (Env → Prop) → Prop} {K : Env → World → Prop} {KQ : Env → Prop} {KV : Value → Prop}
def FnK (P : Program) (fv : Value) (vs : List Value) (w : World) (C : Value → World → Prop) : Prop :=
  ∃ f first cs, fv = .func (.func f) first cs ∧ (∀ args w, (callFunc f args).run P w = .ok (.enter f args) w) ∧ CallK P f (first.toList ++ vs ++ cs.toList) w C
theorem MemK_callv {x : Operand} {as_ : Array Operand} {ts : Array TypeId}
    (h : arg e x fun fv => argL e as_.toList fun vs => FnK P fv vs w fun v w' => R (e.put d v) w' K) :
    MemK P N ⟨d, .call { callee := .value x, args := as_, argTypes := ts }, ty, pos, af, gd⟩ e w R K := by
  intro a n next Q ha hK
  have h0 := arg_sound (K := fun fv => argL e as_.toList fun vs => FnK P fv vs w fun v w' => R (e.put d v) w' K) ha h
  have h1 := argL_sound (K := fun vs => FnK P (a.eval x) vs w fun v w' => R (e.put d v) w' K) ha h0
  obtain ⟨f, first, cs, hx, hf, F, hD, hC⟩ := h1
  have hm : (as_.map a.eval) = (as_.toList.map a.eval).toArray := map_eval as_ a
  have e1 : first ++ (as_.toList.map a.eval).toArray ++ cs = (first.toList ++ as_.toList.map a.eval ++ cs.toList).toArray := by
    apply Array.ext'; simp
  have hrun : (execOp a.eval ⟨d, .call { callee := .value x, args := as_, argTypes := ts }, ty, pos, af, gd⟩).run P (w.drewN n) = .ok (.enter f (first.toList ++ as_.toList.map a.eval ++ cs.toList).toArray) (w.drewN n) := by
    simp only [execOp, Go.resolve, hx, Deferred.ofValue, Sem.run_bind, Sem.run_pure, Result.andThen_ok, invoke]
    rw [hm, e1, hf]
  unfold Oper.wp
  rw [hrun]
  exact (hD n).mono fun e' w' ⟨v, w'', m, he, hw, hF⟩ => by subst he; subst hw; exact hK v w'' m (hC v w'' hF)
theorem FnK.mk {f : FuncId} {first cs : Array Value} {vs : List Value} {C F : Value → World → Prop} (hf : ∀ args w, (callFunc f args).run P w = .ok (.enter f args) w)
    (h : Does P f (first.toList ++ vs ++ cs.toList).toArray w F) (hc : ∀ v w', F v w' → C v w') : FnK P (.func (.func f) first cs) vs w C := ⟨f, first, cs, rfl, hf, F, h, hc⟩
theorem EqR_of {op : BinOp} {T : TypeId} {xo yo : Operand} {x y : Value} {b : Bool} (h : ∀ w', (do eqGuard op T xo yo x y; binOp op T x y : Sem Value).run P w' = .ok (.bool b) w') : EqR P op T xo yo x y w KV = KV (.bool b) := by
  apply propext
  constructor
  · rintro ⟨b', hr, hk⟩
    have h1 := hr w (Ext.refl w)
    rw [h w] at h1
    simp only [Result.ok.injEq, Value.bool.injEq] at h1
    rw [h1.1]; exact hk
  · intro hk; exact ⟨b, fun w' _ => h w', hk⟩
theorem eqGuard_free {op : BinOp} {T : TypeId} {xo yo : Operand} {x y : Value} (h : (∀ c, x ≠ .agg c) ∧ x ≠ .nilIface) (w : World) : (eqGuard op T xo yo x y).run P w = .ok () w := run_eqGuard h w
theorem run_eqIn_ptr {T E : TypeId} (hu : P.underlying T = some (.pointer E)) (d : Nat) (a : Option Addr) (w : World) : (Op.equalIn (d + 1) T (.pointer a) (.pointer none)).run P w = .ok a.isNone w := by
  unfold Op.equalIn
  cases a <;> simp [run_underlying hu]
theorem run_eq_ptr {T E : TypeId} (hu : P.underlying T = some (.pointer E)) (a : Option Addr) (w : World) : (Op.equal T (.pointer a) (.pointer none)).run P w = .ok a.isNone w := run_eqIn_ptr hu 9999 a w
theorem run_eqIn_fun {T : TypeId} {ps rs : Array TypeId} {v : Bool} (hu : P.underlying T = some (.func ps rs v)) (d : Nat) (f : Fn) (x y : Array Value) (w : World) : (Op.equalIn (d + 1) T (.func f x y) .nilFunc).run P w = .ok false w := by
  unfold Op.equalIn
  simp [run_underlying hu]
theorem run_eq_fun {T : TypeId} {ps rs : Array TypeId} {v : Bool} (hu : P.underlying T = some (.func ps rs v)) (f : Fn) (x y : Array Value) (w : World) : (Op.equal T (.func f x y) .nilFunc).run P w = .ok false w := run_eqIn_fun hu 9999 f x y w
theorem be_ptr {T E : TypeId} (hu : P.underlying T = some (.pointer E)) (a : Option Addr) (xo yo : Operand) : vBinO P .eql T xo yo (.pointer a) (.pointer none) w KV = KV (.bool a.isNone) := by
  refine EqR_of fun w' => ?_
  simp only [Sem.run_bind]
  rw [eqGuard_free ⟨by simp, by simp⟩]
  simp only [Result.andThen_ok, binOp, Sem.run_bind, run_eq_ptr hu, Sem.run_pure]
theorem bn_ptr {T E : TypeId} (hu : P.underlying T = some (.pointer E)) (a : Option Addr) (xo yo : Operand) : vBinO P .neq T xo yo (.pointer a) (.pointer none) w KV = KV (.bool !a.isNone) := by
  refine EqR_of fun w' => ?_
  simp only [Sem.run_bind]
  rw [eqGuard_free ⟨by simp, by simp⟩]
  simp only [Result.andThen_ok, binOp, Sem.run_bind, run_eq_ptr hu, Sem.run_pure]
theorem be_fun {T : TypeId} {ps rs : Array TypeId} {v : Bool} (hu : P.underlying T = some (.func ps rs v)) (f : Fn) (x y : Array Value) (xo yo : Operand) : vBinO P .eql T xo yo (.func f x y) .nilFunc w KV = KV (.bool false) := by
  refine EqR_of fun w' => ?_
  simp only [Sem.run_bind]
  rw [eqGuard_free ⟨by simp, by simp⟩]
  simp only [Result.andThen_ok, binOp, Sem.run_bind, run_eq_fun hu, Sem.run_pure]
def Res.pair (r s : Res) : Res where
  foot := r.foot ++ s.foot
  holds := fun w => r.holds w ∧ s.holds w ∧ Apart r s
  loc := by
    rintro w w' hb ⟨h1, h2, h3⟩
    exact ⟨r.loc w w' (fun b h => hb b (List.mem_append_left _ h)) h1, s.loc w w' (fun b h => hb b (List.mem_append_right _ h)) h2, h3⟩
theorem Heap.unpair {w0 : World} {B : List Nat} {G : List Res} {r s : Res} (h : Heap w0 B w (Res.pair r s :: G)) : Heap w0 B w (r :: s :: G) := by
  obtain ⟨h1, h2, h3⟩ := h.holds (Res.pair r s) (by simp)
  have hf := h.foot (Res.pair r s) (by simp)
  have ha := List.pairwise_cons.1 h.apart
  refine ⟨h.upd, ?_, ?_, ?_⟩
  · intro x hx
    simp only [List.mem_cons] at hx
    rcases hx with rfl | rfl | hx
    · exact h1
    · exact h2
    · exact h.holds x (by simp [hx])
  · intro x hx b hb
    simp only [List.mem_cons] at hx
    rcases hx with rfl | rfl | hx
    · exact hf b (List.mem_append_left _ hb)
    · exact hf b (List.mem_append_right _ hb)
    · exact h.foot x (by simp [hx]) b hb
  · rw [List.pairwise_cons, List.pairwise_cons]
    refine ⟨fun x hx => ?_, fun x hx b hb => ha.1 x hx b (List.mem_append_right _ hb), ha.2⟩
    rcases List.mem_cons.1 hx with rfl | hx
    · exact h3
    · exact fun b hb => ha.1 x hx b (List.mem_append_left _ hb)
theorem Heap.pair {w0 : World} {B : List Nat} {G : List Res} {r s : Res} (h : Heap w0 B w (r :: s :: G)) : Heap w0 B w (Res.pair r s :: G) := by
  have ha := List.pairwise_cons.1 h.apart
  have ha2 := List.pairwise_cons.1 ha.2
  refine ⟨h.upd, ?_, ?_, ?_⟩
  · intro x hx
    rcases List.mem_cons.1 hx with rfl | hx
    · exact ⟨h.holds r (by simp), h.holds s (by simp), ha.1 s (by simp)⟩
    · exact h.holds x (by simp [hx])
  · intro x hx b hb
    rcases List.mem_cons.1 hx with rfl | hx
    · rcases List.mem_append.1 hb with hb | hb
      · exact h.foot r (by simp) b hb
      · exact h.foot s (by simp) b hb
    · exact h.foot x (by simp [hx]) b hb
  · rw [List.pairwise_cons]
    refine ⟨fun x hx b hb => ?_, ha2.2⟩
    rcases List.mem_append.1 hb with hb | hb
    · exact ha.1 x (by simp [hx]) b hb
    · exact ha2.1 x hx b hb
theorem blk_cell {g T k : Nat} {cs : List Value} {v : Value} (h : (Res.blk g T cs).holds w) (hv : cs[k]? = some v) : w.cell? ⟨g, k, none⟩ = some v := by
  obtain ⟨fz, hg, _⟩ := h
  simp [World.cell?, hg, hv]
theorem blk_reads {g T : Nat} {cs : List Value} (h : (Res.blk g T cs).holds w) : Reads w ⟨g, 0, none⟩ cs := by
  intro j u hu
  have hadd : (⟨g, 0, none⟩ : Addr).add j = ⟨g, j, none⟩ := by unfold Addr.add; split <;> simp_all
  rw [hadd]; exact blk_cell h hu
theorem add_mk (g o k : Nat) : (⟨g, o, none⟩ : Addr).add k = ⟨g, o + k, none⟩ := by unfold Addr.add; split <;> simp_all
def Res.bag (l : List Res) : Res where
  foot := l.flatMap Res.foot
  holds := fun w => (∀ r ∈ l, r.holds w) ∧ l.Pairwise Apart
  loc := by
    rintro w w' hb ⟨h1, h2⟩
    exact ⟨fun r hr => r.loc w w' (fun b h => hb b (List.mem_flatMap.2 ⟨r, hr, h⟩)) (h1 r hr), h2⟩
theorem Heap.unbag {w0 : World} {B : List Nat} {G l : List Res} (h : Heap w0 B w (Res.bag l :: G)) : Heap w0 B w (l ++ G) := by
  obtain ⟨h1, h2⟩ := h.holds (Res.bag l) (by simp)
  have hf := h.foot (Res.bag l) (by simp)
  have ha := List.pairwise_cons.1 h.apart
  refine ⟨h.upd, ?_, ?_, ?_⟩
  · intro x hx
    rcases List.mem_append.1 hx with hx | hx
    · exact h1 x hx
    · exact h.holds x (by simp [hx])
  · intro x hx b hb
    rcases List.mem_append.1 hx with hx | hx
    · exact hf b (List.mem_flatMap.2 ⟨x, hx, hb⟩)
    · exact h.foot x (by simp [hx]) b hb
  · rw [List.pairwise_append]
    exact ⟨h2, ha.2, fun r hr s hs b hb => ha.1 s hs b (List.mem_flatMap.2 ⟨r, hr, hb⟩)⟩
theorem Heap.bag {w0 : World} {B : List Nat} {G : List Res} (l : List Res) (h : Heap w0 B w (l ++ G)) : Heap w0 B w (Res.bag l :: G) := by
  have ha := List.pairwise_append.1 h.apart
  refine ⟨h.upd, ?_, ?_, ?_⟩
  · intro x hx
    rcases List.mem_cons.1 hx with rfl | hx
    · exact ⟨fun r hr => h.holds r (List.mem_append_left _ hr), ha.1⟩
    · exact h.holds x (List.mem_append_right _ hx)
  · intro x hx b hb
    rcases List.mem_cons.1 hx with rfl | hx
    · obtain ⟨r, hr, hb⟩ := List.mem_flatMap.1 hb
      exact h.foot r (List.mem_append_left _ hr) b hb
    · exact h.foot x (List.mem_append_right _ hx) b hb
  · rw [List.pairwise_cons]
    refine ⟨fun x hx b hb => ?_, ha.2.1⟩
    obtain ⟨r, hr, hb⟩ := List.mem_flatMap.1 hb
    exact ha.2.2 r hr x hx b hb
theorem Heap.front {w0 : World} {B : List Nat} {G : List Res} {r : Res} (i : Nat) (h : Heap w0 B w G) (hi : G[i]? = some r) : Heap w0 B w (r :: G.eraseIdx i) := by
  refine h.perm ?_
  have : ∀ (G : List Res) (i : Nat), G[i]? = some r → G.Perm (r :: G.eraseIdx i) := by
    intro G
    induction G with
    | nil => intro i h; simp at h
    | cons x G ih =>
      intro i h
      cases i with
      | zero => simp at h; subst h; exact List.Perm.refl _
      | succ i =>
        rw [List.eraseIdx_cons_succ]
        exact ((ih i (by simpa using h)).cons x).trans (List.Perm.swap _ _ _)
  exact this G i hi
def vNth : List Value → Nat → (Value → Prop) → Prop
  | [], _, _ => False
  | v :: _, 0, K => K v
  | _ :: l, i + 1, K => vNth l i K
theorem vNth_zero (v : Value) (l : List Value) : vNth (v :: l) 0 KV = KV v := rfl
theorem vNth_succ (v : Value) (l : List Value) (i : Nat) : vNth (v :: l) (i + 1) KV = vNth l i KV := rfl
theorem vNth_eq (l : List Value) : ∀ (i : Nat) (K : Value → Prop), vNth l i K = match l[i]? with | some v => K v | none => False := by
  induction l with
  | nil => intro i K; simp [vNth]
  | cons v l ih =>
    intro i K
    cases i with
    | zero => simp [vNth]
    | succ i => simp [vNth, ih]
theorem vNth_of {l : List Value} {i : Nat} {v : Value} (h : l[i]? = some v) (hk : KV v) : vNth l i KV := by rw [vNth_eq, h]; exact hk
def plainDesc (d : Option TypeDesc) : Bool := match d with
  | some (.struct _) | some (.array _ _) | none => false
  | some _ => true
def aggDesc (d : Option TypeDesc) : Bool := match d with
  | some (.struct _) | some (.array _ _) => true
  | _ => false
theorem part_cell {T : TypeId} (l : List Value) (off : Nat) (h : plainDesc (P.underlying T) = true) : vPart P T l.toArray off KV = vNth l off KV := by
  rw [vNth_eq, vPart]
  cases hu : P.underlying T with
  | none => simp [hu, plainDesc] at h
  | some d =>
    cases d <;> first
      | (exfalso; simp [plainDesc, hu] at h; done)
      | (simp only [List.getElem?_toArray] <;> cases l[off]? <;> rfl)
theorem part_agg {T : TypeId} (l : List Value) (off n : Nat) (h : aggDesc (P.underlying T) = true) (hz : P.szo T = some n) : vPart P T l.toArray off KV = KV (.agg ((l.take (off + n)).drop off).toArray) := by
  have e : l.toArray.extract off (off + n) = ((l.take (off + n)).drop off).toArray := by
    apply Array.ext'
    simp [List.extract_eq_take_drop]
    rw [List.drop_take]; congr 1; omega
  rw [vPart]
  cases hu : P.underlying T with
  | none => simp [hu, aggDesc] at h
  | some d => cases d <;> simp_all [aggDesc]
theorem fd_cell (S f : Nat) (l : List Value) {fields : Array Field} {fd : Field} {o : Nat} (h : P.underlying S = some (.struct fields)) (hf : fields[f]? = some fd) (hp : plainDesc (P.underlying fd.type) = true) (ho : fd.offset = o) (_hz : P.szo fd.type = some 1) : vField P S (.agg l.toArray) f KV = vNth l o KV := by
  subst ho
  simp only [vField, h, hf, part_cell l _ hp]
theorem fd_agg (S f : Nat) (l : List Value) (n : Nat) {fields : Array Field} {fd : Field} {o m : Nat} (h : P.underlying S = some (.struct fields)) (hf : fields[f]? = some fd) (hp : aggDesc (P.underlying fd.type) = true) (ho : (fd.offset, fd.offset + n) = (o, m)) (hz : P.szo fd.type = some n) : vField P S (.agg l.toArray) f KV = KV (.agg ((l.take m).drop o).toArray) := by
  simp only [Prod.mk.injEq] at ho
  obtain ⟨rfl, rfl⟩ := ho
  simp only [vField, h, hf, part_agg l _ n hp hz]
theorem bd_of {T : TypeId} {ps : List (Nat × Value)} {cells : Array Value} (h : P.built T ps = some cells) : vBuild P T ps KV = KV (.agg cells) := by simp [vBuild, h]
theorem ix_agg (T : TypeId) (l : List Value) (k : IntKind) (i : Int) {n E : Nat} (h : P.underlying T = some (.array n E)) (hz : P.szo E = some 1) (hp : plainDesc (P.underlying E) = true) (_hn : P.szo T = some n) : vIndex P T (.agg l.toArray) (.int k i) KV = ((0 ≤ i ∧ i < (n : Int)) ∧ vNth l i.toNat KV) := by
  simp only [vIndex, h, hz, Nat.mul_one, part_cell l _ hp]
theorem ln_ar {n E : Nat} (T : TypeId) (v : Value) (h : P.underlying T = some (.array n E)) : vLen P T v KV = KV (.int .i64 (n : Int)) := by
  simp [vLen, h]
end
attribute [go_sem ↓] vNth_zero vNth_succ
attribute [go_sem] add_mk Option.isNone_some Option.isNone_none
end Go.Eng
namespace Go.Eng
open Go
theorem vcOps_still {P : Program} {N : Nat} {ops rest : List Oper} {Q : Exit → Act → World → Prop} {K : Env → World → Prop} {w : World} {n : Nat} (hR : rest.all (dstOk N) = true)
    (hK : ∀ e a w n, Fits N e a → K e w → Q .normal a (w.drewN n)) : ∀ (pre : List Oper) (e : Env) (a : Act), pre.all (dstOk N) = true → pre.all (fun o => isPure P o.op) = true → Fits N e a →
      vcOps P N ops (pre ++ rest) e w K → wpStill P ops.toArray (w.drewN n) (fun a' => wpList P ops.toArray Q rest a' (w.drewN n)) pre a := by
  intro pre
  induction pre with
  | nil => intro e a _ _ ha h; exact vcOps_sound hK rest e a w n hR ha h
  | cons o pre ih =>
    intro e a hl hp ha h
    simp only [List.all_cons, Bool.and_eq_true] at hl hp
    unfold wpStill
    rcases vGuard_sound ha h with ⟨e', ha', h', hw⟩ | ⟨e', ha', h', hw⟩
    · rw [if_pos hw]
      unfold vcStep at h'
      rw [hp.1] at h'
      obtain ⟨v, hv, hr⟩ := vcOp_sound ha' h'
      unfold Oper.still
      rw [hr (w.drewN n) (Ext.drewN w n)]
      exact ⟨rfl, ih _ _ hl.2 hp.2 (ha'.put' hl.1 v) hv⟩
    · rw [if_neg (by rw [hw]; simp)]
      exact ih _ _ hl.2 hp.2 (ha'.put' hl.1 undef) h'
theorem VC_regionL {P : Program} {fn : Func} {F : Value → World → Prop} {N : Nat} {k : List It} {e : Env} {w : World} (ks : List Nat) (m : Nat) {id : Nat} {ops : List Oper} (hm : P.follows .mixedOrders = true)
    (hB : Region.lexTailB .any ops.toArray m = true) (hp : (ops.take m).all (fun o => isPure P o.op) = true) (hN : ops.all (dstOk N) = true)
    (h : ∀ K : Env → World → Prop, (∀ e w, VC ⟨P, fn, F, N⟩ k e w → K e w) → vcOps P N ops ops e w (selC ks K)) : VC ⟨P, fn, F, N⟩ (.code (.region id ops.toArray true) :: k) e w := by
  intro a n ha
  have hN' := hN
  rw [← List.take_append_drop m ops, List.all_append, Bool.and_eq_true] at hN'
  refine wp_region_still_tail m hm hB ?_
  show wpStill P ops.toArray (w.drewN (n + 1)) (fun a' => wpList P ops.toArray (fun ex a w => cont ⟨P, fn, F, N⟩ k ex a w) (ops.drop m) a' (w.drewN (n + 1))) (ops.take m) a
  refine vcOps_still (n := n + 1) (K := selC ks (VC ⟨P, fn, F, N⟩ k)) hN'.2 (fun e a w n ha hv => ?_) (ops.take m) e a hN'.1 hp ha ?_
  · exact ((selK_spec ks e _).1 hv) a n (ha.sel ks)
  · rw [List.take_append_drop]; exact h _ fun _ _ hv => hv
theorem bytesV_take (l : List UInt8) (k : Nat) : (bytesV l).take k = bytesV (l.take k) := by simp [bytesV]
theorem bytesV_drop (l : List UInt8) (k : Nat) : (bytesV l).drop k = bytesV (l.drop k) := by simp [bytesV]
theorem bytesV_zero (n : Nat) : List.replicate n (Value.int .u8 0) = bytesV (List.replicate n 0) := by simp [bytesV]
theorem bytesV_get {l : List UInt8} {i : Nat} (h : i < l.length) : (bytesV l)[i]? = some (.int .u8 (l.getD i 0).toNat) := by
  simp [bytesV, List.getElem?_eq_getElem h, List.getD_eq_getElem?_getD]
theorem intsV_take (l : List Int) (k : Nat) : (intsV l).take k = intsV (l.take k) := by simp [intsV]
theorem intsV_drop (l : List Int) (k : Nat) : (intsV l).drop k = intsV (l.drop k) := by simp [intsV]
theorem intsV_zero (n : Nat) : List.replicate n (Value.int .i64 0) = intsV (List.replicate n 0) := by simp [intsV]
theorem intsV_get {l : List Int} {i : Nat} (h : i < l.length) : (intsV l)[i]? = some (.int .i64 (l.getD i 0)) := by
  simp [intsV, List.getElem?_eq_getElem h, List.getD_eq_getElem?_getD]
theorem intsV_set (l : List Int) (i : Nat) (v : Int) : (intsV l).set i (.int .i64 v) = intsV (l.set i v) := by simp [intsV, List.map_set]
theorem bytesV_set (l : List UInt8) (i : Nat) (v : UInt8) : (bytesV l).set i (.int .u8 v.toNat) = bytesV (l.set i v) := by simp [bytesV, List.map_set]
theorem splice1 {α : Type} (l : List α) (i : Nat) (v : α) (h : i < l.length) : l.take i ++ [v] ++ l.drop (i + 1) = l.set i v := by
  rw [List.set_eq_take_append_cons_drop, if_pos h, List.append_assoc]; rfl
theorem rs_pos {w : World} {a : Option Addr} {n sz : Nat} {xs : List Value} (h : RS w a n sz xs) (hn : 0 < n) : ∃ p, a = some p := by
  cases a with
  | none => have := h.2.1 rfl; omega
  | some p => exact ⟨p, rfl⟩
theorem rs_int {w : World} {p : Addr} {l : List Int} {n : Nat} (h : RS w (some p) n 1 (intsV l)) {i : Nat} (hi : i < l.length) : w.cell? (p.add i) = some (.int .i64 (l.getD i 0)) :=
  h.2.2 p rfl i _ (intsV_get hi)
theorem rs_byte {w : World} {p : Addr} {l : List UInt8} {n : Nat} (h : RS w (some p) n 1 (bytesV l)) {i : Nat} (hi : i < l.length) : w.cell? (p.add i) = some (.int .u8 (l.getD i 0).toNat) :=
  h.2.2 p rfl i _ (bytesV_get hi)
theorem drop_getD {α : Type} {l : List α} {i : Nat} (d : α) (h : i < l.length) : l.drop i = l.getD i d :: l.drop (i + 1) := by
  rw [List.drop_eq_getElem_cons h, List.getD_eq_getElem?_getD, List.getElem?_eq_getElem h]; rfl
theorem take_getD {α : Type} {l : List α} {i : Nat} (d : α) (h : i < l.length) : l.take (i + 1) = l.take i ++ [l.getD i d] := by
  rw [List.take_add_one, List.getD_eq_getElem?_getD, List.getElem?_eq_getElem h]; rfl
theorem getD_mem {α : Type} {l : List α} {i : Nat} (d : α) (h : i < l.length) : l.getD i d ∈ l := by
  rw [List.getD_eq_getElem?_getD, List.getElem?_eq_getElem h]; exact List.getElem_mem h
theorem heap_nil {w : World} {E sz : Nat} : Heap w [] w [Res.row E sz none 0 0 []] := Heap.one (r := Res.row E sz none 0 0 []) (row_nil E sz w) (by intro b hb; cases hb)
theorem Heap.nilRow {w0 w : World} {B : List Nat} {G : List Res} (h : Heap w0 B w G) (E sz : Nat) : Heap w0 B w (Res.row E sz none 0 0 [] :: G) := h.call0 (G' := [Res.row E sz none 0 0 []]) heap_nil
theorem shN_of {k : IntKind} {i : Int} {n : Nat} (h : i = n) (hn : n ≤ k.bits) : shN k i = n := by subst h; simp [shN]; exact Nat.min_eq_left hn
theorem shN_u {k : IntKind} {i : Int} {n : Nat} (h : i = n) (hn : n ≤ k.bits) (hk : k.bits ≤ 64) : shN k (i % 18446744073709551616) = n := by
  subst h
  rw [Int.emod_eq_of_lt (by omega) (by omega), shN]; simp; exact Nat.min_eq_left hn
theorem pow2_cast (n : Nat) : ((2 : Int) ^ n) = ((2 ^ n : Nat) : Int) := by push_cast; rfl
theorem shr_cast (v n : Nat) : (v : Int) / 2 ^ n = ((v / 2 ^ n : Nat) : Int) := by rw [pow2_cast, ← Int.natCast_ediv]
theorem shl_cast (v n : Nat) : (v : Int) * 2 ^ n = ((v * 2 ^ n : Nat) : Int) := by rw [pow2_cast, ← Int.natCast_mul]
end Go.Eng
namespace Go.Eng
open Go
theorem run_vLoadVar {P : Program} {T : TypeId} {a : Addr} {w : World} {K : Value → Prop} (h : vLoad P T (.pointer (some a)) w K) :
    ∃ v, K v ∧ ∀ w', Ext w w' → (loadVar T a).run P w' = .ok v w' := by
  have key : ∀ (n : Nat), (P.szo T = some n) → (∀ w, (isAgg T).run P w = .ok true w) → ∀ cs : List Value, cs.length = n → Reads w a cs →
      ∀ w', Ext w w' → (loadVar T a).run P w' = .ok (.agg cs.toArray) w' := by
    intro n hn hagg cs hl hr w' hw
    have := run_loadCells_reads (P := P) (hr.ext hw)
    rw [hl] at this
    simp [loadVar, hagg, run_szo hn, this]
  unfold vLoad at h
  simp only at h
  split at h
  · rename_i hu
    split at h
    · rename_i n hn
      obtain ⟨cs, ⟨hl, hr⟩, hK⟩ := h
      exact ⟨_, hK, key n hn (fun w => by simp [isAgg, run_underlying hu]) cs hl hr⟩
    · exact h.elim
  · rename_i hu
    split at h
    · rename_i n hn
      obtain ⟨cs, ⟨hl, hr⟩, hK⟩ := h
      exact ⟨_, hK, key n hn (fun w => by simp [isAgg, run_underlying hu]) cs hl hr⟩
    · exact h.elim
  · rename_i d hd1 hd2 hu
    obtain ⟨v, hv, hK⟩ := h
    refine ⟨v, hK, fun w' hw => ?_⟩
    have hc : w'.cell? a = some v := hw.cell hv
    have : (isAgg T).run P w' = .ok false w' := by
      cases d <;> simp_all [isAgg, run_underlying hu]
    simp [loadVar, this, hc]
  · exact h.elim
section
variable {C : Ctx} {e : Env} {w : World}
theorem VX_retC1 {t : Tmp} {T : TypeId} {a : Addr} (hr : C.fn.results = #[.cell t T]) (ht : e.find? t = some (.pointer (some a))) (h : vLoad C.P T (.pointer (some a)) w fun v => C.F v w) : VX C [] .ret e w := by
  intro ac n ha
  obtain ⟨v, hv, hrun⟩ := run_vLoadVar h
  refine ⟨ha.defers, v, ?_, v, w, n, rfl, rfl, hv⟩
  have h1 := ha.at_ t _ ht
  rw [Array.getD_eq_getD_getElem?] at h1
  have h2 := hrun (w.drewN n) (Ext.drewN w n)
  simp [results, hr, h1, asAddr, h2]
theorem VX_retC2 {t u : Tmp} {T : TypeId} {a : Addr} {x : Value} (hr : C.fn.results = #[.cell t T, .tmp u]) (ht : e.find? t = some (.pointer (some a))) (hu : e.find? u = some x) (h : vLoad C.P T (.pointer (some a)) w fun v => C.F (.tuple #[v, x]) w) : VX C [] .ret e w := by
  intro ac n ha
  obtain ⟨v, hv, hrun⟩ := run_vLoadVar h
  refine ⟨ha.defers, .tuple #[v, x], ?_, _, w, n, rfl, rfl, hv⟩
  have h1 := ha.at_ t _ ht
  rw [Array.getD_eq_getD_getElem?] at h1
  have h3 := ha.at_ u _ hu
  rw [Array.getD_eq_getD_getElem?] at h3
  have h2 := hrun (w.drewN n) (Ext.drewN w n)
  simp [results, hr, h1, h3, asAddr, h2]
theorem VX_retC3 {t u s : Tmp} {T : TypeId} {a : Addr} {x y : Value} (hr : C.fn.results = #[.cell t T, .tmp u, .tmp s]) (ht : e.find? t = some (.pointer (some a))) (hu : e.find? u = some x) (hs : e.find? s = some y) (h : vLoad C.P T (.pointer (some a)) w fun v => C.F (.tuple #[v, x, y]) w) : VX C [] .ret e w := by
  intro ac n ha
  obtain ⟨v, hv, hrun⟩ := run_vLoadVar h
  refine ⟨ha.defers, .tuple #[v, x, y], ?_, _, w, n, rfl, rfl, hv⟩
  have h1 := ha.at_ t _ ht
  rw [Array.getD_eq_getD_getElem?] at h1
  have h3 := ha.at_ u _ hu
  rw [Array.getD_eq_getD_getElem?] at h3
  have h4 := ha.at_ s _ hs
  rw [Array.getD_eq_getD_getElem?] at h4
  have h2 := hrun (w.drewN n) (Ext.drewN w n)
  simp [results, hr, h1, h3, h4, asAddr, h2]
end
theorem vLoad_blk {P : Program} {T : TypeId} {g T' n : Nat} {cs : List Value} {w : World} {K : Value → Prop} (h : (Res.blk g T' cs).holds w) (hd : aggDesc (P.underlying T) = true) (hz : P.szo T = some n) (hn : cs.length = n) (hk : K (.agg cs.toArray)) : vLoad P T (.pointer (some ⟨g, 0, none⟩)) w K := by
  unfold vLoad
  cases hu : P.underlying T with
  | none => simp [hu, aggDesc] at hd
  | some d =>
    cases d <;> first
      | (exfalso; simp [aggDesc, hu] at hd; done)
      | (simp only [hz]; exact ⟨cs, ⟨hn, blk_reads h⟩, hk⟩)
end Go.Eng
namespace Go.Eng
open Go
theorem foldl_set (cs : List Value) : ∀ (i : Nat) (pre mid suf : List Value), mid.length = cs.length → pre.length = i →
    (cs.zipIdx i).foldl (fun (a : Array Value) (x : Value × Nat) => a.setIfInBounds x.2 x.1) (pre ++ mid ++ suf).toArray = (pre ++ cs ++ suf).toArray := by
  induction cs with
  | nil => intro i pre mid suf hm hp; simp at hm; subst hm; simp
  | cons c cs ih =>
    intro i pre mid suf hm hp
    cases mid with
    | nil => simp at hm
    | cons m mid =>
      simp only [List.zipIdx_cons, List.foldl_cons]
      have e : (pre ++ m :: mid ++ suf).toArray.setIfInBounds i c = ((pre ++ [c]) ++ mid ++ suf).toArray := by
        subst hp
        apply Array.ext'
        simp [List.set_append_right]
      rw [e, ih (i + 1) (pre ++ [c]) mid suf (by simpa using hm) (by simp [hp])]
      simp
theorem fill_cellsK (k : Nat) : ∀ (l : List Value) (i : Nat) (pre suf : List Value), suf.length = l.length * k → (∀ v ∈ l, v.cells.size = k) → pre.length = i * k →
    Instr.fill (fun i => some (i * k, k)) (pre ++ suf).toArray ((l.zipIdx i).map fun p => (p.2, p.1)) = some (pre ++ l.flatMap fun v => v.cells.toList).toArray := by
  intro l
  induction l with
  | nil => intro i pre suf hs _ _; simp at hs; subst hs; simp [Instr.fill]
  | cons v l ih =>
    intro i pre suf hs hc hp
    have hv := hc v (by simp)
    simp only [List.length_cons, Nat.add_mul, Nat.one_mul] at hs
    obtain ⟨mid, suf', rfl, hmid⟩ : ∃ mid suf', suf = mid ++ suf' ∧ mid.length = k := ⟨suf.take k, suf.drop k, by simp, by simp; omega⟩
    simp only [List.length_append] at hs
    simp only [List.zipIdx_cons, List.map_cons, Instr.fill]
    rw [if_neg (by simp; omega)]
    have hcl : v.cells.toList.length = k := by rw [Array.length_toList]; exact hv
    have e1 : (v.cells.zipIdx.foldl (fun cs (x : Value × Nat) => cs.setIfInBounds (i * k + x.2) x.1) (pre ++ (mid ++ suf')).toArray) = ((pre ++ v.cells.toList) ++ suf').toArray := by
      have h2 := foldl_set v.cells.toList (i * k) pre mid suf' (by rw [hmid, hcl]) hp
      rw [← List.append_assoc, ← h2, ← Array.foldl_toList]
      rw [List.zipIdx_eq_map_add]
      simp [Array.toList_zipIdx, List.foldl_map, Nat.add_comm]
    have hih := ih (i + 1) (pre ++ v.cells.toList) suf' (by omega) (fun u hu => hc u (by simp [hu])) (by rw [List.length_append, hcl, hp, Nat.add_mul, Nat.one_mul])
    rw [e1, hih, List.flatMap_cons, List.append_assoc]
section
variable {P : Program} {N : Nat} {d : Option Tmp} {ty : Nat} {pos : String} {af : Array Edge} {gd : Option (Nat × Bool)} {e : Env} {w : World} {R : Env → World → (Env → World → Prop) → Prop} {K : Env → World → Prop}
theorem argL_mono' {e : Env} : ∀ (xs : List Operand) (K K' : List Value → Prop), argL e xs K → (∀ vs, vs.length = xs.length → K vs → K' vs) → argL e xs K' := by
  intro xs
  induction xs with
  | nil => intro K K' h hk; exact hk [] rfl h
  | cons x xs ih =>
    intro K K' h hk
    simp only [argL] at h ⊢
    have ka : ∀ (x : Operand) (K K' : Value → Prop), arg e x K → (∀ v, K v → K' v) → arg e x K' := by
      intro x K K' h2 hk2
      have kt : ∀ (e : Env) (n : Nat), argT e n K → argT e n K' := by
        intro e
        induction e with
        | nil => intro n h; exact h
        | cons p e ihe =>
          intro n h
          simp only [argT] at h ⊢
          split
          · rename_i hn; rw [if_pos hn] at h; exact hk2 _ h
          · rename_i hn; rw [if_neg hn] at h; exact ihe _ h
      cases x with
      | tmp t => exact kt e t h2
      | const v => exact hk2 _ h2
      | global g => exact hk2 _ h2
      | func f => exact hk2 _ h2
    exact ka x _ _ h fun v hv => ih _ _ hv fun vs hl hvs => hk (v :: vs) (by simp [hl]) hvs
theorem MemK_litK {w0 : World} {B : List Nat} {G : List Res} (hH : Heap w0 B w G) (k : Nat) (cs : List Value) {T E : TypeId} {n : Nat} {ps : Array (Nat × Operand)} {xs : List Operand} (hu : P.underlying T = some (.slice E)) (hsz : P.szo E = some k) (hz : (P.zeroOf E).isSome = true)
    (hps : ps.toList = (xs.zipIdx).map fun p => (p.2, p.1)) (hn : n = xs.length) (hb : n * k ≤ 1000000) (hn0 : n * k ≠ 0)
    (h : argL e xs fun vs => (vs.flatMap fun v => v.cells.toList) = cs ∧ (∀ v ∈ vs, v.cells.size = k) ∧ ∀ g w', Heap w0 B w' (Res.row E k (some ⟨g, 0, none⟩) n n cs :: G) → R (e.put d (.slice (some ⟨g, 0, none⟩) n n)) w' K) :
    MemK P N ⟨d, .buildSlice T n ps, ty, pos, af, gd⟩ e w R K := by
  refine Mem_of_run fun a m ha => ?_
  have h' := argL_mono' xs _ (fun vs => vs.length = xs.length ∧ (vs.flatMap fun v => v.cells.toList) = cs ∧ (∀ v ∈ vs, v.cells.size = k) ∧ ∀ g w', Heap w0 B w' (Res.row E k (some ⟨g, 0, none⟩) n n cs :: G) → R (e.put d (.slice (some ⟨g, 0, none⟩) n n)) w' K) h fun vs hl hv => ⟨hl, hv⟩
  obtain ⟨hl, h1, h2, hR⟩ := argL_sound (K := fun vs => vs.length = xs.length ∧ (vs.flatMap fun v => v.cells.toList) = cs ∧ (∀ v ∈ vs, v.cells.size = k) ∧ ∀ g w', Heap w0 B w' (Res.row E k (some ⟨g, 0, none⟩) n n cs :: G) → R (e.put d (.slice (some ⟨g, 0, none⟩) n n)) w' K) ha h'
  obtain ⟨z, hz⟩ := Option.isSome_iff_exists.1 hz
  have hcl : cs.length = n * k := by
    rw [← h1, hn, ← hl]
    have : ∀ (vs : List Value), (∀ v ∈ vs, v.cells.size = k) → (vs.flatMap fun v => v.cells.toList).length = vs.length * k := by
      intro vs
      induction vs with
      | nil => intro _; simp
      | cons v vs ih => intro hv; rw [List.flatMap_cons, List.length_append, ih fun u hu => hv u (by simp [hu]), Array.length_toList, hv v (by simp), List.length_cons, Nat.add_mul]; omega
    exact this _ h2
  refine ⟨.slice (some ⟨w.heap.size, 0, none⟩) n n, w.alloc (.cells cs.toArray E), m, ?_, ?_⟩
  · have e1 : (ps.map fun (i, x) => (i, a.eval x)).toList = ((xs.map a.eval).zipIdx).map fun p => (p.2, p.1) := by
      rw [Array.toList_map, hps]
      simp [List.zipIdx_map]
    have hf := fill_cellsK k (xs.map a.eval) 0 [] (((Array.range (n * k)).map fun x => z.cells[x % z.cells.size]!).toList) (by rw [Array.length_toList, Array.size_map, Array.size_range, hl, hn]) h2 (by simp)
    simp only [List.nil_append, Array.toArray_toList, h1] at hf
    have hs := run_szo (P := P) hsz
    simp only [execOp, Instr.buildSlice, Sem.run_bind, run_underlying hu, hs, Result.andThen_ok]
    rw [if_neg (by omega), if_neg hn0]
    simp only [Sem.run_bind, run_zeroOf hz, Sem.run_pure, Result.andThen_ok, e1, hf, run_newRow]
    rfl
  · have := hH.row E (n := n) (cap := n) (sz := k) cs [] hcl (by rw [List.append_nil]; exact hcl) (Nat.le_refl _) (by
      have : n ≤ n * k := Nat.le_mul_of_pos_right _ (Nat.pos_of_ne_zero fun h => hn0 (by rw [h]; simp))
      omega)
    rw [List.append_nil] at this
    exact hR _ _ this
theorem rs_part {w : World} {p : Addr} {n sz : Nat} {xs : List Value} (h : RS w (some p) n sz xs) (hs : p.spot = none) (k : Nat) (ys : List Value) (hy : ∀ j u, ys[j]? = some u → xs[k + j]? = some u) : Reads w (p.add k) ys := by
  intro j u hu
  rw [add_add p hs]
  exact h.2.2 p rfl _ u (hy j u hu)
end
end Go.Eng
set_option linter.unusedSimpArgs false
set_option linter.unusedVariables false
namespace Go.Eng
open Go
def Keeps {α : Type} (P : Program) (s : Sem α) : Prop := ∀ w a w', s.run P w = .ok a w' → w' = w
section
variable {P : Program}
theorem Keeps.pure {α : Type} (a : α) : Keeps P (Pure.pure a : Sem α) := by
  intro w b w' h
  simp only [Sem.run_pure, Result.ok.injEq] at h
  exact h.2.symm
theorem Keeps.bind {α β : Type} {s : Sem α} {f : α → Sem β} (h : Keeps P s) (k : ∀ a, Keeps P (f a)) : Keeps P (s >>= f) := by
  intro w b w' hr
  rw [Sem.run_bind] at hr
  cases hs : s.run P w with
  | ok a w1 =>
    rw [hs, Result.andThen_ok] at hr
    rw [k a w1 b w' hr, h w a w1 hs]
  | halt x w1 => rw [hs] at hr; simp [Result.andThen] at hr
theorem Keeps.load (a : Addr) : Keeps P (Go.load a) := by
  intro w v w' h
  unfold Go.load at h
  cases hc : w.cell? a with
  | none =>
    simp only [Sem.run, hc] at h
    cases hf : World.farLoad P w a (Mode.plain == Mode.atomic) with
    | ok x => obtain ⟨x1, x2⟩ := x; rw [hf] at h; simp only [Result.ok.injEq] at h; exact h.2.symm
    | error x => rw [hf] at h; simp at h
  | some x => simp [Sem.run, hc] at h; exact h.2.symm
theorem Keeps.stuck {α : Type} (why : String) : Keeps P (Go.stuck why : Sem α) := by
  intro w v w' h
  simp at h
theorem Keeps.program {α : Type} {f : Program → Sem α} (h : ∀ p, Keeps P (f p)) : Keeps P (Go.program >>= f) := by
  refine Keeps.bind ?_ h
  intro w v w' h
  simp [Go.program, Sem.run] at h
  exact h.2.symm
theorem Keeps.underlying (T : TypeId) : Keeps P (Go.underlying T) := by
  refine Keeps.program fun p => ?_
  cases p.underlying T with
  | some d => exact Keeps.pure d
  | none => exact Keeps.stuck _
theorem Keeps.typeInfo (T : TypeId) : Keeps P (Go.typeInfo T) := by
  refine Keeps.program fun p => ?_
  cases p.info? T with
  | some d => exact Keeps.pure d
  | none => exact Keeps.stuck _
theorem Keeps.sizeOf (T : TypeId) : Keeps P (Go.sizeOf T) := Keeps.bind (Keeps.typeInfo T) fun _ => Keeps.pure _
theorem Keeps.isAgg (T : TypeId) : Keeps P (Go.isAgg T) := by
  refine Keeps.bind (Keeps.underlying T) fun d => ?_
  cases d <;> exact Keeps.pure _
theorem Keeps.loadCellsFrom (a : Addr) : ∀ (n i : Nat) (acc : Array Value), Keeps P (Go.loadCellsFrom a i n acc)
  | 0, _, acc => Keeps.pure acc
  | n + 1, i, acc => Keeps.bind (Keeps.load _) fun v => Keeps.loadCellsFrom a n (i + 1) (acc.push v)
theorem Keeps.loadVar (T : TypeId) (a : Addr) : Keeps P (Go.loadVar T a) := by
  refine Keeps.bind (Keeps.isAgg T) fun b => ?_
  cases b with
  | true => exact Keeps.bind (Keeps.sizeOf T) fun n => Keeps.bind (Keeps.loadCellsFrom a n 0 #[]) fun _ => Keeps.pure _
  | false => exact Keeps.load a
theorem Keeps.loadAt (T : TypeId) (x : Value) : Keeps P (Instr.loadAt T x) := by
  unfold Instr.loadAt
  refine Keeps.bind ?_ fun a => Keeps.loadVar T a
  unfold Instr.sureAddr
  split
  · exact Keeps.pure _
  · exact Keeps.stuck _
theorem wpOp_load {ops : Array Oper} {Q : Exit → Act → World → Prop} {j : Nat} {o : Oper} {T : TypeId} {x : Operand} {K : Act → World → Prop} {a : Act} {w : World} (hj : ops[j]? = some o) (ho : o.op = .load T x)
    (h : wpOp P ops Q j K a w) : wpOp P ops Q j (fun a' w' => w' = w ∧ K a' w') a w := by
  unfold wpOp at *
  simp only [hj] at *
  split
  · rename_i hw
    simp only [hw, if_true] at h
    rcases h with h | h
    · refine .inl ?_
      unfold Oper.wp at *
      have e : execOp a.eval o = (do pure (.value (← Instr.loadAt T (a.eval x))) : Sem Next) := by simp only [execOp, ho]
      rw [e] at h ⊢
      cases hr : (Instr.loadAt T (a.eval x)).run P w with
      | ok v w' =>
        have hk := Keeps.loadAt (P := P) T (a.eval x) w v w' hr
        subst hk
        simp only [Sem.run_bind, hr, Result.andThen_ok, Sem.run_pure, Oper.upon] at h ⊢
        exact ⟨trivial, h⟩
      | halt e w' =>
        simp only [Sem.run_bind, hr, Result.andThen] at h ⊢
        cases e <;> first | (simp at h; done) | exact h
    · exact .inr h
  · rename_i hw
    simp only [hw] at h
    exact ⟨trivial, h⟩
theorem wpAny_firstL {ops : Array Oper} {md : Region.Mode} {Q : Exit → Act → World → Prop} {i : Nat} {oi : Oper} {v : Value} {w : World} (hi : ops[i]? = some oi) (hsel : ∀ (j : Nat) (o : Oper) cs b, ops[j]? = some o → o.op ≠ .select cs b)
    (hQ : ∀ c a w, Q (.panic c) (a.put oi.dst v) w → Q (.panic c) a w) :
    ∀ (fuel : Nat) (listed : Array Bool) (a : Act),
      (∀ j oj, ops[j]? = some oj → j ≠ i → listed.getD j true = false → (∀ e ∈ oj.after, Region.binds md e = true → e.on ≠ i) → oi.apart ops oj = true ∧ ∃ T x, oj.op = .load T x) →
      i ∈ Region.ready md ops listed → YieldsIf P ops (fun w' => w' = w) oi v a →
      wpAny P md ops Q fuel (listed.setIfInBounds i true) (a.put oi.dst v) w → wpAny P md ops Q (fuel + 1) listed a w := by
  intro fuel
  induction fuel with
  | zero =>
    intro listed a _ hr hy H
    refine ⟨fun h => (by rw [h] at hr; cases hr), fun j hj => ?_⟩
    by_cases hji : j = i
    · subst hji; exact hy.wpOp hi rfl H
    · have := ready_mono hj hji
      rw [H.1] at this
      cases this
  | succ fuel ih =>
    intro listed a hfree hr hy H
    refine ⟨fun h => (by rw [h] at hr; cases hr), fun j hj => ?_⟩
    by_cases hji : j = i
    · subst hji; exact hy.wpOp hi rfl H
    · have h1 := H.2 j (ready_mono hj hji)
      obtain ⟨hjun, oj, hoj, hall⟩ := mem_ready.1 hj
      have hnot : ∀ e ∈ oj.after, Region.binds md e = true → e.on ≠ i := fun e he hb heq => by
        have h1 := hall e he hb
        have h0 := (mem_ready.1 hr).1
        rw [heq] at h1
        rcases Nat.lt_or_ge i listed.size with h' | h'
        · simp [h'] at h0 h1; rw [h0] at h1; cases h1
        · simp [Array.getElem?_eq_none h'] at h1
      obtain ⟨hap, T, x, hop⟩ := hfree j oj hoj hji hjun hnot
      have h2 := wpOp_load hoj hop (wpOp_putIf hoj hap (fun cs b => hsel i oi cs b hi) (fun cs b => hsel j oj cs b hoj) hQ hy h1)
      refine wpOp_mono (fun a' w' h3 => ?_) h2
      obtain ⟨rfl, h4, h5⟩ := h3
      refine ih (listed.setIfInBounds j true) a' (fun k ok hk hki hun hno => ?_) (ready_mono hr (Ne.symm hji)) h4 ?_
      · refine hfree k ok hk hki ?_ hno
        by_cases hjk : j = k
        · subst hjk; exact hjun
        · rw [getD_set_ne true hjk] at hun; exact hun
      · rw [Array.setIfInBounds_comm _ _ hji]
        exact h5
end
def freeL (ops : Array Oper) (listed : Array Bool) (i : Nat) : Bool :=
  match ops[i]? with
  | none => false
  | some oi => (List.range ops.size).all fun j => j == i || listed.getD j true || match ops[j]? with
      | some oj => oj.after.any (fun e => Region.binds .any e && e.on == i) || (oi.apart ops oj && match oj.op with | .load .. => true | _ => false)
      | none => true
theorem freeL_spec {ops : Array Oper} {i : Nat} {oi : Oper} {listed : Array Bool} (hi : ops[i]? = some oi) (h : freeL ops listed i = true) (j : Nat) (oj : Oper)
    (hj : ops[j]? = some oj) (hne : j ≠ i) (hun : listed.getD j true = false) (hno : ∀ e ∈ oj.after, Region.binds .any e = true → e.on ≠ i) :
    oi.apart ops oj = true ∧ ∃ T x, oj.op = .load T x := by
  simp only [freeL, hi, List.all_eq_true, List.mem_range] at h
  have h1 := h j (Array.getElem?_eq_some_iff.1 hj).1
  simp only [hj, Bool.or_eq_true, beq_iff_eq, hne, false_or, hun, Bool.false_eq_true] at h1
  rcases h1 with h1 | h1
  · obtain ⟨e, he, hb⟩ := Array.any_eq_true'.1 h1
    simp only [Bool.and_eq_true, beq_iff_eq] at hb
    exact absurd hb.2 (hno e he hb.1)
  · simp only [Bool.and_eq_true] at h1
    refine ⟨h1.1, ?_⟩
    cases hop : oj.op <;> simp [hop] at h1 ⊢
def planB (ops : Array Oper) : List (Nat × Nat) → Array Bool → Bool
  | [], listed => (Region.ready .any ops listed).isEmpty
  | (i, t) :: plan, listed =>
    (decide (i < ops.size)) && (match t with
      | 0 => Region.free .any ops listed i && (Region.ready .any ops listed).contains i
      | 1 => (((ops[i]?).map fun o => match o.op with | .load .. => true | _ => false).getD false && freeL ops listed i) && (Region.ready .any ops listed).contains i
      | _ => Region.ready .any ops listed == [i]) && planB ops plan (listed.setIfInBounds i true)
def bare (w : World) : World := { w with heap := #[] }
theorem ext_bare (w w' : World) : Ext (bare w) w' := ⟨fun i o h => by simp [bare] at h⟩
theorem extR_bare (w : World) (R : Env → World → (Env → World → Prop) → Prop) : extR (bare w) R = R := by
  funext e w' K
  exact propext ⟨fun h => h.2, fun h => ⟨ext_bare _ _, h⟩⟩
theorem vcB_sound {P : Program} {N : Nat} {ops : List Oper} {w0 : World} {Q : Exit → Act → World → Prop} {K : Env → World → Prop} (hN : ops.all (dstOk N) = true) (hsel : Region.noSelect ops.toArray = true)
    (hQ : ∀ c a w (d : Option Tmp) v, Q (.panic c) (a.put d v) w → Q (.panic c) a w)
    (hK : ∀ e a w n, Fits N e a → K e w → Q .normal a (w.drewN n)) : ∀ (plan : List (Nat × Nat)) (fuel : Nat) (listed : Array Bool) (e : Env) (a : Act) (w : World) (n : Nat),
      plan.length ≤ fuel → planB ops.toArray plan listed = true → Fits N e a → vcH P N ops (bare w0) (planned ops (plan.map fun p => (p.1, p.2 == 0))) e w K →
      wpAny P .any ops.toArray Q fuel listed a (w.drewN n) := by
  intro plan
  induction plan with
  | nil =>
    intro fuel listed e a w n _ hp ha h
    simp only [planB, List.isEmpty_iff] at hp
    exact wpAny_done hp (hK e a w n ha h) fuel
  | cons p plan ih =>
    obtain ⟨i, t⟩ := p
    intro fuel listed e a w n hf hp ha h
    simp only [planB, Bool.and_eq_true, decide_eq_true_eq] at hp
    obtain ⟨⟨hi, hstep⟩, hp⟩ := hp
    have hi' : i < ops.length := by simpa using hi
    obtain ⟨o, ho⟩ : ∃ o, ops[i]? = some o := ⟨ops[i], List.getElem?_eq_getElem hi'⟩
    have hoa : ops.toArray[i]? = some o := by simpa using ho
    have hod : dstOk N o = true := by
      rw [List.all_eq_true] at hN
      exact hN o (List.mem_of_getElem? ho)
    have hpl : planned ops (((i, t) :: plan).map fun p => (p.1, p.2 == 0)) = (t == 0, o) :: planned ops (plan.map fun p => (p.1, p.2 == 0)) := by simp [planned, ho]
    rw [hpl] at h
    cases fuel with
    | zero => simp at hf
    | succ fuel =>
    have hf' : plan.length ≤ fuel := by simpa using hf
    rcases vGuard_sound ha h with ⟨e', ha', h', hw⟩ | ⟨e', ha', h', hw⟩
    · have h' : vcStepH P N (isPure P o.op) (t == 0) o e' (bare w0) w (vcH P N ops (bare w0) (planned ops (plan.map fun p => (p.1, p.2 == 0)))) K := h'
      match t, hstep, h' with
      | 0, hstep, h' =>
        simp only [Bool.and_eq_true] at hstep
        cases hpo : isPure P o.op with
        | true =>
          rw [hpo] at h'
          simp only [vcStepH, pw, beq_self_eq_true] at h'
          obtain ⟨v, hv, hr⟩ := vcOp_sound ha' h'
          refine wpAny_take hoa hsel hstep.1 hstep.2 (fun c a w => hQ c a w o.dst v) (.inl ⟨hw, fun w' => hr w' (ext_bare _ _)⟩) ?_
          exact ih fuel _ _ _ w n hf' hp (ha'.put' hod v) hv
        | false => rw [hpo] at h'; exact h'.elim
      | 1, hstep, h' =>
        simp only [Bool.and_eq_true] at hstep
        have hpo : isPure P o.op = true := by
          have h1 := hstep.1.1
          rw [hoa] at h1
          simp only [Option.map_some, Option.getD_some] at h1
          cases hop : o.op <;> simp [hop] at h1 <;> rfl
        rw [hpo] at h'
        simp only [vcStepH, pw, show ((1 : Nat) == 0) = false from rfl] at h'
        obtain ⟨v, hv, hr⟩ := vcOp_sound ha' h'
        refine wpAny_firstL hoa (Region.noSelect_spec hsel) (fun c a w => hQ c a w o.dst v) fuel listed a (freeL_spec hoa hstep.1.2) (by simpa using hstep.2) (.inl ⟨hw, fun w' hw' => by subst hw'; exact hr _ (Ext.drewN w n)⟩) ?_
        exact ih fuel _ _ _ w n hf' hp (ha'.put' hod v) hv
      | t + 2, hstep, h' =>
        simp only [beq_iff_eq] at hstep
        refine wpAny_all hstep (by simp) ?_
        intro j hj
        simp only [List.mem_singleton] at hj
        subst hj
        unfold wpOp
        simp only [hoa, hw, if_true]
        refine .inl ?_
        rw [show ((t + 2 : Nat) == 0) = false from rfl] at h'
        cases hpo : isPure P o.op with
        | true =>
          rw [hpo] at h'
          simp only [vcStepH, pw] at h'
          obtain ⟨v, hv, hr⟩ := vcOp_sound ha' h'
          unfold Oper.wp
          rw [hr (w.drewN n) (Ext.drewN w n)]
          exact ih fuel _ _ _ w n hf' hp (ha'.put' hod v) hv
        | false =>
          rw [hpo] at h'
          have h' : MemH P N o e' (bare w0) w (vcH P N ops (bare w0) (planned ops (plan.map fun p => (p.1, p.2 == 0)))) K := h'
          exact h' a n _ Q ha' fun v w' m hv => ih fuel _ _ _ w' m hf' hp (ha'.put' hod v) hv.2
    · have hnext : wpAny P .any ops.toArray Q fuel (listed.setIfInBounds i true) (a.put o.dst undef) (w.drewN n) :=
        ih fuel _ _ _ w n hf' hp (ha'.put' hod undef) h'
      match t, hstep with
      | 0, hstep =>
        simp only [Bool.and_eq_true] at hstep
        exact wpAny_take hoa hsel hstep.1 hstep.2 (fun c a w => hQ c a w o.dst undef) (.inr ⟨hw, rfl⟩) hnext
      | 1, hstep =>
        simp only [Bool.and_eq_true] at hstep
        exact wpAny_firstL hoa (Region.noSelect_spec hsel) (fun c a w => hQ c a w o.dst undef) fuel listed a (freeL_spec hoa hstep.1.2) (by simpa using hstep.2) (.inr ⟨hw, rfl⟩) hnext
      | t + 2, hstep =>
        simp only [beq_iff_eq] at hstep
        refine wpAny_all hstep (by simp) ?_
        intro j hj
        simp only [List.mem_singleton] at hj
        subst hj
        unfold wpOp
        simp only [hoa, hw, Bool.false_eq_true, if_false]
        exact hnext
theorem VC_regionB {P : Program} {fn : Func} {F : Value → World → Prop} {N : Nat} {k : List It} {e : Env} {w : World} (ks : List Nat) (plan : List (Nat × Nat)) {id : Nat} {ops : List Oper} {l : List (Bool × Oper)}
    (hm : P.follows .mixedOrders = true) (hB : (planB ops.toArray plan (Array.replicate ops.toArray.size false) && Region.noSelect ops.toArray && decide (plan.length ≤ ops.length)) = true) (hN : ops.all (dstOk N) = true) (hl : planned ops (plan.map fun p => (p.1, p.2 == 0)) = l)
    (h : ∀ K : Env → World → Prop, (∀ e w, VC ⟨P, fn, F, N⟩ k e w → K e w) → vcH P N ops (bare w) l e w (selC ks K)) : VC ⟨P, fn, F, N⟩ (.code (.region id ops.toArray true) :: k) e w := by
  intro a n ha
  simp only [Bool.and_eq_true, decide_eq_true_eq] at hB
  obtain ⟨⟨hB1, hB2⟩, hB3⟩ := hB
  refine wp_region_any (P := P) hm ?_
  subst hl
  refine vcB_sound (w0 := w) (K := selC ks (VC ⟨P, fn, F, N⟩ k)) hN hB2 (fun c a w d v hq => cont_panic d v hq) (fun e a w n ha hv => ?_) plan _ _ e a w (n + 1) (by simpa using hB3) hB1 ha (h _ fun _ _ hv => hv)
  exact ((selK_spec ks e _).1 hv) a n (ha.sel ks)
attribute [go_sem] extR_bare
end Go.Eng
set_option linter.unusedSimpArgs false
set_option linter.unusedVariables false
namespace Go.Eng
open Go
inductive Tree3 where
  | seq (pre : List (Nat × Bool)) : Tree3
  | two (pre : List (Nat × Bool)) (i j : Nat) (k k' : Tree3) : Tree3
  | three (pre : List (Nat × Bool)) (i j x : Nat) (k k' k'' : Tree3) : Tree3
def treeOk3 (ops : Array Oper) : Tree3 → Nat → Array Bool → Bool
  | .seq pre, fuel, listed => decide (pre.length ≤ fuel) && match planTo ops pre listed with
    | some l => (Region.ready .any ops l).isEmpty
    | none => false
  | .two pre i j k k', fuel, listed => decide (pre.length + 1 ≤ fuel) && match planTo ops pre listed with
    | some l => Region.ready .any ops l == [i, j] && decide (i < ops.size) && decide (j < ops.size) && treeOk3 ops k (fuel - pre.length - 1) (l.setIfInBounds i true) && treeOk3 ops k' (fuel - pre.length - 1) (l.setIfInBounds j true)
    | none => false
  | .three pre i j x k k' k'', fuel, listed => decide (pre.length + 1 ≤ fuel) && match planTo ops pre listed with
    | some l => Region.ready .any ops l == [i, j, x] && decide (i < ops.size) && decide (j < ops.size) && decide (x < ops.size) && treeOk3 ops k (fuel - pre.length - 1) (l.setIfInBounds i true) && treeOk3 ops k' (fuel - pre.length - 1) (l.setIfInBounds j true) && treeOk3 ops k'' (fuel - pre.length - 1) (l.setIfInBounds x true)
    | none => false
def vcT3 (P : Program) (N : Nat) (ops : List Oper) (w0 : World) : Tree3 → Env → World → (Env → World → Prop) → Prop
  | .seq pre, e, w, K => vcH P N ops w0 (planned ops pre) e w K
  | .two pre i j k k', e, w, K => vcH P N ops w0 (planned ops pre) e w fun e w =>
      vcH P N ops w0 (planned ops [(i, false)]) e w (fun e w => vcT3 P N ops w0 k e w K) ∧ vcH P N ops w0 (planned ops [(j, false)]) e w (fun e w => vcT3 P N ops w0 k' e w K)
  | .three pre i j x k k' k'', e, w, K => vcH P N ops w0 (planned ops pre) e w fun e w =>
      vcH P N ops w0 (planned ops [(i, false)]) e w (fun e w => vcT3 P N ops w0 k e w K) ∧ vcH P N ops w0 (planned ops [(j, false)]) e w (fun e w => vcT3 P N ops w0 k' e w K) ∧ vcH P N ops w0 (planned ops [(x, false)]) e w (fun e w => vcT3 P N ops w0 k'' e w K)
section
variable {P : Program} {N : Nat} {ops : List Oper} {w0 : World} {Q : Exit → Act → World → Prop}
theorem vcT3_sound {K : Env → World → Prop} (hN : ops.all (dstOk N) = true) (hsel : Region.noSelect ops.toArray = true)
    (hQ : ∀ c a w (d : Option Tmp) v, Q (.panic c) (a.put d v) w → Q (.panic c) a w)
    (hK : ∀ e a w n, Fits N e a → K e w → Q .normal a (w.drewN n)) : ∀ (t : Tree3) (fuel : Nat) (listed : Array Bool) (e : Env) (a : Act) (w : World) (n : Nat),
      treeOk3 ops.toArray t fuel listed = true → Fits N e a → Ext w0 w → vcT3 P N ops w0 t e w K →
      wpAnyH P .any ops.toArray Q (fun w' => Ext w0 w') fuel listed a (w.drewN n) := by
  intro t
  induction t with
  | seq pre =>
    intro fuel listed e a w n ht ha hx h
    simp only [treeOk3, Bool.and_eq_true, decide_eq_true_eq] at ht
    obtain ⟨hf, ht⟩ := ht
    cases hp : planTo ops.toArray pre listed with
    | none => rw [hp] at ht; cases ht
    | some l =>
      rw [hp] at ht
      simp only [List.isEmpty_iff] at ht
      exact vcH_then hN hsel hQ pre fuel listed l e a w n hf hp ha hx h fun e a w n h1 _ h3 => wpAnyH_done ht (hK e a w n h1 h3) _
  | two pre i j k k' ihk ihk' =>
    intro fuel listed e a w n ht ha hx h
    simp only [treeOk3, Bool.and_eq_true, decide_eq_true_eq] at ht
    obtain ⟨hf, ht⟩ := ht
    cases hp : planTo ops.toArray pre listed with
    | none => rw [hp] at ht; cases ht
    | some l =>
      rw [hp] at ht
      simp only [Bool.and_eq_true, beq_iff_eq, decide_eq_true_eq] at ht
      obtain ⟨⟨⟨⟨hr, hi⟩, hj⟩, h1⟩, h2⟩ := ht
      refine vcH_then hN hsel hQ pre fuel listed l e a w n (by omega) hp ha hx h fun e a w n g1 g2 g3 => ?_
      obtain ⟨m, hm⟩ : ∃ m, fuel - pre.length = m + 1 := ⟨fuel - pre.length - 1, by omega⟩
      rw [hm]
      have hm' : fuel - pre.length - 1 = m := by omega
      rw [hm'] at h1 h2
      refine wpAnyH_all hr (by simp) ?_
      intro x hx2
      simp only [List.mem_cons, List.not_mem_nil, or_false] at hx2
      rcases hx2 with rfl | rfl
      · exact vcH_pick hN (by simpa using hi) g1 g2 g3.1 fun e a w n f1 f2 f3 => ⟨f2.trans (Ext.drewN w n), ihk m _ e a w n h1 f1 f2 f3⟩
      · exact vcH_pick hN (by simpa using hj) g1 g2 g3.2 fun e a w n f1 f2 f3 => ⟨f2.trans (Ext.drewN w n), ihk' m _ e a w n h2 f1 f2 f3⟩
  | three pre i j y k k' k'' ihk ihk' ihk'' =>
    intro fuel listed e a w n ht ha hx h
    simp only [treeOk3, Bool.and_eq_true, decide_eq_true_eq] at ht
    obtain ⟨hf, ht⟩ := ht
    cases hp : planTo ops.toArray pre listed with
    | none => rw [hp] at ht; cases ht
    | some l =>
      rw [hp] at ht
      simp only [Bool.and_eq_true, beq_iff_eq, decide_eq_true_eq] at ht
      obtain ⟨⟨⟨⟨⟨⟨hr, hi⟩, hj⟩, hy⟩, h1⟩, h2⟩, h3⟩ := ht
      refine vcH_then hN hsel hQ pre fuel listed l e a w n (by omega) hp ha hx h fun e a w n g1 g2 g3 => ?_
      obtain ⟨m, hm⟩ : ∃ m, fuel - pre.length = m + 1 := ⟨fuel - pre.length - 1, by omega⟩
      rw [hm]
      have hm' : fuel - pre.length - 1 = m := by omega
      rw [hm'] at h1 h2 h3
      refine wpAnyH_all hr (by simp) ?_
      intro x hx2
      simp only [List.mem_cons, List.not_mem_nil, or_false] at hx2
      rcases hx2 with rfl | rfl | rfl
      · exact vcH_pick hN (by simpa using hi) g1 g2 g3.1 fun e a w n f1 f2 f3 => ⟨f2.trans (Ext.drewN w n), ihk m _ e a w n h1 f1 f2 f3⟩
      · exact vcH_pick hN (by simpa using hj) g1 g2 g3.2.1 fun e a w n f1 f2 f3 => ⟨f2.trans (Ext.drewN w n), ihk' m _ e a w n h2 f1 f2 f3⟩
      · exact vcH_pick hN (by simpa using hy) g1 g2 g3.2.2 fun e a w n f1 f2 f3 => ⟨f2.trans (Ext.drewN w n), ihk'' m _ e a w n h3 f1 f2 f3⟩
end
theorem VC_regionT3 {P : Program} {fn : Func} {F : Value → World → Prop} {N : Nat} {k : List It} {e : Env} {w : World} (w0 : World) (hx : Ext w0 w) (ks : List Nat) (t : Tree3) {id : Nat} {ops : List Oper}
    (hm : P.follows .mixedOrders = true) (hB : (treeOk3 ops.toArray t ops.toArray.size (Array.replicate ops.toArray.size false) && Region.noSelect ops.toArray) = true) (hN : ops.all (dstOk N) = true)
    (h : ∀ K : Env → World → Prop, (∀ e w, VC ⟨P, fn, F, N⟩ k e w → K e w) → vcT3 P N ops w0 t e w (selC ks K)) : VC ⟨P, fn, F, N⟩ (.code (.region id ops.toArray true) :: k) e w := by
  intro a n ha
  simp only [Bool.and_eq_true] at hB
  obtain ⟨hB1, hB2⟩ := hB
  refine wp_region_held (S := fun w' => Ext w0 w') hm ?_
  refine vcT3_sound (K := selC ks (VC ⟨P, fn, F, N⟩ k)) hN hB2 (fun c a w d v hq => cont_panic d v hq) (fun e a w n ha hv => ?_) t _ _ e a w (n + 1) hB1 ha hx (h _ fun _ _ hv => hv)
  exact ((selK_spec ks e _).1 hv) a n (ha.sel ks)
end Go.Eng
set_option linter.unusedSimpArgs false
set_option linter.unusedVariables false
namespace Go.Eng
open Go
def rowsV {α : Type} (f : α → List Value) (l : List α) : List Value := l.flatMap f
section
variable {α : Type} {f : α → List Value} {k : Nat}
theorem rowsV_len (hk : ∀ x, (f x).length = k) (l : List α) : (rowsV f l).length = l.length * k := by
  induction l with
  | nil => simp [rowsV]
  | cons x l ih => simp only [rowsV, List.flatMap_cons, List.length_append, List.length_cons, Nat.succ_mul] at ih ⊢; rw [ih, hk]; omega
theorem rowsV_append (l m : List α) : rowsV f (l ++ m) = rowsV f l ++ rowsV f m := by simp [rowsV]
theorem rowsV_one (x : α) : rowsV f [x] = f x := by simp [rowsV]
theorem rowsV_get (hk : ∀ x, (f x).length = k) : ∀ (l : List α) (i : Nat) (x : α), l[i]? = some x → ∀ j u, (f x)[j]? = some u → (rowsV f l)[i * k + j]? = some u := by
  intro l
  induction l with
  | nil => intro i x h; simp at h
  | cons y l ih =>
    intro i x h j u hu
    have hj : j < k := by have := (List.getElem?_eq_some_iff.1 hu).1; rwa [hk] at this
    cases i with
    | zero =>
      simp at h; subst h
      simp only [rowsV, List.flatMap_cons]
      rw [Nat.zero_mul, Nat.zero_add, List.getElem?_append_left (by rw [hk]; exact hj)]
      exact hu
    | succ i =>
      have := ih i x (by simpa using h) j u hu
      simp only [rowsV, List.flatMap_cons] at this ⊢
      rw [List.getElem?_append_right (by rw [hk, Nat.succ_mul]; omega), ← this, hk]
      congr 1
      rw [Nat.succ_mul]; omega
theorem rowsV_take (hk : ∀ x, (f x).length = k) : ∀ (l : List α) (i : Nat), (rowsV f l).take (i * k) = rowsV f (l.take i) := by
  intro l
  induction l with
  | nil => intro i; simp [rowsV]
  | cons y l ih =>
    intro i
    cases i with
    | zero => simp [rowsV]
    | succ i =>
      have := ih i
      simp only [rowsV, List.flatMap_cons, List.take_succ_cons] at this ⊢
      rw [Nat.succ_mul, Nat.add_comm, List.take_append, hk, List.take_of_length_le (by rw [hk]; omega), show k + i * k - k = i * k by omega, this]
theorem rowsV_drop (hk : ∀ x, (f x).length = k) : ∀ (l : List α) (i : Nat), (rowsV f l).drop (i * k) = rowsV f (l.drop i) := by
  intro l
  induction l with
  | nil => intro i; simp [rowsV]
  | cons y l ih =>
    intro i
    cases i with
    | zero => simp [rowsV]
    | succ i =>
      have := ih i
      simp only [rowsV, List.flatMap_cons, List.drop_succ_cons] at this ⊢
      rw [Nat.succ_mul, Nat.add_comm, List.drop_append, hk, List.drop_of_length_le (by rw [hk]; omega), show k + i * k - k = i * k by omega, this, List.nil_append]
theorem rowsV_set (hk : ∀ x, (f x).length = k) (l : List α) (i : Nat) (y : α) (hi : i < l.length) : (rowsV f l).take (i * k) ++ f y ++ (rowsV f l).drop (i * k + k) = rowsV f (l.set i y) := by
  rw [rowsV_take hk, show i * k + k = (i + 1) * k by rw [Nat.succ_mul], rowsV_drop hk, List.set_eq_take_append_cons_drop, if_pos hi, rowsV_append, List.append_assoc]
  congr 1
theorem rowsV_cells (h1 : ∀ x, ∀ v ∈ f x, v.oneCell' = true) (l : List α) : ∀ v ∈ rowsV f l, v.oneCell' = true := by
  intro v hv
  obtain ⟨x, _, hx⟩ := List.mem_flatMap.1 hv
  exact h1 x v hx
theorem rowsV_reads {w : World} {p : Addr} {n : Nat} (hk : ∀ x, (f x).length = k) {l : List α} (h : RS w (some p) n k (rowsV f l)) (hp : p.spot = none) {i : Nat} {x : α} (hi : l[i]? = some x) : Reads w (p.add (i * k)) (f x) :=
  rs_part h hp _ _ fun j u hu => rowsV_get hk l i x hi j u hu
end
theorem rep_get {α : Type} (zs : List α) (k : Nat) (hk : zs.length = k) (hk0 : 0 < k) : ∀ (c j : Nat), j < c * k → (List.replicate c zs).flatten[j]? = zs[j % k]? := by
  intro c
  induction c with
  | zero => intro j h; simp at h
  | succ c ih =>
    intro j h
    rw [List.replicate_succ, List.flatten_cons]
    rcases Nat.lt_or_ge j k with h1 | h1
    · rw [List.getElem?_append_left (by omega), Nat.mod_eq_of_lt h1]
    · rw [List.getElem?_append_right (by omega), hk, ih (j - k) (by rw [Nat.succ_mul] at h; omega)]
      congr 1
      conv => rhs; rw [show j = (j - k) + k by omega, Nat.add_mod_right]
theorem rep_len {α : Type} (zs : List α) (k : Nat) (hk : zs.length = k) (c : Nat) : (List.replicate c zs).flatten.length = c * k := by
  induction c with
  | zero => simp
  | succ c ih => rw [List.replicate_succ, List.flatten_cons, List.length_append, ih, Nat.succ_mul]; omega
section
variable {P : Program} {N : Nat} {d : Option Tmp} {ty : TypeId} {pos : String} {af : Array Edge} {gd : Option (Nat × Bool)} {e : Env} {w : World} {R : Env → World → (Env → World → Prop) → Prop} {K : Env → World → Prop}
theorem run_makeSliceK {T E : TypeId} {i : TypeInfo} {z : Value} {zs : List Value} {k : Nat} (hu : P.underlying T = some (.slice E)) (hi : P.info? E = some i) (hz : i.zero = some z) (hzv : z.cells = zs.toArray) (h1 : i.size = k) (hk : zs.length = k) (hk0 : 0 < k)
    {l c : Nat} (hlc : l ≤ c) (hb : i.bytes * c ≤ 2 ^ 48) (hc : c ≤ maxLen) (w : World) :
    (Instr.makeSlice T (.int .i64 l) (.int .i64 c)).run P w = .ok (.slice (some ⟨w.heap.size, 0, none⟩) l c) (w.alloc (.cells (List.replicate c zs).flatten.toArray E)) := by
  have hcm : (c : Int) ≤ 9223372036854775807 := by simp only [maxLen] at hc; omega
  have e1 : IntKind.i64.wrap (l : Int) = l := wrap_i64_of ⟨by omega, by omega⟩
  have e2 : IntKind.i64.wrap (c : Int) = c := wrap_i64_of ⟨by omega, by omega⟩
  have hb1 : ((i.bytes * c : Nat) : Int) ≤ 281474976710656 := by
    have h : i.bytes * c ≤ 281474976710656 := hb
    omega
  have hb' : ¬ ((i.bytes : Int) * (c : Int) > 281474976710656) := by
    have e3 : ((i.bytes * c : Nat) : Int) = (i.bytes : Int) * (c : Int) := Int.natCast_mul _ _
    omega
  have hrow : (Array.range (c * k)).map (fun x => (zs.toArray : Array Value)[x % zs.toArray.size]!) = (List.replicate c zs).flatten.toArray := by
    apply Array.ext
    · simp [rep_len zs k hk c]
    · intro j h3 h4
      have h5 : j < c * k := by simpa using h3
      have h6 := rep_get zs k hk hk0 c j h5
      have h7 : j % k < zs.length := by rw [hk]; exact Nat.mod_lt _ hk0
      rw [List.getElem?_eq_getElem (by rw [rep_len zs k hk c]; exact h5), List.getElem?_eq_getElem h7] at h6
      simp only [Array.getElem_map, Array.getElem_range, List.getElem_toArray, List.size_toArray, hk]
      rw [getElem!_pos zs.toArray (j % k) (by simpa using h7)]
      simpa using (Option.some.inj h6).symm
  have hti : ∀ w, (typeInfo E).run P w = .ok i w := fun w => by simp [typeInfo, hi]
  have hzi : ∀ w, (zeroValue E).run P w = .ok z w := fun w => by simp [zeroValue, typeInfo, hi, hz]
  have hso : ∀ w, (sizeOf E).run P w = .ok k w := fun w => by simp [sizeOf, typeInfo, hi, h1]
  simp only [Instr.makeSlice, Sem.run_bind, run_underlying hu, Result.andThen_ok, asInt, asIntOf, Sem.run_pure, hti, e1, e2]
  rw [if_neg (by simp [hb']; omega)]
  simp only [Sem.run_bind, run_askRoom, Result.andThen_ok, hso, Int.toNat_natCast]
  by_cases hc0 : c = 0
  · subst hc0
    simp only [Nat.zero_mul, if_true, Sem.run_bind, Sem.run_pure, Result.andThen_ok, run_newRow]
    simp [show Array.range 0 = #[] from rfl]
  · have hck : c * k ≠ 0 := Nat.mul_ne_zero hc0 (by omega)
    rw [if_neg hck]
    simp only [Sem.run_bind, hzi, Result.andThen_ok, Sem.run_pure, run_newRow, hzv]
    rw [← hrow]
theorem MemK_makeK {T E : TypeId} {x y : Operand} {zs : List Value} {k bytes : Nat} (hu : P.underlying T = some (.slice E)) (hz : (P.info? E).map (fun i => (i.zero.map Value.cells, i.size, i.bytes)) = some (some zs.toArray, k, bytes)) (hk : zs.length = k) (hk0 : 0 < k)
    (h : arg e x fun vl => arg e y fun vc => ∃ l c : Nat, (vl = .int .i64 l ∧ vc = .int .i64 c ∧ l ≤ c ∧ bytes * c ≤ 281474976710656 ∧ c ≤ 9223372036854775807) ∧ R (e.put d (.slice (some ⟨w.heap.size, 0, none⟩) l c)) (w.alloc (.cells (List.replicate c zs).flatten.toArray E)) K) :
    MemK P N ⟨d, .makeSlice T x y, ty, pos, af, gd⟩ e w R K :=
  Mem_of_run fun a n ha => by
    obtain ⟨l, c, ⟨h1, h2, h3, h4, h5⟩, hR⟩ := arg_sound (K := fun vc => ∃ l c : Nat, (a.eval x = .int .i64 l ∧ vc = .int .i64 c ∧ l ≤ c ∧ bytes * c ≤ 281474976710656 ∧ c ≤ 9223372036854775807) ∧ R (e.put d (.slice (some ⟨w.heap.size, 0, none⟩) l c)) (w.alloc (.cells (List.replicate c zs).flatten.toArray E)) K) ha
      (arg_sound (K := fun vl => arg e y fun vc => ∃ l c : Nat, (vl = .int .i64 l ∧ vc = .int .i64 c ∧ l ≤ c ∧ bytes * c ≤ 281474976710656 ∧ c ≤ 9223372036854775807) ∧ R (e.put d (.slice (some ⟨w.heap.size, 0, none⟩) l c)) (w.alloc (.cells (List.replicate c zs).flatten.toArray E)) K) ha h)
    cases hi : P.info? E with
    | none => simp [hi] at hz
    | some i =>
      simp only [hi, Option.map_some, Option.some.injEq, Prod.mk.injEq] at hz
      obtain ⟨hz1, hz2, hz3⟩ := hz
      cases hzz : i.zero with
      | none => simp [hzz] at hz1
      | some z =>
        simp only [hzz, Option.map_some, Option.some.injEq] at hz1
        refine ⟨_, w.alloc (.cells (List.replicate c zs).flatten.toArray E), n, ?_, hR⟩
        have := run_makeSliceK hu hi hzz hz1 hz2 hk hk0 h3 (by rw [hz3]; exact h4) (by simp only [maxLen]; omega) (w.drewN n)
        simp only [execOp, h1, h2, this, Sem.run_bind, Result.andThen_ok, Sem.run_pure]
        rfl
theorem run_eqIn_slice {T E : TypeId} (hu : P.underlying T = some (.slice E)) (d : Nat) (a : Option Addr) (n c n' c' : Nat) (w : World) : (Op.equalIn (d + 1) T (.slice a n c) (.slice none n' c')).run P w = .ok a.isNone w := by
  unfold Op.equalIn
  cases a <;> simp [run_underlying hu]
theorem be_slice {T E : TypeId} {KV : Value → Prop} (hu : P.underlying T = some (.slice E)) (a : Option Addr) (n c n' c' : Nat) (xo yo : Operand) : vBinO P .eql T xo yo (.slice a n c) (.slice none n' c') w KV = KV (.bool a.isNone) := by
  refine EqR_of fun w' => ?_
  simp only [Sem.run_bind]
  rw [eqGuard_free ⟨by simp, by simp⟩]
  have : (Op.equal T (.slice a n c) (.slice none n' c')).run P w' = .ok a.isNone w' := run_eqIn_slice hu 9999 a n c n' c' w'
  simp only [Result.andThen_ok, binOp, Sem.run_bind, this, Sem.run_pure]
theorem Heap.hole_at {w0 : World} {B : List Nat} {G : List Res} {r : Res} (h : Heap w0 B w G) (i j : Nat) (hi : G[i]? = some r) {g T k : Nat} {cs : List Value} {v : Value} (hj : G[j]? = some (Res.blk g T cs)) (hij : i ≠ j) (hv : cs[k]? = some v) : (holes r.foot w).cell? ⟨g, k, none⟩ = some v := by
  refine holes_cell (blk_cell (h.at j hj) hv) ?_
  obtain ⟨h1, e1⟩ := List.getElem?_eq_some_iff.1 hi
  obtain ⟨h2, e2⟩ := List.getElem?_eq_some_iff.1 hj
  have ha := List.pairwise_iff_getElem.1 h.apart
  rcases Nat.lt_or_ge i j with h3 | h3
  · have h4 := ha i j h1 h2 h3
    rw [e1, e2] at h4
    exact fun hb => h4 g hb (by simp [Res.blk])
  · have h4 := ha j i h2 h1 (by omega)
    rw [e1, e2] at h4
    exact h4 g (by simp [Res.blk])
theorem row_shrink {T sz n cap m : Nat} {a : Option Addr} {xs : List Value} (h : (Res.row T sz a n cap xs).holds w) (hm : m ≤ n) : (Res.row T sz a m cap (xs.take (m * sz))).holds w := by
  obtain ⟨h1, h2, h3, h4⟩ := h
  have hms : m * sz ≤ n * sz := Nat.mul_le_mul_right _ hm
  refine ⟨by rw [List.length_take]; omega, by omega, h3, ?_⟩
  rcases h4 with ⟨rfl, hn, hc⟩ | ⟨g, rest, fz, rfl, hg, hl, hf⟩
  · exact .inl ⟨rfl, by omega, hc⟩
  · refine .inr ⟨g, xs.drop (m * sz) ++ rest, fz, rfl, ?_, ?_, hf⟩
    · rw [← List.append_assoc, List.take_append_drop]; exact hg
    · rw [← List.append_assoc, List.take_append_drop]; exact hl
end
end Go.Eng
set_option linter.unusedSimpArgs false
set_option linter.unusedVariables false
namespace Go.Eng
open Go
def wideR (L : Option Nat) : Fence := { Fence.wide with round := L }
theorem comesIn_wideR {L : Option Nat} {P : Program} {m m' : Machine} {e : Ending} (h : Comes P m m' e) : ComesIn (Machine.fenced P (wideR L)) P m m' e := comesIn_wide.2 h
theorem callsIn_wideR {L : Option Nat} {n : Nat} {P : Program} {f : FuncId} {args : Array Value} {w : World} {R : Ending → World → Prop} (h : Calls P f args w R) : CallsIn (wideR L) n P f args w R :=
  ⟨trivial, fun cs _ => let ⟨e, w', fr, r, s, x⟩ := h cs; ⟨e, w', fr, r, comesIn_wideR s, x⟩⟩
theorem stepsIn_wideR {L : Option Nat} {P : Program} {m m' : Machine} (h : Steps P m m') : StepsIn (Machine.fenced P (wideR L)) P m m' := stepsIn_wide.2 h
theorem rowsIn_wideR {L : Option Nat} {n : Nat} {P : Program} {row : String} {args : Array Value} {w : World} {R : Value → World → Prop} (h : Rows P row args w R) : RowsIn (wideR L) n P row args w R :=
  fun c cs _ => let ⟨v, w', r, s⟩ := h c cs; ⟨v, w', r, stepsIn_wideR s⟩
def noDefer (o : Oper) : Bool := match o.op with | .defer _ => false | _ => true
theorem noDefer_spec {o : Oper} (h : noDefer o = true) : ∀ c, o.op ≠ .defer c := by
  intro c hc; simp [noDefer, hc] at h
def _root_.Go.Act.app (a : Act) (D : List Deferred) : Act := { a with defers := a.defers ++ D }
theorem app_put (a : Act) (D : List Deferred) (d : Option Tmp) (v : Value) : (a.put d v).app D = (a.app D).put d v := by cases d <;> rfl
theorem app_eval (a : Act) (D : List Deferred) : (a.app D).eval = a.eval := by funext x; cases x <;> rfl
def Qapp (D : List Deferred) (Q : Exit → Act → World → Prop) : Exit → Act → World → Prop
  | .normal, a, w => a.defers = [] ∧ Q .normal (a.app D) w
  | .panic c, a, w => Q (.panic c) (a.app D) w
  | _, _, _ => False
theorem op_app {P : Program} {L : Option Nat} {D : List Deferred} {Q : Exit → Act → World → Prop} {o : Oper} {a : Act} {w : World} {next next' : Act → World → Prop} (hd : noDefer o = true)
    (hn : ∀ a w, next a w → next' (a.app D) w) (h : o.wp P a w next (Qapp D Q)) : o.wpIn (wideR L) 0 P (a.app D) w next' Q := by
  refine ⟨fun _ _ => trivial, ?_⟩
  rw [Oper.semAt_eq _ _ _ (noDefer_spec hd), app_eval]
  unfold Oper.wp at h
  generalize (execOp a.eval o).run P w = r at *
  have hdep : (wideR L).depth.isSome = true → 1 ≤ 0 := by simp [wideR, Fence.wide]
  cases r with
  | ok x w' =>
    cases x <;> simp only [Oper.upon, Oper.uponIn] at h ⊢
    case value v => rw [← app_put]; exact hn _ _ h
    case skip => rw [← app_put]; exact hn _ _ h
    case defer d => have h2 := hn _ _ h; rw [app_put] at h2; exact h2
    case enter f args =>
      refine ⟨hdep, callsIn_wideR (h.mono fun e w'' he => ?_)⟩
      cases e with
      | returned v => have h2 := hn _ _ he; rw [app_put] at h2; exact h2
      | panicked c => exact he
      | outgrown => obtain ⟨_, _, he⟩ := he; exact he.elim
    case row row args => exact ⟨hdep, rowsIn_wideR (h.mono fun v w'' he => by have h2 := hn _ _ he; rw [app_put] at h2; exact h2)⟩
  | halt x w' => cases x <;> simp only [Oper.upon, Oper.uponIn] at h ⊢ <;> exact h
theorem wpOps_app {P : Program} {L : Option Nat} {D : List Deferred} {Q : Exit → Act → World → Prop} {ops : Array Oper} (hd : ops.toList.all noDefer = true) : ∀ (l : List Nat) (a : Act) (w : World),
    wpOps P ops (Qapp D Q) l a w → wpOpsIn (wideR L) 0 P ops Q l (a.app D) w := by
  intro l
  induction l with
  | nil => intro a w h; exact h.2
  | cons i rest ih =>
    intro a w h
    simp only [wpOps, wpOpsIn] at h ⊢
    cases ho : ops[i]? with
    | none => simp only [ho] at h ⊢; exact ih _ _ h
    | some o =>
      simp only [ho] at h ⊢
      have hdo : noDefer o = true := by
        rw [List.all_eq_true] at hd
        exact hd o (by rw [Array.mem_toList_iff]; exact Array.mem_of_getElem? ho)
      have ht : (a.app D).tmps = a.tmps := rfl
      rw [ht]
      split
      · rename_i hw
        rw [if_pos hw] at h
        rcases h with h | ⟨_, _, _, h⟩
        · exact op_app hdo ih h
        · exact h.elim
      · rename_i hw
        rw [if_neg hw] at h
        have h2 := ih _ _ h; rw [app_put] at h2; exact ⟨fun _ _ => trivial, h2⟩
theorem wpG_region {P : Program} {L : Option Nat} {D : List Deferred} {Q : Exit → Act → World → Prop} {id : Nat} {l : List Oper} {a : Act} {w : World} (hd : l.all noDefer = true)
    (h : wpList P l.toArray (Qapp D Q) l a w) : (Code.region id l.toArray false).wpIn (wideR L) 0 P Q (a.app D) w := by
  refine wpIn_region (wpOps_app (by simpa using hd) _ a w ?_)
  rw [List.range_eq_range', ← Array.length_toList, wpOps_eq_wpList l.toArray.toList 0 (by simp)]
  simpa using h
theorem wpG_region_any {P : Program} {L : Option Nat} {D : List Deferred} {Q : Exit → Act → World → Prop} {id : Nat} {ops : Array Oper} {a : Act} {w : World} (hm : P.follows .mixedOrders = true) (hd : ops.toList.all noDefer = true)
    (h : wpAny P .any ops (Qapp D Q) ops.size (Array.replicate ops.size false) a { w with drawn := w.drawn + 1 }) : (Code.region id ops true).wpIn (wideR L) 0 P Q (a.app D) w :=
  wpIn_region_draw fun t => wpOps_app hd _ a _ (by
    simp only [Region.schedule, hm, Bool.true_or, if_true]
    exact wpAny_sound ops.size t _ a _ h)
structure CtxG where
  P : Program
  N : Nat
  L : Option Nat
  D : List Deferred
  post : Exit → Act → World → Prop
structure FitsG (N : Nat) (D : List Deferred) (e : Env) (a : Act) : Prop where
  size : a.tmps.size = N
  defers : a.defers = D
  at_ : ∀ t v, e.find? t = some v → a.tmps.getD t undef = v
theorem FitsG.bare {N : Nat} {D : List Deferred} {e : Env} {a : Act} (h : FitsG N D e a) : Fits N e { a with defers := [] } := ⟨h.size, rfl, h.at_⟩
theorem FitsG.of {N : Nat} {D : List Deferred} {e : Env} {a : Act} (h : Fits N e a) : FitsG N D e (a.app D) := ⟨h.size, by simp [Act.app, h.defers], h.at_⟩
theorem FitsG.app {N : Nat} {D : List Deferred} {e : Env} {a : Act} (h : FitsG N D e a) : ({ a with defers := [] } : Act).app D = a := by
  cases a; have := h.defers; simp only at this; subst this; rfl
theorem FitsG.weaken {N : Nat} {D : List Deferred} {e e' : Env} {a : Act} (h : FitsG N D e a) (hs : ∀ t v, e'.find? t = some v → e.find? t = some v) : FitsG N D e' a :=
  ⟨h.size, h.defers, fun t v ht => h.at_ t v (hs t v ht)⟩
theorem FitsG.sel {N : Nat} {D : List Deferred} {e : Env} {a : Act} (h : FitsG N D e a) (ks : List Nat) : FitsG N D (e.sel ks) a := h.weaken fun t v ht => Env.find?_sel ks e t v ht
theorem FitsG.eval {N : Nat} {D : List Deferred} {e : Env} {a : Act} {x : Operand} {K : Value → Prop} (ha : FitsG N D e a) (h : arg e x K) : K (a.eval x) := by
  have h1 := arg_sound ha.bare h
  cases x <;> exact h1
def contG (C : CtxG) : List It → Exit → Act → World → Prop
  | [], ex, a, w => C.post ex a w
  | .code c :: k, ex, a, w => match ex with
    | .normal => c.wpIn (wideR C.L) 0 C.P (fun ex a w => contG C k ex a w) a w
    | ex => contG C k ex a w
  | .blk id :: k, ex, a, w => match ex with
    | .exit id' => if id' = id then contG C k .normal a w else contG C k (.exit id') a w
    | ex => contG C k ex a w
  | .again I :: k, ex, a, w => match ex with
    | .normal => ∃ e w0 n, w = w0.drewN n ∧ FitsG C.N C.D e a ∧ I e w0
    | ex => contG C k ex a w
def VG (C : CtxG) (k : List It) (e : Env) (w : World) : Prop := ∀ a n, FitsG C.N C.D e a → contG C k .normal a (w.drewN n)
section
variable {C : CtxG} {k : List It} {e : Env} {w : World}
theorem VG_seq {x y : Code} (h : VG C (.code x :: .code y :: k) e w) : VG C (.code (.seq x y) :: k) e w := by
  intro a n ha
  have h1 := h a n ha
  simp only [contG] at h1 ⊢
  refine wpIn_seq (wpIn_mono h1 fun ex a w hq => ?_)
  cases ex <;> exact hq
theorem VG_block {id : Nat} {c : Code} (h : VG C (.code c :: .blk id :: k) e w) : VG C (.code (.block id c) :: k) e w := by
  intro a n ha
  have h1 := h a n ha
  simp only [contG] at h1 ⊢
  refine wpIn_block (wpIn_mono h1 fun ex a w hq => ?_)
  cases ex <;> exact hq
theorem VG_blk {id : Nat} (h : VG C k e w) : VG C (.blk id :: k) e w := fun a n ha => h a n ha
theorem VG_skip (h : VG C k e w) : VG C (.code .skip :: k) e w := fun a n ha => wpIn_skip (h a n ha)
theorem VG_label {l : Nat} (h : VG C k e w) : VG C (.code (.label l) :: k) e w := fun a n ha => wpIn_label (h a n ha)
theorem VG_again {I : Env → World → Prop} (h : I e w) : VG C (.again I :: k) e w := fun _ n ha => ⟨e, w, n, rfl, ha, h⟩
theorem contG_popTo {id : Nat} {k k' : List It} (hp : popTo id k = some k') {a : Act} (h : contG C k' .normal a w) : contG C k (.exit id) a w := by
  induction k with
  | nil => simp [popTo] at hp
  | cons x k ih =>
    cases x with
    | code c => exact ih (by simpa [popTo] using hp)
    | again I => exact ih (by simpa [popTo] using hp)
    | blk id' =>
      simp only [contG]
      by_cases hid : id = id'
      · simp only [popTo, hid, if_true] at hp
        cases hp
        simp only [hid, if_true]; exact h
      · simp only [popTo, hid, if_false] at hp
        simp only [hid, if_false]; exact ih hp
theorem VG_exit {id : Nat} {k' : List It} (hp : popTo id k = some k') (h : VG C k' e w) : VG C (.code (.exit id) :: k) e w :=
  fun a n ha => wpIn_exit (contG_popTo hp (h a n ha))
theorem contG_out {id : Nat} {k : List It} (hp : popTo id k = none) {a : Act} (h : C.post (.exit id) a w) : contG C k (.exit id) a w := by
  induction k with
  | nil => exact h
  | cons x k ih =>
    cases x with
    | code c => exact ih (by simpa [popTo] using hp)
    | again I => exact ih (by simpa [popTo] using hp)
    | blk id' =>
      simp only [contG]
      by_cases hid : id = id'
      · simp only [popTo, hid, if_true] at hp; cases hp
      · simp only [popTo, hid, if_false] at hp
        simp only [hid, if_false]; exact ih hp
theorem VG_exitOut {id : Nat} (hp : popTo id k = none) (h : ∀ a n, FitsG C.N C.D e a → C.post (.exit id) a (w.drewN n)) : VG C (.code (.exit id) :: k) e w :=
  fun a n ha => wpIn_exit (contG_out hp (h a n ha))
theorem contG_ret {k : List It} {a : Act} (h : C.post .ret a w) : contG C k .ret a w := by
  induction k with
  | nil => exact h
  | cons x k ih => cases x <;> exact ih
theorem contG_panic {k : List It} {c : List PanicEntry} {a : Act} : contG C k (.panic c) a w ↔ C.post (.panic c) a w := by
  induction k with
  | nil => exact Iff.rfl
  | cons x k ih => cases x <;> exact ih
theorem VG_ret (h : ∀ a n, FitsG C.N C.D e a → C.post .ret a (w.drewN n)) : VG C (.code .ret :: k) e w := fun a n ha => wpIn_ret (contG_ret (h a n ha))
theorem VG_nil (h : ∀ a n, FitsG C.N C.D e a → C.post .normal a (w.drewN n)) : VG C [] e w := fun a n ha => h a n ha
theorem VG_cond {c : Operand} {t : Tmp} {b : Bool} {x y : Code} (hc : c = .tmp t) (hv : e.find? t = some (.bool b))
    (ht : b = true → VG C (.code x :: k) e w) (hf : b = false → VG C (.code y :: k) e w) : VG C (.code (.cond c x y) :: k) e w := by
  intro a n ha
  subst hc
  exact wpIn_cond_split (t := b) (ha.at_ t _ hv) (fun h => ht h a n ha) (fun h => hf h a n ha)
theorem VG_weaken {e' : Env} (hs : ∀ t v, e'.find? t = some v → e.find? t = some v) (h : VG C k e' w) : VG C k e w := fun a n ha => h a n (ha.weaken hs)
end
theorem wpIn_loop_any {F : Fence} {n0 : Nat} {P : Program} {Q : Exit → Act → World → Prop} {a : Act} {w : World} {c : Code} (I : Nat → Act → World → Prop) (n : Nat) (h₀ : I n a w)
    (round : ∀ n a w, I n a w → c.wpIn F n0 P (Exit.then (fun a' w' => ∃ m, m < n ∧ I m a' w') Q) a w) : (Code.loop c).wpIn F n0 P Q a w := by
  intro b k cs hro hb hr
  have key : ∀ j a w, I j a w →
      ∃ e a' w', Q e a' w' ∧ ArrivesIn (Machine.fenced P F) P (lone (b.atR a (.code c :: .inLoop c :: k)) cs w) b k cs e a' w' := by
    intro j
    induction j using Nat.strongRecOn with
    | _ j ih =>
      intro a w hI
      obtain ⟨e, a₁, w₁, hq, harr⟩ := round j a w hI b (.inLoop c :: k) cs hro hb hr
      cases e with
      | normal =>
        obtain ⟨m, hlt, hI₁⟩ := hq
        obtain ⟨e₂, a₂, w₂, hq₂, harr₂⟩ := ih m hlt a₁ w₁ hI₁
        exact ⟨e₂, a₂, w₂, hq₂, .of_steps (StepsIn.trans harr (.one (fenced_calm hb hr rfl) stepR_inLoop)) harr₂⟩
      | exit id => exact ⟨_, a₁, w₁, hq, .pass (x := .inLoop c) rfl (fun _ _ => .inl (by simp)) harr⟩
      | goto l => exact ⟨_, a₁, w₁, hq, .pass (x := .inLoop c) rfl (fun _ _ => .inl (by simp)) harr⟩
      | ret => exact ⟨_, a₁, w₁, hq, .pass (x := .inLoop c) rfl (fun _ _ => .inl (by simp)) harr⟩
      | panic ch => exact ⟨_, a₁, w₁, hq, .pass (x := .inLoop c) rfl (fun _ _ => .inl (by simp)) harr⟩
      | outgrown => exact ⟨_, a₁, w₁, hq, .pass (x := .inLoop c) rfl (fun _ _ => .inl (by simp)) harr⟩
  obtain ⟨e, a', w', hq, harr⟩ := key _ a w h₀
  exact ⟨e, a', w', hq, .of_steps (.one (fenced_calm hb hr rfl) stepR_loop) harr⟩
section
variable {C : CtxG} {k : List It} {e : Env} {w : World}
theorem VG_loopS (ks : List Nat) {body : Code} (I : Nat → Env → World → Prop) (n : Nat) (h0 : selK ks e fun e => I n e w)
    (round : ∀ n e w, I n e w → VG C (.code body :: .again (fun e' w' => selK ks e' fun e' => ∃ m, m < n ∧ I m e' w') :: k) e w) : VG C (.code (.loop body) :: k) e w := by
  intro a d ha
  refine wpIn_loop_any (fun n a w => ∃ e w0 d, w = w0.drewN d ∧ FitsG C.N C.D e a ∧ I n e w0) n ⟨_, w, d, rfl, ha.sel ks, (selK_spec ks e _).1 h0⟩ ?_
  rintro n a w ⟨e, w0, d, rfl, ha, hI⟩
  have h1 := round n e w0 hI a d ha
  simp only [contG] at h1
  refine wpIn_mono h1 fun ex a w hq => ?_
  cases ex with
  | normal => obtain ⟨e', w1, d', hw, hf, hI'⟩ := hq; obtain ⟨m, hm, hI'⟩ := (selK_spec ks e' _).1 hI'; exact ⟨m, hm, _, w1, d', hw, hf.sel ks, hI'⟩
  | _ => exact hq
theorem VG_cut (ks : List Nat) {c : Code} (J : Env → World → Prop) (h : VG C (.code c :: .again (fun e w => selK ks e fun e => J e w) :: k) e w)
    (hJ : ∀ e w, J e w → VG C k e w) : VG C (.code c :: k) e w := by
  intro a d ha
  have h1 := h a d ha
  simp only [contG] at h1 ⊢
  refine wpIn_mono h1 fun ex a w hq => ?_
  cases ex with
  | normal => obtain ⟨e', w0, d', rfl, hf, hI'⟩ := hq; exact hJ _ _ ((selK_spec ks e' _).1 hI') a d' (hf.sel ks)
  | _ => exact hq
def endG (C : CtxG) (k : List It) : Exit → Act → World → Prop := fun ex a w => match ex with | .normal => contG C k .normal a w | _ => False
theorem endG_mono (ex : Exit) (a : Act) (w : World) (h : endG C k ex a w) : contG C k ex a w := by
  cases ex <;> first | exact h | exact h.elim
theorem endG_normal (ks : List Nat) {e : Env} {a : Act} {w : World} {n : Nat} (ha : Fits C.N e a) (hv : selC ks (VG C k) e w) : Qapp C.D (endG C k) .normal a (w.drewN n) :=
  ⟨ha.defers, ((selK_spec ks e _).1 hv) _ n ((FitsG.of ha).sel ks)⟩
theorem VG_region (ks : List Nat) {id : Nat} {ops : List Oper} (hN : (ops.all (dstOk C.N) && ops.all noDefer) = true)
    (h : ∀ K : Env → World → Prop, (∀ e w, VG C k e w → K e w) → vcOps C.P C.N ops ops e w (selC ks K)) : VG C (.code (.region id ops.toArray false) :: k) e w := by
  intro a n ha
  simp only [Bool.and_eq_true] at hN
  rw [← ha.app]
  refine wpIn_mono (wpG_region (Q := endG C k) hN.2 ?_) endG_mono
  exact vcOps_sound (K := selC ks (VG C k)) (fun e a w n ha hv => endG_normal ks ha hv) ops e _ w n hN.1 ha.bare (h _ fun _ _ hv => hv)
theorem VG_regionQ (ks : List Nat) {id : Nat} {ops : List Oper} (hm : C.P.follows .mixedOrders = true) (hB : Region.lexB .any ops.toArray = true) (hN : (ops.all (dstOk C.N) && ops.all noDefer) = true)
    (h : ∀ K : Env → Prop, (∀ e, VG C k e w → K e) → vcQ C.P C.N ops ops e w (selQ ks K)) : VG C (.code (.region id ops.toArray true) :: k) e w := by
  intro a n ha
  simp only [Bool.and_eq_true] at hN
  rw [← ha.app]
  refine wpIn_mono (wpG_region_any (Q := endG C k) hm (by simpa using hN.2) ?_) endG_mono
  simp only [Region.lexB, Bool.and_eq_true] at hB
  refine wpAny_of_quiet (C := fun w' => ∃ n, w' = w.drewN n) (Q := fun a' => ∀ w', (∃ n, w' = w.drewN n) → Qapp C.D (endG C k) .normal a' w') (fun _ w' hw' h => h w' hw') _ _ _ _ ⟨n + 1, rfl⟩ ?_
  have := wpAnyQ_lex (C := fun w' => ∃ n, w' = w.drewN n) (P := C.P) (Q := fun a' => ∀ w', (∃ n, w' = w.drewN n) → Qapp C.D (endG C k) .normal a' w') (md := .any) hB.1 ops.toArray.toList 0 (Array.replicate ops.toArray.size false) { a with defers := [] } (by simp) (by simpa using hB.2) ?_
  · simpa using this
  · refine vcQ_sound (K := fun e => selK ks e fun e => VG C k e w) (fun e a ha hv => ?_) ops e _ hN.1 ha.bare (h _ fun _ hv => hv)
    rintro w' ⟨m, rfl⟩
    exact endG_normal ks ha hv
theorem VG_regionH (w0 : World) (hx : Ext w0 w) (ks : List Nat) (plan : List (Nat × Bool)) {id : Nat} {ops : List Oper} {l : List (Bool × Oper)}
    (hm : C.P.follows .mixedOrders = true) (hB : (planOk ops.toArray plan (Array.replicate ops.toArray.size false) && Region.noSelect ops.toArray && decide (plan.length ≤ ops.length)) = true) (hN : (ops.all (dstOk C.N) && ops.all noDefer) = true) (hl : planned ops plan = l)
    (h : ∀ K : Env → World → Prop, (∀ e w, VG C k e w → K e w) → vcH C.P C.N ops w0 l e w (selC ks K)) : VG C (.code (.region id ops.toArray true) :: k) e w := by
  intro a n ha
  simp only [Bool.and_eq_true, decide_eq_true_eq] at hB hN
  obtain ⟨⟨hB1, hB2⟩, hB3⟩ := hB
  rw [← ha.app]
  refine wpIn_mono (wpG_region_any (Q := endG C k) hm (by simpa using hN.2) (wpAny_of_held (S := fun w' => Ext w0 w') _ _ _ _ ?_)) endG_mono
  subst hl
  exact vcH_sound (K := selC ks (VG C k)) hN.1 hB2 (fun c a w d v hq => hq.elim) (fun e a w n ha hv => endG_normal ks ha hv) plan _ _ e _ w (n + 1) (by simpa using hB3) hB1 ha.bare hx (h _ fun _ _ hv => hv)
theorem VG_regionT (w0 : World) (hx : Ext w0 w) (ks : List Nat) (t : Tree) {id : Nat} {ops : List Oper}
    (hm : C.P.follows .mixedOrders = true) (hB : (treeOk ops.toArray t ops.toArray.size (Array.replicate ops.toArray.size false) && Region.noSelect ops.toArray) = true) (hN : (ops.all (dstOk C.N) && ops.all noDefer) = true)
    (h : ∀ K : Env → World → Prop, (∀ e w, VG C k e w → K e w) → vcT C.P C.N ops w0 t e w (selC ks K)) : VG C (.code (.region id ops.toArray true) :: k) e w := by
  intro a n ha
  simp only [Bool.and_eq_true] at hB hN
  obtain ⟨hB1, hB2⟩ := hB
  rw [← ha.app]
  refine wpIn_mono (wpG_region_any (Q := endG C k) hm (by simpa using hN.2) (wpAny_of_held (S := fun w' => Ext w0 w') _ _ _ _ ?_)) endG_mono
  exact vcT_sound (K := selC ks (VG C k)) hN.1 hB2 (fun c a w d v hq => hq.elim) (fun e a w n ha hv => endG_normal ks ha hv) t _ _ e _ w (n + 1) hB1 ha.bare hx (h _ fun _ _ hv => hv)
end
end Go.Eng
namespace Go.Eng
open Go
def endsP (F : Value → World → Prop) (Pn : List PanicEntry → World → Prop) (e : Ending) (w' : World) : Prop :=
  match e with
  | .returned v => ∃ w n, w' = w.drewN n ∧ F v w
  | .panicked c => ∃ w n, w' = w.drewN n ∧ Pn c w
  | .outgrown => False
def DoesP (P : Program) (f : FuncId) (args : Array Value) (w : World) (F : Value → World → Prop) (Pn : List PanicEntry → World → Prop) : Prop :=
  ∀ n, Calls P f args (w.drewN n) (endsP F Pn)
def noPn : List PanicEntry → World → Prop := fun _ _ => False
theorem DoesP.does {P : Program} {f : FuncId} {args : Array Value} {w : World} {F : Value → World → Prop} (h : DoesP P f args w F noPn) : Does P f args w F :=
  fun n => (h n).mono fun e w' he => by
    cases e with
    | returned v => obtain ⟨w1, m, rfl, hF⟩ := he; exact ⟨v, w1, m, rfl, rfl, hF⟩
    | panicked c => obtain ⟨_, _, _, hF⟩ := he; exact hF.elim
    | outgrown => exact he.elim
theorem Does.doesP {P : Program} {f : FuncId} {args : Array Value} {w : World} {F : Value → World → Prop} {Pn : List PanicEntry → World → Prop} (h : Does P f args w F) : DoesP P f args w F Pn :=
  fun n => (h n).mono fun _ _ ⟨_, w1, m, he, hw, hF⟩ => by subst he; exact ⟨w1, m, hw, hF⟩
theorem DoesP.mono {P : Program} {f : FuncId} {args : Array Value} {w : World} {F G : Value → World → Prop} {Pn Qn : List PanicEntry → World → Prop} (h : DoesP P f args w F Pn) (hg : ∀ v w', F v w' → G v w') (hp : ∀ c w', Pn c w' → Qn c w') : DoesP P f args w G Qn :=
  fun n => (h n).mono fun e w' he => by
    cases e with
    | returned v => obtain ⟨w1, m, hw, hF⟩ := he; exact ⟨w1, m, hw, hg _ _ hF⟩
    | panicked c => obtain ⟨w1, m, hw, hF⟩ := he; exact ⟨w1, m, hw, hp _ _ hF⟩
    | outgrown => exact he.elim
abbrev postG (P : Program) (fn : Func) (F : Value → World → Prop) (Pn : List PanicEntry → World → Prop) : Exit → Act → World → Prop := bodyPostM Fence.wide 0 P fn (endsP F Pn)
theorem DoesP_enter {P : Program} {f : FuncId} {fn : Func} {c : Code} {args : List Value} {w : World} {F : Value → World → Prop} {Pn : List PanicEntry → World → Prop} (N : Nat)
    (hf : P.funcs[f]? = some fn) (hb : fn.body = some c) (hN : fn.ntmps = N) (hle : args.length ≤ N)
    (h : VG ⟨P, N, none, [], postG P fn F Pn⟩ [.code c] (Env.ofArgs 0 args) w) : DoesP P f args.toArray w F Pn := by
  intro n
  refine callsIn_wide.1 (callsIn_of_wp_marks (F := Fence.wide) (n := 0) hf hb trivial ?_ rfl)
  have h1 := h { tmps := args.toArray ++ Array.replicate (fn.ntmps - args.toArray.size) undef, defers := [] } n ⟨by simp [hN]; omega, rfl, fun t v ht => ?_⟩
  · exact wpIn_mono (F := Fence.wide) h1 fun ex a w hq => hq
  · have := (Env.find?_ofArgs args 0 t v ht).2
    rw [Array.getD_eq_getD_getElem?, Array.getElem?_append]
    have hlt : t < args.toArray.size := by
      have h2 := (List.getElem?_eq_some_iff.1 this).1
      simpa using h2
    simp only [hlt, if_true]
    simp at this ⊢
    simp [this]
theorem Does_enterG {P : Program} {f : FuncId} {fn : Func} {c : Code} {args : List Value} {w : World} {F : Value → World → Prop} (N : Nat)
    (hf : P.funcs[f]? = some fn) (hb : fn.body = some c) (hN : fn.ntmps = N) (hle : args.length ≤ N)
    (h : VG ⟨P, N, none, [], postG P fn F noPn⟩ [.code c] (Env.ofArgs 0 args) w) : Does P f args.toArray w F := (DoesP_enter N hf hb hN hle h).does
def markD (r : Nat) : Deferred := { target := .collected r, args := #[] }
theorem post_res {P : Program} {fn : Func} {F : Value → World → Prop} {Pn : List PanicEntry → World → Prop} {N : Nat} {e : Env} {w : World} {D : List Deferred} (hx : VX ⟨P, fn, F, N⟩ [] .ret e w) {a : Act} {n : Nat} (ha : FitsG N D e a) :
    LeavesInM Fence.wide 0 P fn a.tmps (endsP F Pn) [] .returning (w.drewN n) := by
  obtain ⟨_, v, hr, v', w1, m, he, hw, hF⟩ := hx _ n ha.bare
  cases he
  exact ⟨v, hr, w1, m, hw, hF⟩
theorem ret0 {P : Program} {fn : Func} {F : Value → World → Prop} {Pn : List PanicEntry → World → Prop} {N : Nat} {e : Env} {w : World} (hx : VX ⟨P, fn, F, N⟩ [] .ret e w) :
    ∀ a n, FitsG N [] e a → postG P fn F Pn .ret a (w.drewN n) := fun a n ha => by
  show LeavesInM _ _ _ _ _ _ a.defers _ _
  rw [ha.defers]
  exact post_res hx ha
theorem nil0 {P : Program} {fn : Func} {F : Value → World → Prop} {Pn : List PanicEntry → World → Prop} {N : Nat} {e : Env} {w : World} (hx : VX ⟨P, fn, F, N⟩ [] .ret e w) :
    ∀ a n, FitsG N [] e a → postG P fn F Pn .normal a (w.drewN n) := ret0 hx
theorem drewN_putObj (w : World) (n r : Nat) (o : Obj) : (w.drewN n).putObj r o = (w.putObj r o).drewN n := rfl
theorem ret1 {P : Program} {fn : Func} {F : Value → World → Prop} {Pn : List PanicEntry → World → Prop} {N : Nat} {e : Env} {w : World} {r : Nat} (hm : w.heap[r]? = some (.deferred (some []))) (hx : VX ⟨P, fn, F, N⟩ [] .ret e (w.putObj r (.deferred none))) :
    ∀ a n, FitsG N [markD r] e a → postG P fn F Pn .ret a (w.drewN n) := fun a n ha => by
  show LeavesInM _ _ _ _ _ _ a.defers _ _
  rw [ha.defers]
  exact ⟨by simp, .inl ⟨r, (w.putObj r (.deferred none)).drewN n, rfl, run_takeDeferred (w := w.drewN n) hm, post_res hx ha⟩⟩
theorem panic0 {P : Program} {fn : Func} {F : Value → World → Prop} {Pn : List PanicEntry → World → Prop} {N : Nat} {e : Env} {w : World} {c : List PanicEntry} (hx : Pn c w) :
    ∀ a n, FitsG N [] e a → postG P fn F Pn (.panic c) a (w.drewN n) := fun a n ha => by
  show LeavesInM _ _ _ _ _ _ a.defers _ _
  rw [ha.defers]
  exact ⟨w, n, rfl, hx⟩
def SpecK (C : CtxG) (o : Oper) (e : Env) (w : World) (R : Value → World → Prop) : Prop :=
  ∀ (a : Act) (n : Nat) (next : Act → World → Prop) (Q : Exit → Act → World → Prop), FitsG C.N C.D e a → (∀ (v : Value) (w' : World) (m : Nat), R v w' → next (a.put o.dst v) (w'.drewN m)) →
    (∀ (c : List PanicEntry) (w' : World) (m : Nat), C.post (.panic c) a (w'.drewN m) → Q (.panic c) a (w'.drewN m)) → o.wpIn (wideR C.L) 0 C.P a (w.drewN n) next Q
def spC (A : Env → World → Prop) : Env → World → Prop := A
theorem o_nilSp {P : Program} {N : Nat} {ops : List Oper} {e : Env} {w : World} (A : Env → World → Prop) : vcOps P N ops [] e w (spC A) = A e w := rfl
theorem wpListIn_append {F : Fence} {n : Nat} {P : Program} {ops : Array Oper} {Q : Exit → Act → World → Prop} (l2 : List Oper) : ∀ (l1 : List Oper) (a : Act) (w : World),
    wpListIn F n P ops (Exit.then (wpListIn F n P ops Q l2) Q) l1 a w → wpListIn F n P ops Q (l1 ++ l2) a w := by
  intro l1
  induction l1 with
  | nil => intro a w h; exact h
  | cons o l1 ih =>
    intro a w h
    simp only [wpListIn, List.cons_append] at h ⊢
    split
    · rename_i hw
      rw [if_pos hw] at h
      obtain ⟨h1, h2⟩ := h
      refine ⟨h1, ?_⟩
      revert h2
      generalize (o.semAt F.round a.eval).run P w = r
      intro h2
      cases r with
      | ok x w' =>
        cases x <;> simp only [Oper.uponIn] at h2 ⊢ <;>
          first
            | exact ih _ _ h2
            | exact ⟨h2.1, CallsIn.mono h2.2 (fun e w'' he => by cases e <;> first | exact ih _ _ he | exact he | (obtain ⟨a0, w0, he⟩ := he; exact ⟨a0, w0, he⟩))⟩
            | exact ⟨h2.1, RowsIn.mono h2.2 (fun _ _ he => ih _ _ he)⟩
            | exact ⟨h2.1, RoundIn.mono h2.2 (fun e w'' he => by cases e <;> first | exact ih _ _ he | exact he | (obtain ⟨a0, w0, he⟩ := he; exact ⟨a0, w0, he⟩))⟩
            | exact h2
      | halt x w' => cases x <;> simp only [Oper.uponIn] at h2 ⊢ <;> exact h2
    · rename_i hw
      rw [if_neg hw] at h
      exact ⟨h.1, ih _ _ h.2⟩
theorem wpList_app {P : Program} {L : Option Nat} {D : List Deferred} {Q : Exit → Act → World → Prop} {ops : Array Oper} : ∀ (l : List Oper) (a : Act) (w : World), l.all noDefer = true →
    wpList P ops (Qapp D Q) l a w → wpListIn (wideR L) 0 P ops Q l (a.app D) w := by
  intro l
  induction l with
  | nil => intro a w _ h; exact h.2
  | cons o l ih =>
    intro a w hd h
    simp only [List.all_cons, Bool.and_eq_true] at hd
    simp only [wpList, wpListIn] at h ⊢
    have ht : (a.app D).tmps = a.tmps := rfl
    rw [ht]
    split
    · rename_i hw
      rw [if_pos hw] at h
      rcases h with h | ⟨_, _, _, h⟩
      · exact op_app hd.1 (fun a w => ih a w hd.2) h
      · exact h.elim
    · rename_i hw
      rw [if_neg hw] at h
      have h2 := ih _ _ hd.2 h; rw [app_put] at h2; exact ⟨fun _ _ => trivial, h2⟩
theorem wpListIn_mono {F : Fence} {n : Nat} {P : Program} {ops : Array Oper} {Q Q' : Exit → Act → World → Prop} (hq : ∀ ex a w, Q ex a w → Q' ex a w) : ∀ (l : List Oper) (a : Act) (w : World), wpListIn F n P ops Q l a w → wpListIn F n P ops Q' l a w := by
  intro l
  induction l with
  | nil => intro a w h; exact hq _ _ _ h
  | cons x l ih =>
    intro a w h
    simp only [wpListIn] at h ⊢
    split
    · rename_i hw
      rw [if_pos hw] at h
      obtain ⟨g1, g2⟩ := h
      refine ⟨g1, ?_⟩
      revert g2
      generalize (x.semAt F.round a.eval).run P w = r
      intro g2
      cases r with
      | ok y w' =>
        cases y <;> simp only [Oper.uponIn] at g2 ⊢ <;>
          first
            | exact ih _ _ g2
            | exact ⟨g2.1, CallsIn.mono g2.2 (fun e w'' he => by cases e <;> first | exact ih _ _ he | exact hq _ _ _ he | (obtain ⟨a0, w0, he⟩ := he; exact ⟨a0, w0, hq _ _ _ he⟩))⟩
            | exact ⟨g2.1, RowsIn.mono g2.2 (fun _ _ he => ih _ _ he)⟩
            | exact ⟨g2.1, RoundIn.mono g2.2 (fun e w'' he => by cases e <;> first | exact ih _ _ he | exact hq _ _ _ he | (obtain ⟨a0, w0, he⟩ := he; exact ⟨a0, w0, hq _ _ _ he⟩))⟩
            | exact g2
      | halt y w' => cases y <;> simp only [Oper.uponIn] at g2 ⊢ <;> first | exact hq _ _ _ g2 | exact g2
    · rename_i hw
      rw [if_neg hw] at h
      exact ⟨h.1, ih _ _ h.2⟩
def SpecAt (C : CtxG) (ops : List Oper) (R : List Oper → Env → World → Prop) (l : List Oper) (e : Env) (w : World) : Prop :=
  match l with
  | o :: l' => vGuard ops o.guard e (fun e => SpecK C o e w fun v w => R l' (e.put o.dst v) w) (fun e => R l' (e.put o.dst undef) w)
  | [] => False
def vcSegs (C : CtxG) (ops : List Oper) (K : Env → World → Prop) : List Nat → List Oper → Env → World → Prop
  | [], l, e, w => vcOps C.P C.N ops l e w K
  | i :: is, l, e, w => vcOps C.P C.N ops (l.take i) e w (spC fun e w => SpecAt C ops (vcSegs C ops K is) (l.drop i) e w)
def okSegs (N : Nat) : List Nat → List Oper → Bool
  | [], l => l.all (dstOk N) && l.all noDefer
  | i :: is, l => (l.take i).all (dstOk N) && (l.take i).all noDefer && match l.drop i with
    | o :: l' => dstOk N o && okSegs N is l'
    | [] => false
theorem sg_nil {C : CtxG} {ops l : List Oper} {K : Env → World → Prop} {e : Env} {w : World} : vcSegs C ops K [] l e w = vcOps C.P C.N ops l e w K := rfl
theorem sg_cons {C : CtxG} {ops l : List Oper} {K : Env → World → Prop} {e : Env} {w : World} (i : Nat) (is : List Nat) : vcSegs C ops K (i :: is) l e w = vcOps C.P C.N ops (l.take i) e w (spC fun e w => SpecAt C ops (vcSegs C ops K is) (l.drop i) e w) := rfl
theorem sg_at {C : CtxG} {ops l : List Oper} {R : List Oper → Env → World → Prop} {e : Env} {w : World} (d : Option Tmp) (op : Op) (ty : Nat) (pos : String) (af : Array Edge) : SpecAt C ops R (⟨d, op, ty, pos, af, none⟩ :: l) e w = SpecK C ⟨d, op, ty, pos, af, none⟩ e w fun v w => R l (e.put d v) w := rfl
theorem sg_atg {C : CtxG} {ops l : List Oper} {R : List Oper → Env → World → Prop} {e : Env} {w : World} (d : Option Tmp) (op : Op) (ty : Nat) (pos : String) (af : Array Edge) (j : Nat) (b : Bool) : SpecAt C ops R (⟨d, op, ty, pos, af, some (j, b)⟩ :: l) e w = vGuardL ops j b e (fun e => SpecK C ⟨d, op, ty, pos, af, some (j, b)⟩ e w fun v w => R l (e.put d v) w) (fun e => R l (e.put d undef) w) := by
  rw [← vGuardL_eq]; rfl
theorem segs_sound {C : CtxG} {ops : List Oper} {Q : Exit → Act → World → Prop} {K : Env → World → Prop} (hQ : ∀ c a w, C.post (.panic c) a w → Q (.panic c) a w)
    (hK : ∀ e a w n, FitsG C.N C.D e a → K e w → Q .normal a (w.drewN n)) : ∀ (is : List Nat) (l : List Oper) (e : Env) (a : Act) (w : World) (n : Nat), okSegs C.N is l = true → FitsG C.N C.D e a →
      vcSegs C ops K is l e w → wpListIn (wideR C.L) 0 C.P ops.toArray Q l a (w.drewN n) := by
  intro is
  induction is with
  | nil =>
    intro l e a w n hl ha h
    simp only [okSegs, Bool.and_eq_true] at hl
    have hA := vcOps_sound (P := C.P) (N := C.N) (ops := ops) (Q := Qapp C.D fun ex a w => match ex with | .normal => Q .normal a w | _ => False) (K := K)
      (fun e a w n ha hv => ⟨ha.defers, hK e _ w n (FitsG.of ha) hv⟩) l e _ w n hl.1 ha.bare h
    have hB := wpList_app (L := C.L) _ _ _ hl.2 hA
    rw [ha.app] at hB
    refine wpListIn_mono (fun ex a w hq => ?_) _ _ _ hB
    cases ex <;> first | exact hq | exact hq.elim
  | cons i is ih =>
    intro l e a w n hl ha h
    simp only [okSegs, Bool.and_eq_true] at hl
    obtain ⟨⟨h1, h2⟩, h3⟩ := hl
    cases hd : l.drop i with
    | nil => rw [hd] at h3; cases h3
    | cons o l' =>
      rw [hd] at h3
      simp only [Bool.and_eq_true] at h3
      rw [← List.take_append_drop i l, hd]
      refine wpListIn_append _ _ _ _ ?_
      rw [sg_cons, hd] at h
      have hA := vcOps_sound (P := C.P) (N := C.N) (ops := ops) (Q := Qapp C.D fun ex a w => match ex with
          | .normal => ∃ e w0 n, w = w0.drewN n ∧ FitsG C.N C.D e a ∧ SpecAt C ops (vcSegs C ops K is) (o :: l') e w0
          | _ => False)
        (fun e a w n ha hv => ⟨ha.defers, e, w, n, rfl, FitsG.of ha, hv⟩) (l.take i) e _ w n h1 ha.bare h
      have hB := wpList_app (L := C.L) _ _ _ h2 hA
      rw [ha.app] at hB
      refine wpListIn_mono (fun ex a w hq => ?_) _ _ _ hB
      cases ex with
      | normal =>
        obtain ⟨e1, w1, m, rfl, hf, hs⟩ := hq
        show wpListIn _ _ _ _ _ (o :: l') a _
        simp only [wpListIn]
        have hput : ∀ (e2 : Env) (v : Value), FitsG C.N C.D e2 a → FitsG C.N C.D (e2.put o.dst v) (a.put o.dst v) := fun e2 v hf2 => by
          have g1 := hf2.bare.put' h3.1 v
          have g2 := FitsG.of (D := C.D) g1
          rw [app_put, hf2.app] at g2
          exact g2
        have hfa : ∀ e2, Fits C.N e2 { a with defers := [] } → FitsG C.N C.D e2 a := fun e2 g => ⟨g.size, hf.defers, g.at_⟩
        have hs' : vGuard ops o.guard e1 (fun e => SpecK C o e w1 fun v w => vcSegs C ops K is l' (e.put o.dst v) w) (fun e => vcSegs C ops K is l' (e.put o.dst undef) w1) := hs
        rcases vGuard_sound hf.bare hs' with ⟨e2, g1, g2, hw⟩ | ⟨e2, g1, g2, hw⟩
        · rw [if_pos hw]
          exact g2 a m _ _ (hfa e2 g1) (fun v w' m' hv => ih l' _ _ w' m' h3.2 (hput e2 v (hfa e2 g1)) hv) (fun c w' m' hp => hQ _ _ _ hp)
        · rw [if_neg (by rw [hw]; simp)]
          exact ⟨fun _ _ => trivial, ih l' _ _ w1 m h3.2 (hput e2 undef (hfa e2 g1)) g2⟩
      | _ => exact hq.elim
section
variable {C : CtxG} {k : List It} {e : Env} {w : World}
theorem VG_regionS (ks : List Nat) (is : List Nat) {id : Nat} {ops : List Oper} (hN : okSegs C.N is ops = true)
    (h : ∀ K : Env → World → Prop, (∀ e w, VG C k e w → K e w) → vcSegs C ops (selC ks K) is ops e w) : VG C (.code (.region id ops.toArray false) :: k) e w := by
  intro a n ha
  refine wpIn_region_lit ?_
  exact segs_sound (Q := fun ex a w => contG C k ex a w) (K := selC ks (VG C k)) (fun c a w hp => contG_panic.2 hp) (fun e a w n ha hv => ((selK_spec ks e _).1 hv) a n (ha.sel ks)) is ops e a w n hN ha (h _ fun _ _ hv => hv)
variable {d : Option Tmp} {ty : Nat} {pos : String} {af : Array Edge} {gd : Option (Nat × Bool)} {R : Value → World → Prop}
def CallP (C : CtxG) (e : Env) (fv : Value) (vs : List Value) (w : World) (R : Value → World → Prop) : Prop :=
  ∃ f first cs, fv = .func (.func f) first cs ∧ (∀ args w, (callFunc f args).run C.P w = .ok (.enter f args) w) ∧ ∃ F Pn, DoesP C.P f (first.toList ++ vs ++ cs.toList).toArray w F Pn ∧ (∀ v w', F v w' → R v w') ∧ (∀ c w', Pn c w' → ∀ a n, FitsG C.N C.D e a → C.post (.panic c) a (w'.drewN n))
theorem CallP.mk {f : FuncId} {first cs : Array Value} {vs : List Value} {F : Value → World → Prop} {Pn : List PanicEntry → World → Prop} (hf : ∀ args w, (callFunc f args).run C.P w = .ok (.enter f args) w)
    (h : DoesP C.P f (first.toList ++ vs ++ cs.toList).toArray w F Pn) (hc : ∀ v w', F v w' → R v w') (hp : ∀ c w', Pn c w' → ∀ a n, FitsG C.N C.D e a → C.post (.panic c) a (w'.drewN n)) : CallP C e (.func (.func f) first cs) vs w R :=
  ⟨f, first, cs, rfl, hf, F, Pn, h, hc, hp⟩
theorem SpecK_callv {x : Operand} {as_ : Array Operand} {ts : Array TypeId}
    (h : arg e x fun fv => argL e as_.toList fun vs => CallP C e fv vs w R) :
    SpecK C ⟨d, .call { callee := .value x, args := as_, argTypes := ts }, ty, pos, af, gd⟩ e w R := by
  intro a n next Q ha hK hP
  have h0 := arg_sound ha.bare h
  have h1 := argL_sound ha.bare h0
  obtain ⟨f, first, cs, hx, hf, F, Pn, hD, hC, hpn⟩ := h1
  have ev : ({ a with defers := [] } : Act).eval = a.eval := by funext x; cases x <;> rfl
  rw [ev] at hx hD
  have hm : (as_.map a.eval) = (as_.toList.map a.eval).toArray := map_eval as_ a
  have e1 : first ++ (as_.toList.map a.eval).toArray ++ cs = (first.toList ++ as_.toList.map a.eval ++ cs.toList).toArray := by
    apply Array.ext'; simp
  have hrun : (execOp a.eval ⟨d, .call { callee := .value x, args := as_, argTypes := ts }, ty, pos, af, gd⟩).run C.P (w.drewN n) = .ok (.enter f (first.toList ++ as_.toList.map a.eval ++ cs.toList).toArray) (w.drewN n) := by
    simp only [execOp, resolve, hx, Deferred.ofValue, Sem.run_bind, Sem.run_pure, Result.andThen_ok, invoke, hm, e1]
    simp [hf]
  refine ⟨fun _ _ => trivial, ?_⟩
  rw [Oper.semAt_eq _ _ _ (fun c hc => by cases hc), hrun]
  refine ⟨by simp [wideR, Fence.wide], callsIn_wideR ((hD n).mono fun e' w' he => ?_)⟩
  cases e' with
  | returned v => obtain ⟨w1, m, rfl, hF⟩ := he; exact hK v w1 m (hC v w1 hF)
  | panicked c => obtain ⟨w1, m, rfl, hF⟩ := he; exact hP c w1 m (hpn c w1 hF a m ha)
  | outgrown => exact he.elim
def YieldK (P : Program) (l : Nat) (vs : List Value) (w : World) (R : Value → World → Prop) : Prop :=
  ∀ n, ∃ fn tmps assign body, (Instr.yield l vs.toArray).run P (w.drewN n) = .ok (.round l fn tmps assign body) (w.drewN n) ∧
    RoundIn Fence.wide 0 P l fn tmps assign body (w.drewN n) fun e w' => ∃ v w1 m, e = .returned v ∧ w' = w1.drewN m ∧ R v w1
theorem YieldK.mono {P : Program} {l : Nat} {vs : List Value} {w : World} {R R' : Value → World → Prop} (h : YieldK P l vs w R) (hr : ∀ v w', R v w' → R' v w') : YieldK P l vs w R' := fun n => by
  obtain ⟨fn, tmps, as_, bd, h1, h2⟩ := h n
  exact ⟨fn, tmps, as_, bd, h1, h2.mono fun e w' ⟨v, w1, m, he, hw, hR⟩ => ⟨v, w1, m, he, hw, hr _ _ hR⟩⟩
theorem SpecK_yield {x : Operand} {as_ : Array Operand} {ts : Array TypeId}
    (h : arg e x fun fv => argL e as_.toList fun vs => ∃ l, fv = .func (.yield l) #[] #[] ∧ YieldK C.P l vs w R) :
    SpecK C ⟨d, .call { callee := .value x, args := as_, argTypes := ts }, ty, pos, af, gd⟩ e w R := by
  intro a n next Q ha hK hP
  have h0 := arg_sound ha.bare h
  have h1 := argL_sound ha.bare h0
  obtain ⟨l, hx, hY⟩ := h1
  have ev : ({ a with defers := [] } : Act).eval = a.eval := by funext x; cases x <;> rfl
  rw [ev] at hx hY
  obtain ⟨fn, tmps, asg, bd, hy, hR⟩ := hY n
  have hm : (as_.map a.eval) = (as_.toList.map a.eval).toArray := map_eval as_ a
  have hrun : (execOp a.eval ⟨d, .call { callee := .value x, args := as_, argTypes := ts }, ty, pos, af, gd⟩).run C.P (w.drewN n) = .ok (.round l fn tmps asg bd) (w.drewN n) := by
    simp only [execOp, resolve, hx, Deferred.ofValue, Sem.run_bind, Sem.run_pure, Result.andThen_ok, invoke, hm]
    simpa using hy
  refine ⟨fun _ _ => trivial, ?_⟩
  rw [Oper.semAt_eq _ _ _ (fun c hc => by cases hc), hrun]
  refine ⟨by simp [wideR, Fence.wide], ?_⟩
  refine RoundIn.mono (F := wideR C.L) (show RoundIn (wideR C.L) (0 - 1) C.P l fn tmps asg bd (w.drewN n) _ from hR) fun e' w' he => ?_
  obtain ⟨v, w1, m, rfl, rfl, hv⟩ := he
  exact hK v w1 m hv
theorem SpecK_panic {x : Operand} (h : arg e x fun v => (∃ t u, v = .iface t u) ∧ ∀ a n, FitsG C.N C.D e a → C.post (.panic [{ v := v, recovered := false }]) a (w.drewN n)) :
    SpecK C ⟨d, .panic x, ty, pos, af, gd⟩ e w R := by
  intro a n next Q ha hK hP
  obtain ⟨⟨t, u, hx⟩, hp⟩ := arg_sound ha.bare h
  have ev : ({ a with defers := [] } : Act).eval = a.eval := by funext x; cases x <;> rfl
  rw [ev] at hx hp
  have hrun : (execOp a.eval ⟨d, .panic x, ty, pos, af, gd⟩).run C.P (w.drewN n) = .halt (.panic (a.eval x)) (w.drewN n) := by
    simp only [execOp, hx, Instr.panic]
    rfl
  refine ⟨fun _ _ => trivial, ?_⟩
  rw [Oper.semAt_eq _ _ _ (fun c hc => by cases hc), hrun]
  exact hP _ w n (hp a n ha)
def noAgain : List It → Bool
  | [] => true
  | .again _ :: _ => false
  | _ :: k => noAgain k
theorem contG_D (D : List Deferred) {k : List It} (hk : noAgain k = true) : ∀ {ex : Exit} {a : Act} {w : World}, contG { C with D := D } k ex a w ↔ contG C k ex a w := by
  induction k with
  | nil => intro ex a w; exact Iff.rfl
  | cons x k ih =>
    intro ex a w
    cases x with
    | again I => cases hk
    | blk id =>
      have ih := fun {ex a w} => @ih hk ex a w
      cases ex <;> first | exact ih | skip
      rename_i id'
      simp only [contG]
      split
      · exact ih
      · exact ih
    | code c =>
      have ih := fun {ex a w} => @ih hk ex a w
      cases ex <;> first | exact ih | skip
      simp only [contG]
      constructor
      · exact fun h => wpIn_mono h fun ex a w hq => ih.1 hq
      · exact fun h => wpIn_mono h fun ex a w hq => ih.2 hq
theorem VG_regionD {P : Program} {N : Nat} {D : List Deferred} {post : Exit → Act → World → Prop} (ks : List Nat) (i : Nat) {id : Nat} {ops : List Oper} {x : Operand} {as_ : Array Operand} {ts : Array TypeId} (hk : noAgain k = true)
    (hN : ((ops.take i).all (dstOk N) && (ops.take i).all noDefer) = true) (hl : ops.drop i = [⟨none, .defer { callee := .value x, args := as_, argTypes := ts }, ty, pos, af, none⟩])
    (h : ∀ K : Deferred → Env → World → Prop, (∀ d e w, VG ⟨P, N, none, d :: D, post⟩ k e w → K d e w) →
      vcOps P N ops (ops.take i) e w (spC fun e w => arg e x fun fv => argL e as_.toList fun vs => ∃ f first cs, fv = .func (.func f) first cs ∧ selK ks e fun e => K { target := .fn (.func f) cs, args := first ++ vs.toArray } e w)) : VG ⟨P, N, none, D, post⟩ (.code (.region id ops.toArray false) :: k) e w := by
  intro a n ha
  simp only [Bool.and_eq_true] at hN
  refine wpIn_region_lit ?_
  have key : wpListIn (wideR none) 0 P ops.toArray (fun ex a w => contG ⟨P, N, none, D, post⟩ k ex a w) (ops.take i ++ [⟨none, .defer { callee := .value x, args := as_, argTypes := ts }, ty, pos, af, none⟩]) a (w.drewN n) := by
    refine wpListIn_append _ _ _ _ ?_
    have hA := vcOps_sound (P := P) (N := N) (ops := ops) (Q := Qapp D fun ex a w => match ex with
        | .normal => ∃ e w0 n, w = w0.drewN n ∧ FitsG N D e a ∧ arg e x fun fv => argL e as_.toList fun vs => ∃ f first cs, fv = .func (.func f) first cs ∧ selK ks e fun e => VG ⟨P, N, none, { target := .fn (.func f) cs, args := first ++ vs.toArray } :: D, post⟩ k e w0
        | _ => False)
      (fun e a w n ha hv => ⟨ha.defers, e, w, n, rfl, FitsG.of ha, hv⟩) (ops.take i) e _ w n hN.1 ha.bare (h _ fun _ _ _ hv => hv)
    have hB := wpList_app (L := none) _ _ _ hN.2 hA
    rw [FitsG.app ha] at hB
    refine wpListIn_mono (fun ex a w hq => ?_) _ _ _ hB
    cases ex with
    | normal =>
      obtain ⟨e1, w1, m, rfl, hf, hs⟩ := hq
      show wpListIn _ _ _ _ _ [_] a _
      simp only [wpListIn]
      rw [if_pos (by simp [Region.wanted])]
      have h0 := arg_sound hf.bare hs
      have h1 := argL_sound hf.bare h0
      obtain ⟨f, first, cs, hx, hv⟩ := h1
      have ev : ({ a with defers := [] } : Act).eval = a.eval := by funext x; cases x <;> rfl
      rw [ev] at hx hv
      have hm : (as_.map a.eval) = (as_.toList.map a.eval).toArray := map_eval as_ a
      refine ⟨fun _ _ => trivial, ?_⟩
      have hrun : (Oper.semAt (wideR none).round a.eval ⟨none, .defer { callee := .value x, args := as_, argTypes := ts }, ty, pos, af, none⟩).run P (w1.drewN m) = .ok (.defer { target := .fn (.func f) cs, args := first ++ (as_.toList.map a.eval).toArray }) (w1.drewN m) := by
        rw [show (wideR none).round = none from rfl, Oper.semAt_none]
        simp only [execOp, resolve, hx, Deferred.ofValue, Sem.run_bind, Sem.run_pure, Result.andThen_ok, hm]
      rw [hrun]
      refine (contG_D (C := ⟨P, N, none, D, post⟩) _ hk).1 (((selK_spec ks e1 _).1 hv) _ m (FitsG.sel ?_ ks))
      exact ⟨hf.size, by simp [Act.put, hf.defers], hf.at_⟩
    | _ => exact hq.elim
  rw [← hl, List.take_append_drop] at key
  exact key
theorem VG_rangeFunc {P : Program} {N : Nat} {D : List Deferred} {post : Exit → Act → World → Prop} {g : Operand} {ps : Array Tmp} {assign body : Code} (hk : noAgain k = true) {gf : FuncId} {first cs : Array Value}
    (hg : arg e g fun v => v = Value.func (.func gf) first cs) (hf : ∀ args w, (callFunc gf args).run P w = .ok (.enter gf args) w)
    (h : ∀ r : Loop, r.state = .ready → r.pending = none → r.params = ps → r.assign = assign → r.body = body → r.defers = w.heap.size → r.tmps.size = N → (∀ t v, e.find? t = some v → r.tmps.getD t undef = v) →
      DoesP P gf (first.toList ++ [Value.func (.yield (w.heap.size + 1)) #[] #[]] ++ cs.toList).toArray ((w.alloc (.deferred (some []))).alloc (.loop r))
        (fun _ w2 => ∃ st pd, w2.heap[w.heap.size + 1]? = some (Obj.loop { r with state := st, pending := pd }) ∧ st ≠ .busy ∧
          match pd with
          | none => VG ⟨P, N, none, markD w.heap.size :: D, post⟩ k e (w2.putObj (w.heap.size + 1) (.loop { r with state := .exhausted, pending := none }))
          | some c => VG ⟨P, N, none, markD w.heap.size :: D, post⟩ (.code c :: k) e (w2.putObj (w.heap.size + 1) (.loop { r with state := .exhausted, pending := some c }))) noPn) :
    VG ⟨P, N, none, D, post⟩ (.code (.rangeFunc g ps assign body) :: k) e w := by
  intro a n ha
  have hge := ha.eval hg
  have hdep : (wideR none).depth.isSome = true → 1 ≤ 0 := by simp [wideR, Fence.wide]
  refine wpIn_rangeFunc fun fn _ => ?_
  have hh := h { state := .ready, pending := none, fn := fn, tmps := a.tmps, params := ps, assign := assign, body := body, defers := w.heap.size } rfl rfl rfl rfl rfl rfl ha.size ha.at_
  generalize hr : ({ state := .ready, pending := none, fn := fn, tmps := a.tmps, params := ps, assign := assign, body := body, defers := w.heap.size } : Loop) = r at hh
  have he := run_enterLoop_outer (P := P) (w := w.drewN n) fn a.tmps ps assign body
  have hsz : (w.drewN n).heap.size = w.heap.size := rfl
  rw [hsz, hr] at he
  have e1 : first ++ #[Value.func (.yield (w.heap.size + 1)) #[] #[]] ++ cs = (first.toList ++ [Value.func (.yield (w.heap.size + 1)) #[] #[]] ++ cs.toList).toArray := by
    apply Array.ext'; simp
  refine ⟨w.heap.size + 1, [markD w.heap.size], _, { target := .fn (.func gf) cs, args := first ++ #[Value.func (.yield (w.heap.size + 1)) #[] #[]] }, ((w.alloc (Obj.deferred (some []))).alloc (Obj.loop r)).drewN n, gf, (first.toList ++ [Value.func (.yield (w.heap.size + 1)) #[] #[]] ++ cs.toList).toArray, _, he, ?_, fun _ _ => trivial, ?_, hdep, callsIn_wideR (((hh n)).mono fun ex w3 hex => ?_)⟩
  · have hc : (rangeCall g (w.heap.size + 1)).args.map a.eval = #[Value.func (.yield (w.heap.size + 1)) #[] #[]] := by simp [rangeCall, Act.eval]
    simp only [resolve, hge, Deferred.ofValue, Sem.run_bind, Sem.run_pure, Result.andThen_ok, hc]
    rfl
  · simp only [invoke]
    rw [← e1]
    exact hf _ _
  · cases ex with
    | outgrown => exact hex.elim
    | panicked c => obtain ⟨_, _, _, hx⟩ := hex; exact hx.elim
    | returned v =>
      obtain ⟨w2, m, rfl, st, pd, hl, hst, hv⟩ := hex
      have hen := run_endLoop (P := P) (w := w2.drewN m) (l := w.heap.size + 1) (r := { r with state := st, pending := pd }) hl hst
      refine ⟨pd, _, hen, ?_⟩
      have hfit : FitsG N (markD w.heap.size :: D) e { a with defers := [markD w.heap.size] ++ a.defers } := ⟨ha.size, by simp [ha.defers], ha.at_⟩
      cases pd with
      | none => exact (contG_D (C := ⟨P, N, none, D, post⟩) (markD w.heap.size :: D) hk).1 (hv _ m hfit)
      | some c => exact wpIn_mono (hv _ m hfit) fun ex a _ hq => (contG_D (C := ⟨P, N, none, D, post⟩) (markD w.heap.size :: D) hk).1 hq
end
def roundP (P : Program) (l : Nat) (r : Loop) (R : Value → World → Prop) : Exit → Act → World → Prop
  | .normal, _, w => ∃ (w0 : World) (n : Nat), w = w0.drewN n ∧ w0.heap[l]? = some (.loop { r with state := .busy }) ∧ R (.bool true) (w0.putObj l (.loop { r with state := .ready, pending := none }))
  | .ret, _, w => ∃ (w0 : World) (n : Nat), w = w0.drewN n ∧ w0.heap[l]? = some (.loop { r with state := .busy }) ∧ R (.bool false) (w0.putObj l (.loop { r with state := .done, pending := some .ret }))
  | .exit id, _, w => ∃ (w0 : World) (n : Nat), w = w0.drewN n ∧ w0.heap[l]? = some (.loop { r with state := .busy }) ∧ R (.bool false) (w0.putObj l (.loop { r with state := .done, pending := some (.exit id) }))
  | _, _, _ => False
theorem YieldK_round {P : Program} {N l : Nat} {r : Loop} {vs : List Value} {w : World} {R : Value → World → Prop} {e : Env} (hl : w.heap[l]? = some (Obj.loop r)) (hst : r.state = .ready) (hsz : r.tmps.size = N) (hps : vs.length = r.params.size)
    (he : ∀ t v, e.find? t = some v → ((r.params.zip vs.toArray).foldl (fun tmps (t, a) => tmps.setIfInBounds t a) r.tmps).getD t undef = v)
    (h : VG ⟨P, N, some l, [], fun ex a w => ex = .normal ∧ ∃ (e0 : Env) (w0 : World) (n : Nat), w = w0.drewN n ∧ FitsG N [] e0 a ∧ w0.heap[l]? = some (.loop r) ∧ VG ⟨P, N, some l, [], roundP P l r R⟩ [.code r.body] e0 (w0.putObj l (.loop { r with state := .busy }))⟩ [.code r.assign] e w) :
    YieldK P l vs w R := by
  intro n
  have hy := run_yield (P := P) (w := w.drewN n) (l := l) (r := r) (args := vs.toArray) hl (by simpa using hps)
  refine ⟨_, _, _, _, hy, roundIn_of_wpIn trivial ?_⟩
  have hszT : ((r.params.zip vs.toArray).foldl (fun tmps (t, a) => tmps.setIfInBounds t a) r.tmps).size = N := by
    have key : ∀ (l : List (Tmp × Value)) (T : Array Value), (l.foldl (fun tmps (x : Tmp × Value) => tmps.setIfInBounds x.1 x.2) T).size = T.size := by
      intro l
      induction l with
      | nil => intro T; rfl
      | cons x l ih => intro T; rw [List.foldl_cons, ih]; simp
    rw [← Array.foldl_toList]
    rw [← hsz]
    exact key _ _
  have h1 := h { tmps := (r.params.zip vs.toArray).foldl (fun tmps (t, a) => tmps.setIfInBounds t a) r.tmps, defers := [] } n ⟨hszT, rfl, he⟩
  refine wpIn_mono (F := Fence.wide.inRound l) h1 fun ex a w' hq => ?_
  obtain ⟨rfl, e0, w0, m, rfl, hf, hl0, hb⟩ := hq
  refine ⟨_, run_beginRound (P := P) (w := w0.drewN m) hl0 hst, ?_⟩
  refine wpIn_mono (F := Fence.wide.inRound l) (hb a m hf) fun ex a w' hq => ?_
  cases ex with
  | normal =>
    obtain ⟨w1, m1, rfl, hl1, hR⟩ := hq
    exact ⟨_, _, run_endRound (P := P) (w := w1.drewN m1) none hl1, _, _, m1, rfl, rfl, hR⟩
  | ret =>
    obtain ⟨w1, m1, rfl, hl1, hR⟩ := hq
    exact ⟨_, _, run_endRound (P := P) (w := w1.drewN m1) (some .ret) hl1, _, _, m1, rfl, rfl, hR⟩
  | exit id =>
    obtain ⟨w1, m1, rfl, hl1, hR⟩ := hq
    exact ⟨_, _, run_endRound (P := P) (w := w1.drewN m1) (some (.exit id)) hl1, _, _, m1, rfl, rfl, hR⟩
  | goto t => exact hq.elim
  | panic c => exact hq.elim
  | outgrown => exact hq.elim
end Go.Eng
namespace Go.Eng
open Go
attribute [go_sem ↓] o_nilSp sg_nil sg_cons sg_at sg_atg
theorem callsD_rec {P : Program} {f : FuncId} {fn : Func} {id : Nat} {t s : Tmp} {ts : Array TypeId} {ty1 ty2 : Nat} {p1 p2 : String} {a1 a2 : Array Edge} {rest : Code} {N : Nat} {args : List Value} {u u' : FrameMode} {v : Value} {w : World} {R : World → Prop}
    (hf : P.funcs[f]? = some fn) (hb : fn.body = some (.seq (.region id #[⟨some t, .call { callee := .builtin .recover, args := #[], argTypes := ts }, ty1, p1, a1, none⟩, ⟨some s, .assign (.tmp t), ty2, p2, a2, none⟩] false) rest)) (hres : fn.results = #[]) (hN : fn.ntmps = N) (hle : args.length ≤ N) (ht : t < N) (hs : s < N)
    (hu : u = .returning ∧ u' = .returning ∧ v = .nilIface ∨ u = .panicking [{ v := v, recovered := false }] ∧ u' = .panicking [{ v := v, recovered := true }])
    (h : VG ⟨P, N, none, [], fun ex a w' => (ex = .normal ∨ ex = .ret) ∧ a.defers = [] ∧ ∃ w1 m, w' = w1.drewN m ∧ R w1⟩ [.code rest] ((s, v) :: (t, v) :: Env.ofArgs 0 args) w) :
    ∀ n, CallsDIn Fence.wide 0 P f args.toArray u (w.drewN n) (fun e u2 w' => (∃ x, e = .returned x) ∧ u2 = u' ∧ ∃ w1 m, w' = w1.drewN m ∧ R w1) := by
  intro n
  refine callsDIn_of_wpSIn hf hb trivial fun c₀ cs hm => ?_
  generalize ha0 : ({ tmps := args.toArray ++ Array.replicate (fn.ntmps - args.toArray.size) undef, defers := [] } : Act) = a0
  have hfit0 : Fits N (Env.ofArgs 0 args) a0 := by
    subst ha0
    refine ⟨by simp [hN]; omega, rfl, fun t v ht => ?_⟩
    have := (Env.find?_ofArgs args 0 t v ht).2
    rw [Array.getD_eq_getD_getElem?, Array.getElem?_append]
    have hlt : t < args.toArray.size := by
      have h2 := (List.getElem?_eq_some_iff.1 this).1
      simpa using h2
    simp only [hlt, if_true]
    simp at this ⊢
    simp [this]
  refine wpSIn_seq (wpSIn_region ?_)
  have hfit1 : Fits N ((t, v) :: Env.ofArgs 0 args) (a0.put (some t) v) := hfit0.put (some t) v fun x hx => by cases hx; exact ht
  have hfit2 : Fits N ((s, v) :: (t, v) :: Env.ofArgs 0 args) ((a0.put (some t) v).put (some s) v) := hfit1.put (some s) v fun x hx => by cases hx; exact hs
  have hev : (a0.put (some t) v).eval (.tmp t) = v := hfit1.at_ t v (by simp [Env.find?])
  have hcs : ∃ cs', (recoverD (c₀ :: cs) = some (v, cs') ∨ recoverD (c₀ :: cs) = none ∧ v = .nilIface ∧ cs' = c₀ :: cs) ∧ cs' = { c₀ with mode := u' } :: cs := by
    rcases hu with ⟨h1, h2, h3⟩ | ⟨h1, h2⟩
    · refine ⟨c₀ :: cs, .inr ⟨?_, h3, rfl⟩, ?_⟩
      · simp only [recoverD, hm, h1]
      · have : c₀.mode = u' := by rw [hm, h1, h2]
        cases c₀; simp only at this; subst this; rfl
    · refine ⟨{ c₀ with mode := u' } :: cs, .inl ?_, rfl⟩
      simp only [recoverD, hm, h1, h2]
  obtain ⟨cs', hrec, hcs'⟩ := hcs
  have hrun2 : ∀ w, (execOp (a0.put (some t) v).eval ⟨some s, .assign (.tmp t), ty2, p2, a2, none⟩).run P w = .ok (.value v) w := fun w => by
    simp only [execOp, hev]
    rfl
  have hlast : Exit.thenS (rest.wpSIn Fence.wide 0 P (bodyPostS P fn c₀ cs fun e u2 w' => (∃ x, e = .returned x) ∧ u2 = u' ∧ ∃ w1 m, w' = w1.drewN m ∧ R w1)) (bodyPostS P fn c₀ cs fun e u2 w' => (∃ x, e = .returned x) ∧ u2 = u' ∧ ∃ w1 m, w' = w1.drewN m ∧ R w1) .normal ((a0.put (some t) v).put (some s) v) cs' (w.drewN n) := by
    refine wpSIn_of_wpIn rfl (wpIn_mono (F := Fence.wide) (h _ n ⟨hfit2.size, hfit2.defers, hfit2.at_⟩) fun ex a w' hq => ?_)
    obtain ⟨hex, hd, w1, m, rfl, hR⟩ := hq
    have hr := results_none hres a.tmps P (w1.drewN m)
    rcases hex with rfl | rfl
    · exact ⟨hd, u', hcs', _, hr, ⟨_, rfl⟩, rfl, w1, m, rfl, hR⟩
    · exact ⟨hd, u', hcs', _, hr, ⟨_, rfl⟩, rfl, w1, m, rfl, hR⟩
  have hsz : (#[⟨some t, .call { callee := .builtin .recover, args := #[], argTypes := ts }, ty1, p1, a1, none⟩, ⟨some s, .assign (.tmp t), ty2, p2, a2, none⟩] : Array Oper).size = 2 := rfl
  rw [hsz]
  simp only [show List.range 2 = [0, 1] from rfl, wpOpsSIn, List.getElem?_toArray, List.getElem?_cons_zero, List.getElem?_cons_succ]
  refine ⟨fun _ _ => trivial, ?_⟩
  rw [if_pos (by simp [Region.wanted])]
  have hrun1 : (execOp a0.eval ⟨some t, .call { callee := .builtin .recover, args := #[], argTypes := ts }, ty1, p1, a1, none⟩).run P (w.drewN n) = .ok .recover (w.drewN n) := by
    simp only [execOp, resolve, invoke, builtin, Sem.run_bind, Sem.run_pure, Result.andThen_ok]
  rw [hrun1]
  simp only []
  rcases hrec with hrec | ⟨hrec, hv, rfl⟩
  · rw [hrec]
    simp only []
    refine ⟨fun _ _ => trivial, ?_⟩
    rw [if_pos (by simp [Region.wanted]), hrun2]
    exact hlast
  · rw [hrec]
    simp only []
    refine ⟨fun _ _ => trivial, ?_⟩
    rw [← hv]
    rw [if_pos (by simp [Region.wanted]), hrun2]
    exact hlast
theorem leave_rec {P : Program} {fn : Func} {F : Value → World → Prop} {Pn : List PanicEntry → World → Prop} {N : Nat} {e : Env} {w : World} {D : List Deferred} {f : FuncId} {cs : Array Value} {args : Array Value} {R : World → Prop} {u : FrameMode}
    (hi : ∀ args w, (callFunc f args).run P w = .ok (.enter f args) w) (hu : u ≠ .run) (hD : D = [{ target := .fn (.func f) cs, args := args }])
    (hc : ∀ n, CallsDIn Fence.wide 0 P f (args ++ cs) u (w.drewN n) (fun e u2 w' => (∃ x, e = .returned x) ∧ settle u2 = .returning ∧ ∃ w1 m, w' = w1.drewN m ∧ R w1))
    (hx : ∀ w1, R w1 → VX ⟨P, fn, F, N⟩ [] .ret e w1) : ∀ a n, FitsG N D e a → LeavesInM Fence.wide 0 P fn a.tmps (endsP F Pn) a.defers u (w.drewN n) := by
  intro a n ha
  rw [ha.defers, hD]
  refine ⟨hu, .inr ⟨by simp [Fence.wide], .func f, cs, f, args ++ cs, rfl, ?_, fun _ _ => trivial, ?_⟩⟩
  · simp only [invoke]; exact hi _ _
  · obtain ⟨_, hc⟩ := hc n
    refine ⟨trivial, fun c cs hm hroom => ?_⟩
    obtain ⟨e2, u2, w2, fr, hR, h1, h2, h3, h4⟩ := hc c cs hm hroom
    refine ⟨e2, u2, w2, fr, ?_, h1, h2, h3, h4⟩
    obtain ⟨⟨x, rfl⟩, hs, w1, m, rfl, hR⟩ := hR
    show LeavesInM _ _ _ _ _ _ [] (settle u2) _
    rw [hs]
    exact post_res (hx w1 hR) ha
end Go.Eng
namespace Go.Eng
open Go
def notIface (d : Option TypeDesc) : Bool :=
  match d with
  | some (.interface _) => false
  | some _ => true
  | none => false
theorem MemK_assert {P : Program} {N : Nat} {d : Option Tmp} {ty : Nat} {pos : String} {af : Array Edge} {gd : Option (Nat × Bool)} {e : Env} {w : World} {R : Env → World → (Env → World → Prop) → Prop} {K : Env → World → Prop} {x : Operand} {T T' : TypeId}
    (h : arg e x fun u => ∃ v, u = .iface T' v ∧ notIface (P.underlying T') = true ∧ R (e.put d (.tuple #[v, .bool true])) w K) : MemK P N ⟨d, .typeAssert x T T' true, ty, pos, af, gd⟩ e w R K :=
  Mem_of_run fun a n ha => by
    obtain ⟨v, hx, hu, hR⟩ := arg_sound ha h
    refine ⟨_, w, n, ?_, hR⟩
    simp only [execOp, hx, Instr.typeAssert]
    cases hd : P.underlying T' with
    | none => rw [hd] at hu; cases hu
    | some t => cases t <;> first | (rw [hd] at hu; cases hu; done) | simp [run_underlying hd]
end Go.Eng
namespace Go.Eng
open Go
section
variable {P : Program} {w : World} {KV : Value → Prop}
theorem run_eqIn_if {T : TypeId} {ms : Array (String × TypeId)} (hu : P.underlying T = some (.interface ms)) (d : Nat) (t : TypeId) (v : Value) (w : World) : (Op.equalIn (d + 1) T (.iface t v) .nilIface).run P w = .ok false w := by
  unfold Op.equalIn
  simp [run_underlying hu]
theorem run_eq_if {T : TypeId} {ms : Array (String × TypeId)} (hu : P.underlying T = some (.interface ms)) (t : TypeId) (v : Value) (w : World) : (Op.equal T (.iface t v) .nilIface).run P w = .ok false w := run_eqIn_if hu 9999 t v w
theorem run_eqIn_nif {T : TypeId} {ms : Array (String × TypeId)} (hu : P.underlying T = some (.interface ms)) (d : Nat) (w : World) : (Op.equalIn (d + 1) T .nilIface .nilIface).run P w = .ok true w := by
  unfold Op.equalIn
  simp [run_underlying hu]
theorem run_eq_nif {T : TypeId} {ms : Array (String × TypeId)} (hu : P.underlying T = some (.interface ms)) (w : World) : (Op.equal T .nilIface .nilIface).run P w = .ok true w := run_eqIn_nif hu 9999 w
theorem bn_if {T : TypeId} {ms : Array (String × TypeId)} (hu : P.underlying T = some (.interface ms)) (t : TypeId) (v : Value) (xo yo : Operand) : vBinO P .neq T xo yo (.iface t v) .nilIface w KV = KV (.bool true) := by
  refine EqR_of fun w' => ?_
  simp only [Sem.run_bind]
  rw [eqGuard_free ⟨by simp, by simp⟩]
  simp only [Result.andThen_ok, binOp, Sem.run_bind, run_eq_if hu, Sem.run_pure]
  rfl
theorem bn_nif {T : TypeId} {ms : Array (String × TypeId)} (hu : P.underlying T = some (.interface ms)) (xo : Operand) (c : Value) : vBinO P .neq T xo (.const c) .nilIface .nilIface w KV = KV (.bool false) := by
  refine EqR_of fun w' => ?_
  have hg : (eqGuard .neq T xo (.const c) .nilIface .nilIface).run P w' = .ok () w' := by
    unfold eqGuard
    simp
  simp only [Sem.run_bind]
  rw [hg]
  simp only [Result.andThen_ok, binOp, Sem.run_bind, run_eq_nif hu, Sem.run_pure]
  rfl
end
end Go.Eng
set_option linter.unusedSimpArgs false
set_option linter.unusedVariables false
namespace Go.Eng
open Go
theorem Qs {P Q : Prop} (q : Q) (h : P = Q := by simp only [go_sem,↓reduceIte,Nat.reduceEqDiff]; exact rfl) : P := h.mpr q
theorem Qo {A B : Prop} (b : B) (a : A := by omega) : A ∧ B := ⟨a, b⟩
theorem Qp {A B C : Prop} (c : C) (a : A := by omega) (b : B := by omega) : (A ∧ B) ∧ C := ⟨⟨a, b⟩, c⟩
theorem VQ {P : Program} {fn : Func} {F : Value → World → Prop} {N : Nat} {k k' : List It} {e : Env} {w : World} (ks : List Nat) {c : Code} {id : Nat} {ops : List Oper} {Y : (Env → World → Prop) → Prop}
    (h : ∀ K : Env → World → Prop, (∀ e w, VC ⟨P, fn, F, N⟩ k' e w → K e w) → Y K)
    (hp : peel c k = .code (.region id ops.toArray false) :: k' := by rfl) (hN : ops.all (dstOk N) = true := by rfl)
    (hY : ∀ K, vcOps P N ops ops e w (selC ks K) = Y K := by intro K; simp only [go_sem,↓reduceIte,Nat.reduceEqDiff]; exact rfl) : VC ⟨P, fn, F, N⟩ (.code c :: k) e w :=
  VR ks hp hN fun K hK => (hY K).mpr (h K hK)
theorem VB {C : Ctx} {k k' : List It} {e : Env} {w : World} {c d : Code} {id : Nat} (h : VC C (.code d :: .blk id :: k') e w) (hp : peel c k = .code (.block id d) :: k' := by rfl) : VC C (.code c :: k) e w :=
  VC_peel c k (hp ▸ VC_block h)
theorem Vi {C : Ctx} {k : List It} {e : Env} {w : World} {t : Tmp} {b : Bool} {x y : Code} (ht : b = true → VC C (.code x :: k) e w) (hf : b = false → VC C (.code y :: k) e w) (hv : e.find? t = some (.bool b) := by rfl) : VC C (.code (.cond (.tmp t) x y) :: k) e w :=
  VC_cond rfl hv ht hf
theorem Gc {w0 w : World} {B : List Nat} {G : List Res} (hH : Heap w0 B w G) {ad : Addr} {v : Value} {Q : Value → Prop} (q : Q v)
    (h : Heap w0 B w G → w.cell? ad = some v := by intro hH; first | exact blk_cell (hH.at 0 rfl) rfl | exact row_cell (hH.at 0 rfl) (bytesV_get (by omega)) | exact row_cell (hH.at 0 rfl) (intsV_get (by omega)) | exact blk_cell (hH.at 1 rfl) rfl | exact row_cell (hH.at 1 rfl) (bytesV_get (by omega)) | exact row_cell (hH.at 1 rfl) (intsV_get (by omega)) | exact blk_cell (hH.at 2 rfl) rfl | exact row_cell (hH.at 2 rfl) (bytesV_get (by omega)) | exact row_cell (hH.at 2 rfl) (intsV_get (by omega)) | exact blk_cell (hH.at 3 rfl) rfl | exact row_cell (hH.at 3 rfl) (bytesV_get (by omega)) | exact row_cell (hH.at 3 rfl) (intsV_get (by omega))) :
    ∃ v, w.cell? ad = some v ∧ Q v := ⟨v, h hH, q⟩
theorem Qi {P Q : Prop} (q : Q) (h : P = Q := by simp -implicitDefEqProofs only [go_sem,↓reduceIte,Nat.reduceEqDiff]; exact rfl) : P := h.mpr q
theorem VQi {P : Program} {fn : Func} {F : Value → World → Prop} {N : Nat} {k k' : List It} {e : Env} {w : World} (ks : List Nat) {c : Code} {id : Nat} {ops : List Oper} {Y : (Env → World → Prop) → Prop}
    (h : ∀ K : Env → World → Prop, (∀ e w, VC ⟨P, fn, F, N⟩ k' e w → K e w) → Y K) (hp : peel c k = .code (.region id ops.toArray false) :: k' := by rfl) (hN : ops.all (dstOk N) = true := by rfl)
    (hY : ∀ K, vcOps P N ops ops e w (selC ks K) = Y K := by intro K; simp -implicitDefEqProofs only [go_sem,↓reduceIte,Nat.reduceEqDiff]; exact rfl) : VC ⟨P, fn, F, N⟩ (.code c :: k) e w := VR ks hp hN fun K hK => (hY K).mpr (h K hK)
theorem VL {P : Program} {fn : Func} {F : Value → World → Prop} {N : Nat} {k k' : List It} {e : Env} {w : World} (ks : List Nat) (m : Nat) {c : Code} {id : Nat} {ops : List Oper} {Y : (Env → World → Prop) → Prop}
    (h : ∀ K : Env → World → Prop, (∀ e w, VC ⟨P, fn, F, N⟩ k' e w → K e w) → Y K) (hp : peel c k = .code (.region id ops.toArray true) :: k' := by rfl) (hm : P.follows .mixedOrders = true := by kernel_rfl)
    (hB : Region.lexTailB .any ops.toArray m = true := by kernel_rfl) (hq : (ops.take m).all (fun o => isPure P o.op) = true := by kernel_rfl) (hN : ops.all (dstOk N) = true := by rfl)
    (hY : ∀ K, vcOps P N ops ops e w (selC ks K) = Y K := by intro K; simp only [go_sem,↓reduceIte,Nat.reduceEqDiff]; exact rfl) : VC ⟨P, fn, F, N⟩ (.code c :: k) e w := VC_peel c k (hp ▸ VC_regionL ks m hm hB hq hN fun K hK => (hY K).mpr (h K hK))
theorem Vq {P : Program} {fn : Func} {F : Value → World → Prop} {N : Nat} {k k' : List It} {e : Env} {w : World} (ks : List Nat) {c : Code} {id : Nat} {ops : List Oper} {Y : (Env → Prop) → Prop}
    (h : ∀ K : Env → Prop, (∀ e, VC ⟨P, fn, F, N⟩ k' e w → K e) → Y K) (hp : peel c k = .code (.region id ops.toArray true) :: k' := by rfl) (hm : P.follows .mixedOrders = true := by kernel_rfl)
    (hB : Region.lexB .any ops.toArray = true := by kernel_rfl) (hN : ops.all (dstOk N) = true := by rfl)
    (hY : ∀ K, vcQ P N ops ops e w (selQ ks K) = Y K := by intro K; simp only [go_sem,↓reduceIte,Nat.reduceEqDiff]; exact rfl) : VC ⟨P, fn, F, N⟩ (.code c :: k) e w := VC_peel c k (hp ▸ VC_regionQ ks hm hB hN fun K hK => (hY K).mpr (h K hK))
theorem VH {P : Program} {fn : Func} {F : Value → World → Prop} {N : Nat} {k k' : List It} {e : Env} {w : World} (w0 : World) (hx : Ext w0 w) (ks : List Nat) (plan : List (Nat × Bool)) {c : Code} {id : Nat} {ops : List Oper} {l : List (Bool × Oper)} {Y : (Env → World → Prop) → Prop}
    (h : ∀ K : Env → World → Prop, (∀ e w, VC ⟨P, fn, F, N⟩ k' e w → K e w) → Y K) (hp : peel c k = .code (.region id ops.toArray true) :: k' := by rfl) (hm : P.follows .mixedOrders = true := by kernel_rfl)
    (hB : (planOk ops.toArray plan (Array.replicate ops.toArray.size false) && Region.noSelect ops.toArray && decide (plan.length ≤ ops.length)) = true := by kernel_rfl) (hN : ops.all (dstOk N) = true := by rfl) (hl : planned ops plan = l := by simp only [planned, List.filterMap_cons, List.filterMap_nil, List.getElem?_cons_succ, List.getElem?_cons_zero, Option.map_some]; rfl)
    (hY : ∀ K, vcH P N ops w0 l e w (selC ks K) = Y K := by intro K; simp only [go_sem,↓reduceIte,Nat.reduceEqDiff]; exact rfl) : VC ⟨P, fn, F, N⟩ (.code c :: k) e w := VC_peel c k (hp ▸ VC_regionH w0 hx ks plan hm hB hN hl fun K hK => (hY K).mpr (h K hK))
theorem Vb {P : Program} {fn : Func} {F : Value → World → Prop} {N : Nat} {k k' : List It} {e : Env} {w : World} (ks : List Nat) (plan : List (Nat × Nat)) {c : Code} {id : Nat} {ops : List Oper} {l : List (Bool × Oper)} {Y : (Env → World → Prop) → Prop}
    (h : ∀ K : Env → World → Prop, (∀ e w, VC ⟨P, fn, F, N⟩ k' e w → K e w) → Y K) (hp : peel c k = .code (.region id ops.toArray true) :: k' := by rfl) (hm : P.follows .mixedOrders = true := by kernel_rfl)
    (hB : (planB ops.toArray plan (Array.replicate ops.toArray.size false) && Region.noSelect ops.toArray && decide (plan.length ≤ ops.length)) = true := by kernel_rfl) (hN : ops.all (dstOk N) = true := by kernel_rfl) (hl : planned ops (plan.map fun p => (p.1, p.2 == 0)) = l := by simp only [planned, List.map_cons, List.map_nil, beq_self_eq_true, Nat.reduceBEq, List.filterMap_cons, List.filterMap_nil, List.getElem?_cons_succ, List.getElem?_cons_zero, Option.map_some]; rfl)
    (hY : ∀ K, vcH P N ops (bare w) l e w (selC ks K) = Y K := by intro K; simp only [go_sem,↓reduceIte,Nat.reduceEqDiff]; exact rfl) : VC ⟨P, fn, F, N⟩ (.code c :: k) e w := VC_peel c k (hp ▸ VC_regionB ks plan hm hB hN hl fun K hK => (hY K).mpr (h K hK))
theorem V3 {P : Program} {fn : Func} {F : Value → World → Prop} {N : Nat} {k k' : List It} {e : Env} {w : World} (w0 : World) (hx : Ext w0 w) (ks : List Nat) (t : Tree3) {c : Code} {id : Nat} {ops : List Oper}
    (h : ∀ K : Env → World → Prop, (∀ e w, VC ⟨P, fn, F, N⟩ k' e w → K e w) → vcT3 P N ops w0 t e w (selC ks K)) (hp : peel c k = .code (.region id ops.toArray true) :: k' := by rfl) (hm : P.follows .mixedOrders = true := by kernel_rfl)
    (hB : (treeOk3 ops.toArray t ops.toArray.size (Array.replicate ops.toArray.size false) && Region.noSelect ops.toArray) = true := by kernel_rfl) (hN : ops.all (dstOk N) = true := by rfl) : VC ⟨P, fn, F, N⟩ (.code c :: k) e w := VC_peel c k (hp ▸ VC_regionT3 w0 hx ks t hm hB hN h)
theorem VG_peel {C : CtxG} {e : Env} {w : World} : ∀ (c : Code) (k : List It), VG C (peel c k) e w → VG C (.code c :: k) e w := by
  intro c
  induction c with
  | seq a b iha ihb => intro k h; exact VG_seq (iha _ h)
  | _ => intro k h; exact h
theorem GQ {C : CtxG} {k k' : List It} {e : Env} {w : World} (ks : List Nat) {c : Code} {id : Nat} {ops : List Oper} {Y : (Env → World → Prop) → Prop}
    (h : ∀ K : Env → World → Prop, (∀ e w, VG C k' e w → K e w) → Y K) (hp : peel c k = .code (.region id ops.toArray false) :: k' := by rfl) (hN : (ops.all (dstOk C.N) && ops.all noDefer) = true := by kernel_rfl)
    (hY : ∀ K, vcOps C.P C.N ops ops e w (selC ks K) = Y K := by intro K; simp only [go_sem,↓reduceIte,Nat.reduceEqDiff]; exact rfl) : VG C (.code c :: k) e w := VG_peel c k (hp ▸ VG_region ks hN fun K hK => (hY K).mpr (h K hK))
theorem En {P : Program} {f : FuncId} {fn : Func} {c : Code} {w : World} {F : Value → World → Prop} {E : Env} (args : List Value) (N : Nat) (hf : P.funcs[f]? = some fn) (h : VC ⟨P, fn, F, N⟩ [.code c] E w)
    (hb : fn.body = some c := by rfl) (hN : fn.ntmps = N := by rfl) (hle : args.length ≤ N := by exact of_decide_eq_true rfl) (hE : Env.ofArgs 0 args = E := by simp only [Env.ofArgs]; exact rfl) : Does P f args.toArray w F :=
  Does_enter N hf hb hN hle (hE ▸ h)
theorem VD {C : Ctx} {k : List It} {e : Env} {w : World} {t : Tmp} {p : Prop} {d : Decidable p} {x y : Code} (ht : p → VC C (.code x :: k) e w) (hf : ¬p → VC C (.code y :: k) e w) (hv : e.find? t = some (.bool (decide p)) := by rfl) : VC C (.code (.cond (.tmp t) x y) :: k) e w :=
  VC_cond rfl hv (fun h => ht (of_decide_eq_true h)) fun h => hf (of_decide_eq_false h)
end Go.Eng
set_option linter.unusedSimpArgs false
set_option linter.unusedVariables false
namespace Go.Eng
open Go
theorem VS {P : Program} {fn : Func} {F : Value → World → Prop} {N : Nat} {k k' : List It} {e e' : Env} {w w' : World} (ks : List Nat) {c : Code} {id : Nat} {ops : List Oper} (h : VC ⟨P, fn, F, N⟩ k' e' w')
    (hp : peel c k = .code (.region id ops.toArray false) :: k' := by rfl) (hN : ops.all (dstOk N) = true := by rfl)
    (hY : ∀ K : Env → World → Prop, K e' w' → vcOps P N ops ops e w (selC ks K) := by intro K h; simp only [go_sem,↓reduceIte,Nat.reduceEqDiff]; (repeat refine Qo ?_); exact h) : VC ⟨P, fn, F, N⟩ (.code c :: k) e w :=
  VR ks hp hN fun K hK => hY K (hK _ _ h)
theorem GS {C : CtxG} {k k' : List It} {e e' : Env} {w w' : World} (ks : List Nat) {c : Code} {id : Nat} {ops : List Oper} (h : VG C k' e' w')
    (hp : peel c k = .code (.region id ops.toArray false) :: k' := by rfl) (hN : (ops.all (dstOk C.N) && ops.all noDefer) = true := by kernel_rfl)
    (hY : ∀ K : Env → World → Prop, K e' w' → vcOps C.P C.N ops ops e w (selC ks K) := by intro K h; simp only [go_sem,↓reduceIte,Nat.reduceEqDiff]; (repeat refine Qo ?_); exact h) : VG C (.code c :: k) e w :=
  VG_peel c k (hp ▸ VG_region ks hN fun K hK => hY K (hK _ _ h))
end Go.Eng
namespace Go.Proofs.YtabndnbgpfnhpaaGreatDoor
open Go Go.Eng
set_option maxRecDepth 100000
set_option linter.unusedSimpArgs false
set_option linter.unusedVariables false
abbrev Bs := List UInt8
def wdG : Bs → Bs → List Bs
  | cur, [] => if cur = [] then [] else [cur]
  | cur, b :: s => if b = 32 then (if cur = [] then wdG [] s else cur :: wdG [] s) else wdG (cur ++ [b]) s
def wdS (s : Bs) : List Bs := wdG [] s
theorem wdG_nil (cur : Bs) : wdG cur [] = if cur = [] then [] else [cur] := by rw [wdG]
theorem wdG_blank (cur s : Bs) : wdG cur (32 :: s) = if cur = [] then wdG [] s else cur :: wdG [] s := by rw [wdG, if_pos rfl]
theorem wdG_go {b : UInt8} (cur s : Bs) (h : b ≠ 32) : wdG cur (b :: s) = wdG (cur ++ [b]) s := by rw [wdG, if_neg h]
theorem wdG_app : ∀ (x cur s : Bs), (32 : UInt8) ∉ x → wdG cur (x ++ s) = wdG (cur ++ x) s := by
  intro x
  induction x with
  | nil => intro cur s _; simp
  | cons b x ih =>
    intro cur s h
    simp only [List.mem_cons, not_or] at h
    rw [List.cons_append, wdG_go _ _ (fun e => h.1 e.symm), ih _ _ h.2, List.append_assoc]
    rfl
theorem wdG_ne : ∀ (s cur : Bs), ∀ x ∈ wdG cur s, x ≠ [] := by
  intro s
  induction s with
  | nil =>
    intro cur x hx
    rw [wdG_nil] at hx
    split at hx
    · cases hx
    · rename_i h; rw [List.mem_singleton] at hx; subst hx; exact h
  | cons b s ih =>
    intro cur x hx
    by_cases hb : b = 32
    · subst hb
      rw [wdG_blank] at hx
      split at hx
      · exact ih _ x hx
      · rename_i h
        rcases List.mem_cons.1 hx with rfl | hx
        · exact h
        · exact ih _ x hx
    · rw [wdG_go _ _ hb] at hx
      exact ih _ x hx
theorem wdS_ne (s : Bs) : ∀ x ∈ wdS s, x ≠ [] := wdG_ne s []
theorem wdG_len : ∀ (s cur : Bs), (wdG cur s).length ≤ s.length + (if cur = [] then 0 else 1) := by
  intro s
  induction s with
  | nil => intro cur; rw [wdG_nil]; split <;> simp
  | cons b s ih =>
    intro cur
    by_cases hb : b = 32
    · subst hb
      rw [wdG_blank]
      have := ih []
      rw [if_pos rfl] at this
      split <;> simp <;> omega
    · rw [wdG_go _ _ hb]
      have := ih (cur ++ [b])
      rw [if_neg (by simp)] at this
      simp only [List.length_cons]
      omega
theorem wdS_len (s : Bs) : (wdS s).length ≤ s.length := by
  have := wdG_len s []
  rw [if_pos rfl] at this
  exact this
theorem wdG_mem_len : ∀ (s cur : Bs), ∀ x ∈ wdG cur s, x.length ≤ cur.length + s.length := by
  intro s
  induction s with
  | nil =>
    intro cur x hx
    rw [wdG_nil] at hx
    split at hx
    · cases hx
    · rw [List.mem_singleton] at hx; subst hx; simp
  | cons b s ih =>
    intro cur x hx
    by_cases hb : b = 32
    · subst hb
      rw [wdG_blank] at hx
      split at hx
      · have := ih _ x hx; simp at this ⊢; omega
      · rcases List.mem_cons.1 hx with rfl | hx
        · simp
        · have := ih _ x hx; simp at this ⊢; omega
    · rw [wdG_go _ _ hb] at hx
      have := ih _ x hx
      simp at this ⊢; omega
theorem wdS_head {s : Bs} (h : wdS s ≠ []) : s ≠ [] := fun h0 => by subst h0; exact h rfl
def isBl (r : Nat) : Bool := decide (r = 32)
theorem decode_bl (l : Bs) (hne : l ≠ []) : ((Lib.decodeL l).1 = 32 → ∃ r, l = 32 :: r ∧ (Lib.decodeL l).2 = 1) ∧ ((Lib.decodeL l).1 ≠ 32 → (32 : UInt8) ∉ l.take (Lib.decodeL l).2) := by
  have h0 : (l.getD 0 0).toNat < 256 := (l.getD 0 0).toNat_lt
  have h1 : (l.getD 1 0).toNat < 256 := (l.getD 1 0).toNat_lt
  have h2 : (l.getD 2 0).toNat < 256 := (l.getD 2 0).toNat_lt
  have h3 : (l.getD 3 0).toNat < 256 := (l.getD 3 0).toNat_lt
  have hp : 0 < l.length := List.length_pos_iff.2 hne
  have ne : ∀ x : UInt8, x.toNat ≠ 32 → (32 : UInt8) ≠ x := fun x hx e => hx (by rw [← e]; rfl)
  rw [Lib.decodeL_N]
  rcases Lib.decodeN_shape l.length (l.getD 0 0).toNat (l.getD 1 0).toNat (l.getD 2 0).toNat (l.getD 3 0).toNat with ⟨ha, he⟩ | ⟨ha, hn, hb, hc, he⟩ | ⟨ha, hn, hb, hb2, hc, hd, he⟩ | ⟨ha, hn, hb, hb2, hb3, hc, hd, he⟩ | he
  · rw [he]
    refine ⟨fun h => ?_, fun h => ?_⟩
    · cases l with
      | nil => simp at hne
      | cons b l => simp at h; exact ⟨l, by rw [show b = 32 from UInt8.toNat_inj.1 h], rfl⟩
    · rw [Lib.takeA l hp]; simp only [List.mem_singleton]; exact ne _ h
  · rw [he]
    refine ⟨fun h => by simp only at h; omega, fun h => ?_⟩
    rw [Lib.takeB l hn]; simp only [List.mem_cons, List.not_mem_nil, or_false, not_or]
    exact ⟨ne _ (by omega), ne _ (by omega)⟩
  · rw [he]
    refine ⟨fun h => by simp only at h; omega, fun h => ?_⟩
    rw [Lib.takeC l hn]; simp only [List.mem_cons, List.not_mem_nil, or_false, not_or]
    exact ⟨ne _ (by omega), ne _ (by omega), ne _ (by omega)⟩
  · rw [he]
    refine ⟨fun h => by simp only at h; omega, fun h => ?_⟩
    rw [Lib.takeD l hn]; simp only [List.mem_cons, List.not_mem_nil, or_false, not_or]
    exact ⟨ne _ (by omega), ne _ (by omega), ne _ (by omega), ne _ (by omega)⟩
  · rw [he]
    refine ⟨fun h => by simp only at h; omega, fun h => ?_⟩
    rw [Lib.takeA l hp]; simp only [List.mem_singleton]
    refine ne _ fun hb => ?_
    have e : Lib.decodeN l.length (l.getD 0 0).toNat (l.getD 1 0).toNat (l.getD 2 0).toNat (l.getD 3 0).toNat = ((l.getD 0 0).toNat, 1) := by unfold Lib.decodeN; rw [if_pos (by omega)]
    rw [he, hb] at e
    cases e
theorem words_spans (s : ByteArray) : ∀ (f pos : Nat) (st : Option Nat) (acc : List (Nat × Nat)), s.size ≤ pos + f → pos ≤ s.size → (∀ a, st = some a → a < pos) →
    acc.map (fun p => Lib.pieceU s.data.toList p.1 p.2) ++ wdG (Lib.openPiece s.data.toList st pos) (s.data.toList.drop pos) = (Lib.closeSpans s (Lib.spansFromP isBl s f pos st acc)).map (fun p => Lib.pieceU s.data.toList p.1 p.2) := by
  have fin : ∀ (f pos : Nat) (st : Option Nat) (acc : List (Nat × Nat)), pos = s.size → (∀ a, st = some a → a < pos) →
      acc.map (fun p => Lib.pieceU s.data.toList p.1 p.2) ++ wdG (Lib.openPiece s.data.toList st pos) (s.data.toList.drop pos) = (Lib.closeSpans s (Lib.spansFromP isBl s f pos st acc)).map (fun p => Lib.pieceU s.data.toList p.1 p.2) := by
    intro f pos st acc hp hst
    subst hp
    have hd : s.data.toList.drop s.size = [] := List.drop_eq_nil_of_le (by rw [← Lib.size_eq]; exact Nat.le_refl _)
    rw [hd, wdG_nil, Lib.spansFromP_end isBl s _ _ _ _ (Nat.lt_irrefl _)]
    cases st with
    | none => simp [Lib.closeSpans, Lib.openPiece]
    | some a =>
      have := Lib.pieceU_ne s.data.toList a s.size (hst a rfl) (by rw [← Lib.size_eq]; exact Nat.le_refl _)
      simp [Lib.closeSpans, Lib.openPiece, this]
  intro f
  induction f with
  | zero => intro pos st acc h hp hst; exact fin 0 pos st acc (by omega) hst
  | succ f ih =>
    intro pos st acc h hp hst
    by_cases hlt : pos < s.size
    · have hne : s.data.toList.drop pos ≠ [] := by
        intro h0
        have := congrArg List.length h0
        rw [List.length_drop, ← Lib.size_eq] at this
        simp at this
        omega
      have hw := Lib.width_pos s pos
      have hwn : pos + (Utf8.decode s pos).2 ≤ s.size := by
        have := Lib.decodeN_le_n' (s.size - pos) (s.get! pos).toNat (s.get! (pos + 1)).toNat (s.get! (pos + 2)).toNat (s.get! (pos + 3)).toNat (by omega)
        rw [← Lib.decode_at] at this
        omega
      obtain ⟨q1, q2⟩ := decode_bl _ hne
      rw [Lib.decodeL_drop] at q1 q2
      simp only [Lib.spansFromP, if_pos hlt]
      by_cases hsp : (Utf8.decode s pos).1 = 32
      · obtain ⟨r, hr, hr2⟩ := q1 hsp
        have hr3 : s.data.toList.drop (pos + 1) = r := by rw [← List.drop_drop, hr]; rfl
        rw [hr, wdG_blank, if_pos (show isBl _ = true by rw [isBl, hsp]; rfl), hr2, ← hr3]
        cases st with
        | none =>
          have ih2 := ih (pos + 1) none acc (by omega) (by omega) (fun a h => by cases h)
          simpa [Lib.openPiece] using ih2
        | some a =>
          have hpn := Lib.pieceU_ne s.data.toList a pos (hst a rfl) (by rw [← Lib.size_eq]; omega)
          have ih2 := ih (pos + 1) none (acc ++ [(a, pos)]) (by omega) (by omega) (fun a h => by cases h)
          simpa [Lib.openPiece, hpn] using ih2
      · have hn := q2 hsp
        rw [if_neg (show ¬ isBl _ = true by simp [isBl, hsp])]
        have e0 : s.data.toList.drop pos = (s.data.toList.drop pos).take (Utf8.decode s pos).2 ++ s.data.toList.drop (pos + (Utf8.decode s pos).2) := by rw [← List.drop_drop, List.take_append_drop]
        rw [e0, wdG_app _ _ _ hn]
        cases st with
        | none =>
          have ih2 := ih (pos + (Utf8.decode s pos).2) (some pos) acc (by omega) hwn (fun a h => by cases h; omega)
          have e : ([] : List UInt8) ++ (s.data.toList.drop pos).take (Utf8.decode s pos).2 = Lib.pieceU s.data.toList pos (pos + (Utf8.decode s pos).2) := by
            unfold Lib.pieceU
            rw [List.nil_append, Nat.add_sub_cancel_left]
          simp only [Lib.openPiece] at ih2 ⊢
          rw [e]
          exact ih2
        | some a =>
          have ih2 := ih (pos + (Utf8.decode s pos).2) (some a) acc (by omega) hwn (fun b h => by cases h; have := hst a rfl; omega)
          simp only [Lib.openPiece] at ih2 ⊢
          rw [Lib.pieceU_grow _ _ _ _ (Nat.le_of_lt (hst a rfl))]
          exact ih2
    · exact fin _ _ _ _ (by omega) hst
theorem spans_le (s : ByteArray) : ∀ (f pos : Nat) (st : Option Nat) (acc : List (Nat × Nat)), pos ≤ s.size → (∀ a, st = some a → a ≤ pos) → (∀ x ∈ acc, x.1 ≤ x.2 ∧ x.2 ≤ s.size) → ∀ x ∈ Lib.closeSpans s (Lib.spansFromP isBl s f pos st acc), x.1 ≤ x.2 ∧ x.2 ≤ s.size := by
  have fin : ∀ (pos : Nat) (st : Option Nat) (acc : List (Nat × Nat)), pos ≤ s.size → (∀ a, st = some a → a ≤ pos) → (∀ x ∈ acc, x.1 ≤ x.2 ∧ x.2 ≤ s.size) → ∀ x ∈ Lib.closeSpans s (acc, st), x.1 ≤ x.2 ∧ x.2 ≤ s.size := by
    intro pos st acc hp hst hacc x hx
    cases st with
    | none => exact hacc x hx
    | some a =>
      rcases List.mem_append.1 hx with hx | hx
      · exact hacc x hx
      · rw [List.mem_singleton] at hx; subst hx
        have := hst a rfl
        exact ⟨by simp only; omega, Nat.le_refl _⟩
  intro f
  induction f with
  | zero => intro pos st acc hp hst hacc; exact fin pos st acc hp hst hacc
  | succ f ih =>
    intro pos st acc hp hst hacc
    by_cases hlt : pos < s.size
    · have hw := Lib.width_pos s pos
      have hwn : pos + (Utf8.decode s pos).2 ≤ s.size := by
        have := Lib.decodeN_le_n' (s.size - pos) (s.get! pos).toNat (s.get! (pos + 1)).toNat (s.get! (pos + 2)).toNat (s.get! (pos + 3)).toNat (by omega)
        rw [← Lib.decode_at] at this
        omega
      simp only [Lib.spansFromP, if_pos hlt]
      split
      · cases st with
        | none => exact ih _ _ _ hwn (fun a h => by cases h) hacc
        | some a =>
          refine ih _ _ _ hwn (fun a h => by cases h) fun x hx => ?_
          rcases List.mem_append.1 hx with hx | hx
          · exact hacc x hx
          · rw [List.mem_singleton] at hx; subst hx; exact ⟨hst a rfl, hp⟩
      · cases st with
        | none => exact ih _ _ _ hwn (fun a h => by cases h; omega) hacc
        | some a => exact ih _ _ _ hwn (fun b h => by cases h; have := hst a rfl; omega) hacc
    · rw [Lib.spansFromP_end isBl s _ _ _ _ hlt]
      exact fin pos st acc hp hst hacc
theorem fields_words (l : Bs) : (Lib.goFieldsP isBl ⟨l.toArray⟩).map Value.string = (wdS l).map Str := by
  have h := words_spans ⟨l.toArray⟩ l.length 0 none [] (by show l.toArray.size ≤ _; simp) (Nat.zero_le _) (fun a h => by cases h)
  have hle := spans_le ⟨l.toArray⟩ l.length 0 none [] (Nat.zero_le _) (fun a h => by cases h) (fun x hx => by cases hx)
  have e2 : (⟨l.toArray⟩ : ByteArray).size = l.length := by show l.toArray.size = _; simp
  simp only [List.map_nil, List.nil_append, Lib.openPiece, List.drop_zero] at h
  rw [wdS, h, Lib.goFieldsP, Lib.spansOfP, e2, List.map_map, List.map_map]
  refine List.map_congr_left fun x hx => ?_
  obtain ⟨h1, h2⟩ := hle x hx
  rw [e2] at h2
  have e : (⟨l.toArray⟩ : ByteArray).extract x.1 x.2 = ⟨(Lib.pieceU l x.1 x.2).toArray⟩ := by
    apply ByteArray.ext
    rw [ByteArray.data_extract, ← Array.toList_inj]
    unfold Lib.pieceU
    simp [List.extract_eq_take_drop]
  exact congrArg Value.string e
theorem fields_count (l : Bs) : (Lib.goFieldsP isBl ⟨l.toArray⟩).length = (wdS l).length := by
  have := congrArg List.length (fields_words l)
  simpa using this
def digS (b : UInt8) (base : Nat) : Bool := (decide (48 ≤ b.toNat ∧ b.toNat ≤ 57) && decide (b.toNat - 48 < base)) || (decide (97 ≤ b.toNat ∧ b.toNat ≤ 102) && decide (b.toNat - 87 < base))
def fitsS (s : Bs) (k : UInt8) : Bool :=
  if k = 110 then s.all (digS · 10) && decide (s.length ≤ 7)
  else if k = 98 then decide (s = [45]) || (s.all (digS · 16) && decide (s.length % 2 = 0))
  else if k = 107 then decide (s = [45]) || s.all (digS · 2)
  else true
def formS (w : Bs) : Option Bs :=
  if w = [100, 105, 115, 107] ∨ w = [119, 105, 112, 101] then some [110]
  else if w = [97, 100, 100] then some [112, 98]
  else if w = [116, 101, 120, 116] then some [112, 119]
  else if w = [100, 101, 108] ∨ w = [103, 101, 116] then some [112]
  else if w = [109, 111, 118, 101] then some [112, 110]
  else if w = [102, 97, 108, 108] then some [110, 107]
  else if w = [105, 109, 112, 111, 114, 116] then some [98]
  else if w = [108, 105, 115, 116] ∨ w = [116, 114, 105, 109] ∨ w = [99, 111, 109, 112, 97, 99, 116] ∨ w = [117, 112] ∨ w = [115, 97, 108, 118, 97, 103, 101] ∨ w = [101, 120, 112, 111, 114, 116] ∨ w = [115, 116, 97, 116, 101] then some []
  else none
def fitsL (a : List Bs) (f : Bs) : Bool := (a.zip f).all fun x => fitsS x.1 x.2
def lineS (w : List Bs) : Bool := match w with
  | [] => false
  | c :: a => match formS c with
    | none => false
    | some f => decide (a.length = f.length) && fitsL a f
def parseG : List Bs → Nat → List (List Bs) → (List (List Bs)) ⊕ Nat
  | [], _, out => .inl out
  | s :: l, i, out => if wdS s = [] ∨ s.head? = some 35 then parseG l (i + 1) out else if lineS (wdS s) then parseG l (i + 1) (out ++ [wdS s]) else .inr i
end Go.Proofs.YtabndnbgpfnhpaaGreatDoor
namespace Go.Proofs.YtabndnbgpfnhpaaGreatDoor
open Go Go.Eng
section
variable {w : World} {KV : Value → Prop}
theorem sz3 : Tryz.prog.szo 3 = some 1 := by kernel_rfl
theorem ld3 (a : Addr) : vLoad Tryz.prog 3 (.pointer (some a)) w KV = ∃ v, w.cell? a = some v ∧ KV v := ld_int 3 a .i64 Tryz.underlying3
theorem cv3_77 (k : IntKind) (n : Int) : vConv Tryz.prog 3 77 (.int k n) w KV = vWrap .u32 n KV := cv_int 3 77 _ .u32 k n Tryz.underlying3 Tryz.underlying77
theorem cp3_77 : convPure Tryz.prog 3 77 = true := by kernel_rfl
theorem cv3_79 (k : IntKind) (n : Int) : vConv Tryz.prog 3 79 (.int k n) w KV = vWrap .u64 n KV := cv_int 3 79 _ .u64 k n Tryz.underlying3 Tryz.underlying79
theorem cp3_79 : convPure Tryz.prog 3 79 = true := by kernel_rfl
theorem sz4 : Tryz.prog.szo 4 = some 1 := by kernel_rfl
theorem beql4 (x y : Operand) (a b : Bool) : vBinO Tryz.prog .eql 4 x y (.bool a) (.bool b) w KV = KV (.bool (decide (a = b))) := bb_eql 4 x y a b Tryz.underlying4
theorem bneq4 (x y : Operand) (a b : Bool) : vBinO Tryz.prog .neq 4 x y (.bool a) (.bool b) w KV = KV (.bool (decide (¬ a = b))) := bb_neq 4 x y a b Tryz.underlying4
theorem sz5 : Tryz.prog.szo 5 = some 1 := by kernel_rfl
theorem ld5 (a : Addr) : vLoad Tryz.prog 5 (.pointer (some a)) w KV = ∃ v, w.cell? a = some v ∧ KV v := ld_int 5 a .u8 Tryz.underlying5
theorem cv5_3 (k : IntKind) (n : Int) : vConv Tryz.prog 5 3 (.int k n) w KV = vWrap .i64 n KV := cv_int 5 3 _ .i64 k n Tryz.underlying5 Tryz.underlying3
theorem cp5_3 : convPure Tryz.prog 5 3 = true := by kernel_rfl
theorem cv5_77 (k : IntKind) (n : Int) : vConv Tryz.prog 5 77 (.int k n) w KV = vWrap .u32 n KV := cv_int 5 77 _ .u32 k n Tryz.underlying5 Tryz.underlying77
theorem cp5_77 : convPure Tryz.prog 5 77 = true := by kernel_rfl
theorem cv5_92 (k : IntKind) (n : Int) : vConv Tryz.prog 5 92 (.int k n) w KV = vWrap .u64 n KV := cv_int 5 92 _ .u64 k n Tryz.underlying5 Tryz.underlying92
theorem cp5_92 : convPure Tryz.prog 5 92 = true := by kernel_rfl
theorem sz9 : Tryz.prog.szo 9 = some 1 := by kernel_rfl
theorem ln9 (s : ByteArray) : vLen Tryz.prog 9 (.string s) KV = KV (.int .i64 (toL s).length) := ln_str 9 s Tryz.underlying9
theorem ix9 (s : ByteArray) (k : IntKind) (n : Int) : vIndex Tryz.prog 9 (.string s) (.int k n) KV = ((0 ≤ n ∧ n < (toL s).length) ∧ KV (.int .u8 ((toL s).getD n.toNat 0).toNat)) := ix_str 9 s k n Tryz.underlying9
theorem snn9 (s : ByteArray) : vSlice Tryz.prog 9 (.string s) none none KV = KV (.string s) := ss_nn 9 s Tryz.underlying9
theorem sln9 (s : ByteArray) (k : IntKind) (l : Int) : vSlice Tryz.prog 9 (.string s) (some (.int k l)) none KV = ((0 ≤ l ∧ l ≤ (toL s).length) ∧ KV (Str ((toL s).drop l.toNat))) := ss_ln 9 s k l Tryz.underlying9
theorem snh9 (s : ByteArray) (k : IntKind) (l : Int) : vSlice Tryz.prog 9 (.string s) none (some (.int k l)) KV = ((0 ≤ l ∧ l ≤ (toL s).length) ∧ KV (Str ((toL s).take l.toNat))) := ss_nh 9 s k l Tryz.underlying9
theorem slh9 (s : ByteArray) (k k' : IntKind) (l m : Int) : vSlice Tryz.prog 9 (.string s) (some (.int k l)) (some (.int k' m)) KV = ((0 ≤ l ∧ l ≤ m ∧ m ≤ (toL s).length) ∧ KV (Str (((toL s).drop l.toNat).take (m.toNat - l.toNat)))) := ss_lh 9 s k k' l m Tryz.underlying9
theorem ld9 (a : Addr) : vLoad Tryz.prog 9 (.pointer (some a)) w KV = ∃ v, w.cell? a = some v ∧ KV v := ld_str 9 a Tryz.underlying9
theorem sz21 : Tryz.prog.szo 21 = some 1 := by kernel_rfl
theorem sz23 : Tryz.prog.szo 23 = some 1 := by kernel_rfl
theorem ln23 (a : Option Addr) (n c : Nat) : vLen Tryz.prog 23 (.slice a n c) KV = KV (.int .i64 n) := ln_sl 23 32 a n c Tryz.underlying23
theorem ia23 (a : Addr) (n c : Nat) (k : IntKind) (i : Int) : vIndexAddr Tryz.prog 23 (.slice (some a) n c) (.int k i) KV = ((0 ≤ i ∧ i < n) ∧ KV (.pointer (some (a.add (i.toNat * 2))))) := ia_sl 23 32 a n c 2 k i Tryz.underlying23 (by kernel_rfl)
theorem sz24 : Tryz.prog.szo 24 = some 1 := by kernel_rfl
theorem sz27 : Tryz.prog.szo 27 = some 1 := by kernel_rfl
theorem ln27 (a : Option Addr) (n c : Nat) : vLen Tryz.prog 27 (.slice a n c) KV = KV (.int .i64 n) := ln_sl 27 33 a n c Tryz.underlying27
theorem ia27 (a : Addr) (n c : Nat) (k : IntKind) (i : Int) : vIndexAddr Tryz.prog 27 (.slice (some a) n c) (.int k i) KV = ((0 ≤ i ∧ i < n) ∧ KV (.pointer (some (a.add (i.toNat * 2))))) := ia_sl 27 33 a n c 2 k i Tryz.underlying27 (by kernel_rfl)
theorem sz30 : Tryz.prog.szo 30 = some 1 := by kernel_rfl
theorem ln30 (a : Option Addr) (n c : Nat) : vLen Tryz.prog 30 (.slice a n c) KV = KV (.int .i64 n) := ln_sl 30 9 a n c Tryz.underlying30
theorem snn30 (a : Option Addr) (n c : Nat) : vSlice Tryz.prog 30 (.slice a n c) none none KV = (n ≤ c ∧ KV (.slice a n c)) := sl_nn 30 9 a n c 1 Tryz.underlying30 (by kernel_rfl)
theorem sln30 (a : Option Addr) (n c : Nat) (k : IntKind) (l : Int) : vSlice Tryz.prog 30 (.slice a n c) (some (.int k l)) none KV = ((0 ≤ l ∧ l ≤ n ∧ n ≤ c) ∧ KV (.slice (if c = l.toNat then a else a.map (·.add (l.toNat * 1))) (n - l.toNat) (c - l.toNat))) := sl_ln 30 9 a n c 1 k l Tryz.underlying30 (by kernel_rfl)
theorem snh30 (a : Option Addr) (n c : Nat) (k : IntKind) (l : Int) : vSlice Tryz.prog 30 (.slice a n c) none (some (.int k l)) KV = ((0 ≤ l ∧ l ≤ c) ∧ KV (.slice a l.toNat c)) := sl_nh 30 9 a n c 1 k l Tryz.underlying30 (by kernel_rfl)
theorem slh30 (a : Option Addr) (n c : Nat) (k k' : IntKind) (l m : Int) : vSlice Tryz.prog 30 (.slice a n c) (some (.int k l)) (some (.int k' m)) KV = ((0 ≤ l ∧ l ≤ m ∧ m ≤ c) ∧ KV (.slice (if c = l.toNat then a else a.map (·.add (l.toNat * 1))) (m.toNat - l.toNat) (c - l.toNat))) := sl_lh 30 9 a n c 1 k k' l m Tryz.underlying30 (by kernel_rfl)
theorem ia30 (a : Addr) (n c : Nat) (k : IntKind) (i : Int) : vIndexAddr Tryz.prog 30 (.slice (some a) n c) (.int k i) KV = ((0 ≤ i ∧ i < n) ∧ KV (.pointer (some (a.add (i.toNat * 1))))) := ia_sl 30 9 a n c 1 k i Tryz.underlying30 (by kernel_rfl)
theorem ld30 (a : Addr) : vLoad Tryz.prog 30 (.pointer (some a)) w KV = ∃ v, w.cell? a = some v ∧ KV v := ld_sl 30 9 a Tryz.underlying30
theorem sz32 : Tryz.prog.szo 32 = some 2 := by kernel_rfl
theorem bd32 (s0 : ByteArray) (a1 : Option Addr) (n1 c1 : Nat) : vBuild Tryz.prog 32 [(0, .string s0), (1, .slice a1 n1 c1)] KV = KV (.agg #[.string s0, .slice a1 n1 c1]) := bd_of (by kernel_rfl)
theorem bz32 : vBuild Tryz.prog 32 [] KV = KV (.agg #[.string ⟨#[]⟩, .slice none 0 0]) := bd_of (by kernel_rfl)
theorem fd32_0 (l : List Value) : vField Tryz.prog 32 (.agg l.toArray) 0 KV = vNth l 0 KV := fd_cell 32 0 l Tryz.underlying32 rfl (by kernel_rfl) (by kernel_rfl) (by kernel_rfl)
theorem fa32_0 (a : Addr) : vFieldAddr Tryz.prog 32 (.pointer (some a)) 0 KV = KV (.pointer (some (a.add 0))) := fa_st 32 0 a (m := 0) Tryz.underlying32 rfl (by kernel_rfl)
theorem fd32_1 (l : List Value) : vField Tryz.prog 32 (.agg l.toArray) 1 KV = vNth l 1 KV := fd_cell 32 1 l Tryz.underlying32 rfl (by kernel_rfl) (by kernel_rfl) (by kernel_rfl)
theorem fa32_1 (a : Addr) : vFieldAddr Tryz.prog 32 (.pointer (some a)) 1 KV = KV (.pointer (some (a.add 1))) := fa_st 32 1 a (m := 0) Tryz.underlying32 rfl (by kernel_rfl)
theorem sz33 : Tryz.prog.szo 33 = some 2 := by kernel_rfl
theorem bd33 (s0 : ByteArray) (a1 : Option Addr) (n1 c1 : Nat) : vBuild Tryz.prog 33 [(0, .string s0), (1, .slice a1 n1 c1)] KV = KV (.agg #[.string s0, .slice a1 n1 c1]) := bd_of (by kernel_rfl)
theorem bz33 : vBuild Tryz.prog 33 [] KV = KV (.agg #[.string ⟨#[]⟩, .slice none 0 0]) := bd_of (by kernel_rfl)
theorem fd33_0 (l : List Value) : vField Tryz.prog 33 (.agg l.toArray) 0 KV = vNth l 0 KV := fd_cell 33 0 l Tryz.underlying33 rfl (by kernel_rfl) (by kernel_rfl) (by kernel_rfl)
theorem fa33_0 (a : Addr) : vFieldAddr Tryz.prog 33 (.pointer (some a)) 0 KV = KV (.pointer (some (a.add 0))) := fa_st 33 0 a (m := 0) Tryz.underlying33 rfl (by kernel_rfl)
theorem fd33_1 (l : List Value) : vField Tryz.prog 33 (.agg l.toArray) 1 KV = vNth l 1 KV := fd_cell 33 1 l Tryz.underlying33 rfl (by kernel_rfl) (by kernel_rfl) (by kernel_rfl)
theorem fa33_1 (a : Addr) : vFieldAddr Tryz.prog 33 (.pointer (some a)) 1 KV = KV (.pointer (some (a.add 1))) := fa_st 33 1 a (m := 0) Tryz.underlying33 rfl (by kernel_rfl)
theorem sz40 : Tryz.prog.szo 40 = some 1 := by kernel_rfl
theorem sz52 : Tryz.prog.szo 52 = some 1 := by kernel_rfl
theorem ia52 (a : Addr) (n c : Nat) (k : IntKind) (i : Int) : vIndexAddr Tryz.prog 52 (.slice (some a) n c) (.int k i) KV = ((0 ≤ i ∧ i < n) ∧ KV (.pointer (some (a.add (i.toNat * 1))))) := ia_sl 52 5 a n c 1 k i Tryz.underlying52 (by kernel_rfl)
theorem ld52 (a : Addr) : vLoad Tryz.prog 52 (.pointer (some a)) w KV = ∃ v, w.cell? a = some v ∧ KV v := ld_sl 52 5 a Tryz.underlying52
theorem cv52_9 (a : Option Addr) (n c : Nat) : vConv Tryz.prog 52 9 (.slice a n c) w KV = ∃ l, ReadsBytes w a n l ∧ KV (Str l) := cv_str 52 9 5 a n c Tryz.underlying52 Tryz.underlying9 Tryz.underlying5
theorem cp52_9 : convPure Tryz.prog 52 9 = true := by kernel_rfl
theorem sz77 : Tryz.prog.szo 77 = some 1 := by kernel_rfl
theorem ld77 (a : Addr) : vLoad Tryz.prog 77 (.pointer (some a)) w KV = ∃ v, w.cell? a = some v ∧ KV v := ld_int 77 a .u32 Tryz.underlying77
theorem cv77_5 (k : IntKind) (n : Int) : vConv Tryz.prog 77 5 (.int k n) w KV = vWrap .u8 n KV := cv_int 77 5 _ .u8 k n Tryz.underlying77 Tryz.underlying5
theorem cp77_5 : convPure Tryz.prog 77 5 = true := by kernel_rfl
theorem sz79 : Tryz.prog.szo 79 = some 1 := by kernel_rfl
theorem sz92 : Tryz.prog.szo 92 = some 1 := by kernel_rfl
theorem cv92_3 (k : IntKind) (n : Int) : vConv Tryz.prog 92 3 (.int k n) w KV = vWrap .i64 n KV := cv_int 92 3 _ .i64 k n Tryz.underlying92 Tryz.underlying3
theorem cp92_3 : convPure Tryz.prog 92 3 = true := by kernel_rfl
theorem cv92_77 (k : IntKind) (n : Int) : vConv Tryz.prog 92 77 (.int k n) w KV = vWrap .u32 n KV := cv_int 92 77 _ .u32 k n Tryz.underlying92 Tryz.underlying77
theorem cp92_77 : convPure Tryz.prog 92 77 = true := by kernel_rfl
theorem sz133 : Tryz.prog.szo 133 = some 256 := by kernel_rfl
theorem ld133 (a : Addr) : vLoad Tryz.prog 133 (.pointer (some a)) w KV = ∃ cs : List Value, (cs.length = 256 ∧ Reads w a cs) ∧ KV (.agg cs.toArray) := ld_ar 133 256 256 77 a Tryz.underlying133 (by kernel_rfl)
theorem ixa133 (l : List Value) (k : IntKind) (i : Int) : vIndex Tryz.prog 133 (.agg l.toArray) (.int k i) KV = ((0 ≤ i ∧ i < ((256 : Nat) : Int)) ∧ vNth l i.toNat KV) := ix_agg 133 l k i Tryz.underlying133 (by kernel_rfl) (by kernel_rfl) (by kernel_rfl)
theorem ia133 (a : Addr) (k : IntKind) (i : Int) : vIndexAddr Tryz.prog 133 (.pointer (some a)) (.int k i) KV = ((0 ≤ i ∧ i < ((256 : Nat) : Int)) ∧ KV (.pointer (some (a.add (i.toNat * 1))))) := ia_ar 133 77 a 256 1 k i Tryz.underlying133 (by kernel_rfl)
theorem sz251 : Tryz.prog.szo 251 = some 2 := by kernel_rfl
theorem ld251 (a : Addr) : vLoad Tryz.prog 251 (.pointer (some a)) w KV = ∃ cs : List Value, (cs.length = 2 ∧ Reads w a cs) ∧ KV (.agg cs.toArray) := ld_st 251 2 a _ Tryz.underlying251 (by kernel_rfl)
theorem bd251 (s0 : ByteArray) (n1 : Int) : vBuild Tryz.prog 251 [(0, .string s0), (1, .int .i64 n1)] KV = KV (.agg #[.string s0, .int .i64 n1]) := bd_of (by kernel_rfl)
theorem bz251 : vBuild Tryz.prog 251 [] KV = KV (.agg #[.string ⟨#[]⟩, .int .i64 0]) := bd_of (by kernel_rfl)
theorem fd251_0 (l : List Value) : vField Tryz.prog 251 (.agg l.toArray) 0 KV = vNth l 0 KV := fd_cell 251 0 l Tryz.underlying251 rfl (by kernel_rfl) (by kernel_rfl) (by kernel_rfl)
theorem fa251_0 (a : Addr) : vFieldAddr Tryz.prog 251 (.pointer (some a)) 0 KV = KV (.pointer (some (a.add 0))) := fa_st 251 0 a (m := 0) Tryz.underlying251 rfl (by kernel_rfl)
theorem fd251_1 (l : List Value) : vField Tryz.prog 251 (.agg l.toArray) 1 KV = vNth l 1 KV := fd_cell 251 1 l Tryz.underlying251 rfl (by kernel_rfl) (by kernel_rfl) (by kernel_rfl)
theorem fa251_1 (a : Addr) : vFieldAddr Tryz.prog 251 (.pointer (some a)) 1 KV = KV (.pointer (some (a.add 1))) := fa_st 251 1 a (m := 0) Tryz.underlying251 rfl (by kernel_rfl)
theorem sz252 : Tryz.prog.szo 252 = some 1 := by kernel_rfl
theorem ln252 (a : Option Addr) (n c : Nat) : vLen Tryz.prog 252 (.slice a n c) KV = KV (.int .i64 n) := ln_sl 252 251 a n c Tryz.underlying252
theorem ia252 (a : Addr) (n c : Nat) (k : IntKind) (i : Int) : vIndexAddr Tryz.prog 252 (.slice (some a) n c) (.int k i) KV = ((0 ≤ i ∧ i < n) ∧ KV (.pointer (some (a.add (i.toNat * 2))))) := ia_sl 252 251 a n c 2 k i Tryz.underlying252 (by kernel_rfl)
theorem sz258 : Tryz.prog.szo 258 = some 1 := by kernel_rfl
theorem pe258 (a : Option Addr) (xo yo : Operand) : vBinO Tryz.prog .eql 258 xo yo (.pointer a) (.pointer none) w KV = KV (.bool a.isNone) := be_ptr Tryz.underlying258 a xo yo
theorem pn258 (a : Option Addr) (xo yo : Operand) : vBinO Tryz.prog .neq 258 xo yo (.pointer a) (.pointer none) w KV = KV (.bool !a.isNone) := bn_ptr Tryz.underlying258 a xo yo
theorem sz298 : Tryz.prog.szo 298 = some 1 := by kernel_rfl
theorem pe298 (a : Option Addr) (xo yo : Operand) : vBinO Tryz.prog .eql 298 xo yo (.pointer a) (.pointer none) w KV = KV (.bool a.isNone) := be_ptr Tryz.underlying298 a xo yo
theorem pn298 (a : Option Addr) (xo yo : Operand) : vBinO Tryz.prog .neq 298 xo yo (.pointer a) (.pointer none) w KV = KV (.bool !a.isNone) := bn_ptr Tryz.underlying298 a xo yo
theorem ld298 (a : Addr) : vLoad Tryz.prog 298 (.pointer (some a)) w KV = ∃ v, w.cell? a = some v ∧ KV v := ld_ptr 298 354 a Tryz.underlying298
theorem sz332 : Tryz.prog.szo 332 = some 2 := by kernel_rfl
theorem bd332 (a0 : Option Addr) (n0 c0 : Nat) (n1 : Int) : vBuild Tryz.prog 332 [(0, .slice a0 n0 c0), (1, .int .i64 n1)] KV = KV (.agg #[.slice a0 n0 c0, .int .i64 n1]) := bd_of (by kernel_rfl)
theorem bz332 : vBuild Tryz.prog 332 [] KV = KV (.agg #[.slice none 0 0, .int .i64 0]) := bd_of (by kernel_rfl)
theorem fd332_0 (l : List Value) : vField Tryz.prog 332 (.agg l.toArray) 0 KV = vNth l 0 KV := fd_cell 332 0 l Tryz.underlying332 rfl (by kernel_rfl) (by kernel_rfl) (by kernel_rfl)
theorem fa332_0 (a : Addr) : vFieldAddr Tryz.prog 332 (.pointer (some a)) 0 KV = KV (.pointer (some (a.add 0))) := fa_st 332 0 a (m := 0) Tryz.underlying332 rfl (by kernel_rfl)
theorem fd332_1 (l : List Value) : vField Tryz.prog 332 (.agg l.toArray) 1 KV = vNth l 1 KV := fd_cell 332 1 l Tryz.underlying332 rfl (by kernel_rfl) (by kernel_rfl) (by kernel_rfl)
theorem fa332_1 (a : Addr) : vFieldAddr Tryz.prog 332 (.pointer (some a)) 1 KV = KV (.pointer (some (a.add 1))) := fa_st 332 1 a (m := 0) Tryz.underlying332 rfl (by kernel_rfl)
theorem sz352 : Tryz.prog.szo 352 = some 1 := by kernel_rfl
theorem ldf352 (a : Addr) : vLoad Tryz.prog 352 (.pointer (some a)) w KV = ∃ v, w.cell? a = some v ∧ KV v := ld_fn 352 _ _ _ a Tryz.underlying352
theorem fe352 (f : Fn) (x y : Array Value) (xo yo : Operand) : vBinO Tryz.prog .eql 352 xo yo (.func f x y) .nilFunc w KV = KV (.bool false) := be_fun Tryz.underlying352 f x y xo yo
theorem sz354 : Tryz.prog.szo 354 = some 3 := by kernel_rfl
theorem bd354 (f0 : Fn) (x0 y0 : Array Value) (n1 : Int) (n2 : Int) : vBuild Tryz.prog 354 [(0, .func f0 x0 y0), (1, .int .i64 n1), (2, .int .i64 n2)] KV = KV (.agg #[.func f0 x0 y0, .int .i64 n1, .int .i64 n2]) := bd_of (by kernel_rfl)
theorem bz354 : vBuild Tryz.prog 354 [] KV = KV (.agg #[.nilFunc, .int .i64 0, .int .i64 0]) := bd_of (by kernel_rfl)
theorem fd354_0 (l : List Value) : vField Tryz.prog 354 (.agg l.toArray) 0 KV = vNth l 0 KV := fd_cell 354 0 l Tryz.underlying354 rfl (by kernel_rfl) (by kernel_rfl) (by kernel_rfl)
theorem fa354_0 (a : Addr) : vFieldAddr Tryz.prog 354 (.pointer (some a)) 0 KV = KV (.pointer (some (a.add 0))) := fa_st 354 0 a (m := 0) Tryz.underlying354 rfl (by kernel_rfl)
theorem fd354_1 (l : List Value) : vField Tryz.prog 354 (.agg l.toArray) 1 KV = vNth l 1 KV := fd_cell 354 1 l Tryz.underlying354 rfl (by kernel_rfl) (by kernel_rfl) (by kernel_rfl)
theorem fa354_1 (a : Addr) : vFieldAddr Tryz.prog 354 (.pointer (some a)) 1 KV = KV (.pointer (some (a.add 1))) := fa_st 354 1 a (m := 0) Tryz.underlying354 rfl (by kernel_rfl)
theorem fd354_2 (l : List Value) : vField Tryz.prog 354 (.agg l.toArray) 2 KV = vNth l 2 KV := fd_cell 354 2 l Tryz.underlying354 rfl (by kernel_rfl) (by kernel_rfl) (by kernel_rfl)
theorem fa354_2 (a : Addr) : vFieldAddr Tryz.prog 354 (.pointer (some a)) 2 KV = KV (.pointer (some (a.add 2))) := fa_st 354 2 a (m := 0) Tryz.underlying354 rfl (by kernel_rfl)
theorem sz356 : Tryz.prog.szo 356 = some 1 := by kernel_rfl
theorem bd356 (n0 : Int) : vBuild Tryz.prog 356 [(0, .int .i64 n0)] KV = KV (.agg #[.int .i64 n0]) := bd_of (by kernel_rfl)
theorem bz356 : vBuild Tryz.prog 356 [] KV = KV (.agg #[.int .i64 0]) := bd_of (by kernel_rfl)
end
attribute [go_sem ↓] ld3 cv3_77 cv3_79 beql4 bneq4 ld5 cv5_3 cv5_77 cv5_92 ln9 ix9 snn9 sln9 snh9 slh9 ld9 ln23 ia23 ln27 ia27 ln30 snn30 sln30 snh30 slh30 ia30 ld30 bd32 bz32 fd32_0 fa32_0 fd32_1 fa32_1 bd33 bz33 fd33_0 fa33_0 fd33_1 fa33_1 ia52 ld52 cv52_9 ld77 cv77_5 cv92_3 cv92_77 ld133 ixa133 ia133 ld251 bd251 bz251 fd251_0 fa251_0 fd251_1 fa251_1 ln252 ia252 pe258 pn258 pe298 pn298 ld298 bd332 bz332 fd332_0 fa332_0 fd332_1 fa332_1 ldf352 fe352 bd354 bz354 fd354_0 fa354_0 fd354_1 fa354_1 fd354_2 fa354_2 bd356 bz356
attribute [go_sem] sz3 cp3_77 cp3_79 sz4 sz5 cp5_3 cp5_77 cp5_92 sz9 sz21 sz23 sz24 sz27 sz30 sz32 sz33 sz40 sz52 cp52_9 sz77 cp77_5 sz79 sz92 cp92_3 cp92_77 sz133 sz251 sz252 sz258 sz298 sz332 sz352 sz354 sz356
theorem zi9 : (Tryz.prog.info? 9).map (fun i => (i.zero.map Value.cells, i.size, i.bytes)) = some (some #[.string ⟨#[]⟩], 1, 16) := by kernel_rfl
theorem zi5 : (Tryz.prog.info? 5).map (fun i => (i.zero.map Value.cells, i.size, i.bytes)) = some (some #[.int .u8 0], 1, 1) := by kernel_rfl
theorem zi4 : (Tryz.prog.info? 4).map (fun i => (i.zero.map Value.cells, i.size, i.bytes)) = some (some #[.bool false], 1, 1) := by kernel_rfl
theorem zi77 : (Tryz.prog.info? 77).map (fun i => (i.zero.map Value.cells, i.size, i.bytes)) = some (some #[.int .u32 0], 1, 4) := by kernel_rfl
theorem zi164 : (Tryz.prog.info? 164).map (fun i => (i.zero.map Value.cells, i.size, i.bytes)) = some (some #[.slice none 0 0], 1, 24) := by kernel_rfl
theorem zi304 : (Tryz.prog.info? 304).map (fun i => (i.zero.map Value.cells, i.size, i.bytes)) = some (some #[.slice none 0 0], 1, 24) := by kernel_rfl
theorem zi3 : (Tryz.prog.info? 3).map (fun i => (i.zero.map Value.cells, i.size, i.bytes)) = some (some #[.int .i64 0], 1, 8) := by kernel_rfl
end Go.Proofs.YtabndnbgpfnhpaaGreatDoor
namespace Go.Proofs.YtabndnbgpfnhpaaGreatDoor
open Go Go.Eng
set_option maxRecDepth 100000
set_option linter.unusedSimpArgs false
set_option linter.unusedVariables false
theorem addr_add_add (p : Addr) (k j : Nat) : (p.add k).add j = p.add (k + j) := by
  unfold Addr.add
  by_cases h1 : k = 0 <;> by_cases h2 : j = 0 <;> simp_all <;> omega
theorem ex_hit {w : World} {a : Addr} {u : Value} {K : Value → Prop} (h : w.cell? a = some u) : (∃ v, w.cell? a = some v ∧ K v) = K u := by
  apply propext
  constructor
  · rintro ⟨v, hv, hk⟩
    rw [h] at hv
    cases hv
    exact hk
  · exact fun hk => ⟨u, h, hk⟩
theorem ex_reads {w : World} {a : Addr} {us : List Value} {n : Nat} {K : Value → Prop} (h : Reads w a us) (hn : us.length = n) : (∃ cs : List Value, (cs.length = n ∧ Reads w a cs) ∧ K (.agg cs.toArray)) = K (.agg us.toArray) := by
  apply propext
  constructor
  · rintro ⟨cs, ⟨hl, hr⟩, hk⟩
    have : cs = us := by
      apply List.ext_getElem
      · omega
      · intro i h1 h2
        have e1 := hr i _ (List.getElem?_eq_getElem h1)
        have e2 := h i _ (List.getElem?_eq_getElem h2)
        rw [e1] at e2
        exact Option.some.inj e2
    rw [← this]
    exact hk
  · exact fun hk => ⟨us, ⟨hn, h⟩, hk⟩
theorem MemK_callD {P : Program} {N : Nat} {d : Option Tmp} {ty : Nat} {pos : String} {af : Array Edge} {gd : Option (Nat × Bool)} {e : Env} {w : World} {R : Env → World → (Env → World → Prop) → Prop} {K : Env → World → Prop}
    {f : FuncId} {ao : Array Operand} {ts : Array TypeId} {vs : List Value} {F : Value → World → Prop} (hf : ∀ args w, (callFunc f args).run P w = .ok (.enter f args) w)
    (hD : Does P f vs.toArray w F) (ha : argL e ao.toList fun us => us = vs) (hC : ∀ v w', F v w' → R (e.put d v) w' K) :
    MemK P N ⟨d, .call { callee := .value (.func f), args := ao, argTypes := ts }, ty, pos, af, gd⟩ e w R K :=
  MemK_call hf (argL_mono' _ _ _ ha fun us _ h => h ▸ CallK.mk hD hC)
theorem gB_ntt {A B : Prop} : gB (!true) true A B = B := by simp [gB]
theorem gB_ntf {A B : Prop} : gB (!true) false A B = A := by simp [gB]
theorem gB_nft {A B : Prop} : gB (!false) true A B = A := by simp [gB]
theorem gB_nff {A B : Prop} : gB (!false) false A B = B := by simp [gB]
attribute [go_sem ↓] gB_ntt gB_ntf gB_nft gB_nff
theorem add_nought (p : Addr) : p.add 0 = p := by unfold Addr.add; simp
theorem take_snoc {α : Type} {l : List α} {i : Nat} {x : α} (h : l[i]? = some x) : l.take (i + 1) = l.take i ++ [x] := by
  rw [List.take_add_one, h]; rfl
def strsV (l : List (List UInt8)) : List Value := l.map Str
theorem strsV_len (l : List (List UInt8)) : (strsV l).length = l.length * 1 := by simp [strsV]
theorem strsV_one (l : List (List UInt8)) : ∀ v ∈ strsV l, v.oneCell' = true := by
  intro v hv
  obtain ⟨s, _, rfl⟩ := List.mem_map.1 hv
  rfl
theorem strsV_get {l : List (List UInt8)} {i : Nat} {s : List UInt8} (h : l[i]? = some s) : (strsV l)[i]? = some (Str s) := by simp [strsV, h]
theorem strsV_append (l m : List (List UInt8)) : strsV (l ++ m) = strsV l ++ strsV m := by simp [strsV]
@[simp] theorem strsV_length (l : List (List UInt8)) : (strsV l).length = l.length := by simp [strsV]
theorem strsV_set (l : List (List UInt8)) (i : Nat) (x : List UInt8) (h : i < l.length) : (strsV l).take i ++ [Str x] ++ (strsV l).drop (i + 1) = strsV (l.set i x) := by
  rw [List.set_eq_take_append_cons_drop, if_pos h]
  simp [strsV, List.map_take, List.map_drop]
theorem StoreK_rowD {P : Program} {w : World} {w0 : World} {B : List Nat} {G : List Res} (hH : Heap w0 B w G) (i : Nat) {o n cap sz : Nat} {ad ap : Addr} {T T' : TypeId} {xs vs : List Value} {v : Value} {C : World → Prop} (hi : G[i]? = some (Res.row T' sz (some ad) n cap xs)) (hp : ap = ad.add o) (hv : v.cells = vs.toArray) (hsz : P.szo T = some vs.length) (hl : o + vs.length ≤ xs.length) (h1 : ∀ u ∈ vs, u.oneCell' = true)
    (h : ∀ w', Heap w0 B w' (G.set i (Res.row T' sz (some ad) n cap (xs.take o ++ vs ++ xs.drop (o + vs.length)))) → w'.drawn = w.drawn → C w') : StoreK P T (.pointer (some ap)) v w C := by
  obtain ⟨h2, h3, h4, h5⟩ := hH.at i hi
  rcases h5 with h5 | ⟨g, rest, fz, hg0, hg, hl2, hfz⟩
  · cases h5.1
  · cases hg0
    subst hp
    have hlt : g < w.heap.size := (Array.getElem?_eq_some_iff.1 hg).1
    have hadd : (⟨g, 0, none⟩ : Addr).add o = ⟨g, o, none⟩ := by unfold Addr.add; split <;> simp_all
    rw [hadd]
    have hlen : o + vs.length ≤ (xs ++ rest).length := by simp; omega
    refine ⟨_, run_storeVar_blk hv hsz hg (by rw [hl2]; exact hfz) hlen h1, h _ (hH.set i hi (putBlk_upd _ _ _ _ _) ?_ ?_) rfl⟩
    · refine ⟨by simp; omega, h3, h4, .inr ⟨g, rest, fz, rfl, ?_, by simp at hl2 ⊢; omega, hfz⟩⟩
      rw [putBlk_at hlt]
      congr 3
      rw [List.take_append_of_le_length (by omega), List.drop_append_of_le_length (by omega)]
      simp
    · intro b hb
      exact ⟨.inl hb, by rw [putBlk_size]; simp [Res.row] at hb; omega⟩
theorem grown_of {w w' : World} (h : Heap w [] w' []) (hd : w'.drawn = w.drawn) : ∃ o, w' = Go.Sort.grow w o := by
  obtain ⟨⟨h1, h2, h3, h4, h5⟩, _⟩ := h
  refine ⟨w'.heap.extract w.heap.size w'.heap.size, ?_⟩
  have hh : w'.heap = w.heap ++ w'.heap.extract w.heap.size w'.heap.size := by
    apply Array.ext_getElem?
    intro k
    by_cases hk : k < w.heap.size
    · rw [Array.getElem?_append_left hk, h5 k hk (by simp)]
    · rw [Array.getElem?_append_right (by omega), Array.getElem?_extract]
      split
      · congr 1; omega
      · rw [Array.getElem?_eq_none (by omega)]
  obtain ⟨a, b, c, d, e⟩ := w
  obtain ⟨a', b', c', d', e'⟩ := w'
  simp only at h1 h2 h3 hd hh
  subst h1 h2 h3 hd
  unfold Go.Sort.grow
  congr 1
theorem strsV_rep (n : Nat) : List.replicate n (Value.string ⟨#[]⟩) = strsV (List.replicate n []) := by
  simp [strsV]
theorem does_same {P : Program} {f : FuncId} {args : Array Value} {w : World} {v : Value} (h : ∀ w, Calls P f args w fun e w' => e = .returned v ∧ w' = w) : Does P f args w fun u w' => w' = w ∧ u = v :=
  fun n => (h (w.drewN n)).mono fun e w' ⟨he, hw⟩ => ⟨v, w, n, he, hw, rfl, rfl⟩
end Go.Proofs.YtabndnbgpfnhpaaGreatDoor
namespace Go.Proofs.YtabndnbgpfnhpaaGreatDoor
open Go.Shelf
def laysIndex_ren : Go.Shelf.Ren := ⟨fun | 143 => 45 | 219 => 93 | 217 => 144 | 225 => 145 | 224 => 146 | 267 => 147 | 266 => 207 | 314 => 208 | n => n, fun | 9 => 9 | 3 => 3 | 4 => 4 | 5 => 5 | 46 => 79 | 146 => 271 | 51 => 77 | n => n, fun | 1 => 0 | n => n⟩
theorem laysIndex : Go.Proofs.Lays.n143 Tryz.prog laysIndex_ren := {
  mixed := by kernel_rfl
  f143 := Tryz.func45.trans (congrArg some (by kernel_rfl))
  f217 := Tryz.func144.trans (congrArg some (by kernel_rfl))
  f219 := Tryz.func93.trans (congrArg some (by kernel_rfl))
  f224 := Tryz.func146.trans (congrArg some (by kernel_rfl))
  f225 := Tryz.func145.trans (congrArg some (by kernel_rfl))
  f266 := Tryz.func207.trans (congrArg some (by kernel_rfl))
  f267 := Tryz.func147.trans (congrArg some (by kernel_rfl))
  f314 := Tryz.func208.trans (congrArg some (by kernel_rfl))
  t3 := Tryz.underlying3
  a3 := Tryz.isAgg3
  z3 := Tryz.sizeOf3
  v3 := Tryz.zeroValue3
  t4 := Tryz.underlying4
  a4 := Tryz.isAgg4
  z4 := Tryz.sizeOf4
  v4 := Tryz.zeroValue4
  t5 := Tryz.underlying5
  a5 := Tryz.isAgg5
  z5 := Tryz.sizeOf5
  v5 := Tryz.zeroValue5
  t9 := Tryz.underlying9
  a9 := Tryz.isAgg9
  z9 := Tryz.sizeOf9
  v9 := Tryz.zeroValue9
  t46 := Tryz.underlying79
  a46 := Tryz.isAgg79
  z46 := Tryz.sizeOf79
  v46 := Tryz.zeroValue79
  t51 := Tryz.underlying77
  a51 := Tryz.isAgg77
  z51 := Tryz.sizeOf77
  v51 := Tryz.zeroValue77
  t146 := Tryz.underlying271
  a146 := Tryz.isAgg271
  z146 := Tryz.sizeOf271
  v146 := Tryz.zeroValue271
  g1 := by kernel_rfl }
def laysCount_ren : Go.Shelf.Ren := ⟨fun | 138 => 44 | 195 => 90 | 218 => 92 | 143 => 45 | 219 => 93 | 217 => 144 | 225 => 145 | 224 => 146 | 267 => 147 | 266 => 207 | 314 => 208 | n => n, fun | 9 => 9 | 3 => 3 | 4 => 4 | 5 => 5 | 0 => 0 | 46 => 79 | 146 => 271 | 51 => 77 | n => n, fun | 1 => 0 | n => n⟩
theorem laysCount : Go.Proofs.Lays.n138 Tryz.prog laysCount_ren := {
  mixed := by kernel_rfl
  f138 := Tryz.func44.trans (congrArg some (by kernel_rfl))
  f143 := Tryz.func45.trans (congrArg some (by kernel_rfl))
  f195 := Tryz.func90.trans (congrArg some (by kernel_rfl))
  f217 := Tryz.func144.trans (congrArg some (by kernel_rfl))
  f218 := Tryz.func92.trans (congrArg some (by kernel_rfl))
  f219 := Tryz.func93.trans (congrArg some (by kernel_rfl))
  f224 := Tryz.func146.trans (congrArg some (by kernel_rfl))
  f225 := Tryz.func145.trans (congrArg some (by kernel_rfl))
  f266 := Tryz.func207.trans (congrArg some (by kernel_rfl))
  f267 := Tryz.func147.trans (congrArg some (by kernel_rfl))
  f314 := Tryz.func208.trans (congrArg some (by kernel_rfl))
  t0 := Tryz.underlying0
  a0 := Tryz.isAgg0
  z0 := Tryz.sizeOf0
  v0 := Tryz.zeroValue0
  t3 := Tryz.underlying3
  a3 := Tryz.isAgg3
  z3 := Tryz.sizeOf3
  v3 := Tryz.zeroValue3
  t4 := Tryz.underlying4
  a4 := Tryz.isAgg4
  z4 := Tryz.sizeOf4
  v4 := Tryz.zeroValue4
  t5 := Tryz.underlying5
  a5 := Tryz.isAgg5
  z5 := Tryz.sizeOf5
  v5 := Tryz.zeroValue5
  t9 := Tryz.underlying9
  a9 := Tryz.isAgg9
  z9 := Tryz.sizeOf9
  v9 := Tryz.zeroValue9
  t46 := Tryz.underlying79
  a46 := Tryz.isAgg79
  z46 := Tryz.sizeOf79
  v46 := Tryz.zeroValue79
  t51 := Tryz.underlying77
  a51 := Tryz.isAgg77
  z51 := Tryz.sizeOf77
  v51 := Tryz.zeroValue77
  t146 := Tryz.underlying271
  a146 := Tryz.isAgg271
  z146 := Tryz.sizeOf271
  v146 := Tryz.zeroValue271
  g1 := by kernel_rfl }
end Go.Proofs.YtabndnbgpfnhpaaGreatDoor
namespace Go.Proofs.YtabndnbgpfnhpaaGreatDoor
open Go Go.Eng
set_option maxRecDepth 100000
set_option linter.unusedSimpArgs false
set_option linter.unusedVariables false
def cutL : List UInt8 → List UInt8 × List (List UInt8)
  | [] => ([], [])
  | b :: s => if b = 10 then ([], (cutL s).1 :: (cutL s).2) else (b :: (cutL s).1, (cutL s).2)
def lnS (s : List UInt8) : List (List UInt8) := (cutL s).1 :: (cutL s).2
def jnL (l : List (List UInt8)) : List UInt8 := Lib.join l [10]
theorem cutL_cut {a : List UInt8} (r : List UInt8) (h : (10 : UInt8) ∉ a) : cutL (a ++ 10 :: r) = (a, lnS r) := by
  induction a with
  | nil => simp [cutL, lnS]
  | cons b a ih =>
    simp only [List.mem_cons, not_or] at h
    rw [List.cons_append, cutL, if_neg (fun e => h.1 e.symm), ih h.2]
theorem cutL_end {a : List UInt8} (h : (10 : UInt8) ∉ a) : cutL a = (a, []) := by
  induction a with
  | nil => rfl
  | cons b a ih =>
    simp only [List.mem_cons, not_or] at h
    rw [cutL, if_neg (fun e => h.1 e.symm), ih h.2]
theorem lnS_cut {a : List UInt8} (r : List UInt8) (h : (10 : UInt8) ∉ a) : lnS (a ++ 10 :: r) = a :: lnS r := by
  rw [lnS, cutL_cut r h]
theorem lnS_end {a : List UInt8} (h : (10 : UInt8) ∉ a) : lnS a = [a] := by
  rw [lnS, cutL_end h]
theorem ln_cases (s : List UInt8) : (10 : UInt8) ∉ s ∨ ∃ a r, s = a ++ 10 :: r ∧ (10 : UInt8) ∉ a := by
  induction s with
  | nil => exact .inl (by simp)
  | cons b s ih =>
    by_cases hb : b = 10
    · exact .inr ⟨[], s, by simp [hb], by simp⟩
    · rcases ih with h | ⟨a, r, rfl, h⟩
      · exact .inl (by simp only [List.mem_cons, not_or]; exact ⟨fun e => hb e.symm, h⟩)
      · exact .inr ⟨b :: a, r, rfl, by simp only [List.mem_cons, not_or]; exact ⟨fun e => hb e.symm, h⟩⟩
theorem ln_ind {P : List UInt8 → Prop} (h1 : ∀ a, (10 : UInt8) ∉ a → P a) (h2 : ∀ a r, (10 : UInt8) ∉ a → P r → P (a ++ 10 :: r)) : ∀ s, P s := by
  intro s
  generalize hn : s.length = n
  induction n using Nat.strongRecOn generalizing s with
  | ind n ih =>
    rcases ln_cases s with h | ⟨a, r, rfl, h⟩
    · exact h1 s h
    · exact h2 a r h (ih r.length (by simp at hn; omega) r rfl)
theorem lnS_ne (s : List UInt8) : lnS s ≠ [] := by simp [lnS]
theorem lnS_no : ∀ s, ∀ x ∈ lnS s, (10 : UInt8) ∉ x := by
  refine ln_ind (fun a h => ?_) (fun a r h ih => ?_)
  · rw [lnS_end h]; simpa using h
  · rw [lnS_cut r h]
    intro x hx
    rcases List.mem_cons.1 hx with rfl | hx
    · exact h
    · exact ih x hx
theorem jnL_cons (x y : List UInt8) (l : List (List UInt8)) : jnL (x :: y :: l) = x ++ 10 :: jnL (y :: l) := by
  simp only [jnL]
  rw [Lib.join_cons, Lib.join_cons]
  simp [Lib.joinTail]
theorem jnL_one (x : List UInt8) : jnL [x] = x := Lib.join_one x _
theorem jnL_nil : jnL [] = [] := rfl
theorem jnL_split : ∀ s, jnL (lnS s) = s := by
  refine ln_ind (fun a h => ?_) (fun a r h ih => ?_)
  · rw [lnS_end h, jnL_one]
  · rw [lnS_cut r h]
    have e : lnS r = (cutL r).1 :: (cutL r).2 := rfl
    rw [e, jnL_cons, ← e, ih]
theorem lnS_join : ∀ l : List (List UInt8), l ≠ [] → (∀ x ∈ l, (10 : UInt8) ∉ x) → lnS (jnL l) = l := by
  intro l
  induction l with
  | nil => simp
  | cons x l ih =>
    intro _ h
    cases l with
    | nil => rw [jnL_one, lnS_end (h x (by simp))]
    | cons y l =>
      rw [jnL_cons, lnS_cut _ (h x (by simp)), ih (by simp) fun z hz => h z (List.mem_cons_of_mem _ hz)]
theorem lnS_inj {a b : List UInt8} (h : lnS a = lnS b) : a = b := by
  rw [← jnL_split a, h, jnL_split]
theorem lnS_app (a r : List UInt8) : lnS (a ++ 10 :: r) = lnS a ++ lnS r := by
  revert a
  refine ln_ind (fun a h => ?_) (fun a q h ih => ?_)
  · rw [lnS_cut r h, lnS_end h]; rfl
  · rw [List.append_assoc, List.cons_append, lnS_cut _ h, lnS_cut _ h, ih]; rfl
theorem jnL_app {l m : List (List UInt8)} (hl : l ≠ []) (hm : m ≠ []) : jnL (l ++ m) = jnL l ++ 10 :: jnL m := by
  induction l with
  | nil => simp at hl
  | cons x l ih =>
    cases l with
    | nil =>
      cases m with
      | nil => simp at hm
      | cons y m => rw [List.singleton_append, jnL_cons, jnL_one]
    | cons y l => rw [List.cons_append, List.cons_append, jnL_cons, ← List.cons_append, ih (by simp), jnL_cons, List.append_assoc]; rfl
theorem jnL_len (l : List (List UInt8)) (h : l ≠ []) : (jnL l).length + 1 = (l.map fun x => x.length + 1).sum := by
  induction l with
  | nil => simp at h
  | cons x l ih =>
    cases l with
    | nil => simp [jnL_one]
    | cons y l =>
      rw [jnL_cons, List.map_cons, List.sum_cons, ← ih (by simp)]
      simp; omega
theorem lnS_count : ∀ s : List UInt8, (lnS s).length = s.count 10 + 1 := by
  refine ln_ind (fun a h => ?_) (fun a r h ih => ?_)
  · rw [lnS_end h, List.count_eq_zero_of_not_mem h]; rfl
  · rw [lnS_cut r h, List.length_cons, ih, List.count_append, List.count_eq_zero_of_not_mem h, List.count_cons_self]; omega
theorem lnS_len (s : List UInt8) : (lnS s).length ≤ s.length + 1 := by
  rw [lnS_count]
  have := List.count_le_length (a := (10 : UInt8)) (l := s)
  omega
theorem lnS_mem_len : ∀ s : List UInt8, ∀ x ∈ lnS s, x.length ≤ s.length := by
  refine ln_ind (fun a h x hx => ?_) (fun a r h ih x hx => ?_)
  · rw [lnS_end h] at hx; simp at hx; rw [hx]; exact Nat.le_refl _
  · rw [lnS_cut r h] at hx
    rcases List.mem_cons.1 hx with rfl | hx
    · simp
    · have := ih x hx; simp; omega
theorem indexNl_cut {a : List UInt8} (r : List UInt8) (h : (10 : UInt8) ∉ a) : Lib.indexByte (a ++ 10 :: r) 10 = a.length := by
  induction a with
  | nil => simp [Lib.indexByte]
  | cons b a ih =>
    simp only [List.mem_cons, not_or] at h
    have hb : (b == 10) = false := by simpa using fun e => h.1 (Eq.symm e)
    rw [List.cons_append, Lib.indexByte, if_neg (by simp [hb]), ih h.2, if_neg (by simp)]
    simp
theorem indexNl_none {a : List UInt8} (h : (10 : UInt8) ∉ a) : Lib.indexByte a 10 = -1 := by
  induction a with
  | nil => rfl
  | cons b a ih =>
    simp only [List.mem_cons, not_or] at h
    have hb : (b == 10) = false := by simpa using fun e => h.1 (Eq.symm e)
    rw [Lib.indexByte, if_neg (by simp [hb]), ih h.2]; rfl
abbrev nlV : Value := Str [10]
theorem indexNl_does (s : List UInt8) (w : World) : Does Tryz.prog 45 #[Str s, nlV] w fun v w' => w' = w ∧ v = .int .i64 (Lib.indexByte s 10) :=
  does_same fun w => Go.Proofs.Any.strings_Index_one laysIndex ⟨s.toArray⟩ 10 w
theorem countNl_does (s : List UInt8) (w : World) : Does Tryz.prog 44 #[Str s, nlV] w fun v w' => w' = w ∧ v = .int .i64 (s.count 10 : Nat) :=
  does_same fun w => Go.Proofs.Any.strings_Count_one laysCount ⟨s.toArray⟩ 10 w
theorem genSplit_does (s : List UInt8) (w : World) (hs : s.length ≤ 1000000000) : Does Tryz.prog 21 #[Str s, nlV, .int .i64 0, .int .i64 (-1)] w fun v w' =>
    ∃ g, v = .slice (some ⟨g, 0, none⟩) (lnS s).length (lnS s).length ∧ Heap w [] w' [Res.row 9 1 (some ⟨g, 0, none⟩) (lnS s).length (lnS s).length (strsV (lnS s))] ∧ w'.drawn = w.drawn := by
  have hcnt := lnS_count s
  have hlen := lnS_len s
  refine En [Str s, nlV, .int .i64 0, .int .i64 (-1)] 66 Tryz.func21 ?_
  refine VS [0, 1, 2, 3] ?_
  refine VS [0, 1, 2, 3, 13] ?_
  refine VC_cond rfl rfl (fun h => by simp at h) (fun h => VC_skip ?_)
  refine VS [0, 1, 2, 3, 15] ?_
  refine VC_cond rfl rfl (fun h => by simp at h) (fun h => VC_skip ?_)
  refine VS [0, 1, 2, 3, 20] ?_
  refine VC_cond rfl rfl (fun h => ?_) (fun h => by simp at h)
  clear h
  refine VQ [0, 1, 2, 3] fun K hK => ?_
  refine MemK_call Tryz.call44 ?_; refine Qs ?_; refine CallK.mk (countNl_does s w) ?_
  rintro v w2 ⟨rfl, rfl⟩
  (try refine Qs ?_)
  refine And.intro (I64.mk (by omega) (by omega)) ?_
  apply hK; clear hK
  generalize hn : (lnS s).length = n at *
  have hn0 : 0 < n := by omega
  rw [show (((s.count 10 : Nat) : Int) + 1) = (n : Int) by omega]
  refine VQ [0, 1, 2, 3] fun K hK => ?_
  refine And.intro (I64.mk (by omega) (by omega)) ?_
  rw [show min (n : Int) ((s.length : Int) + 1) = (n : Int) by omega]
  apply hK; clear hK
  refine VQ [0, 1, 2, 3, 9] fun K hK => ?_
  refine MemK_make Tryz.underlying30 zi9 ?_
  refine Qs ?_
  refine ⟨n, n, ⟨rfl, rfl, by omega, by omega, by omega⟩, ?_⟩
  have hD : (w2.alloc (Obj.cells (List.replicate n (Value.string ⟨#[]⟩)).toArray 9)).drawn = w2.drawn := rfl
  have hH := (Heap.start w2).row 9 (sz := 1) (n := n) (cap := n) (strsV (List.replicate n [])) [] (by simp [strsV]) (by simp [strsV]) (by omega) (by omega)
  rw [strsV_rep] at hD ⊢
  rw [List.append_nil] at hH
  generalize w2.alloc (Obj.cells (strsV (List.replicate n [])).toArray 9) = w3 at *
  generalize w2.heap.size = g at *
  (try refine Qs ?_)
  apply hK; clear hK
  refine VQ [0, 1, 2, 3, 9] fun K hK => ?_
  refine And.intro (I64.mk (by omega) (by omega)) ?_
  apply hK; clear hK
  refine VS [0, 1, 2, 3, 9, 10] ?_
  (repeat refine VC_seq ?_)
  refine VC_cut [0, 9, 10] (fun e w' => ∃ (dn : List (List UInt8)) (r : List UInt8), lnS s = dn ++ [r] ∧ Is e [(0, Str r), (9, .slice (some ⟨g, 0, none⟩) n n), (10, .int .i64 dn.length)] ∧ Heap w2 [] w' [Res.row 9 1 (some ⟨g, 0, none⟩) n n (strsV (dn ++ List.replicate (n - dn.length) []))] ∧ w'.drawn = w2.drawn) ?_ ?_
  · refine VC_block ?_
    refine VC_loopS [0, 1, 2, 3, 9, 10] (fun m e w' => ∃ (dn : List (List UInt8)) (r : List UInt8), lnS s = dn ++ lnS r ∧ Is e [(0, Str r), (1, nlV), (2, .int .i64 0), (3, .int .i64 ((n : Int) - 1)), (9, .slice (some ⟨g, 0, none⟩) n n), (10, .int .i64 dn.length)] ∧ Heap w2 [] w' [Res.row 9 1 (some ⟨g, 0, none⟩) n n (strsV (dn ++ List.replicate (n - dn.length) []))] ∧ w'.drawn = w2.drawn ∧ m = n - dn.length) n ?_ ?_
    · refine Qs ?_
      exact ⟨[], s, rfl, rfl, by simpa using hH, hD, rfl⟩
    clear hH hD
    rintro m e w4 ⟨dn, r, hsp, rfl, hH, hD, rfl⟩
    have hdl : n = dn.length + (lnS r).length := by rw [← hn, hsp, List.length_append]
    have hrl : r.length ≤ s.length := by
      have h1 := jnL_split s
      rw [hsp] at h1
      rw [← h1]
      cases dn with
      | nil => rw [List.nil_append, jnL_split]; exact Nat.le_refl _
      | cons x dn => rw [jnL_app (by simp) (lnS_ne r), jnL_split]; simp; omega
    refine VS [0, 1, 2, 3, 9, 10, 36] ?_
    refine VD (fun h => ?_) (fun h => ?_)
    ·
      refine VC_skip ?_
      refine VB ?_
      refine VQ [0, 1, 2, 3, 9, 10, 11] fun K hK => ?_
      refine MemK_call Tryz.call45 ?_; refine Qs ?_; refine CallK.mk (indexNl_does r w4) ?_
      rintro v w5 ⟨rfl, rfl⟩
      (try refine Qs ?_)
      apply hK; clear hK
      rcases ln_cases r with hc | ⟨a, q, rfl, hc⟩
      · exfalso
        rw [lnS_end hc] at hdl
        simp at hdl
        omega
      rw [lnS_cut q hc] at hsp hdl
      rw [indexNl_cut q hc]
      simp only [List.length_append, List.length_cons] at hrl hdl
      refine VS [0, 1, 2, 3, 9, 10, 11, 41] ?_
      refine VC_cond rfl rfl (fun h2 => by simp at h2; omega) (fun h2 => VC_skip ?_)
      clear h2
      refine VQ [0, 1, 2, 3, 9, 10, 11] fun K hK => ?_
      simp only [List.length_append, List.length_cons, List.length_nil]
      (repeat first | refine Qo ?_ | refine Qp ?_)
      (try refine Qs ?_)
      (repeat first | refine Qo ?_ | refine Qp ?_)
      (try refine Qs ?_)
      have hset : (strsV (dn ++ List.replicate (n - dn.length) [])).take dn.length ++ [Str a] ++ (strsV (dn ++ List.replicate (n - dn.length) [])).drop (dn.length + 1) = strsV ((dn ++ [a]) ++ List.replicate (n - (dn ++ [a]).length) []) := by
        rw [strsV_set _ _ _ (by simp; omega)]
        congr 1
        rw [List.set_append, if_neg (Nat.lt_irrefl _), Nat.sub_self, List.append_assoc]
        congr 1
        rw [show n - dn.length = (n - (dn ++ [a]).length) + 1 by simp; omega, List.replicate_succ]
        rfl
      rw [Nat.add_zero, List.take_left' rfl]
      refine MemK_store ?_
      refine Qs ?_
      refine StoreK_rowD hH 0 (o := dn.length) (vs := [Str a]) rfl (by simp [add_mk]) rfl (by kernel_rfl) (by simp; omega) (by simp [Value.oneCell']) fun w6 hH2 hD2 => ?_
      rw [hD] at hD2
      (try refine Qs ?_)
      simp only [List.length_singleton, List.set_cons_zero] at hH2
      rw [hset] at hH2
      apply hK; clear hK
      refine VQ [0, 1, 2, 3, 9, 10] fun K hK => ?_
      simp only [List.length_append, List.length_cons, List.length_nil]
      (repeat first | refine Qo ?_ | refine Qp ?_)
      (try refine Qs ?_)
      (repeat first | refine Qo ?_ | refine Qp ?_)
      apply hK; clear hK
      refine VS [0, 1, 2, 3, 9, 10] ?_
      refine VC_blk ?_
      refine VC_again ?_
      refine Qs ?_
      refine ⟨n - (dn ++ [a]).length, by simp; omega, dn ++ [a], q, by rw [hsp]; simp, ?_, hH2, hD2, rfl⟩
      rw [show a ++ 10 :: q = (a ++ [10]) ++ q by simp, List.drop_left' (by simp), show ((dn.length : Int) + 1) = ((dn ++ [a]).length : Nat) by simp]
      rfl
    ·
      have h1 : (lnS r).length = 1 := by
        have : 0 < (lnS r).length := List.length_pos_iff.2 (lnS_ne r)
        omega
      refine VC_exit rfl ?_
      refine VC_again ?_
      rcases ln_cases r with hc | ⟨a, q, rfl, hc⟩
      · rw [lnS_end hc] at hsp
        exact ⟨dn, r, hsp, rfl, hH, hD⟩
      · exfalso
        rw [lnS_cut q hc] at h1
        simp at h1
        exact lnS_ne q h1
  rintro e w4 ⟨dn, r, hsp, rfl, hH, hD⟩
  have hdl : n = dn.length + 1 := by rw [← hn, hsp]; simp
  refine VQ [9, 10] fun K hK => ?_
  (repeat first | refine Qo ?_ | refine Qp ?_)
  (try refine Qs ?_)
  have hset : (strsV (dn ++ List.replicate (n - dn.length) [])).take dn.length ++ [Str r] ++ (strsV (dn ++ List.replicate (n - dn.length) [])).drop (dn.length + 1) = strsV (lnS s) := by
    rw [strsV_set _ _ _ (by simp; omega)]
    congr 1
    rw [List.set_append, if_neg (Nat.lt_irrefl _), Nat.sub_self, hsp]
    congr 1
    rw [show n - dn.length = 0 + 1 by omega]
    rfl
  refine MemK_store ?_
  refine Qs ?_
  refine StoreK_rowD hH 0 (o := dn.length) (vs := [Str r]) rfl (by simp [add_mk]) rfl (by kernel_rfl) (by simp; omega) (by simp [Value.oneCell']) fun w6 hH2 hD2 => ?_
  rw [hD] at hD2
  (try refine Qs ?_)
  simp only [List.length_singleton, List.set_cons_zero] at hH2
  rw [hset] at hH2
  apply hK; clear hK
  refine VQ [8] fun K hK => ?_
  (repeat first | refine Qo ?_ | refine Qp ?_)
  (try refine Qs ?_)
  (repeat first | refine Qo ?_ | refine Qp ?_)
  apply hK; clear hK
  refine VC_ret (VX_ret1 rfl rfl ⟨g, ?_, hH2, hD2⟩)
  show Value.slice _ (dn.length + 1) n = _
  rw [← hdl]
abbrev strRow (a : Option Addr) (l : List (List UInt8)) (c : Nat) : Res := Res.row 9 1 a l.length c (strsV l)
theorem splitNl_does (s : List UInt8) (w : World) (hs : s.length ≤ 1000000000) : Does Tryz.prog 9 #[Str s, nlV] w fun v w' =>
    ∃ g, v = .slice (some ⟨g, 0, none⟩) (lnS s).length (lnS s).length ∧ Heap w [] w' [strRow (some ⟨g, 0, none⟩) (lnS s) (lnS s).length] ∧ w'.drawn = w.drawn := by
  refine En [Str s, nlV] 8 Tryz.func9 ?_
  refine VS [0, 1] ?_
  refine VQ [4] fun K hK => ?_
  refine MemK_call Tryz.call21 ?_; refine Qs ?_; refine CallK.mk (genSplit_does s w hs) ?_
  rintro v w2 ⟨g, rfl, hH, hD⟩
  (try refine Qs ?_)
  apply hK; clear hK
  exact VC_ret (VX_ret1 rfl rfl ⟨g, rfl, hH, hD⟩)
end Go.Proofs.YtabndnbgpfnhpaaGreatDoor
namespace Go.Proofs.YtabndnbgpfnhpaaGreatDoor
open Go Go.Eng
set_option maxRecDepth 100000
set_option maxHeartbeats 1000000
set_option linter.unusedSimpArgs false
set_option linter.unusedVariables false
abbrev Parts := List (List UInt8)
theorem not_mem_snoc {l : List UInt8} {i f : Nat} (hf : f ≤ i) (hi : i < l.length) (h : (10 : UInt8) ∉ (l.drop f).take (i - f)) (hb : l.getD i 0 ≠ 10) : (10 : UInt8) ∉ (l.drop f).take (i + 1 - f) := by
  have h1 : (l.drop f)[i - f]? = some (l.getD i 0) := by
    rw [List.getElem?_drop, show f + (i - f) = i by omega, List.getD_eq_getElem?_getD, List.getElem?_eq_getElem hi]; rfl
  rw [show i + 1 - f = (i - f) + 1 by omega, take_snoc h1, List.mem_append]
  simp only [List.mem_singleton, not_or]
  exact ⟨h, fun e => hb e.symm⟩
theorem ln_at {l : List UInt8} {i f : Nat} (hf : f ≤ i) (hi : i < l.length) (h : (10 : UInt8) ∉ (l.drop f).take (i - f)) (hb : l.getD i 0 = 10) : lnS (l.drop f) = (l.drop f).take (i - f) :: lnS (l.drop (i + 1)) := by
  have h1 : l.drop f = (l.drop f).take (i - f) ++ 10 :: l.drop (i + 1) := by
    conv => lhs; rw [← List.take_append_drop (i - f) (l.drop f)]
    congr 1
    rw [List.drop_drop, show f + (i - f) = i by omega, List.drop_eq_getElem_cons hi]
    congr 1
    rw [← hb, List.getD_eq_getElem?_getD, List.getElem?_eq_getElem hi]; rfl
  conv => lhs; rw [h1]
  exact lnS_cut _ h
theorem ln_last {l : List UInt8} {f : Nat} (hf : f ≤ l.length) (h : (10 : UInt8) ∉ (l.drop f).take (l.length - f)) : lnS (l.drop f) = [(l.drop f).take (l.length - f)] := by
  have h1 : (l.drop f).take (l.length - f) = l.drop f := List.take_of_length_le (by simp)
  rw [h1] at h ⊢
  exact lnS_end h
theorem i10 (b : UInt8) : ((b.toNat : Int) = 10) ↔ b = 10 := by
  constructor
  · intro h; have e : (10 : UInt8).toNat = 10 := rfl; exact UInt8.toNat_inj.1 (by omega)
  · rintro rfl; rfl
theorem part_at {l : List UInt8} {i f : Nat} (hf : f ≤ i) (hi : i < l.length) : (l.drop f).take (i + 1 - f) = (l.drop f).take (i - f) ++ [l.getD i 0] := by
  have h1 : (l.drop f)[i - f]? = some (l.getD i 0) := by
    rw [List.getElem?_drop, show f + (i - f) = i by omega, List.getD_eq_getElem?_getD, List.getElem?_eq_getElem hi]; rfl
  rw [show i + 1 - f = (i - f) + 1 by omega, take_snoc h1]
theorem rlines_does (s : List UInt8) (w : World) (hs : s.length ≤ 1000000000) : Does Tryz.prog 14 #[Str s] w fun v w' =>
    ∃ a c, v = .slice a (lnS s).length c ∧ Heap w [] w' [strRow a (lnS s) c] := by
  refine En [Str s] 37 Tryz.func14 ?_
  refine VS [0] ?_
  refine VQ [0, 3] fun K hK => ?_
  refine MemK_lits (Heap.start w) [Str []] (xs := [.const (Str [])]) Tryz.underlying30 sz9 rfl rfl rfl (by omega) ?_
  refine Qs ?_
  refine ⟨trivial, by simp [Value.cells], fun g w2 hH => ?_⟩
  (try refine Qs ?_)
  apply hK; clear hK
  refine VS [0, 3, 4] ?_
  refine VC_block ?_
  refine VC_loopS [0, 3, 4] (fun m e w' => ∃ (i f : Nat) (dn : Parts) (a : Option Addr) (c : Nat), Is e [(0, Str s), (3, .slice a (dn ++ [(s.drop f).take (i - f)]).length c), (4, .int .i64 i)] ∧ Heap w [] w' [strRow a (dn ++ [(s.drop f).take (i - f)]) c] ∧ f ≤ i ∧ i ≤ s.length ∧ dn.length ≤ i ∧ (10 : UInt8) ∉ (s.drop f).take (i - f) ∧ dn ++ lnS (s.drop f) = lnS s ∧ m = s.length - i) s.length ?_ ?_
  · refine Qs ?_
    exact ⟨0, 0, [], some ⟨g, 0, none⟩, 1, rfl, hH, by omega, by omega, by simp, by simp, rfl, rfl⟩
  clear hH
  rintro m e w3 ⟨i, f, dn, a, c, rfl, hH, hf, hi, hdl, hno, hsp, rfl⟩
  refine VS [0, 3, 4, 9] ?_
  refine VD (fun h => ?_) (fun h => ?_)
  ·
    have hi2 : i < s.length := by omega
    refine VC_skip ?_
    refine VB ?_
    refine VQ [0, 3, 4, 15] fun K hK => ?_
    refine Qo ?_
    apply hK; clear hK
    refine VC_cond rfl rfl (fun h2 => ?_) (fun h2 => ?_)
    · simp only [decide_eq_true_eq, i10] at h2
      rw [ln_at hf hi2 hno h2] at hsp
      generalize (s.drop f).take (i - f) = cur at *
      refine VQ [0, 3, 4] fun K hK => ?_
      refine MemK_lits hH [Str []] (xs := [.const (Str [])]) Tryz.underlying30 sz9 rfl rfl rfl (by omega) ?_
      refine Qs ?_
      refine ⟨trivial, by simp [Value.cells], fun g w4 hH2 => ?_⟩
      (try refine Qs ?_)
      refine MemK_append ?_
      refine Qs ?_
      refine AppK_row (zs := #[.string ⟨#[]⟩]) (bytes := 16) hH2 1 rfl Tryz.underlying30 (by kernel_rfl) rfl (m := 1) (news := strsV [[]]) ⟨rfl, row_rs (hH2.at 0 rfl), 9, Tryz.underlying30⟩ (strsV_one _) (fun h => by simp; omega) fun a' cap' w5 hc' hH3 => ?_
      simp only [List.set_cons_succ, List.set_cons_zero] at hH3
      rw [← strsV_append] at hH3
      (try refine Qs ?_)
      apply hK; clear hK
      refine VC_blk ?_
      refine VS [0, 3, 4] ?_
      refine VC_again ?_
      refine Qs ?_
      refine ⟨s.length - (i + 1), by omega, i + 1, i + 1, dn ++ [cur], a', cap', ?_, ?_, by omega, by omega, by simp; omega, by simp, ?_, rfl⟩
      · rw [Nat.sub_self, List.take_zero, show (dn ++ [cur] ++ [([] : List UInt8)]).length = (dn ++ [cur]).length + 1 by simp]; rfl
      · rw [Nat.sub_self, List.take_zero]
        have := hH3.sub (.cons _ (.refl _))
        rw [show (dn ++ [cur]).length + 1 = (dn ++ [cur] ++ [[]]).length by simp] at this
        exact this
      · rw [List.append_assoc]; exact hsp
    · simp only [decide_eq_false_iff_not, i10] at h2
      have hno2 := not_mem_snoc hf hi2 hno h2
      have hcur := part_at hf hi2
      generalize hcu : (s.drop f).take (i - f) = cur at *
      obtain ⟨g, rfl⟩ : ∃ g, a = some ⟨g, 0, none⟩ := by
        obtain ⟨_, _, _, h4 | ⟨g, _, _, h4, _⟩⟩ := hH.at 0 rfl
        · have := h4.2.1; simp at this
        · exact ⟨g, h4⟩
      have hlen : (dn ++ [cur]).length = dn.length + 1 := by simp
      have hcl : cur.length ≤ s.length := by rw [← hcu]; simp; omega
      have c1 : w3.cell? ⟨g, dn.length, none⟩ = some (Str cur) := row_cell (hH.at 0 rfl) (strsV_get (by simp))
      refine VL [0, 3, 4] 17 fun K hK => ?_
      simp only [hlen]
      rw [show dn.length + 1 - 1 = dn.length by omega]
      (repeat first | refine Qo ?_ | refine Qp ?_)
      refine ⟨_, c1, ?_⟩
      (try refine Qs ?_)
      (repeat first | refine Qo ?_ | refine Qp ?_)
      (try refine Qs ?_)
      have h1b : (s.drop i).take (i + 1 - i) = [s.getD i 0] := by
        rw [show i + 1 - i = 1 by omega, List.drop_eq_getElem_cons hi2, List.getD_eq_getElem?_getD, List.getElem?_eq_getElem hi2]; rfl
      rw [h1b, ← hcur]
      refine And.intro (by simp; omega) (And.intro (And.intro (by omega) (by omega)) ?_)
      have hset : (strsV (dn ++ [cur])).take dn.length ++ [Str ((s.drop f).take (i + 1 - f))] ++ (strsV (dn ++ [cur])).drop (dn.length + 1) = strsV (dn ++ [(s.drop f).take (i + 1 - f)]) := by
        rw [strsV_set _ _ _ (by simp)]
        congr 1
        rw [List.set_append, if_neg (Nat.lt_irrefl _), Nat.sub_self]; rfl
      refine MemK_store ?_; refine Qs ?_; refine StoreK_row hH 0 (o := (dn.length)) (vs := [Str ((s.drop f).take (i + 1 - f))]) rfl (by first | exact (add_mk _ _ _).symm | rfl | simp [add_mk]) rfl (by kernel_rfl) (by first | omega | (simp; done) | (simp; omega) | (simp [bytesV, intsV]; omega) | (rw [natsV_len]; simp; omega)) (by simp [Value.oneCell']) fun w6 hH2 => ?_; (try refine Qs ?_)
      simp only [List.length_singleton, List.set_cons_zero] at hH2
      rw [hset] at hH2
      apply hK; clear hK
      refine VC_blk ?_
      refine VS [0, 3, 4] ?_
      refine VC_again ?_
      refine Qs ?_
      refine ⟨s.length - (i + 1), by omega, i + 1, f, dn, some ⟨g, 0, none⟩, c, ?_, ?_, by omega, by omega, by omega, hno2, hsp, rfl⟩
      · simp [Is]
      · rw [show (dn ++ [cur]).length = (dn ++ [(s.drop f).take (i + 1 - f)]).length by simp] at hH2
        exact hH2
  ·
    obtain rfl : i = s.length := by omega
    rw [ln_last hf hno] at hsp
    rw [hsp] at hH ⊢
    refine VC_exit rfl ?_
    refine VS [2] ?_
    exact VC_ret (VX_ret1 rfl rfl ⟨a, c, rfl, hH⟩)
end Go.Proofs.YtabndnbgpfnhpaaGreatDoor
namespace Go.Proofs.YtabndnbgpfnhpaaGreatDoor
open Go Go.Eng
set_option maxRecDepth 100000
set_option maxHeartbeats 1000000
set_option linter.unusedSimpArgs false
set_option linter.unusedVariables false
def outL (dn : Parts) (cur : Bs) : Parts := if cur = [] then dn else dn ++ [cur]
theorem i32b (b : UInt8) : ((b.toNat : Int) = 32) ↔ b = 32 := by
  constructor
  · intro h; have e : (32 : UInt8).toNat = 32 := rfl; exact UInt8.toNat_inj.1 (by omega)
  · rintro rfl; rfl
theorem rwords_does (s : List UInt8) (w : World) (hs : s.length ≤ 1000000000) : Does Tryz.prog 15 #[Str s] w fun v w' =>
    ∃ a c, v = .slice a (wdS s).length c ∧ Heap w [] w' [strRow a (wdS s) c] := by
  refine En [Str s] 45 Tryz.func15 ?_
  refine VS [0] ?_
  refine VS [0, 3] ?_
  refine VS [0, 3, 4] ?_
  refine VC_block ?_
  refine VC_loopS [0, 3, 4] (fun m e w' => ∃ (i : Nat) (dn : Parts) (cur : Bs) (a : Option Addr) (c : Nat), Is e [(0, Str s), (3, .slice a (outL dn cur).length c), (4, .int .i64 i)] ∧ Heap w [] w' [strRow a (outL dn cur) c] ∧ i ≤ s.length ∧ (outL dn cur).length ≤ i ∧ cur.length ≤ i ∧ dn ++ wdG cur (s.drop i) = wdS s ∧ (cur = [] ↔ i = 0 ∨ s.getD (i - 1) 0 = 32) ∧ m = s.length - i) s.length ?_ ?_
  · refine Qs ?_
    exact ⟨0, [], [], none, 0, rfl, (Heap.start w).nilRow 9 1, by omega, by simp [outL], by simp, rfl, by simp, rfl⟩
  rintro m e w3 ⟨i, dn, cur, a, c, rfl, hH, hi, hol, hcl, hsp, hcur, rfl⟩
  refine VS [0, 3, 4, 8] ?_
  refine VD (fun h => ?_) (fun h => ?_)
  ·
    have hi2 : i < s.length := by omega
    have hdr : s.drop i = s.getD i 0 :: s.drop (i + 1) := by
      rw [List.drop_eq_getElem_cons hi2, List.getD_eq_getElem?_getD, List.getElem?_eq_getElem hi2]; rfl
    rw [hdr] at hsp
    refine VC_skip ?_
    refine VB ?_
    refine VQ [0, 3, 4, 14] fun K hK => ?_
    refine Qo ?_
    apply hK; clear hK
    refine VC_cond rfl rfl (fun h2 => ?_) (fun h2 => ?_)
    · simp only [decide_eq_true_eq, i32b] at h2
      refine VC_exit rfl ?_
      refine VS [0, 3, 4] ?_
      refine VC_again ?_
      refine Qs ?_
      rw [h2, wdG_blank] at hsp
      refine ⟨s.length - (i + 1), by omega, i + 1, outL dn cur, [], a, c, rfl, hH, by omega, by rw [outL, if_pos rfl]; omega, by simp, ?_, ⟨fun _ => .inr h2, fun _ => rfl⟩, rfl⟩
      rw [← hsp, outL]
      split
      · rfl
      · rw [List.append_assoc]; rfl
    · simp only [decide_eq_false_iff_not, i32b] at h2
      rw [wdG_go _ _ h2] at hsp
      refine VC_skip ?_
      refine VQ [0, 3, 4, 23] fun K hK => ?_
      suffices out : ∀ b : Bool, (b = true ↔ cur = []) → K [(0, Str s), (3, .slice a (outL dn cur).length c), (4, .int .i64 i), (23, .bool b)] w3 by
        refine ⟨fun h => And.intro (I64.mk (by omega) (by omega)) (And.intro ⟨by omega, by omega⟩ (out _ ?_)), fun h => out _ ?_⟩
        · rw [decide_eq_true_eq, i32b, hcur]
          exact ⟨.inr, fun h3 => h3.resolve_left (by omega)⟩
        · rw [hcur]; exact ⟨fun _ => .inl (by omega), fun _ => rfl⟩
      intro b hb
      apply hK; clear hK
      (repeat refine VC_seq ?_)
      refine VC_cut [0, 3, 4] (fun e w' => ∃ (dn2 : Parts) (cur2 : Bs) (a : Option Addr) (c : Nat), Is e [(0, Str s), (3, .slice a (dn2 ++ [cur2]).length c), (4, .int .i64 i)] ∧ Heap w [] w' [strRow a (dn2 ++ [cur2]) c] ∧ dn2.length ≤ i ∧ cur2.length ≤ i ∧ dn2 ++ wdG (cur2 ++ [s.getD i 0]) (s.drop (i + 1)) = wdS s) ?_ ?_
      · refine VC_cond rfl rfl (fun h3 => ?_) (fun h3 => ?_)
        · have hc0 : cur = [] := hb.1 (by simpa using h3)
          subst hc0
          rw [show outL dn [] = dn from if_pos rfl] at hH hol ⊢
          refine VQ [0, 3, 4] fun K hK => ?_
          refine MemK_lits hH [Str []] (xs := [.const (Str [])]) Tryz.underlying30 sz9 rfl rfl rfl (by omega) ?_
          refine Qs ?_
          refine ⟨trivial, by simp [Value.cells], fun g w4 hH2 => ?_⟩
          (try refine Qs ?_)
          refine MemK_append ?_
          refine Qs ?_
          refine AppK_row (zs := #[.string ⟨#[]⟩]) (bytes := 16) hH2 1 rfl Tryz.underlying30 (by kernel_rfl) rfl (m := 1) (news := strsV [[]]) ⟨rfl, row_rs (hH2.at 0 rfl), 9, Tryz.underlying30⟩ (strsV_one _) (fun h => by omega) fun a' cap' w5 hc' hH3 => ?_
          simp only [List.set_cons_succ, List.set_cons_zero] at hH3
          rw [← strsV_append] at hH3
          (try refine Qs ?_)
          apply hK; clear hK
          refine VC_again ?_
          refine Qs ?_
          refine ⟨dn, [], a', cap', ?_, ?_, hol, by simp, hsp⟩
          · rw [List.length_append]; rfl
          · have := hH3.sub (.cons _ (.refl _))
            rw [show dn.length + 1 = (dn ++ [[]]).length by simp] at this
            exact this
        · have hc0 : cur ≠ [] := fun h4 => by have := hb.2 h4; simp [this] at h3
          rw [show outL dn cur = dn ++ [cur] from if_neg hc0] at hH hol ⊢
          refine VC_skip ?_
          refine VC_again ?_
          refine Qs ?_
          exact ⟨dn, cur, a, c, rfl, hH, by simp at hol; omega, hcl, hsp⟩
      clear hH hsp hcur hb hcl hol
      rintro e w4 ⟨dn, cur, a, c, rfl, hH, hdl, hcl, hsp⟩
      obtain ⟨g, rfl⟩ : ∃ g, a = some ⟨g, 0, none⟩ := by
        obtain ⟨_, _, _, h4 | ⟨g, _, _, h4, _⟩⟩ := hH.at 0 rfl
        · have := h4.2.1; simp at this
        · exact ⟨g, h4⟩
      have hlen : (dn ++ [cur]).length = dn.length + 1 := by simp
      have c1 : w4.cell? ⟨g, dn.length, none⟩ = some (Str cur) := row_cell (hH.at 0 rfl) (strsV_get (by simp))
      refine VL [0, 3, 4] 17 fun K hK => ?_
      simp only [hlen]
      rw [show dn.length + 1 - 1 = dn.length by omega]
      (repeat first | refine Qo ?_ | refine Qp ?_)
      refine ⟨_, c1, ?_⟩
      (try refine Qs ?_)
      (repeat first | refine Qo ?_ | refine Qp ?_)
      (try refine Qs ?_)
      have h1b : (s.drop i).take (i + 1 - i) = [s.getD i 0] := by
        rw [show i + 1 - i = 1 by omega, hdr]; rfl
      rw [h1b]
      refine And.intro (by simp; omega) (And.intro (And.intro (by omega) (by omega)) ?_)
      have hset : (strsV (dn ++ [cur])).take dn.length ++ [Str (cur ++ [s.getD i 0])] ++ (strsV (dn ++ [cur])).drop (dn.length + 1) = strsV (dn ++ [cur ++ [s.getD i 0]]) := by
        rw [strsV_set _ _ _ (by simp)]
        congr 1
        rw [List.set_append, if_neg (Nat.lt_irrefl _), Nat.sub_self]; rfl
      refine MemK_store ?_; refine Qs ?_; refine StoreK_row hH 0 (o := (dn.length)) (vs := [Str (cur ++ [s.getD i 0])]) rfl (by first | exact (add_mk _ _ _).symm | rfl | simp [add_mk]) rfl (by kernel_rfl) (by first | omega | (simp; done) | (simp; omega) | (simp [bytesV, intsV]; omega) | (rw [natsV_len]; simp; omega)) (by simp [Value.oneCell']) fun w6 hH2 => ?_; (try refine Qs ?_)
      simp only [List.length_singleton, List.set_cons_zero] at hH2
      rw [hset] at hH2
      apply hK; clear hK
      refine VC_blk ?_
      refine VS [0, 3, 4] ?_
      refine VC_again ?_
      refine Qs ?_
      have e2 : outL dn (cur ++ [s.getD i 0]) = dn ++ [cur ++ [s.getD i 0]] := by rw [outL, if_neg (by simp)]
      refine ⟨s.length - (i + 1), by omega, i + 1, dn, cur ++ [s.getD i 0], some ⟨g, 0, none⟩, c, ?_, ?_, by omega, by rw [e2]; simp; omega, by simp; omega, hsp, ?_, rfl⟩
      · rw [e2]; simp [Is]
      · rw [e2]
        rw [show (dn ++ [cur]).length = (dn ++ [cur ++ [s.getD i 0]]).length by simp] at hH2
        exact hH2
      · rw [Nat.add_sub_cancel]
        exact ⟨fun h4 => by simp at h4, fun h4 => absurd (h4.resolve_left (by omega)) h2⟩
  ·
    obtain rfl : i = s.length := by omega
    rw [List.drop_length, wdG_nil] at hsp
    have hsp2 : outL dn cur = wdS s := by
      rw [← hsp, outL]
      split <;> simp
    rw [hsp2] at hH ⊢
    refine VC_exit rfl ?_
    refine VS [2] ?_
    exact VC_ret (VX_ret1 rfl rfl ⟨a, c, rfl, hH⟩)
end Go.Proofs.YtabndnbgpfnhpaaGreatDoor
namespace Go.Proofs.YtabndnbgpfnhpaaGreatDoor
open Go.Shelf
def laysTrim_ren : Go.Shelf.Ren := ⟨fun | 160 => 46 | 232 => 95 | 231 => 94 | 227 => 96 | 234 => 98 | 233 => 97 | 236 => 100 | 235 => 99 | 228 => 148 | 271 => 150 | 151 => 149 | 197 => 91 | 120 => 210 | 152 => 209 | 260 => 143 | 137 => 269 | 119 => 270 | 224 => 146 | 225 => 145 | 217 => 144 | 266 => 207 | n => n, fun | 9 => 9 | 4 => 4 | 3 => 3 | 5 => 5 | 117 => 160 | 116 => 159 | 0 => 0 | 124 => 163 | 21 => 21 | 105 => 154 | 46 => 79 | 119 => 280 | 139 => 283 | 138 => 282 | n => n, fun | 3 => 2 | 4 => 3 | n => n⟩
theorem laysTrim : Go.Proofs.Lays.n160 Tryz.prog laysTrim_ren := {
  mixed := by kernel_rfl
  f119 := Tryz.func270.trans (congrArg some (by kernel_rfl))
  f120 := Tryz.func210.trans (congrArg some (by kernel_rfl))
  f137 := Tryz.func269.trans (congrArg some (by kernel_rfl))
  f151 := Tryz.func149.trans (congrArg some (by kernel_rfl))
  f152 := Tryz.func209.trans (congrArg some (by kernel_rfl))
  f160 := Tryz.func46.trans (congrArg some (by kernel_rfl))
  f197 := Tryz.func91.trans (congrArg some (by kernel_rfl))
  f217 := Tryz.func144.trans (congrArg some (by kernel_rfl))
  f224 := Tryz.func146.trans (congrArg some (by kernel_rfl))
  f225 := Tryz.func145.trans (congrArg some (by kernel_rfl))
  f227 := Tryz.func96.trans (congrArg some (by kernel_rfl))
  f228 := Tryz.func148.trans (congrArg some (by kernel_rfl))
  f231 := Tryz.func94.trans (congrArg some (by kernel_rfl))
  f232 := Tryz.func95.trans (congrArg some (by kernel_rfl))
  f233 := Tryz.func97.trans (congrArg some (by kernel_rfl))
  f234 := Tryz.func98.trans (congrArg some (by kernel_rfl))
  f235 := Tryz.func99.trans (congrArg some (by kernel_rfl))
  f236 := Tryz.func100.trans (congrArg some (by kernel_rfl))
  f260 := Tryz.func143.trans (congrArg some (by kernel_rfl))
  f266 := Tryz.func207.trans (congrArg some (by kernel_rfl))
  f271 := Tryz.func150.trans (congrArg some (by kernel_rfl))
  t0 := Tryz.underlying0
  a0 := Tryz.isAgg0
  z0 := Tryz.sizeOf0
  v0 := Tryz.zeroValue0
  t3 := Tryz.underlying3
  a3 := Tryz.isAgg3
  z3 := Tryz.sizeOf3
  v3 := Tryz.zeroValue3
  t4 := Tryz.underlying4
  a4 := Tryz.isAgg4
  z4 := Tryz.sizeOf4
  v4 := Tryz.zeroValue4
  t5 := Tryz.underlying5
  a5 := Tryz.isAgg5
  z5 := Tryz.sizeOf5
  v5 := Tryz.zeroValue5
  t9 := Tryz.underlying9
  a9 := Tryz.isAgg9
  z9 := Tryz.sizeOf9
  v9 := Tryz.zeroValue9
  t21 := Tryz.underlying21
  a21 := Tryz.isAgg21
  z21 := Tryz.sizeOf21
  v21 := Tryz.zeroValue21
  t46 := Tryz.underlying79
  a46 := Tryz.isAgg79
  z46 := Tryz.sizeOf79
  v46 := Tryz.zeroValue79
  t105 := Tryz.underlying154
  a105 := Tryz.isAgg154
  z105 := Tryz.sizeOf154
  v105 := Tryz.zeroValue154
  t116 := Tryz.underlying159
  a116 := Tryz.isAgg159
  z116 := Tryz.sizeOf159
  t117 := Tryz.underlying160
  a117 := Tryz.isAgg160
  z117 := Tryz.sizeOf160
  v117 := Tryz.zeroValue160
  t119 := Tryz.underlying280
  a119 := Tryz.isAgg280
  z119 := Tryz.sizeOf280
  t124 := Tryz.underlying163
  a124 := Tryz.isAgg163
  z124 := Tryz.sizeOf163
  v124 := Tryz.zeroValue163
  t138 := Tryz.underlying282
  a138 := Tryz.isAgg282
  z138 := Tryz.sizeOf282
  v138 := Tryz.zeroValue282
  t139 := Tryz.underlying283
  a139 := Tryz.isAgg283
  z139 := Tryz.sizeOf283
  v139 := Tryz.zeroValue283
  g3 := by kernel_rfl
  g4 := by kernel_rfl }
def laysFF_ren : Go.Shelf.Ren := ⟨fun | 229 => 10 | n => n, fun | 9 => 9 | 40 => 40 | 31 => 30 | 152 => 64 | 3 => 3 | 0 => 0 | 4 => 4 | 21 => 21 | 154 => 66 | n => n, fun | n => n⟩
theorem laysFF : Go.Proofs.Lays.n229 Tryz.prog laysFF_ren := {
  mixed := by kernel_rfl
  f229 := Tryz.func10.trans (congrArg some (by kernel_rfl))
  t0 := Tryz.underlying0
  a0 := Tryz.isAgg0
  z0 := Tryz.sizeOf0
  v0 := Tryz.zeroValue0
  t3 := Tryz.underlying3
  a3 := Tryz.isAgg3
  z3 := Tryz.sizeOf3
  v3 := Tryz.zeroValue3
  t4 := Tryz.underlying4
  a4 := Tryz.isAgg4
  z4 := Tryz.sizeOf4
  v4 := Tryz.zeroValue4
  t9 := Tryz.underlying9
  a9 := Tryz.isAgg9
  z9 := Tryz.sizeOf9
  v9 := Tryz.zeroValue9
  t21 := Tryz.underlying21
  a21 := Tryz.isAgg21
  z21 := Tryz.sizeOf21
  v21 := Tryz.zeroValue21
  t31 := Tryz.underlying30
  a31 := Tryz.isAgg30
  z31 := Tryz.sizeOf30
  v31 := Tryz.zeroValue30
  t40 := Tryz.underlying40
  a40 := Tryz.isAgg40
  z40 := Tryz.sizeOf40
  v40 := Tryz.zeroValue40
  t152 := Tryz.underlying64
  a152 := Tryz.isAgg64
  z152 := Tryz.sizeOf64
  v152 := Tryz.zeroValue64
  t154 := Tryz.underlying66
  a154 := Tryz.isAgg66
  z154 := Tryz.sizeOf66
  v154 := Tryz.zeroValue66 }
end Go.Proofs.YtabndnbgpfnhpaaGreatDoor
namespace Go.Proofs.YtabndnbgpfnhpaaGreatDoor
open Go Go.Eng
set_option maxRecDepth 100000
set_option linter.unusedSimpArgs false
set_option linter.unusedVariables false
theorem heap_of_below {w w' : World} {n : Nat} (h : RowKit.Below (w.drewN n).heap.size (w.drewN n) w') : Heap w [] w' [] := ⟨⟨h.os, h.tape, h.output, h.size, fun k hk _ => h.block k hk⟩, by simp, by simp, .nil⟩
theorem heap_of_own {w w' : World} {T sz A n c q : Nat} {xs : List Value} (hb : RowKit.Below (w.drewN q).heap.size (w.drewN q) w') (hA : w.heap.size ≤ A) (h : w'.ownsRow w.heap.size T sz (.slice (some ⟨A, 0, none⟩) n c) n xs) : Heap w [] w' [Res.row T sz (some ⟨A, 0, none⟩) n c xs] := by
  obtain ⟨h1, h2⟩ := h
  rcases h2 with ⟨h2, _⟩ | ⟨g, cap, cur, hv, hg0, hg, hn, hc, hs, ht⟩
  · cases h2
  cases hv
  have hx : (xs ++ cur.toList.drop (n * sz)) = cur.toList := by rw [← ht, List.take_append_drop]
  refine ⟨⟨hb.os, hb.tape, hb.output, hb.size, fun k hk _ => hb.block k hk⟩, ?_, ?_, by simp⟩
  · intro r hr
    rw [List.mem_singleton] at hr; subst hr
    refine ⟨h1, hn, hc, .inr ⟨A, cur.toList.drop (n * sz), (0, 0), rfl, ?_, ?_, fun j _ => by simp⟩⟩
    · rw [hx]; exact hg
    · rw [hx]; simpa using hs
  · intro r hr b hbb
    rw [List.mem_singleton] at hr; subst hr
    simp [Res.row] at hbb; subst hbb
    exact ⟨.inr hA, (Array.getElem?_eq_some_iff.1 hg).1⟩
theorem trim_does (s c : Bs) (w : World) (hs : s.length ≤ 1000000000) (hc : c.length ≤ 256) (ha : ∀ b ∈ c, b.toNat < 128) : Does Tryz.prog 46 #[Str s, Str c] w fun v w' => Heap w [] w' [] ∧ v = Str (Lib.trimS s c) := by
  intro n
  have h := Go.Proofs.Any.strings_Trim_laid laysTrim (by kernel_rfl) ⟨s.toArray⟩ ⟨c.toArray⟩ (w.drewN n) (by show s.toArray.size ≤ _; simp; omega) (by show c.toArray.size < _; simp; omega) (fun j b hj => ha b (List.mem_of_getElem? hj))
  refine h.mono fun e w' ⟨he, hb⟩ => ⟨_, w', 0, he, rfl, heap_of_below (w := w) hb, rfl⟩
theorem dropWhile_self {α : Type} (p : α → Bool) : ∀ l : List α, (∀ x ∈ l.dropWhile p, p x = true) → l.dropWhile p = [] := by
  intro l
  induction l with
  | nil => intro _; rfl
  | cons a l ih =>
    intro h
    rw [List.dropWhile_cons] at h ⊢
    split
    · rename_i hp; rw [if_pos hp] at h; exact ih h
    · rename_i hp; rw [if_neg hp] at h; exact absurd (h a (by simp)) hp
theorem dropWhile_nil {α : Type} (p : α → Bool) : ∀ l : List α, l.dropWhile p = [] → ∀ x ∈ l, p x = true := by
  intro l
  induction l with
  | nil => simp
  | cons a l ih =>
    intro h x hx
    rw [List.dropWhile_cons] at h
    split at h
    · rename_i hp
      rcases List.mem_cons.1 hx with rfl | hx
      · exact hp
      · exact ih h x hx
    · cases h
theorem dropWhile_all {α : Type} (p : α → Bool) : ∀ l : List α, (∀ x ∈ l, p x = true) → l.dropWhile p = [] := by
  intro l
  induction l with
  | nil => intro _; rfl
  | cons a l ih => intro h; rw [List.dropWhile_cons, if_pos (h a (by simp))]; exact ih fun x hx => h x (List.mem_cons_of_mem _ hx)
theorem trimS_nil (s c : Bs) : (Lib.trimS s c = []) ↔ s.all (c.contains ·) = true := by
  rw [List.all_eq_true]
  constructor
  · intro h x hx
    have h1 := dropWhile_nil _ _ h
    have h2 : s.reverse.dropWhile (c.contains ·) = [] := dropWhile_self _ _ fun y hy => h1 y (by rw [Lib.trimRightS]; simpa using hy)
    exact dropWhile_nil _ _ h2 x (by simpa using hx)
  · intro h
    have : Lib.trimRightS s c = [] := by rw [Lib.trimRightS, dropWhile_all _ _ (fun x hx => h x (by simpa using hx))]; rfl
    rw [Lib.trimS, this]; rfl
theorem only_does (s c : Bs) (w : World) (hs : s.length ≤ 1000000000) (hc : c.length ≤ 256) (ha : ∀ b ∈ c, b.toNat < 128) : Does Tryz.prog 22 #[Str s, Str c] w fun v w' => Heap w [] w' [] ∧ v = .bool (decide (s ≠ []) && s.all (c.contains ·)) := by
  refine En [Str s, Str c] 13 Tryz.func22 ?_
  refine VS [0, 1] ?_
  refine VQ [4] fun K hK => ?_
  by_cases h0 : s = []
  · subst h0
    refine ⟨fun h => absurd rfl h, fun _ => ?_⟩
    apply hK; clear hK
    exact VC_ret (VX_ret1 rfl rfl ⟨Heap.start w, rfl⟩)
  refine ⟨fun _ => ?_, fun h => absurd h0 h⟩
  refine MemK_call Tryz.call46 ?_; refine Qs ?_; refine CallK.mk (trim_does s c w hs hc ha) ?_
  rintro v w2 ⟨hH, rfl⟩
  (try refine Qs ?_)
  apply hK; clear hK
  refine VC_ret (VX_ret1 rfl rfl ⟨hH, ?_⟩)
  have := trimS_nil s c
  by_cases h1 : Lib.trimS s c = []
  · rw [this.1 h1, decide_eq_true h1]; simp [h0]
  · have h2 : s.all (c.contains ·) = false := by rw [Bool.eq_false_iff]; exact fun h => h1 (this.2 h)
    rw [h2, decide_eq_false h1]; simp
def formV (c : Bs) : Value := match formS c with
  | some f => .tuple #[Str f, .bool true]
  | none => .tuple #[Str [], .bool false]
theorem form_does (c : Bs) (w : World) : Does Tryz.prog 12 #[Str c] w fun v w' => w' = w ∧ v = formV c := by
  refine En [Str c] 29 Tryz.func12 ?_
  refine VS [0] ?_
  refine VS [4] ?_
  refine VB ?_
  refine VS [4, 5] ?_
  refine VC_cond rfl rfl (fun h => ?_) (fun h0 => ?_)
  · simp only [decide_eq_true_eq] at h
    subst h
    refine VC_skip ?_
    refine VC_cond rfl rfl (fun _ => ?_) (fun h => by simp at h)
    refine VS [2, 3] ?_
    exact VC_ret (VX_ret2 rfl rfl rfl ⟨rfl, rfl⟩)
  simp only [decide_eq_false_iff_not] at h0
  refine VS [4, 5] ?_
  refine VC_cond rfl rfl (fun h => ?_) (fun h1 => ?_)
  · simp only [decide_eq_true_eq] at h
    subst h
    refine VS [2, 3] ?_
    exact VC_ret (VX_ret2 rfl rfl rfl ⟨rfl, rfl⟩)
  simp only [decide_eq_false_iff_not] at h1
  refine VS [4, 8] ?_
  refine VC_cond rfl rfl (fun h => ?_) (fun h2 => ?_)
  · simp only [decide_eq_true_eq] at h
    subst h
    refine VS [2, 3] ?_
    exact VC_ret (VX_ret2 rfl rfl rfl ⟨rfl, rfl⟩)
  simp only [decide_eq_false_iff_not] at h2
  refine VS [4, 10] ?_
  refine VC_cond rfl rfl (fun h => ?_) (fun h3 => ?_)
  · simp only [decide_eq_true_eq] at h
    subst h
    refine VS [2, 3] ?_
    exact VC_ret (VX_ret2 rfl rfl rfl ⟨rfl, rfl⟩)
  simp only [decide_eq_false_iff_not] at h3
  refine VS [4, 12] ?_
  refine VC_cond rfl rfl (fun h => ?_) (fun h4 => ?_)
  · simp only [decide_eq_true_eq] at h
    subst h
    refine VC_skip ?_
    refine VC_cond rfl rfl (fun _ => ?_) (fun h => by simp at h)
    refine VS [2, 3] ?_
    exact VC_ret (VX_ret2 rfl rfl rfl ⟨rfl, rfl⟩)
  simp only [decide_eq_false_iff_not] at h4
  refine VS [4, 12] ?_
  refine VC_cond rfl rfl (fun h => ?_) (fun h5 => ?_)
  · simp only [decide_eq_true_eq] at h
    subst h
    refine VS [2, 3] ?_
    exact VC_ret (VX_ret2 rfl rfl rfl ⟨rfl, rfl⟩)
  simp only [decide_eq_false_iff_not] at h5
  refine VS [4, 15] ?_
  refine VC_cond rfl rfl (fun h => ?_) (fun h6 => ?_)
  · simp only [decide_eq_true_eq] at h
    subst h
    refine VS [2, 3] ?_
    exact VC_ret (VX_ret2 rfl rfl rfl ⟨rfl, rfl⟩)
  simp only [decide_eq_false_iff_not] at h6
  refine VS [4, 17] ?_
  refine VC_cond rfl rfl (fun h => ?_) (fun h7 => ?_)
  · simp only [decide_eq_true_eq] at h
    subst h
    refine VS [2, 3] ?_
    exact VC_ret (VX_ret2 rfl rfl rfl ⟨rfl, rfl⟩)
  simp only [decide_eq_false_iff_not] at h7
  refine VS [4, 19] ?_
  refine VC_cond rfl rfl (fun h => ?_) (fun h8 => ?_)
  · simp only [decide_eq_true_eq] at h
    subst h
    refine VS [2, 3] ?_
    exact VC_ret (VX_ret2 rfl rfl rfl ⟨rfl, rfl⟩)
  simp only [decide_eq_false_iff_not] at h8
  refine VS [4, 21] ?_
  refine VC_cond rfl rfl (fun h => ?_) (fun h9 => ?_)
  · simp only [decide_eq_true_eq] at h
    subst h
    refine VC_skip ?_
    refine VC_cond rfl rfl (fun _ => ?_) (fun h => by simp at h)
    refine VS [2, 3] ?_
    exact VC_ret (VX_ret2 rfl rfl rfl ⟨rfl, rfl⟩)
  simp only [decide_eq_false_iff_not] at h9
  refine VS [4, 21] ?_
  refine VC_cond rfl rfl (fun h => ?_) (fun h10 => ?_)
  · simp only [decide_eq_true_eq] at h
    subst h
    refine VC_skip ?_
    refine VC_cond rfl rfl (fun _ => ?_) (fun h => by simp at h)
    refine VS [2, 3] ?_
    exact VC_ret (VX_ret2 rfl rfl rfl ⟨rfl, rfl⟩)
  simp only [decide_eq_false_iff_not] at h10
  refine VS [4, 21] ?_
  refine VC_cond rfl rfl (fun h => ?_) (fun h11 => ?_)
  · simp only [decide_eq_true_eq] at h
    subst h
    refine VC_skip ?_
    refine VC_cond rfl rfl (fun _ => ?_) (fun h => by simp at h)
    refine VS [2, 3] ?_
    exact VC_ret (VX_ret2 rfl rfl rfl ⟨rfl, rfl⟩)
  simp only [decide_eq_false_iff_not] at h11
  refine VS [4, 21] ?_
  refine VC_cond rfl rfl (fun h => ?_) (fun h12 => ?_)
  · simp only [decide_eq_true_eq] at h
    subst h
    refine VC_skip ?_
    refine VC_cond rfl rfl (fun _ => ?_) (fun h => by simp at h)
    refine VS [2, 3] ?_
    exact VC_ret (VX_ret2 rfl rfl rfl ⟨rfl, rfl⟩)
  simp only [decide_eq_false_iff_not] at h12
  refine VS [4, 21] ?_
  refine VC_cond rfl rfl (fun h => ?_) (fun h13 => ?_)
  · simp only [decide_eq_true_eq] at h
    subst h
    refine VC_skip ?_
    refine VC_cond rfl rfl (fun _ => ?_) (fun h => by simp at h)
    refine VS [2, 3] ?_
    exact VC_ret (VX_ret2 rfl rfl rfl ⟨rfl, rfl⟩)
  simp only [decide_eq_false_iff_not] at h13
  refine VS [4, 21] ?_
  refine VC_cond rfl rfl (fun h => ?_) (fun h14 => ?_)
  · simp only [decide_eq_true_eq] at h
    subst h
    refine VC_skip ?_
    refine VC_cond rfl rfl (fun _ => ?_) (fun h => by simp at h)
    refine VS [2, 3] ?_
    exact VC_ret (VX_ret2 rfl rfl rfl ⟨rfl, rfl⟩)
  simp only [decide_eq_false_iff_not] at h14
  refine VS [4, 21] ?_
  refine VC_cond rfl rfl (fun h => ?_) (fun h15 => ?_)
  · simp only [decide_eq_true_eq] at h
    subst h
    refine VS [2, 3] ?_
    exact VC_ret (VX_ret2 rfl rfl rfl ⟨rfl, rfl⟩)
  simp only [decide_eq_false_iff_not] at h15
  refine VC_skip ?_
  refine VC_blk ?_
  refine VS [2, 3] ?_
  refine VC_ret (VX_ret2 rfl rfl rfl ⟨rfl, ?_⟩)
  rw [formV, show formS c = none by simp [formS, h0, h1, h2, h3, h4, h5, h6, h7, h8, h9, h10, h11, h12, h13, h14, h15]]
theorem dig10 (b : UInt8) : ([48, 49, 50, 51, 52, 53, 54, 55, 56, 57] : Bs).contains b = digS b 10 := by
  rw [Bool.eq_iff_iff]
  simp [digS, ← UInt8.toNat_inj]
  omega
theorem dig16 (b : UInt8) : ([48, 49, 50, 51, 52, 53, 54, 55, 56, 57, 97, 98, 99, 100, 101, 102] : Bs).contains b = digS b 16 := by
  rw [Bool.eq_iff_iff]
  simp [digS, ← UInt8.toNat_inj]
  omega
theorem dig2 (b : UInt8) : ([48, 49] : Bs).contains b = digS b 2 := by
  rw [Bool.eq_iff_iff]
  simp [digS, ← UInt8.toNat_inj]
  omega
theorem kind_eq (k : UInt8) (n : Nat) (hn : n < 256) : ((k.toNat : Int) = (n : Int)) = (k = UInt8.ofNat n) := by
  apply propext
  rw [← UInt8.toNat_inj, UInt8.toNat_ofNat']
  omega
theorem fits_does (s : Bs) (k : UInt8) (w : World) (hs : s.length ≤ 1000000000) (h0 : s ≠ []) : Does Tryz.prog 13 #[Str s, .int .u8 k.toNat] w fun v w' => Heap w [] w' [] ∧ v = .bool (fitsS s k) := by
  have k1 := kind_eq k 110 (by omega)
  have k2 := kind_eq k 98 (by omega)
  have k3 := kind_eq k 107 (by omega)
  refine En [Str s, .int .u8 k.toNat] 37 Tryz.func13 ?_
  refine VS [0, 1] ?_
  refine VS [0, 5] ?_
  refine VB ?_
  refine VS [0, 5, 6] ?_
  refine VD (fun h => ?_) (fun h => ?_)
  ·
    have hk : k = 110 := k1.mp h
    subst hk
    refine VQ [4] fun K hK => ?_
    refine MemK_call Tryz.call22 ?_; refine Qs ?_; refine CallK.mk (only_does s _ w hs (by decide) (by decide)) ?_
    rintro v w2 ⟨hH, rfl⟩
    have e : s.all (fun b => ([48, 49, 50, 51, 52, 53, 54, 55, 56, 57] : Bs).contains b) = s.all (digS · 10) := List.all_congr rfl dig10
    rw [e, decide_eq_true h0, Bool.true_and]
    (try refine Qs ?_)
    have e7 : ((s.length : Int) ≤ 7) = (s.length ≤ 7) := by apply propext; omega
    have e2 : fitsS s 110 = (s.all (digS · 10) && decide (s.length ≤ 7)) := by rw [fitsS, if_pos rfl]
    suffices out : K [(4, .bool (fitsS s 110))] w2 by
      rw [e2] at out
      cases hA : s.all (digS · 10) <;> rw [hA] at out <;> simpa [gB, e7] using out
    apply hK; clear hK
    exact VC_ret (VX_ret1 rfl rfl ⟨hH, rfl⟩)
  have hk1 : k ≠ 110 := fun e => h (k1.mpr e)
  clear h k1
  refine VS [0, 5, 15] ?_
  refine VD (fun h => ?_) (fun h => ?_)
  ·
    have hk : k = 98 := k2.mp h
    subst hk
    have e7 : ((s.length : Int) % 2 = 0) = (s.length % 2 = 0) := by apply propext; omega
    have e2 : fitsS s 98 = (decide (s = [45]) || (s.all (digS · 16) && decide (s.length % 2 = 0))) := by rw [fitsS, if_neg (by decide), if_pos rfl]
    refine VQ [4] fun K hK => ?_
    suffices out : ∀ w2, Heap w [] w2 [] → K [(4, .bool (fitsS s 98))] w2 by
      rw [e2] at out
      refine ⟨fun hn => ?_, fun hn => ?_⟩
      · refine MemK_call Tryz.call22 ?_; refine Qs ?_; refine CallK.mk (only_does s _ w hs (by decide) (by decide)) ?_
        rintro v w2 ⟨hH, rfl⟩
        have e : s.all (fun b => ([48, 49, 50, 51, 52, 53, 54, 55, 56, 57, 97, 98, 99, 100, 101, 102] : Bs).contains b) = s.all (digS · 16) := List.all_congr rfl dig16
        have := out w2 hH
        rw [e, decide_eq_true h0, Bool.true_and]
        (try refine Qs ?_)
        cases hA : s.all (digS · 16) <;> rw [hA] at this <;> simpa [gB, e7, hn] using this
      · have hn : s = [45] := by simpa using hn
        have := out w (Heap.start w)
        simpa [hn] using this
    intro w2 hH
    apply hK; clear hK
    exact VC_ret (VX_ret1 rfl rfl ⟨hH, rfl⟩)
  have hk2 : k ≠ 98 := fun e => h (k2.mpr e)
  clear h k2
  refine VS [0, 29] ?_
  refine VD (fun h => ?_) (fun h => ?_)
  ·
    have hk : k = 107 := k3.mp h
    subst hk
    have e2 : fitsS s 107 = (decide (s = [45]) || s.all (digS · 2)) := by rw [fitsS, if_neg (by decide), if_neg (by decide), if_pos rfl]
    refine VQ [4] fun K hK => ?_
    suffices out : ∀ w2, Heap w [] w2 [] → K [(4, .bool (fitsS s 107))] w2 by
      rw [e2] at out
      refine ⟨fun hn => ?_, fun hn => ?_⟩
      · refine MemK_call Tryz.call22 ?_; refine Qs ?_; refine CallK.mk (only_does s _ w hs (by decide) (by decide)) ?_
        rintro v w2 ⟨hH, rfl⟩
        have e : s.all (fun b => ([48, 49] : Bs).contains b) = s.all (digS · 2) := List.all_congr rfl dig2
        have := out w2 hH
        rw [e, decide_eq_true h0, Bool.true_and]
        (try refine Qs ?_)
        simpa [gB, hn] using this
      · have hn : s = [45] := by simpa using hn
        have := out w (Heap.start w)
        simpa [hn] using this
    intro w2 hH
    apply hK; clear hK
    exact VC_ret (VX_ret1 rfl rfl ⟨hH, rfl⟩)
  have hk3 : k ≠ 107 := fun e => h (k3.mpr e)
  clear h k3
  refine VC_skip ?_
  refine VC_blk ?_
  refine VS [4] ?_
  exact VC_ret (VX_ret1 rfl rfl ⟨Heap.start w, by rw [fitsS, if_neg hk1, if_neg hk2, if_neg hk3]⟩)
theorem blank_does (x : Nat) (w : World) : Does Tryz.prog 11 #[.int .i32 x] w fun v w' => w' = w ∧ v = .bool (isBl x) := by
  refine En [.int .i32 x] 5 Tryz.func11 ?_
  refine VS [0] ?_
  refine VS [2] ?_
  refine VC_ret (VX_ret1 rfl rfl ⟨rfl, ?_⟩)
  have e : ((x : Int) = 32) ↔ x = 32 := by omega
  simp [isBl, e]
theorem fields_does (s : Bs) (w : World) (hs : s.length ≤ 1000000000) : Does Tryz.prog 10 #[Str s, .func (.func 11) #[] #[]] w fun v w' => ∃ g, v = .slice (some ⟨g, 0, none⟩) (wdS s).length (wdS s).length ∧ Heap w [] w' [strRow (some ⟨g, 0, none⟩) (wdS s) (wdS s).length] := by
  intro n
  have hp : PredAtRunes Tryz.prog 11 #[] isBl (w.drewN n) := fun W x hx hb => (blank_does x W 0).mono fun e w' ⟨v, w1, m, he, hw, h1, h2⟩ => ⟨by rw [he, h2], m, by rw [hw, h1]⟩
  have h := Go.Proofs.Any.strings_FieldsFunc_runes laysFF 11 #[] (fun args w => Tryz.call11 args w) isBl ⟨s.toArray⟩ (w.drewN n) (by show s.toArray.size ≤ _; simp; omega) hp (by kernel_rfl) (by kernel_rfl)
  refine h.mono fun e w' ⟨A, he, hA, hown, hb⟩ => ⟨_, w', 0, he, rfl, A, ?_, ?_⟩
  · rw [fields_count]
  · rw [fields_count, fields_words] at hown
    exact heap_of_own (w := w) hb hA hown
end Go.Proofs.YtabndnbgpfnhpaaGreatDoor
namespace Go.Proofs.YtabndnbgpfnhpaaGreatDoor
open Go Go.Eng
set_option maxRecDepth 100000
set_option maxHeartbeats 1000000
set_option linter.unusedSimpArgs false
set_option linter.unusedVariables false
abbrev Ln := Nat × Nat × List Bs
def argA (g c : Nat) : Option Addr := if c = 1 then some ⟨g, 0, none⟩ else some ⟨g, 1, none⟩
def lnC (x : Ln) : List Value := [Str (x.2.2.headD []), .slice (argA x.1 x.2.1) (x.2.2.length - 1) (x.2.1 - 1)]
def lnsV (l : List Ln) : List Value := rowsV lnC l
theorem lnC_one (x : Ln) : ∀ v ∈ lnC x, v.oneCell' = true := by simp [lnC, Value.oneCell', Str]
theorem lnsV_snoc (l : List Ln) (x : Ln) : lnsV (l ++ [x]) = lnsV l ++ lnC x := by rw [lnsV, rowsV_append, rowsV_one]; rfl
def lnRow (x : Ln) : Res := strRow (some ⟨x.1, 0, none⟩) x.2.2 x.2.1
def ParseOk (T : Nat) (s : Bs) (w : World) (v : Value) (w' : World) : Prop :=
  if 65536 < s.length then v = .tuple #[.slice none 0 0, .int .i64 0, .int .i64 3] ∧ Heap w [] w' []
  else match parseG (lnS s) 0 [] with
  | .inr i => v = .tuple #[.slice none 0 0, .int .i64 i, .int .i64 290] ∧ Heap w [] w' []
  | .inl out => ∃ (L : List Ln) (a : Option Addr) (c : Nat), L.map (·.2.2) = out ∧ v = .tuple #[.slice a L.length c, .int .i64 0, .int .i64 0] ∧ Heap w [] w' (Res.row T 2 a L.length c (lnsV L) :: L.reverse.map lnRow)
theorem parseOk_big {T : Nat} {s : Bs} {w w' : World} (h : 65536 < s.length) (hH : Heap w [] w' []) : ParseOk T s w (.tuple #[.slice none 0 0, .int .i64 0, .int .i64 3]) w' := by
  rw [ParseOk, if_pos h]; exact ⟨rfl, hH⟩
theorem parseOk_bad {T i : Nat} {s : Bs} {w w' : World} (h : ¬ 65536 < s.length) (hp : parseG (lnS s) 0 [] = .inr i) (hH : Heap w [] w' []) : ParseOk T s w (.tuple #[.slice none 0 0, .int .i64 i, .int .i64 290]) w' := by
  rw [ParseOk, if_neg h, hp]; exact ⟨rfl, hH⟩
theorem parseOk_ok {T : Nat} {s : Bs} {w w' : World} {L : List Ln} {a : Option Addr} {c : Nat} (h : ¬ 65536 < s.length) (hp : parseG (lnS s) 0 [] = .inl (L.map (·.2.2))) (hH : Heap w [] w' (Res.row T 2 a L.length c (lnsV L) :: L.reverse.map lnRow)) : ParseOk T s w (.tuple #[.slice a L.length c, .int .i64 0, .int .i64 0]) w' := by
  rw [ParseOk, if_neg h, hp]; exact ⟨L, a, c, rfl, rfl, hH⟩
theorem parseG_skip {s : Bs} {l : List Bs} {i : Nat} {out : List (List Bs)} (h : wdS s = [] ∨ s.head? = some 35) : parseG (s :: l) i out = parseG l (i + 1) out := by rw [parseG, if_pos h]
theorem parseG_bad {s : Bs} {l : List Bs} {i : Nat} {out : List (List Bs)} (h : ¬ (wdS s = [] ∨ s.head? = some 35)) (h2 : lineS (wdS s) = false) : parseG (s :: l) i out = .inr i := by rw [parseG, if_neg h, h2]; rfl
theorem parseG_ok {s : Bs} {l : List Bs} {i : Nat} {out : List (List Bs)} (h : ¬ (wdS s = [] ∨ s.head? = some 35)) (h2 : lineS (wdS s) = true) : parseG (s :: l) i out = parseG l (i + 1) (out ++ [wdS s]) := by rw [parseG, if_neg h, h2]; rfl
theorem parse_does (s : Bs) (w : World) (hs : s.length ≤ 140737488355328) : Does Tryz.prog 5 #[Str s] w fun v w' => ParseOk 32 s w v w' := by
  refine En [Str s] 79 Tryz.func5 ?_
  refine VS [0] ?_
  (repeat refine VC_seq ?_)
  refine VC_scope ?_
  refine VS [0, 15] ?_
  by_cases hb : 65536 < s.length
  · refine VC_cond rfl rfl (fun h => ?_) (fun h => absurd h (by simp; omega))
    refine VS [2, 3, 4] ?_
    refine VC_ret (VX_ret3 rfl rfl rfl rfl ?_)
    exact parseOk_big hb (Heap.start w)
  refine VC_cond rfl rfl (fun h => absurd h (by simp; omega)) (fun h => VC_skip ?_)
  clear h
  refine VS [0, 5] ?_
  (repeat refine VC_seq ?_)
  refine VC_label ?_
  refine VQ [5, 17, 18, 19] fun K hK => ?_
  refine MemK_call Tryz.call9 ?_; refine Qs ?_; refine CallK.mk (splitNl_does s w (by omega)) ?_
  rintro v w2 ⟨gl, rfl, hH, _⟩
  (try refine Qs ?_)
  apply hK; clear hK
  have hnl := lnS_len s
  have hml := lnS_mem_len s
  generalize hls : lnS s = ls at *
  have hn0 : ls.length ≤ 65537 := by omega
  refine VB ?_
  refine VC_loopS [5, 17, 18, 19] (fun m e w' => ∃ (i : Nat) (L : List Ln) (a : Option Addr) (c : Nat), i ≤ ls.length ∧ parseG ls 0 [] = parseG (ls.drop i) i (L.map (·.2.2)) ∧ Is e [(5, .slice a L.length c), (17, .slice (some ⟨gl, 0, none⟩) ls.length ls.length), (18, .int .i64 ls.length), (19, .int .i64 i)] ∧ Heap w [] w' (Res.row 32 2 a L.length c (lnsV L) :: strRow (some ⟨gl, 0, none⟩) ls ls.length :: L.reverse.map lnRow) ∧ L.length ≤ i ∧ m = ls.length - i) ls.length ?_ ?_
  · refine Qs ?_
    exact ⟨0, [], none, 0, Nat.zero_le _, rfl, rfl, hH.nilRow 32 2, Nat.le_refl _, rfl⟩
  clear hH
  rintro m e w3 ⟨i, L, a, c, hi, hpd, rfl, hH, hLi, rfl⟩
  refine VS [5, 17, 18, 19, 20] ?_
  (repeat refine VC_seq ?_)
  refine VD (fun h => ?_) (fun h => ?_)
  ·
    have hlt : i < ls.length := by omega
    obtain ⟨ln, hln⟩ : ∃ ln, ls[i]? = some ln := ⟨_, List.getElem?_eq_getElem hlt⟩
    have hlnl : ln.length ≤ 65536 := by have := hml ln (List.mem_of_getElem? hln); omega
    have hdr : ls.drop i = ln :: ls.drop (i + 1) := by
      obtain ⟨h1, h2⟩ := List.getElem?_eq_some_iff.1 hln
      rw [List.drop_eq_getElem_cons h1, h2]
    rw [hdr] at hpd
    clear h
    refine VC_skip ?_
    refine VB ?_
    refine VQ [5, 6, 7, 17, 18, 19] fun K hK => ?_
    (repeat first | refine Qo ?_ | refine Qp ?_)
    refine ⟨_, row_cell (hH.at 1 rfl) (strsV_get hln), ?_⟩
    (try refine Qs ?_)
    apply hK; clear hK
    refine VQ [5, 6, 7, 8, 17, 18, 19] fun K hK => ?_
    refine MemK_call Tryz.call10 ?_; refine Qs ?_; refine CallK.mk (fields_does ln w3 (by omega)) ?_
    rintro v w4 ⟨gw, rfl, hW⟩
    have hH2 := hH.call0 hW
    clear hH hW
    (try refine Qs ?_)
    apply hK; clear hK
    have hwl := wdS_len ln
    have hwn := wdS_ne ln
    have hwm : ∀ x ∈ wdS ln, x.length ≤ ln.length := fun x hx => by have := wdG_mem_len ln [] x hx; simpa using this
    have hw0 : wdS ln ≠ [] → ln ≠ [] := wdS_head
    generalize hws : wdS ln = ws at *
    refine VQ [5, 6, 8, 17, 18, 19, 33] fun K hK => ?_
    suffices out : ∀ b : Bool, (b = true ↔ (ws = [] ∨ ln.head? = some 35)) → K [(5, .slice a L.length c), (6, .int .i64 i), (8, .slice (some ⟨gw, 0, none⟩) ws.length ws.length), (17, .slice (some ⟨gl, 0, none⟩) ls.length ls.length), (18, .int .i64 ls.length), (19, .int .i64 i), (33, .bool b)] w4 by
      refine ⟨fun h => ⟨⟨Int.le_refl 0, ?_⟩, out _ ?_⟩, fun h => out _ ?_⟩
      · have := List.length_pos_iff.2 (hw0 (fun e => h (by rw [e]; rfl)))
        omega
      · have hwe : ws ≠ [] := fun e => h (by rw [e]; rfl)
        cases ln with
        | nil => exact absurd rfl (hw0 hwe)
        | cons b0 ln =>
          have e : ((b0.toNat : Int) = 35) ↔ b0 = 35 := by
            rw [← UInt8.toNat_inj]; show _ ↔ b0.toNat = 35; omega
          simp [e, hwe]
      · have hwe : ws = [] := List.eq_nil_of_length_eq_zero (by omega)
        simp [hwe]
    intro b hbb
    apply hK; clear hK
    cases b with
    | true =>
      have hsk := hbb.1 rfl
      refine VC_cond rfl rfl (fun h => ?_) (fun h => by simp at h)
      refine VC_exit rfl ?_
      refine VS [5, 17, 18, 19] ?_
      refine VC_again ?_
      refine Qs ?_
      exact ⟨ls.length - (i + 1), by omega, i + 1, L, a, c, by omega, by rw [hpd, parseG_skip (by rw [hws]; exact hsk)], rfl, hH2.sub (List.sublist_append_right _ _), by omega, rfl⟩
    | false =>
      refine VC_cond rfl rfl (fun h => by simp at h) (fun h => VC_skip ?_)
      clear h
      have hns : ¬ (ws = [] ∨ ln.head? = some 35) := fun h => by have := hbb.2 h; cases this
      clear hbb
      obtain ⟨c0, ar, rfl⟩ : ∃ c0 ar, ws = c0 :: ar := by
        cases ws with
        | nil => exact absurd (.inl rfl) hns
        | cons c0 ar => exact ⟨c0, ar, rfl⟩
      have hal : ar.length + 1 ≤ ln.length := by simpa using hwl
      have bad : lineS (c0 :: ar) = false → ∀ {w8}, Heap w [] w8 [] → ParseOk 32 s w (.tuple #[.slice none 0 0, .int .i64 i, .int .i64 290]) w8 := fun h w8 h8 => parseOk_bad hb (by rw [hls, hpd]; exact parseG_bad (by rw [hws]; exact hns) (by rw [hws]; exact h)) h8
      refine VQ [5, 6, 8, 9, 10, 17, 18, 19] fun K hK => ?_
      refine And.intro ⟨by omega, by simp only [List.length_cons]; omega⟩ ?_
      refine ⟨_, row_cell (hH2.at 0 rfl) (strsV_get (i := 0) rfl), ?_⟩
      (try refine Qs ?_)
      refine MemK_call Tryz.call12 ?_; refine Qs ?_; refine CallK.mk (form_does c0 w4) ?_
      rintro v w5 ⟨rfl, rfl⟩
      unfold formV
      cases hf : formS c0 with
      | none =>
        (try refine Qs ?_)
        apply hK; clear hK
        refine VS [5, 6, 8, 9, 17, 18, 19, 50] ?_
        refine VC_cond rfl rfl (fun h => ?_) (fun h => by simp at h)
        refine VS [2, 3, 4] ?_
        exact VC_ret (VX_ret3 rfl rfl rfl rfl (bad (by simp [lineS, hf]) (hH2.sub (List.nil_sublist _))))
      | some f =>
        (try refine Qs ?_)
        apply hK; clear hK
        refine VQ [5, 6, 8, 9, 17, 18, 19, 50] fun K hK => ?_
        refine And.intro (I64.mk (by simp only [List.length_cons]; omega) (by simp only [List.length_cons]; omega)) ?_
        apply hK; clear hK
        by_cases hlf : ar.length = f.length
        · refine VC_cond rfl rfl (fun h => by simp only [decide_eq_true_eq, List.length_cons] at h; omega) (fun h => VC_skip ?_)
          clear h
          refine VQ [5, 6, 8, 9, 17, 18, 19, 53, 54, 55] fun K hK => ?_
          have hsl : ∀ g n : Nat, (if n + 1 = Int.toNat 1 then some (⟨g, 0, none⟩ : Addr) else Option.map (fun x : Addr => x.add (Int.toNat 1)) (some ⟨g, 0, none⟩)) = argA g (n + 1) := fun g n => by
            rw [argA]; rfl
          simp only [List.length_cons]
          rw [hsl, show ar.length + 1 - Int.toNat 1 = ar.length from rfl]
          refine And.intro ⟨by omega, by omega, by omega⟩ ?_
          apply hK; clear hK
          refine VB ?_
          refine VC_loopS [5, 6, 8, 9, 17, 18, 19, 53, 54, 55] (fun m e w' => ∃ (k : Nat), k ≤ ar.length ∧ fitsL ar f = fitsL (ar.drop k) (f.drop k) ∧ Is e [(5, .slice a L.length c), (6, .int .i64 i), (8, .slice (some ⟨gw, 0, none⟩) (ar.length + 1) (ar.length + 1)), (9, Str f), (17, .slice (some ⟨gl, 0, none⟩) ls.length ls.length), (18, .int .i64 ls.length), (19, .int .i64 i), (53, .slice (argA gw (ar.length + 1)) ar.length ar.length), (54, .int .i64 ar.length), (55, .int .i64 k)] ∧ Heap w [] w' (strRow (some ⟨gw, 0, none⟩) (c0 :: ar) (c0 :: ar).length :: Res.row 32 2 a L.length c (lnsV L) :: strRow (some ⟨gl, 0, none⟩) ls ls.length :: L.reverse.map lnRow) ∧ m = ar.length - k) ar.length ?_ ?_
          · refine Qs ?_
            exact ⟨0, Nat.zero_le _, rfl, rfl, hH2, rfl⟩
          clear hH2
          rintro m e w6 ⟨k, hk, hfit, rfl, hH, rfl⟩
          refine VS [5, 6, 8, 9, 17, 18, 19, 53, 54, 55, 56] ?_
          (repeat refine VC_seq ?_)
          refine VD (fun h => ?_) (fun h => ?_)
          ·
            have hka : k < ar.length := by omega
            have hkf : k < f.length := by omega
            obtain ⟨x, hx⟩ : ∃ x, ar[k]? = some x := ⟨_, List.getElem?_eq_getElem hka⟩
            obtain ⟨y, hy⟩ : ∃ y, f[k]? = some y := ⟨_, List.getElem?_eq_getElem hkf⟩
            have hxn : x ≠ [] := hwn x (List.mem_cons_of_mem _ (List.mem_of_getElem? hx))
            have hd1 : ar.drop k = x :: ar.drop (k + 1) := by
              obtain ⟨h1, h2⟩ := List.getElem?_eq_some_iff.1 hx
              rw [List.drop_eq_getElem_cons h1, h2]
            have hd2 : f.drop k = y :: f.drop (k + 1) := by
              obtain ⟨h1, h2⟩ := List.getElem?_eq_some_iff.1 hy
              rw [List.drop_eq_getElem_cons h1, h2]
            rw [hd1, hd2] at hfit
            have hA : argA gw (ar.length + 1) = some ⟨gw, 1, none⟩ := by rw [argA, if_neg (by omega)]
            clear h
            refine VC_skip ?_
            refine VB ?_
            refine VQ [5, 6, 8, 9, 11, 12, 17, 18, 19, 53, 54, 55] fun K hK => ?_
            rw [hA]
            (try refine Qs ?_)
            (repeat first | refine Qo ?_ | refine Qp ?_)
            refine ⟨_, row_cell (hH.at 0 rfl) (strsV_get (i := 1 + k) (s := x) (by rw [Nat.add_comm]; simpa using hx)), ?_⟩
            (try refine Qs ?_)
            apply hK; clear hK
            refine VQ [5, 6, 8, 9, 17, 18, 19, 53, 54, 55, 65] fun K hK => ?_
            refine And.intro ⟨by omega, by omega⟩ ?_
            rw [show f.getD k 0 = y by rw [List.getD_eq_getElem?_getD, hy]; rfl]
            have hxl := hwm x (List.mem_cons_of_mem _ (List.mem_of_getElem? hx))
            refine MemK_call Tryz.call13 ?_; refine Qs ?_; refine CallK.mk (fits_does x y w6 (by omega) hxn) ?_
            rintro v w7 ⟨hF, rfl⟩
            have hH3 := hH.call0 hF
            clear hH hF
            (try refine Qs ?_)
            apply hK; clear hK
            have hfe : fitsL (x :: ar.drop (k + 1)) (y :: f.drop (k + 1)) = (fitsS x y && fitsL (ar.drop (k + 1)) (f.drop (k + 1))) := rfl
            rw [hfe] at hfit
            cases hfi : fitsS x y with
            | false =>
              rw [hfi, Bool.false_and] at hfit
              refine VC_cond rfl rfl (fun h => ?_) (fun h => by simp at h)
              refine VS [2, 3, 4] ?_
              exact VC_ret (VX_ret3 rfl rfl rfl rfl (bad (by simp [lineS, hf, hfit]) (hH3.sub (List.nil_sublist _))))
            | true =>
              rw [hfi, Bool.true_and] at hfit
              refine VC_cond rfl rfl (fun h => by simp at h) (fun h => VC_skip ?_)
              refine VC_blk ?_
              refine VS [5, 6, 8, 9, 17, 18, 19, 53, 54, 55] ?_
              refine VC_again ?_
              refine Qs ?_
              exact ⟨ar.length - (k + 1), by omega, k + 1, by omega, hfit, by rw [hA]; rfl, hH3, rfl⟩
          ·
            have hke : k = ar.length := by omega
            have hfl : fitsL ar f = true := by rw [hfit, hke, List.drop_length]; rfl
            refine VC_exit rfl ?_
            refine Vb [5, 17, 18, 19] [(0, 0), (1, 0), (2, 0), (4, 0), (5, 0), (3, 2), (6, 0), (7, 2), (8, 2), (9, 0)] fun K hK => ?_
            refine And.intro ⟨Int.le_refl 0, by omega⟩ (And.intro ⟨by omega, by omega, Nat.le_refl _⟩ ?_)
            refine ⟨_, row_cell (hH.at 0 rfl) (strsV_get (i := 0) rfl), ?_⟩
            rw [hsl, show ar.length + 1 - Int.toNat 1 = ar.length from rfl]
            (try refine Qs ?_)
            refine MemK_litK hH 2 (lnC (gw, ar.length + 1, c0 :: ar)) (xs := [.tmp 74]) Tryz.underlying23 sz32 rfl rfl rfl (by omega) (by omega) ?_
            refine Qs ?_
            refine ⟨rfl, by intro v hv; simp only [List.mem_cons, List.not_mem_nil, or_false] at hv; subst hv; rfl, fun ga w8 hE2 => ?_⟩
            (try refine Qs ?_)
            refine MemK_append ?_
            refine Qs ?_
            refine AppK_row (zs := #[.string ⟨#[]⟩, .slice none 0 0]) (bytes := 40) hE2 2 rfl Tryz.underlying23 (by kernel_rfl) rfl (m := 1) (news := lnC (gw, ar.length + 1, c0 :: ar)) ⟨rfl, row_rs (hE2.at 0 rfl), 32, Tryz.underlying23⟩ (lnC_one _) (fun h => by omega) fun a' cap' w9 hc' hH4 => ?_
            have hH5 : Heap w [] w9 (Res.row 32 2 a' (L ++ [(gw, ar.length + 1, c0 :: ar)]).length cap' (lnsV (L ++ [(gw, ar.length + 1, c0 :: ar)])) :: strRow (some ⟨gl, 0, none⟩) ls ls.length :: (L ++ [(gw, ar.length + 1, c0 :: ar)]).reverse.map lnRow) := by
              have h5 := ((hH4.sub (List.sublist_cons_self _ _)).front 2 rfl).front 2 rfl
              rw [List.length_append, List.length_singleton, lnsV_snoc, List.reverse_append]
              exact h5
            (try refine Qs ?_)
            apply hK; clear hK
            refine VC_blk ?_
            refine VS [5, 17, 18, 19] ?_
            refine VC_again ?_
            refine Qs ?_
            refine ⟨ls.length - (i + 1), by omega, i + 1, L ++ [(gw, ar.length + 1, c0 :: ar)], a', cap', by omega, ?_, ?_, hH5, by rw [List.length_append, List.length_singleton]; omega, rfl⟩
            · rw [hpd, parseG_ok (by rw [hws]; exact hns) (by rw [hws]; simp [lineS, hf, hlf, hfl]), List.map_append, hws]; rfl
            · rw [List.length_append, List.length_singleton]; rfl
        · refine VC_cond rfl rfl (fun h => ?_) (fun h => by simp only [decide_eq_false_iff_not, Decidable.not_not, List.length_cons] at h; omega)
          refine VS [2, 3, 4] ?_
          exact VC_ret (VX_ret3 rfl rfl rfl rfl (bad (by simp [lineS, hf, hlf]) (hH2.sub (List.nil_sublist _))))
  ·
    refine VC_exit rfl ?_
    have hil : i = ls.length := by omega
    refine VS [2, 3, 4] ?_
    refine VC_ret (VX_ret3 rfl rfl rfl rfl (parseOk_ok hb ?_ ?_))
    · rw [hls, hpd, hil, List.drop_length]; rfl
    · exact hH.sub (.cons_cons _ (List.sublist_cons_self _ _))
end Go.Proofs.YtabndnbgpfnhpaaGreatDoor
