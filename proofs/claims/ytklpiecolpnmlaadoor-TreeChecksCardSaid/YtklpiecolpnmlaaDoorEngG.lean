/- A program logic over the model: what is left to do, what is known of the frame, what the call holds of memory. No conditions: a library of lemmas. -/
import Derived.Test.YtklpiecolpnmlaaDoorEngF
set_option linter.unusedSimpArgs false
set_option linter.unusedVariables false
/-! The engine, part 19: regions in which three may come up. -/
namespace Go.Eng
open Go

inductive Tree3 where
  | seq (pre : List (Nat × Bool)) : Tree3
  | two (pre : List (Nat × Bool)) (i j : Nat) (k k' : Tree3) : Tree3
  | three (pre : List (Nat × Bool)) (i j x : Nat) (k k' k'' : Tree3) : Tree3

def treeOk3 (ops : Array Oper) : Tree3 → Nat → Array Bool → Bool
  | .seq pre, fuel, listed => decide (pre.length ≤ fuel) && match planTo ops pre listed with
    | some l => (Region.ready .any ops l).isEmpty
    | none => false
  | .two pre i j k k', fuel, listed => decide (pre.length + 1 ≤ fuel) && match planTo ops pre listed with
    | some l => Region.ready .any ops l == [i, j] && decide (i < ops.size) && decide (j < ops.size) && treeOk3 ops k (fuel - pre.length - 1) (l.setIfInBounds i true) && treeOk3 ops k' (fuel - pre.length - 1) (l.setIfInBounds j true)
    | none => false
  | .three pre i j x k k' k'', fuel, listed => decide (pre.length + 1 ≤ fuel) && match planTo ops pre listed with
    | some l => Region.ready .any ops l == [i, j, x] && decide (i < ops.size) && decide (j < ops.size) && decide (x < ops.size) && treeOk3 ops k (fuel - pre.length - 1) (l.setIfInBounds i true) && treeOk3 ops k' (fuel - pre.length - 1) (l.setIfInBounds j true) && treeOk3 ops k'' (fuel - pre.length - 1) (l.setIfInBounds x true)
    | none => false

def vcT3 (P : Program) (N : Nat) (ops : List Oper) (w0 : World) : Tree3 → Env → World → (Env → World → Prop) → Prop
  | .seq pre, e, w, K => vcH P N ops w0 (planned ops pre) e w K
  | .two pre i j k k', e, w, K => vcH P N ops w0 (planned ops pre) e w fun e w =>
      vcH P N ops w0 (planned ops [(i, false)]) e w (fun e w => vcT3 P N ops w0 k e w K) ∧ vcH P N ops w0 (planned ops [(j, false)]) e w (fun e w => vcT3 P N ops w0 k' e w K)
  | .three pre i j x k k' k'', e, w, K => vcH P N ops w0 (planned ops pre) e w fun e w =>
      vcH P N ops w0 (planned ops [(i, false)]) e w (fun e w => vcT3 P N ops w0 k e w K) ∧ vcH P N ops w0 (planned ops [(j, false)]) e w (fun e w => vcT3 P N ops w0 k' e w K) ∧ vcH P N ops w0 (planned ops [(x, false)]) e w (fun e w => vcT3 P N ops w0 k'' e w K)

section
variable {P : Program} {N : Nat} {ops : List Oper} {w0 : World} {Q : Exit → Act → World → Prop}
theorem vcT3_sound {K : Env → World → Prop} (hN : ops.all (dstOk N) = true) (hsel : Region.noSelect ops.toArray = true)
    (hQ : ∀ c a w (d : Option Tmp) v, Q (.panic c) (a.put d v) w → Q (.panic c) a w)
    (hK : ∀ e a w n, Fits N e a → K e w → Q .normal a (w.drewN n)) : ∀ (t : Tree3) (fuel : Nat) (listed : Array Bool) (e : Env) (a : Act) (w : World) (n : Nat),
      treeOk3 ops.toArray t fuel listed = true → Fits N e a → Ext w0 w → vcT3 P N ops w0 t e w K →
      wpAnyH P .any ops.toArray Q (fun w' => Ext w0 w') fuel listed a (w.drewN n) := by
  intro t
  induction t with
  | seq pre =>
    intro fuel listed e a w n ht ha hx h
    simp only [treeOk3, Bool.and_eq_true, decide_eq_true_eq] at ht
    obtain ⟨hf, ht⟩ := ht
    cases hp : planTo ops.toArray pre listed with
    | none => rw [hp] at ht; cases ht
    | some l =>
      rw [hp] at ht
      simp only [List.isEmpty_iff] at ht
      exact vcH_then hN hsel hQ pre fuel listed l e a w n hf hp ha hx h fun e a w n h1 _ h3 => wpAnyH_done ht (hK e a w n h1 h3) _
  | two pre i j k k' ihk ihk' =>
    intro fuel listed e a w n ht ha hx h
    simp only [treeOk3, Bool.and_eq_true, decide_eq_true_eq] at ht
    obtain ⟨hf, ht⟩ := ht
    cases hp : planTo ops.toArray pre listed with
    | none => rw [hp] at ht; cases ht
    | some l =>
      rw [hp] at ht
      simp only [Bool.and_eq_true, beq_iff_eq, decide_eq_true_eq] at ht
      obtain ⟨⟨⟨⟨hr, hi⟩, hj⟩, h1⟩, h2⟩ := ht
      refine vcH_then hN hsel hQ pre fuel listed l e a w n (by omega) hp ha hx h fun e a w n g1 g2 g3 => ?_
      obtain ⟨m, hm⟩ : ∃ m, fuel - pre.length = m + 1 := ⟨fuel - pre.length - 1, by omega⟩
      rw [hm]
      have hm' : fuel - pre.length - 1 = m := by omega
      rw [hm'] at h1 h2
      refine wpAnyH_all hr (by simp) ?_
      intro x hx2
      simp only [List.mem_cons, List.not_mem_nil, or_false] at hx2
      rcases hx2 with rfl | rfl
      · exact vcH_pick hN (by simpa using hi) g1 g2 g3.1 fun e a w n f1 f2 f3 => ⟨f2.trans (Ext.drewN w n), ihk m _ e a w n h1 f1 f2 f3⟩
      · exact vcH_pick hN (by simpa using hj) g1 g2 g3.2 fun e a w n f1 f2 f3 => ⟨f2.trans (Ext.drewN w n), ihk' m _ e a w n h2 f1 f2 f3⟩
  | three pre i j y k k' k'' ihk ihk' ihk'' =>
    intro fuel listed e a w n ht ha hx h
    simp only [treeOk3, Bool.and_eq_true, decide_eq_true_eq] at ht
    obtain ⟨hf, ht⟩ := ht
    cases hp : planTo ops.toArray pre listed with
    | none => rw [hp] at ht; cases ht
    | some l =>
      rw [hp] at ht
      simp only [Bool.and_eq_true, beq_iff_eq, decide_eq_true_eq] at ht
      obtain ⟨⟨⟨⟨⟨⟨hr, hi⟩, hj⟩, hy⟩, h1⟩, h2⟩, h3⟩ := ht
      refine vcH_then hN hsel hQ pre fuel listed l e a w n (by omega) hp ha hx h fun e a w n g1 g2 g3 => ?_
      obtain ⟨m, hm⟩ : ∃ m, fuel - pre.length = m + 1 := ⟨fuel - pre.length - 1, by omega⟩
      rw [hm]
      have hm' : fuel - pre.length - 1 = m := by omega
      rw [hm'] at h1 h2 h3
      refine wpAnyH_all hr (by simp) ?_
      intro x hx2
      simp only [List.mem_cons, List.not_mem_nil, or_false] at hx2
      rcases hx2 with rfl | rfl | rfl
      · exact vcH_pick hN (by simpa using hi) g1 g2 g3.1 fun e a w n f1 f2 f3 => ⟨f2.trans (Ext.drewN w n), ihk m _ e a w n h1 f1 f2 f3⟩
      · exact vcH_pick hN (by simpa using hj) g1 g2 g3.2.1 fun e a w n f1 f2 f3 => ⟨f2.trans (Ext.drewN w n), ihk' m _ e a w n h2 f1 f2 f3⟩
      · exact vcH_pick hN (by simpa using hy) g1 g2 g3.2.2 fun e a w n f1 f2 f3 => ⟨f2.trans (Ext.drewN w n), ihk'' m _ e a w n h3 f1 f2 f3⟩
end

/-- A region whose order is open, in every order that the tree names. -/
theorem VC_regionT3 {P : Program} {fn : Func} {F : Value → World → Prop} {N : Nat} {k : List It} {e : Env} {w : World} (w0 : World) (hx : Ext w0 w) (ks : List Nat) (t : Tree3) {id : Nat} {ops : List Oper}
    (hm : P.follows .mixedOrders = true) (hB : (treeOk3 ops.toArray t ops.toArray.size (Array.replicate ops.toArray.size false) && Region.noSelect ops.toArray) = true) (hN : ops.all (dstOk N) = true)
    (h : ∀ K : Env → World → Prop, (∀ e w, VC ⟨P, fn, F, N⟩ k e w → K e w) → vcT3 P N ops w0 t e w (selC ks K)) : VC ⟨P, fn, F, N⟩ (.code (.region id ops.toArray true) :: k) e w := by
  intro a n ha
  simp only [Bool.and_eq_true] at hB
  obtain ⟨hB1, hB2⟩ := hB
  refine wp_region_held (S := fun w' => Ext w0 w') hm ?_
  refine vcT3_sound (K := selC ks (VC ⟨P, fn, F, N⟩ k)) hN hB2 (fun c a w d v hq => cont_panic d v hq) (fun e a w n ha hv => ?_) t _ _ e a w (n + 1) hB1 ha hx (h _ fun _ _ hv => hv)
  exact ((selK_spec ks e _).1 hv) a n (ha.sel ks)
end Go.Eng

