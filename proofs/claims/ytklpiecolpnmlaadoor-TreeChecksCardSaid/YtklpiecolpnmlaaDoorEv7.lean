/- The evaluator: one operation; code; calls. -/
import Derived.Test.YtklpiecolpnmlaaDoorEv6
import Derived.Lib.Builder
import Derived.Lib.UnsafeStr
import Derived.Lib.Bytealg
import Derived.Lib.MakeNoZero
namespace Go.Ev
open Go Go.Eng
set_option linter.unusedVariables false
set_option linter.constructorNameAsVariable false
set_option linter.unusedSimpArgs false
section
variable {C : Cfg} {w0 w w' : World} {s : Mp} {h h' : Hp} {n : Rg} {N : Nat} {e : Env'} {a : Act}

/-- The evaluator's word, over the model's. -/
def W (C : Cfg) (w0 : World) (n : Rg) (s : Mp) (c : KH) (v : Value) (w' : World) : Prop := ∃ s' av h' n', Ls n s n' s' ∧ Rel s' av v ∧ SH C.P w0 s' h' n' w' ∧ c av h' n' = true

theorem szo_s {P : Program} {T : TypeId} {z : Nat} (h : P.szo T = some z) : ∃ j, P.info? T = some j ∧ j.size = z := by
  unfold Program.szo at h
  cases hi : P.info? T with
  | none => rw [hi] at h; simp at h
  | some j => rw [hi] at h; simp at h; exact ⟨j, rfl, h⟩
theorem unsK_s {S T : TypeId} {x : AV} {v : Value} {c : KV} (H : SH C.P w0 s h n w) (hx : Rel s x v) (hk : unsK C.P S T x h c = true) : ∃ av v', c av = true ∧ Rel s av v' ∧ (convert S T v).run C.P w = .ok v' w := by
  unfold unsK at hk
  split at hk
  · rename_i id o
    cases hx with | ptr hid =>
    obtain ⟨B, hB, h1⟩ := orec_f hk
    obtain ⟨b', k', hs, hb0, hBH⟩ := H.blk _ _ hB
    rw [hid] at hs; cases hs
    obtain ⟨vs, rest, fz, g1, g2, g3, g4, g5, g6⟩ := hBH
    have hsh : ∀ b : Nat, w.heap[b]? = some (.cells (vs ++ rest).toArray B.T fz) → w.shape? b = some (B.T, (vs ++ rest).length) := fun b hb => by simp [World.shape?, hb]
    split at h1
    · rename_i t hu1 hu2
      obtain ⟨z, hz, h2⟩ := orec_f h1
      obtain ⟨h3, h4⟩ := brec_f h2
      simp only [Bool.and_eq_true] at h3
      obtain ⟨j, hj, rfl⟩ := szo_s hz
      have e1 := Nat.blt_eq.mp h3.1
      have e2 := Nat.blt_eq.mp h3.2
      exact ⟨_, _, h4, .ptr hid, Go.Lib.run_to_unsafe w _ hu1 hu2 hj (by omega) (hsh _ g1) (by simp; omega)⟩
    · rename_i u hu1 hu2
      obtain ⟨h3, h4⟩ := brec_f h1
      simp only [Bool.and_eq_true, Bool.not_eq_true'] at h3
      obtain ⟨⟨ho, hz⟩, hl⟩ := h3
      obtain ⟨z, hz⟩ := Option.isSome_iff_exists.1 hz
      obtain ⟨j, hj, rfl⟩ := szo_s hz
      have hr := g5 ho
      subst hr
      refine ⟨_, _, h4, .ptr hid, Go.Lib.run_from_unsafe w _ hu1 hu2 hj (hsh _ g1) ?_⟩
      rw [List.append_nil, g2]; exact hl
    · cases h1
  · cases hk
theorem neqK_s {T : TypeId} {x y : AV} {u v : Value} {c : KV} (hx : Rel s x u) (hy : Rel s y v) (hk : neqK C.P T x y c = true) : c (.bool false) = true ∧ (∃ ad, u = .pointer (some ad)) ∧ (binOp .neq T u v).run C.P w = .ok (.bool false) w := by
  unfold neqK at hk
  split at hk
  · rename_i i o j p
    obtain ⟨h1, h2⟩ := brec_f hk
    simp only [Bool.and_eq_true] at h1
    obtain ⟨⟨e1, e2⟩, h3⟩ := h1
    obtain rfl := Nat.eq_of_beq_eq_true e1
    obtain rfl := Nat.eq_of_beq_eq_true e2
    cases hx with | ptr g1 =>
    cases hy with | ptr g2 =>
    rw [g1] at g2; cases g2
    split at h3
    · rename_i e hu
      obtain ⟨z, hz⟩ := Option.isSome_iff_exists.1 h3
      obtain ⟨j, hj, _⟩ := szo_s hz
      exact ⟨h2, ⟨_, rfl⟩, Go.Lib.run_neq_ptr_same w _ hu hj⟩
    · cases h3
  · cases hk

theorem isOne_s {P : Program} {E : TypeId} (h : isOne P E = true) : P.szo E = some 1 := by
  unfold isOne at h
  split at h
  · rename_i z hz; rw [hz, Nat.eq_of_beq_eq_true h]
  · cases h
/-- A block that is looked at no more. -/
theorem SH.drop {P : Program} {i b k : Nat} {B : Blk} (H : SH P w0 s h n w) (hB : h.get i = some B) (hs : s i = some (b, k)) (hh : ∀ j, h'.get j = if j = i then none else h.get j) (hlp : h'.lp = h.lp) (hu : Upd [b] w w') : SH P w0 s h' n w' := by
  obtain ⟨b1, k1, hs1, hb0, hB1⟩ := H.blk i B hB
  rw [hs] at hs1; cases hs1
  have key : ∀ j C, h'.get j = some C → j ≠ i ∧ h.get j = some C := fun j C hj => by
    rw [hh] at hj
    split at hj
    · cases hj
    · rename_i hji; exact ⟨hji, hj⟩
  refine ⟨H.upd.trans hu (by intro x hx; simp at hx; subst hx; exact .inr hb0), fun j C hj => ?_, fun j1 j2 C D b1 c1 c2 h1 h2 h3 h4 => H.inj _ _ _ _ _ _ _ (key _ _ h1).2 (key _ _ h2).2 h3 h4, H.fresh, fun j p hj => (H.lps j p (by rw [← hlp]; exact hj)).keep (Le.refl s) fun q hq hn => hu.block q hq fun hx => ?_, fun j1 j2 p q d c c' h1 h2 => H.lin j1 j2 p q d c c' (by rw [← hlp]; exact h1) (by rw [← hlp]; exact h2)⟩
  · obtain ⟨hji, hj⟩ := key j C hj
    obtain ⟨b2, k2, hs2, hb2, hB2⟩ := H.blk j C hj
    have hne : b2 ≠ b := fun he => by subst he; exact hji (H.inj _ _ _ _ _ _ _ hj hB hs2 hs)
    exact ⟨b2, k2, hs2, hb2, hB2.mono (Le.refl s) (hu.block _ hB2.lt (by simpa using hne))⟩
  · simp at hx; subst hx
    obtain ⟨vs, rest, fz, g1, _⟩ := hB1
    exact hn _ _ _ g1
theorem upd_freeze (w : World) (b m : Nat) : Upd [b] w (w.freeze ⟨b, 0, none⟩ m) := by
  unfold World.freeze
  split
  · exact Upd.refl _ _
  · exact ⟨rfl, rfl, rfl, by simp, fun k hk hn => by
      simp only [Array.getElem?_modify]
      rw [if_neg (by simp at hn; omega)]⟩
theorem find_idx (fn : Func) (h : fn.name = "internal/bytealg.IndexByteString") (ho : fn.origin = "") : Extern.findNext fn = none ∧ Extern.find fn = some Extern.BytealgIndexByte.indexByte := by
  obtain ⟨name, origin, targs, params⟩ := fn
  simp only at h ho
  subst h; subst ho
  constructor <;> rfl
theorem find_cnt (fn : Func) (h : fn.name = "internal/bytealg.CountString") (ho : fn.origin = "") : Extern.findNext fn = none ∧ Extern.find fn = some Extern.BytealgCount.count := by
  obtain ⟨name, origin, targs, params⟩ := fn
  simp only at h ho
  subst h; subst ho
  constructor <;> rfl
theorem find_cmp (fn : Func) (h : fn.name = "internal/bytealg.abigen_runtime_cmpstring") (ho : fn.origin = "") : Extern.findNext fn = none ∧ Extern.find fn = some Extern.BytealgCompare.compare := by
  obtain ⟨name, origin, targs, params⟩ := fn
  simp only at h ho
  subst h; subst ho
  constructor <;> rfl
theorem find_same (fn : Func) (h : fn.name = "internal/abi.NoEscape") (ho : fn.origin = "") : Extern.findNext fn = none ∧ Extern.find fn = some Extern.AbiNoEscape.same := by
  obtain ⟨name, origin, targs, params⟩ := fn
  simp only at h ho
  subst h; subst ho
  constructor <;> rfl
theorem find_mnz (fn : Func) (h : fn.name = "internal/bytealg.MakeNoZero") (ho : fn.origin = "") : Extern.findNext fn = none ∧ Extern.find fn = some (Extern.BytealgMakeNoZero.makeNoZero fn.params fn.resultTypes) := by
  obtain ⟨name, origin, targs, params⟩ := fn
  simp only at h ho
  subst h; subst ho
  constructor <;> rfl

theorem idxK_s {b : Nat} (hb : b < 256) {c : KV} : ∀ (l : List Nat) (k : Nat), (∀ x ∈ l, x < 256) →
    idxK b c l k = c (.int .i64 (if Go.Lib.indexByte (l.map UInt8.ofNat) (UInt8.ofNat b) = -1 then -1 else (k : Int) + Go.Lib.indexByte (l.map UInt8.ofNat) (UInt8.ofNat b))) := by
  intro l
  induction l with
  | nil => intro k _; rfl
  | cons a l ih =>
    intro k hl
    show (Bool.rec (idxK b c l (Nat.succ k)) (forceN k fun k => c (.int .i64 (.ofNat k))) (Nat.beq a b) : Bool) = _
    have ha := hl a List.mem_cons_self
    have hi := Go.Lib.indexByte_ge (l.map UInt8.ofNat) (UInt8.ofNat b)
    rw [ih _ fun x hx => hl x (List.mem_cons_of_mem _ hx), forceN_eq]
    simp only [List.map_cons, Go.Lib.indexByte]
    cases h : Nat.beq a b with
    | true =>
      have e := Nat.eq_of_beq_eq_true h
      subst e
      simp
    | false =>
      have hne : (UInt8.ofNat a == UInt8.ofNat b) = false := by
        rw [beq_eq_false_iff_ne]
        exact fun he => Nat.ne_of_beq_eq_false h (ofNat_inj ha hb he)
      simp only [hne]
      generalize Go.Lib.indexByte (l.map UInt8.ofNat) (UInt8.ofNat b) = r at *
      by_cases hr : r = -1
      · subst hr; rfl
      · have hr2 : (r == -1) = false := by simpa using hr
        simp only [hr2, if_neg hr]
        have : ¬ (r + 1 = -1) := by omega
        simp only [Bool.false_eq_true, if_false, if_neg this]
        congr 2
        omega
theorem cntL_s {b : Nat} (hb : b < 256) : ∀ (l : List Nat), (∀ x ∈ l, x < 256) → cntL b l = Go.Lib.countByte (l.map UInt8.ofNat) (UInt8.ofNat b) := by
  intro l
  induction l with
  | nil => intro _; rfl
  | cons a l ih =>
    intro hl
    have ha := hl a List.mem_cons_self
    have ih := ih fun x hx => hl x (List.mem_cons_of_mem _ hx)
    show (Bool.rec (cntL b l) (Nat.succ (cntL b l)) (Nat.beq a b) : Nat) = _
    unfold Go.Lib.countByte at *
    rw [List.map_cons, List.count_cons, ih]
    cases h : Nat.beq a b with
    | true =>
      have e := Nat.eq_of_beq_eq_true h
      subst e
      simp
    | false =>
      have hne : (UInt8.ofNat a == UInt8.ofNat b) = false := by
        rw [beq_eq_false_iff_ne]
        exact fun he => Nat.ne_of_beq_eq_false h (ofNat_inj ha hb he)
      simp [hne]
theorem cmpK_s {c : KV} : ∀ (l m : List Nat), (∀ x ∈ l, x < 256) → (∀ x ∈ m, x < 256) → cmpK l m c = c (.int .i64 (Go.Lib.compareBytes (l.map UInt8.ofNat) (m.map UInt8.ofNat))) := by
  have key : ∀ (l m : List Nat), (∀ x ∈ l, x < 256) → (∀ x ∈ m, x < 256) → Go.Lib.compareBytes (l.map UInt8.ofNat) (m.map UInt8.ofNat) = if l = m then 0 else if ltL l m = true then -1 else 1 := by
    intro l
    induction l with
    | nil => intro m _ _; cases m <;> simp [Go.Lib.compareBytes, ltL]
    | cons a l ih =>
      intro m hl hm
      cases m with
      | nil => simp [Go.Lib.compareBytes, ltL]
      | cons b m =>
        have ha := hl a List.mem_cons_self
        have hb := hm b List.mem_cons_self
        have ih := ih m (fun x hx => hl x (List.mem_cons_of_mem _ hx)) (fun x hx => hm x (List.mem_cons_of_mem _ hx))
        have e1 : (UInt8.ofNat a < UInt8.ofNat b) ↔ a < b := ofNat_lt ha hb
        have e2 : (UInt8.ofNat b < UInt8.ofNat a) ↔ b < a := ofNat_lt hb ha
        have e3 : ltL (a :: l) (b :: m) = (Bool.rec (Bool.rec false (ltL l m) (Nat.beq a b)) true (Nat.blt a b) : Bool) := rfl
        simp only [List.map_cons, Go.Lib.compareBytes, e1, e2, ih, e3]
        rcases Nat.lt_trichotomy a b with h | h | h
        · rw [Nat.blt_eq.mpr h]
          have : a ≠ b := by omega
          simp [h, this]
        · subst h
          have h1 : Nat.blt a a = false := by cases hh : Nat.blt a a with | false => rfl | true => exact absurd (Nat.blt_eq.mp hh) (by omega)
          simp [h1]
        · have h1 : Nat.blt a b = false := by cases hh : Nat.blt a b with | false => rfl | true => exact absurd (Nat.blt_eq.mp hh) (by omega)
          have h2 : Nat.beq a b = false := by cases hh : Nat.beq a b with | false => rfl | true => exact absurd (Nat.eq_of_beq_eq_true hh) (by omega)
          have : a ≠ b := by omega
          have h3 : ¬ a < b := by omega
          simp [h1, h2, h, this, h3]
  intro l m hl hm
  rw [key l m hl hm]
  unfold cmpK
  rw [eqL_eq]
  by_cases h : l = m
  · simp [h]
  · simp only [h, decide_false, if_false]
    cases ltL l m <;> rfl

theorem extK_s {fn : Func} {f : FuncId} {args : List AV} {vs : List Value} {c : KH} (hf : C.P.funcs[f]? = some fn) (hb : fn.body.isSome = false) (H : SH C.P w0 s h n w) (hrel : RelL s args vs) (hk : extK C.P fn args h n c = true) :
    Comes1 C.P (W C w0 n s c) ((callFunc f vs.toArray).run C.P w) := by
  obtain ⟨ho, hk1⟩ := brec_f (show (Bool.rec false _ (fn.origin == "") : Bool) = true from hk)
  clear hk
  (have hk := hk1; clear hk1)
  have ho := eq_of_beq ho
  have hb' : fn.body.isNone = true := by cases hq : fn.body with | none => rfl | some _ => rw [hq] at hb; cases hb
  have fin : ∀ {nm : String} {e : Array Value → Sem Value} {v : Value} {w' : World}, fn.name = nm → (nm == "runtime.NumGoroutine") = false → (Extern.findNext fn = none ∧ Extern.find fn = some e) → (e vs.toArray).run C.P w = .ok v w' → (callFunc f vs.toArray).run C.P w = .ok (.value v) w' := by
    intro nm e v w' h1 h2 h3 h4
    rw [run_callFunc_extern hf (by rw [h1]; exact h2) hb' h3.1 h3.2, h4]; rfl
  rcases brec_t hk with ⟨hn, hk1⟩ | ⟨hn, hk1⟩ <;> clear hk <;> (have hk := hk1; clear hk1)
  · have hn := eq_of_beq hn
    split at hk
    · rename_i a b
      obtain ⟨hb2, hk1⟩ := brec_f hk
      clear hk
      (have hk := hk1; clear hk1)
      obtain ⟨v1, m1, rfl, g1, g2⟩ := hrel.cons_inv
      obtain ⟨v2, m2, rfl, g3, g4⟩ := g2.cons_inv
      obtain rfl := g4.nil_inv
      cases g1 with | str _ hl =>
      cases g3
      have hb2 : b < 256 := Nat.blt_eq.mp hb2
      have hk : idxK b (fun v => c v h n) a 0 = true := hk
      rw [idxK_s hb2 a 0 hl] at hk
      refine .inl ⟨_, w, fin hn rfl (find_idx fn hn ho) (Go.Lib.run_indexByteString _ _ w), s, _, h, n, Ls.refl n s, ?_, H, hk⟩
      have e1 : (if Go.Lib.indexByte (a.map UInt8.ofNat) (UInt8.ofNat b) = -1 then -1 else ((0 : Nat) : Int) + Go.Lib.indexByte (a.map UInt8.ofNat) (UInt8.ofNat b)) = Go.Lib.indexByte (a.map UInt8.ofNat) (UInt8.ofNat b) := by
        split
        · rename_i h; exact h.symm
        · simp
      rw [e1]
      exact .int .i64 _
    · cases hk
  rcases brec_t hk with ⟨hn, hk1⟩ | ⟨hn, hk1⟩ <;> clear hk <;> (have hk := hk1; clear hk1)
  · have hn := eq_of_beq hn
    split at hk
    · rename_i a b
      obtain ⟨hb2, hk1⟩ := brec_f hk
      clear hk
      (have hk := hk1; clear hk1)
      obtain ⟨v1, m1, rfl, g1, g2⟩ := hrel.cons_inv
      obtain ⟨v2, m2, rfl, g3, g4⟩ := g2.cons_inv
      obtain rfl := g4.nil_inv
      cases g1 with | str _ hl =>
      cases g3
      have hb2 : b < 256 := Nat.blt_eq.mp hb2
      rw [forceN_eq] at hk
      rw [cntL_s hb2 a hl] at hk
      exact .inl ⟨_, w, fin hn rfl (find_cnt fn hn ho) (Go.Lib.run_countString _ _ w), s, _, h, n, Ls.refl n s, .int .i64 _, H, hk⟩
    · cases hk
  rcases brec_t hk with ⟨hn, hk1⟩ | ⟨hn, hk1⟩ <;> clear hk <;> (have hk := hk1; clear hk1)
  · have hn := eq_of_beq hn
    split at hk
    · rename_i a b
      obtain ⟨v1, m1, rfl, g1, g2⟩ := hrel.cons_inv
      obtain ⟨v2, m2, rfl, g3, g4⟩ := g2.cons_inv
      obtain rfl := g4.nil_inv
      cases g1 with | str _ hl =>
      cases g3 with | str _ hm =>
      rw [cmpK_s a b hl hm] at hk
      exact .inl ⟨_, w, fin hn rfl (find_cmp fn hn ho) (Go.Lib.run_compareString _ _ w), s, _, h, n, Ls.refl n s, .int .i64 _, H, hk⟩
    · cases hk
  rcases brec_t hk with ⟨hn, hk1⟩ | ⟨hn, hk1⟩ <;> clear hk <;> (have hk := hk1; clear hk1)
  · have hn := eq_of_beq hn
    split at hk
    · obtain ⟨v1, m1, rfl, g1, g2⟩ := hrel.cons_inv
      obtain rfl := g2.nil_inv
      exact .inl ⟨_, w, fin hn rfl (find_same fn hn ho) (Go.Lib.run_noEscape (w := w) _), s, _, h, n, Ls.refl n s, g1, H, hk⟩
    · cases hk
  rcases brec_t hk with ⟨hn, hk1⟩ | ⟨hn, hk1⟩ <;> clear hk <;> (have hk := hk1; clear hk1)
  · have hn := eq_of_beq hn
    split at hk
    · rename_i m T hres
      obtain ⟨E, hE, hk1⟩ := orec_f hk
      obtain ⟨hb2, hk2⟩ := brec_f hk1
      simp only [Bool.and_eq_true] at hb2
      obtain ⟨v1, m1, rfl, g1, g2⟩ := hrel.cons_inv
      obtain rfl := g2.nil_inv
      obtain rfl := g1.int_inv
      have hm : m ≤ 281474976710656 := Nat.le_of_ble_eq_true hb2.1
      obtain ⟨h00, h', t, h1, h2, h3, h4⟩ := newK_s hk2
      have hrt : fn.resultTypes = #[T] := by apply Array.ext'; simpa using hres
      obtain ⟨cs, hr, hc1, hc2⟩ := Go.Lib.run_makeNoZero (P := C.P) w fn.params T E (eltOf_s hE) m hm
      have hsz := isOne_s hb2.2
      have hfin := fin hn rfl (find_mnz fn hn ho) (v := .slice (some ⟨w.heap.size, 0, none⟩) m cs.size) (w' := w.drew.drew.alloc (.cells cs E)) (by rw [hrt]; exact hr)
      have hls := H.ls h00 (w.heap.size, cs.size)
      refine .inl ⟨_, _, hfin, updM s n.1 (w.heap.size, cs.size), _, h', _, hls, .os (updM_self _ _ _) hc1, ?_, h1⟩
      have e1 : (cs.toList.take m ++ cs.toList.drop m).toArray = cs := by rw [List.take_append_drop]
      have e2 : (cs.toList.take m ++ cs.toList.drop m).length = cs.size := by rw [List.take_append_drop]; simp
      refine SH.new (H.drew 2) h00 (Nat.le_refl _) (upd_alloc (w.drewN 2) _) h4 h3 ⟨cs.toList.take m, cs.toList.drop m, (0, 0), ?_, ?_, fun i a ha => ?_, unfz00 _, fun he => (by cases he), fun _ => ⟨1, hsz, by rw [e2]; simp, hc2 (by simp only [maxLen]; omega)⟩⟩
      · rw [e1]; exact heap_alloc_new (w.drewN 2) _
      · show (cs.toList.take m).length = m
        simp; omega
      · rw [Blk.at_eq] at ha
        simp only [h2] at ha
        split at ha
        · simp at ha
        · cases ha
    · cases hk
  · cases hk

/-- What the evaluator's word on a round means. -/
def YieldOk (C : Cfg) (w0 : World) (rec : CT) : Prop :=
  ∀ (id : Nat) (args : List AV) (h : Hp) (n : Rg) (c : KH), yieldK rec id args h n c = true → ∀ (s : Mp) (w : World) (vs : List Value) (d k : Nat), SH C.P w0 s h n w → s id = some (d, k) → RelL s args vs →
    ∃ fn tmps asg bd, (Instr.yield (d + 1) vs.toArray).run C.P w = .ok (.round (d + 1) fn tmps asg bd) w ∧ RoundIn Fence.wide 0 C.P (d + 1) fn tmps asg bd w fun e w' => ∃ v, e = .returned v ∧ W C w0 n s c v w'

theorem effK_s {rec : CT} (hrec : CallOk C.P w0 (callK C.P rec)) (hyl : YieldOk C w0 rec) (hkn : KnOk C) {o : Oper} {c : KH} (H : SH C.P w0 s h n w) (F : FE N s e a) (hk : effK C rec o.op e h n c = true) :
    Comes1 C.P (W C w0 n s c) ((execOp a.eval o).run C.P w) := by
  generalize ho : o.op = op at hk
  cases op with
  | store T x y =>
    obtain ⟨ax, h1, h2⟩ := argK_v (c := fun a => argK e y fun v => storeK C.P T a v h fun h => c (.tup []) h n) F hk
    obtain ⟨ay, h3, h4⟩ := argK_v F h1
    obtain ⟨h', w', h5, h6, h7⟩ := storeK_s H h2 h4 h3
    exact .inr (.inl ⟨w', by simp only [execOp, ho, Sem.run_bind, h7, Result.andThen_ok, Sem.run_pure], s, .tup [], h', n, Ls.refl n s, .tup .nil, h6, h5⟩)
  | alloc T =>
    obtain ⟨z, m, hz, h1, h2⟩ := zeroCs_s (s := s) (show zeroCs C.P T (fun l => lenL l fun m => newK T false l none m h n fun id h n' => c (.ptr id 0) h n') = true from hk)
    rw [lenL_eq] at h1
    obtain ⟨h00, h', h3, h4⟩ := alloc_s 0 H h2 h1
    refine .inl ⟨_, _, ?_, _, _, h', _, H.ls h00 _, .ptr (updM_self _ _ _), h4, h3⟩
    simp only [execOp, ho, Instr.alloc, run_zeroOf hz, Sem.run_bind, run_newVar, Result.andThen_ok, Sem.run_pure]
  | box T x =>
    obtain ⟨ax, h1, h2⟩ := argK_v (c := fun z => cellsK z fun l => lenL l fun m => newK T false l none m h n fun id h n' => c (.ptr id 0) h n') F hk
    obtain ⟨l, vs, h3, h4, h5, _⟩ := cellsK_s h2 h1
    rw [lenL_eq] at h3
    obtain ⟨h00, h', h6, h7⟩ := alloc_s 0 H h4 h3
    refine .inl ⟨_, _, ?_, _, _, h', _, H.ls h00 _, .ptr (updM_self _ _ _), h7, h6⟩
    simp only [execOp, ho, Instr.box, Sem.run_bind, run_newVar, Result.andThen_ok, Sem.run_pure, h5]
  | buildSlice T len ps =>
    obtain ⟨m, h1, h2, h3⟩ := argsP_v F (show argsP e ps.toList (fun ps => buildSliceK C.P T len ps h n c) = true from hk)
    obtain ⟨s', av, v, h', n', w', h4, h5, h6, h7, h8⟩ := buildSliceK_s H h2 h3 h1
    refine .inl ⟨v, w', ?_, s', av, h', n', h4, h5, h6, h7⟩
    have e1 : (ps.map fun (i, x) => (i, a.eval x)) = (ps.toList.map fun p => (p.1, a.eval p.2)).toArray := by apply Array.ext'; simp
    simp only [execOp, ho, Sem.run_bind, e1, h8, Result.andThen_ok, Sem.run_pure]
  | makeSlice T x y =>
    obtain ⟨ax, h1, h2⟩ := argK_v (c := fun a => argK e y fun b => makeK C.P T a b h n c) F hk
    obtain ⟨ay, h3, h4⟩ := argK_v F h1
    obtain ⟨s', av, v, h', n', w', h5, h6, h7, h8, h9⟩ := makeK_s H h2 h4 h3
    exact .inl ⟨v, w', by simp only [execOp, ho, Sem.run_bind, h9, Result.andThen_ok, Sem.run_pure], s', av, h', n', h5, h6, h7, h8⟩
  | convert S T x =>
    obtain ⟨ax, h1, h2⟩ := argK_v (x := x) (c := fun a => (Bool.rec (bytesK C.P S T a h n c) (unsK C.P S T a h fun v => c v h n) (isUns C.P S || isUns C.P T) : Bool)) F (show argK e x (fun a => (Bool.rec (bytesK C.P S T a h n c) (unsK C.P S T a h fun v => c v h n) (isUns C.P S || isUns C.P T) : Bool)) = true from hk)
    rcases brec_t h1 with ⟨_, h1⟩ | ⟨_, h1⟩
    · obtain ⟨av, v', h3, h4, h5⟩ := unsK_s H h2 h1
      exact .inl ⟨v', w, by simp only [execOp, ho, Sem.run_bind, h5, Result.andThen_ok, Sem.run_pure], s, av, h, n, Ls.refl n s, h4, H, h3⟩
    · obtain ⟨s', av, v, h', n', w', h5, h6, h7, h8, h9⟩ := bytesK_s H h2 h1
      exact .inl ⟨v, w', by simp only [execOp, ho, Sem.run_bind, h9, Result.andThen_ok, Sem.run_pure], s', av, h', n', h5, h6, h7, h8⟩
  | binOp op T x y yt =>
    cases op <;> first | exact (Bool.false_ne_true hk).elim | skip
    obtain ⟨ax, h1, h2⟩ := argK_v (c := fun a => argK e y fun b => neqK C.P T a b fun v => c v h n) F hk
    obtain ⟨ay, h3, h4⟩ := argK_v F h1
    obtain ⟨h5, ⟨ad, hu⟩, h6⟩ := neqK_s (w := w) h2 h4 h3
    exact .inl ⟨_, w, by simp only [execOp, ho, Sem.run_bind, eqGuard_free (x := a.eval x) ⟨by rw [hu]; simp, by rw [hu]; simp⟩, h6, Result.andThen_ok, Sem.run_pure], s, _, h, n, Ls.refl n s, .bool false, H, h5⟩
  | call cl =>
    have hk : ccK C rec cl e h n c = true := hk
    unfold ccK at hk
    obtain ⟨vs, h1, h2⟩ := argsK_v F hk
    clear hk
    obtain ⟨callee, xs, ts⟩ := cl
    simp only at h1 h2
    have hm : (xs.map a.eval) = (xs.toList.map a.eval).toArray := map_eval xs a
    split at h1
    · rename_i x
      obtain ⟨af, h3, h4⟩ := argK_v F h1
      split at h3
      · rename_i f first cap
        generalize hx : a.eval x = fv at h4
        cases h4 with | fn g1 g2 =>
        rename_i l' m'
        rw [forceA_eq] at h3
        have hrel : RelL s (first ++ (vs ++ cap)) (l' ++ (xs.toList.map a.eval ++ m')) := g1.append (h2.append g2)
        have e1 : l'.toArray ++ (xs.toList.map a.eval).toArray ++ m'.toArray = (l' ++ (xs.toList.map a.eval ++ m')).toArray := by
          apply Array.ext'; simp
        have hrun : (∀ (w : World) (vs : Array Value), (callFunc f vs).run C.P w = .ok (.enter f vs) w) → (execOp a.eval o).run C.P w = .ok (.enter f (l' ++ (xs.toList.map a.eval ++ m')).toArray) w := by
          intro hf
          simp only [execOp, ho, resolve, hx, Deferred.ofValue, Sem.run_bind, Sem.run_pure, Result.andThen_ok, invoke, hm, e1]
          simp [hf]
        have hrun0 : (execOp a.eval o).run C.P w = (callFunc f (l' ++ (xs.toList.map a.eval ++ m')).toArray).run C.P w := by
          simp only [execOp, ho, resolve, hx, Deferred.ofValue, Sem.run_bind, Sem.run_pure, Result.andThen_ok, invoke, hm, e1]
        cases hkf : C.kn f (first ++ (vs ++ cap)) with
        | none =>
          rw [hkf] at h3
          cases hkq : C.kr f with
          | none =>
            rw [hkq] at h3
            have h3 : goK C.P rec f (first ++ (vs ++ cap)) h n c = true := h3
            unfold goK at h3
            split at h3
            · rename_i fn hfn
              rcases brec_t h3 with ⟨_, h3⟩ | ⟨hbody, h3⟩
              · obtain ⟨h5, h6⟩ := hrec _ _ _ _ _ h3 s w _ H hrel
                refine .inr (.inr (.inl ⟨f, _, w, hrun h5, h6.mono fun e' w' => ?_⟩))
                rintro ⟨v, s', av, h', n', rfl, g⟩
                exact ⟨v, rfl, s', av, h', n', g⟩
              · rw [hrun0]
                exact extK_s hfn hbody H hrel h3
            · cases h3
          | some q =>
            rw [hkq] at h3
            generalize (first ++ (vs ++ cap)) = args1 at h3 hrel
            generalize (l' ++ (xs.toList.map a.eval ++ m')) = us at hrel hrun
            simp only at h3
            split at h3
            · rename_i x
              obtain ⟨u, us', rfl, g3, g4⟩ := hrel.cons_inv
              obtain rfl := g4.nil_inv
              obtain ⟨ad, m, cp, l, us, rfl, g5, g6, g7⟩ := rowK_s H g3 h3
              obtain ⟨h5, h6⟩ := hkn.kr f q hkq m l _ g5 s w us ad cp g6 g7 (row_spot g3 rfl)
              refine .inr (.inr (.inl ⟨f, _, w, hrun h5, h6.mono fun e' w' => ?_⟩))
              rintro ⟨v, av, rfl, g8, g9, g10⟩
              exact ⟨v, rfl, s, av, h, n, Ls.refl n s, g8, H.upd0 g10, g9⟩
            · cases h3
        | some av =>
          rw [hkf] at h3
          obtain ⟨h5, h6⟩ := hkn.kn _ _ _ hkf s w _ hrel
          refine .inr (.inr (.inl ⟨f, _, w, hrun h5, h6.mono fun e' w' => ?_⟩))
          rintro ⟨v, rfl, g1, g2⟩
          refine ⟨v, rfl, s, av, h, n, Ls.refl n s, g1, H.upd0 g2, ?_⟩
          have h3 : forceV av (fun v => c v h n) = true := h3
          unfold forceV at h3
          split at h3
          · rw [forceL_eq] at h3; exact h3
          · exact h3
      · rename_i id
        generalize hx : a.eval x = fv at h4
        cases h4 with | yld hid =>
        rename_i d k
        obtain ⟨fn, tmps, asg, bd, hy, hR⟩ := hyl _ _ _ _ _ h3 s w _ d k H hid h2
        refine .inr (.inr (.inr ⟨d + 1, fn, tmps, asg, bd, w, ?_, hR⟩))
        simp only [execOp, ho, resolve, hx, Deferred.ofValue, Sem.run_bind, Sem.run_pure, Result.andThen_ok, invoke, hm]
        simpa using hy
      · cases h3
    · split at h1
      · rename_i x y T T' hts
        obtain ⟨v1, m1, he, h3, h4⟩ := h2.cons_inv
        obtain ⟨v2, m2, rfl, h5, h6⟩ := h4.cons_inv
        obtain rfl := h6.nil_inv
        obtain ⟨s', av, v, h', n', w', h7, h8, h9, h10, h11⟩ := appendK_s (ty := o.type) H h3 h5 h1
        refine .inl ⟨v, w', ?_, s', av, h', n', h7, h8, h9, h10⟩
        have ets : ts = #[T, T'] := by apply Array.ext'; simpa using hts
        simp only [execOp, ho, resolve, invoke, builtin, hm, he, ets, Sem.run_bind, Sem.run_pure, Result.andThen_ok, h11]
      · cases h1
    · split at h1
      · rename_i T hts
        obtain ⟨v1, m1, he, h3, h4⟩ := h2.cons_inv
        obtain rfl := h4.nil_inv
        obtain ⟨h5, h6⟩ := brec_f h1
        obtain ⟨E, hu⟩ := isSl_s h5
        cases h3
        have ets : ts = #[T] := by apply Array.ext'; simpa using hts
        refine .inl ⟨_, w, ?_, s, _, h, n, Ls.refl n s, .int .i64 _, H, h6⟩
        simp [execOp, ho, resolve, invoke, builtin, hm, he, ets, Builtin.cap_, run_underlying hu, goInt]
      · rename_i T hts
        obtain ⟨v1, m1, he, h3, h4⟩ := h2.cons_inv
        obtain rfl := h4.nil_inv
        obtain ⟨h5, h6⟩ := brec_f h1
        obtain ⟨E, hu⟩ := isSl_s h5
        cases h3
        have ets : ts = #[T] := by apply Array.ext'; simpa using hts
        refine .inl ⟨_, w, ?_, s, _, h, n, Ls.refl n s, .int .i64 _, H, h6⟩
        simp [execOp, ho, resolve, invoke, builtin, hm, he, ets, Builtin.cap_, run_underlying hu, goInt]
      · cases h1
    · split at h1
      · rename_i id l T hts
        obtain ⟨v1, m1, he, h3, h4⟩ := h2.cons_inv
        obtain rfl := h4.nil_inv
        obtain ⟨B, hB, h5⟩ := orec_f h1
        obtain ⟨h6, h7⟩ := brec_f h5
        simp only [Bool.and_eq_true] at h6
        have hpos : 0 < B.n := Nat.blt_eq.mp h6.1.1
        cases h3 with | os hid hn =>
        rename_i b cp
        obtain ⟨b', k', hs', hb0, hBH⟩ := H.blk _ _ hB
        rw [hid] at hs'; cases hs'
        obtain ⟨us, rest, fz, g1, g2, g3, g4, g5, g6⟩ := hBH
        obtain ⟨sz, q1, q2, q3⟩ := g6 h6.1.2
        have hc : cp ≠ 0 := fun h0 => by subst h0; rw [Nat.zero_mul, List.length_append] at q2; omega
        refine .inl ⟨_, w, ?_, s, _, h, n, Ls.refl n s, .ptr hid, H, h7⟩
        simp only [execOp, ho, resolve, invoke, builtin, hm, he, Sem.run_bind, Sem.run_pure, Result.andThen_ok, Go.Lib.run_unsafeSliceData_row w ts o.type ⟨b, 0, none⟩ l cp hc]
      · cases h1
    · split at h1
      · rename_i id m T T' hts
        obtain ⟨v1, m1, he, h3, h4⟩ := h2.cons_inv
        obtain ⟨v2, m2, rfl, h5, h6⟩ := h4.cons_inv
        obtain rfl := h6.nil_inv
        obtain rfl := h5.int_inv
        obtain ⟨B, hB, h7⟩ := orec_f h1
        obtain ⟨h8, h9⟩ := brec_f h7
        simp only [Bool.and_eq_true] at h8
        obtain ⟨⟨⟨b1, b2⟩, b3⟩, b4⟩ := h8
        have b1 : 0 < m := Nat.blt_eq.mp b1
        have b2 : m ≤ B.n := Nat.le_of_ble_eq_true b2
        have b3 : m ≤ 9223372036854775807 := Nat.le_of_ble_eq_true b3
        cases h3 with | ptr hid =>
        rename_i b cp
        obtain ⟨l, h10, h11, h12⟩ := readK_s (f := fun l => natL l fun l => Hp.put h id none fun h => c (.str l) h n) _ _ h9
        obtain ⟨b', k', hs', hb0, hBH⟩ := H.blk _ _ hB
        rw [hid] at hs'; cases hs'
        obtain ⟨us, hl1, hl2⟩ := hBH.reads h12
        obtain ⟨z, h13, h14, h15⟩ := natL_s hl1 h10
        obtain ⟨h', h16, h17, h18⟩ := Hp.put_spec h13
        obtain ⟨us0, rest, fz, g1, g2, g3, g4, g5, g6⟩ := hBH
        have hzl : (z.map UInt8.ofNat).length = m := by
          have e1 := hl1.length
          rw [h11, h15] at e1
          simpa [bytesV] using e1.symm
        split at b4
        · rename_i E hu
          simp only [Bool.and_eq_true] at b4
          obtain rfl := Nat.eq_of_beq_eq_true b4.1
          have hc1 := Nat.eq_of_beq_eq_true b4.2
          have hsh : w.shape? b = some (B.T, (us0 ++ rest).length) := by simp [World.shape?, g1]
          have hr := Go.Lib.run_unsafeString_row (P := C.P) (w := w) T T' o.type B.T hu hc1 b _ hsh (z.map UInt8.ofNat) (fun h0 => by rw [h0] at hzl; simp at hzl; omega) (by rw [hzl, List.length_append]; omega) (by rw [hzl]; omega) (fun j x hx => by
            refine hl2 j _ ?_
            rw [h15]; simp only [bytesV, List.getElem?_map] at hx ⊢; rw [hx]; rfl)
          rw [hzl] at hr
          have ets : ts = #[T, T'] := by apply Array.ext'; simpa using hts
          refine .inl ⟨_, _, ?_, s, _, h', n, Ls.refl n s, .str z h14, H.drop hB hid h17 h18 (upd_freeze w b m), h16⟩
          simp only [execOp, ho, resolve, invoke, builtin, hm, he, ets, Sem.run_bind, Sem.run_pure, Result.andThen_ok]
          rw [show (#[Value.pointer (some ⟨b, 0, none⟩), Value.int .i64 (Int.ofNat m)] : Array Value) = #[Value.pointer (some ⟨b, 0, none⟩), Value.int .i64 (m : Int)] from rfl, hr]
          rfl
        · cases b4
      · cases h1
    · split at h1
      · rename_i x y T T' hts
        obtain ⟨v1, m1, he, h3, h4⟩ := h2.cons_inv
        obtain ⟨v2, m2, rfl, h5, h6⟩ := h4.cons_inv
        obtain rfl := h6.nil_inv
        obtain ⟨s', av, v, h', n', w', h7, h8, h9, h10, h11⟩ := copyK_s (ty := o.type) H h3 h5 h1
        refine .inl ⟨v, w', ?_, s', av, h', n', h7, h8, h9, h10⟩
        have ets : ts = #[T, T'] := by apply Array.ext'; simpa using hts
        simp only [execOp, ho, resolve, invoke, builtin, hm, he, ets, Sem.run_bind, Sem.run_pure, Result.andThen_ok, h11]
      · cases h1
    · cases h1
  | _ => exact (Bool.false_ne_true hk).elim
theorem opK_s {rec : CT} (hrec : CallOk C.P w0 (callK C.P rec)) (hyl : YieldOk C w0 rec) (hkn : KnOk C) {o : Oper} {c : KH} (H : SH C.P w0 s h n w) (F : FE N s e a) (hk : opK C rec o.op e h n c = true) :
    Comes1 C.P (W C w0 n s c) ((execOp a.eval o).run C.P w) := by
  have hk2 : ((Bool.rec (effK C rec o.op) (pureN (pureK C.P o.op)) ((isP o.op || isConvP C.P o.op) && not (isX C.P o.op)) : Env' → Hp → Rg → KH → Bool) e h n c) = true := hk
  have hk3 : (Bool.rec (effK C rec o.op e h n c) (pureN (pureK C.P o.op) e h n c) ((isP o.op || isConvP C.P o.op) && not (isX C.P o.op)) : Bool) = true := by
    cases hb : ((isP o.op || isConvP C.P o.op) && not (isX C.P o.op)) <;> rw [hb] at hk2 <;> exact hk2
  rcases brec_t hk3 with ⟨_, h1⟩ | ⟨_, h1⟩
  · obtain ⟨v, ⟨av, h2, h3⟩, h4⟩ := vcOp_run H F h1
    exact .inl ⟨v, w, h4, s, av, h, n, Ls.refl n s, h3, H, h2⟩
  · exact effK_s hrec hyl hkn H F h1
end
end Go.Ev
