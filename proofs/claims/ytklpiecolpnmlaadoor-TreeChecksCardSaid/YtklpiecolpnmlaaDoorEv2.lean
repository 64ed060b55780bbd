/- The evaluator: numbers, strings, parts of values are as the model has them. -/
import Derived.Test.YtklpiecolpnmlaaDoorEv1
namespace Go.Ev
open Go Go.Eng
set_option linter.unusedVariables false
set_option linter.constructorNameAsVariable false
set_option linter.unusedSimpArgs false

/-- The continuation's word, over the model's values. -/
def KR (s : Mp) (c : KV) (v : Value) : Prop := ∃ a, c a = true ∧ Rel s a v
theorem KR.mk {s : Mp} {c : KV} {a : AV} {v : Value} (h : c a = true) (r : Rel s a v) : KR s c v := ⟨a, h, r⟩

section
variable {P : Program} {s : Mp} {c : KV} {w : World}

theorem emod_nn (n : Int) (m : Nat) (hm : 0 < m) : ∃ k : Nat, Int.emod n m = k := by
  have h := Int.emod_nonneg n (b := (m : Int)) (by omega)
  exact ⟨(n % (m : Int)).toNat, by show n % (m : Int) = _; omega⟩
theorem wrapK_s {k : IntKind} {n : Int} (h : wrapK k n c = true) : vWrap k n (KR s c) := by
  cases k <;> simp only [wrapK] at h <;> first | (cases h; done) | skip
  case i64 =>
    obtain ⟨h1, h2⟩ := brec_f h
    rw [forceI_eq] at h2
    exact ⟨fitsI64_eq h1, ⟨_, h2, .int _ _⟩⟩
  all_goals
    rw [forceI_eq] at h
    exact ⟨_, h, .int _ _⟩
theorem natK_s {n : Int} {f : Nat → Bool} (h : natK n f = true) : ∃ m : Nat, n = m ∧ f m = true := by
  cases n with
  | ofNat m => exact ⟨m, rfl, h⟩
  | negSucc m => cases h
theorem fit0_of {k : IntKind} {a : Nat} (h : Nat.ble a (topN k) = true) (hk : topN k ≠ 0) : Fit0 k a := by
  have h := Nat.le_of_ble_eq_true h
  cases k <;> simp only [topN] at h hk <;> first | (exfalso; omega) | (simp only [Fit0]; omega)
theorem bitK_s {f : Nat → Nat → Nat} {k : IntKind} {a b : Int} (h : bitK f k a b c = true) : Fit0 k a ∧ Fit0 k b ∧ KR s c (.int k ((f a.toNat b.toNat : Nat) : Int)) := by
  obtain ⟨a, rfl, h1⟩ := natK_s h
  obtain ⟨b, rfl, h2⟩ := natK_s h1
  obtain ⟨h3, h4⟩ := brec_f h2
  obtain ⟨h5, h6⟩ := brec_f h4
  rw [forceN_eq] at h6
  simp only [Bool.and_eq_true, Nat.blt_eq] at h3
  exact ⟨fit0_of h3.1 (by omega), fit0_of h5 (by omega), _, h6, .int _ _⟩
theorem boolK_s {b : Bool} (h : boolK b c = true) : KR s c (.bool b) := by
  rw [boolK, forceB_eq] at h; exact ⟨_, h, .bool _⟩
theorem intK_s {op : BinOp} {k : IntKind} {a b : Int} (h : intK op k a b c = true) : vInt op k a b (KR s c) := by
  cases op <;> simp only [intK] at h <;> simp only [vInt] <;> first | (cases h; done) | skip
  case add => exact wrapK_s h
  case sub => exact wrapK_s h
  case mul => exact wrapK_s h
  case quo =>
    obtain ⟨a, rfl, h1⟩ := natK_s h
    obtain ⟨b, rfl, h2⟩ := natK_s h1
    cases b with
    | zero => cases h2
    | succ b => exact ⟨by omega, by omega, wrapK_s h2⟩
  case rem =>
    obtain ⟨a, rfl, h1⟩ := natK_s h
    obtain ⟨b, rfl, h2⟩ := natK_s h1
    cases b with
    | zero => cases h2
    | succ b =>
      have h3 : forceN (a % (b + 1)) (fun n => c (.int k (.ofNat n))) = true := h2
      rw [forceN_eq] at h3
      exact ⟨by omega, by omega, _, h3, .int _ _⟩
  case and => exact bitK_s h
  case or => exact bitK_s h
  case xor => exact bitK_s h
  case eql => rw [eqI_eq] at h; exact boolK_s h
  case neq => rw [eqI_eq] at h; have := boolK_s (s := s) h; simpa using this
  case lss => rw [ltI_eq] at h; exact boolK_s h
  case leq => rw [ltI_eq] at h; have := boolK_s (s := s) h; simpa [← Int.not_lt] using this
  case gtr => rw [ltI_eq] at h; exact boolK_s h
  case geq => rw [ltI_eq] at h; have := boolK_s (s := s) h; simpa [← Int.not_lt] using this

theorem shN_eq (k : IntKind) (b : Nat) : (Bool.rec k.bits b (Nat.ble b k.bits) : Nat) = shN k b := by
  unfold shN
  cases h : Nat.ble b k.bits with
  | true => have := Nat.le_of_ble_eq_true h; simp; omega
  | false => have : ¬ b ≤ k.bits := fun h2 => by rw [Nat.ble_eq_true_of_le h2] at h; cases h
             simp; omega
theorem shK_l {k : IntKind} {a b : Int} (h : shK .shl k a b c = true) : 0 ≤ b ∧ vWrap k (a * 2 ^ shN k b) (KR s c) := by
  obtain ⟨b, rfl, h1⟩ := natK_s h
  refine ⟨by omega, ?_⟩
  have h2 := wrapK_s (s := s) h1
  have e : Int.mul a (Int.ofNat (Nat.pow 2 (Bool.rec k.bits b (Nat.ble b k.bits)))) = a * 2 ^ shN k b := by
    rw [shN_eq]
    show a * ((2 ^ shN k b : Nat) : Int) = _
    rw [Int.natCast_pow]; rfl
  rw [e] at h2; exact h2
theorem shK_r {k : IntKind} {a b : Int} (h : shK .shr k a b c = true) : 0 ≤ b ∧ KR s c (.int k (a / 2 ^ shN k b)) := by
  obtain ⟨a, rfl, h0⟩ := natK_s h
  obtain ⟨b, rfl, h1⟩ := natK_s h0
  rw [forceN_eq, shN_eq] at h1
  refine ⟨by omega, ?_⟩
  have e : ((a : Int) / 2 ^ shN k b) = Int.ofNat (Nat.div a (Nat.pow 2 (shN k b))) := by
    show _ = ((a / 2 ^ shN k b : Nat) : Int)
    rw [Int.natCast_ediv, Int.natCast_pow]; rfl
  rw [e]; exact ⟨_, h1, .int _ _⟩

theorem ofNat_inj {a b : Nat} (ha : a < 256) (hb : b < 256) (h : UInt8.ofNat a = UInt8.ofNat b) : a = b := by
  have := congrArg UInt8.toNat h
  simp only [UInt8.toNat_ofNat'] at this
  omega
theorem eqL_eq : ∀ (l m : List Nat), eqL l m = decide (l = m) := by
  intro l
  induction l with
  | nil => intro m; cases m <;> simp [eqL]
  | cons a l ih =>
    intro m
    cases m with
    | nil => simp [eqL]
    | cons b m =>
      show (Bool.rec false (eqL l m) (Nat.beq a b) : Bool) = _
      rw [ih]
      cases h : Nat.beq a b with
      | true => have := Nat.eq_of_beq_eq_true h; subst this; simp
      | false => have := Nat.ne_of_beq_eq_false h; simp [this]
theorem map_ofNat_inj : ∀ {l m : List Nat}, (∀ x ∈ l, x < 256) → (∀ x ∈ m, x < 256) → (l.map UInt8.ofNat = m.map UInt8.ofNat ↔ l = m) := by
  intro l
  induction l with
  | nil => intro m _ _; cases m <;> simp
  | cons a l ih =>
    intro m hl hm
    cases m with
    | nil => simp
    | cons b m =>
      simp only [List.map_cons, List.cons.injEq]
      rw [ih (fun x hx => hl x (by simp [hx])) (fun x hx => hm x (by simp [hx]))]
      constructor
      · rintro ⟨h1, h2⟩; exact ⟨ofNat_inj (hl a (by simp)) (hm b (by simp)) h1, h2⟩
      · rintro ⟨rfl, rfl⟩; exact ⟨rfl, rfl⟩
theorem ofNat_lt {a b : Nat} (ha : a < 256) (hb : b < 256) : (UInt8.ofNat a < UInt8.ofNat b) ↔ a < b := by
  rw [UInt8.lt_iff_toNat_lt]
  simp only [UInt8.toNat_ofNat']
  rw [Nat.mod_eq_of_lt (by omega), Nat.mod_eq_of_lt (by omega)]
theorem ltL_eq : ∀ {l m : List Nat}, (∀ x ∈ l, x < 256) → (∀ x ∈ m, x < 256) → ltL l m = Op.bytesLess (l.map UInt8.ofNat) (m.map UInt8.ofNat) := by
  intro l
  induction l with
  | nil => intro m _ _; cases m <;> simp [ltL, Op.bytesLess]
  | cons a l ih =>
    intro m hl hm
    cases m with
    | nil => simp [ltL, Op.bytesLess]
    | cons b m =>
      show (Bool.rec (Bool.rec false (ltL l m) (Nat.beq a b)) true (Nat.blt a b) : Bool) = _
      have ha := hl a (by simp)
      have hb := hm b (by simp)
      rw [ih (fun x hx => hl x (by simp [hx])) (fun x hx => hm x (by simp [hx]))]
      simp only [List.map_cons, Op.bytesLess]
      cases h : Nat.blt a b with
      | true =>
        have h := Nat.blt_eq.mp h
        simp [ofNat_lt ha hb, h]
      | false =>
        have h' : ¬ a < b := fun h2 => by rw [Nat.blt_eq.mpr h2] at h; cases h
        cases h3 : Nat.beq a b with
        | true => have := Nat.eq_of_beq_eq_true h3; subst this; simp [UInt8.lt_irrefl]
        | false =>
          have h4 := Nat.ne_of_beq_eq_false h3
          have h5 : ¬ UInt8.ofNat a = UInt8.ofNat b := fun h6 => h4 (ofNat_inj ha hb h6)
          simp [ofNat_lt ha hb, h', h5]
theorem toL_str (l : List Nat) : toL (⟨(l.map UInt8.ofNat).toArray⟩ : ByteArray) = l.map UInt8.ofNat := by simp [toL]
theorem strK_s {op : BinOp} {l m : List Nat} (hl : ∀ x ∈ l, x < 256) (hm : ∀ x ∈ m, x < 256) (h : strK op l m c = true) : vStr op ⟨(l.map UInt8.ofNat).toArray⟩ ⟨(m.map UInt8.ofNat).toArray⟩ (KR s c) := by
  cases op <;> simp only [strK] at h <;> simp only [vStr, toL_str] <;> first | (cases h; done) | skip
  case add =>
    rw [forceL_eq, lenL_eq] at h
    obtain ⟨h1, h2⟩ := brec_f h
    have h1 := Nat.le_of_ble_eq_true h1
    have e : List.append l m = l ++ m := rfl
    rw [e] at h1 h2
    refine ⟨by simp at h1 ⊢; omega, ⟨_, h2, ?_⟩⟩
    have := Rel.str (s := s) (l ++ m) (fun x hx => (List.mem_append.1 hx).elim (hl x) (hm x))
    simpa [strV] using this
  case eql => rw [eqL_eq] at h; have := boolK_s (s := s) h; simpa only [map_ofNat_inj hl hm] using this
  case neq => rw [eqL_eq] at h; have := boolK_s (s := s) h; simpa only [map_ofNat_inj hl hm, decide_not] using this
  case lss => rw [ltL_eq hl hm] at h; exact boolK_s h
  case leq => rw [ltL_eq hm hl] at h; exact boolK_s h
  case gtr => rw [ltL_eq hm hl] at h; exact boolK_s h
  case geq => rw [ltL_eq hl hm] at h; exact boolK_s h

theorem eqvK_s {op : BinOp} {b : Bool} (h : eqvK op b c = true) : (op = .eql ∧ KR s c (.bool b)) ∨ (op = .neq ∧ KR s c (.bool !b)) := by
  cases op <;> simp only [eqvK] at h <;> first | (cases h; done) | skip
  · exact .inl ⟨rfl, boolK_s h⟩
  · exact .inr ⟨rfl, boolK_s h⟩
/-- Two values compared, by what == says of them. -/
theorem EqR_eqv {op : BinOp} {T : TypeId} {xo yo : Operand} {x y : Value} {b : Bool} (hg : ((∀ c, x ≠ .agg c) ∧ x ≠ .nilIface) ∨ (x = .nilIface ∧ isC yo = true)) (hr : ∀ w, (binOp .eql T x y).run P w = .ok (.bool b) w ∧ (binOp .neq T x y).run P w = .ok (.bool !b) w) (h : eqvK op b c = true) : EqR P op T xo yo x y w (KR s c) := by
  have hgr : ∀ w, (eqGuard op T xo yo x y).run P w = .ok () w := by
    intro w
    rcases hg with hg | ⟨rfl, hy⟩
    · exact run_eqGuard hg w
    · unfold eqGuard
      cases yo <;> simp [isC] at hy
      cases op <;> simp <;> (split <;> simp_all)
  rcases eqvK_s (s := s) h with ⟨rfl, h5⟩ | ⟨rfl, h5⟩
  · exact ⟨b, fun w' _ => by simp only [Sem.run_bind, hgr, Result.andThen_ok, (hr w').1], h5⟩
  · exact ⟨!b, fun w' _ => by simp only [Sem.run_bind, hgr, Result.andThen_ok, (hr w').2], h5⟩
theorem sortOf_s {T : TypeId} {k : Nat} (h : Nat.beq (sortOf P T) k = true) : sortOf P T = k := Nat.eq_of_beq_eq_true h
theorem sort0 {T : TypeId} (h : sortOf P T = 0) : P.underlying T = some .bool := by
  unfold sortOf at h; split at h <;> first | assumption | omega
theorem sort1 {T : TypeId} (h : sortOf P T = 1) : ∃ E, P.underlying T = some (.pointer E) := by
  unfold sortOf at h; split at h <;> first | exact ⟨_, by assumption⟩ | omega
theorem sort2 {T : TypeId} (h : sortOf P T = 2) : ∃ E, P.underlying T = some (.slice E) := by
  unfold sortOf at h; split at h <;> first | exact ⟨_, by assumption⟩ | omega
theorem sort3 {T : TypeId} (h : sortOf P T = 3) : ∃ a b d, P.underlying T = some (.func a b d) := by
  unfold sortOf at h; split at h <;> first | exact ⟨_, _, _, by assumption⟩ | omega
theorem sort4 {T : TypeId} (h : sortOf P T = 4) : ∃ E, P.underlying T = some (.interface E) := by
  unfold sortOf at h; split at h <;> first | exact ⟨_, by assumption⟩ | omega
theorem run_eq_slice {T E : TypeId} (hu : P.underlying T = some (.slice E)) (a : Option Addr) (n c n' c' : Nat) (w : World) : (Op.equal T (.slice a n c) (.slice none n' c')).run P w = .ok a.isNone w := run_eqIn_slice hu 9999 a n c n' c' w

theorem isStr_s {T : TypeId} (h : isStr P T = true) : P.underlying T = some .string := by
  unfold isStr at h; split at h <;> first | assumption | cases h
theorem intOf_s {T : TypeId} {k : IntKind} (hk : intOf P T = some k) : P.underlying T = some (.int k) := by
  unfold intOf at hk
  split at hk
  · rename_i hu; cases hk; exact hu
  · cases hk
theorem run_part1 {T : TypeId} {cs : List Value} {o : Nat} {v : Value} {d : TypeDesc} (hu : P.underlying T = some d) (hd : (∀ f, d ≠ .struct f) ∧ ∀ k E, d ≠ .array k E) (hv : cs[o]? = some v) (w : World) : (part T cs.toArray o).run P w = .ok v w := by
  have : (isAgg T).run P w = .ok false w := by
    cases d with
    | struct f => exact absurd rfl (hd.1 f)
    | array k E => exact absurd rfl (hd.2 k E)
    | _ => simp [isAgg, run_underlying hu]
  simp [part, this, hv]
theorem beq_bytes {l m : List Nat} (hl : ∀ x ∈ l, x < 256) (hm : ∀ x ∈ m, x < 256) : ((⟨(l.map UInt8.ofNat).toArray⟩ : ByteArray).toList == (⟨(m.map UInt8.ofNat).toArray⟩ : ByteArray).toList) = decide (l = m) := by
  rw [ByteArray.toList_eq, ByteArray.toList_eq, beqD]
  simp only [map_ofNat_inj hl hm]
theorem eqFK_s {xs ys : List AV} {xs' ys' : List Value} (hx : RelL s xs xs') (hy : RelL s ys ys') (d : Nat) : ∀ {fs : List Field} {f : Bool → Bool}, eqFK P xs ys fs f = true →
    ∃ b, f b = true ∧ ∀ w, (Op.eqFields (d + 1) xs'.toArray ys'.toArray fs).run P w = .ok b w := by
  intro fs
  induction fs with
  | nil => intro f h; exact ⟨true, h, fun w => by simp [Op.eqFields]⟩
  | cons fd fs ih =>
    intro f h
    have h : (Bool.rec (Option.rec false (fun a => Option.rec false (fun b => cmp1 P fd.type a b fun r => forceB r fun r => Bool.rec (f false) (eqFK P xs ys fs f) r) (getL ys fd.offset)) (getL xs fd.offset)) (eqFK P xs ys fs f) (fd.name == "_") : Bool) = true := h
    rcases brec_t h with ⟨h1, h2⟩ | ⟨h1, h2⟩
    · obtain ⟨b, h3, h4⟩ := ih h2
      exact ⟨b, h3, fun w => by simp only [Op.eqFields]; rw [if_neg (by simpa using h1)]; exact h4 w⟩
    · obtain ⟨a, ha, h3⟩ := orec_f h2
      obtain ⟨b, hb, h4⟩ := orec_f h3
      rw [getL_eq] at ha hb
      obtain ⟨va, hva, ra⟩ := hx.get _ _ ha
      obtain ⟨vb, hvb, rb⟩ := hy.get _ _ hb
      have key : ∀ (r : Bool), (forceB r fun r => Bool.rec (f false) (eqFK P xs ys fs f) r) = true → (∀ w, (part fd.type xs'.toArray fd.offset).run P w = .ok va w) → (∀ w, (part fd.type ys'.toArray fd.offset).run P w = .ok vb w) → (∀ w, (Op.equalIn (d + 1) fd.type va vb).run P w = .ok r w) →
          ∃ b, f b = true ∧ ∀ w, (Op.eqFields (d + 1) xs'.toArray ys'.toArray (fd :: fs)).run P w = .ok b w := by
        intro r hr g1 g2 g3
        rw [forceB_eq] at hr
        cases r with
        | true =>
          obtain ⟨b, h5, h6⟩ := ih hr
          refine ⟨b, h5, fun w => ?_⟩
          simp only [Op.eqFields]
          rw [if_pos (by simpa using h1)]
          simp only [Sem.run_bind, g1, g2, g3, Result.andThen_ok, Bool.not_true, Bool.false_eq_true, if_false]
          exact h6 w
        | false =>
          refine ⟨false, hr, fun w => ?_⟩
          simp only [Op.eqFields]
          rw [if_pos (by simpa using h1)]
          simp only [Sem.run_bind, g1, g2, g3, Result.andThen_ok, Bool.not_false, if_true, Sem.run_pure]
      unfold cmp1 at h4
      split at h4
      · rename_i k n k' n'
        obtain rfl := ra.int_inv
        obtain rfl := rb.int_inv
        obtain ⟨h5, h6⟩ := brec_f h4
        simp only [Bool.and_eq_true] at h5
        obtain ⟨kk, h7⟩ := Option.isSome_iff_exists.1 h5.1
        obtain rfl : k = k' := of_decide_eq_true h5.2
        have hu := intOf_s h7
        refine key _ h6 (fun w => run_part1 hu ⟨by simp, by simp⟩ hva w) (fun w => run_part1 hu ⟨by simp, by simp⟩ hvb w) fun w => ?_
        rw [run_equalIn_int w d _ _ _ _ _ hu, eqI_eq, beqD]
      · cases ra; cases rb
        obtain ⟨h5, h6⟩ := brec_f h4
        have hu := sort0 (sortOf_s h5)
        refine key _ h6 (fun w => run_part1 hu ⟨by simp, by simp⟩ hva w) (fun w => run_part1 hu ⟨by simp, by simp⟩ hvb w) fun w => ?_
        rename_i p q
        rw [Go.run_equalIn_bool' w d _ _ _ hu]
        cases p <;> cases q <;> rfl
      · cases ra with | str _ hl => cases rb with | str _ hm =>
        obtain ⟨h5, h6⟩ := brec_f h4
        have hu := isStr_s h5
        refine key _ h6 (fun w => run_part1 hu ⟨by simp, by simp⟩ hva w) (fun w => run_part1 hu ⟨by simp, by simp⟩ hvb w) fun w => ?_
        rw [strV, strV, run_equalIn_string w d _ _ _ hu, beq_bytes hl hm, eqL_eq]
      · cases h4

theorem binK_s {op : BinOp} {T : TypeId} {xo yo : Operand} {x y : AV} {v u : Value} (hx : Rel s x v) (hy : Rel s y u) (h : binK P op T xo yo x y c = true) : vBinO P op T xo yo v u w (KR s c) := by
  unfold binK at h
  split at h
  · rename_i k a k' b
    cases hx; cases hy
    simp only [vBinO]
    rcases brec_t h with ⟨h1, h2⟩ | ⟨h1, h2⟩
    · cases op <;> simp [isSh] at h1
      · exact shK_l h2
      · exact shK_r h2
    · obtain ⟨h3, h4⟩ := brec_f h2
      have hk : k = k' := of_decide_eq_true h3
      have := intK_s (s := s) h4
      unfold vBin
      cases op <;> simp [isSh] at h1 <;> exact ⟨hk, this⟩
  · cases hx with | str l hl => cases hy with | str m hm =>
      exact strK_s hl hm h
  · rename_i a b
    cases hx; cases hy
    obtain ⟨h1, h2⟩ := brec_f h
    have hu := sort0 (sortOf_s h1)
    simp only [vBinO, vBin, hu]
    have e : (Bool.rec (not b) b a : Bool) = decide (a = b) := by cases a <;> cases b <;> rfl
    rw [e] at h2
    rcases eqvK_s (s := s) h2 with ⟨rfl, h5⟩ | ⟨rfl, h5⟩
    · exact h5
    · simpa using h5
  all_goals first | (cases h; done) | skip
  all_goals
    cases hx; cases hy
    obtain ⟨h1, h2⟩ := brec_f h
    simp only [vBinO, strV]
  · obtain ⟨E, hu⟩ := sort1 (sortOf_s h1)
    exact EqR_eqv (.inl ⟨by simp, by simp⟩) (fun w => by constructor <;> simp [binOp, run_eq_ptr hu]) h2
  · obtain ⟨E, hu⟩ := sort1 (sortOf_s h1)
    exact EqR_eqv (.inl ⟨by simp, by simp⟩) (fun w => by constructor <;> simp [binOp, run_eq_ptr hu]) h2
  · obtain ⟨h3, h4⟩ := brec_f h2
    obtain ⟨E, hu⟩ := sort4 (sortOf_s h3)
    exact EqR_eqv (.inr ⟨rfl, h1⟩) (fun w => by constructor <;> simp [binOp, run_eq_nif hu]) h4
  · obtain ⟨E, hu⟩ := sort4 (sortOf_s h1)
    exact EqR_eqv (.inl ⟨by simp, by simp⟩) (fun w => by constructor <;> simp [binOp, run_eq_if hu]) h2
  · obtain ⟨E, _, _, hu⟩ := sort3 (sortOf_s h1)
    exact EqR_eqv (.inl ⟨by simp, by simp⟩) (fun w => by constructor <;> simp [binOp, run_eq_fun hu]) h2
  any_goals
    obtain ⟨E, hu⟩ := sort2 (sortOf_s h1)
    first | exact EqR_eqv (.inl ⟨by simp, by simp⟩) (fun w => by constructor <;> simp [binOp, run_eq_slice hu]) h2 | exact EqR_eqv (.inl ⟨by simp, by simp⟩) (fun w => by constructor <;> simp [binOp, run_eq_slice hu]) h2
  case _ =>
    rename_i hl _ hm
    simp only [plainEq, Bool.and_eq_true, Bool.not_eq_true'] at h1
    obtain ⟨h3, h4, h5⟩ := h1
    obtain ⟨b, h6, h7⟩ := eqFK_s (P := P) hl hm 9998 h2
    have hu : P.underlying T = some (.struct (P.fieldsOf T)) := by
      unfold Program.fieldsOf
      split at h3
      · rename_i fs hu; rw [hu]
      · cases h3
    have hrun : ∀ w, (Op.equalIn 10000 T (.agg _) (.agg _)).run P w = .ok b w := fun w => by
      rw [show (10000 : Nat) = 9999 + 1 from rfl, run_equalIn_agg w 9999 T _ _ hu h4]; exact h7 w
    rcases eqvK_s (s := s) h6 with ⟨rfl, h8⟩ | ⟨rfl, h8⟩
    · exact ⟨b, fun w' _ => by simp only [Sem.run_bind]; rw [run_eqGuard_agg _ _ _ _ _ _ _ h5]; simp only [Result.andThen_ok]; rw [run_eql_struct, hrun]; rfl, h8⟩
    · exact ⟨!b, fun w' _ => by simp only [Sem.run_bind]; rw [run_eqGuard_agg _ _ _ _ _ _ _ h5]; simp only [Result.andThen_ok]; rw [run_neq_struct, hrun]; rfl, h8⟩

theorem unK_s {op : UnOp} {x : AV} {v : Value} (hx : Rel s x v) (h : unK op x c = true) : vUn op v (KR s c) := by
  unfold unK at h
  split at h
  · cases hx; exact boolK_s h
  · cases hx; exact wrapK_s h
  all_goals first | (cases h; done) | skip
  all_goals
    rename_i n
    cases hx
    obtain ⟨h1, h2⟩ := brec_f h
    have h1 := Nat.le_of_ble_eq_true h1
    rw [forceN_eq] at h2
    simp only [vUn]
    refine ⟨⟨by simp only [Int.ofNat_eq_natCast]; omega, by simp only [Int.ofNat_eq_natCast]; omega⟩, _, h2, ?_⟩
  · have e : (4294967295 - (Int.ofNat n)) = Int.ofNat (Nat.sub 4294967295 n) := by
      have : Nat.sub 4294967295 n = 4294967295 - n := rfl
      rw [this]; simp only [Int.ofNat_eq_natCast]; omega
    rw [e]; exact .int _ _
  · have e : (18446744073709551615 - (Int.ofNat n)) = Int.ofNat (Nat.sub 18446744073709551615 n) := by
      have : Nat.sub 18446744073709551615 n = 18446744073709551615 - n := rfl
      rw [this]; simp only [Int.ofNat_eq_natCast]; omega
    rw [e]; exact .int _ _
  · have e : (255 - (Int.ofNat n)) = Int.ofNat (Nat.sub 255 n) := by
      have : Nat.sub 255 n = 255 - n := rfl
      rw [this]; simp only [Int.ofNat_eq_natCast]; omega
    rw [e]; exact .int _ _
end
end Go.Ev
