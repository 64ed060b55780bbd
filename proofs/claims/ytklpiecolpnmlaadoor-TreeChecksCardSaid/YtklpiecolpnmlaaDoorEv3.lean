/- The evaluator: memory; parts of values; loads. -/
import Derived.Test.YtklpiecolpnmlaaDoorEv2
namespace Go.Ev
open Go Go.Eng
set_option linter.unusedVariables false
set_option linter.constructorNameAsVariable false
set_option linter.unusedSimpArgs false

/-- A block lies there. -/
def BH (P : Program) (s : Mp) (B : Blk) (b c : Nat) (w : World) : Prop :=
  ∃ (vs rest : List Value) (fz : Nat × Nat), w.heap[b]? = some (.cells (vs ++ rest).toArray B.T fz) ∧ vs.length = B.n ∧ (∀ i a, B.at i = some a → ∃ v, vs[i]? = some v ∧ Rel s a v) ∧ Unfz fz (vs ++ rest).length ∧
    (B.op = false → rest = []) ∧ (B.op = true → ∃ sz, P.szo B.T = some sz ∧ (vs ++ rest).length = c * sz ∧ c ≤ maxLen)

/-- The code that is left to do behind a range, and its state. -/
def codeOf : Ex → Code
  | .norm => .skip
  | .exit id => .exit id
  | .ret => .ret
def StOk : LSt → Loop → Prop
  | .ready, r => r.state = .ready ∧ r.pending = none
  | .busy, r => r.state = .busy
  | .done x, r => r.state = .done ∧ r.pending = some (codeOf x)
  | .over, _ => True
/-- A range over a function lies there. -/
def LpOk (w0 : World) (s : Mp) (i : Nat) (p : Lp) (w : World) : Prop :=
  ∃ (d c : Nat) (r : Loop), s i = some (d, c) ∧ w0.heap.size ≤ d ∧ w.heap[d]? = some (.deferred (some [])) ∧ w.heap[d + 1]? = some (.loop r) ∧ (p.st ≠ .over → r.tmps.size = p.N ∧ (∀ t v, p.e.get t = some v → t < p.N ∧ Rel s v (r.tmps.getD t undef)) ∧
    r.params.toList = p.ps ∧ r.assign = p.as_ ∧ r.body = p.bd ∧ r.defers = d ∧ StOk p.st r)
def noCells (w : World) (k : Nat) : Prop := ∀ a b c, w.heap[k]? ≠ some (.cells a b c)
theorem LpOk.keep {w0 w w' : World} {s t : Mp} {i : Nat} {p : Lp} (H : LpOk w0 s i p w) (hs : Le s t) (hk : ∀ k, k < w.heap.size → noCells w k → w'.heap[k]? = w.heap[k]?) : LpOk w0 t i p w' := by
  obtain ⟨d, c, r, h1, h2, h3, h4, h5⟩ := H
  refine ⟨d, c, r, hs _ _ h1, h2, ?_, ?_, fun hn => let ⟨g5, g6, g7⟩ := h5 hn; ⟨g5, fun t v ht => ⟨(g6 t v ht).1, (g6 t v ht).2.mono hs⟩, g7⟩⟩
  · rw [hk d (Array.getElem?_eq_some_iff.1 h3).1 (fun a b c he => by rw [h3] at he; cases he)]; exact h3
  · rw [hk (d + 1) (Array.getElem?_eq_some_iff.1 h4).1 (fun a b c he => by rw [h4] at he; cases he)]; exact h4

structure SH (P : Program) (w0 : World) (s : Mp) (h : Hp) (n : Rg) (w : World) : Prop where
  upd : Upd [] w0 w
  blk : ∀ i B, h.get i = some B → ∃ b c, s i = some (b, c) ∧ w0.heap.size ≤ b ∧ BH P s B b c w
  inj : ∀ i j B C b c c', h.get i = some B → h.get j = some C → s i = some (b, c) → s j = some (b, c') → i = j
  fresh : ∀ i, n.1 ≤ i → i < n.2 → s i = none
  lps : ∀ i p, h.lp.get i = some p → LpOk w0 s i p w
  lin : ∀ i j p q d c c', h.lp.get i = some p → h.lp.get j = some q → s i = some (d, c) → s j = some (d, c') → i = j

theorem Blk.at_eq (B : Blk) (i : Nat) : B.at i = if i < B.n then (match B.t.get i with | some v => some v | none => B.d) else none := by
  unfold Blk.at
  cases h : Nat.blt i B.n with
  | true => rw [if_pos (Nat.blt_eq.mp h)]; cases B.t.get i <;> rfl
  | false => rw [if_neg (fun h2 => by rw [Nat.blt_eq.mpr h2] at h; cases h)]

theorem addr_add (b o j : Nat) : (⟨b, o, none⟩ : Addr).add j = ⟨b, o + j, none⟩ := by unfold Addr.add; split <;> simp_all

section
variable {P : Program} {w0 w : World} {s : Mp} {h : Hp} {n : Rg} {c : KV}

theorem SH.drew (H : SH P w0 s h n w) (m : Nat) : SH P w0 s h n (w.drewN m) := ⟨⟨H.upd.os, H.upd.tape, H.upd.output, H.upd.size, H.upd.block⟩, H.blk, H.inj, H.fresh, H.lps, H.lin⟩

theorem BH.cell {B : Blk} {b k : Nat} (H : BH P s B b k w) {o : Nat} {a : AV} (ha : B.at o = some a) : ∃ v, w.cell? ⟨b, o, none⟩ = some v ∧ Rel s a v := by
  obtain ⟨vs, rest, fz, h1, h2, h3, _⟩ := H
  obtain ⟨v, hv, hr⟩ := h3 o a ha
  refine ⟨v, ?_, hr⟩
  rw [cell_of_row w b o _ B.T fz h1, List.getElem?_toArray]
  have hlt := (List.getElem?_eq_some_iff.1 hv).1
  rw [List.getElem?_append_left hlt]; exact hv

theorem readK_s {B : Blk} {f : List AV → Bool} : ∀ (n o : Nat) {f : List AV → Bool}, readK B n o f = true → ∃ l, f l = true ∧ l.length = n ∧ ∀ j a, l[j]? = some a → B.at (o + j) = some a := by
  intro n
  induction n with
  | zero => intro o f h; exact ⟨[], h, rfl, fun j a h => by simp at h⟩
  | succ n ih =>
    intro o f h
    obtain ⟨v, hv, h2⟩ := orec_f h
    obtain ⟨l, h3, h4, h5⟩ := ih (Nat.succ o) h2
    refine ⟨v :: l, h3, by simp [h4], fun j a hj => ?_⟩
    cases j with
    | zero => simp at hj; subst hj; exact hv
    | succ j => have := h5 j a (by simpa using hj); rw [← this]; congr 1; omega

theorem BH.reads {B : Blk} {b k : Nat} (H : BH P s B b k w) {o : Nat} {l : List AV} (hl : ∀ j a, l[j]? = some a → B.at (o + j) = some a) : ∃ vs : List Value, RelL s l vs ∧ Reads w ⟨b, o, none⟩ vs := by
  obtain ⟨vs, rest, fz, h1, h2, h3, _⟩ := H
  by_cases h0 : l = []
  · subst h0; exact ⟨[], .nil, fun j u hu => by simp at hu⟩
  have hlen : o + l.length ≤ vs.length := by
    have hp : l.length - 1 < l.length := by have := List.length_pos_iff.2 h0; omega
    obtain ⟨v, hv, _⟩ := h3 _ _ (hl (l.length - 1) _ (List.getElem?_eq_getElem hp))
    have := (List.getElem?_eq_some_iff.1 hv).1
    omega
  refine ⟨(vs.drop o).take l.length, RelL.of_get (by simp; omega) fun i a v ha hv => ?_, fun j u hu => ?_⟩
  · obtain ⟨v', hv', hr⟩ := h3 _ _ (hl i a ha)
    have hi : i < l.length := (List.getElem?_eq_some_iff.1 ha).1
    rw [List.getElem?_take, if_pos hi, List.getElem?_drop, hv'] at hv
    cases hv; exact hr
  · rw [addr_add, cell_of_row w b _ _ B.T fz h1, List.getElem?_toArray]
    rw [List.getElem?_take] at hu
    split at hu
    · rw [List.getElem?_drop] at hu
      have hlt := (List.getElem?_eq_some_iff.1 hu).1
      rw [List.getElem?_append_left hlt]; exact hu
    · cases hu

theorem isAg_t {T : TypeId} (h : isAg P T = some true) : (∃ f, P.underlying T = some (.struct f)) ∨ ∃ k E, P.underlying T = some (.array k E) := by
  unfold isAg at h
  split at h <;> first | (exact .inl ⟨_, by assumption⟩) | (exact .inr ⟨_, _, by assumption⟩) | cases h
theorem isAg_f {T : TypeId} (h : isAg P T = some false) : ∃ d, P.underlying T = some d ∧ (∀ f, d ≠ .struct f) ∧ ∀ k E, d ≠ .array k E := by
  unfold isAg at h
  split at h
  · cases h
  · cases h
  · rename_i d h1 h2 hd; exact ⟨d, hd, fun f hf => by subst hf; exact h1 _ rfl, fun k E hf => by subst hf; exact h2 _ _ rfl⟩
  · cases h

theorem loadK_s {T : TypeId} {x : AV} {v : Value} (H : SH P w0 s h n w) (hx : Rel s x v) (hk : loadK P T x h c = true) : vLoad P T v w (KR s c) := by
  unfold loadK at hk
  split at hk
  · rename_i id o
    cases hx with | ptr hi =>
    rename_i b cc
    obtain ⟨B, hB, h2⟩ := orec_f hk
    obtain ⟨ag, hag, h3⟩ := orec_f h2
    obtain ⟨b', c', hs, hb, hBH⟩ := H.blk _ _ hB
    rw [hi] at hs; cases hs
    rcases brec_t h3 with ⟨rfl, h4⟩ | ⟨rfl, h4⟩
    · obtain ⟨sz, hsz, h5⟩ := orec_f h4
      obtain ⟨l, h6, h7, h8⟩ := readK_s (B := B) (f := fun _ => true) sz o h5
      obtain ⟨vs, hrel, hrd⟩ := hBH.reads h8
      have hlen : vs.length = sz := by rw [← hrel.length, h7]
      rcases isAg_t hag with ⟨f, hu⟩ | ⟨k, E, hu⟩
      · simp only [vLoad, hu, hsz]; exact ⟨vs, ⟨hlen, hrd⟩, _, h6, .agg hrel⟩
      · simp only [vLoad, hu, hsz]; exact ⟨vs, ⟨hlen, hrd⟩, _, h6, .agg hrel⟩
    · obtain ⟨a, ha, h5⟩ := orec_f h4
      obtain ⟨v, hv, hr⟩ := hBH.cell ha
      obtain ⟨d, hu, h6, h7⟩ := isAg_f hag
      simp only [vLoad, hu]
      exact ⟨v, hv, _, h5, hr⟩
  · cases hk

theorem partK_s {T : TypeId} {l : List AV} {l' : List Value} {o : Nat} (hl : RelL s l l') (hk : partK P T l o c = true) : vPart P T l'.toArray o (KR s c) := by
  unfold partK at hk
  obtain ⟨ag, hag, h3⟩ := orec_f hk
  rcases brec_t h3 with ⟨rfl, h4⟩ | ⟨rfl, h4⟩
  · obtain ⟨sz, hsz, h5⟩ := orec_f h4
    have e : l'.toArray.extract o (o + sz) = ((l'.drop o).take sz).toArray := by
      apply Array.ext'
      simp [List.extract_eq_take_drop]
    rcases isAg_t hag with ⟨f, hu⟩ | ⟨k, E, hu⟩
    · simp only [vPart, hu, hsz, e]; exact ⟨_, h5, .agg ((hl.drop o).take sz)⟩
    · simp only [vPart, hu, hsz, e]; exact ⟨_, h5, .agg ((hl.drop o).take sz)⟩
  · obtain ⟨a, ha, h5⟩ := orec_f h4
    rw [getL_eq] at ha
    obtain ⟨v, hv, hr⟩ := hl.get o a ha
    obtain ⟨d, hu, h6, h7⟩ := isAg_f hag
    simp only [vPart, hu, List.getElem?_toArray, hv]
    cases d with
    | struct f => exact absurd rfl (h6 _)
    | array k E => exact absurd rfl (h7 _ _)
    | _ => exact ⟨_, h5, hr⟩

theorem isSl_s {T : TypeId} (h : isSl P T = true) : ∃ E, P.underlying T = some (.slice E) := by
  unfold isSl at h; split at h <;> first | exact ⟨_, by assumption⟩ | cases h
theorem elemSz_sl {T E : TypeId} {sz : Nat} (hu : P.underlying T = some (.slice E)) (h : elemSz P T = some sz) : P.szo E = some sz := by simpa [elemSz, hu] using h
theorem elemSz_ar {T E : TypeId} {k sz : Nat} (hu : P.underlying T = some (.array k E)) (h : elemSz P T = some sz) : P.szo E = some sz := by simpa [elemSz, hu] using h

/-- Bounds of a slice expression. -/
def bV (x : Option Nat) (k : Option IntKind) : Option Value := match x, k with | some n, some k => some (.int k n) | _, _ => none
theorem bnd_s {lo hi : Option Nat} {a m : Nat} {f : Nat → Nat → Bool} (hk : bnd lo hi a m f = true) : ∃ l r, l = lo.getD 0 ∧ r = hi.getD a ∧ l ≤ r ∧ r ≤ m ∧ f l r = true := by
  unfold bnd at hk
  obtain ⟨h1, h2⟩ := brec_f hk
  obtain ⟨h3, h4⟩ := brec_f h2
  have e1 : (Option.rec 0 (fun l => l) lo : Nat) = lo.getD 0 := by cases lo <;> rfl
  have e2 : (Option.rec a (fun l => l) hi : Nat) = hi.getD a := by cases hi <;> rfl
  exact ⟨_, _, e1, e2, Nat.le_of_ble_eq_true h1, Nat.le_of_ble_eq_true h3, h4⟩

theorem partS_s {id o l r sz b cc c' : Nat} (hid : s id = some (b, cc)) (hlr : l ≤ r) (hc : r ≤ c') (a : Addr) (ha : a = ⟨b, o, none⟩) (hk : partS id o l r sz c = true) :
    KR s c (.slice (if c' = l then some a else some (a.add (l * sz))) (r - l) (c' - l)) := by
  unfold partS at hk
  subst ha
  rcases brec_t hk with ⟨h1, h2⟩ | ⟨h1, h2⟩
  · have := Nat.eq_of_beq_eq_true h1
    subst this
    simp only [Nat.sub_self]
    split
    · exact ⟨_, h2, .em _ _⟩
    · exact ⟨_, h2, .em _ _⟩
  · have := Nat.ne_of_beq_eq_false h1
    rw [forceN_eq, forceN_eq] at h2
    rw [if_neg (by omega), addr_add]
    exact ⟨_, h2, .su hid (show r - l ≤ c' - l by omega)⟩

theorem vSl {T E : TypeId} {sz m cap l r : Nat} {a : Option Addr} {lo hi : Option Nat} {kl kh : IntKind} {K : Value → Prop} (hu : P.underlying T = some (.slice E)) (hsz : P.szo E = some sz)
    (hl : l = lo.getD 0) (hr : r = hi.getD m) (h1 : l ≤ r) (h2 : r ≤ cap) (hm : m ≤ cap) (key : K (.slice (if cap = l then a else a.map (·.add (l * sz))) (r - l) (cap - l))) :
    vSlice P T (.slice a m cap) (lo.map fun n => .int kl (n : Int)) (hi.map fun n => .int kh (n : Int)) K := by
  have h0 : (a.map fun x => x.add 0) = a := by cases a <;> simp [Addr.add]
  simp only [vSlice, hu, hsz]
  cases lo with
  | none => cases hi with
    | none =>
      simp at hl hr; subst hl; subst hr
      refine ⟨by omega, ?_⟩
      simpa [h0] using key
    | some r' =>
      simp at hl hr; subst hl; subst hr
      refine ⟨by omega, ?_⟩
      simpa [h0] using key
  | some l' => cases hi with
    | none =>
      simp at hl hr; subst hl; subst hr
      refine ⟨by omega, ?_⟩
      simpa using key
    | some r' =>
      simp at hl hr; subst hl; subst hr
      refine ⟨by omega, ?_⟩
      simpa using key

theorem vSt {T : TypeId} {l r : Nat} {t : List UInt8} {lo hi : Option Nat} {kl kh : IntKind} {K : Value → Prop} (hu : P.underlying T = some .string)
    (hl : l = lo.getD 0) (hr : r = hi.getD t.length) (h1 : l ≤ r) (h2 : r ≤ t.length) (key : K (Str ((t.drop l).take (r - l)))) :
    vSlice P T (Str t) (lo.map fun n => .int kl (n : Int)) (hi.map fun n => .int kh (n : Int)) K := by
  have e : toL (⟨t.toArray⟩ : ByteArray) = t := by simp [toL]
  simp only [vSlice, hu, e, true_and]
  cases lo with
  | none => cases hi with
    | none =>
      simp at hl hr; subst hl; subst hr
      simpa using key
    | some r' =>
      simp at hl hr; subst hl; subst hr
      refine ⟨by omega, ?_⟩
      simpa using key
  | some l' => cases hi with
    | none =>
      simp at hl hr; subst hl; subst hr
      refine ⟨by omega, ?_⟩
      rw [List.take_of_length_le (by simp)] at key
      simpa using key
    | some r' =>
      simp at hl hr; subst hl; subst hr
      refine ⟨by omega, ?_⟩
      simpa using key

theorem sliceK_s {T : TypeId} {x : AV} {v : Value} {lo hi : Option Nat} {kl kh : IntKind} (hx : Rel s x v) (hk : sliceK P T x lo hi c = true) :
    vSlice P T v (lo.map fun n => .int kl (n : Int)) (hi.map fun n => .int kh (n : Int)) (KR s c) := by
  unfold sliceK at hk
  split at hk
  · rename_i t
    cases hx with | str _ ht =>
    obtain ⟨h1, h2⟩ := brec_f hk
    have hu := isStr_s h1
    rw [lenL_eq] at h2
    obtain ⟨l, r, hl, hr, h3, h4, h5⟩ := bnd_s h2
    rw [forceL_eq] at h5
    refine vSt (P := P) (t := t.map UInt8.ofNat) hu hl (by simpa using hr) h3 (by simpa using h4) ⟨_, h5, ?_⟩
    have := Rel.str (s := s) ((t.drop l).take (r - l)) (fun x hx => ht x (List.mem_of_mem_drop (List.mem_of_mem_take hx)))
    show Rel s (.str ((t.drop l).take (r - l))) _
    simpa only [strV, List.map_take, List.map_drop] using this
  all_goals first | (cases hk; done) | skip
  · rename_i id o m cap
    cases hx with | sl hid hn =>
    obtain ⟨h1, h2⟩ := brec_f hk
    obtain ⟨E, hu⟩ := isSl_s h1
    obtain ⟨sz, hsz, h3⟩ := orec_f h2
    have hsz := elemSz_sl hu hsz
    obtain ⟨l, r, hl, hr, h4, h5, h6⟩ := bnd_s h3
    rename_i b cc
    refine vSl hu hsz hl hr h4 h5 hn ?_
    rcases brec_t h6 with ⟨h7, h8⟩ | ⟨h7, h8⟩
    · have := Nat.eq_of_beq_eq_true h7; subst this
      rw [if_pos rfl, show r - l = 0 by omega]
      exact ⟨_, h8, .em _ _⟩
    · have := Nat.ne_of_beq_eq_false h7
      rw [forceN_eq, forceN_eq, forceN_eq] at h8
      rw [if_neg (by omega), Option.map_some, addr_add]
      exact ⟨_, h8, .sl hid (show r - l ≤ cap - l by omega)⟩
  · rename_i id m
    cases hx with | os hid hn =>
    rename_i b cc
    obtain ⟨h1, h2⟩ := brec_f hk
    obtain ⟨E, hu⟩ := isSl_s h1
    obtain ⟨sz, hsz, h3⟩ := orec_f h2
    have hsz := elemSz_sl hu hsz
    obtain ⟨l, r, hl, hr, h4, h5, h6⟩ := bnd_s h3
    refine vSl hu hsz hl hr h4 (by omega) hn ?_
    rcases brec_t h6 with ⟨h7, h8⟩ | ⟨h7, h8⟩
    · have := Nat.eq_of_beq_eq_true h7; subst this
      rw [forceN_eq] at h8
      have e : (if cc = 0 then (some (⟨b, 0, none⟩ : Addr)) else (some (⟨b, 0, none⟩ : Addr)).map (·.add (0 * sz))) = some ⟨b, 0, none⟩ := by simp [addr_add]
      rw [e]
      exact ⟨_, h8, .os hid (by omega)⟩
    · have := partS_s (s := s) (c := c) hid h4 (c' := cc) (by omega) ⟨b, 0, none⟩ rfl h8
      simpa using this
  · rename_i id o m
    cases hx with | su hid hn =>
    rename_i b cc c'
    obtain ⟨h1, h2⟩ := brec_f hk
    obtain ⟨E, hu⟩ := isSl_s h1
    obtain ⟨sz, hsz, h3⟩ := orec_f h2
    have hsz := elemSz_sl hu hsz
    obtain ⟨l, r, hl, hr, h4, h5, h6⟩ := bnd_s h3
    refine vSl hu hsz hl hr h4 (by omega) hn ?_
    have := partS_s (s := s) (c := c) hid h4 (c' := c') (by omega) ⟨b, o, none⟩ rfl h6
    simpa using this
  · cases hx
    obtain ⟨h1, h2⟩ := brec_f hk
    obtain ⟨E, hu⟩ := isSl_s h1
    obtain ⟨sz, hsz, h3⟩ := orec_f h2
    have hsz := elemSz_sl hu hsz
    obtain ⟨l, r, hl, hr, h4, h5, h6⟩ := bnd_s h3
    refine vSl hu hsz hl hr h4 h5 (Nat.le_refl _) ?_
    have e1 : l = 0 := by omega
    have e2 : r = 0 := by omega
    subst e1; subst e2
    exact ⟨_, h6, .nils⟩
end
end Go.Ev
