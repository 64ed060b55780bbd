/- The evaluator: operations that leave memory alone. -/
import Derived.Test.YtklpiecolpnmlaaDoorEv3
namespace Go.Ev
open Go Go.Eng
set_option linter.unusedVariables false
set_option linter.constructorNameAsVariable false
set_option linter.unusedSimpArgs false
section
variable {P : Program} {w0 w : World} {s : Mp} {h : Hp} {n : Rg} {c : KV}

theorem fieldOf_s {S T : TypeId} {f o : Nat} (hk : fieldOf P S f = some (T, o)) : ∃ fs fd, P.underlying S = some (.struct fs) ∧ fs[f]? = some fd ∧ fd.type = T ∧ fd.offset = o := by
  unfold fieldOf at hk
  split at hk
  · rename_i fs hu
    split at hk
    · rename_i fd hf
      cases hk
      exact ⟨fs, fd, hu, hf, rfl, rfl⟩
    · cases hk
  · cases hk
theorem fieldAddrK_s {S : TypeId} {x : AV} {v : Value} {f : Nat} (hx : Rel s x v) (hk : fieldAddrK P S x f c = true) : vFieldAddr P S v f (KR s c) := by
  unfold fieldAddrK at hk
  split at hk
  · rename_i id o
    cases hx with | ptr hi =>
    obtain ⟨⟨T, off⟩, hf, h2⟩ := orec_f hk
    obtain ⟨z, hz, h3⟩ := orec_f h2
    obtain ⟨fs, fd, hu, hfd, rfl, rfl⟩ := fieldOf_s hf
    cases z with
    | zero => cases h3
    | succ z =>
      have h4 : forceN (o + fd.offset) (fun o => c (.ptr id o)) = true := h3
      rw [forceN_eq] at h4
      simp only at hz
      simp only [vFieldAddr, hu, hfd, hz]
      exact ⟨_, h4, by rw [addr_add]; exact .ptr hi⟩
  · cases hk
theorem fieldK_s {S : TypeId} {x : AV} {v : Value} {f : Nat} (hx : Rel s x v) (hk : fieldK P S x f c = true) : vField P S v f (KR s c) := by
  unfold fieldK at hk
  split at hk
  · cases hx with | agg hl =>
    obtain ⟨⟨T, off⟩, hf, h2⟩ := orec_f hk
    obtain ⟨fs, fd, hu, hfd, rfl, rfl⟩ := fieldOf_s hf
    simp only [vField, hu, hfd]
    exact partK_s hl h2
  · cases hk
theorem arrOf_s {T E : TypeId} {k : Nat} (hk : arrOf P T = some (k, E)) : P.underlying T = some (.array k E) := by
  unfold arrOf at hk
  split at hk
  · rename_i hu; cases hk; exact hu
  · cases hk
theorem ixK_s {id o m sz i b cc : Nat} (hid : s id = some (b, cc)) (hk : ixK id o m sz i c = true) : i < m ∧ KR s c (.pointer (some ((⟨b, o, none⟩ : Addr).add (i * sz)))) := by
  unfold ixK at hk
  obtain ⟨h1, h2⟩ := brec_f hk
  rw [forceN_eq] at h2
  exact ⟨Nat.blt_eq.mp h1, _, h2, by rw [addr_add]; exact .ptr hid⟩
theorem indexAddrK_s {T : TypeId} {x i : AV} {v u : Value} (hx : Rel s x v) (hi : Rel s i u) (hk : indexAddrK P T x i c = true) : vIndexAddr P T v u (KR s c) := by
  unfold indexAddrK at hk
  split at hk
  · rename_i k i
    cases hi
    obtain ⟨sz, hsz, h2⟩ := orec_f hk
    split at h2
    · cases hx with | sl hid hn =>
      obtain ⟨h3, h4⟩ := brec_f h2
      obtain ⟨E, hu⟩ := isSl_s h3
      obtain ⟨h5, h6⟩ := ixK_s hid h4
      simp only [vIndexAddr, hu, elemSz_sl hu hsz]
      exact ⟨by simp only [Int.ofNat_eq_natCast]; omega, h6⟩
    · cases hx with | os hid hn =>
      obtain ⟨h3, h4⟩ := brec_f h2
      obtain ⟨E, hu⟩ := isSl_s h3
      obtain ⟨h5, h6⟩ := ixK_s hid h4
      simp only [vIndexAddr, hu, elemSz_sl hu hsz]
      exact ⟨by simp only [Int.ofNat_eq_natCast]; omega, h6⟩
    · cases hx with | su hid hn =>
      obtain ⟨h3, h4⟩ := brec_f h2
      obtain ⟨E, hu⟩ := isSl_s h3
      obtain ⟨h5, h6⟩ := ixK_s hid h4
      simp only [vIndexAddr, hu, elemSz_sl hu hsz]
      exact ⟨by simp only [Int.ofNat_eq_natCast]; omega, h6⟩
    · cases hx with | ptr hid =>
      obtain ⟨⟨m, E⟩, ha, h4⟩ := orec_f h2
      have hu := arrOf_s ha
      obtain ⟨h5, h6⟩ := ixK_s hid h4
      simp only at h5
      simp only [vIndexAddr, hu, elemSz_ar hu hsz]
      exact ⟨by simp only [Int.ofNat_eq_natCast]; omega, h6⟩
    · cases h2
  · cases hk
theorem indexK_s {T : TypeId} {x i : AV} {v u : Value} (hx : Rel s x v) (hi : Rel s i u) (hk : indexK P T x i c = true) : vIndex P T v u (KR s c) := by
  unfold indexK at hk
  split at hk
  · rename_i k i
    cases hi
    split at hk
    · rename_i t
      cases hx with | str _ ht =>
      obtain ⟨h1, h2⟩ := brec_f hk
      obtain ⟨b, hb, h3⟩ := orec_f h2
      rw [getL_eq] at hb
      have hlt := (List.getElem?_eq_some_iff.1 hb).1
      have hb256 := ht b (List.mem_of_getElem? hb)
      simp only [vIndex, strV, isStr_s h1, true_and, toL_str]
      refine ⟨by simp only [Int.ofNat_eq_natCast, List.length_map]; omega, _, h3, ?_⟩
      have e : (((t.map UInt8.ofNat).getD (Int.ofNat i).toNat 0).toNat : Int) = Int.ofNat b := by
        simp only [Int.ofNat_eq_natCast, Int.toNat_natCast]
        rw [List.getD_eq_getElem?_getD, List.getElem?_map, hb]
        simp only [Option.map_some, Option.getD_some, UInt8.toNat_ofNat']
        omega
      rw [e]; exact .int _ _
    · rename_i l
      cases hx with | agg hl =>
      obtain ⟨⟨m, E⟩, ha, h2⟩ := orec_f hk
      have hu := arrOf_s ha
      obtain ⟨h3, h4⟩ := brec_f h2
      obtain ⟨sz, hsz, h5⟩ := orec_f h4
      have h3 := Nat.blt_eq.mp h3
      simp only at h3 hsz h5
      simp only [vIndex, hu, hsz]
      exact ⟨by simp only [Int.ofNat_eq_natCast]; omega, partK_s hl h5⟩
    · cases hk
  · cases hk
theorem lenK_s {T : TypeId} {x : AV} {v : Value} (hx : Rel s x v) (hk : lenK P T x c = true) : vLen P T v (KR s c) := by
  unfold lenK at hk
  split at hk
  · cases hx with | str _ ht =>
    obtain ⟨h1, h2⟩ := brec_f hk
    rw [lenL_eq] at h2
    simp only [vLen, strV, isStr_s h1, toL_str, List.length_map]
    exact ⟨_, h2, .int _ _⟩
  all_goals first | (cases hk; done) | skip
  all_goals
    obtain ⟨h1, h2⟩ := brec_f hk
    obtain ⟨E, hu⟩ := isSl_s h1
    cases hx
    simp only [vLen, hu]
    exact ⟨_, h2, .int _ _⟩
theorem minK_s {l : List AV} {l' : List Value} (hl : RelL s l l') (hk : minK l c = true) : vMin l' (KR s c) := by
  unfold minK at hk
  split at hk
  · rename_i k a k' b
    obtain ⟨v1, m1, rfl, h1, hl1⟩ := hl.cons_inv
    obtain ⟨v2, m2, rfl, h2, hl2⟩ := hl1.cons_inv
    obtain rfl := hl2.nil_inv
    obtain rfl := h1.int_inv
    obtain rfl := h2.int_inv
    clear h1 h2 hl hl1 hl2
    simp only [vMin]
    rw [ltI_eq] at hk
    rcases brec_t hk with ⟨h1, h2⟩ | ⟨h1, h2⟩
    · have h1 := of_decide_eq_true h1
      rw [show min a b = b by omega]; exact ⟨_, h2, .int _ _⟩
    · have h1 := of_decide_eq_false h1
      rw [show min a b = a by omega]; exact ⟨_, h2, .int _ _⟩
  · rename_i k a k' b k'' d
    obtain ⟨v1, m1, rfl, h1, hl1⟩ := hl.cons_inv
    obtain ⟨v2, m2, rfl, h2, hl2⟩ := hl1.cons_inv
    obtain ⟨v3, m3, rfl, h3, hl3⟩ := hl2.cons_inv
    obtain rfl := hl3.nil_inv
    obtain rfl := h1.int_inv
    obtain rfl := h2.int_inv
    obtain rfl := h3.int_inv
    clear h1 h2 h3 hl hl1 hl2 hl3
    simp only [vMin]
    rw [ltI_eq, ltI_eq, ltI_eq] at hk
    rcases brec_t hk with ⟨h1, h2⟩ | ⟨h1, h2⟩
    · have h1 := of_decide_eq_true h1
      rcases brec_t h2 with ⟨h3, h4⟩ | ⟨h3, h4⟩
      · have h3 := of_decide_eq_true h3
        rw [show min (min a b) d = d by omega]; exact ⟨_, h4, .int _ _⟩
      · have h3 := of_decide_eq_false h3
        rw [show min (min a b) d = b by omega]; exact ⟨_, h4, .int _ _⟩
    · have h1 := of_decide_eq_false h1
      rcases brec_t h2 with ⟨h3, h4⟩ | ⟨h3, h4⟩
      · have h3 := of_decide_eq_true h3
        rw [show min (min a b) d = d by omega]; exact ⟨_, h4, .int _ _⟩
      · have h3 := of_decide_eq_false h3
        rw [show min (min a b) d = a by omega]; exact ⟨_, h4, .int _ _⟩
  · cases hk
theorem maxK_s {l : List AV} {l' : List Value} (hl : RelL s l l') (hk : maxK l c = true) : vMax l' (KR s c) := by
  unfold maxK at hk
  split at hk
  · rename_i k a k' b
    obtain ⟨v1, m1, rfl, h1, hl1⟩ := hl.cons_inv
    obtain ⟨v2, m2, rfl, h2, hl2⟩ := hl1.cons_inv
    obtain rfl := hl2.nil_inv
    obtain rfl := h1.int_inv
    obtain rfl := h2.int_inv
    clear h1 h2 hl hl1 hl2
    simp only [vMax]
    rw [ltI_eq] at hk
    rcases brec_t hk with ⟨h1, h2⟩ | ⟨h1, h2⟩
    · have h1 := of_decide_eq_true h1
      rw [show max a b = b by omega]; exact ⟨_, h2, .int _ _⟩
    · have h1 := of_decide_eq_false h1
      rw [show max a b = a by omega]; exact ⟨_, h2, .int _ _⟩
  · cases hk

/-! a row, as the model has it -/
theorem rowK_s {x : AV} {v : Value} {sz : Nat} {f : Nat → List AV → Bool} (H : SH P w0 s h n w) (hx : Rel s x v) (hk : rowK x sz h f = true) :
    ∃ a m cap l vs, v = .slice a m cap ∧ f m l = true ∧ RelL s l vs ∧ RS w a m sz vs := by
  have key : ∀ {id o m b cc : Nat} (cap : Nat), s id = some (b, cc) → (Option.rec false (fun B => readK B (Nat.mul m sz) o (f m)) (h.get id) : Bool) = true →
      ∃ l vs, f m l = true ∧ RelL s l vs ∧ RS w (some ⟨b, o, none⟩) m sz vs := by
    intro id o m b cc cap hid hk
    obtain ⟨B, hB, h2⟩ := orec_f hk
    obtain ⟨l, h3, h4, h5⟩ := readK_s (B := B) (f := fun _ => true) _ _ h2
    obtain ⟨b', c', hs, hb, hBH⟩ := H.blk _ _ hB
    rw [hid] at hs; cases hs
    obtain ⟨vs, hrel, hrd⟩ := hBH.reads h5
    refine ⟨l, vs, h3, hrel, by rw [← hrel.length, h4]; rfl, fun he => (by cases he), fun ad he => ?_⟩
    cases he; exact hrd
  unfold rowK at hk
  split at hk
  · cases hx; exact ⟨_, _, _, [], [], rfl, hk, .nil, by simp, fun _ => rfl, fun ad he => (by cases he)⟩
  · cases hx; exact ⟨_, _, _, [], [], rfl, hk, .nil, by simp, fun he => (by cases he), fun ad he => fun j u hu => (by simp at hu)⟩
  · cases hx with | sl hid hn => obtain ⟨l, vs, h1, h2, h3⟩ := key 0 hid hk; exact ⟨_, _, _, l, vs, rfl, h1, h2, h3⟩
  · cases hx with | os hid hn => obtain ⟨l, vs, h1, h2, h3⟩ := key 0 hid hk; exact ⟨_, _, _, l, vs, rfl, h1, h2, h3⟩
  · cases hx with | su hid hn => obtain ⟨l, vs, h1, h2, h3⟩ := key 0 hid hk; exact ⟨_, _, _, l, vs, rfl, h1, h2, h3⟩
  · cases hk
theorem natL_s : ∀ {l : List AV} {vs : List Value} {f : List Nat → Bool}, RelL s l vs → natL l f = true → ∃ m, f m = true ∧ (∀ x ∈ m, x < 256) ∧ vs = bytesV (m.map UInt8.ofNat) := by
  intro l
  induction l with
  | nil => intro vs f hl hk; cases hl; exact ⟨[], hk, by simp, rfl⟩
  | cons a l ih =>
    intro vs f hl hk
    obtain ⟨v, m', rfl, h1, hl'⟩ := hl.cons_inv
    have hk2 : natA a (fun n => natL l fun l => f (n :: l)) = true := hk
    clear hk hl
    unfold natA at hk2
    split at hk2
    · rename_i m
      obtain rfl := h1.int_inv
      obtain ⟨h2, h3⟩ := brec_f hk2
      obtain ⟨r, h4, h5, rfl⟩ := ih hl' h3
      have h2 := Nat.blt_eq.mp h2
      refine ⟨m :: r, h4, by simpa using ⟨h2, h5⟩, ?_⟩
      simp only [bytesV, List.map_cons, UInt8.toNat_ofNat', List.cons.injEq, and_true, Value.int.injEq, true_and, Int.ofNat_eq_natCast]
      omega
    · cases hk2
theorem isByteSl_s {T : TypeId} (hk : isByteSl P T = true) : ∃ E, P.underlying T = some (.slice E) ∧ P.underlying E = some (.int .u8) := by
  unfold isByteSl at hk
  split at hk
  · rename_i E hu
    split at hk
    · rename_i hE; exact ⟨E, hu, hE⟩
    · cases hk
  · cases hk
theorem convPK_s {S T : TypeId} {x : AV} {v : Value} (H : SH P w0 s h n w) (hx : Rel s x v) (hk : convPK P S T x h c = true) : vConv P S T v w (KR s c) := by
  unfold convPK at hk
  split at hk
  · cases hx
    obtain ⟨h1, h2⟩ := brec_f hk
    obtain ⟨k, hk2, h3⟩ := orec_f h2
    obtain ⟨d, hd⟩ := Option.isSome_iff_exists.1 h1
    simp only [vConv, hd, intOf_s hk2]
    exact wrapK_s h3
  · cases hx with | str _ ht =>
    obtain ⟨h1, h2⟩ := brec_f hk
    simp only [Bool.and_eq_true] at h1
    obtain ⟨d, hd⟩ := Option.isSome_iff_exists.1 h1.2
    simp only [vConv, strV, hd, isStr_s h1.1]
    exact ⟨_, h2, .str _ ht⟩
  · obtain ⟨h1, h2⟩ := brec_f hk
    simp only [Bool.and_eq_true] at h1
    obtain ⟨E, hu, hE⟩ := isByteSl_s h1.2
    obtain ⟨a, m, cap, l, vs, rfl, h3, hrel, hrs⟩ := rowK_s H hx h2
    obtain ⟨r, h4, h5, rfl⟩ := natL_s hrel h3
    simp only [vConv, hu, isStr_s h1.1]
    have hlen : (r.map UInt8.ofNat).length = m := by have := hrs.1; simp [bytesV] at this; simpa using this
    exact ⟨hE, r.map UInt8.ofNat, ⟨hlen, hrs.2.1, hrs.2.2⟩, _, h4, .str _ h5⟩

/-! frames -/

/-- What was put off: the marks of ranges over functions. -/
def DFl (s : Mp) : List Nat → List Deferred → Prop
  | [], D => D = []
  | i :: l, D => ∃ d c D', s i = some (d, c) ∧ D = markD d :: D' ∧ DFl s l D'
def DF (s : Mp) : Option (List Nat) → List Deferred → Prop
  | none, _ => True
  | some l, D => DFl s l D
theorem DFl.mono {s t : Mp} (hs : Le s t) : ∀ {l : List Nat} {D : List Deferred}, DFl s l D → DFl t l D
  | [], _, h => h
  | i :: l, D, ⟨d, c, D', h1, h2, h3⟩ => ⟨d, c, D', hs _ _ h1, h2, h3.mono hs⟩
theorem DF.mono {s t : Mp} (hs : Le s t) {df : Option (List Nat)} {D : List Deferred} (h : DF s df D) : DF t df D := by
  cases df with
  | none => exact h
  | some l => exact DFl.mono hs h
/-- What is known of a frame. -/
structure FE (N : Nat) (s : Mp) (e : Env') (a : Act) : Prop where
  size : a.tmps.size = N
  at_ : ∀ t v, e.get t = some v → t < N ∧ Rel s v (a.tmps.getD t undef)
  df : DF s e.df a.defers
theorem FE.mono {N : Nat} {s t : Mp} {e : Env'} {a : Act} (h : FE N s e a) (hs : Le s t) : FE N t e a := ⟨h.size, fun i v hv => ⟨(h.at_ i v hv).1, (h.at_ i v hv).2.mono hs⟩, h.df.mono hs⟩

theorem map_ofNat_bytes (l : List UInt8) : (bytesOf l).map UInt8.ofNat = l ∧ ∀ x ∈ bytesOf l, x < 256 := by
  induction l with
  | nil => exact ⟨rfl, by simp [bytesOf]⟩
  | cons a l ih =>
    have e : bytesOf (a :: l) = a.toNat :: bytesOf l := rfl
    rw [e]
    refine ⟨by simp [ih.1], fun x hx => ?_⟩
    rcases List.mem_cons.1 hx with rfl | hx
    · exact UInt8.toNat_lt a
    · exact ih.2 x hx
theorem ofV_s {v : Value} (hk : ofV v c = true) : KR s c v := by
  unfold ofV at hk
  split at hk
  · rw [forceI_eq] at hk; exact ⟨_, hk, .int _ _⟩
  · exact ⟨_, hk, .bool _⟩
  · rename_i t
    rw [forceL_eq] at hk
    obtain ⟨h1, h2⟩ := map_ofNat_bytes t.data.toList
    refine ⟨_, hk, ?_⟩
    have := Rel.str (s := s) _ h2
    have e : strV (bytesOf t.data.toList) = .string t := by simp [strV, h1]
    rw [e] at this; exact this
  · exact ⟨_, hk, .nilp⟩
  · exact ⟨_, hk, .nils⟩
  · exact ⟨_, hk, .nilf⟩
  · exact ⟨_, hk, .nili⟩
  · cases hk

/-- The frame as the engine looks at it. -/
def envOf (N : Nat) (a : Act) : Env := (List.range N).map fun t => (t, a.tmps.getD t undef)
theorem find_map (a : Act) : ∀ (l : List Nat) (t : Nat), Env.find? (l.map fun t => (t, a.tmps.getD t undef)) t = if t ∈ l then some (a.tmps.getD t undef) else none := by
  intro l
  induction l with
  | nil => intro t; simp [Env.find?]
  | cons x l ih =>
    intro t
    simp only [List.map_cons, Env.find?_cons, ih]
    by_cases hx : t = x
    · subst hx; simp
    · simp [hx]
theorem envOf_fits {N : Nat} {a : Act} (h : a.tmps.size = N) : Fits N (envOf N a) { a with defers := [] } :=
  ⟨h, rfl, fun t v ht => by
    rw [envOf, find_map] at ht
    split at ht
    · cases ht; rfl
    · cases ht⟩
theorem arg_env {N : Nat} {a : Act} {t : Nat} {K : Value → Prop} (ht : t < N) (hK : K (a.tmps.getD t undef)) : arg (envOf N a) (.tmp t) K := by
  have : ∀ (e : Env) (v : Value), e.find? t = some v → K v → argT e t K := by
    intro e
    induction e with
    | nil => intro v h _; simp [Env.find?] at h
    | cons p e ih =>
      intro v h hv
      simp only [Env.find?_cons] at h
      simp only [argT]
      split at h
      · rename_i hp; cases h; rw [if_pos hp]; exact hv
      · rename_i hp; rw [if_neg hp]; exact ih v h hv
  refine this _ _ ?_ hK
  rw [envOf, find_map, if_pos (by simpa using ht)]
variable {N : Nat} {e : Env'} {a : Act}
theorem argK_s {x : Operand} {K : Value → Prop} (F : FE N s e a) (hk : argK e x c = true) (hK : ∀ av v, c av = true → Rel s av v → K v) : arg (envOf N a) x K := by
  unfold argK argX at hk
  split at hk
  · obtain ⟨av, h1, h2⟩ := orec_f hk
    obtain ⟨h3, h4⟩ := F.at_ _ _ h1
    exact arg_env h3 (hK _ _ h2 h4)
  · obtain ⟨av, h1, h2⟩ := ofV_s (s := s) hk
    exact hK _ _ h1 h2
  · exact hK _ _ hk (.fn .nil .nil)
  · cases hk
theorem argsK_s : ∀ {l : List Operand} {f : List AV → Bool} {K : List Value → Prop}, FE N s e a → argsK e l f = true → (∀ m vs, f m = true → RelL s m vs → K vs) → argL (envOf N a) l K := by
  intro l
  induction l with
  | nil => intro f K F hk hK; exact hK [] [] hk .nil
  | cons x l ih =>
    intro f K F hk hK
    exact argK_s F hk fun av v h1 h2 => ih F h1 fun m vs h3 h4 => hK _ _ h3 (.cons h2 h4)
theorem argsP_s : ∀ {l : List (Nat × Operand)} {f : List (Nat × AV) → Bool} {K : List (Nat × Value) → Prop}, FE N s e a → argsP e l f = true → (∀ m vs, f m = true → m.map (·.1) = vs.map (·.1) → RelL s (m.map (·.2)) (vs.map (·.2)) → K vs) → vParts (envOf N a) l K := by
  intro l
  induction l with
  | nil => intro f K F hk hK; exact hK [] [] hk rfl .nil
  | cons x l ih =>
    intro f K F hk hK
    exact argK_s F hk fun av v h1 h2 => ih F h1 fun m vs h3 h4 h5 => hK _ _ h3 (by simp [h4]) (.cons h2 h5)
theorem optK_s {x : Option Operand} {f : Option Nat → Bool} {K : Option Value → Prop} (F : FE N s e a) (hk : optK e x f = true) (hK : ∀ (k : IntKind) o, f o = true → K (o.map fun n => .int k (n : Int))) : argO (envOf N a) x K := by
  unfold optK at hk
  split at hk
  · exact hK .i64 none hk
  · refine argK_s F hk fun av v h1 h2 => ?_
    split at h1
    · rename_i k m
      obtain rfl := h2.int_inv
      exact hK k (some m) h1
    · cases h1

theorem ofVs_s : ∀ {l : List Value} {f : List AV → Bool}, ofVs l f = true → ∃ m, f m = true ∧ RelL s m l := by
  intro l
  induction l with
  | nil => intro f hk; exact ⟨[], hk, .nil⟩
  | cons v l ih =>
    intro f hk
    obtain ⟨av, h1, h2⟩ := ofV_s (s := s) (show ofV v (fun a => ofVs l fun l => f (a :: l)) = true from hk)
    obtain ⟨m, h3, h4⟩ := ih h1
    exact ⟨_, h3, .cons h2 h4⟩
theorem zeroCs_s {T : TypeId} {f : List AV → Bool} (hk : zeroCs P T f = true) : ∃ z m, P.zeroOf T = some z ∧ f m = true ∧ RelL s m z.cells.toList := by
  unfold zeroCs at hk
  split at hk
  · rename_i z hz
    obtain ⟨m, h1, h2⟩ := ofVs_s (s := s) hk
    exact ⟨z, m, hz, h1, h2⟩
  · cases hk
theorem forceA_eq (l : List AV) : ∀ f : List AV → Bool, forceA l f = f l := by
  induction l with
  | nil => intro f; rfl
  | cons a l ih => intro f; exact ih _
theorem one_s {x : AV} {v : Value} (hx : Rel s x v) (h1 : one x = true) : v.oneCell' = true := by
  cases hx <;> first | rfl | (simp [one] at h1)
theorem ones_s : ∀ {l : List AV} {vs : List Value}, RelL s l vs → ones l = true → ∀ v ∈ vs, v.oneCell' = true := by
  intro l
  induction l with
  | nil => intro vs h _; rw [h.nil_inv]; simp
  | cons x l ih =>
    intro vs h h1
    obtain ⟨v, m, rfl, h2, h3⟩ := h.cons_inv
    obtain ⟨h4, h5⟩ := brec_f (show (Bool.rec false (ones l) (one x) : Bool) = true from h1)
    intro u hu
    rcases List.mem_cons.1 hu with rfl | hu
    · exact one_s h2 h4
    · exact ih h3 h5 u hu
theorem cellsK_s {x : AV} {v : Value} {f : List AV → Bool} (hx : Rel s x v) (hk : cellsK x f = true) : ∃ l vs, f l = true ∧ RelL s l vs ∧ v.cells = vs.toArray ∧ ∀ u ∈ vs, u.oneCell' = true := by
  unfold cellsK at hk
  split at hk
  · cases hx with | agg hl =>
    obtain ⟨h1, h2⟩ := brec_f hk
    exact ⟨_, _, h2, hl, rfl, ones_s hl h1⟩
  · cases hk
  · rename_i h1 h2
    refine ⟨_, [v], hk, .cons hx .nil, ?_, ?_⟩
    · cases hx <;> first | rfl | exact absurd rfl (h1 _)
    · intro u hu
      simp at hu; subst hu
      refine one_s hx ?_
      cases x <;> first | rfl | exact absurd rfl (h1 _) | exact absurd rfl (h2 _)
theorem foldl_set (vs : List Value) : ∀ (k : Nat) (o : Nat) (cells : Array Value), o + k + vs.length ≤ cells.size →
    ((vs.zipIdx k).foldl (fun cs (x : Value × Nat) => cs.setIfInBounds (o + x.2) x.1) cells) = (cells.toList.take (o + k) ++ (vs ++ cells.toList.drop (o + k + vs.length))).toArray := by
  induction vs with
  | nil => intro k o cells h; simp
  | cons v vs ih =>
    intro k o cells h
    simp only [List.length_cons] at h
    rw [List.zipIdx_cons, List.foldl_cons, ih (k + 1) o _ (by simp; omega)]
    have hlt : o + k < cells.toList.length := by simp; omega
    congr 1
    simp only [Array.toList_setIfInBounds]
    rw [show o + (k + 1) = (o + k) + 1 by omega, List.take_set, List.drop_set, List.take_succ_eq_append_getElem hlt, List.set_append_right _ _ (by simp; exact Nat.min_le_left _ _)]
    simp only [List.length_take, List.length_cons]
    rw [if_pos (by omega), show o + k - min (o + k) cells.toList.length = 0 by omega]
    simp [show o + k + 1 + vs.length = o + k + (vs.length + 1) by omega]
theorem fillK_s {pl : Nat → Option (Nat × Nat)} : ∀ {ps : List (Nat × AV)} {qs : List (Nat × Value)} {l : List AV} {cells : List Value} {f : List AV → Bool},
    ps.map (·.1) = qs.map (·.1) → RelL s (ps.map (·.2)) (qs.map (·.2)) → RelL s l cells → fillK pl ps l f = true → ∃ m vs, f m = true ∧ RelL s m vs ∧ Instr.fill pl cells.toArray qs = some vs.toArray := by
  intro ps
  induction ps with
  | nil =>
    intro qs l cells f h1 h2 h3 hk
    cases qs with
    | nil => exact ⟨l, cells, hk, h3, rfl⟩
    | cons => simp at h1
  | cons p ps ih =>
    intro qs l cells f h1 h2 h3 hk
    cases qs with
    | nil => simp at h1
    | cons q qs =>
      obtain ⟨i, av⟩ := p
      obtain ⟨j, v⟩ := q
      simp only [List.map_cons, List.cons.injEq] at h1
      obtain ⟨rfl, h1⟩ := h1
      obtain ⟨v', m', he, h4, h5⟩ := h2.cons_inv
      simp only [List.map_cons, List.cons.injEq] at he
      obtain ⟨rfl, rfl⟩ := he
      obtain ⟨⟨o, sz⟩, hpl, h6⟩ := orec_f hk
      obtain ⟨l', vs', h7, h8, h9, h10⟩ := cellsK_s h4 h6
      rw [lenL_eq, lenL_eq] at h7
      obtain ⟨h11, h12⟩ := brec_f h7
      obtain ⟨h13, h14⟩ := brec_f h12
      have h11 := Nat.eq_of_beq_eq_true h11
      have h13 := Nat.le_of_ble_eq_true h13
      rw [forceA_eq] at h14
      simp only at h11 h13 h14
      have hle : o + vs'.length ≤ cells.length := by have e1 := h8.length; have e2 := h3.length; have : Nat.add o l'.length = o + l'.length := rfl; omega
      have hrel : RelL s (l.take o ++ (l' ++ l.drop (o + l'.length))) (cells.take o ++ (vs' ++ cells.drop (o + vs'.length))) := by
        rw [h8.length]; exact (h3.take o).append (h8.append (h3.drop _))
      obtain ⟨m, vs, h15, h16, h17⟩ := ih h1 h5 hrel h14
      refine ⟨m, vs, h15, h16, ?_⟩
      simp only [Instr.fill, hpl, h9]
      rw [if_neg (by simp; have := h8.length; omega)]
      rw [← h17]
      congr 1
      have := foldl_set vs' 0 o cells.toArray (by simpa using hle)
      simp only [Nat.add_zero] at this
      rw [← this]
      simp [Array.zipIdx, List.mapIdx_eq_zipIdx_map]
theorem buildK_s {T : TypeId} {ps : List (Nat × AV)} {qs : List (Nat × Value)} (h1 : ps.map (·.1) = qs.map (·.1)) (h2 : RelL s (ps.map (·.2)) (qs.map (·.2))) (hk : buildK P T ps c = true) : vBuild P T qs (KR s c) := by
  obtain ⟨pl, hpl, h3⟩ := orec_f hk
  obtain ⟨z, m, hz, h4, h5⟩ := zeroCs_s (s := s) h3
  obtain ⟨r, vs, h6, h7, h8⟩ := fillK_s h1 h2 h5 h4
  rw [Array.toArray_toList] at h8
  have hb : P.built T qs = some vs.toArray := by
    unfold Program.zeroOf at hz
    unfold placesOf at hpl
    unfold Program.built
    cases hi : P.info? T with
    | none => simp [hi] at hz
    | some it =>
      simp only [hi, Option.bind_some] at hz
      split at hpl
      · rename_i k E hu
        simp only [hu, hz]
        split at hpl
        · rename_i ie hie
          cases hpl
          simp only [hie]; exact h8
        · cases hpl
      · rename_i fs hu
        simp only [hu, hz]
        split at hpl
        · rename_i l hl
          cases hpl
          simp only [hl]
          rw [← h8]
          congr 1
          funext i
          rw [getL_eq]; simp
        · cases hpl
      · cases hpl
  simp only [vBuild, hb]
  exact ⟨_, h6, .agg h7⟩

theorem notIf_s {T : TypeId} {x : Value} {K : Value → Prop} (h : notIf P T = true) (hK : K (.iface T x)) : vMakeIface P T x K := by
  unfold notIf at h
  unfold vMakeIface
  split at h
  · cases h
  · rename_i d h1 hu
    rw [hu]
    cases d <;> first | exact hK | exact absurd rfl (h1 _)
  · cases h
/-- OPERATIONS THAT LEAVE MEMORY ALONE. -/
theorem pureK_s {op : Op} (H : looksM op = true → SH P w0 s h n w) (F : FE N s e a) (hk : pureK P op e h c = true) : vcOp P op (envOf N a) w (KR s c) := by
  unfold pureK at hk
  unfold vcOp
  split at hk
  · exact argK_s F hk fun av v h1 h2 => ⟨_, h1, h2⟩
  · exact argK_s F hk fun av v h1 h2 => ⟨_, h1, h2⟩
  · refine argK_s F hk fun av v h1 h2 => ?_
    split at h1
    · cases h2; exact argK_s F h1 fun av v h1 h2 => ⟨_, h1, h2⟩
    · cases h2; exact argK_s F h1 fun av v h1 h2 => ⟨_, h1, h2⟩
    · cases h1
  · exact argK_s F hk fun av v h1 h2 => argK_s F h1 fun aw u h3 h4 => binK_s h2 h4 h3
  · exact argK_s F hk fun av v h1 h2 => unK_s h2 h1
  · exact argK_s F hk fun av v h1 h2 => convPK_s (H rfl) h2 h1
  · refine argK_s F hk fun av v h1 h2 => optK_s F h1 fun kl o h3 => optK_s F h3 fun kh o' h4 => sliceK_s h2 h4
  · exact argK_s F hk fun av v h1 h2 => fieldAddrK_s h2 h1
  · exact argK_s F hk fun av v h1 h2 => fieldK_s h2 h1
  · exact argK_s F hk fun av v h1 h2 => argK_s F h1 fun aw u h3 h4 => indexAddrK_s h2 h4 h3
  · exact argK_s F hk fun av v h1 h2 => argK_s F h1 fun aw u h3 h4 => indexK_s h2 h4 h3
  · refine argK_s F hk fun av v h1 h2 => ?_
    split at h1
    · cases h2 with | tup hl =>
      obtain ⟨x, h3, h4⟩ := orec_f h1
      rw [getL_eq] at h3
      obtain ⟨v, h5, h6⟩ := hl.get _ _ h3
      simp only [vExtract, List.getElem?_toArray, h5]
      exact ⟨_, h4, h6⟩
    · cases h1
  · refine argK_s F hk fun av v h1 h2 => ?_
    obtain ⟨h3, h4⟩ := brec_f h1
    exact notIf_s h3 ⟨_, h4, .ifc h2⟩
  · exact argsK_s F hk fun m vs h1 h2 => argsK_s F h1 fun m' vs' h3 h4 => ⟨_, h3, .fn h2 h4⟩
  · exact argsP_s F hk fun m vs h1 h2 h3 => buildK_s h2 h3 h1
  · exact argK_s F hk fun av v h1 h2 => loadK_s (H rfl) h2 h1
  · refine argK_s F hk fun av v h1 h2 => ?_
    split at h1
    · cases h2 with | ptr hi => exact ⟨_, h1, .ptr hi⟩
    · cases h2 with | fn h3 h4 => exact ⟨_, h1, .fn h3 h4⟩
    · cases h2 with | ifc h3 => exact ⟨_, h1, .ifc h3⟩
    · cases h1
  · refine argsK_s F hk fun m vs h1 h2 => ?_
    split at h1
    · obtain ⟨v, m', rfl, h3, h4⟩ := h2.cons_inv
      obtain rfl := h4.nil_inv
      rename_i hT
      simp only [hT]
      exact lenK_s h3 h1
    · cases h1
  · exact argsK_s F hk fun m vs h1 h2 => minK_s h2 h1
  · exact argsK_s F hk fun m vs h1 h2 => maxK_s h2 h1
  · cases hk
end
end Go.Ev
