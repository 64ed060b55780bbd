/- The evaluator: operations on memory. -/
import Derived.Test.YtklpiecolpnmlaaDoorEv4
namespace Go.Ev
open Go Go.Eng
set_option linter.unusedVariables false
set_option linter.constructorNameAsVariable false
set_option linter.unusedSimpArgs false

def updM (s : Mp) (n : Nat) (p : Nat × Nat) : Mp := fun i => if i = n then some p else s i

section
variable {P : Program} {w0 w w' : World} {s : Mp} {h h' : Hp} {n : Rg}

theorem SH.le (H : SH P w0 s h n w) (hn : n.1 < n.2) (p : Nat × Nat) : Le s (updM s n.1 p) := fun i q hi => by
  simp only [updM]
  by_cases h : i = n.1
  · rw [h, H.fresh n.1 (Nat.le_refl _) hn] at hi; cases hi
  · rw [if_neg h]; exact hi
theorem SH.ls (H : SH P w0 s h n w) (hn : n.1 < n.2) (p : Nat × Nat) : Ls n s (n.1 + 1, n.2) (updM s n.1 p) :=
  ⟨H.le hn p, fun i hi => by simp only [updM]; rw [if_neg (by omega)], by simp, rfl⟩
theorem updM_self (s : Mp) (n : Nat) (p : Nat × Nat) : updM s n p n = some p := by simp [updM]
theorem updM_ne {s : Mp} {n i : Nat} {p : Nat × Nat} (hi : i ≠ n) : updM s n p i = s i := by simp [updM, hi]

theorem BH.mono {B : Blk} {b k : Nat} {t : Mp} (H : BH P s B b k w) (hs : Le s t) (hb : w'.heap[b]? = w.heap[b]?) : BH P t B b k w' := by
  obtain ⟨vs, rest, fz, h1, h2, h3, h4⟩ := H
  exact ⟨vs, rest, fz, by rw [hb]; exact h1, h2, fun i a ha => let ⟨v, hv, hr⟩ := h3 i a ha; ⟨v, hv, hr.mono hs⟩, h4⟩
theorem BH.lt {B : Blk} {b k : Nat} (H : BH P s B b k w) : b < w.heap.size := by
  obtain ⟨vs, rest, fz, h1, _⟩ := H
  exact (Array.getElem?_eq_some_iff.1 h1).1

/-- A block changed in place. -/
theorem SH.put {i b k : Nat} {B B' : Blk} (H : SH P w0 s h n w) (hB : h.get i = some B) (hs : s i = some (b, k)) (hh : ∀ j, h'.get j = if j = i then some B' else h.get j) (hlp : h'.lp = h.lp) (hu : Upd [b] w w') (hBH : BH P s B' b k w') : SH P w0 s h' n w' := by
  obtain ⟨b1, k1, hs1, hb0, hB1⟩ := H.blk i B hB
  rw [hs] at hs1; cases hs1
  refine ⟨H.upd.trans hu (by intro x hx; simp at hx; subst hx; exact .inr hb0), fun j C hj => ?_, fun j1 j2 C D b1 c1 c2 h1 h2 h3 h4 => ?_, H.fresh, fun j p hj => (H.lps j p (by rw [← hlp]; exact hj)).keep (Le.refl s) fun q hq hn => hu.block q hq fun hx => ?_, fun j1 j2 p q d c c' h1 h2 => H.lin j1 j2 p q d c c' (by rw [← hlp]; exact h1) (by rw [← hlp]; exact h2)⟩
  · rw [hh] at hj
    split at hj
    · rename_i hji; subst hji; cases hj; exact ⟨b, k, hs, hb0, hBH⟩
    · rename_i hji
      obtain ⟨b2, k2, hs2, hb2, hB2⟩ := H.blk j C hj
      have hne : b2 ≠ b := fun he => by subst he; exact hji (H.inj _ _ _ _ _ _ _ hj hB hs2 hs)
      exact ⟨b2, k2, hs2, hb2, hB2.mono (Le.refl s) (hu.block _ hB2.lt (by simpa using hne))⟩
  · have key : ∀ j C, h'.get j = some C → ∃ C', h.get j = some C' := fun j C hj => by
      rw [hh] at hj
      split at hj
      · rename_i hji; subst hji; exact ⟨_, hB⟩
      · exact ⟨_, hj⟩
    obtain ⟨C', h5⟩ := key _ _ h1
    obtain ⟨D', h6⟩ := key _ _ h2
    exact H.inj _ _ _ _ _ _ _ h5 h6 h3 h4
  · simp at hx; subst hx
    obtain ⟨vs, rest, fz, g1, _⟩ := hB1
    exact hn _ _ _ g1

/-- A new number, for a new block or for one that no other number stands for any more. -/
theorem SH.gen {S : List Nat} {b k : Nat} {B : Blk} (H : SH P w0 s h n w) (hn0 : n.1 < n.2) (hu : Upd S w w') (hS : ∀ x ∈ S, w0.heap.size ≤ x ∧ ∀ j C b c, h'.get j = some C → j ≠ n.1 → s j = some (b, c) → b ≠ x)
    (hb : w0.heap.size ≤ b ∧ ∀ j C b' c', h'.get j = some C → j ≠ n.1 → s j = some (b', c') → b' ≠ b)
    (hSc : ∀ x ∈ S, ¬ noCells w x) (hlp : h'.lp = h.lp) (hh : ∀ j, j ≠ n.1 → ∀ C, h'.get j = some C → h.get j = some C) (hn : h'.get n.1 = some B) (hBH : BH P (updM s n.1 (b, k)) B b k w') : SH P w0 (updM s n.1 (b, k)) h' (n.1 + 1, n.2) w' := by
  have hlt : ∀ j p d c, h.lp.get j = some p → updM s n.1 (b, k) j = some (d, c) → s j = some (d, c) := fun j p d c hj hs => by
    by_cases hjn : j = n.1
    · subst hjn
      obtain ⟨d', c', r, h1, _⟩ := H.lps _ p hj
      rw [H.fresh n.1 (Nat.le_refl _) hn0] at h1; cases h1
    · rw [updM_ne hjn] at hs; exact hs
  refine ⟨H.upd.trans hu fun x hx => .inr (hS x hx).1, fun j C hj => ?_, fun j1 j2 C D b1 c1 c2 h1 h2 h3 h4 => ?_, fun i hi hi2 => ?_, fun j p hj => (H.lps j p (by rw [← hlp]; exact hj)).keep (H.le hn0 _) fun q hq hn => hu.block q hq fun hx => hSc q hx hn, fun j1 j2 p q d c c' h1 h2 h3 h4 => by
    rw [hlp] at h1 h2
    exact H.lin j1 j2 p q d c c' h1 h2 (hlt _ _ _ _ h1 h3) (hlt _ _ _ _ h2 h4)⟩
  · by_cases hjn : j = n.1
    · subst hjn; rw [hn] at hj; cases hj; exact ⟨b, k, updM_self _ _ _, hb.1, hBH⟩
    · obtain ⟨b2, k2, hs2, hb2, hB2⟩ := H.blk j C (hh j hjn C hj)
      refine ⟨b2, k2, by rw [updM_ne hjn]; exact hs2, hb2, hB2.mono (H.le hn0 _) (hu.block _ hB2.lt fun hx => (hS _ hx).2 j C _ _ hj hjn hs2 rfl)⟩
  · by_cases h5 : j1 = n.1
    · subst h5
      by_cases h6 : j2 = n.1
      · exact h6.symm
      · rw [updM_self] at h3; cases h3
        rw [updM_ne h6] at h4
        exact absurd rfl (hb.2 j2 D _ _ h2 h6 h4)
    · rw [updM_ne h5] at h3
      by_cases h6 : j2 = n.1
      · subst h6; rw [updM_self] at h4; cases h4
        exact absurd rfl (hb.2 j1 C _ _ h1 h5 h3)
      · rw [updM_ne h6] at h4
        exact H.inj _ _ _ _ _ _ _ (hh _ h5 _ h1) (hh _ h6 _ h2) h3 h4
  · simp only at hi hi2
    rw [updM_ne (by omega)]
    exact H.fresh i (by omega) hi2
theorem SH.new {b k : Nat} {B : Blk} (H : SH P w0 s h n w) (hn0 : n.1 < n.2) (hb : w.heap.size ≤ b) (hu : Upd [] w w') (hlp : h'.lp = h.lp) (hh : ∀ j, h'.get j = if j = n.1 then some B else h.get j) (hBH : BH P (updM s n.1 (b, k)) B b k w') : SH P w0 (updM s n.1 (b, k)) h' (n.1 + 1, n.2) w' := by
  refine H.gen hn0 hu (by simp) ⟨Nat.le_trans H.upd.size hb, fun j C b' c' hj hjn hs => ?_⟩ (by simp) hlp (fun j hjn C hj => by rw [hh, if_neg hjn] at hj; exact hj) (by rw [hh, if_pos rfl]) hBH
  rw [hh, if_neg hjn] at hj
  obtain ⟨b2, k2, hs2, _, hB2⟩ := H.blk j C hj
  rw [hs] at hs2; cases hs2
  have := hB2.lt
  omega

theorem writeK_s : ∀ {l : List AV} {t : Tr AV} {o : Nat} {f : Tr AV → Bool}, writeK l t o f = true → ∃ t' : Tr AV, f t' = true ∧ ∀ j, t'.get j = if o ≤ j ∧ j < o + l.length then l[j - o]? else t.get j := by
  intro l
  induction l with
  | nil => intro t o f hk; exact ⟨t, hk, fun j => by rw [List.length_nil, if_neg (by omega)]⟩
  | cons a l ih =>
    intro t o f hk
    obtain ⟨t1, h1, h2⟩ := Tr.put_spec _ _ _ _ _ (show Tr.put fuelT t o (some a) (fun t => writeK l t (Nat.succ o) f) = true from hk)
    obtain ⟨t', h3, h4⟩ := ih h1
    refine ⟨t', h3, fun j => ?_⟩
    rw [h4, h2]
    simp only [List.length_cons]
    by_cases hj : j = o
    · subst hj; rw [if_neg (by omega), if_pos rfl, if_pos (by omega)]; simp
    · by_cases hj2 : Nat.succ o ≤ j ∧ j < Nat.succ o + l.length
      · rw [if_pos hj2, if_pos (by omega)]
        rw [show j - o = (j - Nat.succ o) + 1 by omega, List.getElem?_cons_succ]
      · rw [if_neg hj2, if_neg hj, if_neg (by omega)]
theorem newK_s {T : TypeId} {op : Bool} {l : List AV} {d : Option AV} {m : Nat} {f : Nat → Hp → Rg → Bool} (hk : newK T op l d m h n f = true) :
    n.1 < n.2 ∧ ∃ (h' : Hp) (t : Tr AV), f n.1 h' (n.1 + 1, n.2) = true ∧ (∀ j, t.get j = l[j]?) ∧ (∀ j, h'.get j = if j = n.1 then some ⟨T, op, m, d, t⟩ else h.get j) ∧ h'.lp = h.lp := by
  obtain ⟨h0, hk⟩ := nx_s hk
  refine ⟨h0, ?_⟩
  obtain ⟨t, h1, h2⟩ := writeK_s hk
  obtain ⟨h', h3, h4, h5⟩ := Hp.put_spec h1
  refine ⟨h', t, h3, fun j => ?_, h4, h5⟩
  rw [h2]
  by_cases hj : 0 ≤ j ∧ j < 0 + l.length
  · rw [if_pos hj]; simp
  · rw [if_neg hj, List.getElem?_eq_none (by omega)]; rfl

/-- A block that is known whole. -/
theorem BH.whole {T : TypeId} {l : List AV} {vs : List Value} {t : Tr AV} {b k : Nat} (hl : RelL s l vs) (ht : ∀ j, t.get j = l[j]?) (hw : w.heap[b]? = some (.cells vs.toArray T)) : BH P s ⟨T, false, l.length, none, t⟩ b k w := by
  refine ⟨vs, [], (0, 0), by simpa using hw, hl.length.symm, fun i a ha => ?_, unfz00 _, fun _ => rfl, fun he => (by cases he)⟩
  rw [Blk.at_eq] at ha
  simp only [ht] at ha
  split at ha
  · rename_i hi
    rw [List.getElem?_eq_getElem hi] at ha
    simp only [Option.some.injEq] at ha
    exact hl.get i a (by rw [List.getElem?_eq_getElem hi, ha])
  · cases ha
theorem upd_alloc (w : World) (o : Obj) : Upd [] w (w.alloc o) := ⟨rfl, rfl, rfl, by simp, fun k hk _ => RowKit.Below.heap_alloc w o k hk⟩

theorem storeK_s {T : TypeId} {x v : AV} {vx vv : Value} {f : Hp → Bool} (H : SH P w0 s h n w) (hx : Rel s x vx) (hv : Rel s v vv) (hk : storeK P T x v h f = true) :
    ∃ h' w', f h' = true ∧ SH P w0 s h' n w' ∧ (Instr.storeAt T vx vv).run P w = .ok () w' := by
  unfold storeK at hk
  split at hk
  · rename_i id o
    cases hx with | ptr hid =>
    rename_i b k
    obtain ⟨B, hB, h2⟩ := orec_f hk
    obtain ⟨l, us, h3, hl, hc, h1⟩ := cellsK_s hv h2
    rw [lenL_eq] at h3
    obtain ⟨m', hm', h4⟩ := orec_f h3
    obtain ⟨h5, h6⟩ := brec_f h4
    obtain ⟨h7, h8⟩ := brec_f h6
    have h5 := Nat.eq_of_beq_eq_true h5
    have h7 := Nat.le_of_ble_eq_true h7
    have h7 : o + l.length ≤ B.n := h7
    obtain ⟨t, h9, h10⟩ := writeK_s h8
    obtain ⟨h', h11, h12, h13⟩ := Hp.put_spec h9
    obtain ⟨b1, k1, hs1, hb0, hBH⟩ := H.blk _ _ hB
    rw [hid] at hs1; cases hs1
    have hBH0 := hBH
    obtain ⟨vs, rest, fz, g1, g2, g3, g4, g5, g6⟩ := hBH
    have hul : us.length = l.length := hl.length.symm
    have hrun := run_storeVar_blk (P := P) (w := w) hc (by rw [hm', ← h5, hul]) g1 g4 (o := o) (by simp; omega) h1 0
    rw [drewN0, drewN0] at hrun
    refine ⟨h', _, h11, ?_, hrun⟩
    have hcs : (vs ++ rest).take o ++ us ++ (vs ++ rest).drop (o + us.length) = (vs.take o ++ us ++ vs.drop (o + us.length)) ++ rest := by
      rw [List.take_append_of_le_length (by omega), List.drop_append_of_le_length (by omega)]
      simp
    rw [hcs]
    have hlen : ((vs.take o ++ us ++ vs.drop (o + us.length)) ++ rest).length = (vs ++ rest).length := by simp; omega
    refine H.put hB hid h12 h13 (putBlk_upd _ _ _ _ _) ⟨_, rest, fz, putBlk_at hBH0.lt, by simp; omega, fun i a ha => ?_, by rw [hlen]; exact g4, g5, by rw [hlen]; exact g6⟩
    rw [Blk.at_eq] at ha
    simp only [h10] at ha
    split at ha
    · rename_i hi
      by_cases hin : o ≤ i ∧ i < o + l.length
      · rw [if_pos hin, List.getElem?_eq_getElem (by omega)] at ha
        simp only [Option.some.injEq] at ha
        obtain ⟨v, hv1, hv2⟩ := hl.get (i - o) a (by rw [List.getElem?_eq_getElem (by omega), ha])
        refine ⟨v, ?_, hv2⟩
        rw [List.getElem?_append_left (by simp; omega), List.getElem?_append_right (by simp; omega)]
        simp only [List.length_take]
        rw [show min o vs.length = o by omega]; exact hv1
      · rw [if_neg hin] at ha
        obtain ⟨v, hv1, hv2⟩ := g3 i a (by rw [Blk.at_eq, if_pos hi]; exact ha)
        refine ⟨v, ?_, hv2⟩
        by_cases hlo : i < o
        · rw [List.getElem?_append_left (by simp; omega), List.getElem?_append_left (by simp; omega), List.getElem?_take, if_pos hlo]; exact hv1
        · rw [List.getElem?_append_right (by simp; omega), List.getElem?_drop]
          rw [← hv1]; congr 1; simp; omega
    · cases ha
  · cases hk

theorem alloc_s {T : TypeId} {l : List AV} {vs : List Value} {f : Nat → Hp → Rg → Bool} (k : Nat) (H : SH P w0 s h n w) (hl : RelL s l vs) (hk : newK T false l none l.length h n f = true) :
    n.1 < n.2 ∧ ∃ h', f n.1 h' (n.1 + 1, n.2) = true ∧ SH P w0 (updM s n.1 (w.heap.size, k)) h' (n.1 + 1, n.2) (w.alloc (.cells vs.toArray T)) := by
  obtain ⟨h0, h', t, h1, h2, h3⟩ := newK_s hk
  exact ⟨h0, h', h1, H.new h0 (Nat.le_refl _) (upd_alloc w _) h3.2 h3.1 (BH.whole (hl.mono (H.le h0 _)) h2 (heap_alloc_new w _))⟩

theorem repK_s {z : List AV} {zs : List Value} (hz : RelL s z zs) : ∀ {m : Nat} {f : List AV → Bool}, repK z m f = true → ∃ l, f l = true ∧ RelL s l (List.replicate m zs).flatten := by
  intro m
  induction m with
  | zero => intro f hk; exact ⟨[], hk, .nil⟩
  | succ m ih =>
    intro f hk
    obtain ⟨l, h1, h2⟩ := ih (show repK z m (fun l => forceA (z ++ l) f) = true from hk)
    rw [forceA_eq] at h1
    exact ⟨_, h1, by rw [List.replicate_succ, List.flatten_cons]; exact hz.append h2⟩
theorem eltOf_s {T E : TypeId} (hk : eltOf P T = some E) : P.underlying T = some (.slice E) := by
  unfold eltOf at hk
  split at hk
  · rename_i hu; cases hk; exact hu
  · cases hk
theorem bytesOfT_s {T : TypeId} {b : Nat} (hk : bytesOfT P T = some b) : ∃ i, P.info? T = some i ∧ i.bytes = b := by
  unfold bytesOfT at hk
  split at hk
  · rename_i i hi; cases hk; exact ⟨i, hi, rfl⟩
  · cases hk
theorem lenR {α : Type} (l : List α) : (List.rec 0 (fun _ _ n => Nat.succ n) l : Nat) = l.length := by
  induction l with
  | nil => rfl
  | cons a l ih => exact congrArg Nat.succ ih
theorem makeK_s {T : TypeId} {x y : AV} {vx vy : Value} {c : KH} (H : SH P w0 s h n w) (hx : Rel s x vx) (hy : Rel s y vy) (hk : makeK P T x y h n c = true) :
    ∃ s' av v h' n' w', Ls n s n' s' ∧ Rel s' av v ∧ SH P w0 s' h' n' w' ∧ c av h' n' = true ∧ (Instr.makeSlice T vx vy).run P w = .ok v w' := by
  unfold makeK at hk
  split at hk
  · rename_i l m
    obtain rfl := hx.int_inv
    obtain rfl := hy.int_inv
    obtain ⟨E, hE, h1⟩ := orec_f hk
    obtain ⟨bs, hbs, h2⟩ := orec_f h1
    obtain ⟨sz, hsz, h3⟩ := orec_f h2
    obtain ⟨hlm, h4⟩ := brec_f h3
    obtain ⟨hb, h5⟩ := brec_f h4
    obtain ⟨z, za, hz, h6, hza⟩ := zeroCs_s (s := s) h5
    obtain ⟨z0, hz0, h7⟩ := orec_f h6
    rw [getL_eq] at hz0
    have hu := eltOf_s hE
    obtain ⟨i, hi, rfl⟩ := bytesOfT_s hbs
    have hlm := Nat.le_of_ble_eq_true hlm
    simp only [Bool.and_eq_true] at hb
    have hb1 := Nat.le_of_ble_eq_true hb.1
    have hb2 := Nat.le_of_ble_eq_true hb.2
    have hb1 : i.bytes * m ≤ 281474976710656 := hb1
    have hisz : i.size = sz := by simpa [Program.szo, hi] using hsz
    have hiz : i.zero = some z := by simpa [Program.zeroOf, hi] using hz
    have hzc : z.cells = z.cells.toList.toArray := by simp
    have hz1 : 0 < za.length := (List.getElem?_eq_some_iff.1 hz0).1
    have main : ∀ h' t B, za.length = sz → B.n = m * sz → B.T = E → B.op = false → (∀ j a, B.at j = some a → ∃ v, (List.replicate m z.cells.toList).flatten[j]? = some v ∧ Rel s a v) → ((∀ j, h'.get j = if j = n.1 then some B else h.get j) ∧ h'.lp = h.lp) → c (.sl n.1 0 l m) h' (n.1 + 1, n.2) = true → n.1 < n.2 → t = h' →
        ∃ s' av v h' n' w', Ls n s n' s' ∧ Rel s' av v ∧ SH P w0 s' h' n' w' ∧ c av h' n' = true ∧ (Instr.makeSlice T (.int .i64 (Int.ofNat l)) (.int .i64 (Int.ofNat m))).run P w = .ok v w' := by
      intro h' t B hzl hBn hBT hBo hBa hh hc h00 _
      have hk : z.cells.toList.length = sz := by rw [← hza.length]; exact hzl
      have e48 : (2 : Nat) ^ 48 = 281474976710656 := by decide
      have hrun := run_makeSliceK (P := P) hu hi hiz hzc hisz hk (by omega) hlm (by rw [e48]; exact hb1) (by simp only [maxLen]; omega) w
      refine ⟨updM s n.1 (w.heap.size, m), _, _, h', (n.1 + 1, n.2), _, H.ls h00 _, .sl (updM_self _ _ _) hlm, H.new h00 (Nat.le_refl _) (upd_alloc w _) hh.2 hh.1 ?_, hc, hrun⟩
      refine ⟨(List.replicate m z.cells.toList).flatten, [], (0, 0), ?_, ?_, fun j a ha => ?_, unfz00 _, fun _ => rfl, fun he => by rw [hBo] at he; cases he⟩
      · rw [hBT, List.append_nil]; exact heap_alloc_new w _
      · rw [hBn]; exact rep_len _ _ hk m
      · obtain ⟨v, hv, hr⟩ := hBa j a ha
        exact ⟨v, hv, hr.mono (H.le h00 _)⟩
    rcases brec_t h7 with ⟨h8, h9⟩ | ⟨h8, h9⟩
    · simp only [Bool.and_eq_true] at h8
      have e1 := Nat.eq_of_beq_eq_true h8.1
      have e2 := Nat.eq_of_beq_eq_true h8.2
      rw [lenR] at e1
      subst e2
      obtain ⟨h00, h', t, g1, g2, g3⟩ := newK_s h9
      refine main h' h' _ e1 (by simp) rfl rfl (fun j a ha => ?_) g3 g1 h00 rfl
      rw [Blk.at_eq] at ha
      simp only [g2] at ha
      split at ha
      · rename_i hj
        simp at ha
        subst ha
        obtain ⟨v, hv, hr⟩ := hza.get 0 z0 hz0
        refine ⟨v, ?_, hr⟩
        rw [rep_get _ 1 (by rw [← hza.length]; exact e1) (by omega) m j (by omega), Nat.mod_one]; exact hv
      · cases ha
    · obtain ⟨h10, h11⟩ := brec_f h9
      have e1 := Nat.eq_of_beq_eq_true h10
      rw [lenR] at e1
      obtain ⟨r, h12, h13⟩ := repK_s hza h11
      rw [lenL_eq] at h12
      obtain ⟨h00, h', t, g1, g2, g3⟩ := newK_s h12
      have hzk : z.cells.toList.length = sz := by rw [← hza.length]; exact e1
      refine main h' h' _ e1 (by rw [h13.length]; exact rep_len _ _ hzk m) rfl rfl (fun j a ha => ?_) g3 g1 h00 rfl
      rw [Blk.at_eq] at ha
      simp only [g2] at ha
      split at ha
      · rename_i hj
        rw [List.getElem?_eq_getElem hj] at ha
        simp only [Option.some.injEq] at ha
        exact h13.get j a (by rw [List.getElem?_eq_getElem hj, ha])
      · cases ha
  · cases hk

theorem run_buildSlice {T E : TypeId} {len sz : Nat} {z : Value} {qs : List (Nat × Value)} {vs : List Value} (hu : P.underlying T = some (.slice E)) (hsz : P.szo E = some sz) (hz : P.zeroOf E = some z) (hzl : z.cells.toList.length = sz) (hle : len * sz ≤ 16777216)
    (hf : Instr.fill (fun i => some (i * sz, sz)) (List.replicate len z.cells.toList).flatten.toArray qs = some vs.toArray) (w : World) :
    (Instr.buildSlice T len qs.toArray).run P w = .ok (.slice (some ⟨w.heap.size, 0, none⟩) len len) (w.alloc (.cells vs.toArray E)) := by
  have hso := run_szo (P := P) hsz
  simp only [Instr.buildSlice, Sem.run_bind, run_underlying hu, hso, Result.andThen_ok]
  have e24 : (2 : Nat) ^ 24 = 16777216 := by decide
  rw [if_neg (by rw [e24]; omega)]
  by_cases h0 : len * sz = 0
  · rw [if_pos h0]
    have e : (List.replicate len z.cells.toList).flatten = [] := List.eq_nil_of_length_eq_zero (by rw [rep_len _ _ hzl]; exact h0)
    rw [e] at hf
    have e2 : ((Array.range (len * sz)).map fun x => (#[] : Array Value)[x % (#[] : Array Value).size]!) = [].toArray := by rw [h0]; simp
    simp only [Sem.run_bind, Sem.run_pure, Result.andThen_ok, e2, hf, run_newRow]
  · rw [if_neg h0]
    have hk0 : 0 < sz := Nat.pos_of_ne_zero fun e => h0 (by rw [e]; simp)
    have hrow : ((Array.range (len * sz)).map fun x => z.cells[x % z.cells.size]!) = (List.replicate len z.cells.toList).flatten.toArray := by
      have hzs : z.cells.size = sz := by simpa using hzl
      apply Array.ext
      · simp only [Array.size_map, Array.size_range, List.size_toArray]; exact (rep_len _ _ hzl len).symm
      · intro j h3 h4
        have h5 : j < len * sz := by simpa using h3
        have h6 := rep_get z.cells.toList sz hzl hk0 len j h5
        have h7 : j % sz < z.cells.toList.length := by rw [hzl]; exact Nat.mod_lt _ hk0
        rw [List.getElem?_eq_getElem (by rw [rep_len _ sz hzl len]; exact h5), List.getElem?_eq_getElem h7] at h6
        simp only [Array.getElem_map, Array.getElem_range, List.getElem_toArray, hzs]
        rw [getElem!_pos z.cells (j % sz) (by simpa using h7)]
        simpa using (Option.some.inj h6).symm
    simp only [Sem.run_bind, run_zeroOf hz, Sem.run_pure, Result.andThen_ok, hrow, hf, run_newRow]

theorem buildSliceK_s {T : TypeId} {len : Nat} {ps : List (Nat × AV)} {qs : List (Nat × Value)} {c : KH} (H : SH P w0 s h n w) (h1 : ps.map (·.1) = qs.map (·.1)) (h2 : RelL s (ps.map (·.2)) (qs.map (·.2))) (hk : buildSliceK P T len ps h n c = true) :
    ∃ s' av v h' n' w', Ls n s n' s' ∧ Rel s' av v ∧ SH P w0 s' h' n' w' ∧ c av h' n' = true ∧ (Instr.buildSlice T len qs.toArray).run P w = .ok v w' := by
  obtain ⟨E, hE, h3⟩ := orec_f hk
  obtain ⟨sz, hsz, h4⟩ := orec_f h3
  obtain ⟨z, za, hz, h5, hza⟩ := zeroCs_s (s := s) h4
  rw [lenL_eq] at h5
  obtain ⟨h6, h7⟩ := brec_f h5
  obtain ⟨h8, h9⟩ := brec_f h7
  have h6 := Nat.eq_of_beq_eq_true h6
  have h8 := Nat.le_of_ble_eq_true h8
  obtain ⟨r, h10, hr⟩ := repK_s hza h9
  obtain ⟨m, vs, h11, h12, h13⟩ := fillK_s h1 h2 hr h10
  rw [lenL_eq] at h11
  obtain ⟨h00, h', h14, h15⟩ := alloc_s len H h12 h11
  exact ⟨_, _, _, h', _, _, H.ls h00 _, .sl (updM_self _ _ _) (Nat.le_refl _), h15, h14, run_buildSlice (eltOf_s hE) hsz hz (by rw [← hza.length]; exact h6) h8 h13 w⟩

theorem avL_s : ∀ {l : List Nat} {f : List AV → Bool}, (∀ x ∈ l, x < 256) → avL l f = true → ∃ m, f m = true ∧ RelL s m (bytesV (l.map UInt8.ofNat)) ∧ ones m = true := by
  intro l
  induction l with
  | nil => intro f _ hk; exact ⟨[], hk, .nil, rfl⟩
  | cons a l ih =>
    intro f hl hk
    obtain ⟨m, h1, h2, h3⟩ := ih (fun x hx => hl x (by simp [hx])) (show avL l (fun l => f (.int .u8 (.ofNat a) :: l)) = true from hk)
    refine ⟨_, h1, .cons ?_ h2, h3⟩
    have := hl a (by simp)
    have e : ((UInt8.ofNat a).toNat : Int) = Int.ofNat a := by simp only [UInt8.toNat_ofNat', Int.ofNat_eq_natCast]; omega
    show Rel s _ (.int .u8 ((UInt8.ofNat a).toNat : Int))
    rw [e]; exact .int _ _
theorem bytesK_s {S T : TypeId} {x : AV} {v : Value} {c : KH} (H : SH P w0 s h n w) (hx : Rel s x v) (hk : bytesK P S T x h n c = true) :
    ∃ s' av u h' n' w', Ls n s n' s' ∧ Rel s' av u ∧ SH P w0 s' h' n' w' ∧ c av h' n' = true ∧ (convert S T v).run P w = .ok u w' := by
  unfold bytesK at hk
  split at hk
  · rename_i l
    cases hx with | str _ ht =>
    obtain ⟨E, hE, h1⟩ := orec_f hk
    obtain ⟨h2, h3⟩ := brec_f h1
    simp only [Bool.and_eq_true] at h2
    obtain ⟨h2, h2o⟩ := h2
    rw [lenL_eq] at h3
    obtain ⟨h4, h5⟩ := brec_f h3
    have h4 := Nat.le_of_ble_eq_true h4
    obtain ⟨m, h6, h7, h8⟩ := avL_s (s := s) ht h5
    obtain ⟨h00, h', t, g1, g2, g3⟩ := newK_s h6
    have hu := eltOf_s hE
    obtain ⟨E', hu', hE'⟩ := isByteSl_s h2.2
    rw [hu] at hu'; cases hu'
    obtain ⟨cap, hc1, hc2, hrun⟩ := run_bytesOf (P := P) (w := w) (isStr_s h2.1) hu hE' (l := l.map UInt8.ofNat) (by simpa using h4) 0
    rw [drewN0] at hrun
    have hlen : (l.map UInt8.ofNat).length = l.length := by simp
    rw [hlen] at hc1 hrun
    refine ⟨updM s n.1 (w.heap.size, cap), _, _, h', (n.1 + 1, n.2), _, H.ls h00 _, .os (updM_self _ _ _) hc1, ?_, g1, hrun⟩
    refine SH.drew (H.new h00 (Nat.le_refl _) ?_ g3.2 g3.1 ?_) _
    · refine ⟨rfl, rfl, rfl, by simp, fun j hj _ => ?_⟩
      show (w.heap.push _)[j]? = _
      rw [Array.getElem?_push, if_neg (by omega)]
    · have hbl : (bytesV (l.map UInt8.ofNat)).length = l.length := by simp [bytesV]
      refine ⟨bytesV (l.map UInt8.ofNat), List.replicate (cap - l.length) (Value.int .u8 0), (cap, cap + 1), ?_, hbl, fun i a ha => ?_, ?_, fun he => (by cases he), fun _ => ⟨1, ?_, ?_, hc2⟩⟩
      · show (w.heap.push _)[w.heap.size]? = _
        simp
      · rw [Blk.at_eq] at ha
        simp only [g2] at ha
        split at ha
        · rename_i hi
          have hml := h7.length
          rw [List.getElem?_eq_getElem (by omega)] at ha
          simp only [Option.some.injEq] at ha
          obtain ⟨v, hv, hr⟩ := h7.get i a (by rw [List.getElem?_eq_getElem (by omega), ha])
          exact ⟨v, hv, hr.mono (H.le h00 _)⟩
        · cases ha
      · intro j hj
        simp [hbl] at hj
        simp; omega
      · unfold isOne at h2o
        split at h2o
        · rename_i z hz; rw [hz, Nat.eq_of_beq_eq_true h2o]
        · cases h2o
      · simp [hbl]; omega
  · cases hk
end
end Go.Ev
