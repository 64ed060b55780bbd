/- The evaluator: append, copy; one operation. -/
import Derived.Test.YtklpiecolpnmlaaDoorEv5
namespace Go.Ev
open Go Go.Eng
set_option linter.unusedVariables false
set_option linter.constructorNameAsVariable false
set_option linter.unusedSimpArgs false
section
variable {P : Program} {w0 w w' : World} {s : Mp} {h h' : Hp} {n : Rg}

theorem srcK_s {T' : TypeId} {y : AV} {v : Value} {sz : Nat} {f : Nat → List AV → Bool} (H : SH P w0 s h n w) (hy : Rel s y v) (hk : srcK P T' y sz h f = true) :
    ∃ m l news, f m l = true ∧ RelL s l news ∧ Src P w v T' sz m news := by
  unfold srcK at hk
  split at hk
  · rename_i t
    cases hy with | str _ ht =>
    obtain ⟨h1, h2⟩ := brec_f hk
    simp only [Bool.and_eq_true] at h1
    rw [lenL_eq] at h2
    obtain ⟨l, h3, h4, _⟩ := avL_s (s := s) ht h2
    refine ⟨_, l, _, h3, h4, ?_⟩
    simp only [Src, strV]
    exact ⟨by simp [toL], Nat.eq_of_beq_eq_true h1.2, by simp [toL], isStr_s h1.1⟩
  · obtain ⟨h1, h2⟩ := brec_f hk
    obtain ⟨a, m, cap, l, vs, rfl, h3, h4, h5⟩ := rowK_s H hy h2
    exact ⟨m, l, vs, h3, h4, rfl, h5, isSl_s h1⟩

theorem run_append0 {T T' E ty : TypeId} {sz n cap : Nat} {a : Option Addr} {x : Value} {news : List Value} (hu : P.underlying T = some (.slice E)) (hsz : P.szo E = some sz) (hs : Src P w x T' sz 0 news) (hn : n ≤ cap) :
    (Builtin.append_ #[T, T'] ty #[.slice a n cap, x]).run P w = .ok (.slice a n cap) w := by
  obtain ⟨hnl, hlen, hfirst, dd, hdd, hni⟩ := hs.spec
  have hf := hfirst w rfl
  have hn0 : news = [] := List.eq_nil_of_length_eq_zero (by simpa using hnl)
  subst hn0
  have hso := run_szo (P := P) hsz
  have hnot := notInt hni
  cases a with
  | none => simp [Builtin.append_, run_underlying hu, run_underlying hdd, hso, hlen, hf, hn, hnot]
  | some ad => simp [Builtin.append_, run_underlying hu, run_underlying hdd, hso, hlen, hf, hn, hnot, storeCells]

theorem zOk_s {E : TypeId} {sz : Nat} (hk : zOk P E = true) (hsz : P.szo E = some sz) : ∃ zs : Array Value, ∀ b, bytesOfT P E = some b → (P.info? E).map (fun i => (i.zero.map Value.cells, i.size, i.bytes)) = some (some zs, sz, b) ∧ zs.size = sz := by
  unfold zOk at hk
  split at hk
  · rename_i i hi
    split at hk
    · rename_i z hz
      refine ⟨z.cells, fun b hb => ?_⟩
      have h1 : i.size = sz := by simpa [Program.szo, hi] using hsz
      obtain ⟨i', hi', rfl⟩ := bytesOfT_s hb
      rw [hi] at hi'; cases hi'
      exact ⟨by simp [hi, hz, h1], by rw [Nat.eq_of_beq_eq_true hk, h1]⟩
    · cases hk
  · cases hk

/-- The row that is appended to. -/
theorem baseK_s {E : TypeId} {sz : Nat} {x : AV} {v : Value} {f : Nat → Blk → Hp → Bool} (H : SH P w0 s h n w) (hx : Rel s x v) (hsz : P.szo E = some sz) (hk : baseK E sz x h f = true) :
    ∃ a l cap B h1 xs, v = .slice a l cap ∧ f l B h1 = true ∧ (Res.row E sz a l cap xs).holds w ∧ (∀ i av, i < l * sz → B.at i = some av → ∃ u, xs[i]? = some u ∧ Rel s av u) ∧ l * sz ≤ B.n ∧
      (∀ b ∈ (Res.row E sz a l cap xs).foot, w0.heap.size ≤ b ∧ b < w.heap.size) ∧ (∀ j C, h1.get j = some C → h.get j = some C ∧ ∀ b c, s j = some (b, c) → b ∉ (Res.row E sz a l cap xs).foot) ∧ h1.lp = h.lp := by
  have key : ∀ {id l cap b k : Nat} {B : Blk}, s id = some (b, k) → h.get id = some B → l ≤ cap → cap ≤ maxLen → l * sz ≤ B.n → B.T = E → (B.op = false → B.n = cap * sz) → (B.op = true → cap = k) →
      Hp.put h id none (fun h => f l B h) = true →
      ∃ h1 xs, f l B h1 = true ∧ (Res.row E sz (some ⟨b, 0, none⟩) l cap xs).holds w ∧ (∀ i av, i < l * sz → B.at i = some av → ∃ u, xs[i]? = some u ∧ Rel s av u) ∧ l * sz ≤ B.n ∧
      (∀ b' ∈ (Res.row E sz (some ⟨b, 0, none⟩) l cap xs).foot, w0.heap.size ≤ b' ∧ b' < w.heap.size) ∧ (∀ j C, h1.get j = some C → h.get j = some C ∧ ∀ b' c, s j = some (b', c) → b' ∉ (Res.row E sz (some ⟨b, 0, none⟩) l cap xs).foot) ∧ h1.lp = h.lp := by
    intro id l cap b k B hid hB hl hcm hln hT hc1 hc2 hp
    obtain ⟨h1, h2, h3, h3b⟩ := Hp.put_spec hp
    obtain ⟨b', k', hs', hb0, hBH⟩ := H.blk _ _ hB
    rw [hid] at hs'; cases hs'
    have hlt := hBH.lt
    obtain ⟨vs, rest, fz, g1, g2, g3, g4, g5, g6⟩ := hBH
    have htot : (vs ++ rest).length = cap * sz := by
      cases ho : B.op with
      | false => rw [g5 ho, List.append_nil, g2]; exact hc1 ho
      | true =>
        obtain ⟨sz', q1, q2, q3⟩ := g6 ho
        rw [hT, hsz] at q1; cases q1
        rw [q2, hc2 ho]
    refine ⟨h1, vs.take (l * sz), h2, ⟨by simp; omega, hl, hcm, .inr ⟨b, vs.drop (l * sz) ++ rest, fz, rfl, ?_, ?_, by rw [← htot]; exact g4⟩⟩, fun i av hi ha => ?_, hln, ?_, ?_, h3b⟩
    · rw [← List.append_assoc, List.take_append_drop, ← hT]; exact g1
    · rw [← List.append_assoc, List.take_append_drop]; exact htot
    · obtain ⟨u, hu, hr⟩ := g3 i av ha
      exact ⟨u, by rw [List.getElem?_take, if_pos hi]; exact hu, hr⟩
    · intro b' hb'
      simp [Res.row] at hb'; subst hb'; exact ⟨hb0, hlt⟩
    · intro j C hj
      rw [h3] at hj
      split at hj
      · cases hj
      · rename_i hne
        refine ⟨hj, fun b' c hs' hm => ?_⟩
        simp [Res.row] at hm; subst hm
        exact hne (H.inj _ _ _ _ _ _ _ hj hB hs' hid)
  unfold baseK at hk
  split at hk
  · cases hx
    refine ⟨none, 0, 0, _, h, [], rfl, hk, row_nil E sz w, fun i av hi => by simp at hi, by simp, by simp [Res.row], fun j C hj => ⟨hj, by simp [Res.row]⟩, rfl⟩
  · rename_i id l
    cases hx with | os hid hn =>
    rename_i b k
    obtain ⟨B, hB, h2⟩ := orec_f hk
    obtain ⟨h3, h4⟩ := brec_f h2
    simp only [Bool.and_eq_true] at h3
    obtain ⟨b', k', hs', hb0, hBH⟩ := H.blk _ _ hB
    rw [hid] at hs'; cases hs'
    have hkm : k ≤ maxLen := by
      obtain ⟨vs, rest, fz, g1, g2, g3, g4, g5, g6⟩ := hBH
      obtain ⟨sz', q1, q2, q3⟩ := g6 h3.1.1
      exact q3
    obtain ⟨h1, xs, g⟩ := key hid hB hn hkm (Nat.le_of_ble_eq_true h3.2) (Nat.eq_of_beq_eq_true h3.1.2) (fun he => by rw [h3.1.1] at he; cases he) (fun _ => rfl) h4
    exact ⟨_, _, _, B, h1, xs, rfl, g⟩
  · rename_i id l cap
    cases hx with | sl hid hn =>
    rename_i b k
    obtain ⟨B, hB, h2⟩ := orec_f hk
    obtain ⟨h3, h4⟩ := brec_f h2
    simp only [Bool.and_eq_true, Bool.not_eq_true'] at h3
    have hc := Nat.eq_of_beq_eq_true h3.1.2
    have hc : cap * sz = B.n := hc
    obtain ⟨h1, xs, g⟩ := key hid hB hn (by have := Nat.le_of_ble_eq_true h3.2; simp only [maxLen]; omega) (by rw [← hc]; exact Nat.mul_le_mul_right _ hn) (Nat.eq_of_beq_eq_true h3.1.1.2) (fun _ => hc.symm) (fun he => by rw [h3.1.1.1] at he; cases he) h4
    exact ⟨_, _, _, B, h1, xs, rfl, g⟩
  · cases hk

theorem isSV_s {x : AV} {v : Value} (hx : Rel s x v) (h1 : isSV x = true) : ∃ a l cap, v = .slice a l cap ∧ l ≤ cap := by
  cases hx <;> simp [isSV] at h1 <;> exact ⟨_, _, _, rfl, by omega⟩

theorem run_append0z {T T' E ty : TypeId} {n cap bs : Nat} {a : Option Addr} (hu : P.underlying T = some (.slice E)) (hsz : P.szo E = some 1) (hbs : bytesOfT P E = some bs) (hT' : P.underlying T' = some (.int .i64)) (hn : n ≤ cap) :
    (Builtin.append_ #[T, T'] ty #[.slice a n cap, .int .i64 (0 : Nat)]).run P w = .ok (.slice a n cap) w := by
  obtain ⟨ti, hi, rfl⟩ := bytesOfT_s hbs
  have hso := run_szo (P := P) hsz
  have hti : ∀ w, (typeInfo E).run P w = .ok ti w := fun w => by simp [typeInfo, hi]
  have hund : ∀ w, (underlying T').run P w = .ok (.int .i64) w := fun w => run_underlying hT' w
  have hw0 : IntKind.i64.wrap 0 = 0 := by decide
  cases a with
  | none => simp [Builtin.append_, run_underlying hu, hso, hund, asInt, asIntOf, hw0, hti, hn]
  | some ad => simp [Builtin.append_, run_underlying hu, hso, hund, asInt, asIntOf, hw0, hti, hn, storeCells]
def SrcA (P : Program) (w : World) (E T' : TypeId) (x : Value) (sz bs m : Nat) (news : List Value) : Prop :=
  Src P w x T' sz m news ∨ (x = .int .i64 m ∧ P.underlying T' = some (.int .i64) ∧ sz = 1 ∧ m * bs ≤ 281474976710656 ∧ m ≤ 9223372036854775807 ∧ ∃ z zv, P.zeroOf E = some z ∧ z.cells = #[zv] ∧ news = List.replicate m zv)
theorem SrcA.len {E T' : TypeId} {x : Value} {sz bs m : Nat} {news : List Value} (h : SrcA P w E T' x sz bs m news) : news.length = m * sz := by
  rcases h with h | ⟨_, _, rfl, _, _, _, _, _, _, rfl⟩
  · exact h.spec.1
  · simp
theorem flat1 {α : Type} (z : α) (m : Nat) : (List.replicate m [z]).flatten = List.replicate m z := by
  induction m with
  | zero => rfl
  | succ m ih => rw [List.replicate_succ, List.flatten_cons, ih, List.replicate_succ]; rfl
theorem srcA_s {E T' : TypeId} {y : AV} {v : Value} {sz bs : Nat} {f : Nat → List AV → Bool} (H : SH P w0 s h n w) (hy : Rel s y v) (hk : srcA P E T' y sz bs h f = true) :
    ∃ m l news, f m l = true ∧ RelL s l news ∧ SrcA P w E T' v sz bs m news := by
  unfold srcA at hk
  split at hk
  · rename_i m
    obtain rfl := hy.int_inv
    obtain ⟨h1, h2⟩ := brec_f hk
    simp only [Bool.and_eq_true] at h1
    obtain ⟨b1, b2, b4, b5⟩ := h1
    obtain ⟨z, l, hz, h3, h4⟩ := zeroCs_s (s := s) h2
    rw [lenL_eq] at h3
    obtain ⟨h5, h6⟩ := brec_f h3
    have h5 := Nat.eq_of_beq_eq_true h5
    obtain ⟨l2, h7, h8⟩ := repK_s h4 h6
    have hlen : z.cells.toList.length = 1 := by rw [← h4.length, h5]
    obtain ⟨zv, hzv⟩ := List.length_eq_one_iff.1 hlen
    have hu : P.underlying T' = some (.int .i64) := by
      unfold isI64 at b1
      split at b1
      · assumption
      · cases b1
    refine ⟨m, l2, _, h7, h8, .inr ⟨rfl, hu, Nat.eq_of_beq_eq_true b2, Nat.le_of_ble_eq_true b4, Nat.le_of_ble_eq_true b5, z, zv, hz, by apply Array.ext'; simpa using hzv, ?_⟩⟩
    rw [hzv, flat1]
  · obtain ⟨m, l, news, h1, h2, h3⟩ := srcK_s H hy hk
    exact ⟨m, l, news, h1, h2, .inl h3⟩

theorem appendK_s {T T' ty : TypeId} {x y : AV} {vx vy : Value} {c : KH} (H : SH P w0 s h n w) (hx : Rel s x vx) (hy : Rel s y vy) (hk : appendK P T T' x y h n c = true) :
    ∃ s' av v h' n' w', Ls n s n' s' ∧ Rel s' av v ∧ SH P w0 s' h' n' w' ∧ c av h' n' = true ∧ (Builtin.append_ #[T, T'] ty #[vx, vy]).run P w = .ok v w' := by
  obtain ⟨E, hE, h1⟩ := orec_f hk
  obtain ⟨bs, hbs, h2⟩ := orec_f h1
  obtain ⟨sz, hsz, h3⟩ := orec_f h2
  obtain ⟨m, l0, news, h4, h5, h6a⟩ := srcA_s H hy h3
  have hu := eltOf_s hE
  cases m with
  | zero =>
    obtain ⟨h7, h8⟩ := brec_f h4
    obtain ⟨a, l, cap, rfl, hle⟩ := isSV_s hx h7
    refine ⟨s, x, _, h, n, w, Ls.refl n s, hx, H, h8, ?_⟩
    rcases h6a with h6 | ⟨rfl, q1, rfl, _⟩
    · exact run_append0 hu hsz h6 hle
    · exact run_append0z hu hsz hbs q1 hle
  | succ m =>
    obtain ⟨h7, h8⟩ := brec_f h4
    simp only [Bool.and_eq_true] at h7
    obtain ⟨a, l, cap, B, hp1, xs, rfl, h9, h10, h11, h12, h13, h14, h14b⟩ := baseK_s H hx hsz h8
    rw [forceN_eq] at h9
    obtain ⟨t, h15, h16⟩ := writeK_s h9
    have h16 : ∀ j, t.get j = if l * sz ≤ j ∧ j < l * sz + l0.length then l0[j - l * sz]? else B.t.get j := h16
    rw [forceN_eq] at h15
    obtain ⟨h17, h18⟩ := brec_f h15
    simp only [Bool.and_eq_true] at h17
    have hb1 := Nat.le_of_ble_eq_true h17.1
    have hb2 := Nat.le_of_ble_eq_true h17.2
    have hb1 : (l + (m + 1)) * bs ≤ 140737488355328 := hb1
    have hb2 : l + (m + 1) ≤ 9223372036854775807 := hb2
    rw [forceN_eq] at h18
    obtain ⟨h00, h18⟩ := nx_s h18
    obtain ⟨h', h19, h20, h20b⟩ := Hp.put_spec h18
    obtain ⟨zs, hz⟩ := zOk_s h7.2 hsz
    obtain ⟨hz1, hz2⟩ := hz bs hbs
    have hone : Heap w (Res.row E sz a l cap xs).foot w [Res.row E sz a l cap xs] := Heap.one h10 fun b hb => (h13 b hb).2
    obtain ⟨a', cap', w', k', hrun, hH, _⟩ : ∃ a' cap' w' k', (Builtin.append_ #[T, T'] ty #[.slice a l cap, vy]).run P (w.drewN 0) = .ok (.slice a' (l + (m + 1)) cap') (w'.drewN k') ∧ Heap w (Res.row E sz a l cap xs).foot w' [Res.row E sz a' (l + (m + 1)) cap' (xs ++ news)] ∧ True := by
      rcases h6a with h6 | ⟨rfl, q1, rfl, q3, q4, z, zv, q5, q6, rfl⟩
      · obtain ⟨a', cap', w', k', g1, g2, _⟩ := run_append_row (P := P) (ty := ty) hone 0 rfl hu hz1 hz2 h6 (ones_s h5 h7.1) (fun _ => ⟨hb1, hb2⟩) 0
        exact ⟨a', cap', w', k', g1, g2, trivial⟩
      · have hzz : zs = #[zv] := by
          unfold Program.zeroOf at q5
          cases hi : P.info? E with
          | none => rw [hi] at hz1; simp at hz1
          | some ti =>
            rw [hi] at hz1 q5
            simp only [Option.map_some, Option.some.injEq, Prod.mk.injEq] at hz1
            simp only [Option.bind_some] at q5
            rw [q5] at hz1
            simp only [Option.map_some, Option.some.injEq] at hz1
            rw [← hz1.1, q6]
        rw [hzz] at hz1
        obtain ⟨a', cap', w', k', g1, g2, _⟩ := run_append_zeros1 (P := P) (ty := ty) hone 0 rfl hu hz1 q1 (ones_s h5 h7.1 zv (List.mem_replicate.2 ⟨by omega, rfl⟩)) (by omega) q3 q4 (fun _ => ⟨hb1, hb2⟩) 0
        exact ⟨a', cap', w', k', g1, g2, trivial⟩
    rw [drewN0] at hrun
    have hrow := hH.at 0 rfl
    have hfoot := hH.foot (Res.row E sz a' (l + (m + 1)) cap' (xs ++ news)) (by simp)
    obtain ⟨r1, r2, r3, r4⟩ := hrow
    rcases r4 with ⟨_, r4, _⟩ | ⟨g, rest, fz, rfl, r5, r6, r7⟩
    · omega
    have hxl : xs.length = l * sz := h10.1
    have hnl : news.length = (m + 1) * sz := h6a.len
    have hl0 : l0.length = (m + 1) * sz := by rw [h5.length, hnl]
    have hmul : (l + (m + 1)) * sz = l * sz + (m + 1) * sz := Nat.add_mul _ _ _
    refine ⟨updM s n.1 (g, cap'), _, _, h', (n.1 + 1, n.2), _, H.ls h00 _, .os (updM_self _ _ _) r2, SH.drew (SH.gen (S := (Res.row E sz a l cap xs).foot) H h00 hH.upd ?_ ?_ (fun x hx => ?_) (h20b.trans h14b) ?_ (by rw [h20, if_pos rfl]) ?_) k', h19, hrun⟩
    · intro b hb
      refine ⟨(h13 b hb).1, fun j C b2 c2 hj hjn hs2 he => ?_⟩
      rw [h20, if_neg hjn] at hj
      subst he
      exact (h14 j C hj).2 _ _ hs2 hb
    · have hg := hfoot g (by simp [Res.row])
      refine ⟨?_, fun j C b2 c2 hj hjn hs2 he => ?_⟩
      · rcases hg.1 with hg1 | hg1
        · exact (h13 g hg1).1
        · exact Nat.le_trans H.upd.size hg1
      · rw [h20, if_neg hjn] at hj
        subst he
        rcases hg.1 with hg1 | hg1
        · exact (h14 j C hj).2 _ _ hs2 hg1
        · obtain ⟨b3, c3, hs3, _, hBH3⟩ := H.blk j C (h14 j C hj).1
          rw [hs2] at hs3; cases hs3
          have := hBH3.lt
          omega
    · obtain ⟨_, _, _, q4⟩ := h10
      rcases q4 with ⟨q4, _⟩ | ⟨g, rest, fz, q4, q5, _⟩
      · subst q4; simp [Res.row] at hx
      · subst q4; simp [Res.row] at hx; subst hx
        exact fun hn => hn _ _ _ q5
    · intro j hjn C hj
      rw [h20, if_neg hjn] at hj
      exact (h14 j C hj).1
    · refine ⟨xs ++ news, rest, fz, r5, by simp only [List.length_append, hxl, hnl]; exact hmul.symm, fun i av ha => ?_, by rw [r6]; exact r7, fun he => (by cases he), fun _ => ⟨sz, hsz, r6, r3⟩⟩
      rw [Blk.at_eq] at ha
      simp only [h16] at ha
      split at ha
      · rename_i hi
        have hi : i < (l + (m + 1)) * sz := hi
        by_cases hin : l * sz ≤ i ∧ i < l * sz + l0.length
        · rw [if_pos hin, List.getElem?_eq_getElem (by omega)] at ha
          simp only [Option.some.injEq] at ha
          obtain ⟨v, hv1, hv2⟩ := h5.get (i - l * sz) av (by rw [List.getElem?_eq_getElem (by omega), ha])
          refine ⟨v, ?_, hv2.mono (H.le h00 _)⟩
          rw [List.getElem?_append_right (by omega), hxl]; exact hv1
        · rw [if_neg hin] at ha
          have hlo : i < l * sz := by omega
          obtain ⟨v, hv1, hv2⟩ := h11 i av hlo (by rw [Blk.at_eq, if_pos (by omega)]; exact ha)
          refine ⟨v, ?_, hv2.mono (H.le h00 _)⟩
          rw [List.getElem?_append_left (by omega)]; exact hv1
      · cases ha

theorem src0 {T' : TypeId} {x : Value} {sz m : Nat} {news : List Value} (h : Src P w x T' sz m news) : True ∧ (∀ w, (Builtin.lenOf x).run P w = .ok m w) ∧ ∀ w, (Builtin.firstCells sz 0 x).run P w = .ok #[] w := by
  refine ⟨trivial, h.spec.2.1, fun w => ?_⟩
  unfold Src at h
  split at h
  · rename_i a k c
    cases a with
    | none => simp [Builtin.firstCells]
    | some ad => simp [Builtin.firstCells]; rfl
  · rename_i t
    simp only [Builtin.firstCells, Sem.run_pure, str_extract]
    simp
  · exact h.elim
theorem copyK_s {T T' ty : TypeId} {x y : AV} {vx vy : Value} {c : KH} (H : SH P w0 s h n w) (hx : Rel s x vx) (hy : Rel s y vy) (hk : copyK P T T' x y h n c = true) :
    ∃ s' av v h' n' w', Ls n s n' s' ∧ Rel s' av v ∧ SH P w0 s' h' n' w' ∧ c av h' n' = true ∧ (Builtin.copy_ #[T, T'] ty #[vx, vy]).run P w = .ok v w' := by
  obtain ⟨E, hE, h1⟩ := orec_f hk
  obtain ⟨sz, hsz, h2⟩ := orec_f h1
  obtain ⟨m, l0, news, h4, h5, h6⟩ := srcK_s H hy h2
  have hu := eltOf_s hE
  have hso := run_szo (P := P) hsz
  have key : ∀ {id o dl b k : Nat} (cap : Nat), s id = some (b, k) →
      (forceN (Bool.rec dl m (Nat.ble m dl)) fun r => forceN (Nat.mul r sz) fun k => Option.rec false (fun b => forceA (l0.take k) fun news => Bool.rec false (Bool.rec false (writeK news b.t o fun t => Hp.put h id (some { b with t := t }) fun h => c (.int .i64 (.ofNat r)) h n) (Nat.ble (Nat.add o k) b.n)) (ones news)) (h.get id)) = true →
      ∃ s' av v h' n' w', Ls n s n' s' ∧ Rel s' av v ∧ SH P w0 s' h' n' w' ∧ c av h' n' = true ∧ (Builtin.copy_ #[T, T'] ty #[.slice (some ⟨b, o, none⟩) dl cap, vy]).run P w = .ok v w' := by
    intro id o dl b k cap hid hk
    rw [forceN_eq, forceN_eq] at hk
    have hr : (Bool.rec dl m (Nat.ble m dl) : Nat) = min m dl := by
      cases h : Nat.ble m dl with
      | true => have := Nat.le_of_ble_eq_true h; simp; omega
      | false => have : ¬ m ≤ dl := fun h2 => by rw [Nat.ble_eq_true_of_le h2] at h; cases h
                 simp; omega
    rw [hr] at hk
    obtain ⟨B, hB, h7⟩ := orec_f hk
    rw [forceA_eq] at h7
    obtain ⟨h8, h9⟩ := brec_f h7
    obtain ⟨h10, h11⟩ := brec_f h9
    have h10 := Nat.le_of_ble_eq_true h10
    have h10 : o + min m dl * sz ≤ B.n := h10
    obtain ⟨t, h12, h13⟩ := writeK_s h11
    have h13 : ∀ j, t.get j = if o ≤ j ∧ j < o + (l0.take (min m dl * sz)).length then (l0.take (min m dl * sz))[j - o]? else B.t.get j := h13
    obtain ⟨h', h14, h15, h15b⟩ := Hp.put_spec h12
    obtain ⟨b', k', hs', hb0, hBH⟩ := H.blk _ _ hB
    rw [hid] at hs'; cases hs'
    have hlt := hBH.lt
    obtain ⟨vs, rest, fz, g1, g2, g3, g4, g5, g6⟩ := hBH
    obtain ⟨hnl, hlen, hfirst0, _⟩ := h6.spec
    have hfirst : (Builtin.firstCells sz (min m dl) vy).run P w = .ok (news.take (min m dl * sz)).toArray w := by
      cases vy with
      | slice a k' c' =>
        obtain ⟨rfl, ⟨hr1, hr2, hr3⟩, _⟩ := h6
        cases a with
        | none =>
          have hk0 := hr2 rfl
          subst hk0
          simp [Builtin.firstCells]
        | some ad' =>
          refine run_firstCells_some (P := P) _ sz (min k' dl) ad' k' c' _ ?_ fun j v hv => ?_
          · rw [List.length_take, hr1]
            exact Nat.min_eq_left (Nat.mul_le_mul_right _ (Nat.min_le_left _ _))
          · rw [List.getElem?_take] at hv
            split at hv
            · exact hr3 ad' rfl j v hv
            · cases hv
      | string t =>
        obtain ⟨rfl, rfl, rfl, _⟩ := h6
        simp only [Builtin.firstCells, Sem.run_pure, str_extract, Nat.mul_one, bytesV, toL]
        congr 1
        apply Array.ext'
        simp [List.map_take]
      | _ => exact h6.elim
    have hnt : (news.take (min m dl * sz)).length = min m dl * sz := by
      rw [List.length_take, hnl]
      exact Nat.min_eq_left (Nat.mul_le_mul_right _ (Nat.min_le_left _ _))
    have hl5 := h5.take (min m dl * sz)
    have hst := run_storeCells_blk (P := P) b o B.T fz (news.take (min m dl * sz)) 0 (vs ++ rest) w g1 g4 (by rw [hnt]; simp; omega) (ones_s hl5 h8)
    have hcells : (vs ++ rest).take (o + 0) ++ news.take (min m dl * sz) ++ (vs ++ rest).drop (o + 0 + (news.take (min m dl * sz)).length) = (vs.take o ++ news.take (min m dl * sz) ++ vs.drop (o + min m dl * sz)) ++ rest := by
      rw [hnt, Nat.add_zero, List.take_append_of_le_length (by omega), List.drop_append_of_le_length (by omega)]
      simp
    rw [hcells] at hst
    have hlen2 : ((vs.take o ++ news.take (min m dl * sz) ++ vs.drop (o + min m dl * sz)) ++ rest).length = (vs ++ rest).length := by simp only [List.length_append, List.length_take, List.length_drop, hnl]; have := hnt; rw [List.length_take, hnl] at this; omega
    have hll : (l0.take (min m dl * sz)).length = min m dl * sz := by rw [hl5.length, hnt]
    refine ⟨s, _, .int .i64 (min m dl : Nat), h', n, putBlk w b ((vs.take o ++ news.take (min m dl * sz) ++ vs.drop (o + min m dl * sz)) ++ rest) B.T fz, Ls.refl n s, .int _ _, H.put hB hid h15 h15b (putBlk_upd _ _ _ _ _) ⟨vs.take o ++ news.take (min m dl * sz) ++ vs.drop (o + min m dl * sz), rest, fz, putBlk_at hlt, by simp only [List.length_append, List.length_take, List.length_drop, hnl]; have := hnt; rw [List.length_take, hnl] at this; omega, fun i a ha => ?_, by rw [hlen2]; exact g4, g5, by rw [hlen2]; exact g6⟩, h14, ?_⟩
    · rw [Blk.at_eq] at ha
      simp only [h13] at ha
      split at ha
      · rename_i hi
        rw [hll] at ha
        by_cases hin : o ≤ i ∧ i < o + min m dl * sz
        · rw [if_pos hin, List.getElem?_eq_getElem (by rw [hll]; omega)] at ha
          simp only [Option.some.injEq] at ha
          obtain ⟨v, hv1, hv2⟩ := hl5.get (i - o) a (by rw [List.getElem?_eq_getElem (by rw [hll]; omega), ha])
          refine ⟨v, ?_, hv2⟩
          rw [List.getElem?_append_left (by rw [List.length_append, hnt]; simp; omega), List.getElem?_append_right (by simp; omega)]
          simp only [List.length_take]
          rw [show min o vs.length = o by omega]; exact hv1
        · rw [if_neg hin] at ha
          obtain ⟨v, hv1, hv2⟩ := g3 i a (by rw [Blk.at_eq, if_pos hi]; exact ha)
          refine ⟨v, ?_, hv2⟩
          by_cases hlo : i < o
          · rw [List.getElem?_append_left (by rw [List.length_append, hnt]; simp; omega), List.getElem?_append_left (by simp; omega), List.getElem?_take, if_pos hlo]; exact hv1
          · rw [List.getElem?_append_right (by rw [List.length_append, hnt]; simp; omega), List.getElem?_drop]
            rw [← hv1]; congr 1; rw [List.length_append, hnt]; simp; omega
      · cases ha
    · have hmin : Nat.min m dl = min m dl := rfl
      simp [Builtin.copy_, run_underlying hu, hlen, hso, hmin, hfirst, hst, goInt]
  clear hk h1 h2
  split at h4
  · cases hx with | sl hid hn => exact key _ hid h4
  · cases hx with | os hid hn => exact key _ hid h4
  · cases hx with | su hid hn => exact key _ hid h4
  · cases hx with | em ad cc =>
    obtain ⟨_, hlen, hf⟩ := src0 h6
    refine ⟨s, _, .int .i64 (0 : Nat), h, n, w, Ls.refl n s, .int _ _, H, h4, ?_⟩
    have hmin : Nat.min m 0 = 0 := Nat.min_zero m
    simp [Builtin.copy_, run_underlying hu, hlen, hso, hmin, hf, storeCells, goInt]
  · cases hx
    obtain ⟨_, hlen, hf⟩ := src0 h6
    refine ⟨s, _, .int .i64 (0 : Nat), h, n, w, Ls.refl n s, .int _ _, H, h4, ?_⟩
    have hmin : Nat.min m 0 = 0 := Nat.min_zero m
    simp [Builtin.copy_, run_underlying hu, hlen, hso, hmin, hf, goInt]
  · cases h4

variable {N : Nat} {e : Env'} {a : Act}
theorem vcOp_run {o : Oper} {c : KV} (H : SH P w0 s h n w) (F : FE N s e a) (hk : pureK P o.op e h c = true) : ∃ v, KR s c v ∧ (execOp a.eval o).run P w = .ok (.value v) w := by
  have h1 := pureK_s (fun _ => H) F hk
  obtain ⟨v, h2, h3⟩ := vcOp_sound (envOf_fits F.size) h1
  have ev : ({ a with defers := [] } : Act).eval = a.eval := by funext x; cases x <;> rfl
  rw [ev] at h3
  exact ⟨v, h2, h3 w (Ext.refl w)⟩

/-- Arguments, as the frame has them. -/
theorem argK_v {x : Operand} {c : KV} (F : FE N s e a) (hk : argK e x c = true) : ∃ av, c av = true ∧ Rel s av (a.eval x) := by
  have h1 := argK_s (K := fun v => ∃ av, c av = true ∧ Rel s av v) F hk fun av v h1 h2 => ⟨av, h1, h2⟩
  have ev : ({ a with defers := [] } : Act).eval = a.eval := by funext x; cases x <;> rfl
  have := arg_sound (envOf_fits F.size) h1
  rw [ev] at this; exact this
theorem argsK_v {l : List Operand} {f : List AV → Bool} (F : FE N s e a) (hk : argsK e l f = true) : ∃ m, f m = true ∧ RelL s m (l.map a.eval) := by
  have h1 := argsK_s (K := fun vs => ∃ m, f m = true ∧ RelL s m vs) F hk fun m vs h1 h2 => ⟨m, h1, h2⟩
  have ev : ({ a with defers := [] } : Act).eval = a.eval := by funext x; cases x <;> rfl
  have := argL_sound (envOf_fits F.size) h1
  rw [ev] at this; exact this
theorem argsP_v {l : List (Nat × Operand)} {f : List (Nat × AV) → Bool} (F : FE N s e a) (hk : argsP e l f = true) : ∃ m, f m = true ∧ m.map (·.1) = (l.map fun p => (p.1, a.eval p.2)).map (·.1) ∧ RelL s (m.map (·.2)) ((l.map fun p => (p.1, a.eval p.2)).map (·.2)) := by
  have h1 := argsP_s (K := fun vs => ∃ m, f m = true ∧ m.map (·.1) = vs.map (·.1) ∧ RelL s (m.map (·.2)) (vs.map (·.2))) F hk fun m vs h1 h2 h3 => ⟨m, h1, h2, h3⟩
  have ev : ({ a with defers := [] } : Act).eval = a.eval := by funext x; cases x <;> rfl
  have := vParts_sound (envOf_fits F.size) h1
  rw [ev] at this; exact this

/-- What an operation comes to: a value, nothing, or a call. -/
def Comes1 (P : Program) (R : Value → World → Prop) (r : Result Next) : Prop :=
  (∃ v w', r = .ok (.value v) w' ∧ R v w') ∨ (∃ w', r = .ok .skip w' ∧ R undef w') ∨
  (∃ f args w1, r = .ok (.enter f args) w1 ∧ Calls P f args w1 fun e w' => ∃ v, e = .returned v ∧ R v w') ∨
  (∃ l fn tmps asg bd w1, r = .ok (.round l fn tmps asg bd) w1 ∧ RoundIn Fence.wide 0 P l fn tmps asg bd w1 fun e w' => ∃ v, e = .returned v ∧ R v w')

/-- What the evaluator's word on a call means. -/
def CallOk (P : Program) (w0 : World) (rec : FuncId → List AV → Hp → Rg → KH → Bool) : Prop :=
  ∀ (f : FuncId) (args : List AV) (h : Hp) (n : Rg) (c : KH), rec f args h n c = true → ∀ (s : Mp) (w : World) (vs : List Value), SH P w0 s h n w → RelL s args vs →
    (∀ (w : World) (vs : Array Value), (callFunc f vs).run P w = .ok (.enter f vs) w) ∧
    Calls P f vs.toArray w fun e w' => ∃ v s' av h' n', e = .returned v ∧ Ls n s n' s' ∧ Rel s' av v ∧ SH P w0 s' h' n' w' ∧ c av h' n' = true
/-- What is known otherwise is so. -/
structure KnOk (C : Cfg) : Prop where
  kn : ∀ (f : FuncId) (args : List AV) (av : AV), C.kn f args = some av → ∀ (s : Mp) (w : World) (vs : List Value), RelL s args vs →
    (∀ (w : World) (vs : Array Value), (callFunc f vs).run C.P w = .ok (.enter f vs) w) ∧ Calls C.P f vs.toArray w fun e w' => ∃ v, e = .returned v ∧ Rel s av v ∧ Upd [] w w'
  kr : ∀ (f : FuncId) (q : Nat × (Nat → List AV → KV → Bool)), C.kr f = some q → ∀ (m : Nat) (l : List AV) (c : KV), q.2 m l c = true → ∀ (s : Mp) (w : World) (vs : List Value) (a : Option Addr) (cap : Nat), RelL s l vs → RS w a m q.1 vs → (m = 0 ∨ ∀ p, a = some p → p.spot = none) →
    (∀ (w : World) (vs : Array Value), (callFunc f vs).run C.P w = .ok (.enter f vs) w) ∧ Calls C.P f #[.slice a m cap] w fun e w' => ∃ v av, e = .returned v ∧ Rel s av v ∧ c av = true ∧ Upd [] w w'

theorem row_spot {x : AV} {v : Value} (hx : Rel s x v) {a : Option Addr} {m cap : Nat} (hv : v = .slice a m cap) : m = 0 ∨ ∀ p, a = some p → p.spot = none := by
  cases hx <;> cases hv <;> first | exact .inl rfl | (right; intro p hp; cases hp; rfl)
theorem SH.upd0 (H : SH P w0 s h n w) (hu : Upd [] w w') : SH P w0 s h n w' :=
  ⟨H.upd.trans hu (by simp), fun i B hi => let ⟨b, c, h1, h2, h3⟩ := H.blk i B hi; ⟨b, c, h1, h2, h3.mono (Le.refl s) (hu.block _ h3.lt (by simp))⟩, H.inj, H.fresh, fun i p hp => (H.lps i p hp).keep (Le.refl s) fun k hk _ => hu.block k hk (by simp), H.lin⟩
end
end Go.Ev
