/- What the proof leans on, part 14: no conditions. -/
import Derived.Test.YtoioaddfachjhaaGreatDoorL13
import Derived.ChangeSame
import Derived.SizedLaws
namespace Go.Proofs.YtoioaddfachjhaaGreatDoor
open Go Go.Eng Go.Ev
set_option maxRecDepth 100000
set_option linter.unusedSimpArgs false
set_option linter.unusedVariables false
theorem foldl_ge : ∀ (l : List Ex) (m : Int), m ≤ l.foldl (fun m x => max m (x.1 + x.2)) m ∧ (∀ x ∈ l, x.1 + x.2 ≤ l.foldl (fun m x => max m (x.1 + x.2)) m) ∧ (l.foldl (fun m x => max m (x.1 + x.2)) m = m ∨ ∃ x ∈ l, x.1 + x.2 = l.foldl (fun m x => max m (x.1 + x.2)) m) := by
  intro l
  induction l with
  | nil => intro m; exact ⟨Int.le_refl _, by simp, .inl rfl⟩
  | cons x l ih =>
    intro m
    obtain ⟨h1, h2, h3⟩ := ih (max m (x.1 + x.2))
    simp only [List.foldl_cons, List.mem_cons]
    generalize l.foldl (fun m x => max m (x.1 + x.2)) (max m (x.1 + x.2)) = r at *
    refine ⟨by omega, fun y hy => ?_, ?_⟩
    · rcases hy with rfl | hy
      · omega
      · exact h2 y hy
    · rcases h3 with h3 | ⟨y, hy, h3⟩
      · by_cases hm : m ≤ x.1 + x.2
        · exact .inr ⟨x, .inl rfl, by omega⟩
        · exact .inl (by omega)
      · exact .inr ⟨y, .inr hy, h3⟩
theorem spaceEnds_law (l : List Ex) (a : Option Addr) (c : Nat) (cap : Int) (w : World) (hl : RS w a l.length 2 (extsV l)) (hlen : l.length ≤ 8796093022208) (hok : ∀ x ∈ l, XOk x) (hcap : I64 cap) :
    Does Tryz.prog 4 #[.slice a l.length c, .int .i64 cap] w fun v w' => Heap w [] w' [] ∧ v = .bool true := by
  refine En [.slice a l.length c, .int .i64 cap] 66 Tryz.func4 ?_
  refine VQi [0, 1] fun K hK => ?_
  (repeat refine Qo ?_); apply hK; clear hK
  refine VQi [0, 11] fun K hK => ?_
  refine MemK_call Tryz.call12 ?_; refine Qi ?_; refine CallK.mk (check_does l a c cap w hl hlen hok hcap) ?_
  rintro v w2 ⟨hH, n, rfl, hck⟩
  (try refine Qi ?_)
  apply hK; clear hK
  refine VC_cond rfl rfl (fun h => ?_) (fun h => VC_skip ?_)
  · refine VQi [4] fun K hK => ?_
    refine MemK_call Tryz.call8 ?_; refine Qi ?_; refine CallK.mk (awake22_does w2) ?_
    rintro v w3 ⟨hH2, rfl⟩
    (try refine Qi ?_)
    apply hK; clear hK
    exact VC_ret (VX_ret1 rfl rfl ⟨hH.call0 hH2, rfl⟩)
  simp only [decide_eq_false_iff_not, Decidable.not_not] at h
  obtain ⟨hc1, hc2, hm⟩ : 1 ≤ cap ∧ cap ≤ 4096 ∧ May cap l := by
    rcases hck with ⟨h2, _⟩ | ⟨_, h2⟩
    · exact h2
    · omega
  clear hck h
  have hm4 : May 4096 l := hm.mono hc2
  refine VQi [0, 5, 6] fun K hK => ?_
  refine MemK_call Tryz.call14 ?_; refine Qi ?_; refine CallK.mk (end_does l a c w2 (hH.rs' hl) hlen hok) ?_
  rintro v w3 ⟨hH2, n, rfl, hn⟩
  have hH3 := hH.call0 hH2
  clear hH hH2
  have hn : n = endS l := by
    rcases hn with ⟨_, h⟩ | ⟨h, _⟩
    · exact h
    · exact absurd hm4 h
  subst hn
  (try refine Qi ?_)
  apply hK; clear hK
  obtain ⟨e1, e2, e3⟩ := foldl_ge l 30
  obtain ⟨b1, b2⟩ := endS_le fun x hx => (hm4.1 x hx).2.2
  have e2 : ∀ x ∈ l, x.1 + x.2 ≤ endS l := e2
  have e3 : endS l = 30 ∨ ∃ x ∈ l, x.1 + x.2 = endS l := e3
  have e4 : l = [] ∨ ∃ x ∈ l, x.1 + x.2 = endS l := by
    rcases e3 with h | h
    · left
      cases l with
      | nil => rfl
      | cons x l =>
        have h1 := e2 x List.mem_cons_self
        obtain ⟨h2, h3, _⟩ := hm.1 x List.mem_cons_self
        omega
    · exact .inr h
  have e5 : l = [] → endS l = 30 := fun h => by rw [h]; rfl
  generalize endS l = en at *
  refine VQi [0, 5, 6, 7] fun K hK => ?_
  (repeat refine Qo ?_); apply hK; clear hK
  ((repeat refine VC_seq ?_); refine VC_block ?_)
  refine VC_loopS [0, 5, 6, 7] (fun m e w' => ∃ (i : Nat) (b : Bool), Is e [(0, .slice a l.length c), (5, .int .i64 en), (6, .bool b), (7, .int .i64 i)] ∧ Heap w [] w' [] ∧ (b = true ↔ l = [] ∨ ∃ x ∈ l.take i, x.1 + x.2 = en) ∧ i ≤ l.length ∧ m = l.length - i) l.length ?_ ?_
  · refine Qi ?_
    refine ⟨0, _, rfl, hH3, ?_, by omega, rfl⟩
    simp
  clear hH3
  rintro m e w4 ⟨i, b, rfl, hH, hb, hi, rfl⟩
  refine VQi [0, 5, 6, 7, 21] fun K hK => ?_
  (repeat refine Qo ?_); apply hK; clear hK
  refine VD (fun h => ?_) (fun h => ?_)
  ·
    refine VC_skip ?_
    ((repeat refine VC_seq ?_); refine VC_block ?_)
    have hi' : i < l.length := by omega
    obtain ⟨x, hx⟩ : ∃ x, l[i]? = some x := ⟨_, List.getElem?_eq_getElem hi'⟩
    obtain ⟨p, rfl⟩ := rs_pos hl (by omega)
    have hrd := rs_ext (hH.rs' hl) hx
    have htk : l.take (i + 1) = l.take i ++ [x] := by rw [List.take_add_one, hx, Option.toList_some]
    have hxm := List.mem_of_getElem? hx
    obtain ⟨m1, m2, m3⟩ := hm.1 x hxm
    have hxe := e2 x hxm
    have c1 : w4.cell? (p.add (i * 2)) = some (.int .i64 x.1) := hrd 0 _ rfl
    have c2 : w4.cell? ((p.add (i * 2)).add 1) = some (.int .i64 x.2) := hrd 1 _ rfl
    (repeat refine VC_seq ?_); refine VC_regionQ [0, 5, 6, 7, 36] (by kernel_rfl) (by kernel_rfl) rfl fun K hK => ?_; refine Qi ?_
    refine ⟨⟨by omega, by omega⟩, _, c1, ⟨by omega, by omega⟩, _, c2, ?_⟩
    (try refine Qi ?_)
    refine ⟨I64.mk (by omega) (by omega), ?_⟩
    apply hK; clear hK
    refine VC_cond rfl rfl (fun h => ?_) (fun h => VC_skip ?_)
    · simp only [decide_eq_true_eq] at h
      omega
    clear h
    have fin : ∀ b' : Bool, (b' = true ↔ l = [] ∨ ∃ y ∈ l.take (i + 1), y.1 + y.2 = en) → ∃ m < l.length - i, ∃ (j : Nat) (b : Bool), Is [(0, Value.slice (some p) l.length c), (5, .int .i64 en), (6, .bool b'), (7, .int .i64 ((i : Int) + 1))] [(0, Value.slice (some p) l.length c), (5, .int .i64 en), (6, .bool b), (7, .int .i64 j)] ∧ Heap w [] w4 [] ∧ (b = true ↔ l = [] ∨ ∃ x ∈ l.take j, x.1 + x.2 = en) ∧ j ≤ l.length ∧ m = l.length - j :=
      fun b' hb' => ⟨l.length - (i + 1), by omega, i + 1, b', rfl, hH, hb', by omega, rfl⟩
    (repeat refine VC_seq ?_); refine VC_regionQ [0, 5, 6, 7] (by kernel_rfl) (by kernel_rfl) rfl fun K hK => ?_; refine Qi ?_
    cases b with
    | true =>
      simp only [go_sem]
      apply hK; clear hK
      refine VC_blk ?_
      refine VQi [0, 5, 6, 7] fun K hK => ?_
      (repeat refine Qo ?_); apply hK; clear hK
      refine VC_again ?_
      refine Qi ?_
      refine fin true ⟨fun _ => ?_, fun _ => rfl⟩
      rcases hb.1 rfl with h | ⟨y, hy, h⟩
      · exact .inl h
      · exact .inr ⟨y, by rw [htk]; exact List.mem_append_left _ hy, h⟩
    | false =>
      simp only [go_sem]
      refine ⟨⟨by omega, by omega⟩, _, c1, ⟨by omega, by omega⟩, _, c2, ?_⟩
      (try refine Qi ?_)
      refine ⟨I64.mk (by omega) (by omega), ?_⟩
      apply hK; clear hK
      refine VC_blk ?_
      refine VQi [0, 5, 6, 7] fun K hK => ?_
      (repeat refine Qo ?_); apply hK; clear hK
      refine VC_again ?_
      refine Qi ?_
      refine fin _ ?_
      rw [decide_eq_true_eq]
      constructor
      · exact fun h => .inr ⟨x, by rw [htk]; simp, h⟩
      · rintro (h | ⟨y, hy, h⟩)
        · exact absurd (hb.2 (.inl h)) (by simp)
        · rw [htk] at hy
          rcases List.mem_append.1 hy with hy | hy
          · exact absurd (hb.2 (.inr ⟨y, hy, h⟩)) (by simp)
          · simp at hy; subst hy; exact h
  ·
    obtain rfl : i = l.length := by omega
    refine VC_exit rfl ?_
    rw [List.take_length] at hb
    obtain rfl : b = true := hb.2 e4
    clear hb e1 e2 e3
    refine VQi [4] fun K hK => ?_
    refine ⟨fun h1 => ⟨fun h2 => ?_, fun h2 => ?_⟩, fun h1 => ?_⟩
    · refine MemK_call Tryz.call8 ?_; refine Qi ?_; refine CallK.mk (awake22_does w4) ?_
      rintro v w5 ⟨hH2, rfl⟩
      (try refine Qi ?_)
      apply hK; clear hK
      exact VC_ret (VX_ret1 rfl rfl ⟨hH.call0 hH2, rfl⟩)
    · exact absurd (e5 (List.eq_nil_of_length_eq_zero (by omega))) h2
    · refine MemK_call Tryz.call8 ?_; refine Qi ?_; refine CallK.mk (awake22_does w4) ?_
      rintro v w5 ⟨hH2, rfl⟩
      (try refine Qi ?_)
      apply hK; clear hK
      exact VC_ret (VX_ret1 rfl rfl ⟨hH.call0 hH2, rfl⟩)
end Go.Proofs.YtoioaddfachjhaaGreatDoor
namespace Go.Proofs.YtoioaddfachjhaaGreatDoor
open Go Go.Eng Go.ChangeShapes Go.WideShapes
set_option linter.unusedVariables false
theorem xok_of {n m : Int} (h : (Lit.int .i64 n).wf = true) (k : (Lit.int .i64 m).wf = true) : XOk (n, m) := by
  simp [Lit.wf, IntKind.min, IntKind.max, IntKind.signed, IntKind.bits] at h k
  unfold XOk I64
  simp only
  omega
theorem open_exts {H : Type} {enc : TypeId × Value → H} {P : Program} {W : World} {base : Nat} {sp : Nat → Bool} {held : Bool} {t e : TypeId} {f0 f1 : Field} {fuel : Nat} {a0 : Option Addr} {len cap : Nat} {x : DataW H × List MemPlace}
    (ht : P.underlying t = some (.slice e)) (he : P.underlying e = some (.struct #[f0, f1])) (hc : P.cellsOf e = 2) (h0 : P.underlying f0.type = some (.int .i64)) (h1 : P.underlying f1.type = some (.int .i64)) (o0 : f0.offset = 0) (o1 : f1.offset = 1) (s0 : P.cellsOf f0.type = 1) (s1 : P.cellsOf f1.type = 1)
    (hf : DataW.trod enc P W base sp held fuel t (Value.slice a0 len cap).cells.toList = some x) :
    ∃ l : List Ex, len = l.length ∧ RS W a0 l.length 2 (extsV l) ∧ (∀ y ∈ l, XOk y) ∧ (len = 0 ∨ ∃ el rs, x.1 = .slice el rs ∧ el.length = len) := by
  rcases DataW.trod_slice ht hf with ⟨hcs, _⟩ | ⟨a, len', cap', elems, rest, n, _, hcs, rfl, hb, hl, hm, hlen, hel, _, _⟩
  · simp [Value.cells] at hcs
    obtain ⟨rfl, rfl, rfl⟩ := hcs
    exact ⟨[], rfl, ⟨rfl, fun _ => rfl, fun ad h => by cases h⟩, by simp, .inl rfl⟩
  · simp [Value.cells] at hcs
    obtain ⟨rfl, rfl, rfl⟩ := hcs
    have each : ∀ i, ∃ y : Ex, i < len → XOk y ∧ W.cell? (a.add (i * 2)) = some (.int .i64 y.1) ∧ W.cell? (a.add (i * 2 + 1)) = some (.int .i64 y.2) := by
      intro i
      by_cases hi : i < len
      · have h2 := hel i hi
        rw [List.getElem?_eq_getElem (by omega), hc, Option.bind_eq_some_iff] at h2
        obtain ⟨cs, h3, h4⟩ := h2
        obtain ⟨y0, y1, m, _, hcl, h5, h6⟩ := trod_struct2 he h4
        rw [o0, s0, List.drop_zero] at h5
        rw [o1, s1] at h6
        obtain ⟨n0, h7, _, h8⟩ := DataW.trod_int h0 h5
        obtain ⟨n1, h9, _, h10⟩ := DataW.trod_int h1 h6
        rw [hc] at hcl
        have hcs : cs = [.int .i64 n0, .int .i64 n1] := by
          match cs, hcl with
          | [c0, c1], _ =>
            simp at h7 h9
            rw [h7, h9]
        subst hcs
        have h11 := (World.cells?_some h3).2
        refine ⟨(n0, n1), fun _ => ⟨xok_of h8 h10, ?_, ?_⟩⟩
        · have := h11.2 0 (by omega)
          simpa [add_add] using this
        · have := h11.2 1 (by omega)
          simpa [add_add] using this
      · exact ⟨(0, 0), fun h => absurd h hi⟩
    obtain ⟨f, hf⟩ := Classical.axiomOfChoice each
    have hll : ((List.range len).map f).length = len := by simp
    refine ⟨(List.range len).map f, hll.symm, ⟨by rw [extsV_len], fun h => (by cases h), fun ad had => ?_⟩, fun y hy => ?_, .inr ⟨_, _, rfl, by simpa using hlen⟩⟩
    · cases had
      intro j u hu
      have hj : j < len * 2 := by
        have := (List.getElem?_eq_some_iff.1 hu).1
        rw [extsV_len, hll] at this; exact this
      have hi : j / 2 < len := by omega
      have hg : ((List.range len).map f)[j / 2]? = some (f (j / 2)) := by simp [hi]
      obtain ⟨_, c1, c2⟩ := hf (j / 2) hi
      have hr : j % 2 = 0 ∨ j % 2 = 1 := by omega
      rcases hr with hr | hr
      · have h3 := rowsV_get (k := 2) extV_len _ (j / 2) _ hg 0 (.int .i64 (f (j / 2)).1) rfl
        rw [show j / 2 * 2 + 0 = j by omega] at h3
        have h4 : (extsV ((List.range len).map f))[j]? = some (.int .i64 (f (j / 2)).1) := h3
        rw [hu] at h4; cases h4
        rw [show j / 2 * 2 = j by omega] at c1; exact c1
      · have h3 := rowsV_get (k := 2) extV_len _ (j / 2) _ hg 1 (.int .i64 (f (j / 2)).2) rfl
        rw [show j / 2 * 2 + 1 = j by omega] at h3
        have h4 : (extsV ((List.range len).map f))[j]? = some (.int .i64 (f (j / 2)).2) := h3
        rw [hu] at h4; cases h4
        rw [show j / 2 * 2 + 1 = j by omega] at c2; exact c2
    · obtain ⟨i, hi, rfl⟩ := List.mem_map.1 hy
      exact (hf i (List.mem_range.1 hi)).1
end Go.Proofs.YtoioaddfachjhaaGreatDoor
