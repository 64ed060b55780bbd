/- What the proof leans on, part 13: no conditions. -/
import Derived.Test.YtabndnbgpfnhpaaGreatDoorV12
namespace Go.Proofs.YtabndnbgpfnhpaaGreatDoor
open Go Go.Eng
set_option maxRecDepth 100000
set_option maxHeartbeats 1000000
set_option linter.unusedSimpArgs false
set_option linter.unusedVariables false
def parseR (s : Bs) : List (List Bs) × Nat × Nat := if 65536 < s.length then ([], 0, 3) else match parseG (lnS s) 0 [] with
  | .inr i => ([], i, 290)
  | .inl out => (out, 0, 0)
theorem ParseOk.shape {T : Nat} {s : Bs} {w w' : World} {v : Value} (h : ParseOk T s w v w') : ∃ (L : List Ln) (a : Option Addr) (c : Nat), v = .tuple #[.slice a L.length c, .int .i64 (parseR s).2.1, .int .i64 (parseR s).2.2] ∧ L.map (·.2.2) = (parseR s).1 ∧ Heap w [] w' (Res.row T 2 a L.length c (lnsV L) :: L.reverse.map lnRow) := by
  unfold ParseOk at h
  unfold parseR
  split at h
  · rename_i hb
    rw [if_pos hb]
    exact ⟨[], none, 0, h.1, rfl, h.2.nilRow T 2⟩
  · rename_i hb
    rw [if_neg hb]
    split at h
    · rename_i heq
      rw [heq]
      exact ⟨[], none, 0, h.1, rfl, h.2.nilRow T 2⟩
    · rename_i heq
      rw [heq]
      obtain ⟨L, a, c, h1, h2, h3⟩ := h
      exact ⟨L, a, c, h2, h1, h3⟩
theorem args_rs {x : Ln} {w : World} (h : (lnRow x).holds w) : RS w (argA x.1 x.2.1) (x.2.2.length - 1) 1 (strsV (x.2.2.drop 1)) := by
  have hc : x.2.2.length ≤ x.2.1 := h.2.1
  refine ⟨by simp, fun h0 => ?_, fun ad ha j u hu => ?_⟩
  · unfold argA at h0; split at h0 <;> cases h0
  · have hj : j < x.2.2.length - 1 := by
      have := (List.getElem?_eq_some_iff.1 hu).1
      simpa using this
    rw [argA, if_neg (by omega)] at ha
    cases ha
    rw [show (⟨x.1, 1, none⟩ : Addr).add j = ⟨x.1, 1 + j, none⟩ by unfold Addr.add; split <;> simp_all]
    refine row_cell h ?_
    rw [strsV] at hu ⊢
    rw [List.getElem?_map, List.getElem?_drop] at hu
    rw [List.getElem?_map]
    exact hu
theorem texts_does (l : List Bs) (a b : Option Addr) (c d : Nat) (w : World) (hl : RS w a l.length 1 (strsV l)) (hm : RS w b l.length 1 (strsV l)) (hn : l.length ≤ 9223372036854775807) : Does Tryz.prog 7 #[.slice a l.length c, .slice b l.length d] w fun v w' => w' = w ∧ v = .bool true := by
  refine En [.slice a l.length c, .slice b l.length d] 26 Tryz.func7 ?_
  refine VS [0, 1] ?_
  refine VS [0, 1, 10] ?_
  refine VC_cond rfl rfl (fun h => by simp at h) (fun h => VC_skip ?_)
  clear h
  refine VS [0, 1, 5] ?_
  refine VC_block ?_
  refine VC_loopS [0, 1, 5] (fun m e w' => ∃ (i : Nat), Is e [(0, .slice a l.length c), (1, .slice b l.length d), (5, .int .i64 i)] ∧ w' = w ∧ i ≤ l.length ∧ m = l.length - i) l.length ?_ ?_
  · refine Qs ?_
    exact ⟨0, rfl, trivial, Nat.zero_le _, rfl⟩
  rintro m e w' ⟨i, rfl, rfl, hi, rfl⟩
  refine VS [0, 1, 5, 14] ?_
  refine VD (fun h => ?_) (fun h => ?_)
  ·
    have hlt : i < l.length := by omega
    obtain ⟨x, hx⟩ : ∃ x, l[i]? = some x := ⟨_, List.getElem?_eq_getElem hlt⟩
    obtain ⟨p, rfl⟩ : ∃ p, a = some p := by
      cases a with
      | none => have := hl.2.1 rfl; omega
      | some p => exact ⟨p, rfl⟩
    obtain ⟨q, rfl⟩ : ∃ q, b = some q := by
      cases b with
      | none => have := hm.2.1 rfl; omega
      | some q => exact ⟨q, rfl⟩
    have e1 : w'.cell? (p.add i) = some (Str x) := hl.2.2 p rfl i _ (strsV_get hx)
    have e2 : w'.cell? (q.add i) = some (Str x) := hm.2.2 q rfl i _ (strsV_get hx)
    clear h
    refine VC_skip ?_
    refine VB ?_
    refine Vq [0, 1, 5, 25] fun K hK => ?_
    refine And.intro ⟨by omega, by omega⟩ ⟨_, e1, And.intro ⟨by omega, by omega⟩ ⟨_, e2, ?_⟩⟩
    refine Qs ?_
    apply hK; clear hK
    refine VC_cond rfl rfl (fun h => by simp at h) (fun h => VC_skip ?_)
    refine VC_blk ?_
    refine VS [0, 1, 5] ?_
    refine VC_again ?_
    refine Qs ?_
    exact ⟨l.length - (i + 1), by omega, i + 1, rfl, trivial, by omega, rfl⟩
  ·
    refine VC_exit rfl ?_
    refine VS [4] ?_
    exact VC_ret (VX_ret1 rfl rfl ⟨rfl, rfl⟩)
theorem scriptParses_law (s : Bs) (w : World) (hs : s.length ≤ 140737488355328) : Does Tryz.prog 3 #[Str s] w fun v w' => Heap w [] w' [] ∧ v = .bool true := by
  refine En [Str s] 78 Tryz.func3 ?_
  refine VS [0] ?_
  refine VQ [0, 17] fun K hK => ?_
  suffices out : ∀ q : Bool, K [(0, Str s), (17, .bool q)] w by
    refine ⟨fun h => out _, fun h => out _⟩
  intro q
  apply hK; clear hK
  refine Vi (fun h => ?_) (fun h => VC_skip ?_)
  · refine VQ [2] fun K hK => ?_
    refine MemK_call Tryz.call4 ?_; refine Qs ?_; refine CallK.mk (awake29_does w) ?_
    rintro v w2 ⟨hH, rfl⟩
    (try refine Qs ?_)
    apply hK; clear hK
    exact VC_ret (VX_ret1 rfl rfl ⟨hH, rfl⟩)
  clear h
  refine VQ [0, 3, 4, 5] fun K hK => ?_
  refine MemK_call Tryz.call5 ?_; refine Qs ?_; refine CallK.mk (parse_does s w hs) ?_
  rintro v w2 h1
  obtain ⟨L1, a1, c1, rfl, hL1, hH1⟩ := h1.shape
  clear h1
  (try refine Qs ?_)
  apply hK; clear hK
  refine VQ [3, 4, 5, 6, 7, 8] fun K hK => ?_
  refine MemK_call Tryz.call6 ?_; refine Qs ?_; refine CallK.mk (rparse_does s w2 hs) ?_
  rintro v w3 h2
  obtain ⟨L2, a2, c2, rfl, hL2, hH2⟩ := h2.shape
  clear h2
  (try refine Qs ?_)
  apply hK; clear hK
  have hH := hH1.call0 hH2
  have hLL : L1.map (·.2.2) = L2.map (·.2.2) := by rw [hL1, hL2]
  have hll : L1.length = L2.length := by have := congrArg List.length hLL; simpa using this
  have hbig : L1.length ≤ 9223372036854775807 := Nat.le_trans (hH1.at 0 rfl).2.1 (Nat.le_trans (hH1.at 0 rfl).2.2.1 (by decide))
  clear hH1 hH2 hL1 hL2
  rw [← hll] at hH
  rw [← hll]
  generalize (parseR s).2.1 = at_
  generalize (parseR s).2.2 = er
  refine VQ [3, 6, 45] fun K hK => ?_
  refine ⟨fun _ => ⟨fun _ => ?_, fun h => absurd trivial h⟩, fun h => absurd trivial h⟩
  apply hK; clear hK
  refine VC_cond rfl rfl (fun h => by simp at h) (fun h => VC_skip ?_)
  clear h
  refine VS [3, 6, 9] ?_
  refine VC_block ?_
  refine VC_loopS [3, 6, 9] (fun m e w' => ∃ (i : Nat), Is e [(3, .slice a1 L1.length c1), (6, .slice a2 L1.length c2), (9, .int .i64 i)] ∧ w' = w3 ∧ i ≤ L1.length ∧ m = L1.length - i) L1.length ?_ ?_
  · refine Qs ?_
    exact ⟨0, rfl, trivial, Nat.zero_le _, rfl⟩
  rintro m e w' ⟨i, rfl, rfl, hi, rfl⟩
  refine VS [3, 6, 9, 49] ?_
  refine VD (fun h => ?_) (fun h => ?_)
  ·
    have hlt : i < L1.length := by omega
    obtain ⟨x, hx⟩ : ∃ x, L1[i]? = some x := ⟨_, List.getElem?_eq_getElem hlt⟩
    obtain ⟨y, hy⟩ : ∃ y, L2[i]? = some y := ⟨_, List.getElem?_eq_getElem (by omega)⟩
    have hxy : y.2.2 = x.2.2 := by
      have e := congrArg (fun l => l[i]?) hLL
      simp only [List.getElem?_map, hx, hy, Option.map_some, Option.some.injEq] at e
      exact e.symm
    obtain ⟨g1, rfl⟩ : ∃ g, a1 = some ⟨g, 0, none⟩ := by
      have h1 := hH.holds (Res.row 32 2 a1 L1.length c1 (lnsV L1)) (by simp)
      obtain ⟨_, _, _, h4 | ⟨g, _, _, h4, _⟩⟩ := h1
      · have := h4.2.1; omega
      · exact ⟨g, h4⟩
    obtain ⟨g2, rfl⟩ : ∃ g, a2 = some ⟨g, 0, none⟩ := by
      obtain ⟨_, _, _, h4 | ⟨g, _, _, h4, _⟩⟩ := hH.at 0 rfl
      · have := h4.2.1; omega
      · exact ⟨g, h4⟩
    have hr1 := hH.holds (Res.row 32 2 (some ⟨g1, 0, none⟩) L1.length c1 (lnsV L1)) (by simp)
    have hr2 := hH.at 0 rfl
    have b1 : ∀ j u, (lnC x)[j]? = some u → w'.cell? ⟨g1, i * 2 + j, none⟩ = some u := fun j u hu => row_cell hr1 (rowsV_get (f := lnC) (k := 2) (fun _ => rfl) L1 i x hx j u hu)
    have b2 : ∀ j u, (lnC y)[j]? = some u → w'.cell? ⟨g2, i * 2 + j, none⟩ = some u := fun j u hu => row_cell hr2 (rowsV_get (f := lnC) (k := 2) (fun _ => rfl) L2 i y hy j u hu)
    have m1 := args_rs (hH.holds (lnRow x) (by simp only [List.mem_append, List.mem_cons, List.mem_map, List.mem_reverse]; exact .inr (.inr ⟨x, List.mem_of_getElem? hx, rfl⟩)))
    have m2 := args_rs (hH.holds (lnRow y) (by simp only [List.mem_append, List.mem_cons, List.mem_map, List.mem_reverse]; exact .inl (.inr ⟨y, List.mem_of_getElem? hy, rfl⟩)))
    rw [hxy] at m2
    have p1 := b1 0 (Str (x.2.2.headD [])) rfl
    have p2 := b2 0 (Str (y.2.2.headD [])) rfl
    have p3 := b1 1 _ rfl
    have p4 := b2 1 _ rfl
    rw [hxy] at p2
    rw [show y.2.2.length = x.2.2.length by rw [hxy]] at p4
    clear h
    refine VC_skip ?_
    refine VB ?_
    refine VL [3, 6, 9, 76] 22 fun K hK => ?_
    refine And.intro ⟨by omega, by omega⟩ ⟨_, p1, And.intro ⟨by omega, by omega⟩ ⟨_, p2, ?_⟩⟩
    (try refine Qs ?_)
    have hdl : (x.2.2.drop 1).length = x.2.2.length - 1 := by simp
    have hwb : (x.2.2.drop 1).length ≤ 9223372036854775807 := by
      have h := hH.holds (lnRow x) (by simp only [List.mem_append, List.mem_cons, List.mem_map, List.mem_reverse]; exact .inr (.inr ⟨x, List.mem_of_getElem? hx, rfl⟩))
      have := Nat.le_trans h.2.1 (Nat.le_trans h.2.2.1 (by decide : maxLen ≤ 9223372036854775807))
      omega
    rw [← hdl] at m1 m2 p3 p4
    refine ⟨fun _ => And.intro ⟨by omega, by omega⟩ ⟨_, p3, And.intro ⟨by omega, by omega⟩ ⟨_, p4, ?_⟩⟩, fun h => absurd trivial h⟩
    refine MemK_call Tryz.call7 ?_; refine Qs ?_; refine CallK.mk (texts_does (x.2.2.drop 1) (argA x.1 x.2.1) (argA y.1 y.2.1) _ _ w' m1 m2 hwb) ?_
    rintro v w4 ⟨rfl, rfl⟩
    (try refine Qs ?_)
    apply hK; clear hK
    refine VC_cond rfl rfl (fun h => by simp at h) (fun h => VC_skip ?_)
    refine VC_blk ?_
    refine VS [3, 6, 9] ?_
    refine VC_again ?_
    refine Qs ?_
    exact ⟨L1.length - (i + 1), by omega, i + 1, rfl, trivial, by omega, rfl⟩
  ·
    refine VC_exit rfl ?_
    refine VQ [2] fun K hK => ?_
    refine MemK_call Tryz.call4 ?_; refine Qs ?_; refine CallK.mk (awake29_does w') ?_
    rintro v w4 ⟨hA, rfl⟩
    have hHe := (hH.call0 hA).sub (List.nil_sublist _)
    (try refine Qs ?_)
    apply hK; clear hK
    exact VC_ret (VX_ret1 rfl rfl ⟨hHe, rfl⟩)
end Go.Proofs.YtabndnbgpfnhpaaGreatDoor
