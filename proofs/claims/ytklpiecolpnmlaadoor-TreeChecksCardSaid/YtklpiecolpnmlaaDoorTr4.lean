/- Trees: what is below a node: the walk of both functions. -/
import Derived.Test.YtklpiecolpnmlaaDoorTr3
namespace Go.Proofs.YtklpiecolpnmlaaDoor
open Go Go.Eng
set_option maxRecDepth 100000
set_option linter.unusedSimpArgs false
set_option linter.unusedVariables false

theorem named_ne {s : List UInt8} (h : namedS s = true) : Op.bytesLess [] s = true := by
  cases s with
  | nil => simp [namedS] at h
  | cons b s => simp [Op.bytesLess]

theorem node_cells {w : World} {g : Nat} {t : NT} (h : (Res.blk g 24 (nodeV t)).holds w) :
    w.cell? ⟨g, 0, none⟩ = some (Str t.name) ∧ w.cell? ⟨g, 1, none⟩ = some (.bool t.dir) ∧ w.cell? ⟨g, 2, none⟩ = some (Str t.data) ∧ w.cell? ⟨g, 3, none⟩ = some (.slice t.place t.kids.length t.cap) :=
  ⟨blk_cell h rfl, blk_cell h rfl, blk_cell h rfl, blk_cell h rfl⟩

theorem tright_does : ∀ (t : NT) (lv : Nat) (w : World), lv ≤ 61 → Lies w t →
    Does Tryd.prog 22 #[nodeA t, .int .i64 lv] w fun v w' => Heap w [] w' [] ∧ v = .bool (rightS t lv) := by
  refine NT.ind fun t ih => ?_
  intro lv w hlv hL
  rw [Lies_iff] at hL
  obtain ⟨hF, hRS, hKd⟩ := hL
  refine Does_enter (args := [nodeA t, .int .i64 lv]) 65 Tryd.func22 rfl rfl (of_decide_eq_true rfl) ?_
  simp only [Env.ofArgs]
  refine VR [1, 2] rfl rfl fun K hK => ?_; simp -implicitDefEqProofs only [go_sem,↓reduceIte,Nat.reduceEqDiff]
  refine MemK_box ?_
  simp -implicitDefEqProofs only [go_sem,↓reduceIte,Nat.reduceEqDiff]
  have hH := (Heap.start w).box 24 (nodeV t)
  generalize w.alloc (Obj.cells (nodeV t).toArray 24) = w1 at *
  generalize w.heap.size = g at *
  (refine hK _ _ ?_; clear hK)
  have hF3 := hF.2.2
  obtain ⟨c0, c1, c2, c3⟩ := node_cells (hH.at 0 rfl)
  refine VR [1, 2, 28] rfl rfl fun K hK => ?_; simp -implicitDefEqProofs only [go_sem,↓reduceIte,Nat.reduceEqDiff]
  suffices out : ∀ b : Bool, (b = true ↔ (t.dir = true ∧ t.data ≠ [] ∨ t.dir = false ∧ 0 < t.kids.length ∨ 60 < lv)) → K [(1, .int .i64 lv), (2, .pointer (some ⟨g, 0, none⟩)), (28, .bool b)] w1 by
    refine ⟨_, c1, ?_⟩
    (try simp -implicitDefEqProofs only [go_sem,↓reduceIte,Nat.reduceEqDiff])
    refine And.intro (fun h1 => ?_) (fun h1 => ?_)
    · refine ⟨_, c2, ?_⟩
      (try simp -implicitDefEqProofs only [go_sem,↓reduceIte,Nat.reduceEqDiff])
      refine And.intro (fun h2 => ?_) (fun h2 => ?_)
      · refine ⟨_, c1, ?_⟩
        (try simp -implicitDefEqProofs only [go_sem,↓reduceIte,Nat.reduceEqDiff])
        refine And.intro (fun h3 => ?_) (fun h3 => ?_)
        · simp_all
        · refine out _ ?_
          simp_all
          omega
      · refine out _ ?_
        simp_all
    · refine ⟨_, c1, ?_⟩
      (try simp -implicitDefEqProofs only [go_sem,↓reduceIte,Nat.reduceEqDiff])
      refine And.intro (fun h3 => ?_) (fun h3 => ?_)
      · refine ⟨_, c3, ?_⟩
        (try simp -implicitDefEqProofs only [go_sem,↓reduceIte,Nat.reduceEqDiff])
        refine And.intro (fun h4 => ?_) (fun h4 => ?_)
        · refine out _ ?_
          simp_all
          omega
        · refine out _ ?_
          simp_all
      · refine out _ ?_
        simp_all
  intro b hb
  (refine hK _ _ ?_; clear hK)
  refine VC_cond rfl rfl (fun h => ?_) (fun h => VC_skip ?_) -- t28
  · have h1 := hb.1 h
    refine VR [4] rfl rfl fun K hK => ?_; simp -implicitDefEqProofs only [go_sem,↓reduceIte,Nat.reduceEqDiff]
    ((repeat refine And.intro (by omega) ?_); refine hK _ _ ?_; clear hK)
    refine VC_ret (VX_ret1 rfl rfl ⟨hH.sub (List.nil_sublist _), ?_⟩) -- RET (4, t4)
    rw [rightS_eq]
    rcases h1 with ⟨h1, h2⟩ | ⟨h1, h2⟩ | h1
    · simp [h1, h2]
    · simp [h1, h2]
    · have : ¬ lv ≤ 60 := by omega
      simp [this]
  have hg : ¬ (t.dir = true ∧ t.data ≠ [] ∨ t.dir = false ∧ 0 < t.kids.length ∨ 60 < lv) := fun hh => by rw [hb.2 hh] at h; cases h
  have hsp : rightS t lv = rightL t.kids lv [] := by
    rw [rightS_eq]
    have e1 : (!(t.dir && decide (t.data ≠ []))) = true := by
      cases hd : t.dir
      · rfl
      · have : t.data = [] := Classical.byContradiction fun hh => hg (.inl ⟨hd, hh⟩)
        simp [this]
    have e2 : (!(!t.dir && decide (t.kids.length > 0))) = true := by
      cases hd : t.dir
      · have : ¬ 0 < t.kids.length := fun hh => hg (.inr (.inl ⟨hd, hh⟩))
        simp
        exact List.eq_nil_of_length_eq_zero (by omega)
      · rfl
    have e3 : decide (lv ≤ 60) = true := by
      simp; omega
    rw [e1, e2, e3]
    rfl
  have hlv2 : lv ≤ 60 := by omega
  clear hb h hg
  refine VR [1, 2, 30, 31, 32] rfl rfl fun K hK => ?_; simp -implicitDefEqProofs only [go_sem,↓reduceIte,Nat.reduceEqDiff]
  refine ⟨_, c3, ?_⟩
  (try simp -implicitDefEqProofs only [go_sem,↓reduceIte,Nat.reduceEqDiff])
  ((repeat refine And.intro (by omega) ?_); refine hK _ _ ?_; clear hK)
  ((repeat refine VC_seq ?_); refine VC_block ?_)
  refine VC_loopS [1, 2, 30, 31, 32] (fun m e w' => ∃ (i : Nat) (last : List UInt8), Is e [(1, .int .i64 lv), (2, .pointer (some ⟨g, 0, none⟩)), (30, .slice t.place t.kids.length t.cap), (31, .int .i64 t.kids.length), (32, .int .i64 i)] ∧ Heap w [] w' [Res.blk g 24 (nodeV t)] ∧ i ≤ t.kids.length ∧
      (i = 0 ∧ last = [] ∨ 0 < i ∧ ∃ y, t.kids[i - 1]? = some y ∧ last = y.name) ∧ rightL t.kids lv [] = rightL (t.kids.drop i) lv last ∧ m = t.kids.length - i) t.kids.length ?_ ?_ -- LOOP
  · simp -implicitDefEqProofs only [go_sem,↓reduceIte,Nat.reduceEqDiff]
    exact ⟨0, [], rfl, hH, by omega, .inl ⟨rfl, rfl⟩, rfl, rfl⟩
  clear hH c0 c1 c2 c3
  rintro m e w2 ⟨i, last, rfl, hH, hi, hla, hgo, rfl⟩
  refine VR [1, 2, 30, 31, 32, 33] rfl rfl fun K hK => ?_; simp -implicitDefEqProofs only [go_sem,↓reduceIte,Nat.reduceEqDiff]
  ((repeat refine And.intro (by omega) ?_); refine hK _ _ ?_; clear hK)
  (repeat refine VC_seq ?_)
  refine VC_cond rfl rfl (fun h => ?_) (fun h => ?_) -- t33
  · simp only [decide_eq_true_eq] at h
    have h1 : i < t.kids.length := by omega
    refine VC_skip ?_
    ((repeat refine VC_seq ?_); refine VC_block ?_)
    obtain ⟨x, hx⟩ : ∃ x, t.kids[i]? = some x := ⟨_, List.getElem?_eq_getElem h1⟩
    have hxm : x ∈ t.kids := List.mem_of_getElem? hx
    have hdr : t.kids.drop i = x :: t.kids.drop (i + 1) := by
      rw [List.drop_eq_getElem_cons h1]; congr 1
      rw [List.getElem?_eq_getElem h1] at hx; exact Option.some.inj hx
    rw [hdr, rightL] at hgo
    have hxL := hKd x hxm
    have hxF : x.Fits := ((Lies_iff _ _).1 hxL).1
    cases hpl : t.place with
    | none => have := hRS.2.1 hpl; omega
    | some p =>
    rw [hpl] at hRS
    have hrd := rs_node (hH.rs' hRS) hx
    refine VR [1, 2, 5, 6, 30, 31, 32] rfl rfl fun K hK => ?_; simp -implicitDefEqProofs only [go_sem,↓reduceIte,Nat.reduceEqDiff]
    refine ⟨⟨by omega, by omega⟩, nodeV x, ⟨rfl, hrd⟩, ?_⟩
    (try simp -implicitDefEqProofs only [go_sem,↓reduceIte,Nat.reduceEqDiff])
    refine MemK_alloc (.agg #[.string ⟨#[]⟩, .bool false, .string ⟨#[]⟩, .slice none 0 0]) (by kernel_rfl) ?_
    simp -implicitDefEqProofs only [go_sem,↓reduceIte,Nat.reduceEqDiff]
    have hH1 := hH.box 24 [.string ⟨#[]⟩, .bool false, .string ⟨#[]⟩, .slice none 0 0]
    generalize w2.alloc (Obj.cells [Value.string ⟨#[]⟩, .bool false, .string ⟨#[]⟩, .slice none 0 0].toArray 24) = w3 at *
    generalize w2.heap.size = gb at *
    refine MemK_store ?_
    simp -implicitDefEqProofs only [go_sem,↓reduceIte,Nat.reduceEqDiff]
    refine StoreK_blk hH1 0 (vs := nodeV x) rfl rfl (by kernel_rfl) (by simp [nodeV]) (nodeV_one x) fun w4 hH2 => ?_
    have hH2 : Heap w [] w4 [Res.blk gb 24 (nodeV x), Res.blk g 24 (nodeV t)] := hH2
    clear hH1
    (try simp -implicitDefEqProofs only [go_sem,↓reduceIte,Nat.reduceEqDiff])
    (refine hK _ _ ?_; clear hK)
    obtain ⟨c0, c1, c2, c3⟩ := node_cells (hH2.at 1 rfl)
    obtain ⟨d0, d1, d2, d3⟩ := node_cells (hH2.at 0 rfl)
    rw [hpl] at c3
    obtain ⟨nb, hnb⟩ : ∃ nb, namedS x.name = nb := ⟨_, rfl⟩
    have hnd := tnamed_does x.name w4 hxF.1
    rw [hnb] at hnd hgo
    cases nb
    · (repeat refine VC_seq ?_); refine VC_regionH _ (Ext.refl _) [1, 2, 30, 31, 32, 63] [(0, true), (1, true), (2, false), (3, true), (4, true), (5, true), (6, true), (7, true), (8, true), (9, true), (10, true), (11, true), (12, true), (13, true), (14, true), (15, true), (16, true), (17, true), (18, true), (19, true), (20, true), (21, true), (22, true), (23, true), (24, false), (25, true), (26, true)] (by kernel_rfl) (by kernel_rfl) rfl (by simp only [planned, List.filterMap_cons, List.filterMap_nil, List.getElem?_cons_succ, List.getElem?_cons_zero, Option.map_some]; rfl) fun K hK => ?_; simp -implicitDefEqProofs only [go_sem, ↓ex_hit d0,↓reduceIte,Nat.reduceEqDiff]
      suffices out : ∀ (w' : World), Heap w [] w' [Res.blk gb 24 (nodeV x), Res.blk g 24 (nodeV t)] → K [(1, .int .i64 lv), (2, .pointer (some ⟨g, 0, none⟩)), (30, .slice (some p) t.kids.length t.cap), (31, .int .i64 t.kids.length), (32, .int .i64 i), (63, .bool true)] w' by
        refine MemK_callD Tryd.call38 hnd (by simp -implicitDefEqProofs only [go_sem,↓reduceIte,Nat.reduceEqDiff] <;> rfl) ?_
        rintro v w5 ⟨rfl, rfl⟩
        refine ⟨Ext.refl _, ?_⟩
        (try simp -implicitDefEqProofs only [go_sem,↓reduceIte,Nat.reduceEqDiff])
        exact out _ hH2
      have hfin : rightS t lv = false := by
        rw [hsp, hgo]; simp
      intro w6 hH6
      (refine hK _ _ ?_; clear hK)
      refine VC_cond rfl rfl (fun h => ?_) (fun h => by simp at h) -- t63
      refine VR [4] rfl rfl fun K hK => ?_; simp -implicitDefEqProofs only [go_sem,↓reduceIte,Nat.reduceEqDiff]
      ((repeat refine And.intro (by omega) ?_); refine hK _ _ ?_; clear hK)
      exact VC_ret (VX_ret1 rfl rfl ⟨hH6.sub (List.nil_sublist _), by rw [hfin]⟩)
    · (repeat refine VC_seq ?_); refine VC_regionH _ (Ext.refl _) [1, 2, 30, 31, 32, 63] [(0, true), (1, true), (2, false), (3, true), (4, true), (5, true), (6, true), (7, true), (8, true), (9, true), (10, true), (11, true), (12, true), (13, true), (14, true), (15, true), (16, true), (17, true), (18, true), (19, true), (20, true), (21, true), (22, true), (23, true), (24, false), (25, true), (26, true)] (by kernel_rfl) (by kernel_rfl) rfl (by simp only [planned, List.filterMap_cons, List.filterMap_nil, List.getElem?_cons_succ, List.getElem?_cons_zero, Option.map_some]; rfl) fun K hK => ?_; simp -implicitDefEqProofs only [go_sem, ↓ex_hit d0,↓reduceIte,Nat.reduceEqDiff]
      suffices out : ∀ (b : Bool) (w' : World), Heap w [] w' [Res.blk gb 24 (nodeV x), Res.blk g 24 (nodeV t)] → (b = true ↔ ¬ (Op.bytesLess last x.name = true ∧ rightS x (lv + 1) = true)) → K [(1, .int .i64 lv), (2, .pointer (some ⟨g, 0, none⟩)), (30, .slice (some p) t.kids.length t.cap), (31, .int .i64 t.kids.length), (32, .int .i64 i), (63, .bool b)] w' by
        refine MemK_callD Tryd.call38 hnd (by simp -implicitDefEqProofs only [go_sem,↓reduceIte,Nat.reduceEqDiff] <;> rfl) ?_
        rintro v w5 ⟨rfl, rfl⟩
        refine ⟨Ext.refl _, ?_⟩
        (try simp -implicitDefEqProofs only [go_sem, ↓ex_hit d0, ↓ex_hit c3, ↓ex_reads (blk_reads (hH2.at 0 rfl)) rfl,↓reduceIte,Nat.reduceEqDiff])
        have hLx := Lies.keep hH2 x hxL
        have hH3' : ∀ {w6 : World}, Heap w5 [] w6 [] → Heap w [] w6 [Res.blk gb 24 (nodeV x), Res.blk g 24 (nodeV t)] := fun h => hH2.call0 h
        refine And.intro (fun h2 => ?_) (fun h2 => ?_)
        · rcases hla with ⟨h3, h4⟩ | ⟨h3, y, hy, hly⟩
          · omega
          have r1 : w5.cell? (p.add ((i - 1) * 4)) = some (Str last) := by
            have := rs_node (hH2.rs' hRS) hy 0 (Str y.name) rfl
            rw [hly]
            rw [add_nought] at this
            exact this
          refine And.intro (I64.mk (by omega) (by omega)) (And.intro (And.intro (by omega) (by omega)) ⟨_, r1, ?_⟩)
          rcases Bool.eq_false_or_eq_true (Op.bytesLess last x.name) with hbl | hbl
          · (try simp -implicitDefEqProofs only [go_sem, ↓ex_reads (blk_reads (hH2.at 0 rfl)) rfl,↓reduceIte,Nat.reduceEqDiff])
            simp only [hbl]
            (try simp -implicitDefEqProofs only [go_sem,↓reduceIte,Nat.reduceEqDiff])
            refine ⟨nodeV x, ⟨rfl, blk_reads (hH2.at 0 rfl)⟩, ?_⟩; (try simp -implicitDefEqProofs only [go_sem,↓reduceIte,Nat.reduceEqDiff]); refine And.intro (I64.mk (by omega) (by omega)) ?_; refine MemK_callD Tryd.call22 (ih x hxm (lv + 1) w5 (by omega) hLx) (by simp -implicitDefEqProofs only [go_sem,↓reduceIte,Nat.reduceEqDiff] <;> rfl) ?_; rintro v w6 ⟨hH3, rfl⟩; (try simp -implicitDefEqProofs only [go_sem,↓reduceIte,Nat.reduceEqDiff]); refine ⟨hH3.ext, ?_⟩; (try simp -implicitDefEqProofs only [go_sem,↓reduceIte,Nat.reduceEqDiff])
            refine out _ _ (hH3' hH3) ?_
            simp [hbl]
          · (try simp -implicitDefEqProofs only [go_sem, ↓ex_reads (blk_reads (hH2.at 0 rfl)) rfl,↓reduceIte,Nat.reduceEqDiff])
            simp only [hbl]
            (try simp -implicitDefEqProofs only [go_sem,↓reduceIte,Nat.reduceEqDiff])
            refine out _ _ hH2 ?_
            simp [hbl]
        · have h4 : last = [] := by
            rcases hla with ⟨h3, h4⟩ | ⟨h3, y, hy, hly⟩
            · exact h4
            · omega
          have hbl := named_ne hnb
          rw [← h4] at hbl
          refine ⟨nodeV x, ⟨rfl, blk_reads (hH2.at 0 rfl)⟩, ?_⟩; (try simp -implicitDefEqProofs only [go_sem,↓reduceIte,Nat.reduceEqDiff]); refine And.intro (I64.mk (by omega) (by omega)) ?_; refine MemK_callD Tryd.call22 (ih x hxm (lv + 1) w5 (by omega) hLx) (by simp -implicitDefEqProofs only [go_sem,↓reduceIte,Nat.reduceEqDiff] <;> rfl) ?_; rintro v w6 ⟨hH3, rfl⟩; (try simp -implicitDefEqProofs only [go_sem,↓reduceIte,Nat.reduceEqDiff]); refine ⟨hH3.ext, ?_⟩; (try simp -implicitDefEqProofs only [go_sem,↓reduceIte,Nat.reduceEqDiff])
          refine out _ _ (hH3' hH3) ?_
          simp [hbl]
      intro b w6 hH6 hb
      (refine hK _ _ ?_; clear hK)
      refine VC_cond rfl rfl (fun h => ?_) (fun h => VC_skip ?_) -- t63
      · have hfin : rightS t lv = false := by
          rw [hsp, hgo]
          have := hb.1 h
          cases h5 : Op.bytesLess last x.name
          · simp
          · cases h6 : rightS x (lv + 1)
            · simp
            · exact absurd ⟨h5, h6⟩ this
        refine VR [4] rfl rfl fun K hK => ?_; simp -implicitDefEqProofs only [go_sem,↓reduceIte,Nat.reduceEqDiff]
        ((repeat refine And.intro (by omega) ?_); refine hK _ _ ?_; clear hK)
        exact VC_ret (VX_ret1 rfl rfl ⟨hH6.sub (List.nil_sublist _), by rw [hfin]⟩)
      have hg : Op.bytesLess last x.name = true ∧ rightS x (lv + 1) = true := Classical.byContradiction fun hh => by rw [hb.2 hh] at h; cases h
      refine VC_blk ?_
      refine VR [1, 2, 30, 31, 32] rfl rfl fun K hK => ?_; simp -implicitDefEqProofs only [go_sem,↓reduceIte,Nat.reduceEqDiff]
      ((repeat refine And.intro (by omega) ?_); refine hK _ _ ?_; clear hK)
      refine VC_again ?_
      simp -implicitDefEqProofs only [go_sem,↓reduceIte,Nat.reduceEqDiff]
      refine ⟨t.kids.length - (i + 1), by omega, i + 1, x.name, rfl, hH6.sub (List.sublist_cons_self _ _), by omega, .inr ⟨by omega, x, by simpa using hx, rfl⟩, ?_, rfl⟩
      rw [hgo, hg.1, hg.2]
      rfl
  · simp only [decide_eq_false_iff_not] at h
    obtain rfl : i = t.kids.length := by omega
    refine VC_exit rfl ?_
    refine VR [4] rfl rfl fun K hK => ?_; simp -implicitDefEqProofs only [go_sem,↓reduceIte,Nat.reduceEqDiff]
    ((repeat refine And.intro (by omega) ?_); refine hK _ _ ?_; clear hK)
    refine VC_ret (VX_ret1 rfl rfl ⟨hH.sub (List.nil_sublist _), ?_⟩)
    rw [hsp, hgo, List.drop_length]
    rfl
end Go.Proofs.YtklpiecolpnmlaaDoor
