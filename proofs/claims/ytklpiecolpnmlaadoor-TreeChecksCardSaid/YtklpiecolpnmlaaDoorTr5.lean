/- Trees: what is below a node: the walk of the reference. -/
import Derived.Test.YtklpiecolpnmlaaDoorTr4
namespace Go.Proofs.YtklpiecolpnmlaaDoor
open Go Go.Eng
set_option maxRecDepth 100000
set_option linter.unusedSimpArgs false
set_option linter.unusedVariables false

theorem rright_does : ∀ (t : NT) (lv : Nat) (w : World), lv ≤ 61 → Lies w t →
    Does Tryd.prog 23 #[nodeA t, .int .i64 lv] w fun v w' => Heap w [] w' [] ∧ v = .bool (rightS t lv) := by
  refine NT.ind fun t ih => ?_
  intro lv w hlv hL
  rw [Lies_iff] at hL
  obtain ⟨hF, hRS, hKd⟩ := hL
  refine Does_enter (args := [nodeA t, .int .i64 lv]) 71 Tryd.func23 rfl rfl (of_decide_eq_true rfl) ?_
  simp only [Env.ofArgs]
  refine VR [1, 2] rfl rfl fun K hK => ?_; simp only [go_sem,↓reduceIte,Nat.reduceEqDiff]
  refine MemK_box ?_
  simp only [go_sem,↓reduceIte,Nat.reduceEqDiff]
  have hH := (Heap.start w).box 24 (nodeV t)
  generalize w.alloc (Obj.cells (nodeV t).toArray 24) = w1 at *
  generalize w.heap.size = g at *
  (refine hK _ _ ?_; clear hK)
  have hF3 := hF.2.2
  obtain ⟨c0, c1, c2, c3⟩ := node_cells (hH.at 0 rfl)
  refine VR [1, 2, 28] rfl rfl fun K hK => ?_; simp only [go_sem, ↓ex_hit c1, ↓ex_hit c2, ↓ex_hit c3,↓reduceIte,Nat.reduceEqDiff]
  suffices out : ∀ b : Bool, (b = true ↔ (t.dir = true ∧ t.data ≠ [] ∨ t.dir = false ∧ 0 < t.kids.length ∨ 60 < lv)) → K [(1, .int .i64 lv), (2, .pointer (some ⟨g, 0, none⟩)), (28, .bool b)] w1 by
    refine And.intro (fun h1 => ?_) (fun h1 => ?_)
    · cases hd : t.dir <;> simp only [hd] at out ⊢ <;> (try simp only [go_sem,↓reduceIte,Nat.reduceEqDiff])
      · refine out _ ?_
        simp
        omega
      · refine And.intro (fun h4 => ?_) (fun h4 => ?_)
        · refine out _ ?_
          simp_all
          omega
        · refine out _ ?_
          simp_all
    · refine out _ ?_
      simp
      omega
  intro b hb
  (refine hK _ _ ?_; clear hK)
  refine VC_cond rfl rfl (fun h => ?_) (fun h => VC_skip ?_) -- t28
  · have h1 := hb.1 h
    refine VR [4] rfl rfl fun K hK => ?_; simp only [go_sem,↓reduceIte,Nat.reduceEqDiff]
    ((repeat refine And.intro (by omega) ?_); refine hK _ _ ?_; clear hK)
    refine VC_ret (VX_ret1 rfl rfl ⟨hH.sub (List.nil_sublist _), ?_⟩) -- RET (4, t4)
    rw [rightS_eq]
    rcases h1 with ⟨h1, h2⟩ | ⟨h1, h2⟩ | h1
    · simp [h1, h2]
    · simp [h1, h2]
    · have : ¬ lv ≤ 60 := by omega
      simp [this]
  have hg : ¬ (t.dir = true ∧ t.data ≠ [] ∨ t.dir = false ∧ 0 < t.kids.length ∨ 60 < lv) := fun hh => by rw [hb.2 hh] at h; cases h
  have hsp : rightS t lv = rightL t.kids lv [] := by
    rw [rightS_eq]
    have e1 : (!(t.dir && decide (t.data ≠ []))) = true := by
      cases hd : t.dir
      · rfl
      · have : t.data = [] := Classical.byContradiction fun hh => hg (.inl ⟨hd, hh⟩)
        simp [this]
    have e2 : (!(!t.dir && decide (t.kids.length > 0))) = true := by
      cases hd : t.dir
      · have : ¬ 0 < t.kids.length := fun hh => hg (.inr (.inl ⟨hd, hh⟩))
        simp
        exact List.eq_nil_of_length_eq_zero (by omega)
      · rfl
    have e3 : decide (lv ≤ 60) = true := by
      simp; omega
    rw [e1, e2, e3]
    rfl
  have hlv2 : lv ≤ 60 := by omega
  clear hb h hg
  refine VR [1, 2, 5] rfl rfl fun K hK => ?_; simp only [go_sem,↓reduceIte,Nat.reduceEqDiff]
  ((repeat refine And.intro (by omega) ?_); refine hK _ _ ?_; clear hK)
  refine VR [1, 2, 5, 6] rfl rfl fun K hK => ?_; simp only [go_sem,↓reduceIte,Nat.reduceEqDiff]
  ((repeat refine And.intro (by omega) ?_); refine hK _ _ ?_; clear hK)
  ((repeat refine VC_seq ?_); refine VC_block ?_)
  refine VC_loopS [1, 2, 5, 6] (fun m e w' => ∃ (i : Nat) (last : List UInt8), Is e [(1, .int .i64 lv), (2, .pointer (some ⟨g, 0, none⟩)), (5, Str last), (6, .int .i64 i)] ∧ Heap w [] w' [Res.blk g 24 (nodeV t)] ∧ i ≤ t.kids.length ∧
      rightL t.kids lv [] = rightL (t.kids.drop i) lv last ∧ m = t.kids.length - i) t.kids.length ?_ ?_ -- LOOP
  · simp only [go_sem,↓reduceIte,Nat.reduceEqDiff]
    exact ⟨0, [], rfl, hH, by omega, rfl, rfl⟩
  clear hH c0 c1 c2 c3
  rintro m e w2 ⟨i, last, rfl, hH, hi, hgo, rfl⟩
  obtain ⟨c0, c1, c2, c3⟩ := node_cells (hH.at 0 rfl)
  refine VR [1, 2, 5, 6, 33] rfl rfl fun K hK => ?_; simp only [go_sem, ↓ex_hit c3,↓reduceIte,Nat.reduceEqDiff]
  ((repeat refine And.intro (by omega) ?_); refine hK _ _ ?_; clear hK)
  refine VC_cond rfl rfl (fun h => ?_) (fun h => ?_) -- t33
  · simp only [decide_eq_true_eq] at h
    have h1 : i < t.kids.length := by omega
    refine VC_skip ?_
    ((repeat refine VC_seq ?_); refine VC_block ?_)
    obtain ⟨x, hx⟩ : ∃ x, t.kids[i]? = some x := ⟨_, List.getElem?_eq_getElem h1⟩
    have hxm : x ∈ t.kids := List.mem_of_getElem? hx
    have hdr : t.kids.drop i = x :: t.kids.drop (i + 1) := by
      rw [List.drop_eq_getElem_cons h1]; congr 1
      rw [List.getElem?_eq_getElem h1] at hx; exact Option.some.inj hx
    rw [hdr, rightL] at hgo
    have hxL := hKd x hxm
    have hxF : x.Fits := ((Lies_iff _ _).1 hxL).1
    cases hpl : t.place with
    | none => have := hRS.2.1 hpl; omega
    | some p =>
    rw [hpl] at hRS c3
    have hrd := rs_node (hH.rs' hRS) hx
    have d0 : w2.cell? (p.add (i * 4)) = some (Str x.name) := by
      have := hrd 0 (Str x.name) rfl
      rw [add_nought] at this
      exact this
    obtain ⟨nb, hnb⟩ : ∃ nb, namedS x.name = nb := ⟨_, rfl⟩
    have hnd := rnamed_does x.name w2 hxF.1
    rw [hnb] at hnd hgo
    cases nb
    · refine VR [1, 2, 6, 64] rfl rfl fun K hK => ?_; simp only [go_sem, ↓ex_hit c3, ↓ex_hit d0,↓reduceIte,Nat.reduceEqDiff]
      refine And.intro (And.intro (by omega) (by omega)) ?_
      refine MemK_callD Tryd.call39 hnd (by simp only [go_sem,↓reduceIte,Nat.reduceEqDiff] <;> rfl) ?_
      rintro v w5 ⟨rfl, rfl⟩
      (try simp only [go_sem,↓reduceIte,Nat.reduceEqDiff])
      (refine hK _ _ ?_; clear hK)
      refine VC_cond rfl rfl (fun h => ?_) (fun h => by simp at h) -- t64
      have hfin : rightS t lv = false := by
        rw [hsp, hgo]; simp
      refine VR [4] rfl rfl fun K hK => ?_; simp only [go_sem,↓reduceIte,Nat.reduceEqDiff]
      ((repeat refine And.intro (by omega) ?_); refine hK _ _ ?_; clear hK)
      exact VC_ret (VX_ret1 rfl rfl ⟨hH.sub (List.nil_sublist _), by rw [hfin]⟩)
    · refine VR [1, 2, 6, 64] rfl rfl fun K hK => ?_; simp only [go_sem, ↓ex_hit c3, ↓ex_hit d0,↓reduceIte,Nat.reduceEqDiff]
      suffices out : ∀ (b : Bool) (w' : World), Heap w [] w' [Res.blk g 24 (nodeV t)] → (b = true ↔ ¬ (Op.bytesLess last x.name = true ∧ rightS x (lv + 1) = true)) → K [(1, .int .i64 lv), (2, .pointer (some ⟨g, 0, none⟩)), (6, .int .i64 i), (64, .bool b)] w' by
        refine And.intro (And.intro (by omega) (by omega)) ?_
        refine MemK_callD Tryd.call39 hnd (by simp only [go_sem,↓reduceIte,Nat.reduceEqDiff] <;> rfl) ?_
        rintro v w5 ⟨rfl, rfl⟩
        (try simp only [go_sem, ↓ex_hit d0, ↓ex_hit c3,↓reduceIte,Nat.reduceEqDiff])
        refine And.intro (And.intro (by omega) (by omega)) ?_
        have hLx := Lies.keep hH x hxL
        rcases Bool.eq_false_or_eq_true (Op.bytesLess last x.name) with hbl | hbl
        · simp only [hbl]
          (try simp only [go_sem, ↓ex_reads hrd rfl, ↓ex_hit c3,↓reduceIte,Nat.reduceEqDiff])
          refine And.intro (And.intro (by omega) (by omega)) ⟨nodeV x, ⟨rfl, hrd⟩, ?_⟩
          (try simp only [go_sem,↓reduceIte,Nat.reduceEqDiff])
          refine And.intro (I64.mk (by omega) (by omega)) ?_
          refine MemK_callD Tryd.call23 (ih x hxm (lv + 1) w5 (by omega) hLx) (by simp only [go_sem,↓reduceIte,Nat.reduceEqDiff] <;> rfl) ?_
          rintro v w6 ⟨hH3, rfl⟩
          (try simp only [go_sem,↓reduceIte,Nat.reduceEqDiff])
          refine out _ _ (hH.call0 hH3) ?_
          simp [hbl]
        · simp only [hbl]
          (try simp only [go_sem,↓reduceIte,Nat.reduceEqDiff])
          refine out _ _ hH ?_
          simp [hbl]
      intro b w6 hH6 hb
      (refine hK _ _ ?_; clear hK)
      refine VC_cond rfl rfl (fun h => ?_) (fun h => VC_skip ?_) -- t64
      · have hfin : rightS t lv = false := by
          rw [hsp, hgo]
          have := hb.1 h
          cases h5 : Op.bytesLess last x.name
          · simp
          · cases h6 : rightS x (lv + 1)
            · simp
            · exact absurd ⟨h5, h6⟩ this
        refine VR [4] rfl rfl fun K hK => ?_; simp only [go_sem,↓reduceIte,Nat.reduceEqDiff]
        ((repeat refine And.intro (by omega) ?_); refine hK _ _ ?_; clear hK)
        exact VC_ret (VX_ret1 rfl rfl ⟨hH6.sub (List.nil_sublist _), by rw [hfin]⟩)
      have hg : Op.bytesLess last x.name = true ∧ rightS x (lv + 1) = true := Classical.byContradiction fun hh => by rw [hb.2 hh] at h; cases h
      have c3 : w6.cell? ⟨g, 3, none⟩ = some (.slice t.place t.kids.length t.cap) := blk_cell (hH6.at 0 rfl) rfl
      rw [hpl] at c3
      have d0 : w6.cell? (p.add (i * 4)) = some (Str x.name) := by
        have := rs_node (hH6.rs' hRS) hx 0 (Str x.name) rfl
        rw [add_nought] at this
        exact this
      refine VR [1, 2, 5, 6] rfl rfl fun K hK => ?_; simp only [go_sem, ↓ex_hit c3, ↓ex_hit d0,↓reduceIte,Nat.reduceEqDiff]
      ((repeat refine And.intro (by omega) ?_); refine hK _ _ ?_; clear hK)
      refine VC_blk ?_
      refine VR [1, 2, 5, 6] rfl rfl fun K hK => ?_; simp only [go_sem,↓reduceIte,Nat.reduceEqDiff]
      ((repeat refine And.intro (by omega) ?_); refine hK _ _ ?_; clear hK)
      refine VC_again ?_
      simp only [go_sem,↓reduceIte,Nat.reduceEqDiff]
      refine ⟨t.kids.length - (i + 1), by omega, i + 1, x.name, rfl, hH6, by omega, ?_, rfl⟩
      rw [hgo, hg.1, hg.2]
      rfl
  · simp only [decide_eq_false_iff_not] at h
    obtain rfl : i = t.kids.length := by omega
    refine VC_exit rfl ?_
    refine VR [4] rfl rfl fun K hK => ?_; simp only [go_sem,↓reduceIte,Nat.reduceEqDiff]
    ((repeat refine And.intro (by omega) ?_); refine hK _ _ ?_; clear hK)
    refine VC_ret (VX_ret1 rfl rfl ⟨hH.sub (List.nil_sublist _), ?_⟩)
    rw [hsp, hgo, List.drop_length]
    rfl

theorem tcheck_does (t : NT) (w : World) (hL : Lies w t) : Does Tryd.prog 11 #[nodeA t] w fun v w' => Heap w [] w' [] ∧ v = .int .i64 (checkS t) := by
  refine Does_enter (args := [nodeA t]) 16 Tryd.func11 rfl rfl (of_decide_eq_true rfl) ?_
  simp only [Env.ofArgs]
  refine VR [1] rfl rfl fun K hK => ?_; simp only [go_sem,↓reduceIte,Nat.reduceEqDiff]
  refine MemK_box ?_
  simp only [go_sem,↓reduceIte,Nat.reduceEqDiff]
  have hH := (Heap.start w).box 24 (nodeV t)
  generalize w.alloc (Obj.cells (nodeV t).toArray 24) = w1 at *
  generalize w.heap.size = g at *
  (refine hK _ _ ?_; clear hK)
  obtain ⟨c0, c1, c2, c3⟩ := node_cells (hH.at 0 rfl)
  have hLx := Lies.keep hH t hL
  refine VR [15] rfl rfl fun K hK => ?_; simp only [go_sem, ↓ex_hit c0, ↓ex_hit c1, ↓ex_reads (blk_reads (hH.at 0 rfl)) rfl,↓reduceIte,Nat.reduceEqDiff]
  suffices out : ∀ (b : Bool) (w' : World), Heap w [] w' [] → (b = true ↔ ¬ (t.dir = true ∧ t.name = [] ∧ rightS t 0 = true)) → K [(15, .bool b)] w' by
    have hH0 : Heap w [] w1 [] := hH.sub (List.nil_sublist _)
    cases hd : t.dir <;> (try simp only [go_sem,↓reduceIte,Nat.reduceEqDiff])
    · exact out _ _ hH0 (by simp [hd])
    · refine And.intro (fun h1 => ?_) (fun h1 => ?_)
      · simp only [Classical.not_not] at h1
        refine ⟨nodeV t, ⟨rfl, blk_reads (hH.at 0 rfl)⟩, ?_⟩
        (try simp only [go_sem,↓reduceIte,Nat.reduceEqDiff])
        refine MemK_callD Tryd.call22 (tright_does t 0 w1 (by omega) hLx) (by simp only [go_sem,↓reduceIte,Nat.reduceEqDiff] <;> rfl) ?_
        rintro v w2 ⟨hH2, rfl⟩
        (try simp only [go_sem,↓reduceIte,Nat.reduceEqDiff])
        refine out _ _ (hH0.call0 hH2) ?_
        simp [hd, h1]
      · refine out _ _ hH0 ?_
        simp [h1]
  intro b w2 hH2 hb
  (refine hK _ _ ?_; clear hK)
  refine VC_cond rfl rfl (fun h => ?_) (fun h => VC_skip ?_) -- t15
  · refine VR [2] rfl rfl fun K hK => ?_; simp only [go_sem,↓reduceIte,Nat.reduceEqDiff]
    ((repeat refine And.intro (by omega) ?_); refine hK _ _ ?_; clear hK)
    exact VC_ret (VX_ret1 rfl rfl ⟨hH2, by rw [checkS, if_neg (hb.1 h)]⟩)
  · have hg : t.dir = true ∧ t.name = [] ∧ rightS t 0 = true := Classical.byContradiction fun hh => by rw [hb.2 hh] at h; cases h
    refine VR [2] rfl rfl fun K hK => ?_; simp only [go_sem,↓reduceIte,Nat.reduceEqDiff]
    ((repeat refine And.intro (by omega) ?_); refine hK _ _ ?_; clear hK)
    exact VC_ret (VX_ret1 rfl rfl ⟨hH2, by rw [checkS, if_pos hg]⟩)
theorem rcheck_does (t : NT) (w : World) (hL : Lies w t) : Does Tryd.prog 12 #[nodeA t] w fun v w' => Heap w [] w' [] ∧ v = .int .i64 (checkS t) := by
  refine Does_enter (args := [nodeA t]) 16 Tryd.func12 rfl rfl (of_decide_eq_true rfl) ?_
  simp only [Env.ofArgs]
  refine VR [1] rfl rfl fun K hK => ?_; simp only [go_sem,↓reduceIte,Nat.reduceEqDiff]
  refine MemK_box ?_
  simp only [go_sem,↓reduceIte,Nat.reduceEqDiff]
  have hH := (Heap.start w).box 24 (nodeV t)
  generalize w.alloc (Obj.cells (nodeV t).toArray 24) = w1 at *
  generalize w.heap.size = g at *
  (refine hK _ _ ?_; clear hK)
  obtain ⟨c0, c1, c2, c3⟩ := node_cells (hH.at 0 rfl)
  have hLx := Lies.keep hH t hL
  refine VR [15] rfl rfl fun K hK => ?_; simp only [go_sem, ↓ex_hit c0, ↓ex_hit c1, ↓ex_reads (blk_reads (hH.at 0 rfl)) rfl,↓reduceIte,Nat.reduceEqDiff]
  suffices out : ∀ (b : Bool) (w' : World), Heap w [] w' [] → (b = true ↔ ¬ (t.dir = true ∧ t.name = [] ∧ rightS t 0 = true)) → K [(15, .bool b)] w' by
    have hH0 : Heap w [] w1 [] := hH.sub (List.nil_sublist _)
    cases hd : t.dir <;> (try simp only [go_sem,↓reduceIte,Nat.reduceEqDiff])
    · exact out _ _ hH0 (by simp [hd])
    · refine And.intro (fun h1 => ?_) (fun h1 => ?_)
      · simp only [Classical.not_not] at h1
        refine ⟨nodeV t, ⟨rfl, blk_reads (hH.at 0 rfl)⟩, ?_⟩
        (try simp only [go_sem,↓reduceIte,Nat.reduceEqDiff])
        refine MemK_callD Tryd.call23 (rright_does t 0 w1 (by omega) hLx) (by simp only [go_sem,↓reduceIte,Nat.reduceEqDiff] <;> rfl) ?_
        rintro v w2 ⟨hH2, rfl⟩
        (try simp only [go_sem,↓reduceIte,Nat.reduceEqDiff])
        refine out _ _ (hH0.call0 hH2) ?_
        simp [hd, h1]
      · refine out _ _ hH0 ?_
        simp [h1]
  intro b w2 hH2 hb
  (refine hK _ _ ?_; clear hK)
  refine VC_cond rfl rfl (fun h => ?_) (fun h => VC_skip ?_) -- t15
  · refine VR [2] rfl rfl fun K hK => ?_; simp only [go_sem,↓reduceIte,Nat.reduceEqDiff]
    ((repeat refine And.intro (by omega) ?_); refine hK _ _ ?_; clear hK)
    exact VC_ret (VX_ret1 rfl rfl ⟨hH2, by rw [checkS, if_neg (hb.1 h)]⟩)
  · have hg : t.dir = true ∧ t.name = [] ∧ rightS t 0 = true := Classical.byContradiction fun hh => by rw [hb.2 hh] at h; cases h
    refine VR [2] rfl rfl fun K hK => ?_; simp only [go_sem,↓reduceIte,Nat.reduceEqDiff]
    ((repeat refine And.intro (by omega) ?_); refine hK _ _ ?_; clear hK)
    exact VC_ret (VX_ret1 rfl rfl ⟨hH2, by rw [checkS, if_pos hg]⟩)
end Go.Proofs.YtklpiecolpnmlaaDoor
