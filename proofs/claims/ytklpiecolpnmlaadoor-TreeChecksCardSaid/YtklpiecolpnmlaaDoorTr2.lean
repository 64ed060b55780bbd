/- Trees: Size: the walk. -/
import Derived.Test.YtklpiecolpnmlaaDoorTr1
namespace Go.Proofs.YtklpiecolpnmlaaDoor
open Go Go.Eng
set_option maxRecDepth 100000
set_option linter.unusedSimpArgs false
set_option linter.unusedVariables false

theorem size_does : ∀ (t : NT) (most : Int) (w : World), 0 ≤ most → most ≤ 500 → Lies w t →
    Does Tryd.prog 6 #[nodeA t, .int .i64 most] w fun v w' => Heap w [] w' [] ∧ v = .int .i64 (min (sizeN t) (most + 1)) := by
  refine NT.ind fun t ih => ?_
  intro most w hm0 hm hL
  rw [Lies_iff] at hL
  obtain ⟨hF, hRS, hKd⟩ := hL
  have hsz := sizeN_eq t
  refine Does_enter (args := [nodeA t, .int .i64 most]) 31 Tryd.func6 rfl rfl (of_decide_eq_true rfl) ?_
  simp only [Env.ofArgs]
  refine VR [1, 2] rfl rfl fun K hK => ?_; simp only [go_sem,↓reduceIte,Nat.reduceEqDiff]
  refine MemK_box ?_
  simp only [go_sem,↓reduceIte,Nat.reduceEqDiff]
  have hH := (Heap.start w).box 24 (nodeV t)
  generalize w.alloc (Obj.cells (nodeV t).toArray 24) = w1 at *
  generalize w.heap.size = g at *
  (refine hK _ _ ?_; clear hK)
  refine VR [1, 2, 5] rfl rfl fun K hK => ?_; simp only [go_sem,↓reduceIte,Nat.reduceEqDiff]
  ((repeat refine And.intro (by omega) ?_); refine hK _ _ ?_; clear hK)
  refine VR [1, 2, 5, 6] rfl rfl fun K hK => ?_; simp only [go_sem,↓reduceIte,Nat.reduceEqDiff]
  ((repeat refine And.intro (by omega) ?_); refine hK _ _ ?_; clear hK)
  ((repeat refine VC_seq ?_); refine VC_block ?_)
  refine VC_loopS [1, 2, 5, 6] (fun m e w' => ∃ (i : Nat), Is e [(1, .int .i64 most), (2, .pointer (some ⟨g, 0, none⟩)), (5, .int .i64 (min ((1 + sizeL (t.kids.take i) : Nat) : Int) (most + 1))), (6, .int .i64 i)] ∧ Heap w [] w' [Res.blk g 24 (nodeV t)] ∧ i ≤ t.kids.length ∧ m = t.kids.length - i) t.kids.length ?_ ?_ -- LOOP
  · simp only [go_sem,↓reduceIte,Nat.reduceEqDiff]
    exact ⟨0, by simp [Is, sizeL]; omega, hH, by omega, rfl⟩
  clear hH
  rintro m e w2 ⟨i, rfl, hH, hi, rfl⟩
  have c3 : w2.cell? ⟨g, 3, none⟩ = some (.slice t.place t.kids.length t.cap) := blk_cell (hH.at 0 rfl) rfl
  have hF3 := hF.2.2
  refine VR [1, 2, 5, 6, 16] rfl rfl fun K hK => ?_; simp only [go_sem,↓reduceIte,Nat.reduceEqDiff]
  suffices out : ∀ b : Bool, (b = true ↔ i < t.kids.length ∧ ((1 + sizeL (t.kids.take i) : Nat) : Int) ≤ most) → K [(1, .int .i64 most), (2, .pointer (some ⟨g, 0, none⟩)), (5, .int .i64 (min ((1 + sizeL (t.kids.take i) : Nat) : Int) (most + 1))), (6, .int .i64 i), (16, .bool b)] w2 by
    refine ⟨_, c3, ?_⟩
    (try simp only [go_sem,↓reduceIte,Nat.reduceEqDiff])
    (repeat' (first | exact out _ _ (by first | omega | (simp; done) | (simp; omega)) | exact out _ (by first | omega | (simp; done) | (simp; omega)) | refine ⟨fun _ => ?_, fun _ => ?_⟩ | refine And.intro (by omega) ?_))
  intro b hb
  (refine hK _ _ ?_; clear hK)
  refine VC_cond rfl rfl (fun h => ?_) (fun h => ?_) -- t16
  · obtain ⟨h1, h2⟩ := hb.1 h
    clear hb h
    refine VC_skip ?_
    ((repeat refine VC_seq ?_); refine VC_block ?_)
    obtain ⟨x, hx⟩ : ∃ x, t.kids[i]? = some x := ⟨_, List.getElem?_eq_getElem h1⟩
    have hxm : x ∈ t.kids := List.mem_of_getElem? hx
    cases hpl : t.place with
    | none => have := hRS.2.1 hpl; omega
    | some p =>
    rw [hpl] at hRS c3
    have hrd := rs_node (hH.rs' hRS) hx
    rw [show min ((1 + sizeL (t.kids.take i) : Nat) : Int) (most + 1) = ((1 + sizeL (t.kids.take i) : Nat) : Int) by omega]
    generalize hq : ((1 + sizeL (t.kids.take i) : Nat) : Int) = q at *
    refine VR [1, 2, 5, 6] rfl rfl fun K hK => ?_; simp only [go_sem,↓reduceIte,Nat.reduceEqDiff]
    refine ⟨_, c3, ?_⟩
    (try simp only [go_sem,↓reduceIte,Nat.reduceEqDiff])
    refine ⟨⟨by omega, by omega⟩, nodeV x, ⟨rfl, hrd⟩, ?_⟩
    (try simp only [go_sem,↓reduceIte,Nat.reduceEqDiff])
    refine ⟨I64.mk (by omega) (by omega), ?_⟩
    refine MemK_call Tryd.call6 ?_; simp only [go_sem,↓reduceIte,Nat.reduceEqDiff]; refine CallK.mk (ih x hxm (most - q) w2 (by omega) (by omega) (Lies.keep hH x (hKd x hxm))) ?_
    rintro v w3 ⟨hH2, rfl⟩
    have hH3 := hH.call0 hH2
    (try simp only [go_sem,↓reduceIte,Nat.reduceEqDiff])
    refine ⟨I64.mk (by omega) (by omega), ?_⟩
    (refine hK _ _ ?_; clear hK)
    refine VC_blk ?_
    refine VR [1, 2, 5, 6] rfl rfl fun K hK => ?_; simp only [go_sem,↓reduceIte,Nat.reduceEqDiff]
    ((repeat refine And.intro (by omega) ?_); refine hK _ _ ?_; clear hK)
    refine VC_again ?_
    simp only [go_sem,↓reduceIte,Nat.reduceEqDiff]
    refine ⟨t.kids.length - (i + 1), by omega, i + 1, ?_, hH3, by omega, rfl⟩
    rw [take_snoc hx, sizeL_append, show sizeL [x] = sizeN x by simp [sizeL]]
    have : q + min (sizeN x : Int) (most - q + 1) = min ((1 + (sizeL (t.kids.take i) + sizeN x) : Nat) : Int) (most + 1) := by omega
    rw [this]
    rfl
  · refine VC_exit rfl ?_
    refine VR [4] rfl rfl fun K hK => ?_; simp only [go_sem,↓reduceIte,Nat.reduceEqDiff]
    ((repeat refine And.intro (by omega) ?_); refine hK _ _ ?_; clear hK)
    refine VC_ret (VX_ret1 rfl rfl ⟨hH.sub (List.nil_sublist _), ?_⟩) -- RET (4, t4)
    have hg : ¬ (i < t.kids.length ∧ ((1 + sizeL (t.kids.take i) : Nat) : Int) ≤ most) := fun hh => by rw [hb.2 hh] at h; cases h
    have h4 := sizeL_take t.kids i
    rw [hsz]
    by_cases h5 : i < t.kids.length
    · rw [show min ((1 + sizeL (t.kids.take i) : Nat) : Int) (most + 1) = min ((1 + sizeL t.kids : Nat) : Int) (most + 1) by omega]
    · rw [show t.kids.take i = t.kids from List.take_of_length_le (by omega)]
end Go.Proofs.YtklpiecolpnmlaaDoor
