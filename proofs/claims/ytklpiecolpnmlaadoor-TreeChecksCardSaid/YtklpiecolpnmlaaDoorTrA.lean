/- Trees: the law TreeChecks: the walk. -/
import Derived.Test.YtklpiecolpnmlaaDoorTr9
import Derived.Test.YtklpiecolpnmlaaDoorTr2
import Derived.Test.YtklpiecolpnmlaaDoorTrW
namespace Go.Proofs.YtklpiecolpnmlaaDoor
open Go Go.Eng
set_option maxRecDepth 100000
set_option maxHeartbeats 1000000
set_option linter.unusedSimpArgs false
set_option linter.unusedVariables false

theorem row_spot {T sz n cap : Nat} {a : Option Addr} {xs : List Value} {w : World} (h : (Res.row T sz a n cap xs).holds w) : ∀ p, a = some p → p.spot = none := by
  intro p hp
  obtain ⟨_, _, _, h | ⟨g, rest, fz, h, _⟩⟩ := h
  · rw [h.1] at hp; cases hp
  · rw [h] at hp; cases hp; rfl

theorem treeChecks_law (t : NT) (w : World) (hL : Lies w t) : Does Tryd.prog 3 #[nodeA t] w fun v w' => Heap w [] w' [] ∧ v = .bool true := by
  refine Does_enter (args := [nodeA t]) 39 Tryd.func3 rfl rfl (of_decide_eq_true rfl) ?_
  simp only [Env.ofArgs]
  refine VR [1] rfl rfl fun K hK => ?_; simp only [go_sem,↓reduceIte,Nat.reduceEqDiff]
  refine MemK_box ?_
  simp only [go_sem,↓reduceIte,Nat.reduceEqDiff]
  have hH := (Heap.start w).box 24 (nodeV t)
  generalize w.alloc (Obj.cells (nodeV t).toArray 24) = w1 at *
  generalize w.heap.size = g at *
  (refine hK _ _ ?_; clear hK)
  have hL1 := Lies.keep hH t hL
  refine VR [1, 9] rfl rfl fun K hK => ?_; simp only [go_sem,↓reduceIte,Nat.reduceEqDiff]
  refine ⟨nodeV t, ⟨rfl, blk_reads (hH.at 0 rfl)⟩, ?_⟩
  (try simp only [go_sem,↓reduceIte,Nat.reduceEqDiff])
  refine MemK_callD Tryd.call6 (size_does t 500 w1 (by omega) (by omega) hL1) (by simp only [go_sem,↓reduceIte,Nat.reduceEqDiff] <;> rfl) ?_
  rintro v w2 ⟨hHc, rfl⟩
  have hH2 : Heap w [] w2 [Res.blk g 24 (nodeV t)] := hH.call0 hHc
  clear hHc hH
  (try simp only [go_sem,↓reduceIte,Nat.reduceEqDiff])
  (refine hK _ _ ?_; clear hK)
  refine VC_cond rfl rfl (fun h => ?_) (fun h => VC_skip ?_) -- t9
  · refine VR [2] rfl rfl fun K hK => ?_; simp only [go_sem,↓reduceIte,Nat.reduceEqDiff]
    refine MemK_callD Tryd.call7 (awake28_does w2) (by simp only [go_sem,↓reduceIte,Nat.reduceEqDiff] <;> rfl) ?_
    rintro v w3 ⟨hHc, rfl⟩
    (try simp only [go_sem,↓reduceIte,Nat.reduceEqDiff])
    (refine hK _ _ ?_; clear hK)
    exact VC_ret (VX_ret1 rfl rfl ⟨(hH2.sub (List.nil_sublist _)).call0 hHc, rfl⟩) -- RET (2, t2)
  have hsz : sizeN t ≤ 500 := by simp at h; omega
  clear h
  have hL2 := Lies.keep hH2 t hL
  refine VR [1, 3, 4] rfl rfl fun K hK => ?_; simp only [go_sem,↓reduceIte,Nat.reduceEqDiff]
  refine ⟨nodeV t, ⟨rfl, blk_reads (hH2.at 0 rfl)⟩, ?_⟩
  (try simp only [go_sem,↓reduceIte,Nat.reduceEqDiff])
  refine MemK_callD Tryd.call8 (twalk_does t w2 hL2 hsz) (by simp only [go_sem,↓reduceIte,Nat.reduceEqDiff] <;> rfl) ?_
  rintro v w3 ⟨a3, c3, rfl, hHc⟩
  have hH3 := hH2.call0 hHc
  clear hHc hH2
  (try simp only [go_sem,↓reduceIte,Nat.reduceEqDiff])
  (refine hK _ _ ?_; clear hK)
  have hL3 := Lies.keep hH3 t hL
  refine VR [1, 3, 4, 5, 6] rfl rfl fun K hK => ?_; simp only [go_sem,↓reduceIte,Nat.reduceEqDiff]
  refine ⟨nodeV t, ⟨rfl, blk_reads (hH3.at 1 rfl)⟩, ?_⟩
  (try simp only [go_sem,↓reduceIte,Nat.reduceEqDiff])
  refine MemK_callD Tryd.call9 (rwalk_does t w3 hL3 hsz) (by simp only [go_sem,↓reduceIte,Nat.reduceEqDiff] <;> rfl) ?_
  rintro v w4 ⟨a4, c4, rfl, hHc⟩
  have hH4 := hH3.call0 hHc
  clear hHc hH3
  have hH4 : Heap w [] w4 [Res.row 38 2 a4 (walkS t).1.length c4 (ensV (walkS t).1), Res.row 38 2 a3 (walkS t).1.length c3 (ensV (walkS t).1), Res.blk g 24 (nodeV t)] := hH4
  (try simp only [go_sem,↓reduceIte,Nat.reduceEqDiff])
  (refine hK _ _ ?_; clear hK)
  have hL4 := Lies.keep hH4 t hL
  have hcnt : (walkS t).1.length ≤ 500 := by
    have := filesL_len t []
    unfold walkS
    split
    · split
      · simp; omega
      · simp
    · simp
  have hb : Reads w4 ⟨g, 0, none⟩ (nodeV t) := blk_reads (hH4.at 2 rfl)
  have hs := same_does (walkS t).1 a3 a4 c3 c4 w4 (row_rs (hH4.at 1 rfl)) (row_rs (hH4.at 0 rfl)) (row_spot (hH4.at 1 rfl)) (row_spot (hH4.at 0 rfl)) (by omega)
  generalize (walkS t).1.length = n at *
  generalize (walkS t).2 = er at *
  (repeat refine VC_seq ?_); refine VC_regionH _ (Ext.refl _) [2] [(0, true), (1, true), (2, false), (3, true), (4, true), (5, true), (6, true), (7, true), (8, true), (9, true), (11, true), (10, false), (12, false), (13, true), (14, true), (15, true), (16, false), (17, true), (18, true)] (by kernel_rfl) (by kernel_rfl) rfl (by simp only [planned, List.filterMap_cons, List.filterMap_nil, List.getElem?_cons_succ, List.getElem?_cons_zero, Option.map_some]; rfl) fun K hK => ?_; simp only [go_sem,↓reduceIte,Nat.reduceEqDiff]
  suffices out : ∀ w', Heap w4 [] w' [] → K [(2, .bool true)] w' by
    refine MemK_callD Tryd.call10 hs (by simp only [go_sem,↓reduceIte,Nat.reduceEqDiff] <;> rfl) ?_
    rintro v w5 ⟨rfl, rfl⟩
    refine ⟨Ext.refl _, ?_⟩
    (try simp only [go_sem,↓reduceIte,Nat.reduceEqDiff])
    refine And.intro (fun _ => ?_) (fun h => absurd trivial h)
    refine ⟨nodeV t, ⟨rfl, hb⟩, nodeV t, ⟨rfl, hb⟩, ?_⟩
    (try simp only [go_sem,↓reduceIte,Nat.reduceEqDiff])
    refine MemK_callD Tryd.call11 (tcheck_does t w5 hL4) (by simp only [go_sem,↓reduceIte,Nat.reduceEqDiff] <;> rfl) ?_
    rintro v w6 ⟨hH6, rfl⟩
    refine ⟨hH6.ext, ?_⟩
    (try simp only [go_sem,↓reduceIte,Nat.reduceEqDiff])
    refine MemK_callD Tryd.call12 (rcheck_does t w6 (Lies.keep hH6 t hL4)) (by simp only [go_sem,↓reduceIte,Nat.reduceEqDiff] <;> rfl) ?_
    rintro v w7 ⟨hH7, rfl⟩
    have hH8 := hH6.call0 hH7
    refine ⟨hH8.ext, ?_⟩
    (try simp only [go_sem,↓reduceIte,Nat.reduceEqDiff])
    refine And.intro (fun _ => ?_) (fun h => absurd trivial h)
    refine MemK_callD Tryd.call7 (awake28_does w7) (by simp only [go_sem,↓reduceIte,Nat.reduceEqDiff] <;> rfl) ?_
    rintro v w8 ⟨hH9, rfl⟩
    refine ⟨(hH8.call0 hH9).ext, ?_⟩
    (try simp only [go_sem,↓reduceIte,Nat.reduceEqDiff])
    exact out _ (hH8.call0 hH9)
  intro w5 hH5
  (refine hK _ _ ?_; clear hK)
  exact VC_ret (VX_ret1 rfl rfl ⟨(hH4.sub (List.nil_sublist _)).call0 hH5, rfl⟩) -- RET (2, t2)
end Go.Proofs.YtklpiecolpnmlaaDoor
