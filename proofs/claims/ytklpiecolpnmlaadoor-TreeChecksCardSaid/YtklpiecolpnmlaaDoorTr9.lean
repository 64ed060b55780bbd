/- Trees: the reference's Walk, and rows of files compared: the walk. -/
import Derived.Test.YtklpiecolpnmlaaDoorTr8
import Derived.Laws.StructEq
namespace Go.Proofs.YtklpiecolpnmlaaDoor
open Go Go.Eng
set_option maxRecDepth 100000
set_option maxHeartbeats 1000000
set_option linter.unusedSimpArgs false
set_option linter.unusedVariables false

theorem rwalk_does (t : NT) (w : World) (hL : Lies w t) (hsz : sizeN t ≤ 500) : Does Tryd.prog 9 #[nodeA t] w fun v w' =>
    ∃ a c, v = .tuple #[.slice a (walkS t).1.length c, .int .i64 (walkS t).2] ∧ Heap w [] w' [Res.row 38 2 a (walkS t).1.length c (ensV (walkS t).1)] := by
  refine Does_enter (args := [nodeA t]) 25 Tryd.func9 rfl rfl (of_decide_eq_true rfl) ?_
  simp only [Env.ofArgs]
  refine VR [1] rfl rfl fun K hK => ?_; simp only [go_sem,↓reduceIte,Nat.reduceEqDiff]
  refine MemK_box ?_
  simp only [go_sem,↓reduceIte,Nat.reduceEqDiff]
  have hH := (Heap.start w).box 24 (nodeV t)
  generalize w.alloc (Obj.cells (nodeV t).toArray 24) = w1 at *
  generalize w.heap.size = g at *
  (refine hK _ _ ?_; clear hK)
  have hL1 := Lies.keep hH t hL
  have nil : ∀ {w' : World}, Heap w [] w' [] → Heap w [] w' [Res.row 38 2 none 0 0 (ensV [])] := fun h => h.nilRow 38 2
  refine VR [1, 8] rfl rfl fun K hK => ?_; simp only [go_sem,↓reduceIte,Nat.reduceEqDiff]
  refine ⟨nodeV t, ⟨rfl, blk_reads (hH.at 0 rfl)⟩, ?_⟩
  (try simp only [go_sem,↓reduceIte,Nat.reduceEqDiff])
  refine MemK_callD Tryd.call12 (rcheck_does t w1 hL1) (by simp only [go_sem,↓reduceIte,Nat.reduceEqDiff] <;> rfl) ?_
  rintro v w2 ⟨hHc, rfl⟩
  have hH2 := hH.call0 hHc
  have hH2 : Heap w [] w2 [Res.blk g 24 (nodeV t)] := hH2
  clear hHc hH
  (try simp only [go_sem,↓reduceIte,Nat.reduceEqDiff])
  (refine hK _ _ ?_; clear hK)
  refine VC_cond rfl rfl (fun h => ?_) (fun h => VC_skip ?_) -- t8
  · have hw : walkS t = ([], 280) := by
      rw [walkS, if_neg (by simpa using h)]
    rw [hw]
    refine VR [2, 3] rfl rfl fun K hK => ?_; simp only [go_sem,↓reduceIte,Nat.reduceEqDiff]
    ((repeat refine And.intro (by omega) ?_); refine hK _ _ ?_; clear hK)
    exact VC_ret (VX_ret2 rfl rfl rfl ⟨none, 0, rfl, nil (hH2.sub (List.nil_sublist _))⟩) -- RET (2, t2), (3, t3)
  have hc : checkS t = 0 := by simpa using h
  clear h
  have hL2 := Lies.keep hH2 t hL
  have hfl := filesL_len t []
  have hcall := rfiles_does t [] none 0 w2 hL2 ⟨rfl, fun _ => rfl, fun ad h => by cases h⟩ hsz (by simp; omega) (by simp [aheadOf]; omega)
  refine VR [4] rfl rfl fun K hK => ?_; simp only [go_sem,↓reduceIte,Nat.reduceEqDiff]
  refine ⟨nodeV t, ⟨rfl, blk_reads (hH2.at 0 rfl)⟩, ?_⟩
  (try simp only [go_sem,↓reduceIte,Nat.reduceEqDiff])
  refine MemK_callD Tryd.call21 hcall (by simp only [go_sem,↓reduceIte,Nat.reduceEqDiff] <;> rfl) ?_
  rintro v w3 ⟨a, c, rfl, hHf⟩
  have hH3 := hH2.call0 hHf
  rw [show aheadOf [] = [] from rfl] at hH3 ⊢
  clear hHf hH2
  (try simp only [go_sem,↓reduceIte,Nat.reduceEqDiff])
  (refine hK _ _ ?_; clear hK)
  refine VR [4, 5] rfl rfl fun K hK => ?_; simp only [go_sem,↓reduceIte,Nat.reduceEqDiff]
  ((repeat refine And.intro (by omega) ?_); refine hK _ _ ?_; clear hK)
  ((repeat refine VC_seq ?_); refine VC_block ?_)
  refine VC_loopS [4, 5] (fun m e w' => ∃ (i : Nat), Is e [(4, .slice a (filesS t []).length c), (5, .int .i64 i)] ∧ Is w' w3 ∧ i ≤ (filesS t []).length ∧ (∀ j x, j < i → (filesS t [])[j]? = some x → x.1.length ≤ 120) ∧ m = (filesS t []).length - i) (filesS t []).length ?_ ?_ -- LOOP
  · simp only [go_sem,↓reduceIte,Nat.reduceEqDiff]
    exact ⟨0, rfl, rfl, by omega, fun j x h => by omega, rfl⟩
  rintro m e w' ⟨i, rfl, rfl, hi, hall, rfl⟩
  refine VR [4, 5, 14] rfl rfl fun K hK => ?_; simp only [go_sem,↓reduceIte,Nat.reduceEqDiff]
  ((repeat refine And.intro (by omega) ?_); refine hK _ _ ?_; clear hK)
  refine VC_cond rfl rfl (fun h => ?_) (fun h => ?_) -- t14
  · simp only [decide_eq_true_eq] at h
    have h1 : i < (filesS t []).length := by omega
    refine VC_skip ?_
    ((repeat refine VC_seq ?_); refine VC_block ?_)
    obtain ⟨x, hx⟩ : ∃ x, (filesS t [])[i]? = some x := ⟨_, List.getElem?_eq_getElem h1⟩
    obtain ⟨gf, rfl⟩ := row_pos (hH3.at 0 rfl) (by omega)
    have cx : w'.cell? ⟨gf, i * 2, none⟩ = some (Str x.1) := row_cell (hH3.at 0 rfl) (rowsV_get (k := 2) enV_len _ i x hx 0 _ rfl)
    refine VR [4, 5, 23] rfl rfl fun K hK => ?_; simp only [go_sem,↓reduceIte,Nat.reduceEqDiff]
    refine ⟨⟨by omega, by omega⟩, ?_⟩
    (try simp only [go_sem,↓reduceIte,Nat.reduceEqDiff])
    refine ⟨_, cx, ?_⟩
    (try simp only [go_sem,↓reduceIte,Nat.reduceEqDiff])
    (refine hK _ _ ?_; clear hK)
    refine VC_cond rfl rfl (fun h => ?_) (fun h => VC_skip ?_) -- t23
    · have hw : walkS t = ([], 140) := by
        rw [walkS, if_pos hc, if_neg]
        intro hh
        rw [List.all_eq_true] at hh
        have := hh x (List.mem_of_getElem? hx)
        simp at this h
        omega
      rw [hw]
      refine VR [2, 3] rfl rfl fun K hK => ?_; simp only [go_sem,↓reduceIte,Nat.reduceEqDiff]
      ((repeat refine And.intro (by omega) ?_); refine hK _ _ ?_; clear hK)
      exact VC_ret (VX_ret2 rfl rfl rfl ⟨none, 0, rfl, nil (hH3.sub (List.nil_sublist _))⟩) -- RET (2, t2), (3, t3)
    have hsh : x.1.length ≤ 120 := by simp at h; omega
    refine VC_blk ?_
    refine VR [4, 5] rfl rfl fun K hK => ?_; simp only [go_sem,↓reduceIte,Nat.reduceEqDiff]
    ((repeat refine And.intro (by omega) ?_); refine hK _ _ ?_; clear hK)
    refine VC_again ?_
    simp only [go_sem,↓reduceIte,Nat.reduceEqDiff]
    refine ⟨(filesS t []).length - (i + 1), by omega, i + 1, rfl, rfl, by omega, fun j y hj hy => ?_, rfl⟩
    by_cases hji : j = i
    · subst hji
      rw [hx] at hy
      cases hy
      exact hsh
    · exact hall j y (by omega) hy
  · simp only [decide_eq_false_iff_not] at h
    obtain rfl : i = (filesS t []).length := by omega
    have hw : walkS t = (filesS t [], 0) := by
      rw [walkS, if_pos hc, if_pos]
      rw [List.all_eq_true]
      intro y hy
      obtain ⟨j, hj⟩ := List.getElem?_of_mem hy
      have := hall j y (List.getElem?_eq_some_iff.1 hj).1 hj
      simpa using this
    rw [hw]
    refine VC_exit rfl ?_
    refine VR [2, 3] rfl rfl fun K hK => ?_; simp only [go_sem,↓reduceIte,Nat.reduceEqDiff]
    ((repeat refine And.intro (by omega) ?_); refine hK _ _ ?_; clear hK)
    exact VC_ret (VX_ret2 rfl rfl rfl ⟨a, c, rfl, hH3.sub (.cons_cons _ (List.nil_sublist _))⟩) -- RET (2, t2), (3, t3)

theorem neq_en (a : En) (xo yo : Operand) (w : World) (KV : Value → Prop) : vBinO Tryd.prog .neq 38 xo yo (enA a) (enA a) w KV = KV (.bool false) := by
  refine EqR_of fun w' => ?_
  have hS : Tryd.prog.underlying 38 = some (.struct (Tryd.prog.fieldsOf 38)) := by kernel_rfl
  have hp : Tryd.prog.stoodInHeld 38 = false := by kernel_rfl
  have hg : Tryd.prog.eqGuardType Tryd.prog.depth 38 = false := by kernel_rfl
  simp only [Sem.run_bind]
  rw [run_eqGuard_agg _ _ _ _ _ _ _ hg]
  simp only [Result.andThen_ok]
  rw [run_neq_struct, show (10000 : Nat) = 9999 + 1 from rfl, run_equalIn_agg w' 9999 38 _ _ hS hp]
  simp only [Program.fieldsOf, Tryd.underlying38]
  have u3 := Tryd.underlying9
  have a3 := Tryd.isAgg9
  have z3 := Tryd.sizeOf9
  simp only [enV]
  go_simp
theorem rs_en {w : World} {p : Addr} {n : Nat} {l : List En} (h : RS w (some p) n 2 (ensV l)) (hs : p.spot = none) {i : Nat} {x : En} (hx : l[i]? = some x) : Reads w (p.add (i * 2)) (enV x) :=
  rowsV_reads (k := 2) enV_len h hs hx
theorem rs_pos {w : World} {a : Option Addr} {n sz : Nat} {xs : List Value} (h : RS w a n sz xs) (hn : 0 < n) : ∃ p, a = some p := by
  cases a with
  | none => have := h.2.1 rfl; omega
  | some p => exact ⟨p, rfl⟩

theorem same_does (l : List En) (a b : Option Addr) (c c' : Nat) (w : World) (hl : RS w a l.length 2 (ensV l)) (hl2 : RS w b l.length 2 (ensV l)) (hs1 : ∀ p, a = some p → p.spot = none) (hs2 : ∀ p, b = some p → p.spot = none) (hlen : l.length ≤ 1000000) :
    Does Tryd.prog 10 #[.slice a l.length c, .slice b l.length c'] w fun v w' => w' = w ∧ v = .bool true := by
  refine Does_enter (args := [.slice a l.length c, .slice b l.length c']) 26 Tryd.func10 rfl rfl (of_decide_eq_true rfl) ?_
  simp only [Env.ofArgs]
  refine VR [0, 1] rfl rfl fun K hK => ?_; simp only [go_sem,↓reduceIte,Nat.reduceEqDiff]
  ((repeat refine And.intro (by omega) ?_); refine hK _ _ ?_; clear hK)
  refine VR [0, 1, 10] rfl rfl fun K hK => ?_; simp only [go_sem,↓reduceIte,Nat.reduceEqDiff]
  ((repeat refine And.intro (by omega) ?_); refine hK _ _ ?_; clear hK)
  refine VC_cond rfl rfl (fun h => by simp at h) (fun h => VC_skip ?_) -- t10
  clear h
  refine VR [0, 1, 5] rfl rfl fun K hK => ?_; simp only [go_sem,↓reduceIte,Nat.reduceEqDiff]
  ((repeat refine And.intro (by omega) ?_); refine hK _ _ ?_; clear hK)
  ((repeat refine VC_seq ?_); refine VC_block ?_)
  refine VC_loopS [0, 1, 5] (fun m e w' => ∃ (i : Nat), Is e [(0, .slice a l.length c), (1, .slice b l.length c'), (5, .int .i64 i)] ∧ Is w' w ∧ i ≤ l.length ∧ m = l.length - i) l.length ?_ ?_ -- LOOP
  · simp only [go_sem,↓reduceIte,Nat.reduceEqDiff]
    exact ⟨0, rfl, rfl, by omega, rfl⟩
  rintro m e w3 ⟨i, rfl, rfl, hi, rfl⟩
  refine VR [0, 1, 5, 14] rfl rfl fun K hK => ?_; simp only [go_sem,↓reduceIte,Nat.reduceEqDiff]
  ((repeat refine And.intro (by omega) ?_); refine hK _ _ ?_; clear hK)
  refine VC_cond rfl rfl (fun h => ?_) (fun h => ?_) -- t14
  · simp only [decide_eq_true_eq] at h
    refine VC_skip ?_
    ((repeat refine VC_seq ?_); refine VC_block ?_)
    have hi' : i < l.length := by omega
    obtain ⟨x, hx⟩ : ∃ x, l[i]? = some x := ⟨_, List.getElem?_eq_getElem hi'⟩
    obtain ⟨p, rfl⟩ := rs_pos hl (by omega)
    obtain ⟨q, rfl⟩ := rs_pos hl2 (by omega)
    have hr1 := rs_en hl (hs1 p rfl) hx
    have hr2 := rs_en hl2 (hs2 q rfl) hx
    (repeat refine VC_seq ?_); refine VC_regionQ [0, 1, 5, 25] (by kernel_rfl) (by kernel_rfl) rfl fun K hK => ?_; simp only [go_sem,↓reduceIte,Nat.reduceEqDiff]
    refine ⟨⟨by omega, by omega⟩, enV x, ⟨rfl, hr1⟩, ⟨by omega, by omega⟩, enV x, ⟨rfl, hr2⟩, ?_⟩
    rw [neq_en]
    (refine hK _ ?_; clear hK)
    refine VC_cond rfl rfl (fun h => by simp at h) (fun h => VC_skip ?_) -- t25
    clear h
    refine VC_blk ?_
    refine VR [0, 1, 5] rfl rfl fun K hK => ?_; simp only [go_sem,↓reduceIte,Nat.reduceEqDiff]
    ((repeat refine And.intro (by omega) ?_); refine hK _ _ ?_; clear hK)
    refine VC_again ?_
    simp only [go_sem,↓reduceIte,Nat.reduceEqDiff]
    exact ⟨l.length - (i + 1), by omega, i + 1, rfl, rfl, by omega, rfl⟩
  · simp only [decide_eq_false_iff_not] at h
    obtain rfl : i = l.length := by omega
    refine VC_exit rfl ?_
    refine VR [4] rfl rfl fun K hK => ?_; simp only [go_sem,↓reduceIte,Nat.reduceEqDiff]
    ((repeat refine And.intro (by omega) ?_); refine hK _ _ ?_; clear hK)
    exact VC_ret (VX_ret1 rfl rfl ⟨rfl, rfl⟩)
end Go.Proofs.YtklpiecolpnmlaaDoor
