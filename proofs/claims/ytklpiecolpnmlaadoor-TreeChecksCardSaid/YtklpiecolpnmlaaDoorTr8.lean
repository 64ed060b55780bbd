/- Trees: the reference's files: the walk. -/
import Derived.Test.YtklpiecolpnmlaaDoorTr7
namespace Go.Proofs.YtklpiecolpnmlaaDoor
open Go Go.Eng
set_option maxRecDepth 100000
set_option maxHeartbeats 1000000
set_option linter.unusedSimpArgs false
set_option linter.unusedVariables false

def strsV (l : List (List UInt8)) : List Value := l.map Str
theorem strsV_len (l : List (List UInt8)) : (strsV l).length = l.length * 1 := by simp [strsV]
theorem strsV_one (l : List (List UInt8)) : ∀ v ∈ strsV l, v.oneCell' = true := by
  intro v hv
  obtain ⟨s, _, rfl⟩ := List.mem_map.1 hv
  rfl
theorem strsV_get {l : List (List UInt8)} {i : Nat} {s : List UInt8} (h : l[i]? = some s) : (strsV l)[i]? = some (Str s) := by simp [strsV, h]
theorem strsV_append (l m : List (List UInt8)) : strsV (l ++ m) = strsV l ++ strsV m := by simp [strsV]
/-- What stands ahead of a name. -/
def aheadOf (way : List (List UInt8)) : List UInt8 := way.flatMap fun s => s ++ [47]
theorem aheadOf_append (l m : List (List UInt8)) : aheadOf (l ++ m) = aheadOf l ++ aheadOf m := by simp [aheadOf]
theorem aheadOf_one (s : List UInt8) : aheadOf [s] = s ++ [47] := by simp [aheadOf]
theorem aheadOf_take (l : List (List UInt8)) (i : Nat) : (aheadOf (l.take i)).length ≤ (aheadOf l).length := by
  have := aheadOf_append (l.take i) (l.drop i)
  rw [List.take_append_drop] at this
  rw [this, List.length_append]
  omega
theorem aheadOf_mem {l : List (List UInt8)} {i : Nat} {s : List UInt8} (h : l[i]? = some s) : (aheadOf (l.take i)).length + s.length + 1 ≤ (aheadOf l).length := by
  have h1 := aheadOf_take l (i + 1)
  rw [take_snoc h, aheadOf_append, aheadOf_one] at h1
  simp at h1
  omega

theorem rfiles_does : ∀ (t : NT) (way : List (List UInt8)) (a : Option Addr) (c : Nat) (w : World), Lies w t → RS w a way.length 1 (strsV way) → sizeN t ≤ 500 → way.length + sizeN t ≤ 1000 →
    (aheadOf way).length + sizeN t * 140737488355329 ≤ 4611686018427387904 →
    Does Tryd.prog 21 #[nodeA t, .slice a way.length c] w fun v w' =>
      ∃ a' c', v = .slice a' (filesS t (aheadOf way)).length c' ∧ Heap w [] w' [Res.row 38 2 a' (filesS t (aheadOf way)).length c' (ensV (filesS t (aheadOf way)))] := by
  refine NT.ind fun t ih => ?_
  intro way a c w hL hway hsz hwl hlen
  rw [Lies_iff] at hL
  obtain ⟨hF, hRS, hKd⟩ := hL
  have hF3 := hF.2.2
  have hfl := filesL_len t (aheadOf way)
  rw [sizeN_eq] at hlen hsz hwl hfl
  refine Does_enter (args := [nodeA t, .slice a way.length c]) 61 Tryd.func21 rfl rfl (of_decide_eq_true rfl) ?_
  simp only [Env.ofArgs]
  refine VR [1, 2] rfl rfl fun K hK => ?_; simp only [go_sem,↓reduceIte,Nat.reduceEqDiff]
  refine MemK_box ?_
  simp only [go_sem,↓reduceIte,Nat.reduceEqDiff]
  have hH := (Heap.start w).box 24 (nodeV t)
  generalize w.alloc (Obj.cells (nodeV t).toArray 24) = w1 at *
  generalize w.heap.size = g at *
  have hHn := hH.nilRow 38 2
  clear hH
  (refine hK _ _ ?_; clear hK)
  refine VR [1, 2, 5] rfl rfl fun K hK => ?_; simp only [go_sem,↓reduceIte,Nat.reduceEqDiff]
  ((repeat refine And.intro (by omega) ?_); refine hK _ _ ?_; clear hK)
  refine VR [1, 2, 5, 6] rfl rfl fun K hK => ?_; simp only [go_sem,↓reduceIte,Nat.reduceEqDiff]
  ((repeat refine And.intro (by omega) ?_); refine hK _ _ ?_; clear hK)
  ((repeat refine VC_seq ?_); refine VC_block ?_)
  refine VC_loopS [1, 2, 5, 6] (fun m e w' => ∃ (i : Nat) (done : List En) (a5 : Option Addr) (c5 : Nat), Is e [(1, .slice a way.length c), (2, ptV g), (5, .slice a5 done.length c5), (6, .int .i64 i)] ∧
      Heap w [] w' [Res.row 38 2 a5 done.length c5 (ensV done), Res.blk g 24 (nodeV t)] ∧ done ++ filesL (t.kids.drop i) (aheadOf way) = filesS t (aheadOf way) ∧ i ≤ t.kids.length ∧ m = t.kids.length - i) t.kids.length ?_ ?_ -- LOOP
  · simp only [go_sem,↓reduceIte,Nat.reduceEqDiff]
    exact ⟨0, [], none, 0, rfl, hHn, by rw [filesS_eq]; rfl, by omega, rfl⟩
  clear hHn w1
  rintro m e w2 ⟨i, done, a5, c5, rfl, hH, hgo, hi, rfl⟩
  have c3 : w2.cell? ⟨g, 2 + 1, none⟩ = some (.slice t.place t.kids.length t.cap) := blk_cell (hH.at 1 rfl) rfl
  refine VR [1, 2, 5, 6, 15] rfl rfl fun K hK => ?_; simp only [go_sem, ↓ex_hit c3,↓reduceIte,Nat.reduceEqDiff]
  ((repeat refine And.intro (by omega) ?_); refine hK _ _ ?_; clear hK)
  refine VC_cond rfl rfl (fun h => ?_) (fun h => ?_) -- t15
  · simp only [decide_eq_true_eq] at h
    have h1 : i < t.kids.length := by omega
    refine VC_skip ?_
    ((repeat refine VC_seq ?_); refine VC_block ?_)
    obtain ⟨x, hx⟩ : ∃ x, t.kids[i]? = some x := ⟨_, List.getElem?_eq_getElem h1⟩
    have hxm : x ∈ t.kids := List.mem_of_getElem? hx
    have hdr : t.kids.drop i = x :: t.kids.drop (i + 1) := by
      rw [List.drop_eq_getElem_cons h1]; congr 1
      rw [List.getElem?_eq_getElem h1] at hx; exact Option.some.inj hx
    rw [hdr, filesL] at hgo
    have hxL := hKd x hxm
    have hxF : x.Fits := ((Lies_iff _ _).1 hxL).1
    have hxF1 := hxF.1
    cases hpl : t.place with
    | none => have := hRS.2.1 hpl; omega
    | some p =>
    rw [hpl] at hRS c3
    have hrd := rs_node (hH.rs' hRS) hx
    have hszx : sizeN x ≤ sizeL t.kids := by
      have := sizeL_take t.kids (i + 1)
      rw [take_snoc hx, sizeL_append] at this
      simp only [sizeL] at this
      omega
    have hdone : done.length + (if x.dir then filesS x (aheadOf way ++ x.name ++ [47]) else [(aheadOf way ++ x.name, x.data)]).length ≤ 500 := by
      have := congrArg List.length hgo
      simp only [List.length_append] at this
      omega
    refine VR [1, 2, 5, 6, 7] rfl rfl fun K hK => ?_; simp only [go_sem,↓reduceIte,Nat.reduceEqDiff]
    refine ⟨_, c3, ?_⟩
    (try simp only [go_sem,↓reduceIte,Nat.reduceEqDiff])
    refine ⟨⟨by omega, by omega⟩, nodeV x, ⟨rfl, hrd⟩, ?_⟩
    (try simp only [go_sem,↓reduceIte,Nat.reduceEqDiff])
    refine MemK_alloc (.agg #[.string ⟨#[]⟩, .bool false, .string ⟨#[]⟩, .slice none 0 0]) (by kernel_rfl) ?_
    simp only [go_sem,↓reduceIte,Nat.reduceEqDiff]
    have hH1 := hH.box 24 [.string ⟨#[]⟩, .bool false, .string ⟨#[]⟩, .slice none 0 0]
    generalize w2.alloc (Obj.cells [Value.string ⟨#[]⟩, .bool false, .string ⟨#[]⟩, .slice none 0 0].toArray 24) = w3 at *
    generalize w2.heap.size = gb at *
    refine MemK_store ?_
    simp only [go_sem,↓reduceIte,Nat.reduceEqDiff]
    refine StoreK_blk hH1 0 (vs := nodeV x) rfl rfl (by kernel_rfl) (by simp [nodeV]) (nodeV_one x) fun w4 hH2 => ?_
    have hH2 : Heap w [] w4 [Res.blk gb 24 (nodeV x), Res.row 38 2 a5 done.length c5 (ensV done), Res.blk g 24 (nodeV t)] := hH2
    clear hH1 hH
    (try simp only [go_sem,↓reduceIte,Nat.reduceEqDiff])
    (refine hK _ _ ?_; clear hK)
    obtain ⟨d0, d1, d2, d3⟩ := node_cells (hH2.at 0 rfl)
    have hw4 := hH2.rs' hway
    (repeat refine VC_seq ?_); refine VC_regionT w4 (Ext.refl _) [1, 2, 5, 6, 7, 8] (.two [(1, true), (3, true), (4, true)] 0 5 (.two [] 2 5 (.seq [(5, false), (6, false), (7, true)]) (.seq [(2, false), (6, false), (7, true)])) (.seq [(0, false), (2, false), (6, false), (7, true)])) (by kernel_rfl) (by kernel_rfl) rfl fun K hK => ?_
    suffices out : ∀ (a8 : Option Addr) (c8 : Nat) (w' : World) (G : List Res), Heap w4 [] w' (Res.row 9 1 a8 (way ++ [x.name]).length c8 (strsV (way ++ [x.name])) :: G) → K [(1, .slice a way.length c), (2, ptV g), (5, .slice a5 done.length c5), (6, .int .i64 i), (7, ptV gb), (8, .slice a8 (way ++ [x.name]).length c8)] w' by
      have out2 : ∀ (a8 : Option Addr) (c8 : Nat) (w' : World) (G : List Res), Heap w4 [] w' (Res.row 9 1 a8 (way.length + 1) c8 (strsV way ++ strsV [x.name]) :: G) → K [(1, .slice a way.length c), (2, ptV g), (5, .slice a5 done.length c5), (6, .int .i64 i), (7, ptV gb), (8, .slice a8 (way.length + 1) c8)] w' := by
        intro a8 c8 w' G hh
        rw [← strsV_append] at hh
        have := out a8 c8 w' G (by rw [List.length_append]; exact hh)
        rw [List.length_append] at this
        exact this
      have hf := Heap.start w4
      simp only [vcT, planned, List.filterMap_cons, List.filterMap_nil, List.getElem?_cons_succ, List.getElem?_cons_zero, Option.map_some]; simp only [go_sem,↓reduceIte,Nat.reduceEqDiff]
      refine ⟨_, d0, ?_⟩
      (try simp only [go_sem,↓reduceIte,Nat.reduceEqDiff])
      (try simp only [vcH_nil2])
      (try simp only [go_sem,↓reduceIte,Nat.reduceEqDiff])
      refine And.intro ?_ ?_
      · refine MemK_lits hf [] (xs := []) Tryd.underlying60 sz9 rfl rfl rfl (by omega) ?_; simp only [go_sem,↓reduceIte,Nat.reduceEqDiff]; refine ⟨trivial, by simp [Value.cells], fun g wz hf => ?_⟩; (try simp only [go_sem,↓reduceIte,Nat.reduceEqDiff]); refine ⟨hf.ext, ?_⟩; (try simp only [vcH_nil2]); (try simp only [go_sem,↓reduceIte,Nat.reduceEqDiff])
        refine And.intro ?_ ?_
        · refine MemK_append ?_; simp only [go_sem,↓reduceIte,Nat.reduceEqDiff]; refine AppK_row (zs := #[.string ⟨#[]⟩]) (bytes := 16) (m := way.length) (news := strsV way) hf 0 rfl Tryd.underlying60 (by kernel_rfl) rfl ⟨rfl, hf.rs' hw4, 9, Tryd.underlying60⟩ (strsV_one way) (fun h => by omega) fun aa ca wa hca hf => ?_; simp only [List.set_cons_succ, List.set_cons_zero, List.nil_append, Nat.zero_add] at hf; rw [Nat.zero_add]; refine ⟨hf.ext, ?_⟩; (try simp only [vcH_nil2]); (try simp only [go_sem,↓reduceIte,Nat.reduceEqDiff])
          refine MemK_lits hf (strsV [x.name]) (xs := [.tmp 27]) Tryd.underlying60 sz9 rfl rfl rfl (by omega) ?_; simp only [go_sem,↓reduceIte,Nat.reduceEqDiff]; refine ⟨rfl, by simp [Value.cells], fun g w4 hf => ?_⟩; (try simp only [go_sem,↓reduceIte,Nat.reduceEqDiff]); refine ⟨hf.ext, ?_⟩; (try simp only [vcH_nil2]); (try simp only [go_sem,↓reduceIte,Nat.reduceEqDiff])
          refine MemK_append ?_; simp only [go_sem,↓reduceIte,Nat.reduceEqDiff]; refine AppK_row (zs := #[.string ⟨#[]⟩]) (bytes := 16) hf 1 rfl Tryd.underlying60 (by kernel_rfl) rfl ⟨rfl, row_rs (hf.at 0 rfl), 9, Tryd.underlying60⟩ (strsV_one [x.name]) (fun h => by omega) fun a8 c8 wb hcb hf => ?_; simp only [List.set_cons_succ, List.set_cons_zero] at hf; refine ⟨hf.ext, ?_⟩; (try simp only [vcH_nil2]); (try simp only [go_sem,↓reduceIte,Nat.reduceEqDiff])
          exact out2 _ _ _ _ (hf.front 1 rfl)
        · refine MemK_lits hf (strsV [x.name]) (xs := [.tmp 27]) Tryd.underlying60 sz9 rfl rfl rfl (by omega) ?_; simp only [go_sem,↓reduceIte,Nat.reduceEqDiff]; refine ⟨rfl, by simp [Value.cells], fun g w4 hf => ?_⟩; (try simp only [go_sem,↓reduceIte,Nat.reduceEqDiff]); refine ⟨hf.ext, ?_⟩; (try simp only [vcH_nil2]); (try simp only [go_sem,↓reduceIte,Nat.reduceEqDiff])
          refine MemK_append ?_; simp only [go_sem,↓reduceIte,Nat.reduceEqDiff]; refine AppK_row (zs := #[.string ⟨#[]⟩]) (bytes := 16) (m := way.length) (news := strsV way) hf 1 rfl Tryd.underlying60 (by kernel_rfl) rfl ⟨rfl, hf.rs' hw4, 9, Tryd.underlying60⟩ (strsV_one way) (fun h => by omega) fun aa ca wa hca hf => ?_; simp only [List.set_cons_succ, List.set_cons_zero, List.nil_append, Nat.zero_add] at hf; rw [Nat.zero_add]; refine ⟨hf.ext, ?_⟩; (try simp only [vcH_nil2]); (try simp only [go_sem,↓reduceIte,Nat.reduceEqDiff])
          refine MemK_append ?_; simp only [go_sem,↓reduceIte,Nat.reduceEqDiff]; refine AppK_row (zs := #[.string ⟨#[]⟩]) (bytes := 16) hf 1 rfl Tryd.underlying60 (by kernel_rfl) rfl ⟨rfl, row_rs (hf.at 0 rfl), 9, Tryd.underlying60⟩ (strsV_one [x.name]) (fun h => by omega) fun a8 c8 wb hcb hf => ?_; simp only [List.set_cons_succ, List.set_cons_zero] at hf; refine ⟨hf.ext, ?_⟩; (try simp only [vcH_nil2]); (try simp only [go_sem,↓reduceIte,Nat.reduceEqDiff])
          exact out2 _ _ _ _ (hf.front 1 rfl)
      · refine MemK_lits hf (strsV [x.name]) (xs := [.tmp 27]) Tryd.underlying60 sz9 rfl rfl rfl (by omega) ?_; simp only [go_sem,↓reduceIte,Nat.reduceEqDiff]; refine ⟨rfl, by simp [Value.cells], fun g w4 hf => ?_⟩; (try simp only [go_sem,↓reduceIte,Nat.reduceEqDiff]); refine ⟨hf.ext, ?_⟩; (try simp only [vcH_nil2]); (try simp only [go_sem,↓reduceIte,Nat.reduceEqDiff])
        refine MemK_lits hf [] (xs := []) Tryd.underlying60 sz9 rfl rfl rfl (by omega) ?_; simp only [go_sem,↓reduceIte,Nat.reduceEqDiff]; refine ⟨trivial, by simp [Value.cells], fun g wz hf => ?_⟩; (try simp only [go_sem,↓reduceIte,Nat.reduceEqDiff]); refine ⟨hf.ext, ?_⟩; (try simp only [vcH_nil2]); (try simp only [go_sem,↓reduceIte,Nat.reduceEqDiff])
        refine MemK_append ?_; simp only [go_sem,↓reduceIte,Nat.reduceEqDiff]; refine AppK_row (zs := #[.string ⟨#[]⟩]) (bytes := 16) (m := way.length) (news := strsV way) hf 0 rfl Tryd.underlying60 (by kernel_rfl) rfl ⟨rfl, hf.rs' hw4, 9, Tryd.underlying60⟩ (strsV_one way) (fun h => by omega) fun aa ca wa hca hf => ?_; simp only [List.set_cons_succ, List.set_cons_zero, List.nil_append, Nat.zero_add] at hf; rw [Nat.zero_add]; refine ⟨hf.ext, ?_⟩; (try simp only [vcH_nil2]); (try simp only [go_sem,↓reduceIte,Nat.reduceEqDiff])
        refine MemK_append ?_; simp only [go_sem,↓reduceIte,Nat.reduceEqDiff]; refine AppK_row (zs := #[.string ⟨#[]⟩]) (bytes := 16) hf 0 rfl Tryd.underlying60 (by kernel_rfl) rfl ⟨rfl, row_rs (hf.at 1 rfl), 9, Tryd.underlying60⟩ (strsV_one [x.name]) (fun h => by omega) fun a8 c8 wb hcb hf => ?_; simp only [List.set_cons_succ, List.set_cons_zero] at hf; refine ⟨hf.ext, ?_⟩; (try simp only [vcH_nil2]); (try simp only [go_sem,↓reduceIte,Nat.reduceEqDiff])
        exact out2 _ _ _ _ hf
    intro a8 c8 w5 G5 hf
    have hH5 : Heap w [] w5 (G5 ++ [Res.blk gb 24 (nodeV x), Res.row 38 2 a5 done.length c5 (ensV done), Res.blk g 24 (nodeV t)]) := hH2.call0 (hf.sub (List.sublist_cons_self _ _))
    have hH6 : Heap w [] w5 [Res.row 9 1 a8 (way ++ [x.name]).length c8 (strsV (way ++ [x.name])), Res.blk gb 24 (nodeV x), Res.row 38 2 a5 done.length c5 (ensV done), Res.blk g 24 (nodeV t)] := hH2.call0 (hf.sub (.cons_cons _ (List.nil_sublist _)))
    clear hH5 hf hH2
    (refine hK _ _ ?_; clear hK)
    obtain ⟨d0, d1, d2, d3⟩ := node_cells (hH6.at 1 rfl)
    refine VR [1, 2, 5, 6, 7, 8, 31] rfl rfl fun K hK => ?_; simp only [go_sem,↓reduceIte,Nat.reduceEqDiff]
    refine ⟨_, d1, ?_⟩
    (try simp only [go_sem,↓reduceIte,Nat.reduceEqDiff])
    (refine hK _ _ ?_; clear hK)
    refine VC_cond rfl rfl (fun h => ?_) (fun h => VC_skip ?_) -- t31
    · have hd : x.dir = true := by simpa using h
      rw [hd, if_pos rfl] at hgo hdone
      have hah : aheadOf (way ++ [x.name]) = aheadOf way ++ x.name ++ [47] := by rw [aheadOf_append, aheadOf_one, List.append_assoc]
      have hwl2 : (way ++ [x.name]).length = way.length + 1 := by simp
      have hcall := ih x hxm (way ++ [x.name]) a8 c8 w5 (Lies.keep hH6 x hxL) (row_rs (hH6.at 0 rfl)) (by omega) (by omega) (by rw [hah]; simp; omega)
      rw [hah] at hcall
      refine VR [1, 2, 5, 6] rfl rfl fun K hK => ?_; simp only [go_sem,↓reduceIte,Nat.reduceEqDiff]
      refine ⟨nodeV x, ⟨rfl, blk_reads (hH6.at 1 rfl)⟩, ?_⟩
      (try simp only [go_sem,↓reduceIte,Nat.reduceEqDiff])
      refine MemK_callD Tryd.call21 hcall (by simp only [go_sem,↓reduceIte,Nat.reduceEqDiff] <;> rfl) ?_
      rintro v w6 ⟨a', c', rfl, hHr⟩
      have hH7 := hH6.call0 hHr
      clear hHr hcall
      (try simp only [go_sem,↓reduceIte,Nat.reduceEqDiff])
      refine MemK_append ?_
      simp only [go_sem,↓reduceIte,Nat.reduceEqDiff]
      refine AppK_row (zs := #[.string ⟨#[]⟩, .string ⟨#[]⟩]) (bytes := 32) hH7 3 rfl Tryd.underlying27 (by kernel_rfl) rfl ⟨rfl, row_rs (hH7.at 0 rfl), 38, Tryd.underlying27⟩ (ensV_one _) (fun h => by omega) fun a6 c6 w7 hc' hH8 => ?_
      have hH9 : Heap w [] w7 [Res.row 38 2 a6 (done ++ filesS x (aheadOf way ++ x.name ++ [47])).length c6 (ensV (done ++ filesS x (aheadOf way ++ x.name ++ [47]))), Res.blk g 24 (nodeV t)] := by
        rw [ensV, rowsV_append, List.length_append]
        exact hH8.sub (.cons _ (.cons _ (.cons _ (.refl _))))
      clear hH8 hH7 hH6
      rw [← List.append_assoc] at hgo
      rw [← List.length_append]
      generalize done ++ filesS x (aheadOf way ++ x.name ++ [47]) = done2 at *
      (try simp only [go_sem,↓reduceIte,Nat.reduceEqDiff])
      (refine hK _ _ ?_; clear hK)
      refine VC_exit rfl ?_
      refine VR [1, 2, 5, 6] rfl rfl fun K hK => ?_; simp only [go_sem,↓reduceIte,Nat.reduceEqDiff]
      ((repeat refine And.intro (by omega) ?_); refine hK _ _ ?_; clear hK)
      refine VC_again ?_
      simp only [go_sem,↓reduceIte,Nat.reduceEqDiff]
      exact ⟨t.kids.length - (i + 1), by omega, i + 1, done2, a6, c6, rfl, hH9, hgo, by omega, rfl⟩
    have hd : x.dir = false := by simpa using h
    rw [hd, if_neg (by simp)] at hgo hdone
    clear h
    obtain ⟨go, rfl⟩ := row_pos (hH6.at 0 rfl) (by simp)
    generalize hown : way ++ [x.name] = own at *
    have hol : own.length = way.length + 1 := by rw [← hown]; simp
    have hal : (aheadOf own).length = (aheadOf way).length + x.name.length + 1 := by rw [← hown, aheadOf_append, aheadOf_one]; simp; omega
    obtain ⟨s0, hs0⟩ : ∃ s, own[0]? = some s := ⟨_, List.getElem?_eq_getElem (by omega)⟩
    refine VR [1, 2, 5, 6, 7, 8, 9] rfl rfl fun K hK => ?_; simp only [go_sem,↓reduceIte,Nat.reduceEqDiff]
    refine ⟨⟨by omega, by omega⟩, _, row_cell (hH6.at 0 rfl) (strsV_get hs0), ?_⟩
    (try simp only [go_sem,↓reduceIte,Nat.reduceEqDiff])
    (refine hK _ _ ?_; clear hK)
    refine VR [1, 2, 5, 6, 7, 8, 9, 10] rfl rfl fun K hK => ?_; simp only [go_sem,↓reduceIte,Nat.reduceEqDiff]
    ((repeat refine And.intro (by omega) ?_); refine hK _ _ ?_; clear hK)
    ((repeat refine VC_seq ?_); refine VC_block ?_)
    refine VC_loopS [1, 2, 5, 6, 7, 8, 9, 10] (fun m e w' => ∃ (k : Nat) (s : List UInt8), Is e [(1, .slice a way.length c), (2, ptV g), (5, .slice a5 done.length c5), (6, .int .i64 i), (7, ptV gb), (8, .slice (some ⟨go, 0, none⟩) own.length c8), (9, Str (aheadOf (own.take k) ++ s)), (10, .int .i64 (k + 1 : Nat))] ∧
        Is w' w5 ∧ own[k]? = some s ∧ m = own.length - k) own.length ?_ ?_ -- LOOP
    · simp only [go_sem,↓reduceIte,Nat.reduceEqDiff]
      exact ⟨0, s0, by simp [aheadOf, Is], rfl, hs0, rfl⟩
    rintro m e w' ⟨k, s, rfl, rfl, hks, rfl⟩
    have hkl : k < own.length := (List.getElem?_eq_some_iff.1 hks).1
    have hkm := aheadOf_mem hks
    refine VR [1, 2, 5, 6, 7, 8, 9, 10, 43] rfl rfl fun K hK => ?_; simp only [go_sem,↓reduceIte,Nat.reduceEqDiff]
    ((repeat refine And.intro (by omega) ?_); refine hK _ _ ?_; clear hK)
    refine VC_cond rfl rfl (fun h => ?_) (fun h => ?_) -- t43
    · simp only [decide_eq_true_eq] at h
      have h2 : k + 1 < own.length := by omega
      refine VC_skip ?_
      ((repeat refine VC_seq ?_); refine VC_block ?_)
      obtain ⟨s2, hs2⟩ : ∃ s, own[k + 1]? = some s := ⟨_, List.getElem?_eq_getElem h2⟩
      have hkm2 := aheadOf_mem hs2
      refine VR [1, 2, 5, 6, 7, 8, 9, 10] rfl rfl fun K hK => ?_; simp only [go_sem,↓reduceIte,Nat.reduceEqDiff]
      refine And.intro (by simp; omega) ?_
      (try simp only [go_sem,↓reduceIte,Nat.reduceEqDiff])
      refine ⟨⟨by omega, by omega⟩, _, row_cell (hH6.at 0 rfl) (strsV_get hs2), ?_⟩
      (try simp only [go_sem,↓reduceIte,Nat.reduceEqDiff])
      refine And.intro (by simp; omega) ?_
      (refine hK _ _ ?_; clear hK)
      refine VC_blk ?_
      refine VR [1, 2, 5, 6, 7, 8, 9, 10] rfl rfl fun K hK => ?_; simp only [go_sem,↓reduceIte,Nat.reduceEqDiff]
      ((repeat refine And.intro (by omega) ?_); refine hK _ _ ?_; clear hK)
      refine VC_again ?_
      simp only [go_sem,↓reduceIte,Nat.reduceEqDiff]
      refine ⟨own.length - (k + 1), by omega, k + 1, s2, ?_, rfl, hs2, rfl⟩
      rw [take_snoc hks, aheadOf_append, aheadOf_one]
      simp only [List.append_assoc]
      rfl
    · simp only [decide_eq_false_iff_not] at h
      have hkw : k = way.length := by omega
      have hfin : aheadOf (own.take k) ++ s = aheadOf way ++ x.name := by
        rw [← hown, hkw] at hks ⊢
        simp at hks
        rw [List.take_left, hks]
      rw [hfin]
      refine VC_exit rfl ?_
      refine VR [1, 2, 5, 6] rfl rfl fun K hK => ?_; simp only [go_sem,↓reduceIte,Nat.reduceEqDiff]
      refine ⟨_, d2, ?_⟩
      (try simp only [go_sem,↓reduceIte,Nat.reduceEqDiff])
      refine MemK_litK hH6 2 (enV (aheadOf way ++ x.name, x.data)) (xs := [.tmp 57]) Tryd.underlying27 sz38 rfl rfl rfl (by omega) (by omega) ?_
      simp only [go_sem,↓reduceIte,Nat.reduceEqDiff]
      refine ⟨by simp [enV, Value.cells], by simp [enV, Value.cells], fun gl w6 hH7 => ?_⟩
      (try simp only [go_sem,↓reduceIte,Nat.reduceEqDiff])
      refine MemK_append ?_
      simp only [go_sem,↓reduceIte,Nat.reduceEqDiff]
      refine AppK_row (zs := #[.string ⟨#[]⟩, .string ⟨#[]⟩]) (bytes := 32) hH7 3 rfl Tryd.underlying27 (by kernel_rfl) rfl ⟨rfl, row_rs (hH7.at 0 rfl), 38, Tryd.underlying27⟩ (enV_one _) (fun h => by simp at hdone; omega) fun a6 c6 w7 hc' hH8 => ?_
      have hH9 : Heap w [] w7 [Res.row 38 2 a6 (done ++ [(aheadOf way ++ x.name, x.data)]).length c6 (ensV (done ++ [(aheadOf way ++ x.name, x.data)])), Res.blk g 24 (nodeV t)] := by
        rw [ensV_snoc, List.length_append]
        exact hH8.sub (.cons _ (.cons _ (.cons _ (.refl _))))
      clear hH8 hH7
      rw [← List.append_assoc] at hgo
      rw [show done.length + 1 = (done ++ [(aheadOf way ++ x.name, x.data)]).length by simp]
      generalize done ++ [(aheadOf way ++ x.name, x.data)] = done2 at *
      (try simp only [go_sem,↓reduceIte,Nat.reduceEqDiff])
      (refine hK _ _ ?_; clear hK)
      refine VC_blk ?_
      refine VR [1, 2, 5, 6] rfl rfl fun K hK => ?_; simp only [go_sem,↓reduceIte,Nat.reduceEqDiff]
      ((repeat refine And.intro (by omega) ?_); refine hK _ _ ?_; clear hK)
      refine VC_again ?_
      simp only [go_sem,↓reduceIte,Nat.reduceEqDiff]
      exact ⟨t.kids.length - (i + 1), by omega, i + 1, done2, a6, c6, rfl, hH9, hgo, by omega, rfl⟩
  · simp only [decide_eq_false_iff_not] at h
    obtain rfl : i = t.kids.length := by omega
    rw [List.drop_length, filesL, List.append_nil] at hgo
    refine VC_exit rfl ?_
    refine VR [4] rfl rfl fun K hK => ?_; simp only [go_sem,↓reduceIte,Nat.reduceEqDiff]
    ((repeat refine And.intro (by omega) ?_); refine hK _ _ ?_; clear hK)
    rw [← hgo]
    exact VC_ret (VX_ret1 rfl rfl ⟨a5, c5, rfl, hH.sub (.cons_cons _ (List.nil_sublist _))⟩)
end Go.Proofs.YtklpiecolpnmlaaDoor
