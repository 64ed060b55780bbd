/- Trees: Walk: the walk. -/
import Derived.Test.YtklpiecolpnmlaaDoorTr6
namespace Go.Proofs.YtklpiecolpnmlaaDoor
open Go Go.Eng
set_option maxRecDepth 100000
set_option maxHeartbeats 1000000
set_option linter.unusedSimpArgs false
set_option linter.unusedVariables false

theorem VX_retCC2 {C : Ctx} {e : Env} {w : World} {t u : Tmp} {T U : TypeId} {a b : Addr} (hr : C.fn.results = #[.cell t T, .cell u U]) (ht : e.find? t = some (.pointer (some a))) (hu : e.find? u = some (.pointer (some b)))
    (h : vLoad C.P T (.pointer (some a)) w fun v => vLoad C.P U (.pointer (some b)) w fun x => C.F (.tuple #[v, x]) w) : VX C [] .ret e w := by
  intro ac n ha
  obtain ⟨v, hv, r1⟩ := run_vLoadVar h
  obtain ⟨x, hv, r2⟩ := run_vLoadVar hv
  refine ⟨ha.defers, .tuple #[v, x], ?_, _, w, n, rfl, rfl, hv⟩
  have h1 := ha.at_ t _ ht
  rw [Array.getD_eq_getD_getElem?] at h1
  have h2 := ha.at_ u _ hu
  rw [Array.getD_eq_getD_getElem?] at h2
  have q1 := r1 (w.drewN n) (Ext.drewN w n)
  have q2 := r2 (w.drewN n) (Ext.drewN w n)
  simp [results, hr, h1, h2, asAddr, q1, q2]
theorem ld_sl1 {w : World} {g T E : Nat} {v : Value} {K : Value → Prop} (h : (Res.blk g T [v]).holds w) (hu : Tryd.prog.underlying T = some (.slice E)) (hk : K v) : vLoad Tryd.prog T (.pointer (some ⟨g, 0, none⟩)) w K := by
  rw [ld_sl T E _ hu]
  exact ⟨_, blk_cell h rfl, hk⟩
theorem ld_int1 {w : World} {g T : Nat} {k : IntKind} {v : Value} {K : Value → Prop} (h : (Res.blk g T [v]).holds w) (hu : Tryd.prog.underlying T = some (.int k)) (hk : K v) : vLoad Tryd.prog T (.pointer (some ⟨g, 0, none⟩)) w K := by
  rw [ld_int T _ k hu]
  exact ⟨_, blk_cell h rfl, hk⟩

def walkS (t : NT) : List En × Int :=
  if checkS t = 0 then (if (filesS t []).all (fun x => decide (x.1.length ≤ 120)) = true then (filesS t [], 0) else ([], 140)) else ([], 280)

theorem filesL_len : ∀ (t : NT) (ahead : List UInt8), (filesS t ahead).length ≤ sizeN t := by
  refine NT.ind fun t ih => ?_
  intro ahead
  rw [filesS_eq, sizeN_eq]
  have key : ∀ l : List NT, (∀ k ∈ l, ∀ ahead, (filesS k ahead).length ≤ sizeN k) → (filesL l ahead).length ≤ sizeL l := by
    intro l
    induction l with
    | nil => intro _; simp [filesL]
    | cons x l ihl =>
      intro h
      rw [filesL, List.length_append, sizeL]
      have h1 := ihl fun k hk => h k (List.mem_cons_of_mem _ hk)
      have h2 : (if x.dir then filesS x (ahead ++ x.name ++ [47]) else [(ahead ++ x.name, x.data)]).length ≤ sizeN x := by
        split
        · exact h x (List.mem_cons_self ..) _
        · rw [sizeN_eq]; simp
      omega
  have := key t.kids ih
  omega

theorem twalk_does (t : NT) (w : World) (hL : Lies w t) (hsz : sizeN t ≤ 500) : Does Tryd.prog 8 #[nodeA t] w fun v w' =>
    ∃ a c, v = .tuple #[.slice a (walkS t).1.length c, .int .i64 (walkS t).2] ∧ Heap w [] w' [Res.row 38 2 a (walkS t).1.length c (ensV (walkS t).1)] := by
  refine Does_enterG (args := [nodeA t]) 24 Tryd.func8 rfl rfl (of_decide_eq_true rfl) ?_
  simp only [Env.ofArgs, Nat.reduceAdd]
  (repeat with_reducible refine VG_seq ?_); refine VG_region [1, 2, 3] (by kernel_rfl) fun K hK => ?_; simp only [go_sem,↓reduceIte,Nat.reduceEqDiff]
  refine MemK_box ?_
  simp only [go_sem,↓reduceIte,Nat.reduceEqDiff]
  have hH := (Heap.start w).box 24 (nodeV t)
  generalize w.alloc (Obj.cells (nodeV t).toArray 24) = w1 at *
  generalize w.heap.size = g1 at *
  refine MemK_alloc (.slice none 0 0) (by kernel_rfl) ?_
  simp only [go_sem,↓reduceIte,Nat.reduceEqDiff]
  have hH2 : Heap w [] _ _ := hH.box 27 [.slice none 0 0]
  generalize w1.alloc (Obj.cells [Value.slice none 0 0].toArray 27) = w2 at *
  generalize w1.heap.size = g2 at *
  refine MemK_alloc (.int .i64 0) (by kernel_rfl) ?_
  simp only [go_sem,↓reduceIte,Nat.reduceEqDiff]
  have hH3 : Heap w [] _ _ := hH2.box 28 [.int .i64 0]
  generalize w2.alloc (Obj.cells [Value.int IntKind.i64 0].toArray 28) = w3 at *
  generalize w2.heap.size = g3 at *
  clear hH hH2
  (refine hK _ _ ?_; clear hK)
  have hL3 := Lies.keep hH3 t hL
  (repeat with_reducible refine VG_seq ?_); refine VG_region [1, 2, 3, 4] (by kernel_rfl) fun K hK => ?_; simp only [go_sem,↓reduceIte,Nat.reduceEqDiff]
  refine ⟨nodeV t, ⟨rfl, blk_reads (hH3.at 2 rfl)⟩, ?_⟩
  (try simp only [go_sem,↓reduceIte,Nat.reduceEqDiff])
  refine MemK_callD Tryd.call11 (tcheck_does t w3 hL3) (by simp only [go_sem,↓reduceIte,Nat.reduceEqDiff] <;> rfl) ?_
  rintro v w4 ⟨hHc, rfl⟩
  have hH4 := hH3.call0 hHc
  clear hHc hH3
  have hH4 : Heap w [] w4 [Res.blk g3 28 [.int .i64 0], Res.blk g2 27 [.slice none 0 0], Res.blk g1 24 (nodeV t)] := hH4
  (try simp only [go_sem,↓reduceIte,Nat.reduceEqDiff])
  (refine hK _ _ ?_; clear hK)
  (repeat with_reducible refine VG_seq ?_); refine VG_region [1, 2, 3, 4, 10] (by kernel_rfl) fun K hK => ?_; simp only [go_sem,↓reduceIte,Nat.reduceEqDiff]
  (refine hK _ _ ?_; clear hK)
  have res : ∀ {e : Env} {N : Nat} {w' : World} {a : Option Addr} {c : Nat} {G : List Res}, e.find? 2 = some (ptV g2) → e.find? 3 = some (ptV g3) → Heap w [] w' (Res.blk g3 28 [.int .i64 (walkS t).2] :: Res.blk g2 27 [.slice a (walkS t).1.length c] :: Res.row 38 2 a (walkS t).1.length c (ensV (walkS t).1) :: G) →
      VX ⟨Tryd.prog, Tryd.f8, fun v w' => ∃ a c, v = .tuple #[.slice a (walkS t).1.length c, .int .i64 (walkS t).2] ∧ Heap w [] w' [Res.row 38 2 a (walkS t).1.length c (ensV (walkS t).1)], N⟩ [] .ret e w' := by
    intro e N w' a c G e2 e3 hh
    refine VX_retCC2 rfl e2 e3 ?_
    refine ld_sl1 (hh.at 1 rfl) Tryd.underlying27 ?_
    refine ld_int1 (hh.at 0 rfl) Tryd.underlying28 ?_
    exact ⟨a, c, rfl, hh.sub (.cons _ (.cons _ (.cons_cons _ (List.nil_sublist _))))⟩
  (repeat with_reducible refine VG_seq ?_)
  refine VG_cond rfl rfl (fun h => ?_) (fun h => VG_skip ?_) -- t10
  · have hw : walkS t = ([], 280) := by
      rw [walkS, if_neg (by simpa using h)]
    have hc : checkS t = 280 := by
      unfold checkS at h ⊢
      split
      · rename_i hh; rw [if_pos hh] at h; simp at h
      · rfl
    rw [hw] at res ⊢
    rw [hc]
    (repeat with_reducible refine VG_seq ?_); refine VG_region [2, 3] (by kernel_rfl) fun K hK => ?_; simp only [go_sem,↓reduceIte,Nat.reduceEqDiff]
    refine MemK_store ?_
    simp only [go_sem,↓reduceIte,Nat.reduceEqDiff]
    refine StoreK_blk hH4 1 (vs := [.slice none 0 0]) rfl rfl (by kernel_rfl) (by simp) (by simp [Value.oneCell']) fun w5 hH5 => ?_
    (try simp only [go_sem,↓reduceIte,Nat.reduceEqDiff])
    refine MemK_store ?_
    simp only [go_sem,↓reduceIte,Nat.reduceEqDiff]
    refine StoreK_blk hH5 0 (vs := [.int .i64 280]) rfl rfl (by kernel_rfl) (by simp) (by simp [Value.oneCell']) fun w6 hH6 => ?_
    (try simp only [go_sem,↓reduceIte,Nat.reduceEqDiff])
    (refine hK _ _ ?_; clear hK)
    have hH7 := (hH6.nilRow 38 2).front 2 rfl
    exact VG_ret (ret0 (res (a := none) (c := 0) rfl rfl (((hH6.nilRow 38 2).front 2 rfl).front 2 rfl)))
  have hc : checkS t = 0 := by simpa using h
  clear h
  (repeat with_reducible refine VG_seq ?_); refine VG_region [1, 2, 3, 5] (by kernel_rfl) fun K hK => ?_; simp only [go_sem,↓reduceIte,Nat.reduceEqDiff]
  refine MemK_alloc (.slice none 0 0) (by kernel_rfl) ?_
  simp only [go_sem,↓reduceIte,Nat.reduceEqDiff]
  have hH5 := (hH4.nilRow 38 2).box 27 [.slice none 0 0]
  generalize w4.alloc (Obj.cells [Value.slice none 0 0].toArray 27) = w5 at *
  generalize w4.heap.size = g5 at *
  (refine hK _ _ ?_; clear hK)
  clear hH4
  (repeat with_reducible refine VG_seq ?_); refine VG_region [2, 3, 5, 13] (by kernel_rfl) fun K hK => ?_; simp only [go_sem,↓reduceIte,Nat.reduceEqDiff]
  refine ⟨nodeV t, ⟨rfl, blk_reads (hH5.at 4 rfl)⟩, ?_⟩
  (try simp only [go_sem,↓reduceIte,Nat.reduceEqDiff])
  refine MemK_callD Tryd.call20 (tfiles_does t [] w5) (by simp only [go_sem,↓reduceIte,Nat.reduceEqDiff] <;> rfl) ?_
  rintro v w6 ⟨gn, ga, rfl, hHf⟩
  have hH6 := hH5.call0 hHf
  have hH6 : Heap w [] w6 [Res.blk ga 9 [Str []], Res.blk gn 24 (nodeV t), Res.blk g5 27 [.slice none 0 0], Res.row 38 2 none 0 0 [], Res.blk g3 28 [.int .i64 0], Res.blk g2 27 [.slice none 0 0], Res.blk g1 24 (nodeV t)] := hH6
  clear hHf hH5 hL3
  (try simp only [go_sem,↓reduceIte,Nat.reduceEqDiff])
  (refine hK _ _ ?_; clear hK)
  ((repeat with_reducible refine VG_seq ?_); refine VG_block ?_)
  refine VG_rangeFunc rfl rfl (fun _ _ => rfl) fun r r1 r2 r3 r4 r5 r6 r7 r8 => ?_
  generalize hdr : w6.heap.size = dr at *
  have hH7 := (hH6.newObj (.deferred (some []))).newObj (.loop r)
  rw [show (w6.alloc (.deferred (some []))).heap.size = dr + 1 by rw [← hdr]; show (w6.heap.push _).size = _; rw [Array.size_push], hdr] at hH7
  clear r6 hH6
  generalize (w6.alloc (Obj.deferred (some []))).alloc (Obj.loop r) = wl at *
  have hr := Loop.same r1 r2
  have hH8 : Heap w [] wl [Res.obj (dr + 1) (.loop r), Res.obj dr (.deferred (some [])), Res.blk ga 9 [Str []], Res.blk gn 24 (nodeV t), Res.blk g5 27 [.slice none 0 0], Res.row 38 2 none 0 0 [], Res.blk g3 28 [.int .i64 0], Res.blk g2 27 [.slice none 0 0], Res.blk g1 24 (nodeV t)] := hH7
  clear hH7
  have hH9 := (((((((hH8.front 2 rfl).front 3 rfl).front 7 rfl).front 7 rfl).front 7 rfl).front 7 rfl).front 6 rfl)
  have hcnt : ∀ done rest : List En, done ++ rest = filesS t [] → done.length + rest.length ≤ 500 := by
    intro done rest h
    have h1 := filesL_len t []
    rw [← h, List.length_append] at h1
    omega
  refine (filesRun_does w t hL [] (dr + 1) gn ga
    (fun l0 G0 => ∃ (done : List En) (a : Option Addr) (c : Nat), done ++ l0 = filesS t [] ∧ (∀ x ∈ done, x.1.length ≤ 120) ∧ G0 = [Res.obj (dr + 1) (.loop r), Res.blk g5 27 [.slice a done.length c], Res.row 38 2 a done.length c (ensV done), Res.blk g3 28 [.int .i64 0], Res.blk g2 27 [.slice none 0 0]])
    (fun G0 => (∃ x ∈ filesS t [], 120 < x.1.length) ∧ G0 = [Res.obj (dr + 1) (.loop { r with state := .done, pending := some .ret }), Res.blk g3 28 [.int .i64 140], Res.blk g2 27 [.slice none 0 0]]) ?_ (by simp; omega)
    [] _ [Res.obj dr (.deferred (some [])), Res.blk g1 24 (nodeV t)] wl ⟨[], none, 0, by simp, by simp, rfl⟩ hH9).mono ?_ (fun _ _ h => h)
  · rintro x rest _ FR w7 ⟨done, a, c, hdone, hshort, rfl⟩ hH10
    have hHa : Heap w [] w7 (Res.obj (dr + 1) (.loop r) :: Res.blk g5 27 [.slice a done.length c] :: Res.row 38 2 a done.length c (ensV done) :: Res.blk g3 28 [.int .i64 0] :: Res.blk g2 27 [.slice none 0 0] :: FR) := hH10
    have hdl := hcnt _ _ hdone
    rw [List.length_cons] at hdl
    refine YieldK_round (N := 24) (e := (14, enA x) :: [(2, ptV g2), (3, ptV g3), (5, ptV g5), (13, filesV gn ga)]) (hHa.at 0 rfl) r1 r7 (by rw [r3]; rfl) (round_env r3 (by rw [r7]; decide) r8) ?_
    refine (congrArg (fun c => VG _ [.code c] _ _) r4).mpr ?_
    (repeat with_reducible refine VG_seq ?_); refine VG_region [2, 3, 5, 6] (by kernel_rfl) fun K hK => ?_; simp only [go_sem,↓reduceIte,Nat.reduceEqDiff]
    refine MemK_alloc (.agg #[.string ⟨#[]⟩, .string ⟨#[]⟩]) (by kernel_rfl) ?_
    simp only [go_sem,↓reduceIte,Nat.reduceEqDiff]
    have hHb := hHa.box 38 [.string ⟨#[]⟩, .string ⟨#[]⟩]
    generalize w7.alloc (Obj.cells [Value.string ⟨#[]⟩, .string ⟨#[]⟩].toArray 38) = w8 at *
    generalize w7.heap.size = gx at *
    refine MemK_store ?_
    simp only [go_sem,↓reduceIte,Nat.reduceEqDiff]
    refine StoreK_blk hHb 0 (vs := enV x) rfl rfl (by kernel_rfl) (by simp [enV]) (enV_one x) fun w9 hHc => ?_
    have hHc : Heap w [] w9 (Res.blk gx 38 (enV x) :: Res.obj (dr + 1) (.loop r) :: Res.blk g5 27 [.slice a done.length c] :: Res.row 38 2 a done.length c (ensV done) :: Res.blk g3 28 [.int .i64 0] :: Res.blk g2 27 [.slice none 0 0] :: FR) := hHc
    clear hHb hHa hH10
    (try simp only [go_sem,↓reduceIte,Nat.reduceEqDiff])
    (refine hK _ _ ?_; clear hK)
    refine VG_nil fun a n hf => ⟨rfl, _, _, n, rfl, hf, hHc.at 1 rfl, ?_⟩
    have hHd := (hHc.front 1 rfl).put (.loop { r with state := .busy })
    generalize w9.putObj (dr + 1) (Obj.loop { r with state := .busy }) = wb at *
    clear hHc hf a n
    refine (congrArg (fun c => VG _ [.code c] _ _) r5).mpr ?_
    ((repeat with_reducible refine VG_seq ?_); refine VG_block ?_)
    have d0 : wb.cell? ⟨gx, 0, none⟩ = some (Str x.1) := blk_cell (hHd.at 1 rfl) rfl
    (repeat with_reducible refine VG_seq ?_); refine VG_region [2, 3, 5, 6, 18] (by kernel_rfl) fun K hK => ?_; simp only [go_sem,↓reduceIte,Nat.reduceEqDiff]
    refine ⟨_, d0, ?_⟩
    (try simp only [go_sem,↓reduceIte,Nat.reduceEqDiff])
    (refine hK _ _ ?_; clear hK)
    have hxm : x ∈ filesS t [] := by rw [← hdone]; simp
    (repeat with_reducible refine VG_seq ?_)
    refine VG_cond rfl rfl (fun h => ?_) (fun h => VG_skip ?_) -- t18
    · have hlong : 120 < x.1.length := by simp at h; omega
      (repeat with_reducible refine VG_seq ?_); refine VG_region [2, 3] (by kernel_rfl) fun K hK => ?_; simp only [go_sem,↓reduceIte,Nat.reduceEqDiff]
      refine MemK_store ?_
      simp only [go_sem,↓reduceIte,Nat.reduceEqDiff]
      refine StoreK_blk hHd 5 (vs := [.slice none 0 0]) rfl rfl (by kernel_rfl) (by simp) (by simp [Value.oneCell']) fun w10 hHe => ?_
      (try simp only [go_sem,↓reduceIte,Nat.reduceEqDiff])
      refine MemK_store ?_
      simp only [go_sem,↓reduceIte,Nat.reduceEqDiff]
      refine StoreK_blk hHe 4 (vs := [.int .i64 140]) rfl rfl (by kernel_rfl) (by simp) (by simp [Value.oneCell']) fun w11 hHf => ?_
      (try simp only [go_sem,↓reduceIte,Nat.reduceEqDiff])
      (refine hK _ _ ?_; clear hK)
      have hHg : Heap w [] w11 (Res.obj (dr + 1) (.loop { r with state := .busy }) :: Res.blk g3 28 [.int .i64 140] :: Res.blk g2 27 [.slice none 0 0] :: FR) := hHf.sub (.cons_cons _ (.cons _ (.cons _ (.cons _ (.refl _)))))
      refine VG_ret fun a n hf => ⟨_, n, rfl, hHg.at 0 rfl, ?_⟩
      exact ⟨_, hHg.put (.loop { r with state := .done, pending := some .ret }), .inr ⟨rfl, ⟨x, hxm, hlong⟩, rfl⟩⟩
    have hsh : x.1.length ≤ 120 := by simp at h; omega
    clear h
    (repeat with_reducible refine VG_seq ?_); refine VG_region [2, 3, 5] (by kernel_rfl) fun K hK => ?_; simp only [go_sem,↓reduceIte,Nat.reduceEqDiff]
    refine ⟨_, blk_cell (hHd.at 2 rfl) rfl, enV x, ⟨rfl, blk_reads (hHd.at 1 rfl)⟩, ?_⟩
    (try simp only [go_sem,↓reduceIte,Nat.reduceEqDiff])
    refine MemK_litK hHd 2 (enV x) (xs := [.tmp 20]) Tryd.underlying27 sz38 rfl rfl rfl (by omega) (by omega) ?_
    simp only [go_sem,↓reduceIte,Nat.reduceEqDiff]
    refine ⟨by simp [enV, Value.cells], by simp [enV, Value.cells], fun gl w10 hHe => ?_⟩
    (try simp only [go_sem,↓reduceIte,Nat.reduceEqDiff])
    refine MemK_append ?_
    simp only [go_sem,↓reduceIte,Nat.reduceEqDiff]
    refine AppK_row (zs := #[.string ⟨#[]⟩, .string ⟨#[]⟩]) (bytes := 32) hHe 4 rfl Tryd.underlying27 (by kernel_rfl) rfl ⟨rfl, row_rs (hHe.at 0 rfl), 38, Tryd.underlying27⟩ (enV_one x) (fun h => by omega) fun a' cap' w11 hc' hHf => ?_
    simp only [List.set_cons_succ, List.set_cons_zero] at hHf
    (try simp only [go_sem,↓reduceIte,Nat.reduceEqDiff])
    refine MemK_store ?_
    simp only [go_sem,↓reduceIte,Nat.reduceEqDiff]
    refine StoreK_blk hHf 3 (vs := [.slice a' (done.length + 1) cap']) rfl rfl (by kernel_rfl) (by simp) (by simp [Value.oneCell']) fun w12 hHg => ?_
    simp only [List.set_cons_succ, List.set_cons_zero] at hHg
    (try simp only [go_sem,↓reduceIte,Nat.reduceEqDiff])
    (refine hK _ _ ?_; clear hK)
    have hHh : Heap w [] w12 (Res.obj (dr + 1) (.loop { r with state := .busy }) :: Res.blk g5 27 [.slice a' (done ++ [x]).length cap'] :: Res.row 38 2 a' (done ++ [x]).length cap' (ensV (done ++ [x])) :: Res.blk g3 28 [.int .i64 0] :: Res.blk g2 27 [.slice none 0 0] :: FR) := by
      rw [ensV_snoc, show (done ++ [x]).length = done.length + 1 by simp]
      exact hHg.sub (.cons _ (.cons_cons _ (.cons _ (.refl _))))
    refine VG_blk (VG_nil fun a n hf => ⟨_, n, rfl, hHh.at 0 rfl, ?_⟩)
    rw [hr]
    refine ⟨_, hHh.put (.loop r), .inl ⟨rfl, done ++ [x], a', cap', by simpa using hdone, ?_, rfl⟩⟩
    intro y hy
    rcases List.mem_append.1 hy with hy | hy
    · exact hshort y hy
    · simp at hy; rw [hy]; exact hsh
  · rintro _ w7 ⟨G0, hH10, hv⟩
    rcases hv with ⟨done, a, c, hdone, hshort, rfl⟩ | ⟨⟨x, hxm, hlong⟩, rfl⟩
    · rw [List.append_nil] at hdone
      subst hdone
      have hw : walkS t = (filesS t [], 0) := by
        rw [walkS, if_pos hc, if_pos]
        rw [List.all_eq_true]
        intro y hy
        simpa using hshort y hy
      rw [hw] at res ⊢
      have hHa : Heap w [] w7 [Res.obj (dr + 1) (.loop r), Res.blk g5 27 [.slice a (filesS t []).length c], Res.row 38 2 a (filesS t []).length c (ensV (filesS t [])), Res.blk g3 28 [.int .i64 0], Res.blk g2 27 [.slice none 0 0], Res.obj dr (.deferred (some [])), Res.blk g1 24 (nodeV t)] := hH10
      refine ⟨.ready, none, ?_, by simp, ?_⟩
      · rw [hr]
        exact hHa.at 0 rfl
      simp only
      have hHb := hHa.put (.loop { r with state := .exhausted, pending := none })
      generalize w7.putObj (dr + 1) (Obj.loop { r with state := .exhausted, pending := none }) = wb at *
      generalize Obj.loop { r with state := .exhausted, pending := none } = ro at *
      clear hHa hH10 r1 r2 r3 r4 r5 r7 r8 hr hH9 hH8 w7
      refine VG_blk ?_
      (repeat with_reducible refine VG_seq ?_); refine VG_region [2, 3] (by kernel_rfl) fun K hK => ?_; simp only [go_sem,↓reduceIte,Nat.reduceEqDiff]
      refine ⟨_, blk_cell (hHb.at 1 rfl) rfl, ?_⟩
      (try simp only [go_sem,↓reduceIte,Nat.reduceEqDiff])
      refine MemK_store ?_
      simp only [go_sem,↓reduceIte,Nat.reduceEqDiff]
      refine StoreK_blk hHb 4 (vs := [.slice a (filesS t []).length c]) rfl rfl (by kernel_rfl) (by simp) (by simp [Value.oneCell']) fun w10 hHe => ?_
      (try simp only [go_sem,↓reduceIte,Nat.reduceEqDiff])
      refine MemK_store ?_
      simp only [go_sem,↓reduceIte,Nat.reduceEqDiff]
      refine StoreK_blk hHe 3 (vs := [.int .i64 0]) rfl rfl (by kernel_rfl) (by simp) (by simp [Value.oneCell']) fun w11 hHf => ?_
      (try simp only [go_sem,↓reduceIte,Nat.reduceEqDiff])
      (refine hK _ _ ?_; clear hK)
      have hHg := ((((hHf.front 2 rfl).front 4 rfl).front 4 rfl).front 5 rfl)
      exact VG_ret (retN (ms := [dr]) hHg fun w' hh => res rfl rfl hh)
    · have hw : walkS t = ([], 140) := by
        rw [walkS, if_pos hc, if_neg]
        intro hh
        rw [List.all_eq_true] at hh
        have := hh x hxm
        simp at this
        omega
      rw [hw] at res ⊢
      have hHa : Heap w [] w7 [Res.obj (dr + 1) (.loop { r with state := .done, pending := some .ret }), Res.blk g3 28 [.int .i64 140], Res.blk g2 27 [.slice none 0 0], Res.obj dr (.deferred (some [])), Res.blk g1 24 (nodeV t)] := hH10
      refine ⟨.done, some .ret, hHa.at 0 rfl, by simp, ?_⟩
      simp only
      have hHb := hHa.put (.loop { r with state := .exhausted, pending := some .ret })
      generalize w7.putObj (dr + 1) (Obj.loop { r with state := .exhausted, pending := some .ret }) = wb at *
      have hHg := ((((hHb.nilRow 38 2).front 3 rfl).front 3 rfl).front 4 rfl)
      exact VG_ret (retN (ms := [dr]) hHg fun w' hh => res (a := none) (c := 0) rfl rfl hh)
end Go.Proofs.YtklpiecolpnmlaaDoor
