/- Trees: the files below a node, told one by one: the walk. -/
import Derived.Test.YtklpiecolpnmlaaDoorTrE
import Derived.Test.YtklpiecolpnmlaaDoorTr5
namespace Go.Proofs.YtklpiecolpnmlaaDoor
open Go Go.Eng
set_option maxRecDepth 100000
set_option maxHeartbeats 1000000
set_option linter.unusedSimpArgs false
set_option linter.unusedVariables false

/-- A file: its path, its content. -/
abbrev En := List UInt8 × List UInt8
def enV (x : En) : List Value := [Str x.1, Str x.2]
theorem enV_len (x : En) : (enV x).length = 2 := rfl
theorem enV_one (x : En) : ∀ v ∈ enV x, v.oneCell' = true := by
  intro v hv
  simp [enV] at hv
  rcases hv with rfl | rfl <;> rfl
def ensV (l : List En) : List Value := rowsV enV l
theorem ensV_one (l : List En) : ∀ v ∈ ensV l, v.oneCell' = true := rowsV_cells enV_one l
theorem ensV_len (l : List En) : (ensV l).length = l.length * 2 := rowsV_len (k := 2) enV_len l
theorem ensV_snoc (l : List En) (x : En) : ensV (l ++ [x]) = ensV l ++ enV x := by rw [ensV, rowsV_append, rowsV_one]; rfl
abbrev enA (x : En) : Value := .agg (enV x).toArray

mutual
def filesS : NT → List UInt8 → List En
  | .mk _ _ _ _ _ ks, ahead => filesL ks ahead
def filesL : List NT → List UInt8 → List En
  | [], _ => []
  | k :: ks, ahead => (if k.dir then filesS k (ahead ++ k.name ++ [47]) else [(ahead ++ k.name, k.data)]) ++ filesL ks ahead
end
theorem filesS_eq (t : NT) (ahead : List UInt8) : filesS t ahead = filesL t.kids ahead := by cases t; rw [filesS]; rfl

abbrev ptV (g : Nat) : Value := .pointer (some ⟨g, 0, none⟩)
abbrev yielV (l : Nat) : Value := .func (.yield l) #[] #[]
abbrev filesV (gn ga : Nat) : Value := .func (.func 37) #[] #[ptV gn, ptV ga]

theorem tfiles_does (t : NT) (ahead : List UInt8) (w : World) :
    Does Tryd.prog 20 #[nodeA t, Str ahead] w fun v w' => ∃ gn ga, v = filesV gn ga ∧ Heap w [] w' [Res.blk ga 9 [Str ahead], Res.blk gn 24 (nodeV t)] := by
  refine Does_enter (args := [nodeA t, Str ahead]) 6 Tryd.func20 rfl rfl (of_decide_eq_true rfl) ?_
  simp only [Env.ofArgs]
  refine VR [2, 3] rfl rfl fun K hK => ?_; simp only [go_sem,↓reduceIte,Nat.reduceEqDiff]
  refine MemK_box ?_
  simp only [go_sem,↓reduceIte,Nat.reduceEqDiff]
  have hH := (Heap.start w).box 24 (nodeV t)
  generalize w.alloc (Obj.cells (nodeV t).toArray 24) = w1 at *
  generalize w.heap.size = gn at *
  refine MemK_box ?_
  simp only [go_sem,↓reduceIte,Nat.reduceEqDiff]
  have hH2 := hH.box 9 [Str ahead]
  generalize w1.alloc (Obj.cells [Str ahead].toArray 9) = w2 at *
  generalize w1.heap.size = ga at *
  (refine hK _ _ ?_; clear hK)
  refine VR [4] rfl rfl fun K hK => ?_; simp only [go_sem,↓reduceIte,Nat.reduceEqDiff]
  ((repeat refine And.intro (by omega) ?_); refine hK _ _ ?_; clear hK)
  exact VC_ret (VX_ret1 rfl rfl ⟨gn, ga, rfl, hH2⟩) -- RET (4, t4)

/-- A round takes one file and keeps the plan, or stops. -/
def Rounds (w0 : World) (l : Nat) (PI : List En → List Res → Prop) (PE : List Res → Prop) : Prop :=
  ∀ x rest G FR w, PI (x :: rest) G → Heap w0 [] w (G ++ FR) →
    YieldK Tryd.prog l [enA x] w fun v w' => ∃ G', Heap w0 [] w' (G' ++ FR) ∧ (v = .bool true ∧ PI rest G' ∨ v = .bool false ∧ PE G')

theorem filesRun_does (w0 : World) : ∀ (t : NT), Lies w0 t → ∀ (ahead : List UInt8) (l gn ga : Nat) (PI : List En → List Res → Prop) (PE : List Res → Prop), Rounds w0 l PI PE →
    ahead.length + sizeN t * 140737488355329 ≤ 4611686018427387904 → ∀ rest G FR w, PI (filesS t ahead ++ rest) G → Heap w0 [] w (G ++ Res.blk gn 24 (nodeV t) :: Res.blk ga 9 [Str ahead] :: FR) →
    DoesP Tryd.prog 37 #[yielV l, ptV gn, ptV ga] w (fun _ w' => ∃ G', Heap w0 [] w' (G' ++ FR) ∧ (PI rest G' ∨ PE G')) noPn := by
  refine NT.ind fun t ih => ?_
  intro hL ahead l gn ga PI PE hR hlen rest G FR w hPI hH
  rw [Lies_iff] at hL
  obtain ⟨hF, hRS, hKd⟩ := hL
  have hF3 := hF.2.2
  rw [sizeN_eq] at hlen
  rw [filesS_eq] at hPI
  refine DoesP_enter (args := [yielV l, ptV gn, ptV ga]) 40 Tryd.func37 rfl rfl (of_decide_eq_true rfl) ?_
  simp only [Env.ofArgs]
  (repeat with_reducible refine VG_seq ?_); refine VG_region [1, 2, 3] (by kernel_rfl) fun K hK => ?_; simp only [go_sem,↓reduceIte,Nat.reduceEqDiff]
  refine MemK_box ?_
  simp only [go_sem,↓reduceIte,Nat.reduceEqDiff]
  have hH1 := hH.box 65 [yielV l]
  generalize w.alloc (Obj.cells [yielV l].toArray _) = w1 at *
  generalize w.heap.size = gy at *
  clear hH
  (refine hK _ _ ?_; clear hK)
  have hH2 : Heap w0 [] w1 (G ++ Res.blk gn 24 (nodeV t) :: Res.blk ga 9 [Str ahead] :: Res.blk gy 65 [yielV l] :: FR) := by
    refine hH1.perm ?_
    refine List.perm_middle.symm.trans ?_
    refine List.Perm.append_left G ?_
    exact (List.Perm.swap _ _ _).trans ((List.Perm.swap _ _ _).cons _)
  clear hH1
  have hC := (Heap.under G [Res.blk gn 24 (nodeV t), Res.blk ga 9 [Str ahead], Res.blk gy 65 [yielV l]] hH2)
  have c3 : w1.cell? ⟨gn, 2 + 1, none⟩ = some (.slice t.place t.kids.length t.cap) := blk_cell (hC.at 0 rfl) rfl
  (repeat with_reducible refine VG_seq ?_); refine VG_region [2, 3, 8, 9, 10] (by kernel_rfl) fun K hK => ?_; simp only [go_sem,↓reduceIte,Nat.reduceEqDiff]
  refine ⟨_, c3, ?_⟩
  (try simp only [go_sem,↓reduceIte,Nat.reduceEqDiff])
  (refine hK _ _ ?_; clear hK)
  ((repeat with_reducible refine VG_seq ?_); refine VG_block ?_)
  refine VG_loopD rfl [2, 3, 8, 9, 10] (fun m D e w' => ∃ (i : Nat) (ms : List Nat) (G : List Res), Is e [(2, ptV ga), (3, ptV gy), (8, .slice t.place t.kids.length t.cap), (9, .int .i64 t.kids.length), (10, .int .i64 i)] ∧ D = ms.map markD ∧
      Heap w0 [] w' (G ++ (Res.blk gn 24 (nodeV t) :: Res.blk ga 9 [Str ahead] :: Res.blk gy 65 [yielV l] :: (markR ms ++ FR))) ∧ PI (filesL (t.kids.drop i) ahead ++ rest) G ∧ i ≤ t.kids.length ∧ m = t.kids.length - i) t.kids.length ?_ ?_ -- LOOP
  · simp only [go_sem,↓reduceIte,Nat.reduceEqDiff]
    exact ⟨0, [], G, rfl, rfl, hH2, hPI, by omega, rfl⟩
  clear hH2 hC c3 hPI G w w1
  rintro m D e w ⟨i, ms, G, rfl, rfl, hH, hPI, hi, rfl⟩
  have fin : ∀ {e : Env} {N : Nat} {w' : World} {G' : List Res} {ms : List Nat}, (PI rest G' ∨ PE G') → Heap w0 [] w' (markR ms ++ (G' ++ FR)) → ∀ a n, FitsG N (ms.map markD) e a →
      postG Tryd.prog Tryd.f37 (fun _ w' => ∃ G', Heap w0 [] w' (G' ++ FR) ∧ (PI rest G' ∨ PE G')) noPn .ret a (w'.drewN n) :=
    fun h hh => retN hh fun w2 h2 => VX_ret0 rfl ⟨_, h2, h⟩
  have tidy : ∀ {w' : World} {G' : List Res} {ms : List Nat}, Heap w0 [] w' (G' ++ (Res.blk gn 24 (nodeV t) :: Res.blk ga 9 [Str ahead] :: Res.blk gy 65 [yielV l] :: (markR ms ++ FR))) → Heap w0 [] w' (markR ms ++ (G' ++ FR)) :=
    fun {w' G' ms} hh => Heap.under G' (markR ms) (hh.sub (List.Sublist.append_left (.cons _ (.cons _ (.cons _ (.refl _)))) G'))
  have hC := Heap.under G [Res.blk gn 24 (nodeV t), Res.blk ga 9 [Str ahead], Res.blk gy 65 [yielV l]] hH
  (repeat with_reducible refine VG_seq ?_); refine VG_region [2, 3, 8, 9, 10, 11] (by kernel_rfl) fun K hK => ?_; simp only [go_sem,↓reduceIte,Nat.reduceEqDiff]
  ((repeat refine And.intro (by omega) ?_); refine hK _ _ ?_; clear hK)
  (repeat with_reducible refine VG_seq ?_)
  refine VG_cond rfl rfl (fun h => ?_) (fun h => ?_) -- t11
  · simp only [decide_eq_true_eq] at h
    have h1 : i < t.kids.length := by omega
    refine VG_skip ?_
    ((repeat with_reducible refine VG_seq ?_); refine VG_block ?_)
    obtain ⟨x, hx⟩ : ∃ x, t.kids[i]? = some x := ⟨_, List.getElem?_eq_getElem h1⟩
    have hxm : x ∈ t.kids := List.mem_of_getElem? hx
    have hdr : t.kids.drop i = x :: t.kids.drop (i + 1) := by
      rw [List.drop_eq_getElem_cons h1]; congr 1
      rw [List.getElem?_eq_getElem h1] at hx; exact Option.some.inj hx
    rw [hdr, filesL] at hPI
    have hxL := hKd x hxm
    have hxF : x.Fits := ((Lies_iff _ _).1 hxL).1
    cases hpl : t.place with
    | none => have := hRS.2.1 hpl; omega
    | some p =>
    rw [hpl] at hRS
    have hrd := rs_node (hH.rs' hRS) hx
    have hszx : sizeN x ≤ sizeL t.kids := by
      have := sizeL_take t.kids (i + 1)
      rw [take_snoc hx, sizeL_append] at this
      simp only [sizeL] at this
      omega
    have hxF1 := hxF.1
    (repeat with_reducible refine VG_seq ?_); refine VG_region [2, 3, 5, 8, 9, 10] (by kernel_rfl) fun K hK => ?_; simp only [go_sem,↓reduceIte,Nat.reduceEqDiff]
    refine ⟨⟨by omega, by omega⟩, nodeV x, ⟨rfl, hrd⟩, ?_⟩
    (try simp only [go_sem,↓reduceIte,Nat.reduceEqDiff])
    refine MemK_alloc (.agg #[.string ⟨#[]⟩, .bool false, .string ⟨#[]⟩, .slice none 0 0]) (by kernel_rfl) ?_
    simp only [go_sem,↓reduceIte,Nat.reduceEqDiff]
    have hH1 := hC.box 24 [.string ⟨#[]⟩, .bool false, .string ⟨#[]⟩, .slice none 0 0]
    generalize w.alloc (Obj.cells [Value.string ⟨#[]⟩, .bool false, .string ⟨#[]⟩, .slice none 0 0].toArray 24) = w3 at *
    generalize w.heap.size = gb at *
    refine MemK_store ?_
    simp only [go_sem,↓reduceIte,Nat.reduceEqDiff]
    refine StoreK_blk hH1 0 (vs := nodeV x) rfl rfl (by kernel_rfl) (by simp [nodeV]) (nodeV_one x) fun w4 hH2 => ?_
    have hH2 : Heap w0 [] w4 (Res.blk gb 24 (nodeV x) :: ([Res.blk gn 24 (nodeV t), Res.blk ga 9 [Str ahead], Res.blk gy 65 [yielV l]] ++ (G ++ (markR ms ++ FR)))) := hH2
    clear hH1 hC hH
    (try simp only [go_sem,↓reduceIte,Nat.reduceEqDiff])
    (refine hK _ _ ?_; clear hK)
    obtain ⟨d0, d1, d2, d3⟩ := node_cells (hH2.at 0 rfl)
    have ca : w4.cell? ⟨ga, 0, none⟩ = some (Str ahead) := blk_cell (hH2.at 2 rfl) rfl
    have cy : w4.cell? ⟨gy, 0, none⟩ = some (yielV l) := blk_cell (hH2.at 3 rfl) rfl
    (repeat with_reducible refine VG_seq ?_); refine VG_region [2, 3, 5, 8, 9, 10, 16] (by kernel_rfl) fun K hK => ?_; simp only [go_sem,↓reduceIte,Nat.reduceEqDiff]
    refine ⟨_, d1, ?_⟩
    (try simp only [go_sem,↓reduceIte,Nat.reduceEqDiff])
    (refine hK _ _ ?_; clear hK)
    (repeat with_reducible refine VG_seq ?_)
    refine VG_cond rfl rfl (fun h => ?_) (fun h => VG_skip ?_) -- t16
    · have hd : x.dir = false := by simpa using h
      rw [hd, if_neg (by simp), List.cons_append, List.nil_append, List.cons_append] at hPI
      have hHG := Heap.under (Res.blk gb 24 (nodeV x) :: [Res.blk gn 24 (nodeV t), Res.blk ga 9 [Str ahead], Res.blk gy 65 [yielV l]]) G hH2
      (repeat with_reducible refine VG_seq ?_); refine VG_regionS [2, 3, 8, 9, 10, 26] [8] (by kernel_rfl) fun K hK => ?_; simp only [go_sem, List.take_succ_cons, List.take_zero, List.drop_succ_cons, List.drop_zero,↓reduceIte,Nat.reduceEqDiff]
      refine ⟨_, cy, _, ca, _, d0, ?_⟩
      (try simp only [go_sem,↓reduceIte,Nat.reduceEqDiff])
      refine And.intro (by omega) ⟨_, d2, ?_⟩
      (try simp only [go_sem,↓reduceIte,Nat.reduceEqDiff])
      refine SpecK_yield ?_
      simp only [go_sem,↓reduceIte,Nat.reduceEqDiff]
      refine ⟨l, rfl, (hR (ahead ++ x.name, x.data) _ G _ w4 hPI hHG).mono ?_⟩
      rintro v w5 ⟨G', hH5, hv⟩
      have hH6 : Heap w0 [] w5 (G' ++ (Res.blk gn 24 (nodeV t) :: Res.blk ga 9 [Str ahead] :: Res.blk gy 65 [yielV l] :: (markR ms ++ FR))) :=
        hH5.sub (List.Sublist.append_left (.cons _ (.refl _)) G')
      clear hH5 hHG hH2
      rcases hv with ⟨rfl, hPI5⟩ | ⟨rfl, hPE5⟩
      · (try simp only [go_sem,↓reduceIte,Nat.reduceEqDiff])
        (refine hK _ _ ?_; clear hK)
        (repeat with_reducible refine VG_seq ?_)
        refine VG_cond rfl rfl (fun h => by simp at h) (fun h => VG_skip ?_)
        refine VG_exit rfl ?_
        (repeat with_reducible refine VG_seq ?_); refine VG_region [2, 3, 8, 9, 10] (by kernel_rfl) fun K hK => ?_; simp only [go_sem,↓reduceIte,Nat.reduceEqDiff]
        ((repeat refine And.intro (by omega) ?_); refine hK _ _ ?_; clear hK)
        refine VG_nilD [2, 3, 8, 9, 10] ?_
        simp only [go_sem,↓reduceIte,Nat.reduceEqDiff]
        exact ⟨t.kids.length - (i + 1), by omega, i + 1, ms, G', rfl, rfl, hH6, hPI5, by omega, rfl⟩
      · (try simp only [go_sem,↓reduceIte,Nat.reduceEqDiff])
        (refine hK _ _ ?_; clear hK)
        (repeat with_reducible refine VG_seq ?_)
        refine VG_cond rfl rfl (fun h => ?_) (fun h => by simp at h)
        refine VG_ret fun a n ha => ?_
        simp only [loopP, contG]
        exact fin (.inr hPE5) (tidy hH6) a n ha
    have hd : x.dir = true := by simpa using h
    rw [hd, if_pos rfl, List.append_assoc] at hPI
    (repeat with_reducible refine VG_seq ?_); refine VG_region [2, 3, 8, 9, 10, 33] (by kernel_rfl) fun K hK => ?_; simp only [go_sem,↓reduceIte,Nat.reduceEqDiff]
    refine ⟨nodeV x, ⟨rfl, blk_reads (hH2.at 0 rfl)⟩, _, ca, _, d0, ?_⟩
    (try simp only [go_sem,↓reduceIte,Nat.reduceEqDiff])
    refine And.intro (by omega) ?_
    (try simp only [go_sem,↓reduceIte,Nat.reduceEqDiff])
    refine And.intro (by simp; omega) ?_
    refine MemK_callD Tryd.call20 (tfiles_does x (ahead ++ x.name ++ [47]) w4) (by simp only [go_sem,↓reduceIte,Nat.reduceEqDiff] <;> rfl) ?_
    rintro v w5 ⟨gn2, ga2, rfl, hHf⟩
    have hH3 := hH2.call0 hHf
    clear hHf hH2
    (try simp only [go_sem,↓reduceIte,Nat.reduceEqDiff])
    (refine hK _ _ ?_; clear hK)
    ((repeat with_reducible refine VG_seq ?_); refine VG_block ?_)
    refine VG_rangeFunc rfl rfl (fun _ _ => rfl) fun r r1 r2 r3 r4 r5 r6 r7 r8 => ?_
    generalize hdr : w5.heap.size = dr at *
    have hH4 := (hH3.newObj (.deferred (some []))).newObj (.loop r)
    rw [show (w5.alloc (.deferred (some []))).heap.size = dr + 1 by rw [← hdr]; show (w5.heap.push _).size = _; rw [Array.size_push], hdr] at hH4
    clear r6
    generalize (w5.alloc (Obj.deferred (some []))).alloc (Obj.loop r) = wl at *
    have hr := Loop.same r1 r2
    have hH5 : Heap w0 [] wl (Res.obj (dr + 1) (.loop r) :: Res.obj dr (.deferred (some [])) :: Res.blk ga2 9 [Str (ahead ++ x.name ++ [47])] :: Res.blk gn2 24 (nodeV x) :: Res.blk gb 24 (nodeV x) :: Res.blk gn 24 (nodeV t) :: Res.blk ga 9 [Str ahead] :: Res.blk gy 65 [yielV l] :: (G ++ (markR ms ++ FR))) := hH4
    clear hH4 hH3
    have hH6 := (((hH5.front 2 rfl).front 3 rfl).front 7 rfl).front 3 rfl
    have hH7 := Heap.under2 (Res.obj (dr + 1) (.loop r)) (Res.blk gy 65 [yielV l]) [Res.blk gn2 24 (nodeV x), Res.blk ga2 9 [Str (ahead ++ x.name ++ [47])], Res.obj dr (.deferred (some [])), Res.blk gb 24 (nodeV x), Res.blk gn 24 (nodeV t), Res.blk ga 9 [Str ahead]] G hH6
    clear hH5 hH6
    refine (ih x hxm hxL (ahead ++ x.name ++ [47]) (dr + 1) gn2 ga2
      (fun l0 G0 => ∃ G, G0 = Res.obj (dr + 1) (.loop r) :: Res.blk gy 65 [yielV l] :: G ∧ PI l0 G)
      (fun G0 => ∃ G, G0 = Res.obj (dr + 1) (.loop { r with state := .done, pending := some .ret }) :: Res.blk gy 65 [yielV l] :: G ∧ PE G) ?_ (by simp; omega)
      (filesL (t.kids.drop (i + 1)) ahead ++ rest) (Res.obj (dr + 1) (.loop r) :: Res.blk gy 65 [yielV l] :: G)
      (Res.obj dr (.deferred (some [])) :: Res.blk gb 24 (nodeV x) :: Res.blk gn 24 (nodeV t) :: Res.blk ga 9 [Str ahead] :: (markR ms ++ FR)) wl ⟨G, rfl, hPI⟩ hH7).mono ?_ (fun _ _ h => h)
    · rintro x2 rest2 G0 FR2 w6 ⟨G2, rfl, hPI2⟩ hH8
      have hH8 : Heap w0 [] w6 (Res.obj (dr + 1) (.loop r) :: Res.blk gy 65 [yielV l] :: (G2 ++ FR2)) := hH8
      refine YieldK_round (N := 40) (e := (34, enA x2) :: [(2, ptV ga), (3, ptV gy), (8, .slice (some p) t.kids.length t.cap), (9, .int .i64 t.kids.length), (10, .int .i64 i), (33, filesV gn2 ga2)]) (hH8.at 0 rfl) r1 r7 (by rw [r3]; rfl) (round_env r3 (by rw [r7]; decide) r8) ?_
      refine (congrArg (fun c => VG _ [.code c] _ _) r4).mpr ?_
      (repeat with_reducible refine VG_seq ?_); refine VG_region [3, 6] (by kernel_rfl) fun K hK => ?_; simp only [go_sem,↓reduceIte,Nat.reduceEqDiff]
      refine MemK_alloc (.agg #[.string ⟨#[]⟩, .string ⟨#[]⟩]) (by kernel_rfl) ?_
      simp only [go_sem,↓reduceIte,Nat.reduceEqDiff]
      have hH9 := hH8.box 38 [.string ⟨#[]⟩, .string ⟨#[]⟩]
      generalize w6.alloc (Obj.cells [Value.string ⟨#[]⟩, .string ⟨#[]⟩].toArray 38) = w7 at *
      generalize w6.heap.size = gx at *
      refine MemK_store ?_
      simp only [go_sem,↓reduceIte,Nat.reduceEqDiff]
      refine StoreK_blk hH9 0 (vs := enV x2) rfl rfl (by kernel_rfl) (by simp [enV]) (enV_one x2) fun w8 hH10 => ?_
      have hH10 : Heap w0 [] w8 (Res.blk gx 38 (enV x2) :: Res.obj (dr + 1) (.loop r) :: Res.blk gy 65 [yielV l] :: (G2 ++ FR2)) := hH10
      clear hH9 hH8
      (try simp only [go_sem,↓reduceIte,Nat.reduceEqDiff])
      (refine hK _ _ ?_; clear hK)
      refine VG_nil fun a n hf => ⟨rfl, _, _, n, rfl, hf, hH10.at 1 rfl, ?_⟩
      have hHb := (hH10.front 1 rfl).put (.loop { r with state := .busy })
      generalize w8.putObj (dr + 1) (Obj.loop { r with state := .busy }) = wb at *
      clear hH10 hf a n
      refine (congrArg (fun c => VG _ [.code c] _ _) r5).mpr ?_
      ((repeat with_reducible refine VG_seq ?_); refine VG_block ?_)
      have cy : wb.cell? ⟨gy, 0, none⟩ = some (yielV l) := blk_cell (hHb.at 2 rfl) rfl
      have hHG := Heap.under [Res.obj (dr + 1) (.loop { r with state := .busy }), Res.blk gx 38 (enV x2), Res.blk gy 65 [yielV l]] G2 hHb
      (repeat with_reducible refine VG_seq ?_); refine VG_regionS [38] [2] (by kernel_rfl) fun K hK => ?_; simp only [go_sem, List.take_succ_cons, List.take_zero, List.drop_succ_cons, List.drop_zero,↓reduceIte,Nat.reduceEqDiff]
      refine ⟨_, cy, enV x2, ⟨rfl, blk_reads (hHb.at 1 rfl)⟩, ?_⟩
      (try simp only [go_sem,↓reduceIte,Nat.reduceEqDiff])
      refine SpecK_yield ?_
      simp only [go_sem,↓reduceIte,Nat.reduceEqDiff]
      refine ⟨l, rfl, (hR x2 rest2 G2 _ wb hPI2 hHG).mono ?_⟩
      rintro v w9 ⟨G3, hH11, hv⟩
      have hH12 : Heap w0 [] w9 (Res.obj (dr + 1) (.loop { r with state := .busy }) :: Res.blk gx 38 (enV x2) :: Res.blk gy 65 [yielV l] :: (G3 ++ FR2)) :=
        Heap.under G3 [Res.obj (dr + 1) (.loop { r with state := .busy }), Res.blk gx 38 (enV x2), Res.blk gy 65 [yielV l]] hH11
      have hH13 : Heap w0 [] w9 (Res.obj (dr + 1) (.loop { r with state := .busy }) :: Res.blk gy 65 [yielV l] :: (G3 ++ FR2)) := hH12.sub (.cons_cons _ (.cons _ (.refl _)))
      clear hH11 hHb hHG hH12
      rcases hv with ⟨rfl, hPI5⟩ | ⟨rfl, hPE5⟩
      · (try simp only [go_sem,↓reduceIte,Nat.reduceEqDiff])
        (refine hK _ _ ?_; clear hK)
        (repeat with_reducible refine VG_seq ?_)
        refine VG_cond rfl rfl (fun h => by simp at h) (fun h => VG_skip ?_)
        refine VG_blk (VG_nil fun a n hf => ⟨_, n, rfl, hH13.at 0 rfl, ?_⟩)
        rw [hr]
        exact ⟨_, hH13.put (.loop r), .inl ⟨rfl, G3, rfl, hPI5⟩⟩
      · (try simp only [go_sem,↓reduceIte,Nat.reduceEqDiff])
        (refine hK _ _ ?_; clear hK)
        (repeat with_reducible refine VG_seq ?_)
        refine VG_cond rfl rfl (fun h => ?_) (fun h => by simp at h)
        refine VG_ret fun a n hf => ⟨_, n, rfl, hH13.at 0 rfl, ?_⟩
        exact ⟨_, hH13.put (.loop { r with state := .done, pending := some .ret }), .inr ⟨rfl, G3, rfl, hPE5⟩⟩
    · rintro _ w6 ⟨G0, hH8, hv⟩
      rcases hv with ⟨G2, rfl, hPI5⟩ | ⟨G2, rfl, hPE5⟩
      · have hH9 : Heap w0 [] w6 (Res.obj (dr + 1) (.loop r) :: Res.blk gy 65 [yielV l] :: (G2 ++ (Res.obj dr (.deferred (some [])) :: Res.blk gb 24 (nodeV x) :: Res.blk gn 24 (nodeV t) :: Res.blk ga 9 [Str ahead] :: (markR ms ++ FR)))) := hH8
        refine ⟨.ready, none, ?_, by simp, ?_⟩
        · rw [hr]
          exact hH9.at 0 rfl
        simp only
        have hHs := hH9.put (.loop { r with state := .exhausted, pending := none })
        generalize w6.putObj (dr + 1) (Obj.loop { r with state := .exhausted, pending := none }) = wb at *
        have hHt := Heap.under [Res.blk gy 65 [yielV l]] G2 (hHs.sub (List.sublist_cons_self _ _))
        have hHu : Heap w0 [] wb (G2 ++ (Res.blk gn 24 (nodeV t) :: Res.blk ga 9 [Str ahead] :: Res.blk gy 65 [yielV l] :: (markR (dr :: ms) ++ FR))) := by
          have h1 : Heap w0 [] wb (G2 ++ (Res.blk gy 65 [yielV l] :: Res.obj dr (.deferred (some [])) :: Res.blk gn 24 (nodeV t) :: Res.blk ga 9 [Str ahead] :: (markR ms ++ FR))) :=
            hHt.sub (List.Sublist.append_left (.cons_cons _ (.cons_cons _ (.cons _ (.refl _)))) G2)
          refine h1.perm (List.Perm.append_left G2 ?_)
          exact (List.perm_append_comm (l₁ := [Res.blk gy 65 [yielV l], Res.obj dr (.deferred (some []))]) (l₂ := [Res.blk gn 24 (nodeV t), Res.blk ga 9 [Str ahead]])).append_right (markR ms ++ FR)
        clear hH8 hH9 hHs hHt hR ih fin tidy r1 r2 r3 r4 r5 r7 r8 hr
        refine VG_blk ?_
        (repeat with_reducible refine VG_seq ?_); refine VG_region [2, 3, 8, 9, 10] (by kernel_rfl) fun K hK => ?_; simp only [go_sem,↓reduceIte,Nat.reduceEqDiff]
        ((repeat refine And.intro (by omega) ?_); refine hK _ _ ?_; clear hK)
        refine VG_nilD [2, 3, 8, 9, 10] ?_
        simp only [go_sem,↓reduceIte,Nat.reduceEqDiff]
        exact ⟨t.kids.length - (i + 1), by omega, i + 1, dr :: ms, G2, rfl, rfl, hHu, hPI5, by omega, rfl⟩
      · have hH9 : Heap w0 [] w6 (Res.obj (dr + 1) (.loop { r with state := .done, pending := some .ret }) :: Res.blk gy 65 [yielV l] :: (G2 ++ (Res.obj dr (.deferred (some [])) :: Res.blk gb 24 (nodeV x) :: Res.blk gn 24 (nodeV t) :: Res.blk ga 9 [Str ahead] :: (markR ms ++ FR)))) := hH8
        refine ⟨.done, some .ret, hH9.at 0 rfl, by simp, ?_⟩
        simp only
        have hHs := hH9.put (.loop { r with state := .exhausted, pending := some .ret })
        generalize w6.putObj (dr + 1) (Obj.loop { r with state := .exhausted, pending := some .ret }) = wb at *
        have hHt : Heap w0 [] wb (G2 ++ (markR (dr :: ms) ++ FR)) := hHs.sub (.cons _ (.cons _ (List.Sublist.append_left (.cons_cons _ (.cons _ (.cons _ (.cons _ (.refl _))))) G2)))
        refine VG_ret fun a n ha => ?_
        simp only [loopP, contG]
        exact fin (ms := dr :: ms) (.inr hPE5) (Heap.under G2 (markR (dr :: ms)) hHt) a n ha
  · simp only [decide_eq_false_iff_not] at h
    obtain rfl : i = t.kids.length := by omega
    rw [List.drop_length, filesL, List.nil_append] at hPI
    refine VG_exitOut rfl fun a n ha => ?_
    simp only [loopP, contG]
    exact fin (.inl hPI) (tidy hH) a n ha
end Go.Proofs.YtklpiecolpnmlaaDoor
