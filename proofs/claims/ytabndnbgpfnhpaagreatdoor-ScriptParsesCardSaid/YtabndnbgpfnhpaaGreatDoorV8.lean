/- What the proof leans on, part 8: no conditions. -/
import Derived.Test.YtabndnbgpfnhpaaGreatDoorV7
namespace Go.Proofs.YtabndnbgpfnhpaaGreatDoor
open Go Go.Eng
set_option maxRecDepth 100000
set_option linter.unusedSimpArgs false
set_option linter.unusedVariables false
abbrev faultV (e : Int) : Value := .iface 356 (.agg #[.int .i64 e])
abbrev faultP (e : Int) : List PanicEntry := [{ v := faultV e, recovered := false }]
theorem headMust_does (b : Bool) (w : World) : DoesP Tryz.prog 280 #[.bool b] w (fun _ w' => w' = w ∧ b = true) (fun c w' => w' = w ∧ b = false ∧ c = faultP 120) := by
  refine DoesP_enter (args := [.bool b]) 6 Tryz.func280 rfl rfl (of_decide_eq_true rfl) ?_
  simp only [Env.ofArgs]
  refine GS [3] ?_
  refine VG_cond rfl rfl (fun h => ?_) (fun h => ?_)
  · (repeat with_reducible refine VG_seq ?_); refine VG_regionS [] [2] (by kernel_rfl) fun K hK => ?_; simp only [go_sem, List.take_succ_cons, List.take_zero, List.drop_succ_cons, List.drop_zero,↓reduceIte,Nat.reduceEqDiff]
    refine SpecK_panic ?_
    refine Qs ?_
    exact ⟨⟨_, _, rfl⟩, panic0 ⟨rfl, by simpa using h, rfl⟩⟩
  · refine VG_skip (VG_nil (nil0 (VX_ret0 rfl ⟨rfl, by simpa using h⟩)))
theorem headTake_does (g gs gr at_ n : Nat) (s : List UInt8) (w : World) (hn : n ≤ 64) (ha : at_ ≤ 8 * s.length) (hs : s.length ≤ 1000000000000000)
    (hL : Heap w (rd g gs s at_).foot w [rd g gs s at_]) (hc : w.cell? ⟨gr, 0, none⟩ = some (.pointer (some ⟨g, 0, none⟩))) :
    DoesP Tryz.prog 279 #[.int .i64 n, .pointer (some ⟨gr, 0, none⟩)] w
      (fun v w' => at_ + n ≤ 8 * s.length ∧ Heap w (rd g gs s at_).foot w' [rd g gs s (at_ + n)] ∧ v = .int .u64 (numB (((bytesB s).drop at_).take n)))
      (fun c w' => w' = w ∧ 8 * s.length < at_ + n ∧ c = faultP 10) := by
  refine DoesP_enter (args := [.int .i64 n, .pointer (some ⟨gr, 0, none⟩)]) 18 Tryz.func279 rfl rfl (of_decide_eq_true rfl) ?_
  simp only [Env.ofArgs]
  refine GS [0, 1] ?_
  refine GQ [4, 5] fun K hK => ?_
  refine ⟨_, hc, ?_⟩
  refine MemK_call Tryz.call228 ?_; refine Qs ?_; refine CallK.mk (rtake_does g gs s at_ n w hn ha hs hL) ?_
  rintro v w2 (⟨h1, rfl, rfl⟩ | ⟨h1, hH, rfl⟩)
  · skip
    apply hK; clear hK
    refine GS [4, 5, 13] ?_
    (repeat with_reducible refine VG_seq ?_)
    refine VG_cond rfl rfl (fun h => ?_) (fun h => by simp at h)
    (repeat with_reducible refine VG_seq ?_); refine VG_regionS [] [3] (by kernel_rfl) fun K hK => ?_; simp only [go_sem, List.take_succ_cons, List.take_zero, List.drop_succ_cons, List.drop_zero,↓reduceIte,Nat.reduceEqDiff]
    refine SpecK_panic ?_
    refine Qs ?_
    exact ⟨⟨_, _, rfl⟩, panic0 ⟨rfl, h1, rfl⟩⟩
  · skip
    apply hK; clear hK
    refine GS [4, 5, 13] ?_
    (repeat with_reducible refine VG_seq ?_)
    refine VG_cond rfl rfl (fun h => by simp at h) (fun h => VG_skip ?_)
    refine GS [3] ?_
    exact VG_ret (ret0 (VX_ret1 rfl rfl ⟨h1, hH, rfl⟩))
end Go.Proofs.YtabndnbgpfnhpaaGreatDoor
namespace Go.Proofs.YtabndnbgpfnhpaaGreatDoor
open Go Go.Eng
set_option maxRecDepth 100000
set_option maxHeartbeats 2000000
set_option linter.unusedSimpArgs false
set_option linter.unusedVariables false
abbrev pt (g : Nat) : Value := .pointer (some ⟨g, 0, none⟩)
abbrev headR (gA gB gC gD : Nat) (sum row tn e : Value) : Res := Res.bag [Res.blk gA 77 [sum], Res.blk gB 3 [row], Res.blk gC 3 [tn], Res.blk gD 24 [e]]
theorem headQuiet_does (gA gB gC gD : Nat) (w : World) : ∀ n, CallsDIn Fence.wide 0 Tryz.prog 278 #[pt gA, pt gB, pt gC, pt gD] .returning (w.drewN n) (fun e2 u2 w' => (∃ x, e2 = .returned x) ∧ u2 = .returning ∧ ∃ w1 m, w' = w1.drewN m ∧ w1 = w) := by
  refine callsD_rec (args := [pt gA, pt gB, pt gC, pt gD]) (v := .nilIface) (N := 20) Tryz.func278 rfl rfl rfl (by simp) (of_decide_eq_true rfl) (of_decide_eq_true rfl) (.inl ⟨rfl, rfl, rfl⟩) ?_
  simp only [Env.ofArgs]
  refine GQ [0, 1, 2, 3, 4, 9] fun K hK => ?_
  rw [bn_nif (P := Tryz.prog) (T := 20) (ms := #[]) rfl]
  apply hK; clear hK
  refine VG_cond rfl rfl (fun h => by simp at h) (fun h => VG_skip (VG_nil fun a n ha => ⟨.inl rfl, ha.defers, w, n, rfl, rfl⟩))
theorem headRec_does (e : Int) (gA gB gC gD : Nat) (a b c d : Value) (w : World) (hB : Heap w (headR gA gB gC gD a b c d).foot w [headR gA gB gC gD a b c d]) :
    ∀ n, CallsDIn Fence.wide 0 Tryz.prog 278 #[pt gA, pt gB, pt gC, pt gD] (.panicking (faultP e)) (w.drewN n) (fun e2 u2 w' => (∃ x, e2 = .returned x) ∧ u2 = .panicking [{ v := faultV e, recovered := true }] ∧
      ∃ w1 m, w' = w1.drewN m ∧ Heap w (headR gA gB gC gD a b c d).foot w1 [headR gA gB gC gD (.int .u32 0) (.int .i64 0) (.int .i64 0) (.int .i64 e)]) := by
  refine callsD_rec (args := [pt gA, pt gB, pt gC, pt gD]) (v := faultV e) (N := 20) Tryz.func278 rfl rfl rfl (by simp) (of_decide_eq_true rfl) (of_decide_eq_true rfl) (.inr ⟨rfl, rfl⟩) ?_
  simp only [Env.ofArgs]
  refine GQ [0, 1, 2, 3, 4, 9] fun K hK => ?_
  rw [bn_if (P := Tryz.prog) (T := 20) (ms := #[]) rfl]
  apply hK; clear hK
  refine VG_cond rfl rfl (fun h => ?_) (fun h => by simp at h)
  refine GQ [0, 1, 2, 3, 4, 5, 6] fun K hK => ?_
  refine MemK_assert ?_
  refine Qs ?_
  refine ⟨_, rfl, by kernel_rfl, ?_⟩
  refine MemK_alloc (.agg #[.int .i64 0]) (by kernel_rfl) ?_
  refine Qs ?_
  have hH := hB.box 356 [.int .i64 0]
  generalize w.alloc (Obj.cells [Value.int IntKind.i64 0].toArray 356) = w1 at *
  generalize w.heap.size = g5 at *
  refine MemK_store ?_
  refine Qs ?_
  refine StoreK_blk hH 0 (vs := [.int .i64 e]) rfl rfl (by kernel_rfl) (by simp) (by simp [Value.oneCell']) fun w2 hH2 => ?_
  simp only [List.set_cons_zero, List.set_cons_succ] at hH2
  apply hK; clear hK
  clear hH
  (repeat with_reducible refine VG_seq ?_)
  refine GS [0, 1, 2, 3, 5, 16] ?_
  (repeat with_reducible refine VG_seq ?_)
  refine VG_cond rfl rfl (fun h => by simp at h) (fun h => VG_skip ?_)
  have hH3 := hH2.perm (.swap _ _ _)
  have hF := (hH3.focus 0 rfl).unbag
  simp only [List.append_nil] at hF
  (repeat with_reducible refine VG_seq ?_); refine VG_regionH (holes (headR gA gB gC gD a b c d).foot w2) (Ext.hole _ _) [] [(0, true), (1, true), (2, false), (3, false), (4, false), (5, false)] (by kernel_rfl) (by kernel_rfl) (by kernel_rfl) (by simp only [planned, List.filterMap_cons, List.filterMap_nil, List.getElem?_cons_succ, List.getElem?_cons_zero, Option.map_some]; rfl) fun K hK => ?_; refine Qs ?_
  refine ⟨_, hH3.hole_at 0 1 rfl rfl (by omega) rfl, ?_⟩
  refine MemK_store ?_
  refine Qs ?_
  refine StoreK_blk hF 0 (vs := [.int .u32 0]) rfl rfl (by kernel_rfl) (by simp) (by simp [Value.oneCell']) fun w3 hF1 => ?_
  simp only [List.set_cons_zero, List.set_cons_succ] at hF1
  refine ⟨hF1.upd.extH, ?_⟩
  refine MemK_store ?_
  refine Qs ?_
  refine StoreK_blk hF1 1 (vs := [.int .i64 0]) rfl rfl (by kernel_rfl) (by simp) (by simp [Value.oneCell']) fun w4 hF2 => ?_
  simp only [List.set_cons_zero, List.set_cons_succ] at hF2
  refine ⟨hF2.upd.extH, ?_⟩
  refine MemK_store ?_
  refine Qs ?_
  refine StoreK_blk hF2 2 (vs := [.int .i64 0]) rfl rfl (by kernel_rfl) (by simp) (by simp [Value.oneCell']) fun w5 hF3 => ?_
  simp only [List.set_cons_zero, List.set_cons_succ] at hF3
  refine ⟨hF3.upd.extH, ?_⟩
  refine MemK_store ?_
  refine Qs ?_
  refine StoreK_blk hF3 3 (vs := [.int .i64 e]) rfl rfl (by kernel_rfl) (by simp) (by simp [Value.oneCell']) fun w6 hF4 => ?_
  simp only [List.set_cons_zero, List.set_cons_succ] at hF4
  refine ⟨hF4.upd.extH, ?_⟩
  apply hK; clear hK
  have hF5 := Heap.bag (G := []) [Res.blk gA 77 [.int .u32 0], Res.blk gB 3 [.int .i64 0], Res.blk gC 3 [.int .i64 0], Res.blk gD 24 [.int .i64 e]] (by simpa using hF4)
  have hH4 := hH3.call1 0 rfl hF5
  simp only [List.nil_append, List.set_cons_zero] at hH4
  exact VG_nil fun a n ha => ⟨.inl rfl, ha.defers, w6, n, rfl, hH4.sub (.cons_cons _ (.cons _ (.refl _)))⟩
end Go.Proofs.YtabndnbgpfnhpaaGreatDoor
namespace Go.Proofs.YtabndnbgpfnhpaaGreatDoor
open Go Go.Eng
set_option maxRecDepth 100000
set_option maxHeartbeats 4000000
set_option linter.unusedSimpArgs false
set_option linter.unusedVariables false
def hdS (l : List Bool) (a : Nat) : Nat × Nat × Nat × Nat :=
  if l.length < a + 48 then (0, 0, 0, 10)
  else if numB ((l.drop a).take 48) ≠ 54156738319193 then (0, 0, 0, 120)
  else if l.length < a + 80 then (0, 0, 0, 10)
  else if l.length < a + 81 then (0, 0, 0, 10)
  else if numB ((l.drop (a + 80)).take 1) ≠ 0 then (0, 0, 0, 120)
  else if l.length < a + 105 then (0, 0, 0, 10)
  else (numB ((l.drop (a + 48)).take 32), numB ((l.drop (a + 81)).take 24), a + 105, 0)
def hdV (x : Nat × Nat × Nat × Nat) : Value := .tuple #[.int .u32 x.1, .int .i64 x.2.1, .int .i64 x.2.2.1, .int .i64 x.2.2.2]
theorem VX_retC4 {C : Ctx} {e : Env} {w : World} {t u s r : Tmp} {T U S R : TypeId} {a b c d : Addr} (hr : C.fn.results = #[.cell t T, .cell u U, .cell s S, .cell r R]) (ht : e.find? t = some (.pointer (some a))) (hu : e.find? u = some (.pointer (some b))) (hs : e.find? s = some (.pointer (some c))) (hq : e.find? r = some (.pointer (some d)))
    (h : vLoad C.P T (.pointer (some a)) w fun v => vLoad C.P U (.pointer (some b)) w fun x => vLoad C.P S (.pointer (some c)) w fun y => vLoad C.P R (.pointer (some d)) w fun z => C.F (.tuple #[v, x, y, z]) w) : VX C [] .ret e w := by
  intro ac n ha
  obtain ⟨v, hv, r1⟩ := run_vLoadVar h
  obtain ⟨x, hv, r2⟩ := run_vLoadVar hv
  obtain ⟨y, hv, r3⟩ := run_vLoadVar hv
  obtain ⟨z, hv, r4⟩ := run_vLoadVar hv
  refine ⟨ha.defers, .tuple #[v, x, y, z], ?_, _, w, n, rfl, rfl, hv⟩
  have h1 := ha.at_ t _ ht
  rw [Array.getD_eq_getD_getElem?] at h1
  have h2 := ha.at_ u _ hu
  rw [Array.getD_eq_getD_getElem?] at h2
  have h3 := ha.at_ s _ hs
  rw [Array.getD_eq_getD_getElem?] at h3
  have h4 := ha.at_ r _ hq
  rw [Array.getD_eq_getD_getElem?] at h4
  have q1 := r1 (w.drewN n) (Ext.drewN w n)
  have q2 := r2 (w.drewN n) (Ext.drewN w n)
  have q3 := r3 (w.drewN n) (Ext.drewN w n)
  have q4 := r4 (w.drewN n) (Ext.drewN w n)
  simp [results, hr, h1, h2, h3, h4, asAddr, q1, q2, q3, q4]
theorem vLoad_cell {P : Program} {T : TypeId} {g T' : Nat} {v : Value} {w : World} {K : Value → Prop} (h : (Res.blk g T' [v]).holds w) (hd : aggDesc (P.underlying T) = false) (hs : (P.underlying T).isSome = true) (hk : K v) : vLoad P T (.pointer (some ⟨g, 0, none⟩)) w K := by
  have hc : w.cell? ⟨g, 0, none⟩ = some v := blk_cell h rfl
  unfold vLoad
  cases hu : P.underlying T with
  | none => simp [hu] at hs
  | some d =>
    cases d <;> first
      | (exfalso; simp [aggDesc, hu] at hd; done)
      | exact ⟨v, hc, hk⟩
theorem head_res {w w1 : World} {N g4 g5 g6 g7 : Nat} {v x y z : Value} {G : List Res} {F : Value → World → Prop} (hH : Heap w [] w1 (headR g4 g5 g6 g7 v x y z :: G)) (hF : F (.tuple #[v, x, y, z]) w1) :
    VX ⟨Tryz.prog, Tryz.f229, F, N⟩ [] .ret [(4, pt g4), (5, pt g5), (6, pt g6), (7, pt g7)] w1 := by
  have hU := hH.unbag
  refine VX_retC4 rfl rfl rfl rfl rfl ?_
  refine vLoad_cell (hU.at 0 rfl) (by kernel_rfl) (by kernel_rfl) ?_
  refine vLoad_cell (hU.at 1 rfl) (by kernel_rfl) (by kernel_rfl) ?_
  refine vLoad_cell (hU.at 2 rfl) (by kernel_rfl) (by kernel_rfl) ?_
  exact vLoad_cell (hU.at 3 rfl) (by kernel_rfl) (by kernel_rfl) hF
theorem head_back {w w1 : World} {N g4 g5 g6 g7 : Nat} {v x y z : Value} {G : List Res} {F : Value → World → Prop} (e : Nat) (hH : Heap w [] w1 (headR g4 g5 g6 g7 v x y z :: G)) (hF : ∀ w', Heap w [] w' [] → F (hdV (0, 0, 0, e)) w') :
    ∀ a n, FitsG N [{ target := .fn (.func 278) #[pt g4, pt g5, pt g6, pt g7], args := #[] }] [(4, pt g4), (5, pt g5), (6, pt g6), (7, pt g7)] a →
      postG Tryz.prog Tryz.f229 F noPn (.panic (faultP e)) a (w1.drewN n) := by
  refine leave_rec (args := #[]) (cs := #[pt g4, pt g5, pt g6, pt g7]) (u := .panicking (faultP e)) (R := fun w2 => Heap w1 (headR g4 g5 g6 g7 v x y z).foot w2 [headR g4 g5 g6 g7 (.int .u32 0) (.int .i64 0) (.int .i64 0) (.int .i64 e)]) Tryz.call278 (by simp) rfl (fun n => ?_) fun w2 hR => ?_
  · have h := headRec_does e g4 g5 g6 g7 v x y z w1 (hH.focus 0 rfl) n
    obtain ⟨h1, h2⟩ := h
    refine ⟨h1, fun c cs hm hr => ?_⟩
    obtain ⟨e2, u2, w2, fr, ⟨hx, hu, hw⟩, rest⟩ := h2 c cs hm hr
    exact ⟨e2, u2, w2, fr, ⟨hx, by rw [hu]; rfl, hw⟩, rest⟩
  · have hH2 := hH.call1 0 rfl hR
    simp only [List.nil_append, List.set_cons_zero] at hH2
    exact head_res hH2 (hF _ (hH2.sub (List.nil_sublist _)))
theorem head_out {w w1 : World} {N g4 g5 g6 g7 : Nat} {v x y z : Value} {G : List Res} {F : Value → World → Prop} (hH : Heap w [] w1 (headR g4 g5 g6 g7 v x y z :: G)) (hF : F (.tuple #[v, x, y, z]) w1) :
    ∀ a n, FitsG N [{ target := .fn (.func 278) #[pt g4, pt g5, pt g6, pt g7], args := #[] }] [(4, pt g4), (5, pt g5), (6, pt g6), (7, pt g7)] a →
      postG Tryz.prog Tryz.f229 F noPn .ret a (w1.drewN n) := by
  refine leave_rec (args := #[]) (cs := #[pt g4, pt g5, pt g6, pt g7]) (u := .returning) (R := fun w2 => w2 = w1) Tryz.call278 (by simp) rfl (fun n => ?_) fun w2 hR => ?_
  · have h := headQuiet_does g4 g5 g6 g7 w1 n
    obtain ⟨h1, h2⟩ := h
    refine ⟨h1, fun c cs hm hr => ?_⟩
    obtain ⟨e2, u2, w2, fr, ⟨hx, hu, hw⟩, rest⟩ := h2 c cs hm hr
    exact ⟨e2, u2, w2, fr, ⟨hx, by rw [hu]; rfl, hw⟩, rest⟩
  · subst hR
    exact head_res hH hF
end Go.Proofs.YtabndnbgpfnhpaaGreatDoor
namespace Go.Proofs.YtabndnbgpfnhpaaGreatDoor
open Go Go.Eng
set_option maxRecDepth 100000
set_option maxHeartbeats 4000000
set_option linter.unusedSimpArgs false
set_option linter.unusedVariables false
theorem StoreK_same {P : Program} {w0 w : World} {B : List Nat} {G : List Res} (hH : Heap w0 B w G) (i : Nat) {g : Nat} {T T' : TypeId} {cs : List Value} {v : Value} {C : World → Prop} (hi : G[i]? = some (Res.blk g T' cs)) (hv : v.cells = cs.toArray) (hsz : P.szo T = some cs.length) (h1 : ∀ u ∈ cs, u.oneCell' = true)
    (h : C w) : StoreK P T (.pointer (some ⟨g, 0, none⟩)) v w C := by
  obtain ⟨fz, hg, hfz⟩ := hH.at i hi
  obtain ⟨hlt, hget⟩ := Array.getElem?_eq_some_iff.1 hg
  refine ⟨w, fun n => ?_, h⟩
  rw [run_storeVar_blk (o := 0) hv hsz hg hfz (by simp) h1 n]
  have hc : cs.take 0 ++ cs ++ cs.drop (0 + cs.length) = cs := by simp
  rw [hc]
  have : putBlk w g cs T' fz = w := by
    unfold putBlk
    have : w.heap.setIfInBounds g (.cells cs.toArray T' fz) = w.heap := by
      refine Array.ext_getElem? fun i => ?_
      rw [Array.getElem?_setIfInBounds]
      split
      · rename_i hi2; subst hi2; exact hg.symm
      · rfl
    rw [this]
  rw [this]
theorem blockHead_does (s : List UInt8) (at_ : Int) (w : World) (ha : I64 at_) (hs : s.length ≤ 1000000000000000) :
    Does Tryz.prog 229 #[Str s, .int .i64 at_] w fun v w' => Heap w [] w' [] ∧ v = if at_ < 0 ∨ 8 * (s.length : Int) < at_ then hdV (0, 0, 0, 2) else hdV (hdS (bytesB s) at_.toNat) := by
  have hbl := bytesB_length s
  refine Does_enterG (args := [Str s, .int .i64 at_]) 40 Tryz.func229 rfl rfl (of_decide_eq_true rfl) ?_
  simp only [Env.ofArgs]
  refine GQ [0, 1, 4, 5, 6, 7] fun K hK => ?_
  refine MemK_alloc (.int .u32 0) (by kernel_rfl) ?_
  refine Qs ?_
  have hH := (Heap.start w).box 77 [.int .u32 0]
  generalize w.alloc (Obj.cells [Value.int IntKind.u32 0].toArray 77) = w1 at *
  generalize w.heap.size = g4 at *
  refine MemK_alloc (.int .i64 0) (by kernel_rfl) ?_
  refine Qs ?_
  have hH2 := hH.box 3 [.int .i64 0]
  generalize w1.alloc (Obj.cells [Value.int IntKind.i64 0].toArray 3) = w2 at *
  generalize w1.heap.size = g5 at *
  refine MemK_alloc (.int .i64 0) (by kernel_rfl) ?_
  refine Qs ?_
  have hH3 := hH2.box 3 [.int .i64 0]
  generalize w2.alloc (Obj.cells [Value.int IntKind.i64 0].toArray 3) = w3 at *
  generalize w2.heap.size = g6 at *
  refine MemK_alloc (.int .i64 0) (by kernel_rfl) ?_
  refine Qs ?_
  have hH4 := hH3.box 24 [.int .i64 0]
  generalize w3.alloc (Obj.cells [Value.int IntKind.i64 0].toArray 24) = w4 at *
  generalize w3.heap.size = g7 at *
  apply hK; clear hK
  have hHB : Heap w [] w4 [headR g4 g5 g6 g7 (.int .u32 0) (.int .i64 0) (.int .i64 0) (.int .i64 0)] := Heap.bag (G := []) _ (by
    refine hH4.perm ?_
    exact (List.reverse_perm [_, _, _, _]).symm)
  clear hH hH2 hH3 hH4
  (repeat with_reducible refine VG_seq ?_); refine VG_regionD [0, 1, 4, 5, 6, 7] 1 rfl (by kernel_rfl) rfl fun K hK => ?_; simp only [go_sem, List.take_succ_cons, List.take_zero, List.drop_succ_cons, List.drop_zero,↓reduceIte,Nat.reduceEqDiff]
  refine ⟨_, _, _, rfl, ?_⟩
  (try refine Qs ?_)
  refine hK _ _ _ ?_
  clear hK K
  refine GQ [4, 5, 6, 7, 8] fun K hK => ?_
  refine MemK_call Tryz.call227 ?_; refine Qs ?_; refine CallK.mk (newReader_does s at_ w4 ha (by omega)) ?_
  rintro v w5 (⟨hbad, hHr, rfl⟩ | ⟨hgood, g, gs, hHr, rfl⟩)
  · have hH5 := hHB.call0 hHr
    simp only [List.nil_append] at hH5
    clear hHB hHr
    (try refine Qs ?_)
    refine MemK_alloc (.pointer none) (by kernel_rfl) ?_
    refine Qs ?_
    have hH6 := hH5.box 298 [.pointer none]
    generalize w5.alloc (Obj.cells [Value.pointer none].toArray 298) = w6 at *
    generalize w5.heap.size = g8 at *
    refine MemK_store ?_
    refine Qs ?_
    refine StoreK_blk hH6 0 (vs := [.pointer none]) rfl rfl (by kernel_rfl) (by simp) (by simp [Value.oneCell']) fun w7 hH7 => ?_
    simp only [List.set_cons_zero, List.set_cons_succ] at hH7
    (try refine Qs ?_)
    apply hK; clear hK
    clear hH5 hH6
    refine GQ [4, 5, 6, 7, 8, 16] fun K hK => ?_
    refine ⟨_, blk_cell (hH7.at 0 rfl) rfl, ?_⟩
    (try refine Qs ?_)
    try rw [be_ptr (P := Tryz.prog) (T := 298) rfl]
    apply hK; clear hK
    (repeat with_reducible refine VG_seq ?_)
    refine VG_cond rfl rfl (fun h => ?_) (fun h => by simp at h)
    (repeat with_reducible refine VG_seq ?_); refine VG_regionS [] [2] (by kernel_rfl) fun K hK => ?_; simp only [go_sem, List.take_succ_cons, List.take_zero, List.drop_succ_cons, List.drop_zero,↓reduceIte,Nat.reduceEqDiff]
    refine SpecK_panic ?_
    refine Qs ?_
    refine ⟨⟨_, _, rfl⟩, fun a n hf => head_back 2 (hH7.perm (.swap _ _ _)) ?_ a n (hf.sel [4, 5, 6, 7])⟩
    intro w' hw'
    rw [if_pos hbad]
    exact ⟨hw', rfl⟩
  obtain ⟨at_, rfl⟩ : ∃ n : Nat, at_ = n := ⟨at_.toNat, by omega⟩
  rw [if_neg hgood, Int.toNat_natCast] at *
  have hat : at_ ≤ 8 * s.length := by omega
  clear hgood ha
  have hH5 := hHB.call0 hHr
  simp only [List.cons_append, List.nil_append] at hH5
  clear hHB hHr
  (try refine Qs ?_)
  refine MemK_alloc (.pointer none) (by kernel_rfl) ?_
  refine Qs ?_
  have hH6 := hH5.box 298 [.pointer none]
  generalize w5.alloc (Obj.cells [Value.pointer none].toArray 298) = w6 at *
  generalize w5.heap.size = g8 at *
  refine MemK_store ?_
  refine Qs ?_
  refine StoreK_blk hH6 0 (vs := [pt g]) rfl rfl (by kernel_rfl) (by simp) (by simp [Value.oneCell']) fun w7 hH7 => ?_
  simp only [List.set_cons_zero, List.set_cons_succ] at hH7
  (try refine Qs ?_)
  apply hK; clear hK
  clear hH5 hH6
  refine GQ [4, 5, 6, 7, 8, 16] fun K hK => ?_
  refine ⟨_, blk_cell (hH7.at 0 rfl) rfl, ?_⟩
  (try refine Qs ?_)
  try rw [be_ptr (P := Tryz.prog) (T := 298) rfl]
  apply hK; clear hK
  (repeat with_reducible refine VG_seq ?_)
  refine VG_cond rfl rfl (fun h => by simp at h) (fun h => VG_skip ?_)
  refine GS [4, 5, 6, 7, 8, 9] ?_
  refine GS [4, 5, 6, 7, 8, 9, 10] ?_
  (repeat with_reducible refine VG_seq ?_); refine VG_regionS [4, 5, 6, 7, 8, 9, 10] [2, 1] (by kernel_rfl) fun K hK => ?_; simp only [go_sem, List.take_succ_cons, List.take_zero, List.drop_succ_cons, List.drop_zero,↓reduceIte,Nat.reduceEqDiff]
  refine SpecK_callv ?_
  refine Qs ?_
  refine CallP.mk Tryz.call279 (headTake_does g gs g8 at_ 48 s w7 (by omega) hat hs (hH7.focus 1 rfl) (blk_cell (hH7.at 0 rfl) rfl)) ?_ ?_
  case' refine_2 =>
    rintro c w8 ⟨rfl, h1, rfl⟩ a n hf
    refine head_back 10 (hH7.perm (List.reverse_perm [_, _, _]).symm) ?_ a n (hf.sel [4, 5, 6, 7])
    intro w' hw'
    have : hdS (bytesB s) at_ = (0, 0, 0, 10) := by rw [hdS, if_pos (by omega)]
    rw [this]
    exact ⟨hw', rfl⟩
  rintro v w8 ⟨h1, hHt, rfl⟩
  have hH8 := hH7.call1 1 rfl hHt
  simp only [List.nil_append, List.set_cons_zero, List.set_cons_succ] at hH8
  clear hH7 hHt
  generalize hm : numB (((bytesB s).drop at_).take 48) = mg at *
  simp only [go_sem, List.take_succ_cons, List.take_zero, List.drop_succ_cons, List.drop_zero,↓reduceIte,Nat.reduceEqDiff]
  refine SpecK_callv ?_
  refine Qs ?_
  refine CallP.mk Tryz.call280 (headMust_does (decide ((mg : Int) = 54156738319193)) w8) ?_ ?_
  case' refine_2 =>
    rintro c w9 ⟨rfl, h2, rfl⟩ a n hf
    simp only [decide_eq_false_iff_not] at h2
    refine head_back 120 (hH8.perm (List.reverse_perm [_, _, _]).symm) ?_ a n (hf.sel [4, 5, 6, 7])
    intro w' hw'
    have : hdS (bytesB s) at_ = (0, 0, 0, 120) := by rw [hdS, if_neg (by omega), if_pos (by rw [hm]; omega)]
    rw [this]
    exact ⟨hw', rfl⟩
  rintro v w9 ⟨rfl, h2⟩
  simp only [decide_eq_true_eq] at h2
  obtain rfl : mg = 54156738319193 := by omega
  clear h2
  have hS : hdS (bytesB s) at_ = if (bytesB s).length < at_ + 80 then (0, 0, 0, 10)
      else if (bytesB s).length < at_ + 81 then (0, 0, 0, 10)
      else if numB (((bytesB s).drop (at_ + 80)).take 1) ≠ 0 then (0, 0, 0, 120)
      else if (bytesB s).length < at_ + 105 then (0, 0, 0, 10)
      else (numB (((bytesB s).drop (at_ + 48)).take 32), numB (((bytesB s).drop (at_ + 81)).take 24), at_ + 105, 0) := by
    rw [hdS, if_neg (by omega), if_neg (by rw [hm]; omega)]
  (try refine Qs ?_)
  apply hK; clear hK
  rw [hS]
  clear hS hm
  (repeat with_reducible refine VG_seq ?_); refine VG_regionS [4, 5, 6, 7, 8, 9, 10] [1] (by kernel_rfl) fun K hK => ?_; simp only [go_sem, List.take_succ_cons, List.take_zero, List.drop_succ_cons, List.drop_zero,↓reduceIte,Nat.reduceEqDiff]
  refine SpecK_callv ?_
  refine Qs ?_
  refine CallP.mk Tryz.call279 (headTake_does g gs g8 (at_ + 48) 32 s w9 (by omega) (by omega) hs (hH8.focus 1 rfl) (blk_cell (hH8.at 0 rfl) rfl)) ?_ ?_
  case' refine_2 =>
    rintro c w8 ⟨rfl, h1, rfl⟩ a n hf
    refine head_back 10 (hH8.perm (List.reverse_perm [_, _, _]).symm) ?_ a n (hf.sel [4, 5, 6, 7])
    intro w' hw'
    rw [if_pos (by omega)]
    exact ⟨hw', rfl⟩
  rintro v w10 ⟨h2, hHt, rfl⟩
  have hH9 := hH8.call1 1 rfl hHt
  simp only [List.nil_append, List.set_cons_zero, List.set_cons_succ] at hH9
  clear hH8 hHt
  have hlt := numB_lt (((bytesB s).drop (at_ + 48)).take 32)
  have hlt2 := Nat.pow_le_pow_right (show 0 < 2 by omega) (show (((bytesB s).drop (at_ + 48)).take 32).length ≤ 32 by rw [List.length_take]; omega)
  generalize hsum : numB (((bytesB s).drop (at_ + 48)).take 32) = sum at *
  have hHA := hH9.perm (List.reverse_perm [_, _, _]).symm
  simp only [List.reverse_cons, List.reverse_nil, List.nil_append, List.cons_append] at hHA
  have hHA := hHA.unbag
  simp only [List.cons_append, List.nil_append] at hHA
  simp only [go_sem, List.take_succ_cons, List.take_zero, List.drop_succ_cons, List.drop_zero,↓reduceIte,Nat.reduceEqDiff]
  rw [show ((sum : Int) % 4294967296) = sum by omega]
  refine MemK_store ?_
  refine Qs ?_
  refine StoreK_blk hHA 0 (vs := [.int .u32 (sum : Nat)]) rfl rfl (by kernel_rfl) (by simp) (by simp [Value.oneCell']) fun w11 hHC => ?_
  simp only [List.set_cons_zero, List.set_cons_succ] at hHC
  (try refine Qs ?_)
  apply hK; clear hK
  rw [if_neg (by omega)]
  have hHD : Heap w [] w11 (headR g4 g5 g6 g7 (.int .u32 sum) (.int .i64 0) (.int .i64 0) (.int .i64 0) :: rd g gs s (at_ + 48 + 32) :: [Res.blk g8 298 [pt g]]) := Heap.bag _ hHC
  clear hHC hHA hH9
  (repeat with_reducible refine VG_seq ?_); refine VG_regionS [4, 5, 6, 7, 8, 9] [2, 1] (by kernel_rfl) fun K hK => ?_; simp only [go_sem, List.take_succ_cons, List.take_zero, List.drop_succ_cons, List.drop_zero,↓reduceIte,Nat.reduceEqDiff]
  refine SpecK_callv ?_
  refine Qs ?_
  refine CallP.mk Tryz.call279 (headTake_does g gs g8 (at_ + 48 + 32) 1 s w11 (by omega) (by omega) hs (hHD.focus 1 rfl) (blk_cell (hHD.at 2 rfl) rfl)) ?_ ?_
  case' refine_2 =>
    rintro c w8 ⟨rfl, h1, rfl⟩ a n hf
    refine head_back 10 hHD ?_ a n (hf.sel [4, 5, 6, 7])
    intro w' hw'
    rw [if_pos (by omega)]
    exact ⟨hw', rfl⟩
  rintro v w12 ⟨h3, hHt, rfl⟩
  have hHE := hHD.call1 1 rfl hHt
  simp only [List.nil_append, List.set_cons_zero, List.set_cons_succ] at hHE
  clear hHD hHt
  rw [show at_ + 48 + 32 = at_ + 80 by omega] at hHE h3 ⊢
  generalize hbt : numB (((bytesB s).drop (at_ + 80)).take 1) = bt at *
  simp only [go_sem, List.take_succ_cons, List.take_zero, List.drop_succ_cons, List.drop_zero,↓reduceIte,Nat.reduceEqDiff]
  refine SpecK_callv ?_
  refine Qs ?_
  refine CallP.mk Tryz.call280 (headMust_does (decide ((bt : Int) = 0)) w12) ?_ ?_
  case' refine_2 =>
    rintro c w9 ⟨rfl, h2, rfl⟩ a n hf
    simp only [decide_eq_false_iff_not] at h2
    refine head_back 120 hHE ?_ a n (hf.sel [4, 5, 6, 7])
    intro w' hw'
    rw [if_neg (by omega), if_pos (by omega)]
    exact ⟨hw', rfl⟩
  rintro v w13 ⟨rfl, h4⟩
  simp only [decide_eq_true_eq] at h4
  obtain rfl : bt = 0 := by omega
  (try refine Qs ?_)
  apply hK; clear hK
  rw [if_neg (by omega), if_neg (by simp)]
  (repeat with_reducible refine VG_seq ?_); refine VG_regionS [4, 5, 6, 7, 8] [1] (by kernel_rfl) fun K hK => ?_; simp only [go_sem, List.take_succ_cons, List.take_zero, List.drop_succ_cons, List.drop_zero,↓reduceIte,Nat.reduceEqDiff]
  refine SpecK_callv ?_
  refine Qs ?_
  refine CallP.mk Tryz.call279 (headTake_does g gs g8 (at_ + 80 + 1) 24 s w13 (by omega) (by omega) hs (hHE.focus 1 rfl) (blk_cell (hHE.at 2 rfl) rfl)) ?_ ?_
  case' refine_2 =>
    rintro c w8 ⟨rfl, h1, rfl⟩ a n hf
    refine head_back 10 hHE ?_ a n (hf.sel [4, 5, 6, 7])
    intro w' hw'
    rw [if_pos (by omega)]
    exact ⟨hw', rfl⟩
  rintro v w14 ⟨h5, hHt, rfl⟩
  have hHG := hHE.call1 1 rfl hHt
  simp only [List.nil_append, List.set_cons_zero, List.set_cons_succ] at hHG
  clear hHE hHt hbt h4
  rw [show at_ + 80 + 1 = at_ + 81 by omega] at hHG h5 ⊢
  have hlt3 := numB_lt (((bytesB s).drop (at_ + 81)).take 24)
  have hlt4 := Nat.pow_le_pow_right (show 0 < 2 by omega) (show (((bytesB s).drop (at_ + 81)).take 24).length ≤ 24 by rw [List.length_take]; omega)
  generalize hrow : numB (((bytesB s).drop (at_ + 81)).take 24) = row at *
  have hHI := hHG.unbag
  simp only [List.cons_append, List.nil_append] at hHI
  simp only [go_sem, List.take_succ_cons, List.take_zero, List.drop_succ_cons, List.drop_zero,↓reduceIte,Nat.reduceEqDiff]
  refine ⟨I64.mk (by omega) (by omega), ?_⟩
  refine MemK_store ?_
  refine Qs ?_
  refine StoreK_blk hHI 1 (vs := [.int .i64 (row : Nat)]) rfl rfl (by kernel_rfl) (by simp) (by simp [Value.oneCell']) fun w15 hHJ => ?_
  simp only [List.set_cons_zero, List.set_cons_succ] at hHJ
  (try refine Qs ?_)
  apply hK; clear hK
  rw [if_neg (by omega)]
  clear hHI hHG
  have hHM : Heap w [] w15 (Res.bag [Res.blk g7 24 [.int .i64 0], Res.blk g6 3 [.int .i64 0]] :: [Res.blk g4 77 [.int .u32 (sum : Nat)], Res.blk g5 3 [.int .i64 (row : Nat)], rd g gs s (at_ + 81 + 24), Res.blk g8 298 [pt g]]) :=
    Heap.bag [_, _] ((hHJ.front 2 rfl).front 3 rfl)
  clear hHJ
  have hF := (hHM.focus 0 rfl).unbag
  simp only [List.append_nil] at hF
  (repeat with_reducible refine VG_seq ?_); refine VG_regionH (holes (Res.bag [Res.blk g7 24 [.int .i64 0], Res.blk g6 3 [.int .i64 0]]).foot w15) (Ext.hole _ _) [4, 5, 6, 7] [(0, true), (1, true), (2, true), (3, false), (4, false), (5, false), (6, false), (7, false)] (by kernel_rfl) (by kernel_rfl) (by kernel_rfl) (by simp only [planned, List.filterMap_cons, List.filterMap_nil, List.getElem?_cons_succ, List.getElem?_cons_zero, Option.map_some]; rfl) fun K hK => ?_; refine Qs ?_
  refine ⟨_, hHM.hole_at 0 1 rfl rfl (by omega) rfl, ?_⟩
  (try refine Qs ?_)
  refine ⟨_, hHM.hole_at 0 2 rfl rfl (by omega) rfl, ?_⟩
  (try refine Qs ?_)
  refine ⟨_, hHM.hole_at 0 4 rfl rfl (by omega) rfl, ?_⟩
  (try refine Qs ?_)
  refine MemK_call Tryz.call281 ?_; refine Qs ?_; refine CallK.mk (at_does g gs (at_ + 81 + 24) s w15 (hHM.at 3 rfl)) ?_
  rintro v w16 ⟨rfl, rfl⟩
  refine ⟨Ext.hole _ _, ?_⟩
  (try refine Qs ?_)
  refine MemK_store ?_
  refine Qs ?_
  refine StoreK_same hHM 1 (cs := [.int .u32 (sum : Nat)]) rfl rfl (by kernel_rfl) (by simp [Value.oneCell']) ?_
  refine ⟨Ext.hole _ _, ?_⟩
  (try refine Qs ?_)
  refine MemK_store ?_
  refine Qs ?_
  refine StoreK_same hHM 2 (cs := [.int .i64 (row : Nat)]) rfl rfl (by kernel_rfl) (by simp [Value.oneCell']) ?_
  refine ⟨Ext.hole _ _, ?_⟩
  (try refine Qs ?_)
  refine MemK_store ?_
  refine Qs ?_
  refine StoreK_blk hF 1 (vs := [.int .i64 (at_ + 81 + 24 : Nat)]) rfl rfl (by kernel_rfl) (by simp) (by simp [Value.oneCell']) fun w17 hF1 => ?_
  simp only [List.set_cons_zero, List.set_cons_succ] at hF1
  refine ⟨hF1.upd.extH, ?_⟩
  (try refine Qs ?_)
  refine MemK_store ?_
  refine Qs ?_
  refine StoreK_blk hF1 0 (vs := [.int .i64 0]) rfl rfl (by kernel_rfl) (by simp) (by simp [Value.oneCell']) fun w18 hF2 => ?_
  simp only [List.set_cons_zero, List.set_cons_succ] at hF2
  refine ⟨hF2.upd.extH, ?_⟩
  (try refine Qs ?_)
  apply hK; clear hK
  have hF3 : Heap w16 (Res.bag [Res.blk g7 24 [.int .i64 0], Res.blk g6 3 [.int .i64 0]]).foot w18 [Res.bag [Res.blk g7 24 [.int .i64 0], Res.blk g6 3 [.int .i64 (at_ + 81 + 24 : Nat)]]] := Heap.bag [_, _] hF2
  have hHN := (hHM.call1 0 rfl hF3).unbag
  simp only [List.nil_append, List.set_cons_zero, List.cons_append] at hHN
  have hHO : Heap w [] w18 (headR g4 g5 g6 g7 (.int .u32 (sum : Nat)) (.int .i64 (row : Nat)) (.int .i64 (at_ + 81 + 24 : Nat)) (.int .i64 0) :: [rd g gs s (at_ + 81 + 24), Res.blk g8 298 [pt g]]) :=
    Heap.bag [_, _, _, _] ((((hHN.front 0 rfl).front 1 rfl).front 3 rfl).front 3 rfl)
  refine VG_ret fun a n hf => head_out hHO ?_ a n hf
  refine ⟨hHO.sub (List.nil_sublist _), ?_⟩
  rw [show at_ + 81 + 24 = at_ + 105 by omega]
  rfl
end Go.Proofs.YtabndnbgpfnhpaaGreatDoor
namespace Go.Ev
open Go Go.Eng Go.Proofs Go.Proofs.YtabndnbgpfnhpaaGreatDoor
set_option linter.unusedVariables false
theorem head_fact {l : List Nat} {a sum row tn e : Nat} (h1 : Nat.ble l.length 1000000000 = true) (ha : Nat.ble a (8 * l.length) = true) (h : hdS (bytesB (l.map UInt8.ofNat)) a = (sum, row, tn, e)) :
    KnFact Tryz.prog 229 [.str l, .int .i64 (.ofNat a)] (.tup [.int .u32 (.ofNat sum), .int .i64 (.ofNat row), .int .i64 (.ofNat tn), .int .i64 (.ofNat e)]) := by
  have h1 := Nat.le_of_ble_eq_true h1
  have ha := Nat.le_of_ble_eq_true ha
  refine fact_does (us := [strV l, .int .i64 (.ofNat a)]) (u := hdV (sum, row, tn, e)) Tryz.func229 rfl (by kernel_rfl) (fun s vs hr => ?_) (fun s => ?_) fun w => ?_
  · obtain ⟨u, vs', rfl, g1, g2⟩ := hr.cons_inv
    obtain ⟨u2, vs2, rfl, g3, g4⟩ := g2.cons_inv
    obtain rfl := g4.nil_inv
    obtain rfl := g3.int_inv
    cases g1
    rfl
  · exact .tup (.cons (.int _ _) (.cons (.int _ _) (.cons (.int _ _) (.cons (.int _ _) .nil))))
  · have hl : (l.map UInt8.ofNat).length = l.length := by simp
    refine (blockHead_does (l.map UInt8.ofNat) (a : Nat) w (by unfold I64; omega) (by omega)).mono fun v w' ⟨g1, g2⟩ => ⟨g1, ?_⟩
    rw [g2, if_neg (by rw [hl]; omega), Int.toNat_natCast, h]
end Go.Ev
