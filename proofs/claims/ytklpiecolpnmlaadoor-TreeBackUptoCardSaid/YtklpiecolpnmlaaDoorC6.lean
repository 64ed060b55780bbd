/- What the proof leans on, part 6: no conditions. -/
import Derived.Test.YtklpiecolpnmlaaDoorC5
import Derived.ChangeSame
import Derived.SizedLaws
import Derived.Lib.SmallJoins
import Derived.Test.YtklpiecolpnmlaaDoorRows
namespace Go.Proofs.YtklpiecolpnmlaaDoor
open Go Go.Eng
set_option maxRecDepth 100000
set_option maxHeartbeats 1000000
set_option linter.unusedSimpArgs false
set_option linter.unusedVariables false
theorem okb_47 {b : UInt8} (h : okByte b = true) : b ≠ 47 ∧ okAsc b = true := by
  simp only [okByte, Bool.and_eq_true, bne_iff_ne, decide_eq_true_eq] at h
  exact ⟨h.1.1, by simp [okAsc, h.1.2, h.2]⟩
theorem named_iff {s : List UInt8} : namedS s = true ↔ s.all okByte = true ∧ s ≠ [] ∧ s ≠ [46] ∧ s ≠ [46, 46] := by
  simp only [namedS, Bool.and_eq_true, decide_eq_true_eq]
  constructor
  · rintro ⟨⟨⟨a, b⟩, c⟩, d⟩; exact ⟨a, b, c, d⟩
  · rintro ⟨a, b, c, d⟩; exact ⟨⟨⟨a, b⟩, c⟩, d⟩
theorem named_47 {s : List UInt8} (h : namedS s = true) : (47 : UInt8) ∉ s := by
  intro hm
  exact (okb_47 (List.all_eq_true.1 (named_iff.1 h).1 47 hm)).1 rfl
theorem joinS_mem : ∀ (l : Parts) (b : UInt8), b ∈ joinS l → b = 47 ∨ ∃ x ∈ l, b ∈ x := by
  intro l
  induction l with
  | nil => intro b h; simp [joinS_nil] at h
  | cons x l ih =>
    intro b h
    cases l with
    | nil => rw [joinS_one] at h; exact .inr ⟨x, by simp, h⟩
    | cons y l =>
      rw [joinS_cons, List.mem_append, List.mem_cons] at h
      rcases h with h | h | h
      · exact .inr ⟨x, by simp, h⟩
      · exact .inl h
      · rcases ih b h with h | ⟨z, hz, hb⟩
        · exact .inl h
        · exact .inr ⟨z, List.mem_cons_of_mem _ hz, hb⟩
theorem split_mem : ∀ s : List UInt8, ∀ x ∈ splitS s, ∀ b ∈ x, b ∈ s := by
  refine split_ind (fun a h x hx b hb => ?_) (fun a r h ih x hx b hb => ?_)
  · rw [splitS_end h] at hx; simp at hx; rw [hx] at hb; exact hb
  · rw [splitS_cut r h] at hx
    rcases List.mem_cons.1 hx with rfl | hx
    · exact List.mem_append_left _ hb
    · exact List.mem_append_right _ (List.mem_cons_of_mem _ (ih x hx b hb))
theorem valid_of {ps : Parts} (hne : ps ≠ []) (hn : ∀ x ∈ ps, namedS x = true) (hl : (joinS ps).length ≤ 120) : splitS (joinS ps) = ps ∧ checkP (joinS ps) = 0 := by
  have hs : splitS (joinS ps) = ps := splitS_join ps hne fun x hx => named_47 (hn x hx)
  refine ⟨hs, ?_⟩
  have := cleanS_of (s := joinS ps) ?_ hl ?_
  · rw [checkP, if_pos this]
  · rw [List.all_eq_true]
    intro b hb
    rcases joinS_mem ps b hb with rfl | ⟨x, hx, hbx⟩
    · rfl
    · exact (okb_47 (List.all_eq_true.1 (named_iff.1 (hn x hx)).1 b hbx)).2
  · rw [hs]
    intro x hx
    exact (named_iff.1 (hn x hx)).2
theorem names_of {s : List UInt8} (h : checkP s = 0) : (∀ x ∈ splitS s, namedS x = true) ∧ (splitS s).length ≤ 60 ∧ s.length ≤ 120 := by
  unfold checkP at h
  split at h
  · rename_i hc
    obtain ⟨h1, h2, h3⟩ := cleanS_self hc
    refine ⟨fun x hx => ?_, ?_, h2⟩
    · rw [named_iff]
      refine ⟨?_, h3 x hx⟩
      rw [List.all_eq_true]
      intro b hb
      have hb1 := List.all_eq_true.1 h1 b (split_mem s x hx b hb)
      have hb2 : b ≠ 47 := fun e => splitS_no s x hx (e ▸ hb)
      simp only [okAsc, Bool.and_eq_true, decide_eq_true_eq] at hb1
      simp only [okByte, Bool.and_eq_true, bne_iff_ne, decide_eq_true_eq]
      exact ⟨⟨hb2, hb1.1⟩, hb1.2⟩
    · have e1 := joinS_len (splitS s) (splitS_ne s)
      rw [joinS_split] at e1
      have : ∀ l : Parts, (∀ x ∈ l, x ≠ []) → 2 * l.length ≤ (l.map fun x => x.length + 1).sum := by
        intro l
        induction l with
        | nil => simp
        | cons y l ih =>
          intro hy
          have h4 := List.length_pos_iff.2 (hy y (by simp))
          have h5 := ih fun x hx => hy x (List.mem_cons_of_mem _ hx)
          simp only [List.length_cons, List.map_cons, List.sum_cons]
          omega
      have := this (splitS s) fun x hx => (h3 x hx).1
      omega
  · cases h
theorem check0 {t : NT} (h : checkS t = 0) : t.dir = true ∧ t.name = [] ∧ rightS t 0 = true := by
  unfold checkS at h
  split at h
  · rename_i hh; exact hh
  · cases h
theorem walk_plain {t : NT} (h : (walkS t).2 = 0) : checkS t = 0 ∧ (walkS t).1 = filesS t [] ∧ (filesS t []).map toP = flatL (t.kids.map NT.pt) ∧ (∀ x ∈ filesS t [], checkP x.1 = 0 ∧ x.1.length ≤ 120) ∧ wL (t.kids.map NT.pt) := by
  unfold walkS at h ⊢
  by_cases hc : checkS t = 0
  · rw [if_pos hc] at h ⊢
    by_cases ha : (filesS t []).all (fun x => decide (x.1.length ≤ 120)) = true
    · rw [if_pos ha]
      obtain ⟨h1, h2, h3⟩ := check0 hc
      obtain ⟨hw, hn⟩ := right_w t 0 h3
      rw [wN_eq, pt_kids] at hw
      have hv : ∀ e ∈ flatL (t.kids.map NT.pt), splitS (joinS e.1) = e.1 ∧ checkP (joinS e.1) = 0 ∧ (joinS e.1).length ≤ 120 := by
        intro e he
        have hlen : (joinS e.1).length ≤ 120 := by
          rw [List.all_eq_true] at ha
          have := of_decide_eq_true (ha (unP [] e) (by rw [files_flat]; exact List.mem_map_of_mem he))
          simpa [unP] using this
        have := valid_of (flatL_ne he) (hn e he) hlen
        exact ⟨this.1, this.2, hlen⟩
      refine ⟨hc, rfl, ?_, ?_, hw.2⟩
      · rw [files_flat, List.map_map]
        conv => rhs; rw [← List.map_id (flatL (t.kids.map NT.pt))]
        apply List.map_congr_left
        intro e he
        simp only [Function.comp, unP, toP, List.nil_append, (hv e he).1, id]
      · intro x hx
        rw [files_flat] at hx
        obtain ⟨e, he, rfl⟩ := List.mem_map.1 hx
        exact ⟨by simpa [unP] using (hv e he).2.1, by simpa [unP] using (hv e he).2.2⟩
    · rw [if_neg ha] at h; cases h
  · rw [if_neg hc] at h; cases h
theorem toP_inj {x y : En} (h : toP x = toP y) : x = y := by
  have h1 := toP_inj1 h
  have h2 := congrArg Prod.snd h
  exact Prod.ext h1 h2
theorem built_walk {l : List En} {m : NT} (h : OutB l m 0) : (walkS m) = (filesS m [], 0) ∧ checkS m = 0 ∧ bareN m.pt = false ∧ ((filesS m []).map toP).Perm (l.map toP) ∧ Ord ((filesS m []).map toP) ∧ (l.map toP).Pairwise ApartP := by
  rcases h with ⟨_, _, h⟩ | ⟨_, _, _, h⟩ | ⟨hb, hc, _, h1, h2, h3, h4, h5⟩
  · cases h
  · cases h
  have hap : (l.map toP).Pairwise ApartP := Classical.not_not.1 hc
  have hv : ∀ e ∈ flatL (m.kids.map NT.pt), (∀ x ∈ e.1, namedS x = true) ∧ e.1.length ≤ 60 ∧ splitS (joinS e.1) = e.1 ∧ (joinS e.1).length ≤ 120 := by
    intro e he
    obtain ⟨x, hx, rfl⟩ := List.mem_map.1 (h5.mem_iff.1 he)
    have hck : checkP x.1 = 0 := Classical.byContradiction fun hn => hb ⟨x, hx, hn⟩
    obtain ⟨a1, a2, a3⟩ := names_of hck
    exact ⟨a1, a2, by rw [toP, joinS_split], by rw [toP, joinS_split]; exact a3⟩
  have hgm : m.kids ≠ [] → goodN m.pt := fun hk => by
    rw [pt_eq, goodN, if_pos h2]
    exact ⟨h3, by simpa using hk, h4⟩
  have hr : rightS m 0 = true := by
    by_cases hk : m.kids = []
    · rw [rightS_eq, hk, h2, h3]; simp [rightL]
    · exact good_right m 0 (hgm hk) (by omega) fun e he => ⟨(hv e he).1, by have := (hv e he).2.1; omega⟩
  have hck : checkS m = 0 := by unfold checkS; rw [if_pos ⟨h2, h1, hr⟩]
  have hft : (filesS m []).map toP = flatL (m.kids.map NT.pt) := by
    rw [files_flat, List.map_map]
    conv => rhs; rw [← List.map_id (flatL (m.kids.map NT.pt))]
    apply List.map_congr_left
    intro e he
    simp only [Function.comp, unP, toP, List.nil_append, (hv e he).2.2.1, id]
  refine ⟨?_, hck, ?_, by rw [hft]; exact h5, by rw [hft]; exact flatL_ord h4, hap⟩
  · unfold walkS
    rw [if_pos hck, if_pos]
    rw [List.all_eq_true]
    intro x hx
    rw [files_flat] at hx
    obtain ⟨e, he, rfl⟩ := List.mem_map.1 hx
    exact decide_eq_true (by simpa [unP] using (hv e he).2.2.2)
  · rw [bareN_eq, pt_kids]
    exact goodL_bare h4
theorem last_is {l T : List En} {m : NT} (h : OutB l m 0) (hp : T.Perm l) (hs : T.Pairwise fun a b => ¬ splitS b.1 < splitS a.1) : T = filesS m [] := by
  obtain ⟨_, _, _, h1, h2, h3⟩ := built_walk h
  have hTp : (T.map toP).Perm (l.map toP) := hp.map _
  have hTa := (perm_apart hTp).2 h3
  have hTo : Ord (T.map toP) := by
    have hs2 : (T.map toP).Pairwise fun a b => ¬ b.1 < a.1 := List.pairwise_map.2 hs
    refine List.Pairwise.imp (fun {a b} hab => ?_) (hs2.and hTa)
    obtain ⟨k1, k2, k3⟩ := hab
    refine ⟨Classical.byContradiction fun h4 => k2 ?_, k2⟩
    rw [List.le_antisymm k1 h4]
    exact List.prefix_rfl
  have := perm_flat_ord (hTp.trans h1.symm) hTo h2
  exact (List.map_inj_right (f := toP) (fun x y h => toP_inj h)).1 this
theorem apart_nodup {l : List En} (h : (l.map toP).Pairwise ApartP) : (l.map (·.1)).Nodup := by
  rw [List.Nodup, List.pairwise_map]
  rw [List.pairwise_map] at h
  refine h.imp fun {a b} hab e => hab.1 ?_
  rw [toP, toP, e]
  exact List.prefix_rfl
theorem lies_data {w : World} : ∀ t : NT, Lies w t → ∀ ahead, ∀ x ∈ filesS t ahead, x.2.length ≤ 140737488355328 := by
  refine NT.ind fun t ih hL ahead => ?_
  rw [Lies_iff] at hL
  rw [filesS_eq]
  have key : ∀ l : List NT, (∀ k ∈ l, Lies w k) → (∀ k ∈ l, Lies w k → ∀ ahead, ∀ x ∈ filesS k ahead, x.2.length ≤ 140737488355328) → ∀ x ∈ filesL l ahead, x.2.length ≤ 140737488355328 := by
    intro l
    induction l with
    | nil => intro _ _ x hx; simp [filesL] at hx
    | cons k l ihl =>
      intro h1 h2 x hx
      rw [filesL, List.mem_append] at hx
      rcases hx with hx | hx
      · split at hx
        · exact h2 k (by simp) (h1 k (by simp)) _ x hx
        · simp at hx
          rw [hx]
          exact ((Lies_iff _ _).1 (h1 k (by simp))).1.2.1
      · exact ihl (fun j hj => h1 j (List.mem_cons_of_mem _ hj)) (fun j hj => h2 j (List.mem_cons_of_mem _ hj)) x hx
  exact key t.kids hL.2.2 ih
theorem treeBack_law (t : NT) (l : List En) (a : Option Addr) (c : Nat) (w : World) (hL : Lies w t) (hl : RS w a l.length 2 (ensV l)) (hok : ∀ x ∈ l, EnS x) : Does Tryd.prog 5 #[nodeA t, .slice a l.length c] w fun v w' => Heap w [] w' [] ∧ v = .bool true := by
  refine Does_enter (args := [nodeA t, .slice a l.length c]) 127 Tryd.func5 rfl rfl (of_decide_eq_true rfl) ?_
  simp only [Env.ofArgs]
  refine VR [1, 2] rfl rfl fun K hK => ?_; simp only [go_sem,↓reduceIte,Nat.reduceEqDiff]
  refine MemK_box ?_
  simp only [go_sem,↓reduceIte,Nat.reduceEqDiff]
  have hH := (Heap.start w).box 24 (nodeV t)
  generalize w.alloc (Obj.cells (nodeV t).toArray 24) = w1 at *
  generalize hgw : w.heap.size = g at hH ⊢
  (refine hK _ _ ?_; clear hK)
  have hL1 := Lies.keep hH t hL
  refine VR [1, 2, 21] rfl rfl fun K hK => ?_; simp only [go_sem,↓reduceIte,Nat.reduceEqDiff]
  refine ⟨nodeV t, ⟨rfl, blk_reads (hH.at 0 rfl)⟩, ?_⟩
  (try simp only [go_sem,↓reduceIte,Nat.reduceEqDiff])
  refine MemK_callD Tryd.call6 (size_does t 500 w1 (by omega) (by omega) hL1) (by simp only [go_sem,↓reduceIte,Nat.reduceEqDiff] <;> rfl) ?_
  rintro v w2 ⟨hHc, rfl⟩
  have hH2 : Heap w [] w2 [Res.blk g 24 (nodeV t)] := hH.call0 hHc
  clear hHc hH
  (try simp only [go_sem,↓reduceIte,Nat.reduceEqDiff])
  suffices out : ∀ b : Bool, (b = false → sizeN t ≤ 500 ∧ l.length ≤ 200) → K [(1, .slice a l.length c), (2, ptrV g), (21, .bool b)] w2 by
    refine And.intro (fun h1 => out _ fun h2 => ?_) (fun h1 => out _ (by simp))
    rw [decide_eq_false_iff_not] at h2
    exact ⟨by omega, by omega⟩
  intro b hb
  (refine hK _ _ ?_; clear hK)
  refine VC_cond rfl rfl (fun h => ?_) (fun h => VC_skip ?_)
  · refine VR [4] rfl rfl fun K hK => ?_; simp only [go_sem,↓reduceIte,Nat.reduceEqDiff]
    refine MemK_callD Tryd.call7 (awake28_does w2) (by simp only [go_sem,↓reduceIte,Nat.reduceEqDiff] <;> rfl) ?_
    rintro v w3 ⟨hHc, rfl⟩
    (try simp only [go_sem,↓reduceIte,Nat.reduceEqDiff])
    (refine hK _ _ ?_; clear hK)
    exact VC_ret (VX_ret1 rfl rfl ⟨(hH2.sub (List.nil_sublist _)).call0 hHc, rfl⟩)
  obtain ⟨hsz, hln⟩ := hb h
  clear hb h
  have hL2 := Lies.keep hH2 t hL
  refine VR [1, 2, 5, 6] rfl rfl fun K hK => ?_; simp only [go_sem,↓reduceIte,Nat.reduceEqDiff]
  refine ⟨nodeV t, ⟨rfl, blk_reads (hH2.at 0 rfl)⟩, ?_⟩
  (try simp only [go_sem,↓reduceIte,Nat.reduceEqDiff])
  refine MemK_callD Tryd.call8 (twalk_does t w2 hL2 (by omega)) (by simp only [go_sem,↓reduceIte,Nat.reduceEqDiff] <;> rfl) ?_
  rintro v w3 ⟨a5, c5, rfl, hHc⟩
  have hH3 : Heap w [] w3 [Res.row 38 2 a5 (walkS t).1.length c5 (ensV (walkS t).1), Res.blk g 24 (nodeV t)] := hH2.call0 hHc
  clear hHc hH2
  (try simp only [go_sem,↓reduceIte,Nat.reduceEqDiff])
  (refine hK _ _ ?_; clear hK)
  refine VR [1, 2, 5, 29] rfl rfl fun K hK => ?_; simp only [go_sem,↓reduceIte,Nat.reduceEqDiff]
  ((repeat refine And.intro (by omega) ?_); refine hK _ _ ?_; clear hK)
  refine VC_cut [1] (fun e w' => Is e [(1, .slice a l.length c)] ∧ Heap w [] w' []) ?_ ?_
  · refine VC_cond rfl rfl (fun h => ?_) (fun h => VC_skip ?_)
    · have he0 : (walkS t).2 = 0 := by simpa using h
      clear h
      obtain ⟨hck, hX, hXf, hXv, hw⟩ := walk_plain he0
      rw [hX] at hH3 ⊢
      generalize hXX : filesS t [] = X at *
      have hXl : X.length ≤ 500 := by
        have := filesL_len t []
        rw [hXX] at this
        omega
      have hXs : ∀ x ∈ X, EnS x := fun x hx => ⟨by have := (hXv x hx).2; omega, lies_data t hL [] x (by rw [hXX]; exact hx)⟩
      have hXo : Ord (X.map toP) := by rw [hXf]; exact wL_ord hw
      refine VR [1, 2, 5, 7] rfl rfl fun K hK => ?_; simp only [go_sem,↓reduceIte,Nat.reduceEqDiff]
      ((repeat refine And.intro (by omega) ?_); refine hK _ _ ?_; clear hK)
      refine VC_block ?_
      refine VC_loopS [1, 2, 5, 7] (fun m e w' => ∃ (i : Nat), Is e [(1, .slice a l.length c), (2, ptrV g), (5, .slice a5 X.length c5), (7, .int .i64 i)] ∧ Heap w [] w' [Res.row 38 2 a5 X.length c5 (ensV X), Res.blk g 24 (nodeV t)] ∧ i ≤ X.length ∧ m = X.length - i) X.length ?_ ?_
      · simp only [go_sem,↓reduceIte,Nat.reduceEqDiff]
        exact ⟨0, rfl, hH3, by omega, rfl⟩
      clear hH3
      rintro m e w4 ⟨i, rfl, hH, hi, rfl⟩
      refine VR [1, 2, 5, 7, 33] rfl rfl fun K hK => ?_; simp only [go_sem,↓reduceIte,Nat.reduceEqDiff]
      ((repeat refine And.intro (by omega) ?_); refine hK _ _ ?_; clear hK)
      refine VC_cond rfl rfl (fun h => ?_) (fun h => ?_)
      · simp only [decide_eq_true_eq] at h
        have hi2 : i < X.length := by omega
        refine VC_skip ?_
        ((repeat refine VC_seq ?_); refine VC_block ?_)
        obtain ⟨y, hy⟩ : ∃ y, X[i]? = some y := ⟨_, List.getElem?_eq_getElem hi2⟩
        have hym := List.mem_of_getElem? hy
        obtain ⟨p5, rfl⟩ : ∃ p, a5 = some p := by
          cases ha : a5 with
          | none => have := (row_rs (hH.at 0 rfl)).2.1 ha; omega
          | some p => exact ⟨p, rfl⟩
        have hrs := row_rs (hH.at 0 rfl)
        have e1 := en_cells (ens_get hrs hy)
        have hyv := hXv y hym
        (repeat refine VC_seq ?_); refine VC_regionH w4 (Ext.refl _) [1, 2, 5, 7, 61] [(0, true), (1, true), (2, true), (3, true), (4, true), (5, false), (6, true), (7, true), (8, true), (9, true), (10, true), (11, true), (12, true), (13, true), (14, true), (15, true), (16, true), (17, true), (18, true), (19, true), (20, true), (21, true), (22, false), (23, true), (24, true), (25, true)] (by kernel_rfl) (by kernel_rfl) rfl (by simp only [planned, List.filterMap_cons, List.filterMap_nil, List.getElem?_cons_succ, List.getElem?_cons_zero, Option.map_some]; rfl) fun K hK => ?_; simp only [go_sem,↓reduceIte,Nat.reduceEqDiff]
        refine And.intro (And.intro (by omega) (by omega)) ⟨_, e1, ?_⟩
        suffices out : ∀ w', Heap w4 [] w' [] → K [(1, .slice a l.length c), (2, ptrV g), (5, .slice (some p5) X.length c5), (7, .int .i64 i), (61, .bool false)] w' by
          refine MemK_callD Tryd.call16 (pcheck_does y.1 w4 (by omega)) (by simp only [go_sem,↓reduceIte,Nat.reduceEqDiff] <;> rfl) ?_
          rintro v w5 ⟨hHc, rfl⟩
          rw [hyv.1]
          refine ⟨hHc.ext, ?_⟩
          (try simp only [go_sem,↓reduceIte,Nat.reduceEqDiff])
          refine And.intro (fun _ => And.intro (fun hi0 => ?_) (fun _ => out _ hHc)) (fun h => absurd trivial h)
          obtain ⟨x, hx⟩ : ∃ x, X[i - 1]? = some x := ⟨_, List.getElem?_eq_getElem (by omega)⟩
          have e0 := en_cells (ens_get hrs hx)
          have hxv := hXv x (List.mem_of_getElem? hx)
          have hlt : cmpS x.1 y.1 = -1 := by
            unfold Ord at hXo
            rw [List.pairwise_map, List.pairwise_iff_getElem] at hXo
            have h2 := hXo (i - 1) i (by omega) hi2 (by omega)
            rw [List.getElem?_eq_getElem (by omega)] at hx hy
            rw [Option.some.inj hx, Option.some.inj hy] at h2
            have h3 : splitS x.1 < splitS y.1 := h2.1
            rw [cmpS, cmpL, if_pos h3]
          refine And.intro (I64.mk (by omega) (by omega)) (And.intro (And.intro (by omega) (by omega)) ⟨_, e0, And.intro (And.intro (by omega) (by omega)) ⟨_, e1, ?_⟩⟩)
          refine MemK_callD Tryd.call17 (pcmp_does x.1 y.1 w5 (by omega) (by omega)) (by simp only [go_sem,↓reduceIte,Nat.reduceEqDiff] <;> rfl) ?_
          rintro v w6 ⟨hHe, rfl, _⟩
          rw [hlt]
          have hHf := hHc.call0 hHe
          refine ⟨hHf.ext, ?_⟩
          (try simp only [go_sem,↓reduceIte,Nat.reduceEqDiff])
          exact out _ hHf
        intro w5 hHc
        have hH5 : Heap w [] w5 [Res.row 38 2 (some p5) X.length c5 (ensV X), Res.blk g 24 (nodeV t)] := hH.call0 hHc
        (refine hK _ _ ?_; clear hK)
        refine VC_cond rfl rfl (fun h => by simp at h) (fun h => VC_skip ?_)
        refine VC_blk ?_
        refine VR [1, 2, 5, 7] rfl rfl fun K hK => ?_; simp only [go_sem,↓reduceIte,Nat.reduceEqDiff]
        ((repeat refine And.intro (by omega) ?_); refine hK _ _ ?_; clear hK)
        refine VC_again ?_
        simp only [go_sem,↓reduceIte,Nat.reduceEqDiff]
        exact ⟨X.length - (i + 1), by omega, i + 1, rfl, hH5, by omega, rfl⟩
      · simp only [decide_eq_false_iff_not] at h
        refine VC_exit rfl ?_
        refine VR [1, 2, 8, 9] rfl rfl fun K hK => ?_; simp only [go_sem,↓reduceIte,Nat.reduceEqDiff]
        refine MemK_callD Tryd.call13 (build_does X a5 c5 w4 (row_rs (hH.at 0 rfl)) (by omega) hXs) (by simp only [go_sem,↓reduceIte,Nat.reduceEqDiff] <;> rfl) ?_
        rintro v w5 hB1
        obtain ⟨t1, e1, F1, rfl, hHb, o1⟩ := out_of hB1
        have hH5 : Heap w [] w5 [Res.trees F1 [t1], Res.row 38 2 a5 X.length c5 (ensV X), Res.blk g 24 (nodeV t)] := hH.call0 hHb
        clear hHb hB1 hH
        have hgood : e1 = 0 ∧ (bareN t.pt = false → t1.pt = t.pt) := by
          have hnb : ¬ BadP X := fun ⟨x, hx, hne⟩ => hne (hXv x hx).1
          have hnc : ¬ Clash X := fun hc => hc (ord_apart hXo)
          rcases o1 with ⟨k1, _⟩ | ⟨_, k2, _⟩ | ⟨_, _, rfl, b1, b2, b3, b4, b5⟩
          · exact absurd k1 hnb
          · exact absurd k2 hnc
          · refine ⟨rfl, fun hbare => ?_⟩
            obtain ⟨g1, g2, g3⟩ := check0 hck
            rw [bareN_eq, pt_kids] at hbare
            have hgt := goodL_of_w hw hbare
            rw [hXf] at b5
            have hfe := perm_flat_ord b5 (flatL_ord b4) (flatL_ord hgt)
            have hdata : t.data = [] := by
              have := (right_w t 0 g3).1
              rw [wN_eq, pt_eq] at this
              simpa [PT.dir, PT.data, g1] using this.1
            rw [pt_eq t1, pt_eq t, b1, b2, b3, g1, g2, hdata, flatL_inj b4 hgt hfe]
        obtain ⟨rfl, hsame⟩ := hgood
        (try simp only [go_sem,↓reduceIte,Nat.reduceEqDiff])
        refine MemK_alloc (.agg #[.string ⟨#[]⟩, .bool false, .string ⟨#[]⟩, .slice none 0 0]) (by kernel_rfl) ?_
        simp only [go_sem,↓reduceIte,Nat.reduceEqDiff]
        have hn : (nodeV nilN) = [.string ⟨#[]⟩, .bool false, .string ⟨#[]⟩, .slice none 0 0] := rfl
        have hH6 : Heap w [] _ _ := hH5.box 24 (nodeV nilN)
        rw [hn] at hH6
        generalize w5.alloc (Obj.cells [Value.string ⟨#[]⟩, .bool false, .string ⟨#[]⟩, .slice none 0 0].toArray 24) = w6 at *
        generalize w5.heap.size = g8 at *
        rw [← hn] at hH6
        refine MemK_store ?_
        simp only [go_sem,↓reduceIte,Nat.reduceEqDiff]
        refine StoreK_blk hH6 0 (vs := nodeV t1) rfl rfl (by kernel_rfl) (by simp [nodeV]) (nodeV_one _) fun w7 hH7 => ?_
        have hH7 : Heap w [] w7 [Res.blk g8 24 (nodeV t1), Res.trees F1 [t1], Res.row 38 2 a5 X.length c5 (ensV X), Res.blk g 24 (nodeV t)] := hH7
        clear hH5 hH6
        (try simp only [go_sem,↓reduceIte,Nat.reduceEqDiff])
        (refine hK _ _ ?_; clear hK)
        have hLt1 : Lies w7 t1 := LiesIn.lies t1 (hH7.at 1 rfl t1 (by simp))
        have hLt : Lies w7 t := Lies.keep hH7 t hL
        have hrd8 := blk_reads (hH7.at 0 rfl)
        have hrdg := blk_reads (hH7.at 3 rfl)
        refine VR [1, 79] rfl rfl fun K hK => ?_; simp only [go_sem,↓reduceIte,Nat.reduceEqDiff]
        suffices out : ∀ w', Heap w7 [] w' [] → K [(1, .slice a l.length c), (79, .bool false)] w' by
          refine And.intro (fun _ => ⟨nodeV t, ⟨rfl, hrdg⟩, ?_⟩) (fun h => absurd trivial h)
          (try simp only [go_sem,↓reduceIte,Nat.reduceEqDiff])
          refine MemK_callD Tryd.call18 (bare_does t w7 hLt) (by simp only [go_sem,↓reduceIte,Nat.reduceEqDiff] <;> rfl) ?_
          rintro v w8 ⟨hHc, rfl⟩
          cases hbt : bareN t.pt with
          | true =>
            (try simp only [go_sem,↓reduceIte,Nat.reduceEqDiff])
            exact out _ hHc
          | false =>
            (try simp only [go_sem,↓reduceIte,Nat.reduceEqDiff])
            have hHd := hH7.call0 hHc
            refine ⟨nodeV t1, ⟨rfl, blk_reads (hHd.at 0 rfl)⟩, ?_⟩
            (try simp only [go_sem,↓reduceIte,Nat.reduceEqDiff])
            refine ⟨nodeV t, ⟨rfl, blk_reads (hHd.at 3 rfl)⟩, ?_⟩
            (try simp only [go_sem,↓reduceIte,Nat.reduceEqDiff])
            refine MemK_callD Tryd.call15 (same28_does t1 t w8 (Lies.keep hHc t1 hLt1) (Lies.keep hHc t hLt)) (by simp only [go_sem,↓reduceIte,Nat.reduceEqDiff] <;> rfl) ?_
            rintro v w9 ⟨hHs, r, rfl, hr⟩
            obtain rfl : r = true := hr.2 (hsame hbt)
            (try simp only [go_sem,↓reduceIte,Nat.reduceEqDiff])
            exact out _ (hHc.call0 hHs)
        intro w8 hH8
        (refine hK _ _ ?_; clear hK)
        refine VC_cond rfl rfl (fun h => by simp at h) (fun h => VC_skip ?_)
        refine VC_again ?_
        simp only [go_sem,↓reduceIte,Nat.reduceEqDiff]
        exact ⟨rfl, (hH7.call0 hH8).sub (List.nil_sublist _)⟩
    · refine VC_again ?_
      simp only [go_sem,↓reduceIte,Nat.reduceEqDiff]
      exact ⟨rfl, hH3.sub (List.nil_sublist _)⟩
  rintro e w4 ⟨rfl, hH4⟩
  clear hH3
  refine VR [1, 10, 11] rfl rfl fun K hK => ?_; simp only [go_sem,↓reduceIte,Nat.reduceEqDiff]
  refine MemK_callD Tryd.call13 (build_does l a c w4 (hH4.rs' hl) (by omega) hok) (by simp only [go_sem,↓reduceIte,Nat.reduceEqDiff] <;> rfl) ?_
  rintro v w5 hB1
  obtain ⟨m, er, F1, rfl, hHb, o1⟩ := out_of hB1
  have hH5 : Heap w [] w5 [Res.trees F1 [m]] := hH4.call0 hHb
  clear hHb hB1 hH4
  (try simp only [go_sem,↓reduceIte,Nat.reduceEqDiff])
  refine MemK_alloc (.agg #[.string ⟨#[]⟩, .bool false, .string ⟨#[]⟩, .slice none 0 0]) (by kernel_rfl) ?_
  simp only [go_sem,↓reduceIte,Nat.reduceEqDiff]
  have hn : (nodeV nilN) = [.string ⟨#[]⟩, .bool false, .string ⟨#[]⟩, .slice none 0 0] := rfl
  have hH6 : Heap w [] _ _ := hH5.box 24 (nodeV nilN)
  rw [hn] at hH6
  generalize w5.alloc (Obj.cells [Value.string ⟨#[]⟩, .bool false, .string ⟨#[]⟩, .slice none 0 0].toArray 24) = w6 at *
  generalize w5.heap.size = g10 at *
  rw [← hn] at hH6
  refine MemK_store ?_
  simp only [go_sem,↓reduceIte,Nat.reduceEqDiff]
  refine StoreK_blk hH6 0 (vs := nodeV m) rfl rfl (by kernel_rfl) (by simp [nodeV]) (nodeV_one _) fun w7 hH7 => ?_
  have hH7 : Heap w [] w7 [Res.blk g10 24 (nodeV m), Res.trees F1 [m]] := hH7
  clear hH5 hH6
  (try simp only [go_sem,↓reduceIte,Nat.reduceEqDiff])
  (refine hK _ _ ?_; clear hK)
  refine VR [1, 10, 86] rfl rfl fun K hK => ?_; simp only [go_sem,↓reduceIte,Nat.reduceEqDiff]
  ((repeat refine And.intro (by omega) ?_); refine hK _ _ ?_; clear hK)
  refine VC_cond rfl rfl (fun h => ?_) (fun h => VC_skip ?_)
  · have hm : m = nilN := by
      rcases o1 with ⟨_, k, _⟩ | ⟨_, _, k, _⟩ | ⟨_, _, k, _⟩
      · exact k
      · exact k
      · rw [k] at h; simp at h
    subst hm
    have c3 : w7.cell? ⟨g10, 3, none⟩ = some (.slice none 0 0) := blk_cell (hH7.at 0 rfl) rfl
    refine VR [4] rfl rfl fun K hK => ?_; simp only [go_sem, ↓ex_hit c3,↓reduceIte,Nat.reduceEqDiff]
    refine And.intro (fun _ => ?_) (fun h => absurd rfl h)
    refine MemK_callD Tryd.call7 (awake28_does w7) (by simp only [go_sem,↓reduceIte,Nat.reduceEqDiff] <;> rfl) ?_
    rintro v w8 ⟨hHc, rfl⟩
    (try simp only [go_sem,↓reduceIte,Nat.reduceEqDiff])
    (refine hK _ _ ?_; clear hK)
    exact VC_ret (VX_ret1 rfl rfl ⟨(hH7.sub (List.nil_sublist _)).call0 hHc, rfl⟩)
  have her : er = 0 := by simpa using h
  subst her
  clear h
  obtain ⟨q1, q2, q3, q4, q5, q6⟩ := built_walk o1
  have hLm : Lies w7 m := LiesIn.lies m (hH7.at 1 rfl m (by simp))
  have hszm : sizeN m ≤ 30000 := by
    rcases o1 with ⟨_, _, k⟩ | ⟨_, _, _, k⟩ | ⟨hb, _, _, _, _, _, b4, b5⟩
    · cases k
    · cases k
    · have h1 := sizeN_eq m
      have h2 := sizeL_flat m.kids b4
      rw [lens_perm b5] at h2
      have h3 : lens (l.map toP) ≤ (l.map toP).length * 60 := lens_le fun e he => by
        obtain ⟨x, hx, rfl⟩ := List.mem_map.1 he
        exact (names_of (Classical.byContradiction fun hn => hb ⟨x, hx, hn⟩)).2.1
      rw [List.length_map] at h3
      have h4 := Nat.mul_le_mul_right 60 hln
      omega
  refine VR [1, 10, 12, 13] rfl rfl fun K hK => ?_; simp only [go_sem,↓reduceIte,Nat.reduceEqDiff]
  refine ⟨nodeV m, ⟨rfl, blk_reads (hH7.at 0 rfl)⟩, ?_⟩
  (try simp only [go_sem,↓reduceIte,Nat.reduceEqDiff])
  refine MemK_callD Tryd.call8 (twalk_does m w7 hLm hszm) (by simp only [go_sem,↓reduceIte,Nat.reduceEqDiff] <;> rfl) ?_
  rintro v w8 ⟨a12, c12, rfl, hHc⟩
  rw [q1] at hHc ⊢
  have hH8 : Heap w [] w8 [Res.row 38 2 a12 (filesS m []).length c12 (ensV (filesS m [])), Res.blk g10 24 (nodeV m), Res.trees F1 [m]] := hH7.call0 hHc
  clear hHc hH7
  (try simp only [go_sem,↓reduceIte,Nat.reduceEqDiff])
  (refine hK _ _ ?_; clear hK)
  have hlen8 : (filesS m []).length = l.length := by
    have := q4.length_eq
    simpa using this
  have hnd := apart_nodup q6
  refine VR [4] rfl rfl fun K hK => ?_; simp only [go_sem,↓reduceIte,Nat.reduceEqDiff]
  refine And.intro (fun _ => ?_) (fun h => absurd trivial h)
  refine MemK_callD Tryd.call19 (last_does l a c w8 (hH8.rs' hl) (by omega) hok hnd) (by simp only [go_sem,↓reduceIte,Nat.reduceEqDiff] <;> rfl) ?_
  rintro v w9 ⟨T, a9, c9, hTp, hTs, rfl, hHc⟩
  obtain rfl := last_is o1 hTp hTs
  have hH9 : Heap w [] w9 [Res.row 38 2 a9 (filesS m []).length c9 (ensV (filesS m [])), Res.row 38 2 a12 (filesS m []).length c12 (ensV (filesS m [])), Res.blk g10 24 (nodeV m), Res.trees F1 [m]] := hH8.call0 hHc
  clear hHc hH8
  (try simp only [go_sem,↓reduceIte,Nat.reduceEqDiff])
  refine MemK_callD Tryd.call10 (same_does (filesS m []) a12 a9 c12 c9 w9 (row_rs (hH9.at 1 rfl)) (row_rs (hH9.at 0 rfl)) (by omega)) (by simp only [go_sem,↓reduceIte,Nat.reduceEqDiff] <;> rfl) ?_
  rintro v w10 ⟨rfl, rfl⟩
  (try simp only [go_sem,↓reduceIte,Nat.reduceEqDiff])
  have hlz : ((filesS m []).length : Int) = l.length := by omega
  refine And.intro (fun _ => ?_) (fun h => absurd hlz h)
  refine ⟨nodeV m, ⟨rfl, blk_reads (hH9.at 2 rfl)⟩, ?_⟩
  (try simp only [go_sem,↓reduceIte,Nat.reduceEqDiff])
  have hLm9 : Lies w10 m := LiesIn.lies m (hH9.at 3 rfl m (by simp))
  refine MemK_callD Tryd.call11 (tcheck_does m w10 hLm9) (by simp only [go_sem,↓reduceIte,Nat.reduceEqDiff] <;> rfl) ?_
  rintro v w11 ⟨hHc, rfl⟩
  rw [q2]
  have hHa := hH9.call0 hHc
  (try simp only [go_sem,↓reduceIte,Nat.reduceEqDiff])
  refine And.intro (fun _ => ?_) (fun h => absurd trivial h)
  refine ⟨nodeV m, ⟨rfl, blk_reads (hHa.at 2 rfl)⟩, ?_⟩
  (try simp only [go_sem,↓reduceIte,Nat.reduceEqDiff])
  refine MemK_callD Tryd.call18 (bare_does m w11 (Lies.keep hHc m hLm9)) (by simp only [go_sem,↓reduceIte,Nat.reduceEqDiff] <;> rfl) ?_
  rintro v w12 ⟨hHd, rfl⟩
  rw [q3]
  have hHb := hHa.call0 hHd
  (try simp only [go_sem,↓reduceIte,Nat.reduceEqDiff])
  refine MemK_callD Tryd.call7 (awake28_does w12) (by simp only [go_sem,↓reduceIte,Nat.reduceEqDiff] <;> rfl) ?_
  rintro v w13 ⟨hHz, rfl⟩
  (try simp only [go_sem,↓reduceIte,Nat.reduceEqDiff])
  (refine hK _ _ ?_; clear hK)
  exact VC_ret (VX_ret1 rfl rfl ⟨(hHb.sub (List.nil_sublist _)).call0 hHz, rfl⟩)
end Go.Proofs.YtklpiecolpnmlaaDoor
namespace Go.Proofs.YtklpiecolpnmlaaDoor
open Go Go.Eng Go.ChangeShapes Go.WideShapes
set_option linter.unusedVariables false
set_option linter.unusedSimpArgs false
set_option maxRecDepth 100000
theorem weightsAll_mem {H : Type} {P : Program} {e : TypeId} : ∀ {l : List (DataW H)} {d : DataW H}, d ∈ l → ∀ n ∈ d.weights P e, n ∈ DataW.weightsAll P e l
  | x :: l, d, hd, n, hn => by
    rw [DataW.weightsAll, List.mem_append]
    rcases List.mem_cons.1 hd with rfl | hd
    · exact .inl hn
    · exact .inr (weightsAll_mem hd n hn)
  | [], _, hd, _, _ => by cases hd
theorem strOf (s : ByteArray) : Value.string s = Str s.data.toList := rfl
theorem open_node {H : Type} {enc : TypeId × Value → H} {W : World} {base : Nat} {sp : Nat → Bool} {held : Bool} : ∀ (fuel : Nat) (cs : List Value) (x : DataW H × List MemPlace),
    DataW.trod enc Tryd.prog W base sp held fuel 24 cs = some x → (∀ n ∈ x.1.weights Tryd.prog 24, n ≤ 140737488355328) → ∃ t : NT, cs = nodeV t ∧ Lies W t := by
  intro fuel
  induction fuel using Nat.strongRecOn with
  | _ fuel ih =>
  intro cs x h hw
  have hfu : 0 < fuel := by
    cases fuel with
    | zero => simp [DataW.trod] at h
    | succ n => omega
  obtain ⟨xs, n, rfl, rfl, hcl, hlen, hf⟩ := DataW.trod_struct Tryd.underlying24 h
  have hc4 : Tryd.prog.cellsOf 24 = 4 := by kernel_rfl
  have s9 : Tryd.prog.cellsOf 9 = 1 := by kernel_rfl
  have s4 : Tryd.prog.cellsOf 4 = 1 := by kernel_rfl
  have s22 : Tryd.prog.cellsOf 22 = 1 := by kernel_rfl
  rw [hc4] at hcl
  match xs, hlen with
  | [y0, y1, y2, y3], _ =>
  match cs, hcl with
  | [v0, v1, v2, v3], _ =>
  have h0 := hf 0 _ rfl
  have h1 := hf 1 _ rfl
  have h2 := hf 2 _ rfl
  have h3 := hf 3 _ rfl
  simp only [s9, s4, s22, List.drop_zero, List.drop_succ_cons, List.take_succ_cons, List.take_zero, List.getElem?_cons_zero, List.getElem?_cons_succ] at h0 h1 h2 h3
  obtain ⟨sn, e0, e0x, hn⟩ := DataW.trod_string Tryd.underlying9 h0
  obtain ⟨bd, e1, e1x⟩ := DataW.trod_bool Tryd.underlying4 h1
  obtain ⟨sd, e2, e2x, hd⟩ := DataW.trod_string Tryd.underlying9 h2
  cases e0
  cases e1
  cases e2
  have hwe : ∀ n ∈ DataW.weightsEach Tryd.prog [9, 4, 9, 22] [y0.1, y1.1, y2.1, y3.1], n ≤ 140737488355328 := by
    intro n hn
    apply hw
    simp only [List.map_cons, List.map_nil, DataW.weights, Tryd.underlying24]
    exact hn
  have w0 : sn.data.toList.length ≤ 140737488355328 := by
    apply hwe
    refine DataW.weights_mem_each (j := 0) rfl rfl _ ?_
    rw [e0x]
    simp [DataW.weights]
  have w2 : sd.data.toList.length ≤ 140737488355328 := by
    apply hwe
    refine DataW.weights_mem_each (j := 2) rfl rfl _ ?_
    rw [e2x]
    simp [DataW.weights]
  rcases DataW.trod_slice Tryd.underlying22 h3 with ⟨hcs, _⟩ | ⟨a, len', cap', elems, rest, n', hn', hcs, hx, hb, hl, hm, hlen, hel, _, _⟩
  · cases hcs
    refine ⟨.mk sn.data.toList bd sd.data.toList none 0 [], rfl, ?_⟩
    rw [Lies_iff]
    exact ⟨⟨w0, w2, by simp [NT.kids]⟩, ⟨rfl, fun _ => rfl, fun ad h => by cases h⟩, by simp [NT.kids]⟩
  · cases hcs
    have hw3 : ∀ n ∈ y3.1.weights Tryd.prog 22, n ≤ 140737488355328 := fun n hn => hwe n (DataW.weights_mem_each (j := 3) rfl rfl n hn)
    rw [hx] at hw3
    simp only [DataW.weights, Tryd.underlying22] at hw3
    have hbt : Tryd.prog.bytesOf 24 = 64 := by kernel_rfl
    have hlb : len' ≤ 140737488355328 := by
      have := hw3 _ (List.mem_cons_self ..)
      rw [hbt] at this
      simp at this
      omega
    have each : ∀ i, ∃ y : NT, i < len' → Lies W y ∧ ∀ j u, (nodeV y)[j]? = some u → W.cell? ((a.add (i * 4)).add j) = some u := by
      intro i
      by_cases hi : i < len'
      · have h2 := hel i hi
        rw [List.getElem?_eq_getElem (by omega), hc4, Option.bind_eq_some_iff] at h2
        obtain ⟨cs, h3, h4⟩ := h2
        obtain ⟨y, hy, hL⟩ := ih n' (by omega) cs _ h4 (fun n hn => by
          apply hw3
          refine List.mem_cons_of_mem _ (List.mem_append_left _ ?_)
          exact weightsAll_mem (List.mem_map.2 ⟨elems[i]'(by omega), List.getElem_mem _, rfl⟩) n hn)
        refine ⟨y, fun _ => ⟨hL, fun j u hu => ?_⟩⟩
        have h11 := (World.cells?_some h3).2
        have hj : j < 4 := by
          have := (List.getElem?_eq_some_iff.1 hu).1
          rwa [nodeV_len] at this
        rw [h11.2 j hj, hy, hu]
      · exact ⟨default, fun h => absurd h hi⟩
    obtain ⟨f, hf⟩ := Classical.axiomOfChoice each
    have hll : ((List.range len').map f).length = len' := by simp
    refine ⟨.mk sn.data.toList bd sd.data.toList (some a) cap' ((List.range len').map f), ?_, ?_⟩
    · simp only [nodeV, NT.name, NT.dir, NT.data, NT.place, NT.kids, NT.cap, hll]
    · rw [Lies_iff]
      refine ⟨⟨w0, w2, by simpa [NT.kids] using hlb⟩, ⟨by rw [nodesV_len], fun h => (by cases h), fun ad had => ?_⟩, fun k hk => ?_⟩
      · cases had
        intro j u hu
        have hj : j < len' * 4 := by
          have := (List.getElem?_eq_some_iff.1 hu).1
          rw [nodesV_len] at this
          simpa [NT.kids] using this
        have hi : j / 4 < len' := by omega
        have hg : ((List.range len').map f)[j / 4]? = some (f (j / 4)) := by simp [hi]
        obtain ⟨_, hc⟩ := hf (j / 4) hi
        have hj4 : j % 4 < (nodeV (f (j / 4))).length := by rw [nodeV_len]; omega
        have hg2 := rowsV_get (k := 4) nodeV_len _ (j / 4) _ hg (j % 4) _ (List.getElem?_eq_getElem hj4)
        rw [show j / 4 * 4 + j % 4 = j by omega] at hg2
        have hg3 : (nodesV ((List.range len').map f))[j]? = some ((nodeV (f (j / 4)))[j % 4]'hj4) := hg2
        have hu' : (nodesV ((List.range len').map f))[j]? = some u := hu
        rw [hg3] at hu'
        cases hu'
        have := hc (j % 4) _ (List.getElem?_eq_getElem hj4)
        rw [addr_add_add, show j / 4 * 4 + j % 4 = j by omega] at this
        exact this
      · obtain ⟨i, hi, rfl⟩ := List.mem_map.1 hk
        exact (hf i (List.mem_range.1 hi)).1
end Go.Proofs.YtklpiecolpnmlaaDoor
namespace Go.Proofs.YtklpiecolpnmlaaDoor
open Go Go.Eng Go.ChangeShapes Go.WideShapes
set_option linter.unusedVariables false
set_option linter.unusedSimpArgs false
set_option maxRecDepth 100000
theorem open_en {H : Type} {enc : TypeId × Value → H} {W : World} {base : Nat} {sp : Nat → Bool} {held : Bool} (fuel : Nat) (cs : List Value) (x : DataW H × List MemPlace)
    (h : DataW.trod enc Tryd.prog W base sp held fuel 38 cs = some x) (hw : ∀ n ∈ x.1.weights Tryd.prog 38, n ≤ 140737488355328) : ∃ y : En, cs = enV y ∧ y.1.length ≤ 140737488355328 ∧ y.2.length ≤ 140737488355328 := by
  obtain ⟨xs, n, rfl, rfl, hcl, hlen, hf⟩ := DataW.trod_struct Tryd.underlying38 h
  have hc2 : Tryd.prog.cellsOf 38 = 2 := by kernel_rfl
  have s9 : Tryd.prog.cellsOf 9 = 1 := by kernel_rfl
  rw [hc2] at hcl
  match xs, hlen with
  | [y0, y1], _ =>
  match cs, hcl with
  | [v0, v1], _ =>
  have h0 := hf 0 _ rfl
  have h1 := hf 1 _ rfl
  simp only [s9, List.drop_zero, List.drop_succ_cons, List.take_succ_cons, List.take_zero, List.getElem?_cons_zero, List.getElem?_cons_succ] at h0 h1
  obtain ⟨sn, e0, e0x, hn⟩ := DataW.trod_string Tryd.underlying9 h0
  obtain ⟨sd, e1, e1x, hd⟩ := DataW.trod_string Tryd.underlying9 h1
  cases e0
  cases e1
  have hwe : ∀ n ∈ DataW.weightsEach Tryd.prog [9, 9] [y0.1, y1.1], n ≤ 140737488355328 := by
    intro n hn
    apply hw
    simp only [List.map_cons, List.map_nil, DataW.weights, Tryd.underlying38]
    exact hn
  refine ⟨(sn.data.toList, sd.data.toList), rfl, ?_, ?_⟩
  · apply hwe
    refine DataW.weights_mem_each (j := 0) rfl rfl _ ?_
    rw [e0x]
    simp [DataW.weights]
  · apply hwe
    refine DataW.weights_mem_each (j := 1) rfl rfl _ ?_
    rw [e1x]
    simp [DataW.weights]
theorem open_ents {H : Type} {enc : TypeId × Value → H} {W : World} {base : Nat} {sp : Nat → Bool} {held : Bool} {fuel : Nat} {a0 : Option Addr} {len cap : Nat} {x : DataW H × List MemPlace}
    (hf : DataW.trod enc Tryd.prog W base sp held fuel 27 (Value.slice a0 len cap).cells.toList = some x) (hw : ∀ n ∈ x.1.weights Tryd.prog 27, n ≤ 140737488355328) :
    ∃ l : List En, len = l.length ∧ Go.Eng.RS W a0 l.length 2 (ensV l) ∧ EnsOk l := by
  have hc2 : Tryd.prog.cellsOf 38 = 2 := by kernel_rfl
  rcases DataW.trod_slice Tryd.underlying27 hf with ⟨hcs, _⟩ | ⟨a, len', cap', elems, rest, n, _, hcs, hx, hb, hl, hm, hlen, hel, _, _⟩
  · simp [Value.cells] at hcs
    obtain ⟨rfl, rfl, rfl⟩ := hcs
    exact ⟨[], rfl, ⟨rfl, fun _ => rfl, fun ad h => (by cases h)⟩, fun _ h => (by cases h)⟩
  · simp [Value.cells] at hcs
    obtain ⟨rfl, rfl, rfl⟩ := hcs
    rw [hx] at hw
    simp only [DataW.weights, Tryd.underlying27] at hw
    have each : ∀ i, ∃ y : En, i < len → (y.1.length ≤ 140737488355328 ∧ y.2.length ≤ 140737488355328) ∧ ∀ j u, (enV y)[j]? = some u → W.cell? ((a.add (i * 2)).add j) = some u := by
      intro i
      by_cases hi : i < len
      · have h2 := hel i hi
        rw [List.getElem?_eq_getElem (by omega), hc2, Option.bind_eq_some_iff] at h2
        obtain ⟨cs, h3, h4⟩ := h2
        obtain ⟨y, hy, hL1, hL2⟩ := open_en n cs _ h4 (fun n hn => by
          apply hw
          refine List.mem_cons_of_mem _ (List.mem_append_left _ ?_)
          exact weightsAll_mem (List.mem_map.2 ⟨elems[i]'(by omega), List.getElem_mem _, rfl⟩) n hn)
        refine ⟨y, fun _ => ⟨⟨hL1, hL2⟩, fun j u hu => ?_⟩⟩
        have h11 := (World.cells?_some h3).2
        have hj : j < 2 := by
          have := (List.getElem?_eq_some_iff.1 hu).1
          rwa [enV_len] at this
        rw [h11.2 j hj, hy, hu]
      · exact ⟨([], []), fun h => absurd h hi⟩
    obtain ⟨f, hf⟩ := Classical.axiomOfChoice each
    have hll : ((List.range len).map f).length = len := by simp
    refine ⟨(List.range len).map f, hll.symm, ⟨by rw [ensV_len], fun h => (by cases h), fun ad had => ?_⟩, fun k hk => ?_⟩
    · cases had
      intro j u hu
      have hj : j < len * 2 := by
        have := (List.getElem?_eq_some_iff.1 hu).1
        rw [ensV_len] at this
        simpa using this
      have hi : j / 2 < len := by omega
      have hg : ((List.range len).map f)[j / 2]? = some (f (j / 2)) := by simp [hi]
      obtain ⟨_, hc⟩ := hf (j / 2) hi
      have hj4 : j % 2 < (enV (f (j / 2))).length := by rw [enV_len]; omega
      have hg2 := rowsV_get (k := 2) enV_len _ (j / 2) _ hg (j % 2) _ (List.getElem?_eq_getElem hj4)
      rw [show j / 2 * 2 + j % 2 = j by omega] at hg2
      have hg3 : (ensV ((List.range len).map f))[j]? = some ((enV (f (j / 2)))[j % 2]'hj4) := hg2
      rw [hg3] at hu
      cases hu
      have := hc (j % 2) _ (List.getElem?_eq_getElem hj4)
      rw [addr_add_add, show j / 2 * 2 + j % 2 = j by omega] at this
      exact this
    · obtain ⟨i, hi, rfl⟩ := List.mem_map.1 hk
      exact (hf i (List.mem_range.1 hi)).1
end Go.Proofs.YtklpiecolpnmlaaDoor
namespace Go.Proofs.YtklpiecolpnmlaaDoor
open Go Go.Eng Go.ChangeShapes Go.WideShapes
set_option linter.unusedVariables false
set_option linter.unusedSimpArgs false
set_option maxRecDepth 100000
theorem bulk_part {H : Type} {d : DataW H} {l : List (DataW H)} (h : d ∈ l) : Rows.uptoBulk d ≤ Rows.uptoBulkAll l := by
  induction l with
  | nil => cases h
  | cons x r ih =>
    simp only [Rows.uptoBulkAll]
    cases List.mem_cons.1 h with
    | inl e => subst e; omega
    | inr e => have := ih e; omega
theorem bulk_str {H : Type} (bytes : List UInt8) : Rows.uptoBulk (DataW.lit (H := H) (.string bytes)) = bytes.length + 1 := by
  simp only [Rows.uptoBulk]
theorem open_enB {H : Type} {enc : TypeId × Value → H} {W : World} {base : Nat} {sp : Nat → Bool} {held : Bool} (B : Nat) (fuel : Nat) (cs : List Value) (x : DataW H × List MemPlace)
    (h : DataW.trod enc Tryd.prog W base sp held fuel 38 cs = some x) (hw : Rows.uptoBulk x.1 ≤ B) : ∃ y : En, cs = enV y ∧ y.1.length ≤ B ∧ y.2.length ≤ B := by
  obtain ⟨xs, n, rfl, rfl, hcl, hlen, hf⟩ := DataW.trod_struct Tryd.underlying38 h
  have hc2 : Tryd.prog.cellsOf 38 = 2 := by kernel_rfl
  have s9 : Tryd.prog.cellsOf 9 = 1 := by kernel_rfl
  rw [hc2] at hcl
  match xs, hlen with
  | [y0, y1], _ =>
  match cs, hcl with
  | [v0, v1], _ =>
  have h0 := hf 0 _ rfl
  have h1 := hf 1 _ rfl
  simp only [s9, List.drop_zero, List.drop_succ_cons, List.take_succ_cons, List.take_zero, List.getElem?_cons_zero, List.getElem?_cons_succ] at h0 h1
  obtain ⟨sn, e0, e0x, hn⟩ := DataW.trod_string Tryd.underlying9 h0
  obtain ⟨sd, e1, e1x, hd⟩ := DataW.trod_string Tryd.underlying9 h1
  cases e0
  cases e1
  simp only [List.map_cons, List.map_nil, Rows.uptoBulk, Rows.uptoBulkAll, e0x, e1x] at hw
  exact ⟨(sn.data.toList, sd.data.toList), rfl, by simp only; omega, by simp only; omega⟩
theorem open_entsB {H : Type} {enc : TypeId × Value → H} {W : World} {base : Nat} {sp : Nat → Bool} {held : Bool} {B fuel : Nat} {a0 : Option Addr} {len cap : Nat} {x : DataW H × List MemPlace}
    (hf : DataW.trod enc Tryd.prog W base sp held fuel 27 (Value.slice a0 len cap).cells.toList = some x) (hw : Rows.uptoBulk x.1 ≤ B) :
    ∃ l : List En, len = l.length ∧ Go.Eng.RS W a0 l.length 2 (ensV l) ∧ ∀ y ∈ l, y.1.length ≤ B ∧ y.2.length ≤ B := by
  have hc2 : Tryd.prog.cellsOf 38 = 2 := by kernel_rfl
  rcases DataW.trod_slice Tryd.underlying27 hf with ⟨hcs, _⟩ | ⟨a, len', cap', elems, rest, n, _, hcs, hx, hb, hl, hm, hlen, hel, _, _⟩
  · simp [Value.cells] at hcs
    obtain ⟨rfl, rfl, rfl⟩ := hcs
    exact ⟨[], rfl, ⟨rfl, fun _ => rfl, fun ad h => (by cases h)⟩, fun _ h => (by cases h)⟩
  · simp [Value.cells] at hcs
    obtain ⟨rfl, rfl, rfl⟩ := hcs
    rw [hx] at hw
    simp only [Rows.uptoBulk] at hw
    have each : ∀ i, ∃ y : En, i < len → (y.1.length ≤ B ∧ y.2.length ≤ B) ∧ ∀ j u, (enV y)[j]? = some u → W.cell? ((a.add (i * 2)).add j) = some u := by
      intro i
      by_cases hi : i < len
      · have h2 := hel i hi
        rw [List.getElem?_eq_getElem (by omega), hc2, Option.bind_eq_some_iff] at h2
        obtain ⟨cs, h3, h4⟩ := h2
        have hm := bulk_part (List.mem_map.2 ⟨elems[i]'(by omega), List.getElem_mem _, rfl⟩ : (elems[i]'(by omega)).1 ∈ elems.map (·.1))
        obtain ⟨y, hy, hL1, hL2⟩ := open_enB B n cs _ h4 (by omega)
        refine ⟨y, fun _ => ⟨⟨hL1, hL2⟩, fun j u hu => ?_⟩⟩
        have h11 := (World.cells?_some h3).2
        have hj : j < 2 := by
          have := (List.getElem?_eq_some_iff.1 hu).1
          rwa [enV_len] at this
        rw [h11.2 j hj, hy, hu]
      · exact ⟨([], []), fun h => absurd h hi⟩
    obtain ⟨f, hf⟩ := Classical.axiomOfChoice each
    have hll : ((List.range len).map f).length = len := by simp
    refine ⟨(List.range len).map f, hll.symm, ⟨by rw [ensV_len], fun h => (by cases h), fun ad had => ?_⟩, fun k hk => ?_⟩
    · cases had
      intro j u hu
      have hj : j < len * 2 := by
        have := (List.getElem?_eq_some_iff.1 hu).1
        rw [ensV_len] at this
        simpa using this
      have hi : j / 2 < len := by omega
      have hg : ((List.range len).map f)[j / 2]? = some (f (j / 2)) := by simp [hi]
      obtain ⟨_, hc⟩ := hf (j / 2) hi
      have hj4 : j % 2 < (enV (f (j / 2))).length := by rw [enV_len]; omega
      have hg2 := rowsV_get (k := 2) enV_len _ (j / 2) _ hg (j % 2) _ (List.getElem?_eq_getElem hj4)
      rw [show j / 2 * 2 + j % 2 = j by omega] at hg2
      have hg3 : (ensV ((List.range len).map f))[j]? = some ((enV (f (j / 2)))[j % 2]'hj4) := hg2
      rw [hg3] at hu
      cases hu
      have := hc (j % 2) _ (List.getElem?_eq_getElem hj4)
      rw [addr_add_add, show j / 2 * 2 + j % 2 = j by omega] at this
      exact this
    · obtain ⟨i, hi, rfl⟩ := List.mem_map.1 hk
      exact (hf i (List.mem_range.1 hi)).1
end Go.Proofs.YtklpiecolpnmlaaDoor
