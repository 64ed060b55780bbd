/- What the proof leans on, part 1: no conditions. -/
import Derived.Test.YtoioaddfachjhaaGreatDoorL14
namespace Go.Proofs.YtoioaddfachjhaaGreatDoor
open Go Go.Eng Go.Ev
set_option maxRecDepth 100000
set_option linter.unusedSimpArgs false
set_option linter.unusedVariables false
def inE (k : Int) (x : Ex) : Bool := decide (x.1 ≤ k ∧ k < x.1 + x.2)
def us (l : List Ex) (k : Nat) : Bool := l.any fun x => inE k x
def usedL (l : List Ex) (n : Nat) : List Bool := (List.range n).map fun k => us l k
def blsV (l : List Bool) : List Value := l.map Value.bool
theorem blsV_len (l : List Bool) : (blsV l).length = l.length := by simp [blsV]
theorem blsV_get {l : List Bool} {i : Nat} (h : i < l.length) : (blsV l)[i]? = some (.bool (l.getD i false)) := by
  simp [blsV, List.getElem?_eq_getElem h, List.getD_eq_getElem?_getD]
theorem blsV_one (l : List Bool) : ∀ u ∈ blsV l, u.oneCell' = true := by
  intro u hu
  obtain ⟨b, _, rfl⟩ := List.mem_map.1 hu
  rfl
theorem usedL_len (l : List Ex) (n : Nat) : (usedL l n).length = n := by simp [usedL]
theorem usedL_get (l : List Ex) {n k : Nat} (h : k < n) : (usedL l n).getD k false = us l k := by
  simp [usedL, List.getD_eq_getElem?_getD, h]
theorem us_append (l m : List Ex) (k : Nat) : us (l ++ m) k = (us l k || us m k) := by simp [us]
theorem us_one (x : Ex) (k : Nat) : us [x] k = inE k x := by simp [us]
theorem usedL_nil (n : Nat) : usedL [] n = List.replicate n false := by
  apply List.ext_getElem
  · simp [usedL]
  · intro i h1 h2; simp [usedL, us]
theorem usedL_set (S : List Ex) (s : Int) (k n : Nat) (hs : s ≤ k) (hk : k < n) : (usedL (S ++ [(s, (k : Int) - s)]) n).set k true = usedL (S ++ [(s, (k : Int) + 1 - s)]) n := by
  apply List.ext_getElem
  · simp [usedL]
  · intro i h1 h2
    simp only [List.getElem_set, usedL, List.getElem_map, List.getElem_range, us_append, us_one, inE]
    by_cases h : k = i
    · subst h
      simp
      right; omega
    · rw [if_neg h]
      congr 1
      simp only [decide_eq_decide]
      omega
theorem usedL_zero (S : List Ex) (s : Int) (n : Nat) : usedL (S ++ [(s, 0)]) n = usedL S n := by
  unfold usedL
  congr 1
  funext k
  rw [us_append, us_one]
  have : inE (k : Int) (s, 0) = false := by simp [inE]
  rw [this, Bool.or_false]
theorem set_cut {α : Type} (l : List α) (k : Nat) (v : α) (h : k < l.length) : l.take k ++ [v] ++ l.drop (k + [v].length) = l.set k v := by
  rw [List.set_eq_take_append_cons_drop, if_pos h]
  simp
theorem us_iff {l : List Ex} {k : Nat} : us l k = true ↔ ∃ x ∈ l, x.1 ≤ k ∧ (k : Int) < x.1 + x.2 := by
  simp [us, inE]
theorem dj_of_none {x y : Ex} (hx : 1 ≤ x.2) (hy : 1 ≤ y.2) (hx0 : 0 ≤ x.1) (hy0 : 0 ≤ y.1) (h : ∀ k : Nat, x.1 ≤ k → (k : Int) < x.1 + x.2 → ¬ (y.1 ≤ k ∧ (k : Int) < y.1 + y.2)) : dj y x := by
  unfold dj
  by_cases h1 : x.1 ≤ y.1
  · have := h y.1.toNat (by omega)
    by_cases h2 : y.1 < x.1 + x.2
    · exact absurd ⟨by omega, by omega⟩ (this (by omega))
    · right; omega
  · have := h x.1.toNat (by omega) (by omega)
    left
    by_cases h2 : x.1 < y.1 + y.2
    · exact absurd ⟨by omega, by omega⟩ this
    · omega
theorem May.prefix {cap : Int} {l : List Ex} (h : May cap l) (i : Nat) : May cap (l.take i) := ⟨fun x hx => h.1 x (List.mem_of_mem_take hx), h.2.sublist (List.take_sublist _ _)⟩
theorem may_snoc {cap : Int} {S : List Ex} {x : Ex} : May cap (S ++ [x]) ↔ May cap S ∧ Ok1 cap x ∧ ∀ y ∈ S, dj y x := by
  unfold May
  rw [List.pairwise_append]
  simp only [List.mem_append, List.mem_singleton]
  constructor
  · rintro ⟨h1, h2, _, h3⟩
    exact ⟨⟨fun y hy => h1 y (.inl hy), h2⟩, h1 x (.inr rfl), fun y hy => h3 y hy x rfl⟩
  · rintro ⟨⟨h1, h2⟩, h3, h4⟩
    refine ⟨fun y hy => ?_, h2, List.pairwise_singleton _ _, fun y hy z hz => ?_⟩
    · rcases hy with hy | rfl
      · exact h1 y hy
      · exact h3
    · subst hz; exact h4 y hy
theorem taken_does (l : List Ex) (a : Option Addr) (c : Nat) (cap : Int) (w : World) (hl : RS w a l.length 2 (extsV l)) (hlen : l.length ≤ 1000000) (hok : ∀ x ∈ l, XOk x) (hcap : I64 cap) :
    Does Tryz.prog 26 #[.slice a l.length c, .int .i64 cap] w fun v w' =>
      (¬ (1 ≤ cap ∧ cap ≤ 4096 ∧ May cap l) ∧ v = .tuple #[.slice none 0 0, .bool false] ∧ Heap w [] w' []) ∨
      ((1 ≤ cap ∧ cap ≤ 4096 ∧ May cap l) ∧ ∃ g, v = .tuple #[.slice (some ⟨g, 0, none⟩) cap.toNat cap.toNat, .bool true] ∧ Heap w [] w' [Res.row 4 1 (some ⟨g, 0, none⟩) cap.toNat cap.toNat (blsV (usedL l cap.toNat))]) := by
  refine En [.slice a l.length c, .int .i64 cap] 70 Tryz.func26 ?_
  refine VQi [0, 1] fun K hK => ?_
  (repeat refine Qo ?_); apply hK; clear hK
  refine VQi [0, 1, 15] fun K hK => ?_
  suffices out : ∀ b : Bool, (b = true ↔ (cap < 1 ∨ 4096 < cap)) → K [(0, .slice a l.length c), (1, .int .i64 cap), (15, .bool b)] w by (repeat' (first | exact out _ _ (by first | omega | (simp; done) | (simp; omega)) | exact out _ (by first | omega | (simp; done) | (simp; omega)) | refine ⟨fun _ => ?_, fun _ => ?_⟩ | refine Qo ?_))
  intro b hb
  apply hK; clear hK
  refine VC_cond rfl rfl (fun h => ?_) (fun h => VC_skip ?_)
  · have := hb.1 h
    refine VQi [4, 5] fun K hK => ?_
    (repeat refine Qo ?_); apply hK; clear hK
    exact VC_ret (VX_ret2 rfl rfl rfl (.inl ⟨by omega, rfl, Heap.start w⟩))
  have hg : ¬ (cap < 1 ∨ 4096 < cap) := fun h2 => by have := hb.2 h2; simp_all
  clear hb h
  have hc1 : 1 ≤ cap := by omega
  have hc2 : cap ≤ 4096 := by omega
  obtain ⟨n, rfl⟩ : ∃ n : Nat, cap = n := ⟨cap.toNat, by omega⟩
  rw [Int.toNat_natCast]
  refine VQi [0, 1, 6] fun K hK => ?_
  refine MemK_make Tryz.underlying56 (bytes := 1) (zv := .bool false) (by kernel_rfl) ?_
  refine Qi ?_
  refine ⟨n, n, ⟨rfl, rfl, by omega, by omega, by omega⟩, ?_⟩
  have hH := (Heap.start w).row 4 (n := n) (cap := n) (sz := 1) (List.replicate n (.bool false)) [] (by simp) (by simp) (Nat.le_refl _) (by have : maxLen = 9223372036854775807 := rfl; omega)
  rw [List.append_nil] at hH
  generalize w.alloc (Obj.cells (List.replicate n (Value.bool false)).toArray 4) = w1 at *
  generalize w.heap.size = g at *
  have hH : Heap w [] w1 [Res.row 4 1 (some ⟨g, 0, none⟩) n n (blsV (usedL [] n))] := by
    rw [usedL_nil]
    have e : blsV (List.replicate n false) = List.replicate n (Value.bool false) := by simp [blsV]
    rw [e]; exact hH
  (try refine Qi ?_)
  apply hK; clear hK
  refine VQi [0, 1, 6, 7] fun K hK => ?_
  (repeat refine Qo ?_); apply hK; clear hK
  ((repeat refine VC_seq ?_); refine VC_block ?_)
  refine VC_loopS [0, 1, 6, 7] (fun m e w' => ∃ (i : Nat), Is e [(0, .slice a l.length c), (1, .int .i64 n), (6, .slice (some ⟨g, 0, none⟩) n n), (7, .int .i64 i)] ∧ Heap w [] w' [Res.row 4 1 (some ⟨g, 0, none⟩) n n (blsV (usedL (l.take i) n))] ∧ May n (l.take i) ∧ i ≤ l.length ∧ m = l.length - i) l.length ?_ ?_
  · refine Qi ?_
    exact ⟨0, rfl, hH, ⟨by simp, by simp⟩, by omega, rfl⟩
  clear hH
  rintro m e w2 ⟨i, rfl, hH, hmi, hi, rfl⟩
  refine VQi [0, 1, 6, 7, 21] fun K hK => ?_
  (repeat refine Qo ?_); apply hK; clear hK
  refine VD (fun h => ?_) (fun h => ?_)
  ·
    refine VC_skip ?_
    ((repeat refine VC_seq ?_); refine VC_block ?_)
    have hi' : i < l.length := by omega
    obtain ⟨x, hx⟩ : ∃ x, l[i]? = some x := ⟨_, List.getElem?_eq_getElem hi'⟩
    have htk : l.take (i + 1) = l.take i ++ [x] := by rw [List.take_add_one, hx, Option.toList_some]
    obtain ⟨hx1, hx2⟩ := hok x (List.mem_of_getElem? hx)
    obtain ⟨p, rfl⟩ := rs_pos hl (by omega)
    have hrd := rs_ext (hH.rs' hl) hx
    have hpre : May n l → May n (l.take i ++ [x]) := fun hm => htk ▸ hm.prefix (i + 1)
    generalize l.take i = S at *
    refine VQi [0, 1, 6, 7, 8] fun K hK => ?_
    refine ⟨⟨by omega, by omega⟩, extV x, ⟨rfl, hrd⟩, ?_⟩
    (try refine Qi ?_)
    refine MemK_alloc (.agg #[.int .i64 0, .int .i64 0]) (by kernel_rfl) ?_
    refine Qi ?_
    have hH1 := hH.box 35 [.int .i64 0, .int .i64 0]
    generalize w2.alloc (Obj.cells [Value.int .i64 0, .int .i64 0].toArray 35) = w3 at *
    generalize w2.heap.size = gb at *
    refine MemK_store ?_
    refine Qi ?_
    refine StoreK_blk hH1 0 (vs := extV x) rfl rfl (by kernel_rfl) (by simp [extV]) (extV_one x) fun w4 hH2 => ?_
    have hH2 : Heap w [] w4 [Res.blk gb 35 (extV x), Res.row 4 1 (some ⟨g, 0, none⟩) n n (blsV (usedL S n))] := hH2
    clear hH1 hH
    (try refine Qi ?_)
    apply hK; clear hK
    have c1 : w4.cell? ⟨gb, 0, none⟩ = some (.int .i64 x.1) := blk_cell (hH2.at 0 rfl) rfl
    have c2 : w4.cell? ⟨gb, 1, none⟩ = some (.int .i64 x.2) := blk_cell (hH2.at 0 rfl) rfl
    refine VQi [0, 1, 6, 7, 8, 50] fun K hK => ?_
    suffices out : ∀ b : Bool, (b = true ↔ (x.1 < 30 ∨ (n : Int) < x.1 ∨ x.2 < 1 ∨ (n : Int) - x.1 < x.2)) → K [(0, .slice (some p) l.length c), (1, .int .i64 n), (6, .slice (some ⟨g, 0, none⟩) n n), (7, .int .i64 i), (8, .pointer (some ⟨gb, 0, none⟩)), (50, .bool b)] w4 by
      refine ⟨_, c1, ?_⟩
      (try refine Qi ?_)
      refine ⟨fun h1 => ?_, fun h1 => ?_⟩
      · refine ⟨_, c1, ?_⟩
        (try refine Qi ?_)
        refine ⟨fun h2 => ?_, fun h2 => ?_⟩
        · refine ⟨_, c2, ?_⟩
          (try refine Qi ?_)
          refine ⟨fun h3 => ?_, fun h3 => ?_⟩
          · refine ⟨_, c2, _, c1, ?_⟩
            (try refine Qi ?_)
            refine ⟨I64.mk (by omega) (by omega), ?_⟩
            (repeat' (first | exact out _ _ (by first | omega | (simp; done) | (simp; omega)) | exact out _ (by first | omega | (simp; done) | (simp; omega)) | refine ⟨fun _ => ?_, fun _ => ?_⟩ | refine Qo ?_))
          · (repeat' (first | exact out _ _ (by first | omega | (simp; done) | (simp; omega)) | exact out _ (by first | omega | (simp; done) | (simp; omega)) | refine ⟨fun _ => ?_, fun _ => ?_⟩ | refine Qo ?_))
        · (repeat' (first | exact out _ _ (by first | omega | (simp; done) | (simp; omega)) | exact out _ (by first | omega | (simp; done) | (simp; omega)) | refine ⟨fun _ => ?_, fun _ => ?_⟩ | refine Qo ?_))
      · (repeat' (first | exact out _ _ (by first | omega | (simp; done) | (simp; omega)) | exact out _ (by first | omega | (simp; done) | (simp; omega)) | refine ⟨fun _ => ?_, fun _ => ?_⟩ | refine Qo ?_))
    intro b hb
    apply hK; clear hK
    refine VC_cond rfl rfl (fun h => ?_) (fun h => VC_skip ?_)
    · have hb := hb.1 h
      refine VQi [4, 5] fun K hK => ?_
      (repeat refine Qo ?_); apply hK; clear hK
      refine VC_ret (VX_ret2 rfl rfl rfl (.inl ⟨fun hm => ?_, rfl, hH2.sub (List.nil_sublist _)⟩))
      obtain ⟨q1, q2, q3⟩ := (may_snoc.1 (hpre hm.2.2)).2.1
      omega
    have hgx : ¬ (x.1 < 30 ∨ (n : Int) < x.1 ∨ x.2 < 1 ∨ (n : Int) - x.1 < x.2) := fun h2 => by have := hb.2 h2; simp_all
    clear hb h
    refine VQi [0, 1, 6, 7, 8, 9] fun K hK => ?_
    refine ⟨_, c1, ?_⟩
    (try refine Qi ?_)
    apply hK; clear hK
    obtain ⟨s, hxs⟩ : ∃ s : Nat, x.1 = s := ⟨x.1.toNat, by omega⟩
    have hH2 : Heap w [] w4 [Res.blk gb 35 (extV x), Res.row 4 1 (some ⟨g, 0, none⟩) n n (blsV (usedL (S ++ [(x.1, (s : Int) - x.1)]) n))] := by
      rw [hxs, Int.sub_self, usedL_zero]; exact hH2
    ((repeat refine VC_seq ?_); refine VC_block ?_)
    refine VC_loopS [0, 1, 6, 7, 8, 9] (fun m e w' => ∃ (k : Nat), Is e [(0, .slice (some p) l.length c), (1, .int .i64 n), (6, .slice (some ⟨g, 0, none⟩) n n), (7, .int .i64 i), (8, .pointer (some ⟨gb, 0, none⟩)), (9, .int .i64 k)] ∧ Heap w [] w' [Res.blk gb 35 (extV x), Res.row 4 1 (some ⟨g, 0, none⟩) n n (blsV (usedL (S ++ [(x.1, (k : Int) - x.1)]) n))] ∧
      (x.1 ≤ k ∧ (k : Int) ≤ x.1 + x.2) ∧ (∀ j : Nat, x.1 ≤ j → (j : Int) < k → us S j = false) ∧ m = n - k) (n - s) ?_ ?_
    · refine Qi ?_
      exact ⟨s, by rw [← hxs]; rfl, hH2, by omega, fun j h1 h2 => by omega, rfl⟩
    clear hH2 c1 c2
    rintro m e w5 ⟨k, rfl, hH2, hk, hno, rfl⟩
    have c1 : w5.cell? ⟨gb, 0, none⟩ = some (.int .i64 x.1) := blk_cell (hH2.at 0 rfl) rfl
    have c2 : w5.cell? ⟨gb, 1, none⟩ = some (.int .i64 x.2) := blk_cell (hH2.at 0 rfl) rfl
    refine VQi [0, 1, 6, 7, 8, 9, 59] fun K hK => ?_
    refine ⟨_, c1, _, c2, ?_⟩
    (try refine Qi ?_)
    refine ⟨I64.mk (by omega) (by omega), ?_⟩
    apply hK; clear hK
    refine VD (fun h => ?_) (fun h => ?_)
    ·
      refine VC_skip ?_
      ((repeat refine VC_seq ?_); refine VC_block ?_)
      have hkn : k < n := by omega
      have hcell := row_cell (hH2.at 1 rfl) (blsV_get (l := usedL (S ++ [(x.1, (k : Int) - x.1)]) n) (i := k) (by rw [usedL_len]; exact hkn))
      rw [usedL_get _ hkn, us_append, us_one] at hcell
      have hin : inE (k : Int) (x.1, (k : Int) - x.1) = false := by simp [inE]; omega
      rw [hin, Bool.or_false] at hcell
      refine VQi [0, 1, 6, 7, 8, 9, 65] fun K hK => ?_
      refine ⟨⟨by omega, by omega⟩, _, hcell, ?_⟩
      (try refine Qi ?_)
      apply hK; clear hK
      refine VC_cond rfl rfl (fun h2 => ?_) (fun h2 => VC_skip ?_)
      · refine VQi [4, 5] fun K hK => ?_
        (repeat refine Qo ?_); apply hK; clear hK
        refine VC_ret (VX_ret2 rfl rfl rfl (.inl ⟨fun hm => ?_, rfl, hH2.sub (List.nil_sublist _)⟩))
        obtain ⟨y, hy, h3, h4⟩ := us_iff.1 h2
        have := (may_snoc.1 (hpre hm.2.2)).2.2 y hy
        unfold dj at this
        omega
      refine VQi [0, 1, 6, 7, 8, 9] fun K hK => ?_
      refine ⟨⟨by omega, by omega⟩, ?_⟩
      refine MemK_store ?_
      refine Qi ?_
      refine StoreK_row hH2 1 (o := k) (vs := [.bool true]) rfl (by simp [add_mk]) rfl (by kernel_rfl) (by simp only [List.length_singleton, blsV_len, usedL_len]; omega) (by simp [Value.oneCell']) fun w6 hH3 => ?_
      simp only [List.set_cons_succ, List.set_cons_zero] at hH3
      (try refine Qi ?_)
      apply hK; clear hK
      refine VC_blk ?_
      refine VQi [0, 1, 6, 7, 8, 9] fun K hK => ?_
      (repeat refine Qo ?_); apply hK; clear hK
      refine VC_again ?_
      refine Qi ?_
      refine ⟨n - (k + 1), by omega, k + 1, rfl, ?_, by omega, fun j h3 h4 => ?_, rfl⟩
      · have e1 : blsV (usedL (S ++ [(x.1, ((k + 1 : Nat) : Int) - x.1)]) n) = (blsV (usedL (S ++ [(x.1, (k : Int) - x.1)]) n)).set k (.bool true) := by
          rw [show ((k + 1 : Nat) : Int) = (k : Int) + 1 by omega, ← usedL_set S x.1 k n (by omega) hkn]
          simp [blsV, List.map_set]
        rw [e1]
        have e2 := set_cut (blsV (usedL (S ++ [(x.1, (k : Int) - x.1)]) n)) k (.bool true) (by rw [blsV_len, usedL_len]; exact hkn)
        rw [← e2]; exact hH3
      · by_cases hj : j = k
        · subst hj; exact h2
        · exact hno j h3 (by omega)
    ·
      refine VC_exit rfl ?_
      refine VC_blk ?_
      refine VQi [0, 1, 6, 7] fun K hK => ?_
      (repeat refine Qo ?_); apply hK; clear hK
      refine VC_again ?_
      refine Qi ?_
      have hke : (k : Int) - x.1 = x.2 := by omega
      rw [hke] at hH2
      refine ⟨l.length - (i + 1), by omega, i + 1, rfl, by rw [htk]; exact hH2.sub (List.sublist_cons_self _ _), ?_, by omega, rfl⟩
      rw [htk]
      refine may_snoc.2 ⟨hmi, ⟨by omega, by omega, by omega⟩, fun y hy => ?_⟩
      obtain ⟨q1, q2, q3⟩ := hmi.1 y hy
      refine dj_of_none (by omega) q2 (by omega) (by omega) fun j h1 h2 h3 => ?_
      have h4 := hno j h1 (by omega)
      have h5 := us_iff.2 ⟨y, hy, h3⟩
      rw [h5] at h4; cases h4
  ·
    obtain rfl : i = l.length := by omega
    rw [List.take_length] at *
    refine VC_exit rfl ?_
    refine VQi [4, 5] fun K hK => ?_
    (repeat refine Qo ?_); apply hK; clear hK
    refine VC_ret (VX_ret2 rfl rfl rfl (.inr ⟨⟨hc1, hc2, hmi⟩, g, rfl, hH⟩))
end Go.Proofs.YtoioaddfachjhaaGreatDoor
namespace Go.Proofs.YtoioaddfachjhaaGreatDoor
open Go Go.Eng Go.Ev
set_option maxRecDepth 100000
set_option linter.unusedSimpArgs false
set_option linter.unusedVariables false
def freeGo (at_ : Int) (out : List Ex) : List Ex → Int × List Ex
  | [] => (at_, out)
  | x :: l => freeGo (x.1 + x.2) (if at_ < x.1 then out ++ [(at_, x.1 - at_)] else out) l
def freeS (cap : Int) (T : List Ex) : List Ex := (freeGo 30 [] (T ++ [(max cap 30, 0)])).2
theorem freeGo_append (T U : List Ex) : ∀ (at_ : Int) (out : List Ex), freeGo at_ out (T ++ U) = freeGo (freeGo at_ out T).1 (freeGo at_ out T).2 U := by
  induction T with
  | nil => intro at_ out; rfl
  | cons x T ih => intro at_ out; simp only [List.cons_append, freeGo]; exact ih _ _
theorem extsV_append (l m : List Ex) : extsV (l ++ m) = extsV l ++ extsV m := rowsV_append l m
theorem extsV_sing (x : Ex) : extsV [x] = extV x := rowsV_one x
theorem may_bounds {cap : Int} {T : List Ex} (h : May cap T) {x : Ex} (hx : x ∈ T ++ [(max cap 30, 0)]) : 30 ≤ x.1 ∧ 0 ≤ x.2 ∧ x.1 + x.2 ≤ max cap 30 := by
  rcases List.mem_append.1 hx with hx | hx
  · obtain ⟨h1, h2, h3⟩ := h.1 x hx; omega
  · simp at hx; subst hx; simp only; omega
theorem free_does (l : List Ex) (a : Option Addr) (c : Nat) (cap : Int) (w : World) (hl : RS w a l.length 2 (extsV l)) (hlen : l.length ≤ 1000000) (hok : ∀ x ∈ l, XOk x) (hcap : I64 cap) :
    Does Tryz.prog 9 #[.slice a l.length c, .int .i64 cap] w fun v w' =>
      (¬ (1 ≤ cap ∧ cap ≤ 4096 ∧ May cap l) ∧ v = .tuple #[.slice none 0 0, .int .i64 220] ∧ Heap w [] w' []) ∨
      ((1 ≤ cap ∧ cap ≤ 4096 ∧ May cap l) ∧ ∃ (T : List Ex) (a' : Option Addr) (c' : Nat), T.Perm l ∧ SortedE T ∧ v = .tuple #[.slice a' (freeS cap T).length c', .int .i64 0] ∧ Heap w [] w' [Res.row 35 2 a' (freeS cap T).length c' (extsV (freeS cap T))]) := by
  refine En [.slice a l.length c, .int .i64 cap] 49 Tryz.func9 ?_
  refine VQi [0, 1] fun K hK => ?_
  (repeat refine Qo ?_); apply hK; clear hK
  refine VQi [0, 1, 6] fun K hK => ?_
  refine MemK_call Tryz.call12 ?_; refine Qi ?_; refine CallK.mk (check_does l a c cap w hl (by omega) hok hcap) ?_
  rintro v w2 ⟨hH, n, rfl, hck⟩
  (try refine Qi ?_)
  apply hK; clear hK
  refine VQi [0, 1, 6, 15] fun K hK => ?_
  (repeat refine Qo ?_); apply hK; clear hK
  refine VC_cond rfl rfl (fun h => ?_) (fun h => VC_skip ?_)
  · simp only [decide_eq_true_eq] at h
    obtain ⟨h1, rfl⟩ : ¬ (1 ≤ cap ∧ cap ≤ 4096 ∧ May cap l) ∧ n = 220 := by
      rcases hck with ⟨_, h2⟩ | h2
      · exact absurd h2 h
      · exact h2
    refine VQi [4, 5] fun K hK => ?_
    (repeat refine Qo ?_); apply hK; clear hK
    exact VC_ret (VX_ret2 rfl rfl rfl (.inl ⟨h1, rfl, hH⟩))
  simp only [decide_eq_false_iff_not, Decidable.not_not] at h
  have hmc : 1 ≤ cap ∧ cap ≤ 4096 ∧ May cap l := by
    rcases hck with ⟨h2, _⟩ | ⟨_, h2⟩
    · exact h2
    · omega
  obtain ⟨hc1, hc2, hm⟩ := id hmc
  clear hck h
  refine VQi [0, 1, 7] fun K hK => ?_
  (repeat refine Qo ?_); apply hK; clear hK
  refine VQi [0, 1, 7, 8] fun K hK => ?_
  (repeat refine Qo ?_); apply hK; clear hK
  refine VQi [7, 8, 23, 24, 25] fun K hK => ?_
  refine MemK_call Tryz.call25 ?_; refine Qi ?_; refine CallK.mk (sorted_does l a c w2 (hH.rs' hl) (by omega) hok) ?_
  rintro v w3 ⟨T, a', c', hp, hs, rfl, hH2⟩
  have hH3 := hH.call0 hH2
  clear hH hH2
  have hTl := hp.length_eq
  (try refine Qi ?_)
  refine MemK_litK hH3 2 (extV (max cap 30, 0)) (xs := [.tmp 21]) Tryz.underlying22 sz35 rfl rfl rfl (by omega) (by omega) ?_
  refine Qi ?_
  refine ⟨rfl, by simp [Value.cells], fun g w4 hH4 => ?_⟩
  (try refine Qi ?_)
  refine MemK_append ?_
  refine Qi ?_
  refine AppK_row (zs := #[.int .i64 0, .int .i64 0]) (bytes := 16) hH4 1 rfl Tryz.underlying22 (by kernel_rfl) rfl ⟨rfl, row_rs (hH4.at 0 rfl), 35, Tryz.underlying22⟩ (extV_one _) (fun h => by omega) fun a2 c2 w5 hc' hH5 => ?_
  simp only [List.set_cons_succ, List.set_cons_zero] at hH5
  (try refine Qi ?_)
  apply hK; clear hK
  obtain ⟨U, hU⟩ : ∃ U, U = T ++ [(max cap 30, (0 : Int))] := ⟨_, rfl⟩
  have hUl : U.length = T.length + 1 := by rw [hU]; simp
  have hmT : May cap T := (may_perm hp).2 hm
  have hbd : ∀ x ∈ U, 30 ≤ x.1 ∧ 0 ≤ x.2 ∧ x.1 + x.2 ≤ max cap 30 := fun x hx => may_bounds hmT (hU ▸ hx)
  have hcm : max cap 30 ≤ 4096 := by omega
  have hfr : freeS cap T = (freeGo 30 [] U).2 := by rw [hU]; rfl
  have hH6 : Heap w [] w5 [Res.row 35 2 a2 U.length c2 (extsV U)] := by
    rw [hUl, hU, extsV_append, extsV_sing]
    exact hH5.sub (List.sublist_cons_self _ _)
  rw [← hUl]
  clear hH5 hH4 hH3
  ((repeat refine VC_seq ?_); refine VC_block ?_)
  refine VC_loopS [7, 8, 23, 24, 25] (fun m e w' => ∃ (i : Nat) (ao : Option Addr) (co : Nat), Is e [(7, .slice ao (freeGo 30 [] (U.take i)).2.length co), (8, .int .i64 (freeGo 30 [] (U.take i)).1), (23, .slice a2 U.length c2), (24, .int .i64 U.length), (25, .int .i64 i)] ∧
    Heap w [] w' [Res.row 35 2 ao (freeGo 30 [] (U.take i)).2.length co (extsV (freeGo 30 [] (U.take i)).2), Res.row 35 2 a2 U.length c2 (extsV U)] ∧ (0 ≤ (freeGo 30 [] (U.take i)).1 ∧ (freeGo 30 [] (U.take i)).1 ≤ 4096) ∧ (freeGo 30 [] (U.take i)).2.length ≤ i ∧ i ≤ U.length ∧ m = U.length - i) U.length ?_ ?_
  · refine Qi ?_
    refine ⟨0, none, 0, rfl, hH6.nilRow _ _, ⟨by simp [freeGo], by simp [freeGo]⟩, by simp [freeGo], by omega, rfl⟩
  clear hH6
  rintro m e w6 ⟨i, ao, co, rfl, hH, hat, hol, hi, rfl⟩
  refine VQi [7, 8, 23, 24, 25, 26] fun K hK => ?_
  (repeat refine Qo ?_); apply hK; clear hK
  (repeat refine VC_seq ?_)
  refine VD (fun h => ?_) (fun h => ?_)
  ·
    refine VC_skip ?_
    ((repeat refine VC_seq ?_); refine VC_block ?_)
    have hi' : i < U.length := by omega
    obtain ⟨x, hx⟩ : ∃ x, U[i]? = some x := ⟨_, List.getElem?_eq_getElem hi'⟩
    obtain ⟨b1, b2, b3⟩ := hbd x (List.mem_of_getElem? hx)
    have htk : freeGo 30 [] (U.take (i + 1)) = (x.1 + x.2, if (freeGo 30 [] (U.take i)).1 < x.1 then (freeGo 30 [] (U.take i)).2 ++ [((freeGo 30 [] (U.take i)).1, x.1 - (freeGo 30 [] (U.take i)).1)] else (freeGo 30 [] (U.take i)).2) := by
      rw [List.take_add_one, hx, Option.toList_some, freeGo_append]; rfl
    generalize (freeGo 30 [] (U.take i)).1 = at_ at *
    generalize (freeGo 30 [] (U.take i)).2 = O at *
    obtain ⟨g, rfl⟩ := row_pos (hH.at 1 rfl) (by omega)
    have hrd := rowsV_reads (k := 2) extV_len (row_rs (hH.at 1 rfl)) rfl hx
    rw [addr_add, Nat.zero_add] at hrd
    refine VQi [7, 8, 10, 23, 24, 25] fun K hK => ?_
    refine ⟨⟨by omega, by omega⟩, extV x, ⟨rfl, hrd⟩, ?_⟩
    (try refine Qi ?_)
    refine MemK_alloc (.agg #[.int .i64 0, .int .i64 0]) (by kernel_rfl) ?_
    refine Qi ?_
    have hH1 := hH.box 35 [.int .i64 0, .int .i64 0]
    generalize w6.alloc (Obj.cells [Value.int .i64 0, .int .i64 0].toArray 35) = w7 at *
    generalize w6.heap.size = gb at *
    refine MemK_store ?_
    refine Qi ?_
    refine StoreK_blk hH1 0 (vs := extV x) rfl rfl (by kernel_rfl) (by simp [extV]) (extV_one x) fun w8 hH2 => ?_
    have hH2 : Heap w [] w8 [Res.blk gb 35 (extV x), Res.row 35 2 ao O.length co (extsV O), Res.row 35 2 (some ⟨g, 0, none⟩) U.length c2 (extsV U)] := hH2
    clear hH1 hH
    (try refine Qi ?_)
    apply hK; clear hK
    have c1 : w8.cell? ⟨gb, 0, none⟩ = some (.int .i64 x.1) := blk_cell (hH2.at 0 rfl) rfl
    refine VQi [7, 8, 10, 23, 24, 25, 32] fun K hK => ?_
    refine ⟨_, c1, ?_⟩
    (try refine Qi ?_)
    apply hK; clear hK
    obtain ⟨O', hO'⟩ : ∃ O', O' = if at_ < x.1 then O ++ [(at_, x.1 - at_)] else O := ⟨_, rfl⟩
    rw [← hO'] at htk
    have hOl : O'.length ≤ i + 1 := by
      rw [hO']
      split
      · rw [List.length_append]; simp; omega
      · omega
    refine VC_cut [7, 10, 23, 24, 25] (fun e w' => ∃ (ao' : Option Addr) (co' : Nat), Is e [(7, .slice ao' O'.length co'), (10, .pointer (some ⟨gb, 0, none⟩)), (23, .slice (some ⟨g, 0, none⟩) U.length c2), (24, .int .i64 U.length), (25, .int .i64 i)] ∧
      Heap w [] w' [Res.blk gb 35 (extV x), Res.row 35 2 ao' O'.length co' (extsV O'), Res.row 35 2 (some ⟨g, 0, none⟩) U.length c2 (extsV U)]) ?_ ?_
    · refine VD (fun h => ?_) (fun h => ?_)
      ·
        rw [if_pos h] at hO'
        subst hO'
        refine VQi [7, 10, 23, 24, 25] fun K hK => ?_
        refine ⟨_, c1, ?_⟩
        (try refine Qi ?_)
        refine ⟨I64.mk (by omega) (by omega), ?_⟩
        refine MemK_litK hH2 2 (extV (at_, x.1 - at_)) (xs := [.tmp 39]) Tryz.underlying22 sz35 rfl rfl rfl (by omega) (by omega) ?_
        refine Qi ?_
        refine ⟨rfl, by simp [Value.cells], fun g2 w9 hH3 => ?_⟩
        (try refine Qi ?_)
        refine MemK_append ?_
        refine Qi ?_
        refine AppK_row (zs := #[.int .i64 0, .int .i64 0]) (bytes := 16) hH3 2 rfl Tryz.underlying22 (by kernel_rfl) rfl ⟨rfl, row_rs (hH3.at 0 rfl), 35, Tryz.underlying22⟩ (extV_one _) (fun h => by omega) fun a3 c3 w10 hc' hH4 => ?_
        simp only [List.set_cons_succ, List.set_cons_zero] at hH4
        (try refine Qi ?_)
        apply hK; clear hK
        refine VC_again ?_
        refine Qi ?_
        refine ⟨a3, c3, by rw [List.length_append]; rfl, ?_⟩
        rw [List.length_append, extsV_append, extsV_sing]
        exact hH4.sub (List.sublist_cons_self _ _)
      ·
        rw [if_neg h] at hO'
        subst hO'
        refine VC_skip (VC_again ?_)
        refine Qi ?_
        exact ⟨ao, co, rfl, hH2⟩
    clear hH2 c1
    rintro e w9 ⟨ao', co', rfl, hH2⟩
    have c1 : w9.cell? ⟨gb, 0, none⟩ = some (.int .i64 x.1) := blk_cell (hH2.at 0 rfl) rfl
    have c2' : w9.cell? ⟨gb, 1, none⟩ = some (.int .i64 x.2) := blk_cell (hH2.at 0 rfl) rfl
    refine VQi [7, 8, 23, 24, 25] fun K hK => ?_
    refine ⟨_, c1, _, c2', ?_⟩
    (try refine Qi ?_)
    refine ⟨I64.mk (by omega) (by omega), ?_⟩
    apply hK; clear hK
    refine VC_blk ?_
    refine VQi [7, 8, 23, 24, 25] fun K hK => ?_
    (repeat refine Qo ?_); apply hK; clear hK
    refine VC_again ?_
    refine Qi ?_
    refine ⟨U.length - (i + 1), by omega, i + 1, ao', co', by rw [htk]; rfl, by rw [htk]; exact hH2.sub (List.sublist_cons_self _ _), by rw [htk]; exact ⟨by show (0 : Int) ≤ x.1 + x.2; omega, by show x.1 + x.2 ≤ 4096; omega⟩, by rw [htk]; exact hOl, by omega, rfl⟩
  ·
    obtain rfl : i = U.length := by omega
    rw [List.take_length] at *
    refine VC_exit rfl ?_
    refine VQi [4, 5] fun K hK => ?_
    (repeat refine Qo ?_); apply hK; clear hK
    refine VC_ret (VX_ret2 rfl rfl rfl (.inr ⟨hmc, T, ao, co, hp, hs, by rw [hfr], ?_⟩))
    rw [hfr]
    exact hH.sub (by simp)
end Go.Proofs.YtoioaddfachjhaaGreatDoor
namespace Go.Proofs.YtoioaddfachjhaaGreatDoor
open Go Go.Eng Go.Ev
set_option maxRecDepth 100000
set_option linter.unusedSimpArgs false
set_option linter.unusedVariables false
def bump (o : List Ex) : List Ex := match o.getLast? with
  | some x => o.dropLast ++ [(x.1, x.2 + 1)]
  | none => o
theorem bump_snoc (o : List Ex) (x : Ex) : bump (o ++ [x]) = o ++ [(x.1, x.2 + 1)] := by simp [bump]
def runsGo (u : Nat → Bool) (a : Nat) : Nat → List Ex
  | 0 => []
  | d + 1 => if u (a + d) then runsGo u a d else if 0 < d ∧ u (a + d - 1) = false then bump (runsGo u a d) else runsGo u a d ++ [((a : Int) + d, 1)]
theorem runs_used {u : Nat → Bool} {a d1 : Nat} : ∀ d2, d1 ≤ d2 → (∀ j, d1 ≤ j → j < d2 → u (a + j) = true) → runsGo u a d2 = runsGo u a d1 := by
  intro d2
  induction d2 with
  | zero => intro h _; obtain rfl : d1 = 0 := by omega
            rfl
  | succ d ih =>
    intro h hu
    by_cases hd : d1 = d + 1
    · rw [hd]
    · rw [runsGo, if_pos (hu d (by omega) (by omega))]
      exact ih (by omega) fun j h1 h2 => hu j h1 (by omega)
theorem runs_free {u : Nat → Bool} {a d1 : Nat} (h0 : d1 = 0 ∨ u (a + d1 - 1) = true) : ∀ d2, d1 < d2 → (∀ j, d1 ≤ j → j < d2 → u (a + j) = false) → runsGo u a d2 = runsGo u a d1 ++ [((a : Int) + d1, (d2 : Int) - d1)] := by
  intro d2
  induction d2 with
  | zero => intro h; omega
  | succ d ih =>
    intro h hu
    have h1 := hu d (by omega) (by omega)
    rw [runsGo, h1]
    simp only [Bool.false_eq_true, if_false]
    by_cases hd : d1 = d
    · subst hd
      rw [if_neg (by
        rintro ⟨h2, h3⟩
        rcases h0 with h0 | h0
        · omega
        · rw [h0] at h3; cases h3)]
      congr 4
      omega
    · have h2 := hu (d - 1) (by omega) (by omega)
      rw [if_pos ⟨by omega, by rw [show a + d - 1 = a + (d - 1) by omega]; exact h2⟩, ih (by omega) fun j h3 h4 => hu j h3 (by omega), bump_snoc]
      congr 3
      simp only
      omega
theorem runs_last {u : Nat → Bool} {a : Nat} : ∀ d, 0 < d → u (a + d - 1) = false → runsGo u a d ≠ [] := by
  intro d
  induction d with
  | zero => intro h; omega
  | succ d ih =>
    intro _ h
    rw [show a + (d + 1) - 1 = a + d by omega] at h
    rw [runsGo, h]
    simp only [Bool.false_eq_true, if_false]
    split
    · rename_i h2
      have := ih h2.1 h2.2
      intro h3
      rcases List.eq_nil_or_concat (runsGo u a d) with h4 | ⟨o, x, h4⟩
      · exact this h4
      · rw [List.concat_eq_append] at h4
        rw [h4, bump_snoc] at h3
        simp at h3
    · simp
theorem runs_bound {u : Nat → Bool} {a : Nat} : ∀ d, (runsGo u a d).length ≤ d ∧ ∀ x ∈ runsGo u a d, (a : Int) ≤ x.1 ∧ x.1 ≤ a + d ∧ 0 ≤ x.2 ∧ x.2 ≤ d := by
  intro d
  induction d with
  | zero => exact ⟨Nat.le_refl _, by simp [runsGo]⟩
  | succ d ih =>
    obtain ⟨ih1, ih2⟩ := ih
    rw [runsGo]
    split
    · exact ⟨by omega, fun x hx => by have := ih2 x hx; omega⟩
    · split
      · rcases List.eq_nil_or_concat (runsGo u a d) with h4 | ⟨o, x, h4⟩
        · rw [h4]; exact ⟨by simp [bump], by simp [bump]⟩
        · rw [List.concat_eq_append] at h4
          rw [h4] at ih1 ih2 ⊢
          rw [bump_snoc]
          refine ⟨by simp at ih1 ⊢; omega, fun y hy => ?_⟩
          rcases List.mem_append.1 hy with hy | hy
          · have := ih2 y (List.mem_append_left _ hy); omega
          · have := ih2 x (by simp)
            simp at hy; subst hy; simp only; omega
      · refine ⟨by simp; omega, fun y hy => ?_⟩
        rcases List.mem_append.1 hy with hy | hy
        · have := ih2 y hy; omega
        · simp at hy; subst hy; simp only; omega
theorem free_runs {u : Nat → Bool} {e : Nat} : ∀ (T : List Ex) (at_ : Nat) (out : List Ex), 30 ≤ at_ → at_ ≤ e → SortedE T → (∀ x ∈ T, (at_ : Int) ≤ x.1 ∧ 1 ≤ x.2 ∧ x.1 + x.2 ≤ e) → T.Pairwise dj → (∀ k : Nat, at_ ≤ k → (u k = true ↔ ∃ x ∈ T, x.1 ≤ k ∧ (k : Int) < x.1 + x.2)) →
    runsGo u 30 (at_ - 30) = out → (at_ = 30 ∨ u (at_ - 1) = true) → (freeGo at_ out (T ++ [((e : Int), 0)])).2 = runsGo u 30 (e - 30) := by
  intro T
  induction T with
  | nil =>
    intro at_ out h1 h2 _ _ _ hu hr h0
    simp only [List.nil_append, freeGo]
    by_cases he : at_ = e
    · subst he
      rw [if_neg (by omega), hr]
    · rw [if_pos (by omega), runs_free (d1 := at_ - 30) (by
        rcases h0 with h0 | h0
        · left; omega
        · right; rw [show 30 + (at_ - 30) - 1 = at_ - 1 by omega]; exact h0) (e - 30) (by omega) fun j h3 h4 => ?_, hr]
      · congr 3 <;> omega
      · cases hq : u (30 + j) with
        | false => rfl
        | true =>
          obtain ⟨x, hx, _⟩ := (hu (30 + j) (by omega)).1 hq
          simp at hx
  | cons x T ih =>
    intro at_ out h1 h2 hs hT hp hu hr h0
    obtain ⟨s1, s2⟩ := List.pairwise_cons.1 hs
    obtain ⟨p1, p2⟩ := List.pairwise_cons.1 hp
    obtain ⟨x1, x2, x3⟩ := hT x List.mem_cons_self
    obtain ⟨s, hxs⟩ : ∃ s : Nat, x.1 = s := ⟨x.1.toNat, by omega⟩
    obtain ⟨t, hxt⟩ : ∃ t : Nat, x.2 = t := ⟨x.2.toNat, by omega⟩
    have hbelow : ∀ k : Nat, at_ ≤ k → k < s → u k = false := fun k h3 h4 => by
      cases hq : u k with
      | false => rfl
      | true =>
        obtain ⟨y, hy, h5, h6⟩ := (hu k h3).1 hq
        rcases List.mem_cons.1 hy with rfl | hy
        · omega
        · have := sorted_le (s1 y hy); omega
    have hin : ∀ k : Nat, s ≤ k → k < s + t → u k = true := fun k h3 h4 => (hu k (by omega)).2 ⟨x, List.mem_cons_self, by omega, by omega⟩
    have hout : runsGo u 30 (s - 30) = (if (at_ : Int) < x.1 then out ++ [((at_ : Int), x.1 - at_)] else out) := by
      by_cases he : at_ = s
      · subst he
        rw [if_neg (by omega), hr]
      · rw [if_pos (by omega), runs_free (d1 := at_ - 30) (by
          rcases h0 with h0 | h0
          · left; omega
          · right; rw [show 30 + (at_ - 30) - 1 = at_ - 1 by omega]; exact h0) (s - 30) (by omega) fun j h3 h4 => hbelow (30 + j) (by omega) (by omega), hr]
        congr 3 <;> omega
    have hnext : runsGo u 30 (s + t - 30) = (if (at_ : Int) < x.1 then out ++ [((at_ : Int), x.1 - at_)] else out) := by
      rw [← hout]
      exact runs_used (s + t - 30) (by omega) fun j h3 h4 => hin (30 + j) (by omega) (by omega)
    have hst : x.1 + x.2 = ((s + t : Nat) : Int) := by omega
    have hT2 : ∀ y ∈ T, ((s + t : Nat) : Int) ≤ y.1 ∧ 1 ≤ y.2 ∧ y.1 + y.2 ≤ e := fun y hy => by
      obtain ⟨y1, y2, y3⟩ := hT y (List.mem_cons_of_mem _ hy)
      have q1 := sorted_le (s1 y hy)
      rcases p1 y hy with q2 | q2 <;> exact ⟨by omega, y2, y3⟩
    show (freeGo (x.1 + x.2) _ (T ++ [((e : Int), 0)])).2 = _
    rw [hst]
    refine ih (s + t) _ (by omega) (by omega) s2 hT2 p2 (fun k hk => ?_) hnext (.inr (hin _ (by omega) (by omega)))
    rw [hu k (by omega)]
    constructor
    · rintro ⟨y, hy, h3, h4⟩
      rcases List.mem_cons.1 hy with rfl | hy
      · omega
      · exact ⟨y, hy, h3, h4⟩
    · rintro ⟨y, hy, h3⟩
      exact ⟨y, List.mem_cons_of_mem _ hy, h3⟩
theorem freeS_runs {n : Nat} {l T : List Ex} (hp : T.Perm l) (hs : SortedE T) (hm : May n l) : freeS n T = runsGo (us l) 30 (n - 30) := by
  have hmT := (may_perm hp).2 hm
  have e1 : max (n : Int) 30 = ((max n 30 : Nat) : Int) := by omega
  unfold freeS
  rw [e1]
  have := free_runs (u := us l) (e := max n 30) T 30 [] (Nat.le_refl _) (by omega) hs (fun x hx => by obtain ⟨h1, h2, h3⟩ := hmT.1 x hx; exact ⟨h1, h2, by omega⟩) hmT.2 (fun k _ => by
    rw [us_iff]
    constructor
    · rintro ⟨x, hx, h⟩; exact ⟨x, hp.mem_iff.2 hx, h⟩
    · rintro ⟨x, hx, h⟩; exact ⟨x, hp.mem_iff.1 hx, h⟩) rfl (.inl rfl)
  rw [show ((30 : Nat) : Int) = 30 from rfl] at this
  rw [this]
  congr 1
  omega
end Go.Proofs.YtoioaddfachjhaaGreatDoor
namespace Go.Proofs.YtoioaddfachjhaaGreatDoor
open Go Go.Eng Go.Ev
set_option maxRecDepth 100000
set_option linter.unusedSimpArgs false
set_option linter.unusedVariables false
theorem extsV_snoc_bump (P : List Ex) (y : Ex) : (extsV (P ++ [y])).set (P.length * 2 + 1) (.int .i64 (y.2 + 1)) = extsV (P ++ [(y.1, y.2 + 1)]) := by
  rw [extsV_append, extsV_append, extsV_sing, extsV_sing]
  have e : (extsV P).length = P.length * 2 := extsV_len P
  rw [← e, List.set_append_right _ _ (by omega), show (extsV P).length + 1 - (extsV P).length = 1 by omega]
  rfl
theorem extsV_snoc_get (P : List Ex) (y : Ex) : (extsV (P ++ [y]))[P.length * 2 + 1]? = some (.int .i64 y.2) := by
  rw [extsV_append, extsV_sing]
  have e : (extsV P).length = P.length * 2 := extsV_len P
  rw [← e, List.getElem?_append_right (by omega), show (extsV P).length + 1 - (extsV P).length = 1 by omega]
  rfl
theorem rfree_does (l : List Ex) (a : Option Addr) (c : Nat) (cap : Int) (w : World) (hl : RS w a l.length 2 (extsV l)) (hlen : l.length ≤ 1000000) (hok : ∀ x ∈ l, XOk x) (hcap : I64 cap) :
    Does Tryz.prog 10 #[.slice a l.length c, .int .i64 cap] w fun v w' =>
      (¬ (1 ≤ cap ∧ cap ≤ 4096 ∧ May cap l) ∧ v = .tuple #[.slice none 0 0, .int .i64 220] ∧ Heap w [] w' []) ∨
      ((1 ≤ cap ∧ cap ≤ 4096 ∧ May cap l) ∧ ∃ (a' : Option Addr) (c' : Nat), v = .tuple #[.slice a' (runsGo (us l) 30 (cap.toNat - 30)).length c', .int .i64 0] ∧ Heap w [] w' [Res.row 35 2 a' (runsGo (us l) 30 (cap.toNat - 30)).length c' (extsV (runsGo (us l) 30 (cap.toNat - 30)))]) := by
  refine En [.slice a l.length c, .int .i64 cap] 53 Tryz.func10 ?_
  refine VQi [0, 1] fun K hK => ?_
  (repeat refine Qo ?_); apply hK; clear hK
  refine VQi [1, 6, 7] fun K hK => ?_
  refine MemK_call Tryz.call26 ?_; refine Qi ?_; refine CallK.mk (taken_does l a c cap w hl hlen hok hcap) ?_
  rintro v w2 (⟨hno, rfl, hH⟩ | ⟨hmc, gu, rfl, hH⟩)
  · (try refine Qi ?_)
    apply hK; clear hK
    refine VQi [1, 6, 17] fun K hK => ?_
    (repeat refine Qo ?_); apply hK; clear hK
    refine VC_cond rfl rfl (fun h => ?_) (fun h => by simp at h)
    refine VQi [4, 5] fun K hK => ?_
    (repeat refine Qo ?_); apply hK; clear hK
    exact VC_ret (VX_ret2 rfl rfl rfl (.inl ⟨hno, rfl, hH⟩))
  (try refine Qi ?_)
  apply hK; clear hK
  refine VQi [1, 6, 17] fun K hK => ?_
  (repeat refine Qo ?_); apply hK; clear hK
  refine VC_cond rfl rfl (fun h => by simp at h) (fun h => VC_skip ?_)
  clear h
  obtain ⟨hc1, hc2, hm⟩ := id hmc
  obtain ⟨n, rfl⟩ : ∃ n : Nat, cap = n := ⟨cap.toNat, by omega⟩
  rw [Int.toNat_natCast] at *
  refine VQi [1, 6, 8] fun K hK => ?_
  (repeat refine Qo ?_); apply hK; clear hK
  refine VQi [1, 6, 8, 9] fun K hK => ?_
  (repeat refine Qo ?_); apply hK; clear hK
  ((repeat refine VC_seq ?_); refine VC_block ?_)
  refine VC_loopS [1, 6, 8, 9] (fun m e w' => ∃ (d : Nat) (ao : Option Addr) (co : Nat), Is e [(1, .int .i64 n), (6, .slice (some ⟨gu, 0, none⟩) n n), (8, .slice ao (runsGo (us l) 30 d).length co), (9, .int .i64 (30 + d : Nat))] ∧
    Heap w [] w' [Res.row 35 2 ao (runsGo (us l) 30 d).length co (extsV (runsGo (us l) 30 d)), Res.row 4 1 (some ⟨gu, 0, none⟩) n n (blsV (usedL l n))] ∧ (d = 0 ∨ 30 + d ≤ n) ∧ m = n - (30 + d)) (n - 30) ?_ ?_
  · refine Qi ?_
    exact ⟨0, none, 0, rfl, hH.nilRow _ _, .inl rfl, rfl⟩
  clear hH
  rintro m e w3 ⟨d, ao, co, rfl, hH, hd, rfl⟩
  obtain ⟨rb1, rb2⟩ := runs_bound (u := us l) (a := 30) d
  refine VQi [1, 6, 8, 9, 20] fun K hK => ?_
  (repeat refine Qo ?_); apply hK; clear hK
  refine VD (fun h => ?_) (fun h => ?_)
  ·
    refine VC_skip ?_
    ((repeat refine VC_seq ?_); refine VC_block ?_)
    have hkn : 30 + d < n := by omega
    have hcell := row_cell (hH.at 1 rfl) (blsV_get (l := usedL l n) (i := 30 + d) (by rw [usedL_len]; exact hkn))
    rw [usedL_get _ hkn] at hcell
    have hrun : runsGo (us l) 30 (d + 1) = if us l (30 + d) then runsGo (us l) 30 d else if 0 < d ∧ us l (30 + d - 1) = false then bump (runsGo (us l) 30 d) else runsGo (us l) 30 d ++ [(((30 : Nat) : Int) + d, 1)] := rfl
    have hlast := runs_last (u := us l) (a := 30) d
    generalize runsGo (us l) 30 d = O at *
    refine VQi [1, 6, 8, 9, 26] fun K hK => ?_
    refine ⟨⟨by omega, by omega⟩, _, hcell, ?_⟩
    (try refine Qi ?_)
    apply hK; clear hK
    refine VC_cond rfl rfl (fun h2 => ?_) (fun h2 => VC_skip ?_)
    · rw [if_pos h2] at hrun
      refine VC_exit rfl ?_
      refine VQi [1, 6, 8, 9] fun K hK => ?_
      (repeat refine Qo ?_); apply hK; clear hK
      refine VC_again ?_
      refine Qi ?_
      exact ⟨n - (30 + (d + 1)), by omega, d + 1, ao, co, by rw [hrun]; rfl, by rw [hrun]; exact hH, by omega, rfl⟩
    rw [h2] at hrun
    simp only [Bool.false_eq_true, if_false] at hrun
    refine VQi [1, 6, 8, 9, 36] fun K hK => ?_
    suffices out : ∀ b : Bool, (b = true ↔ (0 < d ∧ us l (30 + d - 1) = false)) → K [(1, .int .i64 n), (6, .slice (some ⟨gu, 0, none⟩) n n), (8, .slice ao O.length co), (9, .int .i64 (30 + d : Nat)), (36, .bool b)] w3 by
      refine ⟨fun h1 => ?_, fun h1 => ?_⟩
      · have hcell2 := row_cell (hH.at 1 rfl) (blsV_get (l := usedL l n) (i := 30 + d - 1) (by rw [usedL_len]; omega))
        rw [usedL_get _ (by omega)] at hcell2
        refine ⟨I64.mk (by omega) (by omega), ?_⟩
        refine ⟨⟨by omega, by omega⟩, _, hcell2, ?_⟩
        (try refine Qi ?_)
        (repeat' (first | exact out _ _ (by first | omega | (simp; done) | (simp; omega)) | exact out _ (by first | omega | (simp; done) | (simp; omega)) | refine ⟨fun _ => ?_, fun _ => ?_⟩ | refine Qo ?_))
      · (repeat' (first | exact out _ _ (by first | omega | (simp; done) | (simp; omega)) | exact out _ (by first | omega | (simp; done) | (simp; omega)) | refine ⟨fun _ => ?_, fun _ => ?_⟩ | refine Qo ?_))
    intro b hb
    apply hK; clear hK
    refine VC_cond rfl rfl (fun h3 => ?_) (fun h3 => ?_)
    · have hf := hb.1 h3
      rw [if_pos hf] at hrun
      rcases List.eq_nil_or_concat O with h4 | ⟨P, y, h4⟩
      · exact absurd h4 (hlast hf.1 hf.2)
      rw [List.concat_eq_append] at h4
      subst h4
      rw [bump_snoc] at hrun
      have hPl : (P ++ [y]).length = P.length + 1 := by simp
      rw [hPl] at hH ⊢
      obtain ⟨y1, y2, y3, y4⟩ := rb2 y (by simp)
      obtain ⟨ga, rfl⟩ := row_pos (n := P.length + 1) (hH.at 0 rfl) (by omega)
      have hcy := row_cell (hH.at 0 rfl) (extsV_snoc_get P y)
      refine VQi [1, 6, 8, 9] fun K hK => ?_
      simp only [Nat.add_sub_cancel]
      refine ⟨I64.mk (by omega) (by omega), ⟨by omega, by omega⟩, .int .i64 y.2, hcy, ?_⟩
      (try refine Qi ?_)
      refine ⟨I64.mk (by omega) (by omega), ⟨by omega, by omega⟩, ?_⟩
      refine MemK_store ?_
      refine Qi ?_
      refine StoreK_row hH 0 (o := P.length * 2 + 1) (vs := [.int .i64 (y.2 + 1)]) rfl (by simp [add_mk]) rfl (by kernel_rfl) (by simp only [List.length_singleton, extsV_len, List.length_append]; omega) (by simp [Value.oneCell']) fun w6 hH3 => ?_
      simp only [List.set_cons_succ, List.set_cons_zero] at hH3
      have e2 := set_cut (extsV (P ++ [y])) (P.length * 2 + 1) (.int .i64 (y.2 + 1)) (by rw [extsV_len, List.length_append, List.length_singleton]; omega)
      rw [e2, extsV_snoc_bump] at hH3
      (try refine Qi ?_)
      apply hK; clear hK
      refine VC_blk ?_
      refine VQi [1, 6, 8, 9] fun K hK => ?_
      (repeat refine Qo ?_); apply hK; clear hK
      refine VC_again ?_
      refine Qi ?_
      have hl2 : (P ++ [(y.1, y.2 + 1)]).length = P.length + 1 := by simp
      exact ⟨n - (30 + (d + 1)), by omega, d + 1, _, co, by rw [hrun, hl2]; rfl, by rw [hrun, hl2]; exact hH3, by omega, rfl⟩
    · have hf : ¬ (0 < d ∧ us l (30 + d - 1) = false) := fun h4 => by have := hb.2 h4; simp_all
      rw [if_neg hf] at hrun
      refine VQi [1, 6, 8, 9] fun K hK => ?_
      refine MemK_litK hH 2 (extV (((30 + d : Nat) : Int), 1)) (xs := [.tmp 49]) Tryz.underlying22 sz35 rfl rfl rfl (by omega) (by omega) ?_
      refine Qi ?_
      refine ⟨rfl, by simp [Value.cells], fun g2 w9 hH3 => ?_⟩
      (try refine Qi ?_)
      refine MemK_append ?_
      refine Qi ?_
      refine AppK_row (zs := #[.int .i64 0, .int .i64 0]) (bytes := 16) hH3 1 rfl Tryz.underlying22 (by kernel_rfl) rfl ⟨rfl, row_rs (hH3.at 0 rfl), 35, Tryz.underlying22⟩ (extV_one _) (fun h => by omega) fun a3 c3 w10 hc' hH4 => ?_
      simp only [List.set_cons_succ, List.set_cons_zero] at hH4
      (try refine Qi ?_)
      apply hK; clear hK
      refine VC_blk ?_
      refine VQi [1, 6, 8, 9] fun K hK => ?_
      (repeat refine Qo ?_); apply hK; clear hK
      refine VC_again ?_
      refine Qi ?_
      have hl2 : (O ++ [(((30 : Nat) : Int) + d, 1)]).length = O.length + 1 := by simp
      refine ⟨n - (30 + (d + 1)), by omega, d + 1, a3, c3, by rw [hrun, hl2]; rfl, ?_, by omega, rfl⟩
      rw [hrun, hl2, extsV_append, extsV_sing, show (((30 : Nat) : Int) + (d : Int)) = ((30 + d : Nat) : Int) by omega]
      exact hH4.sub (List.sublist_cons_self _ _)
  ·
    refine VC_exit rfl ?_
    have hde : d = n - 30 := by omega
    subst hde
    refine VQi [4, 5] fun K hK => ?_
    (repeat refine Qo ?_); apply hK; clear hK
    exact VC_ret (VX_ret2 rfl rfl rfl (.inr ⟨hmc, ao, co, rfl, hH.sub (by simp)⟩))
end Go.Proofs.YtoioaddfachjhaaGreatDoor
namespace Go.Proofs.YtoioaddfachjhaaGreatDoor
open Go Go.Eng Go.Ev
set_option maxRecDepth 100000
set_option linter.unusedSimpArgs false
set_option linter.unusedVariables false
def firS (need : Int) : List Ex → Int × Int
  | [] => (0, 220)
  | x :: l => if need ≤ x.2 then (x.1, 0) else firS need l
theorem freeGo_ok : ∀ (U : List Ex) (at_ : Int) (O : List Ex), (∀ x ∈ U, XOk x) → I64 at_ → (∀ x ∈ U, I64 (x.1 + x.2)) → (∀ x ∈ U, ∀ y, (y = at_ ∨ ∃ z ∈ U, y = z.1 + z.2) → y < x.1 → I64 (x.1 - y)) → (∀ x ∈ O, XOk x) → ∀ x ∈ (freeGo at_ O U).2, XOk x := by
  intro U
  induction U with
  | nil => intro at_ O _ _ _ _ h; exact h
  | cons x U ih =>
    intro at_ O h1 h2 h3 h4 h5
    refine ih _ _ (fun y hy => h1 y (List.mem_cons_of_mem _ hy)) (h3 x List.mem_cons_self) (fun y hy => h3 y (List.mem_cons_of_mem _ hy)) (fun y hy z hz => h4 y (List.mem_cons_of_mem _ hy) z (.inr ?_)) ?_
    · rcases hz with rfl | ⟨u, hu, rfl⟩
      · exact ⟨x, List.mem_cons_self, rfl⟩
      · exact ⟨u, List.mem_cons_of_mem _ hu, rfl⟩
    · intro y hy
      split at hy
      · rename_i hlt
        rcases List.mem_append.1 hy with hy | hy
        · exact h5 y hy
        · simp at hy; subst hy
          exact ⟨h2, h4 x List.mem_cons_self at_ (.inl rfl) hlt⟩
      · exact h5 y hy
theorem freeGo_len : ∀ (U : List Ex) (at_ : Int) (O : List Ex), (freeGo at_ O U).2.length ≤ O.length + U.length := by
  intro U
  induction U with
  | nil => intro at_ O; simp [freeGo]
  | cons x U ih =>
    intro at_ O
    refine Nat.le_trans (ih _ _) ?_
    split
    · rw [List.length_append]; simp only [List.length_cons, List.length_nil]; omega
    · simp only [List.length_cons]; omega
theorem freeS_len (cap : Int) (T : List Ex) : (freeS cap T).length ≤ T.length + 1 := by
  have := freeGo_len (T ++ [(max cap 30, 0)]) 30 []
  simpa [freeS] using this
theorem freeS_ok {cap : Int} (hc : cap ≤ 4096) {T : List Ex} (h : May cap T) : ∀ x ∈ freeS cap T, XOk x := by
  have hb := fun x hx => may_bounds h (x := x) hx
  have hcm : max cap 30 ≤ 4096 := by omega
  refine freeGo_ok _ 30 [] (fun x hx => ?_) (by unfold I64; omega) (fun x hx => ?_) (fun x hx y hy hlt => ?_) (by simp)
  · obtain ⟨h1, h2, h3⟩ := hb x hx; unfold XOk I64; omega
  · obtain ⟨h1, h2, h3⟩ := hb x hx; unfold I64; omega
  · obtain ⟨h1, h2, h3⟩ := hb x hx
    rcases hy with rfl | ⟨z, hz, rfl⟩
    · unfold I64; omega
    · obtain ⟨h4, h5, h6⟩ := hb z hz; unfold I64; omega
theorem first_does (l : List Ex) (a : Option Addr) (c : Nat) (cap need : Int) (w : World) (hl : RS w a l.length 2 (extsV l)) (hlen : l.length ≤ 1000000) (hok : ∀ x ∈ l, XOk x) (hcap : I64 cap) (hneed : I64 need) :
    Does Tryz.prog 16 #[.slice a l.length c, .int .i64 cap, .int .i64 need] w fun v w' => Heap w [] w' [] ∧
      ((need < 1 ∧ v = .tuple #[.int .i64 0, .int .i64 2]) ∨ (1 ≤ need ∧ ¬ (1 ≤ cap ∧ cap ≤ 4096 ∧ May cap l) ∧ v = .tuple #[.int .i64 0, .int .i64 220]) ∨
      (1 ≤ need ∧ (1 ≤ cap ∧ cap ≤ 4096 ∧ May cap l) ∧ ∃ T : List Ex, T.Perm l ∧ SortedE T ∧ v = .tuple #[.int .i64 (firS need (freeS cap T)).1, .int .i64 (firS need (freeS cap T)).2])) := by
  refine En [.slice a l.length c, .int .i64 cap, .int .i64 need] 36 Tryz.func16 ?_
  refine VQi [0, 1, 2] fun K hK => ?_
  (repeat refine Qo ?_); apply hK; clear hK
  refine VQi [0, 1, 2, 13] fun K hK => ?_
  (repeat refine Qo ?_); apply hK; clear hK
  refine VD (fun h => ?_) (fun h => VC_skip ?_)
  ·
    refine VQi [6, 7] fun K hK => ?_
    (repeat refine Qo ?_); apply hK; clear hK
    exact VC_ret (VX_ret2 rfl rfl rfl ⟨Heap.start w, .inl ⟨h, rfl⟩⟩)
  have hn1 : 1 ≤ need := by omega
  clear h
  refine VQi [2, 8, 9] fun K hK => ?_
  refine MemK_call Tryz.call9 ?_; refine Qi ?_; refine CallK.mk (free_does l a c cap w hl hlen hok hcap) ?_
  rintro v w2 (⟨hno, rfl, hH⟩ | ⟨hmc, T, a2, c2, hp, hs, rfl, hH⟩)
  · (try refine Qi ?_)
    apply hK; clear hK
    refine VQi [2, 8, 9, 21] fun K hK => ?_
    (repeat refine Qo ?_); apply hK; clear hK
    refine VC_cond rfl rfl (fun h => ?_) (fun h => by simp at h)
    refine VQi [6, 7] fun K hK => ?_
    (repeat refine Qo ?_); apply hK; clear hK
    exact VC_ret (VX_ret2 rfl rfl rfl ⟨hH, .inr (.inl ⟨hn1, hno, rfl⟩)⟩)
  (try refine Qi ?_)
  apply hK; clear hK
  refine VQi [2, 8, 9, 21] fun K hK => ?_
  (repeat refine Qo ?_); apply hK; clear hK
  refine VC_cond rfl rfl (fun h => by simp at h) (fun h => VC_skip ?_)
  clear h
  have hFok := freeS_ok hmc.2.1 ((may_perm hp).2 hmc.2.2)
  have hFl := freeS_len cap T
  rw [hp.length_eq] at hFl
  obtain ⟨F, hF⟩ : ∃ F, F = freeS cap T := ⟨_, rfl⟩
  rw [← hF] at hH hFok hFl ⊢
  refine VQi [2, 23, 24, 25] fun K hK => ?_
  (repeat refine Qo ?_); apply hK; clear hK
  ((repeat refine VC_seq ?_); refine VC_block ?_)
  refine VC_loopS [2, 23, 24, 25] (fun m e w' => ∃ (i : Nat), Is e [(2, .int .i64 need), (23, .slice a2 F.length c2), (24, .int .i64 F.length), (25, .int .i64 i)] ∧ Heap w [] w' [Res.row 35 2 a2 F.length c2 (extsV F)] ∧ firS need F = firS need (F.drop i) ∧ i ≤ F.length ∧ m = F.length - i) F.length ?_ ?_
  · refine Qi ?_
    exact ⟨0, rfl, hH, rfl, by omega, rfl⟩
  clear hH
  rintro m e w3 ⟨i, rfl, hH, hfi, hi, rfl⟩
  refine VQi [2, 23, 24, 25, 26] fun K hK => ?_
  (repeat refine Qo ?_); apply hK; clear hK
  (repeat refine VC_seq ?_)
  refine VD (fun h => ?_) (fun h => ?_)
  ·
    refine VC_skip ?_
    ((repeat refine VC_seq ?_); refine VC_block ?_)
    have hi' : i < F.length := by omega
    obtain ⟨x, hx⟩ : ∃ x, F[i]? = some x := ⟨_, List.getElem?_eq_getElem hi'⟩
    have hdr : F.drop i = x :: F.drop (i + 1) := by
      rw [List.drop_eq_getElem_cons hi']; congr 1
      rw [List.getElem?_eq_getElem hi'] at hx; exact Option.some.inj hx
    rw [hdr, firS] at hfi
    obtain ⟨g, rfl⟩ := row_pos (hH.at 0 rfl) (by omega)
    have hrd := rowsV_reads (k := 2) extV_len (row_rs (hH.at 0 rfl)) rfl hx
    rw [addr_add, Nat.zero_add] at hrd
    refine VQi [2, 11, 23, 24, 25] fun K hK => ?_
    refine ⟨⟨by omega, by omega⟩, extV x, ⟨rfl, hrd⟩, ?_⟩
    (try refine Qi ?_)
    refine MemK_alloc (.agg #[.int .i64 0, .int .i64 0]) (by kernel_rfl) ?_
    refine Qi ?_
    have hH1 := hH.box 35 [.int .i64 0, .int .i64 0]
    generalize w3.alloc (Obj.cells [Value.int .i64 0, .int .i64 0].toArray 35) = w4 at *
    generalize w3.heap.size = gb at *
    refine MemK_store ?_
    refine Qi ?_
    refine StoreK_blk hH1 0 (vs := extV x) rfl rfl (by kernel_rfl) (by simp [extV]) (extV_one x) fun w5 hH2 => ?_
    have hH2 : Heap w [] w5 [Res.blk gb 35 (extV x), Res.row 35 2 (some ⟨g, 0, none⟩) F.length c2 (extsV F)] := hH2
    clear hH1 hH
    (try refine Qi ?_)
    apply hK; clear hK
    have c1 : w5.cell? ⟨gb, 0, none⟩ = some (.int .i64 x.1) := blk_cell (hH2.at 0 rfl) rfl
    have c2' : w5.cell? ⟨gb, 1, none⟩ = some (.int .i64 x.2) := blk_cell (hH2.at 0 rfl) rfl
    refine VQi [2, 11, 23, 24, 25, 32] fun K hK => ?_
    refine ⟨_, c2', ?_⟩
    (try refine Qi ?_)
    apply hK; clear hK
    refine VD (fun h => ?_) (fun h => VC_skip ?_)
    ·
      rw [if_pos h] at hfi
      refine VQi [6, 7] fun K hK => ?_
      refine ⟨_, c1, ?_⟩
      (try refine Qi ?_)
      apply hK; clear hK
      refine VC_ret (VX_ret2 rfl rfl rfl ⟨hH2.sub (List.nil_sublist _), .inr (.inr ⟨hn1, hmc, T, hp, hs, ?_⟩)⟩)
      rw [← hF, hfi]
    rw [if_neg h] at hfi
    refine VC_blk ?_
    refine VQi [2, 23, 24, 25] fun K hK => ?_
    (repeat refine Qo ?_); apply hK; clear hK
    refine VC_again ?_
    refine Qi ?_
    exact ⟨F.length - (i + 1), by omega, i + 1, rfl, hH2.sub (List.sublist_cons_self _ _), hfi, by omega, rfl⟩
  ·
    obtain rfl : i = F.length := by omega
    rw [List.drop_length, firS] at hfi
    refine VC_exit rfl ?_
    refine VQi [6, 7] fun K hK => ?_
    (repeat refine Qo ?_); apply hK; clear hK
    refine VC_ret (VX_ret2 rfl rfl rfl ⟨hH.sub (List.nil_sublist _), .inr (.inr ⟨hn1, hmc, T, hp, hs, ?_⟩)⟩)
    rw [← hF, hfi]
end Go.Proofs.YtoioaddfachjhaaGreatDoor
namespace Go.Proofs.YtoioaddfachjhaaGreatDoor
open Go Go.Eng Go.Ev
set_option maxRecDepth 100000
set_option linter.unusedSimpArgs false
set_option linter.unusedVariables false
theorem rfirst_does (l : List Ex) (a : Option Addr) (c : Nat) (cap need : Int) (w : World) (hl : RS w a l.length 2 (extsV l)) (hlen : l.length ≤ 1000000) (hok : ∀ x ∈ l, XOk x) (hcap : I64 cap) (hneed : I64 need) :
    Does Tryz.prog 17 #[.slice a l.length c, .int .i64 cap, .int .i64 need] w fun v w' => Heap w [] w' [] ∧
      ((need < 1 ∧ v = .tuple #[.int .i64 0, .int .i64 2]) ∨ (1 ≤ need ∧ ¬ (1 ≤ cap ∧ cap ≤ 4096 ∧ May cap l) ∧ v = .tuple #[.int .i64 0, .int .i64 220]) ∨
      (1 ≤ need ∧ (1 ≤ cap ∧ cap ≤ 4096 ∧ May cap l) ∧ v = .tuple #[.int .i64 (firS need (runsGo (us l) 30 (cap.toNat - 30))).1, .int .i64 (firS need (runsGo (us l) 30 (cap.toNat - 30))).2])) := by
  refine En [.slice a l.length c, .int .i64 cap, .int .i64 need] 40 Tryz.func17 ?_
  refine VS [0, 1, 2] ?_
  refine VS [0, 1, 2, 12] ?_
  refine VD (fun h => ?_) (fun h => VC_skip ?_)
  ·
    refine VS [6, 7] ?_
    exact VC_ret (VX_ret2 rfl rfl rfl ⟨Heap.start w, .inl ⟨h, rfl⟩⟩)
  have hn1 : 1 ≤ need := by omega
  clear h
  refine VQ [2, 8, 9] fun K hK => ?_
  refine MemK_call Tryz.call10 ?_; refine Qs ?_; refine CallK.mk (rfree_does l a c cap w hl hlen hok hcap) ?_
  rintro v w2 (⟨hno, rfl, hH⟩ | ⟨hmc, a2, c2, rfl, hH⟩)
  · (try refine Qs ?_)
    apply hK; clear hK
    refine VS [2, 8, 9, 20] ?_
    refine VC_cond rfl rfl (fun h => ?_) (fun h => by simp at h)
    refine VS [6, 7] ?_
    exact VC_ret (VX_ret2 rfl rfl rfl ⟨hH, .inr (.inl ⟨hn1, hno, rfl⟩)⟩)
  (try refine Qs ?_)
  apply hK; clear hK
  refine VS [2, 8, 9, 20] ?_
  refine VC_cond rfl rfl (fun h => by simp at h) (fun h => VC_skip ?_)
  clear h
  obtain ⟨hFl, _⟩ := runs_bound (u := us l) (a := 30) (cap.toNat - 30)
  obtain ⟨F, hF⟩ : ∃ F, F = runsGo (us l) 30 (cap.toNat - 30) := ⟨_, rfl⟩
  rw [← hF] at hH hFl ⊢
  have hFl : F.length ≤ 4096 := by omega
  refine VS [2, 8, 10] ?_
  refine VB ?_
  refine VC_loopS [2, 8, 10] (fun m e w' => ∃ (i : Nat), Is e [(2, .int .i64 need), (8, .slice a2 F.length c2), (10, .int .i64 i)] ∧ Heap w [] w' [Res.row 35 2 a2 F.length c2 (extsV F)] ∧ firS need F = firS need (F.drop i) ∧ i ≤ F.length ∧ m = F.length - i) F.length ?_ ?_
  · refine Qs ?_
    exact ⟨0, rfl, hH, rfl, by omega, rfl⟩
  clear hH
  rintro m e w3 ⟨i, rfl, hH, hfi, hi, rfl⟩
  refine VS [2, 8, 10, 25] ?_
  refine VD (fun h => ?_) (fun h => ?_)
  ·
    refine VC_skip ?_
    refine VB ?_
    have hi' : i < F.length := by omega
    obtain ⟨x, hx⟩ : ∃ x, F[i]? = some x := ⟨_, List.getElem?_eq_getElem hi'⟩
    have hdr : F.drop i = x :: F.drop (i + 1) := by
      rw [List.drop_eq_getElem_cons hi']; congr 1
      rw [List.getElem?_eq_getElem hi'] at hx; exact Option.some.inj hx
    rw [hdr, firS] at hfi
    obtain ⟨g, rfl⟩ := row_pos (hH.at 0 rfl) (by omega)
    have hrd := rowsV_reads (k := 2) extV_len (row_rs (hH.at 0 rfl)) rfl hx
    rw [addr_add, Nat.zero_add] at hrd
    have c1 : w3.cell? ⟨g, i * 2, none⟩ = some (.int .i64 x.1) := hrd 0 _ rfl
    have c2' : w3.cell? ⟨g, i * 2 + 1, none⟩ = some (.int .i64 x.2) := hrd 1 _ rfl
    refine VQ [2, 8, 10, 34] fun K hK => ?_
    refine ⟨⟨by omega, by omega⟩, _, c2', ?_⟩
    (try refine Qs ?_)
    apply hK; clear hK
    refine VD (fun h => ?_) (fun h => VC_skip ?_)
    ·
      rw [if_pos (by omega)] at hfi
      refine VQ [6, 7] fun K hK => ?_
      refine ⟨⟨by omega, by omega⟩, _, c1, ?_⟩
      (try refine Qs ?_)
      apply hK; clear hK
      refine VC_ret (VX_ret2 rfl rfl rfl ⟨hH.sub (List.nil_sublist _), .inr (.inr ⟨hn1, hmc, ?_⟩)⟩)
      rw [hfi]
    rw [if_neg (by omega)] at hfi
    refine VC_blk ?_
    refine VS [2, 8, 10] ?_
    refine VC_again ?_
    refine Qs ?_
    exact ⟨F.length - (i + 1), by omega, i + 1, rfl, hH, hfi, by omega, rfl⟩
  ·
    obtain rfl : i = F.length := by omega
    rw [List.drop_length, firS] at hfi
    refine VC_exit rfl ?_
    refine VS [6, 7] ?_
    refine VC_ret (VX_ret2 rfl rfl rfl ⟨hH.sub (List.nil_sublist _), .inr (.inr ⟨hn1, hmc, ?_⟩)⟩)
    rw [hfi]
theorem spaceFirsts_law (l : List Ex) (a : Option Addr) (c : Nat) (cap need : Int) (w : World) (hl : RS w a l.length 2 (extsV l)) (hlen : l.length ≤ 8796093022208) (hok : ∀ x ∈ l, XOk x) (hcap : I64 cap) (hneed : I64 need) :
    Does Tryz.prog 5 #[.slice a l.length c, .int .i64 cap, .int .i64 need] w fun v w' => Heap w [] w' [] ∧ v = .bool true := by
  refine En [.slice a l.length c, .int .i64 cap, .int .i64 need] 40 Tryz.func5 ?_
  refine VS [0, 1, 2] ?_
  refine VS [0, 1, 2, 13] ?_
  refine Vi (fun h => ?_) (fun h => VC_skip ?_)
  · refine VQ [6] fun K hK => ?_
    refine MemK_call Tryz.call8 ?_; refine Qs ?_; refine CallK.mk (awake22_does w) ?_
    rintro v w3 ⟨hH2, rfl⟩
    (try refine Qs ?_)
    apply hK; clear hK
    exact VC_ret (VX_ret1 rfl rfl ⟨hH2, rfl⟩)
  simp only [decide_eq_false_iff_not] at h
  have hln : l.length ≤ 500 := by omega
  clear h hlen
  refine VQ [0, 1, 2, 7, 8] fun K hK => ?_
  refine MemK_call Tryz.call16 ?_; refine Qs ?_; refine CallK.mk (first_does l a c cap need w hl (by omega) hok hcap hneed) ?_
  rintro v w2 ⟨hH, hv⟩
  obtain ⟨n, e, hv0, hv1⟩ : ∃ n e : Int, v = .tuple #[.int .i64 n, .int .i64 e] ∧ ((need < 1 ∧ n = 0 ∧ e = 2) ∨ (1 ≤ need ∧ ¬ (1 ≤ cap ∧ cap ≤ 4096 ∧ May cap l) ∧ n = 0 ∧ e = 220) ∨ (1 ≤ need ∧ (1 ≤ cap ∧ cap ≤ 4096 ∧ May cap l) ∧ (n, e) = firS need (runsGo (us l) 30 (cap.toNat - 30)))) := by
    rcases hv with ⟨h1, rfl⟩ | ⟨h1, h2, rfl⟩ | ⟨h1, h2, T, hp, hs, rfl⟩
    · exact ⟨_, _, rfl, .inl ⟨h1, rfl, rfl⟩⟩
    · exact ⟨_, _, rfl, .inr (.inl ⟨h1, h2, rfl, rfl⟩)⟩
    · refine ⟨_, _, rfl, .inr (.inr ⟨h1, h2, ?_⟩)⟩
      obtain ⟨m, rfl⟩ : ∃ m : Nat, cap = m := ⟨cap.toNat, by omega⟩
      rw [Int.toNat_natCast, ← freeS_runs hp hs h2.2.2]
  clear hv
  subst hv0
  (try refine Qs ?_)
  apply hK; clear hK
  refine VQ [7, 8, 9, 10] fun K hK => ?_
  refine MemK_call Tryz.call17 ?_; refine Qs ?_; refine CallK.mk (rfirst_does l a c cap need w2 (hH.rs' hl) (by omega) hok hcap hneed) ?_
  rintro v w3 ⟨hH2, hv2⟩
  have hH3 := hH.call0 hH2
  clear hH hH2
  obtain rfl : v = .tuple #[.int .i64 n, .int .i64 e] := by
    rcases hv1 with ⟨h1, rfl, rfl⟩ | ⟨h1, h2, rfl, rfl⟩ | ⟨h1, h2, h3⟩ <;> rcases hv2 with ⟨g1, rfl⟩ | ⟨g1, g2, rfl⟩ | ⟨g1, g2, rfl⟩
    · rfl
    · omega
    · omega
    · omega
    · rfl
    · exact absurd g2 h2
    · omega
    · exact absurd h2 g2
    · rw [← h3]
  clear hv1 hv2
  (try refine Qs ?_)
  apply hK; clear hK
  refine VQ [6] fun K hK => ?_
  refine ⟨fun _ => ⟨fun _ => ?_, fun h => absurd trivial h⟩, fun h => absurd trivial h⟩
  refine MemK_call Tryz.call8 ?_; refine Qs ?_; refine CallK.mk (awake22_does w3) ?_
  rintro v w5 ⟨hH2, rfl⟩
  (try refine Qs ?_)
  apply hK; clear hK
  exact VC_ret (VX_ret1 rfl rfl ⟨hH3.call0 hH2, rfl⟩)
end Go.Proofs.YtoioaddfachjhaaGreatDoor
