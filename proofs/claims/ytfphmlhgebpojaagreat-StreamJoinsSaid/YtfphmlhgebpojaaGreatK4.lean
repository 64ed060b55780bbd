/- A program logic over the model, and what this program's functions do by it: part 4. No conditions: a library of lemmas. -/
import Derived.Test.YtfphmlhgebpojaaGreatK3
import Derived.Laws.StructEq
import Derived.Shelf.SlSortCmp.WholeK
import Derived.Test.YtfphmlhgebpojaaGreatChecked
open Nat (reduceEqDiff)
set_option linter.unusedSimpArgs false
set_option linter.unusedVariables false
set_option maxRecDepth 100000
namespace Go.Proofs.YtfphmlhgebpojaaGreat
open Go Go.Eng
def ordN (l : List Nat) : Nat -> List Nat
 | 0 => []
 | n + 1 => ordN l n ++ idxs l (n + 1)
def begS (l : List Nat) (n : Nat) : Nat := (ordN l (n - 1)).length
theorem Qxl (l : List Nat) : ∀ (n k : Nat), k < (ordN l n).length -> (ordN l n).getD k 0 < l.length /\ 1 <= l.getD ((ordN l n).getD k 0) 0 /\ k = begS l (l.getD ((ordN l n).getD k 0) 0) + (idxN l (l.getD ((ordN l n).getD k 0) 0) ((ordN l n).getD k 0)).length
 | 0, k, h => by simp [ordN] at h
 | n + 1, k, h => by
  rw [ordN] at h ⊢
  rcases Nat.lt_or_ge k (ordN l n).length with h1 | h1
  ·
   rw [Qco h1]
   exact Qxl l n k h1
  ·
   have h2 : (ordN l n ++ idxs l (n + 1)).getD k 0 = (idxs l (n + 1)).getD (k - (ordN l n).length) 0 := by
    rw [List.getD_eq_getElem?_getD, List.getElem?_append_right h1, List.getD_eq_getElem?_getD]
   rw [h2]
   have h3 : k - (ordN l n).length < (idxs l (n + 1)).length := by rw [List.length_append] at h;omega
   obtain ⟨a, b, c⟩ := QDb l (n + 1) l.length _ h3
   change (idxs l (n + 1)).getD (k - (ordN l n).length) 0 < l.length at a
   change l.getD ((idxs l (n + 1)).getD (k - (ordN l n).length) 0) 0 = n + 1 at b
   change (idxN l (n + 1) ((idxs l (n + 1)).getD (k - (ordN l n).length) 0)).length = _ at c
   rw [b, c, begS, Nat.add_sub_cancel]
   exact ⟨a, by omega, by omega⟩
theorem Qy2 {l : List Nat} {i : Nat} (hi : i < l.length) (h1 : 1 <= l.getD i 0) : ∀ n, l.getD i 0 <= n -> i ∈ ordN l n
 | 0, h => by omega
 | n + 1, h => by
  rw [ordN, List.mem_append]
  rcases Nat.lt_or_ge n (l.getD i 0) with h2 | h2
  ·
   right
   rw [show n + 1 = l.getD i 0 by omega]
   exact Qm8.2 ⟨hi, rfl⟩
  ·
   exact .inl (Qy2 hi h1 n h2)
theorem QD5 {l : List Nat} {n i k : Nat} (h : k < (ordN l n).length) (hk : (ordN l n).getD k 0 = i) : Qe8 l i + begS l (l.getD i 0) = Qbi l (l.getD i 0) + k := by
 have := (Qxl l n k h).2.2
 rw [hk] at this
 unfold Qe8
 omega
theorem Qxm (l : List Nat) {m n : Nat} (h : m <= n) : ∃ r, ordN l n = ordN l m ++ r := by
 induction n with
 | zero => exact ⟨[], by rw [show m = 0 by omega];simp⟩
 | succ n ih =>
  rcases Nat.lt_or_ge m (n + 1) with h1 | h1
  ·
   obtain ⟨r, hr⟩ := ih (by omega)
   exact ⟨_, by rw [ordN, hr, List.append_assoc]⟩
  ·
   exact ⟨[], by rw [show m = n + 1 by omega];simp⟩
theorem QHk (l : List Nat) {n L j : Nat} (hn : 1 <= n) (hL : n <= L) (hj : j < cnt l n) : begS l n + j < (ordN l L).length /\ (ordN l L).getD (begS l n + j) 0 = (idxs l n).getD j 0 := by
 obtain ⟨r, hr⟩ := Qxm l hL
 obtain ⟨m, rfl⟩ : ∃ m, n = m + 1 := ⟨n - 1, by omega⟩
 have hb : begS l (m + 1) = (ordN l m).length := by rw [begS, Nat.add_sub_cancel]
 have hj' : j < (idxs l (m + 1)).length := hj
 rw [hr, ordN, hb]
 constructor
 ·
  simp only [List.length_append];omega
 ·
  rw [List.append_assoc, List.getD_eq_getElem?_getD, List.getElem?_append_right (by omega), Nat.add_sub_cancel_left, List.getElem?_append_left hj', List.getD_eq_getElem?_getD]
theorem QHl {l : List Nat} {n : Nat} (h : maxL l < n) : cnt l n = 0 := by
 rw [cnt, List.length_eq_zero_iff, List.eq_nil_iff_forall_not_mem]
 intro i hi
 obtain ⟨h1, h2⟩ := Qm8.1 hi
 have := Qiv.1 (Nat.le_refl (maxL l)) _ (Qbq 0 h1)
 omega
theorem Qng (l : List Nat) (n : Nat) : (ordN l n).length <= n * l.length := by
 induction n with
 | zero => simp [ordN]
 | succ n ih =>
  have := Qyl l (n + 1) l.length
  rw [ordN, List.length_append, Nat.succ_mul]
  unfold idxs
  omega
def Qdu (sv ov : Value) (F Bg C : List Nat) : List Value := sv :: ov :: (Qam F ++ (Qam Bg ++ Qam C))
section
variable {sv ov : Value} {F Bg C : List Nat}
theorem QHm (hF : F.length = 22) {n : Nat} (hn : n < 22) : (Qdu sv ov F Bg C)[2 + n]? = some (.int .i64 (F.getD n 0 : Nat)) := by
 rw [Qdu, Nat.add_comm, List.getElem?_cons_succ, List.getElem?_cons_succ, List.getElem?_append_left (by rw [Qan];omega), Qb5 (by omega)]
theorem QHn (hF : F.length = 22) (hB : Bg.length = 22) {n : Nat} (hn : n < 22) : (Qdu sv ov F Bg C)[24 + n]? = some (.int .i64 (Bg.getD n 0 : Nat)) := by
 rw [Qdu, show 24 + n = (22 + n + 1) + 1 by omega, List.getElem?_cons_succ, List.getElem?_cons_succ, List.getElem?_append_right (by rw [Qan];omega), Qan, hF, Nat.add_sub_cancel_left, List.getElem?_append_left (by rw [Qan];omega), Qb5 (by omega)]
theorem Qy3 (hF : F.length = 22) (hB : Bg.length = 22) (hC : C.length = 22) {n : Nat} (hn : n < 22) : (Qdu sv ov F Bg C)[46 + n]? = some (.int .i64 (C.getD n 0 : Nat)) := by
 rw [Qdu, show 46 + n = (44 + n + 1) + 1 by omega, List.getElem?_cons_succ, List.getElem?_cons_succ, List.getElem?_append_right (by rw [Qan];omega), Qan, hF, List.getElem?_append_right (by rw [Qan];omega), Qan, hB, show 44 + n - 22 - 22 = n by omega, Qb5 (by omega)]
theorem Qor (hF : F.length = 22) (hB : Bg.length = 22) (hC : C.length = 22) : (Qdu sv ov F Bg C).length = 68 := by simp [Qdu, Qan, hF, hB, hC]
theorem QLs (hF : F.length = 22) {n x : Nat} (hn : n < 22) : (Qdu sv ov F Bg C).set (2 + n) (.int .i64 (x : Nat)) = Qdu sv ov (F.set n x) Bg C := by
 rw [Qdu, Nat.add_comm, List.set_cons_succ, List.set_cons_succ, List.set_append_left _ _ (by rw [Qan];omega), Qch];rfl
theorem QLt (hF : F.length = 22) (hB : Bg.length = 22) {n x : Nat} (hn : n < 22) : (Qdu sv ov F Bg C).set (24 + n) (.int .i64 (x : Nat)) = Qdu sv ov F (Bg.set n x) C := by
 rw [Qdu, show 24 + n = (22 + n + 1) + 1 by omega, List.set_cons_succ, List.set_cons_succ, List.set_append_right _ _ (by rw [Qan];omega), Qan, hF, Nat.add_sub_cancel_left, List.set_append_left _ _ (by rw [Qan];omega), Qch];rfl
theorem QLu (hF : F.length = 22) (hB : Bg.length = 22) (hC : C.length = 22) {n x : Nat} (hn : n < 22) : (Qdu sv ov F Bg C).set (46 + n) (.int .i64 (x : Nat)) = Qdu sv ov F Bg (C.set n x) := by
 rw [Qdu, show 46 + n = (44 + n + 1) + 1 by omega, List.set_cons_succ, List.set_cons_succ, List.set_append_right _ _ (by rw [Qan];omega), Qan, hF, List.set_append_right _ _ (by rw [Qan];omega), Qan, hB, show 44 + n - 22 - 22 = n by omega, Qch];rfl
end
theorem QD6 {α : Type} (f : Nat -> α) (n : Nat) (d : α) (i : Nat) (h : i < n) : ((List.range n).map f).getD i d = f i := by
 rw [List.getD_eq_getElem?_getD, List.getElem?_map, List.getElem?_range h];rfl
def upTo (f : Nat -> Nat) (n : Nat) : List Nat := (List.range 22).map fun j => if j < n then f j else 0
theorem Qg3 (f : Nat -> Nat) (n : Nat) : (upTo f n).length = 22 := by simp [upTo]
theorem Qy4 (f : Nat -> Nat) {n j : Nat} (hj : j < 22) : (upTo f n).getD j 0 = if j < n then f j else 0 := QD6 _ _ _ _ hj
theorem Qse (f : Nat -> Nat) (n : Nat) (hn : n < 22) : (upTo f n).set n (f n) = upTo f (n + 1) := by
 apply List.ext_getElem
 ·
  simp [upTo]
 ·
  intro j h1 h2
  have hj : j < 22 := by simpa [upTo] using h2
  rw [List.getElem_set]
  simp only [upTo, List.getElem_map, List.getElem_range]
  by_cases e : n = j
  ·
   subst e;rw [if_pos rfl, if_pos (by omega)]
  ·
   rw [if_neg e]
   by_cases h3 : j < n
   ·
    rw [if_pos h3, if_pos (by omega)]
   ·
    rw [if_neg h3, if_neg (by omega)]
theorem Qmj (l : List Nat) (hs : l.length <= 1000000000) (a : Option Addr) (lc : Nat) (w : World) (hr : RS w a l.length 1 (Qam l)) :
  Does Tryz.prog 166 #[.agg #[.slice a l.length lc]] w fun v w' => Heap w [] w' [] /\ v = .int .i64 (maxL l : Nat) := by
 have hen : #[Value.agg #[Value.slice a l.length lc]] = [Value.agg [Value.slice a l.length lc].toArray].toArray := rfl
 rw [hen]
 refine Qfl 18 Tryz.func166 rfl rfl (of_decide_eq_true rfl) ?_
 simp only [Env.ofArgs]
 generalize hn : l.length = n at *
 refine VQ [1] fun K hK => ?_
 refine Qcg ?_
 refine Qs ?_
 have hH := (Heap.start w).box 204 [.slice a n lc]
 generalize w.alloc (Obj.cells [Value.slice a n lc].toArray 204) = w1 at *
 generalize w.heap.size = gz at *
 apply hK;clear hK
 refine VS [1, 3] ?_
 refine VQ [3, 7, 8, 9] fun K hK => ?_
 refine ⟨_, Qaf (hH.at 0 rfl) rfl, ?_⟩
 refine Qs ?_
 apply hK;clear hK
 refine Qag ?_
 refine Qaj [3, 7, 8, 9] (fun m e w' => ∃ (i : Nat), Is e [(3, .int .i64 (maxL (l.take i) : Nat)), (7, .slice a n lc), (8, .int .i64 n), (9, .int .i64 i)] /\ Is w' w1 /\ i <= n /\ m = n - i) n ?_ ?_
 ·
  refine Qs ?_
  exact ⟨0, rfl, rfl, by omega, rfl⟩
 rintro m e w' ⟨i, rfl, rfl, hi, rfl⟩
 refine VS [3, 7, 8, 9, 10] ?_
 (repeat refine Qaw ?_)
 refine VD (fun h => ?_) (fun h => ?_)
 ·
  obtain ⟨p, rfl⟩ := Qcy hr (by omega)
  have hcell := Qdl (hH.rs' hr) (i := i) (by omega)
  have hs2 := Qjm (l := l) (i := i) (by omega)
  refine Qac ?_
  refine VB ?_
  refine VQ [3, 5, 7, 8, 9] fun K hK => ?_
  refine ⟨⟨by omega, by omega⟩, _, hcell, ?_⟩
  apply hK;clear hK
  refine VQ [3, 7, 8, 9] fun K hK => ?_
  rw [show max ((maxL (l.take i) : Nat) : Int) ((l.getD i 0 : Nat) : Int) = ((maxL (l.take (i + 1)) : Nat) : Int) by rw [hs2];omega]
  apply hK;clear hK
  refine Qar ?_
  refine VS [3, 7, 8, 9] ?_
  refine Qad ?_
  refine Qs ?_
  exact ⟨n - (i + 1), by omega, i + 1, rfl, rfl, by omega, rfl⟩
 ·
  refine Qak rfl ?_
  refine VS [2] ?_
  refine Qah (Qat rfl rfl ⟨hH.sub (by simp), ?_⟩)
  rw [List.take_of_length_le (by omega)]
def tabB (g : Nat) (sv : Value) (ao : Option Addr) (co no : Nat) (F Bg C : List Nat) : Res := Res.blk g 207 (Qdu sv (.slice ao no co) F Bg C)
def tabR (g : Nat) (sv : Value) (ao : Option Addr) (co : Nat) (l : List Nat) : Res := tabB g sv ao co (ordN l (maxL l)).length (upTo (Qbi l) (maxL l + 1)) (upTo (begS l) (maxL l + 1)) (upTo (cnt l) (maxL l + 1))
def ordR (ao : Option Addr) (co : Nat) (l : List Nat) : Res := Res.row 3 1 ao (ordN l (maxL l)).length co (Qam (ordN l (maxL l)))
theorem Qnh {l : List Nat} (h : okL l) : 1 <= maxL l /\ maxL l <= 20 := by
 refine ⟨?_, Qiv.2 fun x hx => (h.2.2.1 x hx).2⟩
 obtain ⟨h1, _, h3, _⟩ := h
 cases l with
 | nil => simp at h1
 | cons x l => exact Nat.le_trans (h3 x (by simp)).1 (Qiv.1 (Nat.le_refl _) x (by simp))
theorem Qsf {f : Nat -> Nat} (h : f 0 = 0) : upTo f 1 = List.replicate 22 0 := by
 apply List.ext_getElem
 ·
  simp [upTo]
 ·
  intro j h1 h2
  simp only [upTo, List.getElem_map, List.getElem_range, List.getElem_replicate]
  split
  ·
   rw [show j = 0 by omega, h]
  ·
   rfl
section
variable {w0 w : World} {B : List Nat} {G : List Res} {g : Nat} {sv : Value} {ao : Option Addr} {co no : Nat} {F Bg C : List Nat} {D : World -> Prop}
theorem Qxn (hH : Heap w0 B w G) (i : Nat) {n x : Nat} (hi : G[i]? = some (tabB g sv ao co no F Bg C)) (lF : F.length = 22) (lB : Bg.length = 22) (lC : C.length = 22) (hn : n < 22)
  (h : ∀ w', Heap w0 B w' (G.set i (tabB g sv ao co no (F.set n x) Bg C)) -> D w') : Qh7 Tryz.prog 3 (.pointer (some ⟨g, 2 + n, none⟩)) (.int .i64 (x : Nat)) w D := by
 refine Qae hH i (o := 2 + n) (vs := [.int .i64 (x : Nat)]) hi rfl (by kernel_rfl) (by rw [Qor lF lB lC];simp;omega) (by simp [Value.oneCell']) fun w' hH2 => h w' ?_
 rw [List.length_singleton, Qb2 _ _ _ (by rw [Qor lF lB lC];omega), QLs lF hn] at hH2
 exact hH2
theorem Qxo (hH : Heap w0 B w G) (i : Nat) {n x : Nat} (hi : G[i]? = some (tabB g sv ao co no F Bg C)) (lF : F.length = 22) (lB : Bg.length = 22) (lC : C.length = 22) (hn : n < 22)
  (h : ∀ w', Heap w0 B w' (G.set i (tabB g sv ao co no F (Bg.set n x) C)) -> D w') : Qh7 Tryz.prog 3 (.pointer (some ⟨g, 24 + n, none⟩)) (.int .i64 (x : Nat)) w D := by
 refine Qae hH i (o := 24 + n) (vs := [.int .i64 (x : Nat)]) hi rfl (by kernel_rfl) (by rw [Qor lF lB lC];simp;omega) (by simp [Value.oneCell']) fun w' hH2 => h w' ?_
 rw [List.length_singleton, Qb2 _ _ _ (by rw [Qor lF lB lC];omega), QLt lF lB hn] at hH2
 exact hH2
theorem Qxp (hH : Heap w0 B w G) (i : Nat) {n x : Nat} (hi : G[i]? = some (tabB g sv ao co no F Bg C)) (lF : F.length = 22) (lB : Bg.length = 22) (lC : C.length = 22) (hn : n < 22)
  (h : ∀ w', Heap w0 B w' (G.set i (tabB g sv ao co no F Bg (C.set n x))) -> D w') : Qh7 Tryz.prog 3 (.pointer (some ⟨g, 46 + n, none⟩)) (.int .i64 (x : Nat)) w D := by
 refine Qae hH i (o := 46 + n) (vs := [.int .i64 (x : Nat)]) hi rfl (by kernel_rfl) (by rw [Qor lF lB lC];simp;omega) (by simp [Value.oneCell']) fun w' hH2 => h w' ?_
 rw [List.length_singleton, Qb2 _ _ _ (by rw [Qor lF lB lC];omega), QLu lF lB lC hn] at hH2
 exact hH2
theorem Qxq (hH : Heap w0 B w G) (i : Nat) {ao' : Option Addr} {co' no' : Nat} (hi : G[i]? = some (tabB g sv ao co no F Bg C)) (lF : F.length = 22) (lB : Bg.length = 22) (lC : C.length = 22)
  (h : ∀ w', Heap w0 B w' (G.set i (tabB g sv ao' co' no' F Bg C)) -> D w') : Qh7 Tryz.prog 36 (.pointer (some ⟨g, 1, none⟩)) (.slice ao' no' co') w D := by
 refine Qae hH i (o := 1) (vs := [.slice ao' no' co']) hi rfl (by kernel_rfl) (by rw [Qor lF lB lC];simp) (by simp [Value.oneCell']) fun w' hH2 => h w' ?_
 exact hH2
end
theorem Qux (l : List Nat) (hok : okL l) (a : Option Addr) (lc : Nat) (w : World) (hr : RS w a l.length 1 (Qam l)) :
  Does Tryz.prog 135 #[.slice a l.length lc] w fun v w' => ∃ g ao co, Heap w [] w' [tabR g (.slice a l.length lc) ao co l, ordR ao co l] /\ v = .tuple #[.pointer (some ⟨g, 0, none⟩), .int .i64 0] := by
 have hc1 := Qh1 l a lc w hr
 rw [if_pos (Qna.2 hok)] at hc1
 obtain ⟨hL1, hL20⟩ := Qnh hok
 have hfl := fun n hn => Qko hok (n := n) hn
 have hc0 : cnt l 0 = 0 := Qob fun x hx => (hok.2.2.1 x hx).1
 obtain ⟨hl2, hl258, _, _⟩ := hok
 have hcl := Qmj l (by omega) a lc
 refine En [.slice a l.length lc] 84 Tryz.func135 ?_
 unfold tabR ordR tabB
 generalize hLL : maxL l = L at *
 generalize hn : l.length = n at *
 obtain ⟨p, rfl⟩ := Qcy hr (by omega)
 refine VQi [0] fun K hK => ?_
 apply hK;clear hK
 refine VQi [0, 4] fun K hK => ?_
 refine Qaa Tryz.call103 ?_;refine Qi ?_;refine CallK.mk hc1 ?_
 rintro v w2 ⟨rfl, rfl⟩
 apply hK;clear hK
 refine VQi [0, 4, 13] fun K hK => ?_
 apply hK;clear hK
 refine Qai rfl rfl (fun h => by simp at h) (fun h => Qac ?_)
 clear h hc1
 refine VQi [5] fun K hK => ?_
 refine Qcg ?_
 refine Qi ?_
 suffices hsuf : K [(5, .pointer (some ⟨w2.heap.size, 0, none⟩))] (w2.alloc (Obj.cells (Qdu (.slice (some p) n lc) (.slice none 0 0) (List.replicate 22 0) (List.replicate 22 0) (List.replicate 22 0)).toArray 207)) from hsuf
 have hH := ((Heap.start w2).box 207 (Qdu (.slice (some p) n lc) (.slice none 0 0) (List.replicate 22 0) (List.replicate 22 0) (List.replicate 22 0))).nilRow 3 1
 generalize w2.alloc (Obj.cells (Qdu (.slice (some p) n lc) (.slice none 0 0) (List.replicate 22 0) (List.replicate 22 0) (List.replicate 22 0)).toArray 207) = w3 at *
 generalize w2.heap.size = g at *
 apply hK;clear hK
 refine VQi [5, 6] fun K hK => ?_
 apply hK;clear hK
 refine VQi [5, 6, 7] fun K hK => ?_
 apply hK;clear hK
 refine Qag ?_
 refine Qaj [5, 6, 7] (fun m e w' => ∃ (j : Nat) (ao : Option Addr) (co : Nat), Is e [(5, .pointer (some ⟨g, 0, none⟩)), (6, .int .i64 (Qbi l j + cnt l j : Nat)), (7, .int .i64 (j + 1 : Nat))] /\ Heap w2 [] w' [Res.row 3 1 ao (ordN l j).length co (Qam (ordN l j)), tabB g (.slice (some p) n lc) ao co (ordN l j).length (upTo (Qbi l) (j + 1)) (upTo (begS l) (j + 1)) (upTo (cnt l) (j + 1))] /\ j <= L /\ m = L - j) L ?_ ?_
 ·
  refine Qi ?_
  refine ⟨0, none, 0, ?_, ?_, by omega, rfl⟩
  ·
   rw [hc0];rfl
  ·
   rw [Qsf rfl, Qsf rfl, Qsf hc0]
   exact hH
 clear hH
 rintro m e w4 ⟨j, ao, co, rfl, hH, hj, rfl⟩
 have hcz : (Qdu (.slice (some p) n lc) (.slice ao (ordN l j).length co) (upTo (Qbi l) (j + 1)) (upTo (begS l) (j + 1)) (upTo (cnt l) (j + 1)))[0]? = some (.slice (some p) n lc) := rfl
 have hsv : Reads w4 ⟨g, 0, none⟩ [.slice (some p) n lc] := by
  intro q u hu
  cases q with
  | zero =>
   simp at hu;subst hu
   exact Qaf (hH.at 1 rfl) hcz
  | succ q => simp at hu
 have hol := Qng l j
 rw [hn] at hol
 have hol2 : (ordN l j).length <= 20 * 258 := Nat.le_trans hol (Nat.mul_le_mul (by omega) hl258)
 have hf1 := hfl j (by omega)
 have hp2 : 2 ^ j <= 2 ^ 20 := Nat.pow_le_pow_right (by omega) (by omega)
 have hp3 : 2 ^ j <= 1048576 := hp2
 refine VQi [5, 6, 7, 25] fun K hK => ?_
 refine ⟨_, ⟨rfl, hsv⟩, ?_⟩
 refine Qaa Tryz.call166 ?_;refine Qi ?_;refine CallK.mk (hcl w4 (hH.rs' hr)) ?_
 rintro v w5 ⟨hHl, rfl⟩
 have hH2 := hH.call0 hHl
 simp only [List.nil_append] at hH2
 clear hH hHl hsv
 refine Qi ?_
 apply hK;clear hK
 refine VD (fun h => ?_) (fun h => ?_)
 ·
  have hj2 : j + 1 <= L := by omega
  have hf2 := hfl (j + 1) (by omega)
  have hp4 : 2 ^ (j + 1) <= 2 ^ 20 := Nat.pow_le_pow_right (by omega) (by omega)
  have hp5 : 2 ^ (j + 1) <= 1048576 := hp4
  have hfs : Qbi l (j + 1) = (Qbi l j + cnt l j) * 2 := by rw [Qbi, Nat.mul_comm]
  have hbs : begS l (j + 1) = (ordN l j).length := by rw [begS, Nat.add_sub_cancel]
  have hsF := Qse (Qbi l) (j + 1) (by omega)
  have hsB := Qse (begS l) (j + 1) (by omega)
  have hsC := Qse (cnt l) (j + 1) (by omega)
  have lF := Qg3 (Qbi l) (j + 1)
  have lB := Qg3 (begS l) (j + 1)
  have lC := Qg3 (cnt l) (j + 1)
  have lF2 := Qg3 (Qbi l) (j + 1 + 1)
  have lB2 := Qg3 (begS l) (j + 1 + 1)
  have hcnt : (idxN l (j + 1) n).length = cnt l (j + 1) := by rw [cnt, idxs, hn]
  have hoS : ordN l (j + 1) = ordN l j ++ idxN l (j + 1) n := by rw [ordN, idxs, hn]
  generalize hFF : upTo (Qbi l) (j + 1) = F at *
  generalize hBB : upTo (begS l) (j + 1) = Bg at *
  generalize hCC : upTo (cnt l) (j + 1) = C at *
  generalize hO : ordN l j = O at *
  refine Qac ?_
  ((repeat refine Qaw ?_);refine Qag ?_)
  refine VQi [5, 6, 7] fun K hK => ?_
  rw [show shN IntKind.i64 1 = 1 from rfl, show (((Qbi l j + cnt l j : Nat) : Int) * 2 ^ 1) = ((Qbi l (j + 1) : Nat) : Int) by rw [hfs];push_cast;rfl]
  (repeat first | refine Qo ?_ | refine ⟨⟨by omega, by omega⟩, ?_⟩)
  apply hK;clear hK
  (repeat refine Qaw ?_);refine Qlg [5, 6, 7] [(0, 0), (1, 0), (2, 0), (3, 0), (4, 0), (5, 0), (6, 0), (7, 0), (10, 0), (11, 0), (14, 0), (15, 0), (8, 1), (9, 0), (12, 0), (13, 2), (16, 0), (17, 2)] (by kernel_rfl) (by kernel_rfl) (by kernel_rfl) (by simp only [Qa9, List.map_cons, List.map_nil, beq_self_eq_true, Nat.reduceBEq, List.filterMap_cons, List.filterMap_nil, List.getElem?_cons_succ, List.getElem?_cons_zero, Option.map_some];rfl) fun K hK => ?_;refine Qi ?_
  refine ⟨_, Qaf (hH2.at 1 rfl) (show (Qdu (.slice (some p) n lc) (.slice ao O.length co) F Bg C)[1]? = some _ from rfl), ?_⟩
  refine Qi ?_
  refine ⟨⟨by omega, by omega⟩, ?_⟩
  refine Qab ?_
  refine Qi ?_
  refine Qxn hH2 1 (n := j + 1) rfl lF lB lC (by omega) fun w6 hH3 => ?_
  simp only [List.set_cons_succ, List.set_cons_zero, hsF] at hH3
  refine ⟨⟨by omega, by omega⟩, ?_⟩
  refine Qab ?_
  refine Qi ?_
  rw [<- hbs]
  refine Qxo hH3 1 (n := j + 1) rfl lF2 lB lC (by omega) fun w7 hH4 => ?_
  simp only [List.set_cons_succ, List.set_cons_zero, hsB] at hH4
  clear hH2 hH3
  apply hK;clear hK
  refine VQi [5, 6, 7, 50, 51, 52] fun K hK => ?_
  refine ⟨_, Qaf (hH4.at 1 rfl) (show (Qdu (.slice (some p) n lc) (.slice ao (begS l (j + 1)) co) (upTo (Qbi l) (j + 1 + 1)) (upTo (begS l) (j + 1 + 1)) C)[0]? = some _ from rfl), ?_⟩
  refine Qi ?_
  apply hK;clear hK
  refine Qag ?_
  refine Qaj [5, 6, 7, 50, 51, 52] (fun m e w' => ∃ (i : Nat) (ao : Option Addr) (co : Nat), Is e [(5, .pointer (some ⟨g, 0, none⟩)), (6, .int .i64 (Qbi l (j + 1) + (idxN l (j + 1) i).length : Nat)), (7, .int .i64 (j + 1 : Nat)), (50, .slice (some p) n lc), (51, .int .i64 n), (52, .int .i64 i)] /\ Heap w2 [] w' [Res.row 3 1 ao (O ++ idxN l (j + 1) i).length co (Qam (O ++ idxN l (j + 1) i)), tabB g (.slice (some p) n lc) ao co (O ++ idxN l (j + 1) i).length (upTo (Qbi l) (j + 1 + 1)) (upTo (begS l) (j + 1 + 1)) (C.set (j + 1) (idxN l (j + 1) i).length)] /\ i <= n /\ m = n - i) n ?_ ?_
  ·
   refine Qi ?_
   have e0 : idxN l (j + 1) 0 = [] := rfl
   refine ⟨0, ao, co, rfl, ?_, by omega, rfl⟩
   have hcs : C.set (j + 1) (idxN l (j + 1) 0).length = C := by
    rw [e0, List.length_nil]
    apply List.ext_getElem
    ·
     simp
    ·
     intro q h1 h2
     rw [List.getElem_set]
     split
     ·
      rename_i e
      subst e
      have := Qy4 (cnt l) (n := j + 1) (j := j + 1) (by omega)
      rw [hCC, if_neg (by omega), List.getD_eq_getElem?_getD, List.getElem?_eq_getElem h2] at this
      exact this.symm
     ·
      rfl
   rw [hcs, e0, List.append_nil]
   exact hH4
  clear hH4
  rintro m e w8 ⟨i, ao, co, rfl, hH, hi, rfl⟩
  refine VQi [5, 6, 7, 50, 51, 52, 53] fun K hK => ?_
  apply hK;clear hK
  (repeat refine Qaw ?_)
  refine VD (fun h => ?_) (fun h => ?_)
  ·
   have hcell := Qdl (hH.rs' hr) (i := i) (by omega)
   have hix := Qiw l (j + 1) i
   have hil := Qyl l (j + 1) i
   have hlC : (C.set (j + 1) (idxN l (j + 1) i).length).length = 22 := by rw [List.length_set];exact lC
   have hgC : (C.set (j + 1) (idxN l (j + 1) i).length).getD (j + 1) 0 = (idxN l (j + 1) i).length := Qc3 (by omega)
   have hset : ∀ x, (C.set (j + 1) (idxN l (j + 1) i).length).set (j + 1) x = C.set (j + 1) x := fun x => List.set_set _
   generalize hx : l.getD i 0 = x at *
   generalize hI : idxN l (j + 1) i = I at *
   refine Qac ?_
   ((repeat refine Qaw ?_);refine Qag ?_)
   refine VQi [5, 6, 7, 8, 9, 50, 51, 52] fun K hK => ?_
   refine ⟨⟨by omega, by omega⟩, _, hcell, ?_⟩
   apply hK;clear hK
   refine VQi [5, 6, 7, 8, 50, 51, 52, 59] fun K hK => ?_
   apply hK;clear hK
   refine VD (fun h => ?_) (fun h => ?_)
   ·
    rw [if_pos (by omega)] at hix
    refine VQi [5, 6, 7, 50, 51, 52] fun K hK => ?_
    refine ⟨_, Qaf (hH.at 1 rfl) (show (Qdu (.slice (some p) n lc) (.slice ao (O ++ I).length co) (upTo (Qbi l) (j + 1 + 1)) (upTo (begS l) (j + 1 + 1)) (C.set (j + 1) I.length))[1]? = some _ from rfl), ?_⟩
    refine Qde (xs := [.tmp 65]) Tryz.underlying36 sz3 rfl rfl rfl (by omega) ?_;refine Qi ?_;refine ⟨by simp [Value.cells], ?_⟩
    refine Qau ?_;refine Qi ?_;refine Qsd hH 0 (i) rfl Tryz.underlying36 zi3 (by first | rfl | (simp;done) | omega | (simp;omega)) (fun h => by (first | omega | (simp;done) | (simp;omega))) fun a' cap' w5 hc' hH5 => ?_;(try refine Qi ?_)
    simp only [List.set_cons_zero] at hH5
    rw [List.append_assoc, <- hix] at hH5 ⊢
    refine Qab ?_
    refine Qi ?_
    refine Qxq hH5 1 rfl lF2 lB2 hlC fun w9 hH6 => ?_
    simp only [List.set_cons_succ, List.set_cons_zero] at hH6
    clear hH5
    apply hK;clear hK
    have hcc := Qy3 (sv := .slice (some p) n lc) (ov := .slice a' (O ++ idxN l (j + 1) (i + 1)).length cap') lF2 lB2 hlC (n := j + 1) (by omega)
    rw [hgC] at hcc
    (repeat refine Qaw ?_);refine Qi8 [5, 6, 7, 50, 51, 52] 10 (by kernel_rfl) (by kernel_rfl) (by kernel_rfl) rfl fun K hK => ?_;refine Qi ?_
    refine ⟨⟨by omega, by omega⟩, _, Qaf (hH6.at 1 rfl) hcc, ?_⟩
    refine Qi ?_
    refine ⟨I64.mk (by omega) (by omega), ⟨by omega, by omega⟩, ?_⟩
    refine Qab ?_
    refine Qi ?_
    refine Qxp hH6 1 (n := j + 1) (x := I.length + 1) rfl lF2 lB2 hlC (by omega) fun w10 hH7 => ?_
    simp only [List.set_cons_succ, List.set_cons_zero, hset] at hH7
    apply hK;clear hK
    refine VQi [5, 6, 7, 50, 51, 52] fun K hK => ?_
    (repeat refine Qo ?_);apply hK;clear hK
    refine Qar ?_
    refine VQi [5, 6, 7, 50, 51, 52] fun K hK => ?_
    (repeat refine Qo ?_);apply hK;clear hK
    refine Qad ?_
    refine Qi ?_
    have hil2 : (idxN l (j + 1) (i + 1)).length = I.length + 1 := by rw [hix];simp
    refine ⟨n - (i + 1), by omega, i + 1, a', cap', ?_, ?_, by omega, rfl⟩
    ·
     rw [hil2];rfl
    ·
     rw [hil2];exact hH7
   ·
    rw [if_neg (by omega), List.append_nil] at hix
    refine Qac ?_
    refine Qar ?_
    refine VQi [5, 6, 7, 50, 51, 52] fun K hK => ?_
    (repeat refine Qo ?_);apply hK;clear hK
    refine Qad ?_
    refine Qi ?_
    exact ⟨n - (i + 1), by omega, i + 1, ao, co, by rw [hix];rfl, by rw [hix];exact hH, by omega, rfl⟩
  ·
   obtain rfl : i = n := by omega
   rw [hcnt, hsC, <- hoS] at hH
   refine Qak rfl ?_
   refine Qar ?_
   rw [hcnt]
   refine VQi [5, 6, 7] fun K hK => ?_
   (repeat refine Qo ?_);apply hK;clear hK
   refine Qad ?_
   refine Qi ?_
   exact ⟨L - (j + 1), by omega, j + 1, ao, co, rfl, hH, by omega, rfl⟩
 ·
  obtain rfl : j = L := by omega
  refine Qak rfl ?_
  refine VQi [2, 3] fun K hK => ?_
  apply hK;clear hK
  exact Qah (Qa4 rfl rfl rfl ⟨g, ao, co, hH2.perm (List.Perm.swap _ _ _), rfl⟩)
theorem QD7 (d : Nat) (b : Bool) : (List.replicate (d + 1) [true, b]).flatten = (List.replicate d [true, b]).flatten ++ [true, b] := by
 rw [List.replicate_succ', List.flatten_append];simp
def Qjn : Nat -> List Nat -> Nat
 | p, [] => p
 | _, y :: l => Qjn y l
theorem Qmk : ∀ (l : List Nat) (p x : Nat), Qcf p (l ++ [x]) = Qcf p l ++ (Qhv (Qjn p l) x ++ [false])
 | [], p, x => by simp [Qcf, Qjn]
 | y :: l, p, x => by
  rw [List.cons_append, Qcf, Qmk l y x, Qcf, Qjn]
  simp
theorem Qos : ∀ (l : List Nat) (p x : Nat), Qjn p (l ++ [x]) = x
 | [], p, x => rfl
 | y :: l, p, x => by rw [List.cons_append, Qjn, Qos l y x]
theorem Quy {lo hi : Nat} : ∀ (l : List Nat) (p : Nat), (lo <= p /\ p <= hi) -> (∀ x ∈ l, lo <= x /\ x <= hi) -> lo <= Qjn p l /\ Qjn p l <= hi
 | [], p, hp, _ => hp
 | y :: l, p, hp, h => Quy l y (h y (by simp)) fun x hx => h x (by simp [hx])
theorem QBi (p x : Nat) : Qhv p x = (List.replicate (x - p) [true, false]).flatten ++ (List.replicate (p - x) [true, true]).flatten := by
 unfold Qhv
 split
 ·
  rw [show p - x = 0 by omega];simp
 ·
  rw [show x - p = 0 by omega];simp
theorem Qh2 : ∀ (l : List Nat) (p : Nat), (p <= 20) -> (∀ x ∈ l, x <= 20) -> (Qcf p l).length <= 41 * l.length
 | [], p, _, _ => by simp [Qcf]
 | x :: l, p, hp, hx => by
  have h1 := hx x (by simp)
  have h2 := Qh2 l x h1 fun y hy => hx y (by simp [hy])
  have h3 := Qjx p x
  simp only [Qcf, List.length_append, List.length_cons]
  omega
theorem Qpq (l : List Nat) (hl : 2 <= l.length) (hl2 : l.length <= 258) (hx : ∀ x ∈ l, 1 <= x /\ x <= 20) (a : Option Addr) (lc : Nat) (w : World) (hr : RS w a l.length 1 (Qam l)) :
  Does Tryz.prog 82 #[.slice a l.length lc] w fun v w' => Heap w [] w' [] /\ v = .tuple #[Qkl (Qcq l), .int .i64 0] := by
 obtain ⟨p, rfl⟩ := Qcy hr (by omega)
 have hget : ∀ i, i < l.length -> 1 <= l.getD i 0 /\ l.getD i 0 <= 20 := fun i hi => hx _ (Qbq 0 hi)
 refine En [.slice (some p) l.length lc] 71 Tryz.func82 ?_
 generalize hn : l.length = n at *
 refine VQ [0, 2] fun K hK => ?_
 refine Qal (.agg #[.string ⟨#[]⟩, .int .i64 0]) (by kernel_rfl) ?_
 refine Qs ?_
 have hH := (Heap.start w).box 24 [.string ⟨#[]⟩, .int .i64 0]
 generalize w.alloc (Obj.cells [Value.string ⟨#[]⟩, .int .i64 0].toArray 24) = w1 at *
 generalize w.heap.size = gr at *
 apply hK;clear hK
 refine VQ [0, 2, 17] fun K hK => ?_
 suffices out : ∀ b : Bool, (b = true ↔ False) -> K [(0, .slice (some p) n lc), (2, .pointer (some ⟨gr, 0, none⟩)), (17, .bool b)] w1 by (repeat' (first | exact out _ _ (by first | omega | (simp;done) | (simp;omega)) | exact out _ (by first | omega | (simp;done) | (simp;omega)) | refine ⟨fun _ => ?_, fun _ => ?_⟩ | refine Qo ?_))
 intro b hb
 apply hK;clear hK
 refine Qai rfl rfl (fun h => (hb.1 h).elim) (fun h => Qac ?_)
 clear hb h
 refine VS [0, 2, 19, 20, 21] ?_
 refine Qag ?_
 refine Qaj [0, 2, 19, 20, 21] (fun m e w' => ∃ (i : Nat), Is e [(0, .slice (some p) n lc), (2, .pointer (some ⟨gr, 0, none⟩)), (19, .slice (some p) n lc), (20, .int .i64 n), (21, .int .i64 i)] /\ Is w' w1 /\ i <= n /\ m = n - i) n ?_ ?_
 ·
  refine Qs ?_
  exact ⟨0, rfl, rfl, by omega, rfl⟩
 rintro m e w2 ⟨i, rfl, rfl, hi, rfl⟩
 refine VS [0, 2, 19, 20, 21, 22] ?_
 (repeat refine Qaw ?_)
 refine VD (fun h => ?_) (fun h => ?_)
 ·
  have hcell := Qdl (hH.rs' hr) (i := i) (by omega)
  have hg := hget i (by omega)
  generalize l.getD i 0 = x at *
  refine Qac ?_
  refine VB ?_
  refine VQ [0, 2, 5, 19, 20, 21] fun K hK => ?_
  refine ⟨⟨by omega, by omega⟩, _, hcell, ?_⟩
  apply hK;clear hK
  refine VQ [0, 2, 19, 20, 21, 30] fun K hK => ?_
  suffices out : ∀ b : Bool, (b = true ↔ False) -> K [(0, .slice (some p) n lc), (2, .pointer (some ⟨gr, 0, none⟩)), (19, .slice (some p) n lc), (20, .int .i64 n), (21, .int .i64 i), (30, .bool b)] w2 by (repeat' (first | exact out _ _ (by first | omega | (simp;done) | (simp;omega)) | exact out _ (by first | omega | (simp;done) | (simp;omega)) | refine ⟨fun _ => ?_, fun _ => ?_⟩ | refine Qo ?_))
  intro b hb
  apply hK;clear hK
  refine Qai rfl rfl (fun h => (hb.1 h).elim) (fun h => Qac ?_)
  refine Qar ?_
  refine VS [0, 2, 19, 20, 21] ?_
  refine Qad ?_
  refine Qs ?_
  exact ⟨n - (i + 1), by omega, i + 1, rfl, rfl, by omega, rfl⟩
 obtain rfl : i = n := by omega
 refine Qak rfl ?_
 refine VQ [0, 2, 6] fun K hK => ?_
 refine Qaa Tryz.call35 ?_;refine Qs ?_;refine CallK.mk (Qc7 w2) ?_
 rintro v w5 ⟨gw, hH2, rfl⟩
 have hH3 := hH.call0 hH2
 clear hH hH2 hi h
 apply hK;clear hK
 have h0 := hget 0 (by omega)
 have hc0 := Qdl (hH3.rs' hr) (i := 0) (by omega)
 have hdS : Qcq l = Qbc 5 (l.getD 0 0) ++ Qcf (l.getD 0 0) l := rfl
 rw [hdS]
 generalize hx0 : l.getD 0 0 = x0 at *
 refine VQ [0, 2, 6] fun K hK => ?_
 refine ⟨by omega, _, hc0, ?_⟩
 refine Qs ?_
 rw [show ((x0 : Int) % 18446744073709551616) = x0 by omega]
 refine Qaa Tryz.call36 ?_;refine Qs ?_;refine CallK.mk (Qcv gw none 0 [] x0 5 w5 (by omega) (by omega) (by simp) (hH3.focus 0 rfl)) ?_
 rintro v w7 ⟨a2, c2, hHw, rfl⟩
 rw [List.nil_append] at hHw
 have hH4 := hH3.call1 0 rfl hHw
 simp only [List.set_cons_zero, List.nil_append] at hH4
 clear hH3 hHw hc0
 have hc0 := Qdl (hH4.rs' hr) (i := 0) (by omega)
 rw [hx0] at hc0
 apply hK;clear hK
 refine VQ [0, 2, 6, 7] fun K hK => ?_
 refine ⟨by omega, _, hc0, ?_⟩
 apply hK;clear hK
 refine VS [2, 6, 7, 43, 44, 45] ?_
 refine Qag ?_
 refine Qaj [2, 6, 7, 43, 44, 45] (fun m e w' => ∃ (k : Nat) (a : Option Addr) (c : Nat), Is e [(2, .pointer (some ⟨gr, 0, none⟩)), (6, .pointer (some ⟨gw, 0, none⟩)), (7, .int .i64 (Qjn x0 (l.take k) : Nat)), (43, .slice (some p) i lc), (44, .int .i64 i), (45, .int .i64 k)] /\ Heap w [] w' [wr gw a c (Qbc 5 x0 ++ Qcf x0 (l.take k)), Res.blk gr 24 [.string ⟨#[]⟩, .int .i64 0]] /\ k <= i /\ m = i - k) i ?_ ?_
 ·
  refine Qs ?_
  exact ⟨0, a2, c2, rfl, by simpa [Qcf] using hH4, by omega, rfl⟩
 clear hH4 hc0 hdS
 rintro m e w8 ⟨k, a3, c3, rfl, hH, hk, rfl⟩
 refine VS [2, 6, 7, 43, 44, 45, 46] ?_
 (repeat refine Qaw ?_)
 refine VD (fun h => ?_) (fun h => ?_)
 ·
  have hcell := Qdl (hH.rs' hr) (i := k) (by omega)
  have hg := hget k (by omega)
  have htk := Qds 0 (l := l) (i := k) (by omega)
  have hlo := Quy (l.take k) x0 h0 fun x hx' => hx x (List.mem_of_mem_take hx')
  have hdl := Qh2 (l.take k) x0 h0.2 fun x hx' => (hx x (List.mem_of_mem_take hx')).2
  have hdl2 : (l.take k).length <= 258 := by rw [List.length_take];omega
  have hsn := Qmk (l.take k) x0 (l.getD k 0)
  have hls := Qos (l.take k) x0 (l.getD k 0)
  rw [<- htk] at hsn hls
  rw [QBi] at hsn
  have hbl := Qas 5 x0
  generalize l.getD k 0 = x at *
  generalize Qjn x0 (l.take k) = p0 at *
  generalize hB : Qbc 5 x0 ++ Qcf x0 (l.take k) = Bt at *
  have hBl : Bt.length <= 11000 := by rw [<- hB, List.length_append];omega
  refine Qac ?_
  refine VB ?_
  refine VQ [2, 6, 7, 9, 43, 44, 45] fun K hK => ?_
  refine ⟨⟨by omega, by omega⟩, _, hcell, ?_⟩
  apply hK;clear hK
  refine VB ?_
  refine Qaj [2, 6, 7, 9, 43, 44, 45] (fun m e w' => ∃ (d : Nat) (a : Option Addr) (c : Nat), Is e [(2, .pointer (some ⟨gr, 0, none⟩)), (6, .pointer (some ⟨gw, 0, none⟩)), (7, .int .i64 (p0 + d : Nat)), (9, .int .i64 x), (43, .slice (some p) i lc), (44, .int .i64 i), (45, .int .i64 k)] /\ Heap w [] w' [wr gw a c (Bt ++ (List.replicate d [true, false]).flatten), Res.blk gr 24 [.string ⟨#[]⟩, .int .i64 0]] /\ d <= x - p0 /\ m = x - p0 - d) (x - p0) ?_ ?_
  ·
   refine Qs ?_
   exact ⟨0, a3, c3, rfl, by simpa using hH, by omega, rfl⟩
  clear hH hcell
  rintro m e w9 ⟨d, a4, c4, rfl, hH, hd, rfl⟩
  refine VS [2, 6, 7, 9, 43, 44, 45, 51] ?_
  refine VD (fun h => ?_) (fun h => ?_)
  ·
   refine Qac ?_
   refine VB ?_
   refine VQ [2, 6, 7, 9, 43, 44, 45] fun K hK => ?_
   refine Qaa Tryz.call36 ?_;refine Qs ?_;refine CallK.mk (Qcv gw a4 c4 _ 2 2 w9 (by omega) (by omega) (by rw [List.length_append, Qix];omega) (hH.focus 0 rfl)) ?_
   rintro v w10 ⟨a5, c5, hHw, rfl⟩
   have e2 : Qbc 2 2 = [true, false] := rfl
   rw [e2, List.append_assoc, <- QD7] at hHw
   have hH2 := hH.call1 0 rfl hHw
   simp only [List.set_cons_zero, List.nil_append] at hH2
   apply hK;clear hK
   refine Qar ?_
   refine VS [2, 6, 7, 9, 43, 44, 45] ?_
   refine Qad ?_
   refine Qs ?_
   exact ⟨x - p0 - (d + 1), by omega, d + 1, a5, c5, rfl, hH2, by omega, rfl⟩
  obtain rfl : d = x - p0 := by omega
  refine Qak rfl ?_
  generalize hB2 : Bt ++ (List.replicate (x - p0) [true, false]).flatten = Bt2 at *
  have hBl2 : Bt2.length <= 11100 := by rw [<- hB2, List.length_append, Qix];omega
  refine VB ?_
  refine Qaj [2, 6, 7, 9, 43, 44, 45] (fun m e w' => ∃ (d : Nat) (a : Option Addr) (c : Nat), Is e [(2, .pointer (some ⟨gr, 0, none⟩)), (6, .pointer (some ⟨gw, 0, none⟩)), (7, .int .i64 ((p0 + (x - p0) - d : Nat) : Int)), (9, .int .i64 x), (43, .slice (some p) i lc), (44, .int .i64 i), (45, .int .i64 k)] /\ Heap w [] w' [wr gw a c (Bt2 ++ (List.replicate d [true, true]).flatten), Res.blk gr 24 [.string ⟨#[]⟩, .int .i64 0]] /\ d <= p0 - x /\ m = p0 - x - d) (p0 - x) ?_ ?_
  ·
   refine Qs ?_
   exact ⟨0, a4, c4, rfl, by simpa using hH, by omega, rfl⟩
  clear hH
  rintro m e w10 ⟨d, a5, c5, rfl, hH, hd, rfl⟩
  refine VS [2, 6, 7, 9, 43, 44, 45, 58] ?_
  refine VD (fun h => ?_) (fun h => ?_)
  ·
   refine Qac ?_
   refine VB ?_
   refine VQ [2, 6, 7, 9, 43, 44, 45] fun K hK => ?_
   refine Qaa Tryz.call36 ?_;refine Qs ?_;refine CallK.mk (Qcv gw a5 c5 _ 3 2 w10 (by omega) (by omega) (by rw [List.length_append, Qix];omega) (hH.focus 0 rfl)) ?_
   rintro v w11 ⟨a6, c6, hHw, rfl⟩
   have e2 : Qbc 2 3 = [true, true] := rfl
   rw [e2, List.append_assoc, <- QD7] at hHw
   have hH2 := hH.call1 0 rfl hHw
   simp only [List.set_cons_zero, List.nil_append] at hH2
   apply hK;clear hK
   refine Qar ?_
   refine VS [2, 6, 7, 9, 43, 44, 45] ?_
   refine Qad ?_
   refine Qs ?_
   refine ⟨p0 - x - (d + 1), by omega, d + 1, a6, c6, ?_, hH2, by omega, rfl⟩
   rw [show ((p0 + (x - p0) - d : Nat) : Int) - 1 = ((p0 + (x - p0) - (d + 1) : Nat) : Int) by omega]
   rfl
  obtain rfl : d = p0 - x := by omega
  refine Qak rfl ?_
  refine VQ [2, 6, 7, 43, 44, 45] fun K hK => ?_
  refine Qaa Tryz.call36 ?_;refine Qs ?_;refine CallK.mk (Qcv gw a5 c5 _ 0 1 w10 (by omega) (by omega) (by rw [List.length_append, Qix];omega) (hH.focus 0 rfl)) ?_
  rintro v w11 ⟨a6, c6, hHw, rfl⟩
  have e2 : Qbc 1 0 = [false] := rfl
  rw [e2] at hHw
  have hH2 := hH.call1 0 rfl hHw
  simp only [List.set_cons_zero, List.nil_append] at hH2
  apply hK;clear hK
  refine Qar ?_
  refine VS [2, 6, 7, 43, 44, 45] ?_
  refine Qad ?_
  refine Qs ?_
  refine ⟨i - (k + 1), by omega, k + 1, a6, c6, ?_, ?_, by omega, rfl⟩
  ·
   rw [hls, show p0 + (x - p0) - (p0 - x) = x by omega];rfl
  ·
   rw [hsn, <- List.append_assoc, hB, <- List.append_assoc, <- List.append_assoc, hB2];exact hH2
 obtain rfl : k = i := by omega
 rw [List.take_of_length_le (by omega)] at hH
 refine Qak rfl ?_
 refine VQ [2, 3] fun K hK => ?_
 refine Qaa Tryz.call37 ?_;refine Qs ?_;refine CallK.mk (Qfv gw a3 c3 _ w8 (hH.at 0 rfl)) ?_
 rintro v w9 ⟨rfl, rfl⟩
 refine Qaa Tryz.call38 ?_;refine Qs ?_;refine CallK.mk (Qf4 gw a3 c3 _ w9 (hH.at 0 rfl)) ?_
 rintro v w10 ⟨rfl, rfl⟩
 refine Qs ?_
 generalize Qbc 5 x0 ++ Qcf x0 l = R at *
 refine Qab ?_
 refine Qs ?_
 refine Qae hH 1 (vs := Qa7 R) rfl rfl (by kernel_rfl) (by simp [Qa7]) (by simp [Qa7, Value.oneCell']) fun w11 hH2 => ?_
 have hH2 : Heap w [] w11 [wr gw a3 c3 R, Res.blk gr 24 (Qa7 R)] := hH2
 apply hK;clear hK
 refine Qah (Qeq rfl rfl rfl (Qbu (hH2.at 1 rfl) (by kernel_rfl) (by kernel_rfl) rfl ?_))
 exact ⟨hH2.sub (by simp), rfl⟩
def QD8 (r : Except Int (List Nat × Nat)) (w : World) (v : Value) (w' : World) : Prop := match r with
 | .ok q => ∃ a cap, Heap w [] w' [Res.row 3 1 a q.1.length cap (Qam q.1)] /\ v = .tuple #[.slice a q.1.length cap, .int .i64 q.2, .int .i64 0]
 | .error e => Heap w [] w' [] /\ v = .tuple #[.slice none 0 0, .int .i64 0, .int .i64 e]
theorem QLv (r : List Bool) (now at_ : Nat) : tdGo r now 0 at_ = .ok ([], at_) := by
 match r with
 | [] => simp [tdGo]
 | false :: r => simp [tdGo]
 | [true] => simp [tdGo]
 | true :: d :: r => simp [tdGo]
theorem QO0 (r : List Bool) {now k : Nat} (at_ : Nat) (hk : k ≠ 0) (h : now < 1 ∨ 20 < now) : tdGo r now k at_ = .error 80 := by
 match r with
 | [] => simp only [tdGo, if_neg hk, if_pos h]
 | false :: r => simp only [tdGo, if_neg hk, if_pos h]
 | [true] => simp only [tdGo, if_neg hk, if_pos h]
 | true :: d :: r => simp only [tdGo, if_neg hk, if_pos h]
theorem Qka (s : List UInt8) (g9 gr gs p n : Nat) (hn : n <= 60) (hp : p <= 8 * s.length) (hs : s.length <= 100000000000000) (w0 w : World) (B : List Nat) (G : List Res) (hL : Heap w0 B w (rd gr gs s p :: Res.blk g9 130 [.pointer (some ⟨gr, 0, none⟩)] :: G)) :
  Does Tryz.prog 148 #[.int .i64 n, .pointer (some ⟨g9, 0, none⟩)] w fun x w' =>
   (8 * s.length < p + n /\ w' = w /\ x = .tuple #[.int .i64 0, .int .i64 10]) ∨ (p + n <= 8 * s.length /\ Heap w0 B w' (rd gr gs s (p + n) :: Res.blk g9 130 [.pointer (some ⟨gr, 0, none⟩)] :: G) /\ x = .tuple #[.int .i64 (numB (((Qap s).drop p).take n) : Nat), .int .i64 0]) := by
 refine En [.int .i64 n, .pointer (some ⟨g9, 0, none⟩)] 16 Tryz.func148 ?_
 refine VS [0, 1] ?_
 refine VQ [5, 6] fun K hK => ?_
 refine ⟨_, Qaf (hL.at 1 rfl) rfl, ?_⟩
 refine Qaa Tryz.call87 ?_;refine Qs ?_;refine CallK.mk (Qeh gr gs s p n w (by omega) (by omega) (by omega) (hL.focus 0 rfl)) ?_
 rintro v w3 (⟨h1, rfl, rfl⟩ | ⟨h1, hH2, rfl⟩)
 ·
  skip
  apply hK;clear hK
  refine VS [3, 4] ?_
  exact Qah (Qa4 rfl rfl rfl (.inl ⟨h1, rfl, rfl⟩))
 have hH3 := hL.call1 0 rfl hH2
 simp only [List.set_cons_zero, List.nil_append] at hH3
 have hlt := Qev (((Qap s).drop p).take n)
 have hlen : (((Qap s).drop p).take n).length <= 60 := by rw [List.length_take];omega
 have hlt2 := Nat.pow_le_pow_right (n := 2) (by omega) hlen
 generalize numB (((Qap s).drop p).take n) = q at *
 apply hK;clear hK
 refine VS [3, 4] ?_
 exact Qah (Qa4 rfl rfl rfl (.inr ⟨h1, hH3, rfl⟩))
theorem Qpr (s : List UInt8) (at_ n : Nat) (ha : at_ <= 8 * s.length) (hs : s.length <= 100000000000000) (hn : 2 <= n /\ n <= 258) (w : World) :
  Does Tryz.prog 102 #[Str s, .int .i64 at_, .int .i64 n] w (QD8 (Qcd (Qap s) at_ n) w) := by
 have hbl := Qax s
 generalize hbits : Qap s = bits at *
 generalize hres : Qcd bits at_ n = res
 unfold Qcd at hres
 refine En [Str s, .int .i64 at_, .int .i64 n] 79 Tryz.func102 ?_
 refine VS [0, 1, 2] ?_
 (repeat refine Qaw ?_);refine Qm0 ?_
 refine VQ [2, 9] fun K hK => ?_
 refine Qaa Tryz.call86 ?_;refine Qs ?_;refine CallK.mk (Qc8 s at_ w (I64.mk (by omega) (by omega)) (by omega)) ?_
 rintro v w2 (⟨hbad, _⟩ | ⟨_, gr, gs, hH, rfl⟩)
 ·
  omega
 rw [Int.toNat_natCast] at hH
 refine Qal (.pointer none) (by kernel_rfl) ?_
 refine Qs ?_
 have hH1 := hH.box 130 [.pointer none]
 generalize w2.alloc (Obj.cells [Value.pointer none].toArray 130) = w3 at *
 generalize w2.heap.size = g9 at *
 refine Qab ?_
 refine Qs ?_
 refine Qae hH1 0 (vs := [.pointer (some ⟨gr, 0, none⟩)]) rfl rfl (by kernel_rfl) (by simp) (by simp [Value.oneCell']) fun w4 hH2 => ?_
 have hH3 : Heap w [] w4 [rd gr gs s at_, Res.blk g9 130 [.pointer (some ⟨gr, 0, none⟩)]] := hH2.perm (List.Perm.swap _ _ _)
 clear hH hH1 hH2
 apply hK;clear hK
 refine VQ [2, 9, 29] fun K hK => ?_
 suffices out : ∀ b : Bool, (b = true ↔ False) -> K [(2, .int .i64 n), (9, .pointer (some ⟨g9, 0, none⟩)), (29, .bool b)] w4 by
  refine ⟨_, Qaf (hH3.at 1 rfl) rfl, ?_⟩
  refine Qs ?_
  (repeat' (first | exact out _ _ (by first | omega | (simp;done) | (simp;omega)) | exact out _ (by first | omega | (simp;done) | (simp;omega)) | refine ⟨fun _ => ?_, fun _ => ?_⟩ | refine Qo ?_))
 intro b hb
 apply hK;clear hK
 refine Qai rfl rfl (fun h => (hb.1 h).elim) (fun h => Qac ?_)
 clear hb h
 refine VS [2, 9, 10] ?_
 refine VQ [2, 9, 10, 11, 12] fun K hK => ?_
 refine Qbg ?_;refine Qs ?_;refine FnK.mk Tryz.call148 (Qka s g9 gr gs at_ 5 (by omega) ha hs w w4 [] [] hH3) ?_
 have hts : Qex bits at_ 5 = if bits.length < at_ + 5 then (0, 10) else (numB ((bits.drop at_).take 5), 0) := rfl
 rintro v w5 (⟨h1, rfl, rfl⟩ | ⟨h1, hH4, rfl⟩)
 ·
  rw [if_pos (by omega)] at hts
  rw [hts, if_pos (by simp)] at hres
  subst hres
  apply hK;clear hK
  refine VS [2, 9, 10, 11, 12, 37] ?_
  refine Qai rfl rfl (fun h => ?_) (fun h => by cases h)
  refine VS [6, 7, 8] ?_
  exact Qah (Qcj rfl rfl rfl rfl ⟨hH3.sub (by simp), rfl⟩)
 rw [if_neg (by omega)] at hts
 rw [hts, if_neg (by simp)] at hres
 rw [hbits]
 have hlt := Qev ((bits.drop at_).take 5)
 have hlen : ((bits.drop at_).take 5).length <= 5 := by rw [List.length_take];omega
 have hlt2 := Nat.pow_le_pow_right (n := 2) (by omega) hlen
 clear hH3 hts
 simp only at hres
 generalize numB ((bits.drop at_).take 5) = now0 at *
 apply hK;clear hK
 refine VS [2, 9, 10, 11, 12, 37] ?_
 refine Qai rfl rfl (fun h => by cases h) (fun h => Qac ?_)
 clear h
 refine VS [2, 9, 10, 11, 13] ?_
 (repeat refine Qaw ?_)
 refine Qmy ?_
 refine VB ?_
 refine Qaj [2, 9, 10, 11, 13] (fun m e w' => ∃ (p now cap : Nat) (a : Option Addr) (out : List Nat), Is e [(2, .int .i64 n), (9, .pointer (some ⟨g9, 0, none⟩)), (10, .func (.func 148) #[] #[.pointer (some ⟨g9, 0, none⟩)]), (11, .int .i64 now), (13, .slice a out.length cap)] /\ Heap w [] w' [rd gr gs s p, Res.blk g9 130 [.pointer (some ⟨gr, 0, none⟩)], Res.row 3 1 a out.length cap (Qam out)] /\ p <= 8 * s.length /\ now <= 100 /\ out.length <= n /\ (match tdGo (bits.drop p) now (n - out.length) p with | .error e => .error e | .ok q => .ok (out ++ q.1, q.2)) = res /\ m = 8 * s.length - p) (8 * s.length - (at_ + 5)) ?_ ?_
 ·
  refine Qs ?_
  have hH5 := (hH4.nilRow 3 1).perm (G' := [rd gr gs s (at_ + 5), Res.blk g9 130 [.pointer (some ⟨gr, 0, none⟩)], Res.row 3 1 none 0 0 []]) (by exact (List.perm_append_comm (l₁ := [Res.row 3 1 none 0 0 []])))
  exact ⟨at_ + 5, now0, 0, none, [], rfl, hH5, by omega, by omega, by simp, by rw [<- hres];simp only [List.length_nil, Nat.sub_zero, List.nil_append];cases tdGo (bits.drop (at_ + 5)) now0 n (at_ + 5) <;> rfl, rfl⟩
 clear hH4 hres
 rintro m e w6 ⟨p, now, cap, a, out, rfl, hH, hp, hnow, hol, hres, rfl⟩
 refine VS [2, 9, 10, 11, 13, 42] ?_
 refine VD (fun h => ?_) (fun h => ?_)
 ·
  have hol2 : out.length < n := by omega
  obtain ⟨p0, hp0⟩ : ∃ q, q = p := ⟨p, rfl⟩
  refine Qac ?_
  refine Qag ?_
  refine Qag ?_
  refine Qaj [2, 9, 10, 11, 13] (fun m e w' => ∃ (p now : Nat), Is e [(2, .int .i64 n), (9, .pointer (some ⟨g9, 0, none⟩)), (10, .func (.func 148) #[] #[.pointer (some ⟨g9, 0, none⟩)]), (11, .int .i64 now), (13, .slice a out.length cap)] /\ Heap w [] w' [rd gr gs s p, Res.blk g9 130 [.pointer (some ⟨gr, 0, none⟩)], Res.row 3 1 a out.length cap (Qam out)] /\ p0 <= p /\ p <= 8 * s.length /\ now <= 100 /\ (match tdGo (bits.drop p) now (n - out.length) p with | .error e => .error e | .ok q => .ok (out ++ q.1, q.2)) = res /\ m = 8 * s.length - p) (8 * s.length - p) ?_ ?_
  ·
   refine Qs ?_
   exact ⟨p, now, rfl, hH, by omega, hp, hnow, hres, rfl⟩
  clear hH hres hp hnow
  rintro m e w7 ⟨p, now, rfl, hH, hpp, hp, hnow, hres, rfl⟩
  refine Qag ?_
  refine VQ [2, 9, 10, 11, 13, 48] fun K hK => ?_
  suffices out : ∀ b : Bool, (b = true ↔ (now < 1 ∨ 20 < now)) -> K [(2, .int .i64 n), (9, .pointer (some ⟨g9, 0, none⟩)), (10, .func (.func 148) #[] #[.pointer (some ⟨g9, 0, none⟩)]), (11, .int .i64 now), (13, .slice a out.length cap), (48, .bool b)] w7 by (repeat' (first | exact out _ _ (by first | omega | (simp;done) | (simp;omega)) | exact out _ (by first | omega | (simp;done) | (simp;omega)) | refine ⟨fun _ => ?_, fun _ => ?_⟩ | refine Qo ?_))
  intro b hb
  apply hK;clear hK
  refine Vi (fun h => ?_) (fun h => Qac ?_)
  ·
   rw [QO0 _ _ (by omega) (hb.1 h)] at hres
   subst hres
   refine VS [6, 7, 8] ?_
   exact Qah (Qcj rfl rfl rfl rfl ⟨hH.sub (by simp), rfl⟩)
  have hg : ¬ (now < 1 ∨ 20 < now) := fun h2 => by have := hb.2 h2;simp_all
  clear hb h
  refine VQ [2, 9, 10, 11, 13, 14, 15] fun K hK => ?_
  refine Qbg ?_;refine Qs ?_;refine FnK.mk Tryz.call148 (Qka s g9 gr gs p 1 (by omega) hp hs w w7 [] _ hH) ?_
  rintro v w8 (⟨h1, rfl, rfl⟩ | ⟨h1, hH4, rfl⟩)
  ·
   rw [List.drop_of_length_le (by omega), tdGo, if_neg (by omega), if_neg hg] at hres
   subst hres
   apply hK;clear hK
   refine VS [2, 9, 10, 11, 13, 14, 15, 55] ?_
   refine Qai rfl rfl (fun h => ?_) (fun h => by cases h)
   refine VS [6, 7, 8] ?_
   exact Qah (Qcj rfl rfl rfl rfl ⟨hH.sub (by simp), rfl⟩)
  have hdp : bits.drop p = bits.getD p false :: bits.drop (p + 1) := drop_getD false (by omega)
  have hnum : numB ((bits.drop p).take 1) = (bits.getD p false).toNat := by rw [hdp];cases bits.getD p false <;> rfl
  rw [hbits, hnum]
  rw [hdp] at hres
  apply hK;clear hK
  refine VS [2, 9, 10, 11, 13, 14, 15, 55] ?_
  refine Qai rfl rfl (fun h => by cases h) (fun h => Qac ?_)
  clear h hH
  refine VS [2, 9, 10, 11, 13, 58] ?_
  generalize bits.getD p false = b at *
  cases b with
  | false =>
   rw [tdGo, if_neg (by omega), if_neg hg] at hres
   refine Qai rfl rfl (fun h => ?_) (fun h => by simp at h)
   refine VQ [2, 9, 10, 11, 13] fun K hK => ?_
   refine Qde (xs := [.tmp 60]) Tryz.underlying36 sz3 rfl rfl rfl (by omega) ?_;refine Qs ?_;refine ⟨by simp [Value.cells], ?_⟩
   refine Qau ?_;refine Qs ?_;refine Qsd hH4 2 (now) rfl Tryz.underlying36 zi3 (by first | rfl | (simp;done) | omega | (simp;omega)) (fun h => by (first | omega | (simp;done) | (simp;omega))) fun a' cap' w5 hc' hH5 => ?_;(try refine Qs ?_)
   simp only [List.set_cons_succ, List.set_cons_zero] at hH5
   apply hK;clear hK
   refine Qak rfl ?_
   refine Qad ?_
   refine Qs ?_
   refine ⟨8 * s.length - (p + 1), by omega, p + 1, now, cap', a', out ++ [now], rfl, hH5, by omega, hnow, by simp;omega, ?_, rfl⟩
   rw [<- hres, show n - (out ++ [now]).length = n - out.length - 1 by simp;omega]
   cases tdGo (bits.drop (p + 1)) now (n - out.length - 1) (p + 1) with
   | error e => rfl
   | ok q => simp
  | true =>
   refine Qai rfl rfl (fun h => by simp at h) (fun h => Qac ?_)
   clear h
   refine VQ [2, 9, 10, 11, 13, 15, 16] fun K hK => ?_
   refine Qbg ?_;refine Qs ?_;refine FnK.mk Tryz.call148 (Qka s g9 gr gs (p + 1) 1 (by omega) h1 hs w w8 [] _ hH4) ?_
   rintro v w9 (⟨h2, rfl, rfl⟩ | ⟨h2, hH6, rfl⟩)
   ·
    rw [List.drop_of_length_le (by omega), tdGo, if_neg (by omega), if_neg hg] at hres
    subst hres
    apply hK;clear hK
    refine VS [2, 9, 10, 11, 13, 15, 16, 69] ?_
    refine Qai rfl rfl (fun h => ?_) (fun h => by cases h)
    refine VS [6, 7, 8] ?_
    exact Qah (Qcj rfl rfl rfl rfl ⟨hH4.sub (by simp), rfl⟩)
   have hdp2 : bits.drop (p + 1) = bits.getD (p + 1) false :: bits.drop (p + 1 + 1) := drop_getD false (by omega)
   have hnum2 : numB ((bits.drop (p + 1)).take 1) = (bits.getD (p + 1) false).toNat := by rw [hdp2];cases bits.getD (p + 1) false <;> rfl
   rw [hbits, hnum2]
   rw [hdp2, tdGo, if_neg (by omega), if_neg hg] at hres
   generalize bits.getD (p + 1) false = d at *
   have hd1 : d.toNat <= 1 := by cases d <;> simp
   apply hK;clear hK
   refine VS [2, 9, 10, 11, 13, 15, 16, 69] ?_
   refine Qai rfl rfl (fun h => by cases h) (fun h => Qac ?_)
   clear h
   refine VS [2, 9, 10, 11, 13] ?_
   refine Qar ?_
   refine Qad ?_
   refine Qs ?_
   refine ⟨8 * s.length - (p + 1 + 1), by omega, p + 1 + 1, (if d = true then now - 1 else now + 1), ?_, hH6, by omega, by omega, by split <;> omega, hres, rfl⟩
   cases d with
   | true => rw [if_pos rfl, show ((now : Int) + (1 - 2 * ((true.toNat : Nat) : Int))) = ((now - 1 : Nat) : Int) by simp;omega];rfl
   | false => rw [if_neg (by simp), show ((now : Int) + (1 - 2 * ((false.toNat : Nat) : Int))) = ((now + 1 : Nat) : Int) by simp];rfl
 ·
  rw [show n - out.length = 0 by omega, QLv] at hres
  simp only [List.append_nil] at hres
  subst hres
  refine Qak rfl ?_
  refine VQ [6, 7, 8] fun K hK => ?_
  refine ⟨_, Qaf (hH.at 1 rfl) rfl, ?_⟩
  refine Qaa Tryz.call100 ?_;refine Qs ?_;refine CallK.mk (Qn4 gr gs p s w6 (hH.at 0 rfl)) ?_
  rintro v w7 ⟨rfl, rfl⟩
  apply hK;clear hK
  exact Qah (Qcj rfl rfl rfl rfl ⟨a, cap, hH.sub (by simp), rfl⟩)
def Qc0 (l : List Nat) : List Nat := (List.range l.length).map (Qe8 l)
theorem Qlz (l : List Nat) : (Qc0 l).length = l.length := by simp [Qc0]
theorem QD9 {g n lc : Nat} {p : Addr} {ao : Option Addr} {co : Nat} {l : List Nat} {w : World} (h : (tabR g (.slice (some p) n lc) ao co l).holds w) {k : Nat} (hk : k <= maxL l) (hL : maxL l <= 20) :
  w.cell? ⟨g, 2 + k, none⟩ = some (.int .i64 (Qbi l k : Nat)) /\ w.cell? ⟨g, 24 + k, none⟩ = some (.int .i64 (begS l k : Nat)) /\ w.cell? ⟨g, 46 + k, none⟩ = some (.int .i64 (cnt l k : Nat)) := by
 have lF := Qg3 (Qbi l) (maxL l + 1)
 have lB := Qg3 (begS l) (maxL l + 1)
 have lC := Qg3 (cnt l) (maxL l + 1)
 have h1 := QHm (sv := .slice (some p) n lc) (ov := .slice ao (ordN l (maxL l)).length co) (Bg := upTo (begS l) (maxL l + 1)) (C := upTo (cnt l) (maxL l + 1)) lF (n := k) (by omega)
 have h2 := QHn (sv := .slice (some p) n lc) (ov := .slice ao (ordN l (maxL l)).length co) (C := upTo (cnt l) (maxL l + 1)) lF lB (n := k) (by omega)
 have h3 := Qy3 (sv := .slice (some p) n lc) (ov := .slice ao (ordN l (maxL l)).length co) lF lB lC (n := k) (by omega)
 rw [Qy4 _ (by omega), if_pos (by omega)] at h1 h2 h3
 exact ⟨Qaf h h1, Qaf h h2, Qaf h h3⟩
theorem Quz {g n lc : Nat} {p : Addr} {ao : Option Addr} {co : Nat} {l : List Nat} {w : World} (h : (tabR g (.slice (some p) n lc) ao co l).holds w) : w.cell? ⟨g, 0, none⟩ = some (.slice (some p) n lc) /\ w.cell? ⟨g, 1, none⟩ = some (.slice ao (ordN l (maxL l)).length co) /\ Reads w ⟨g, 0, none⟩ [.slice (some p) n lc] := by
 have h0 : w.cell? ⟨g, 0, none⟩ = some (.slice (some p) n lc) := Qaf h (k := 0) rfl
 refine ⟨h0, Qaf h (k := 1) rfl, fun q u hu => ?_⟩
 cases q with
 | zero => simp at hu;subst hu;exact h0
 | succ q => simp at hu
theorem Qu0 (l : List Nat) (hok : okL l) (g : Nat) (p : Addr) (lc : Nat) (ao : Option Addr) (co : Nat) (w0 w : World) (G : List Res) (hr : RS w0 (some p) l.length 1 (Qam l)) (hL : Heap w0 [] w (tabR g (.slice (some p) l.length lc) ao co l :: ordR ao co l :: G)) :
  Does Tryz.prog 136 #[.pointer (some ⟨g, 0, none⟩)] w fun v w' => ∃ a cap, Heap w0 [] w' (Res.row 3 1 a (Qc0 l).length cap (Qam (Qc0 l)) :: tabR g (.slice (some p) l.length lc) ao co l :: ordR ao co l :: G) /\ v = .slice a (Qc0 l).length cap := by
 obtain ⟨hL1, hL20⟩ := Qnh hok
 have hat := fun i hi => Que hok (i := i) hi
 have hfl := fun n hn => Qko hok (n := n) hn
 have hbl : ∀ n, n <= 20 -> begS l n <= 5160 := fun n hn => by
  have := Qng l (n - 1)
  have h2 := Nat.mul_le_mul (show n - 1 <= 20 by omega) hok.2.1
  unfold begS
  omega
 obtain ⟨hl2, hl258, hin, _⟩ := id hok
 refine En [.pointer (some ⟨g, 0, none⟩)] 52 Tryz.func136 ?_
 have hcl := Qlz l
 generalize hn : l.length = n at *
 refine VS [0] ?_
 refine VQ [0, 3] fun K hK => ?_
 refine ⟨_, (Quz (hL.at 0 rfl)).1, ?_⟩
 refine Qs ?_
 refine Qbw Tryz.underlying36 zi3 ?_
 refine Qs ?_
 refine ⟨n, n, ⟨rfl, rfl, by omega, by omega, by omega⟩, ?_⟩
 have hH := hL.row 3 (n := n) (cap := n) (sz := 1) (Qam (List.replicate n 0)) [] (by simp [Qan]) (by simp [Qan]) (by omega) (by omega)
 have er : Qam (List.replicate n 0) = List.replicate n (.int .i64 0) := by simp [Qam]
 rw [List.append_nil, er] at hH
 generalize w.alloc (Obj.cells (List.replicate n (Value.int IntKind.i64 0)).toArray 3) = w1 at *
 generalize w.heap.size = gu at *
 rw [<- er] at hH
 clear hL
 apply hK;clear hK
 refine VQ [0, 3, 17, 18, 19] fun K hK => ?_
 refine ⟨_, (Quz (hH.at 1 rfl)).2.1, ?_⟩
 refine Qs ?_
 apply hK;clear hK
 have hol := Qng l (maxL l)
 have hol2 : (ordN l (maxL l)).length <= 5160 := by
  have h2 := Nat.mul_le_mul hL20 hl258
  rw [hn] at hol
  omega
 generalize hoL : (ordN l (maxL l)).length = oL at *
 refine Qag ?_
 refine Qaj [0, 3, 17, 18, 19] (fun m e w' => ∃ (k : Nat) (O : List Nat), Is e [(0, .pointer (some ⟨g, 0, none⟩)), (3, .slice (some ⟨gu, 0, none⟩) n n), (17, .slice ao oL co), (18, .int .i64 oL), (19, .int .i64 k)] /\ Heap w0 [] w' (Res.row 3 1 (some ⟨gu, 0, none⟩) n n (Qam O) :: tabR g (.slice (some p) n lc) ao co l :: ordR ao co l :: G) /\ O.length = n /\ (∀ j, j < k -> O.getD ((ordN l (maxL l)).getD j 0) 0 = Qe8 l ((ordN l (maxL l)).getD j 0)) /\ k <= oL /\ m = oL - k) oL ?_ ?_
 ·
  refine Qs ?_
  exact ⟨0, _, rfl, hH, by simp, fun j hj => by omega, by omega, rfl⟩
 clear hH
 rintro m e w2 ⟨k, O, rfl, hH, hOl, hO, hk, rfl⟩
 refine VS [0, 3, 17, 18, 19, 20] ?_
 (repeat refine Qaw ?_)
 refine VD (fun h => ?_) (fun h => ?_)
 ·
  have hkL : k < (ordN l (maxL l)).length := by omega
  obtain ⟨go, rfl⟩ := Qdz (hH.at 2 rfl) (by omega)
  have hcell := Qba (hH.at 2 rfl) (Qb5 hkL)
  obtain ⟨h1, h2, h3⟩ := Qxl l (maxL l) k hkL
  have hcode := QD5 hkL rfl
  rw [hn] at h1
  have hti := hat _ (by rw [hn] at *;exact h1)
  have hco := (Qm9 hok (by rw [hn] at *;exact h1)).2.2
  generalize hi : (ordN l (maxL l)).getD k 0 = i at *
  have hle : l.getD i 0 <= maxL l := Qiv.1 (Nat.le_refl _) _ (Qbq 0 (by omega))
  obtain ⟨c1, c2, c3⟩ := QD9 (hH.at 1 rfl) hle hL20
  have csv := Quz (hH.at 1 rfl)
  have hcx := Qdl (hH.rs' hr) (i := i) (by omega)
  have hff := hfl (l.getD i 0) hti.2
  have hbb := hbl (l.getD i 0) hti.2
  have hp2 : 2 ^ (l.getD i 0) <= 2 ^ 20 := Nat.pow_le_pow_right (by omega) hti.2
  have hp3 : 2 ^ (l.getD i 0) <= 1048576 := hp2
  generalize hx : l.getD i 0 = x at *
  refine Qac ?_
  refine VB ?_
  refine VQ [0, 3, 4, 5, 17, 18, 19] fun K hK => ?_
  refine ⟨⟨by omega, by omega⟩, _, hcell, ?_⟩
  apply hK;clear hK
  refine VQ [0, 3, 4, 5, 6, 17, 18, 19] fun K hK => ?_
  refine ⟨_, csv.1, ?_⟩
  refine Qs ?_
  refine ⟨⟨by omega, by omega⟩, _, hcx, ?_⟩
  apply hK;clear hK
  refine VL [0, 3, 17, 18, 19] 18 fun K hK => ?_
  refine ⟨⟨by omega, by omega⟩, _, c1, ?_⟩
  refine Qs ?_
  refine ⟨I64.mk (by omega) (by omega), ⟨by omega, by omega⟩, _, c2, ?_⟩
  refine Qs ?_
  refine ⟨I64.mk (by omega) (by omega), ⟨by omega, by omega⟩, ?_⟩
  rw [show ((Qbi l x : Nat) : Int) + k - (begS l x : Nat) = ((Qe8 l i : Nat) : Int) by omega]
  refine Qab ?_;refine Qs ?_;refine Qbf hH 0 (o := (i)) (vs := [.int .i64 (Qe8 l i : Nat)]) rfl (by first | exact (Qbp _ _ _).symm | rfl | simp [Qbp]) rfl (by kernel_rfl) (by first | omega | (simp;omega) | (simp [Qao, Qbn];omega) | (rw [Qan];simp;omega)) (by simp [Value.oneCell']) fun w6 hH2 => ?_;(try refine Qs ?_)
  simp only [List.length_singleton, Qb2 (Qam O) _ _ (show i < (Qam O).length by rw [Qan, hOl];omega), Qch, List.set_cons_zero] at hH2
  apply hK;clear hK
  refine Qar ?_
  refine VS [0, 3, 17, 18, 19] ?_
  refine Qad ?_
  refine Qs ?_
  refine ⟨oL - (k + 1), by omega, k + 1, _, rfl, hH2, by simp [hOl], fun j hj => ?_, by omega, rfl⟩
  by_cases e : (ordN l (maxL l)).getD j 0 = i
  ·
   rw [e, Qc3 (by omega)]
  ·
   rw [Qcr (fun e2 => e e2.symm)]
   have : j ≠ k := fun e2 => e (by rw [e2];exact hi)
   exact hO j (by omega)
 ·
  have hfin : O = Qc0 l := by
   apply List.ext_getElem
   ·
    rw [hOl, hcl]
   ·
    intro i h1 h2
    have hi : i < l.length := by omega
    have hm := Qy2 hi (hat i (by omega)).1 (maxL l) (Qiv.1 (Nat.le_refl _) _ (Qbq 0 hi))
    obtain ⟨j, hj, e⟩ := List.getElem_of_mem hm
    have e2 : (ordN l (maxL l)).getD j 0 = i := by rw [List.getD_eq_getElem?_getD, List.getElem?_eq_getElem hj];exact e
    have := hO j (by omega)
    rw [e2, List.getD_eq_getElem?_getD, List.getElem?_eq_getElem h1] at this
    simp only [Qc0, List.getElem_map, List.getElem_range]
    exact this
  refine Qak rfl ?_
  refine VS [2] ?_
  refine Qah (Qat rfl rfl ⟨some ⟨gu, 0, none⟩, n, ?_, by rw [hcl]⟩)
  rw [hcl, <- hfin]
  exact hH
theorem Qmx (l : List Nat) (hok : okL l) (a : Option Addr) (lc : Nat) (w : World) (hr : RS w a l.length 1 (Qam l)) :
  Does Tryz.prog 84 #[.slice a l.length lc] w fun v w' => ∃ a' cap, Heap w [] w' [Res.row 3 1 a' (Qc0 l).length cap (Qam (Qc0 l))] /\ v = .tuple #[.slice a' (Qc0 l).length cap, .int .i64 0] := by
 have hl2 := hok.1
 obtain ⟨p, rfl⟩ := Qcy hr (by omega)
 refine En [.slice (some p) l.length lc] 16 Tryz.func84 ?_
 refine VS [0] ?_
 refine VQ [4, 5] fun K hK => ?_
 refine Qaa Tryz.call135 ?_;refine Qs ?_;refine CallK.mk (Qux l hok (some p) lc w hr) ?_
 rintro v w2 ⟨g, ao, co, hH, rfl⟩
 apply hK;clear hK
 refine VS [4, 5, 12] ?_
 refine Qai rfl rfl (fun h => by simp at h) (fun h => Qac ?_)
 refine VQ [2, 3] fun K hK => ?_
 refine Qaa Tryz.call136 ?_;refine Qs ?_;refine CallK.mk (Qu0 l hok g p lc ao co w w2 [] hr hH) ?_
 rintro v w3 ⟨a', cap, hH2, rfl⟩
 apply hK;clear hK
 exact Qah (Qa4 rfl rfl rfl ⟨a', cap, hH2.sub (by simp), rfl⟩)
def begC (l : List Nat) (c k m : Nat) : Bool := decide (k < m) && decide (0 < cnt l m) && decide (c * 2 ^ (m - k) < Qbi l m + cnt l m)
theorem QEa {l : List Nat} {c k : Nat} (hL : maxL l <= 20) : begP l c k = true ↔ ∃ m, k < m /\ m <= maxL l /\ begC l c k m = true := by
 unfold begP
 rw [List.any_eq_true]
 constructor
 ·
  rintro ⟨m, hm, h⟩
  refine ⟨m, ?_, ?_, h⟩
  ·
   simp only [Bool.and_eq_true, decide_eq_true_eq] at h;exact h.1.1
  ·
   rcases Nat.lt_or_ge (maxL l) m with h2 | h2
   ·
    have := QHl h2
    simp [this] at h
   ·
    exact h2
 ·
  rintro ⟨m, h1, h2, h3⟩
  exact ⟨m, List.mem_range.2 (by omega), h3⟩
theorem Qxr (l : List Nat) (hok : okL l) (c k : Nat) (hc : c <= 2097152) (hk : k <= 20) (g : Nat) (p : Addr) (lc : Nat) (ao : Option Addr) (co i : Nat) (w0 w : World) (G : List Res) (hr : RS w0 (some p) l.length 1 (Qam l)) (hL : Heap w0 [] w G) (hi : G[i]? = some (tabR g (.slice (some p) l.length lc) ao co l)) :
  Does Tryz.prog 175 #[.pointer (some ⟨g, 0, none⟩), .int .i64 c, .int .i64 k] w fun v w' => Heap w0 [] w' G /\ v = .bool (begP l c k) := by
 obtain ⟨hL1, hL20⟩ := Qnh hok
 have hfl := fun n hn => Qko hok (n := n) hn
 have hbp := QEa (l := l) (c := c) (k := k) hL20
 obtain ⟨hl2, hl258, hin, _⟩ := hok
 have hcl := Qmj l (by omega) (some p) lc
 refine En [.pointer (some ⟨g, 0, none⟩), .int .i64 c, .int .i64 k] 47 Tryz.func175 ?_
 generalize hres : begP l c k = res at *
 generalize hn : l.length = n at *
 refine VS [0, 1, 2] ?_
 refine VS [0, 1, 2, 7] ?_
 refine Qag ?_
 refine Qaj [0, 1, 2, 7] (fun m e w' => ∃ (j : Nat), Is e [(0, .pointer (some ⟨g, 0, none⟩)), (1, .int .i64 c), (2, .int .i64 k), (7, .int .i64 (j + 1 : Nat))] /\ Heap w0 [] w' G /\ k <= j /\ j <= 20 /\ (∀ m', k < m' -> m' <= j -> begC l c k m' = false) /\ m = 21 - j) (21 - k) ?_ ?_
 ·
  refine Qs ?_
  exact ⟨k, rfl, hL, by omega, by omega, fun m' h1 h2 => by omega, rfl⟩
 clear hL
 rintro m e w1 ⟨j, rfl, hH, hkj, hj20, hno, rfl⟩
 have hsv := Quz (hH.at i hi)
 refine VQ [0, 1, 2, 7, 16] fun K hK => ?_
 refine ⟨_, ⟨rfl, hsv.2.2⟩, ?_⟩
 refine Qaa Tryz.call166 ?_;refine Qs ?_;refine CallK.mk (hcl w1 (hH.rs' hr)) ?_
 rintro v w2 ⟨hHl, rfl⟩
 have hH2 := hH.call0 hHl
 simp only [List.nil_append] at hH2
 clear hH hHl hsv
 refine Qs ?_
 apply hK;clear hK
 refine VD (fun h => ?_) (fun h => ?_)
 ·
  have hj2 : j + 1 <= maxL l := by omega
  obtain ⟨c1, c2, c3⟩ := QD9 (hH2.at i hi) hj2 hL20
  have hff := hfl (j + 1) (by omega)
  have hp2 : 2 ^ (j + 1) <= 2 ^ 20 := Nat.pow_le_pow_right (by omega) (by omega)
  have hp3 : 2 ^ (j + 1) <= 1048576 := hp2
  have hp4 : 2 ^ (j + 1 - k) <= 2 ^ 20 := Nat.pow_le_pow_right (by omega) (by omega)
  have hp5 : 2 ^ (j + 1 - k) <= 1048576 := hp4
  have hmul : c * 2 ^ (j + 1 - k) <= 2097152 * 1048576 := Nat.mul_le_mul hc hp5
  have hsh : shN IntKind.i64 ((j + 1 : Nat) - (k : Int)) = j + 1 - k := Qp9 (by omega) (by simp [IntKind.bits];omega)
  have hbc : begC l c k (j + 1) = (decide (k < j + 1) && decide (0 < cnt l (j + 1)) && decide (c * 2 ^ (j + 1 - k) < Qbi l (j + 1) + cnt l (j + 1))) := rfl
  rw [decide_eq_true (show k < j + 1 by omega), Bool.true_and] at hbc
  have hsc := Qm2 c (j + 1 - k)
  refine Qac ?_
  refine VB ?_
  refine Vq [0, 1, 2, 7, 46] fun K hK => ?_
  refine ⟨⟨by omega, by omega⟩, _, c3, ?_⟩
  refine Qs ?_
  rw [hsh, hsc]
  clear hsc hsh hp2 hp4
  generalize c * 2 ^ (j + 1 - k) = q at *
  suffices out : K [(0, .pointer (some ⟨g, 0, none⟩)), (1, .int .i64 c), (2, .int .i64 k), (7, .int .i64 (j + 1 : Nat)), (46, .bool (begC l c k (j + 1)))] by
   refine ⟨fun h2 => ?_, fun h2 => ?_⟩
   ·
    rw [decide_eq_true (show 0 < cnt l (j + 1) by omega), Bool.true_and] at hbc
    refine ⟨I64.mk (by omega) (by omega), by omega, I64.mk (by omega) (by omega), ⟨by omega, by omega⟩, _, c1, ?_⟩
    refine ⟨⟨by omega, by omega⟩, _, c3, ?_⟩
    refine Qs ?_
    refine ⟨I64.mk (by omega) (by omega), ?_⟩
    rw [show decide (((q : Nat) : Int) < ((Qbi l (j + 1) : Nat) : Int) + ((cnt l (j + 1) : Nat) : Int)) = begC l c k (j + 1) by rw [hbc];exact decide_eq_decide.2 (by omega)]
    exact out
   ·
    rw [decide_eq_false (show ¬ 0 < cnt l (j + 1) by omega), Bool.false_and] at hbc
    rw [hbc] at out
    exact out
  apply hK;clear hK
  refine Vi (fun h => ?_) (fun h => Qac ?_)
  ·
   have : res = true := hbp.2 ⟨j + 1, by omega, hj2, h⟩
   subst this
   refine VS [6] ?_
   exact Qah (Qat rfl rfl ⟨hH2, rfl⟩)
  refine Qar ?_
  refine VS [0, 1, 2, 7] ?_
  refine Qad ?_
  refine Qs ?_
  refine ⟨21 - (j + 1), by omega, j + 1, rfl, hH2, by omega, by omega, fun m' h1 h2 => ?_, rfl⟩
  by_cases e : m' = j + 1
  ·
   rw [e];exact h
  ·
   exact hno m' h1 (by omega)
 ·
  have : res = false := by
   rw [Bool.eq_false_iff]
   intro h2
   obtain ⟨m', h3, h4, h5⟩ := hbp.1 h2
   have := hno m' h3 (by omega)
   rw [this] at h5;cases h5
  subst this
  refine Qak rfl ?_
  refine VS [6] ?_
  exact Qah (Qat rfl rfl ⟨hH2, rfl⟩)
theorem QEb (l : List Nat) (hok : okL l) (s : List UInt8) (gr gs at_ : Nat) (hat : at_ <= 8 * s.length) (hs : s.length <= 100000000000000) (g : Nat) (p : Addr) (lc : Nat) (ao : Option Addr) (co : Nat) (w0 w : World) (G : List Res) (hr : RS w0 (some p) l.length 1 (Qam l)) (hL : Heap w0 [] w (rd gr gs s at_ :: tabR g (.slice (some p) l.length lc) ao co l :: ordR ao co l :: G)) :
  Does Tryz.prog 150 #[.pointer (some ⟨g, 0, none⟩), .pointer (some ⟨gr, 0, none⟩)] w fun v w' => match Qhf l (Qap s) at_ with
   | .ok q => Heap w0 [] w' (rd gr gs s q.2 :: tabR g (.slice (some p) l.length lc) ao co l :: ordR ao co l :: G) /\ q.2 <= 8 * s.length /\ at_ < q.2 /\ v = .tuple #[.int .i64 q.1, .int .i64 0]
   | .error e => Heap w0 [] w' [] /\ e ≠ 0 /\ v = .tuple #[.int .i64 0, .int .i64 e] := by
 obtain ⟨hL1, hL20⟩ := Qnh hok
 have hfl := fun n hn => Qko hok (n := n) hn
 have hbp := fun c k => QEa (l := l) (c := c) (k := k) hL20
 have hbl := Qax s
 refine En [.pointer (some ⟨g, 0, none⟩), .pointer (some ⟨gr, 0, none⟩)] 74 Tryz.func150 ?_
 generalize hres : Qhf l (Qap s) at_ = res
 generalize hbits : Qap s = bits at *
 unfold Qhf at hres
 refine VS [0, 1] ?_
 refine VS [0, 1, 6] ?_
 refine VS [0, 1, 6, 7] ?_
 refine Qag ?_
 refine Qaj [0, 1, 6, 7] (fun m e w' => ∃ (j c : Nat), Is e [(0, .pointer (some ⟨g, 0, none⟩)), (1, .pointer (some ⟨gr, 0, none⟩)), (6, .int .i64 c), (7, .int .i64 (j + 1 : Nat))] /\ Heap w0 [] w' (rd gr gs s (at_ + j) :: tabR g (.slice (some p) l.length lc) ao co l :: ordR ao co l :: G) /\ at_ + j <= 8 * s.length /\ j + 1 <= maxL l /\ c < 2 ^ j /\ Qbi l j + cnt l j <= c /\ (match Qfs l (bits.drop (at_ + j)) j c with | .ok q => .ok (q.1, at_ + q.2) | .error e => .error e) = res /\ m = 21 - j) 21 ?_ ?_
 ·
  refine Qs ?_
  have hc0 : cnt l 0 = 0 := Qob fun x hx => (hok.2.2.1 x hx).1
  refine ⟨0, 0, rfl, hL, by omega, by omega, by simp, by rw [hc0];simp [Qbi], ?_, rfl⟩
  rw [<- hres, Nat.add_zero]
  cases Qfs l (bits.drop at_) 0 0 <;> rfl
 clear hL hres
 rintro m e w1 ⟨j, c, rfl, hH, hp, hj, hc, hfc, hres, rfl⟩
 refine VB ?_
 refine VQ [0, 1, 6, 7, 8, 9] fun K hK => ?_
 refine Qaa Tryz.call87 ?_;refine Qs ?_;refine CallK.mk (Qeh gr gs s (at_ + j) 1 w1 (by omega) hp (by omega) (hH.focus 0 rfl)) ?_
 rintro v w2 (⟨h1, rfl, rfl⟩ | ⟨h1, hH2, rfl⟩)
 ·
  rw [List.drop_of_length_le (by omega), Qfs] at hres
  subst hres
  apply hK;clear hK
  refine VS [0, 1, 6, 7, 8, 9, 19] ?_
  refine Qai rfl rfl (fun h => ?_) (fun h => by cases h)
  refine VS [4, 5] ?_
  exact Qah (Qa4 rfl rfl rfl ⟨hH.sub (by simp), by decide, rfl⟩)
 have hH3 := hH.call1 0 rfl hH2
 simp only [List.set_cons_zero, List.nil_append] at hH3
 clear hH hH2
 have hdp : bits.drop (at_ + j) = bits.getD (at_ + j) false :: bits.drop (at_ + j + 1) := drop_getD false (by omega)
 have hnum : numB ((bits.drop (at_ + j)).take 1) = (bits.getD (at_ + j) false).toNat := by rw [hdp];cases bits.getD (at_ + j) false <;> rfl
 rw [hbits, hnum]
 rw [hdp, Qfs] at hres
 generalize bits.getD (at_ + j) false = b at *
 have hb1 : b.toNat <= 1 := by cases b <;> simp
 apply hK;clear hK
 refine VS [0, 1, 6, 7, 8, 9, 19] ?_
 refine Qai rfl rfl (fun h => by cases h) (fun h => Qac ?_)
 clear h
 have hj20 : j + 1 <= 20 := by omega
 have hpj : 2 ^ j <= 2 ^ 19 := Nat.pow_le_pow_right (by omega) (by omega)
 have hpj2 : 2 ^ j <= 524288 := hpj
 have hps : 2 ^ (j + 1) = 2 * 2 ^ j := by rw [Nat.pow_succ, Nat.mul_comm]
 have hor : (c * 2) ||| b.toNat = 2 * c + b.toNat := by
  have h3 : (2 ^ 1 * c) ||| b.toNat = 2 ^ 1 * c + b.toNat := (Nat.two_pow_add_eq_or_of_lt (i := 1) (by omega) c).symm
  rw [Nat.mul_comm c 2];exact h3
 have hfs : Qbi l (j + 1) = 2 * (Qbi l j + cnt l j) := rfl
 have hffl := hfl (j + 1) hj20
 refine VQ [0, 1, 6, 7] fun K hK => ?_
 rw [show shN IntKind.i64 1 = 1 from rfl, show ((c : Int) * 2 ^ 1) = ((c * 2 : Nat) : Int) by push_cast;rfl]
 (repeat first | refine Qo ?_ | refine Qp ?_)
 rw [Int.toNat_natCast, hor]
 generalize hc2 : 2 * c + b.toNat = c2 at *
 apply hK;clear hK
 obtain ⟨c1, c2', c3⟩ := QD9 (hH3.at 1 rfl) hj hL20
 have csv := Quz (hH3.at 1 rfl)
 refine VQ [0, 1, 6, 7, 10] fun K hK => ?_
 refine ⟨⟨by omega, by omega⟩, _, c1, ?_⟩
 refine Qs ?_
 refine ⟨I64.mk (by omega) (by omega), ?_⟩
 apply hK;clear hK
 refine VQ [0, 1, 6, 7, 10, 54] fun K hK => ?_
 suffices out : ∀ bb : Bool, (bb = true ↔ (Qbi l (j + 1) <= c2 /\ c2 < Qbi l (j + 1) + cnt l (j + 1))) -> K [(0, .pointer (some ⟨g, 0, none⟩)), (1, .pointer (some ⟨gr, 0, none⟩)), (6, .int .i64 c2), (7, .int .i64 (j + 1 : Nat)), (10, .int .i64 (((c2 : Nat) : Int) - (Qbi l (j + 1) : Nat))), (54, .bool bb)] w2 by
  refine ⟨⟨by omega, by omega⟩, _, c3, ?_⟩
  refine Qs ?_
  refine ⟨fun h1 => ⟨fun h2 => ⟨⟨by omega, by omega⟩, _, c3, ?_⟩, fun h2 => out false (by simp;omega)⟩, fun h1 => out false (by simp;omega)⟩
  refine Qs ?_
  exact out _ (by simp;omega)
 intro bb hbb
 apply hK;clear hK
 refine Vi (fun h => ?_) (fun h => Qac ?_)
 ·
  have hb2 := hbb.1 h
  rw [if_pos hb2] at hres
  subst hres
  obtain ⟨s1, s2⟩ := QHk l (n := j + 1) (L := maxL l) (j := c2 - Qbi l (j + 1)) (by omega) hj (by omega)
  obtain ⟨go, rfl⟩ := Qdz (hH3.at 2 rfl) (by omega)
  have hcell := Qba (hH3.at 2 rfl) (Qb5 s1)
  rw [s2] at hcell
  have hbl2 : begS l (j + 1) <= 5160 := by
   have h5 := Qng l (j + 1 - 1)
   have h6 := Nat.mul_le_mul (show j + 1 - 1 <= 20 by omega) hok.2.1
   unfold begS
   omega
  refine Vq [4, 5] fun K hK => ?_
  refine ⟨_, csv.2.1, ?_⟩
  refine ⟨⟨by omega, by omega⟩, _, c2', ?_⟩
  refine Qs ?_
  refine ⟨I64.mk (by omega) (by omega), ⟨by omega, by omega⟩, ?_⟩
  rw [show (((begS l (j + 1) : Nat) : Int) + (((c2 : Nat) : Int) - (Qbi l (j + 1) : Nat))).toNat = begS l (j + 1) + (c2 - Qbi l (j + 1)) by omega]
  refine ⟨_, hcell, ?_⟩
  apply hK;clear hK
  exact Qah (Qa4 rfl rfl rfl ⟨by rw [<- Nat.add_assoc];exact hH3, by simp only;omega, by simp only;omega, rfl⟩)
 have hnb : ¬ (Qbi l (j + 1) <= c2 /\ c2 < Qbi l (j + 1) + cnt l (j + 1)) := fun h2 => by have := hbb.2 h2;simp_all
 rw [if_neg hnb] at hres
 clear hbb h
 refine VQ [0, 1, 6, 7, 73] fun K hK => ?_
 refine Qaa Tryz.call175 ?_;refine Qs ?_;refine CallK.mk (Qxr l hok c2 (j + 1) (by omega) hj20 g p lc ao co 1 w0 w2 _ hr hH3 rfl) ?_
 rintro v w3 ⟨hH4, rfl⟩
 refine Qs ?_
 apply hK;clear hK
 refine Vi (fun h => ?_) (fun h => Qac ?_)
 ·
  have h2 : begP l c2 (j + 1) = false := by simpa using h
  rw [h2, if_neg (by simp)] at hres
  subst hres
  refine VS [4, 5] ?_
  exact Qah (Qa4 rfl rfl rfl ⟨hH4.sub (by simp), by decide, rfl⟩)
 have h2 : begP l c2 (j + 1) = true := by simpa using h
 rw [if_pos h2] at hres
 obtain ⟨m', h3, h4, h5⟩ := (hbp c2 (j + 1)).1 h2
 refine Qar ?_
 refine VS [0, 1, 6, 7] ?_
 refine Qad ?_
 refine Qs ?_
 exact ⟨21 - (j + 1), by omega, j + 1, c2, rfl, by rw [<- Nat.add_assoc];exact hH4, by omega, by omega, by omega, by omega, by rw [<- hres, <- Nat.add_assoc], rfl⟩
theorem QHo (l : List Nat) (hok : okL l) (s : List UInt8) (at_ n fin : Nat) (hat : at_ <= 8 * s.length) (hs : s.length <= 100000000000000) (hn : n <= 100000) (hfin : fin <= 100000) (a : Option Addr) (lc : Nat) (w : World) (hr : RS w a l.length 1 (Qam l)) :
  Does Tryz.prog 104 #[.slice a l.length lc, Str s, .int .i64 at_, .int .i64 n, .int .i64 fin] w (QD8 (Qd9 l (Qap s) fin n at_) w) := by
 have hl2 := hok.1
 obtain ⟨p, rfl⟩ := Qcy hr (by omega)
 refine En [.slice (some p) l.length lc, Str s, .int .i64 at_, .int .i64 n, .int .i64 fin] 59 Tryz.func104 ?_
 generalize hres : Qd9 l (Qap s) fin n at_ = res
 refine VS [0, 1, 2, 3, 4] ?_
 refine VQ [1, 2, 3, 4, 13, 14] fun K hK => ?_
 refine Qaa Tryz.call135 ?_;refine Qs ?_;refine CallK.mk (Qux l hok (some p) lc w hr) ?_
 rintro v w2 ⟨g, ao, co, hH, rfl⟩
 apply hK;clear hK
 refine VS [1, 2, 3, 4, 13, 14, 25] ?_
 refine Qai rfl rfl (fun h => by simp at h) (fun h => Qac ?_)
 clear h
 refine VQ [3, 4, 13, 15] fun K hK => ?_
 refine Qaa Tryz.call86 ?_;refine Qs ?_;refine CallK.mk (Qc8 s at_ w2 (I64.mk (by omega) (by omega)) (by omega)) ?_
 rintro v w3 (⟨hbad, _⟩ | ⟨_, gr, gs, hHr, rfl⟩)
 ·
  omega
 rw [Int.toNat_natCast] at hHr
 have hH2 := hH.call0 hHr
 simp only [List.singleton_append] at hH2
 clear hH hHr
 apply hK;clear hK
 refine VQ [3, 4, 13, 15, 35] fun K hK => ?_
 suffices out : ∀ b : Bool, (b = true ↔ False) -> K [(3, .int .i64 n), (4, .int .i64 fin), (13, .pointer (some ⟨g, 0, none⟩)), (15, .pointer (some ⟨gr, 0, none⟩)), (35, .bool b)] w3 by (repeat' (first | exact out _ _ (by first | omega | (simp;done) | (simp;omega)) | exact out _ (by first | omega | (simp;done) | (simp;omega)) | refine ⟨fun _ => ?_, fun _ => ?_⟩ | refine Qo ?_))
 intro b hb
 apply hK;clear hK
 refine Qai rfl rfl (fun h => (hb.1 h).elim) (fun h => Qac ?_)
 clear hb h
 refine VS [3, 4, 13, 15, 16] ?_
 (repeat refine Qaw ?_)
 refine Qdb [15, 16] (fun e w' => ∃ (q : List Nat) (to cap : Nat) (a' : Option Addr), Is e [(15, .pointer (some ⟨gr, 0, none⟩)), (16, .slice a' q.length cap)] /\ Heap w [] w' [rd gr gs s to, Res.row 3 1 a' q.length cap (Qam q)] /\ to <= 8 * s.length /\ res = .ok (q, to)) ?_ ?_
 ·
  refine Qag ?_
  refine Qaj [3, 4, 13, 15, 16] (fun m e w' => ∃ (q : List Nat) (to cap : Nat) (a' : Option Addr), Is e [(3, .int .i64 n), (4, .int .i64 fin), (13, .pointer (some ⟨g, 0, none⟩)), (15, .pointer (some ⟨gr, 0, none⟩)), (16, .slice a' q.length cap)] /\ Heap w [] w' [rd gr gs s to, tabR g (.slice (some p) l.length lc) ao co l, ordR ao co l, Res.row 3 1 a' q.length cap (Qam q)] /\ to <= 8 * s.length /\ q.length <= n /\ (match Qd9 l (Qap s) fin (n - q.length) to with | .error e => .error e | .ok x => .ok (q ++ x.1, x.2)) = res /\ m = n - q.length) n ?_ ?_
  ·
   refine Qs ?_
   have hH3 := (hH2.nilRow 3 1).perm (G' := [rd gr gs s at_, tabR g (.slice (some p) l.length lc) ao co l, ordR ao co l, Res.row 3 1 none 0 0 []]) (by exact (List.perm_append_comm (l₁ := [Res.row 3 1 none 0 0 []])))
   refine ⟨[], at_, 0, none, rfl, hH3, hat, by simp, ?_, rfl⟩
   rw [<- hres, List.length_nil, Nat.sub_zero]
   cases Qd9 l (Qap s) fin n at_ <;> rfl
  clear hH2 hres
  rintro m e w4 ⟨q, to, cap, a', rfl, hH, hto, hq, hres, rfl⟩
  refine VS [3, 4, 13, 15, 16, 39] ?_
  refine VD (fun h => ?_) (fun h => ?_)
  ·
   rw [show n - q.length = (n - (q.length + 1)) + 1 by omega, Qd9] at hres
   refine Qac ?_
   refine Qag ?_
   refine VQ [3, 4, 13, 15, 16, 17, 18] fun K hK => ?_
   refine Qaa Tryz.call150 ?_;refine Qs ?_;refine CallK.mk (QEb l hok s gr gs to hto hs g p lc ao co w w4 _ hr hH) ?_
   intro v w5 hnx
   generalize Qhf l (Qap s) to = r at *
   cases r with
   | error e =>
    obtain ⟨hH3, hne, rfl⟩ := hnx
    subst hres
    apply hK;clear hK
    refine VS [3, 4, 13, 15, 16, 17, 18, 47] ?_
    refine Vi (fun h => ?_) (fun h => ?_)
    ·
     refine VS [10, 11, 12] ?_
     exact Qah (Qcj rfl rfl rfl rfl ⟨hH3, rfl⟩)
    ·
     simp at h;exact absurd h hne
   | ok x =>
    obtain ⟨hH3, hx1, hx2, rfl⟩ := hnx
    simp only at hres
    apply hK;clear hK
    refine VS [3, 4, 13, 15, 16, 17, 18, 47] ?_
    refine Qai rfl rfl (fun h => by cases h) (fun h => Qac ?_)
    clear h
    refine VQ [3, 4, 13, 15, 16, 17] fun K hK => ?_
    refine Qde (xs := [.tmp 50]) Tryz.underlying36 sz3 rfl rfl rfl (by omega) ?_;refine Qs ?_;refine ⟨by simp [Value.cells], ?_⟩
    refine Qau ?_;refine Qs ?_;refine Qsd hH3 3 (x.1) rfl Tryz.underlying36 zi3 (by first | rfl | (simp;done) | omega | (simp;omega)) (fun h => by (first | omega | (simp;done) | (simp;omega))) fun a' cap' w5 hc' hH4 => ?_;(try refine Qs ?_)
    simp only [List.set_cons_succ, List.set_cons_zero] at hH4
    apply hK;clear hK
    refine VS [3, 4, 13, 15, 16, 55] ?_
    refine VD (fun h => ?_) (fun h => Qac ?_)
    ·
     rw [if_pos (by omega)] at hres
     refine Qak rfl ?_
     refine Qad ?_
     refine Qs ?_
     exact ⟨q ++ [x.1], x.2, cap', a', rfl, hH4.sub (.cons_cons _ (.cons _ (.cons _ (.refl _)))), hx1, hres.symm⟩
    rw [if_neg (by omega)] at hres
    refine Qar ?_
    refine Qad ?_
    refine Qs ?_
    refine ⟨n - (q ++ [x.1]).length, by simp;omega, q ++ [x.1], x.2, cap', a', rfl, hH4, hx1, by simp;omega, ?_, rfl⟩
    rw [<- hres, show n - (q ++ [x.1]).length = n - (q.length + 1) by simp]
    cases Qd9 l (Qap s) fin (n - (q.length + 1)) x.2 with
    | error e => rfl
    | ok y => simp
  ·
   rw [show n - q.length = 0 by omega, Qd9] at hres
   simp only [List.append_nil] at hres
   refine Qak rfl ?_
   refine Qad ?_
   refine Qs ?_
   exact ⟨q, to, cap, a', rfl, hH.sub (.cons_cons _ (.cons _ (.cons _ (.refl _)))), hto, hres.symm⟩
 rintro e w' ⟨q, to, cap, a', rfl, hH, hto, rfl⟩
 refine VQ [10, 11, 12] fun K hK => ?_
 refine Qaa Tryz.call100 ?_;refine Qs ?_;refine CallK.mk (Qn4 gr gs to s w' (hH.at 0 rfl)) ?_
 rintro v w7 ⟨rfl, rfl⟩
 apply hK;clear hK
 exact Qah (Qcj rfl rfl rfl rfl ⟨a', cap, hH.sub (by simp), rfl⟩)
abbrev Tr := Int × Nat
def Qbd (t : Tr) : List Value := [.int .i64 t.1, .int .i64 t.2]
theorem Qff (t : Tr) : (Qbd t).length = 2 := rfl
theorem Qdm (t : Tr) : ∀ v ∈ Qbd t, v.oneCell' = true := by
 intro v hv
 simp [Qbd] at hv
 rcases hv with rfl | rfl <;> rfl
def Qe4 (l : List Tr) : List Value := Qdo Qbd l
def cmpT (a b : Tr) : Int := if a.1 = b.1 then (a.2 : Int) - b.2 else a.1 - b.1
theorem Qxs (a b : Tr) (xo yo : Operand) (w : World) (KV : Value -> Prop) : Qbr Tryz.prog .eql 200 xo yo (.agg (Qbd a).toArray) (.agg (Qbd b).toArray) w KV = KV (.bool (decide (a = b))) := by
 refine Qnw fun w' => ?_
 have hS : Tryz.prog.underlying 200 = some (.struct (Tryz.prog.fieldsOf 200)) := by kernel_rfl
 have hp : Tryz.prog.stoodInHeld 200 = false := by kernel_rfl
 have hg : Tryz.prog.eqGuardType Tryz.prog.depth 200 = false := by kernel_rfl
 simp only [Sem.run_bind]
 rw [run_eqGuard_agg _ _ _ _ _ _ _ hg]
 simp only [Result.andThen_ok]
 rw [run_eql_struct, show (10000 : Nat) = 9999 + 1 from rfl, run_equalIn_agg w' 9999 200 _ _ hS hp]
 simp only [Program.fieldsOf, Tryz.underlying200]
 have u3 := Tryz.underlying3
 have a3 := Tryz.isAgg3
 have z3 := Tryz.sizeOf3
 simp only [Qbd]
 go_simp
 obtain ⟨a1, a2⟩ := a
 obtain ⟨b1, b2⟩ := b
 simp only [Prod.mk.injEq]
 by_cases h1 : a1 = b1
 ·
  by_cases h2 : a2 = b2
  ·
   subst h1 h2;simp
  ·
   have h3 : ¬ ((a2 : Int) = b2) := by omega
   simp [h1, h2, h3]
 ·
  simp [h1]
theorem Ql0 (a b : Tr) : a = b ↔ a.1 = b.1 /\ a.2 = b.2 := by
 obtain ⟨a1, a2⟩ := a
 obtain ⟨b1, b2⟩ := b
 simp
def TrOk (t : Tr) : Prop := -1099511627776 <= t.1 /\ t.1 <= 1099511627776 /\ t.2 <= 1000000
theorem Qps (a b : Tr) (ha : TrOk a) (hb : TrOk b) (w : World) : Does Tryz.prog 165 #[.agg (Qbd a).toArray, .agg (Qbd b).toArray] w fun v w' => Heap w [] w' [] /\ v = .int .i64 (cmpT a b) := by
 obtain ⟨ha1, ha2, ha3⟩ := ha
 obtain ⟨hb1, hb2, hb3⟩ := hb
 refine En [.agg (Qbd a).toArray, .agg (Qbd b).toArray] 23 Tryz.func165 ?_
 refine VQ [2, 3] fun K hK => ?_
 refine Qcg ?_
 refine Qs ?_
 have hH := (Heap.start w).box 200 (Qbd a)
 have e1 : w.alloc (Obj.cells (Qbd a).toArray 200) = w.alloc (Obj.cells (Qbd a).toArray 200) := rfl
 generalize w.alloc (Obj.cells (Qbd a).toArray 200) = w1 at *
 generalize w.heap.size = ga at *
 refine Qcg ?_
 refine Qs ?_
 have hH2 := hH.box 200 (Qbd b)
 generalize w1.alloc (Obj.cells (Qbd b).toArray 200) = w2 at *
 generalize w1.heap.size = gb at *
 clear hH e1
 apply hK;clear hK
 refine VQ [2, 3, 7] fun K hK => ?_
 refine ⟨Qbd a, ⟨rfl, Qa1 (hH2.at 1 rfl)⟩, ?_⟩
 refine ⟨Qbd b, ⟨rfl, Qa1 (hH2.at 0 rfl)⟩, ?_⟩
 rw [Qxs]
 apply hK;clear hK
 refine Vi (fun h => ?_) (fun h => Qac ?_)
 ·
  simp only [decide_eq_true_eq] at h
  subst h
  refine VS [4] ?_
  exact Qah (Qat rfl rfl ⟨hH2.sub (by simp), by simp [cmpT]⟩)
 clear h
 have c1 : w2.cell? ⟨ga, 0, none⟩ = some (.int .i64 a.1) := Qaf (hH2.at 1 rfl) rfl
 have c2 : w2.cell? ⟨ga, 1, none⟩ = some (.int .i64 a.2) := Qaf (hH2.at 1 rfl) rfl
 have c3 : w2.cell? ⟨gb, 0, none⟩ = some (.int .i64 b.1) := Qaf (hH2.at 0 rfl) rfl
 have c4 : w2.cell? ⟨gb, 1, none⟩ = some (.int .i64 b.2) := Qaf (hH2.at 0 rfl) rfl
 refine VQ [2, 3, 12] fun K hK => ?_
 refine ⟨_, c1, _, c3, ?_⟩
 refine Qs ?_
 apply hK;clear hK
 refine Vi (fun h => ?_) (fun h => Qac ?_)
 ·
  simp only [decide_eq_true_eq] at h
  refine VQ [4] fun K hK => ?_
  refine ⟨_, c1, _, c3, ?_⟩
  refine Qs ?_
  refine ⟨I64.mk (by omega) (by omega), ?_⟩
  apply hK;clear hK
  exact Qah (Qat rfl rfl ⟨hH2.sub (by simp), by rw [cmpT, if_neg h]⟩)
 simp only [decide_eq_false_iff_not, Decidable.not_not] at h
 refine VQ [4] fun K hK => ?_
 refine ⟨_, c2, _, c4, ?_⟩
 refine Qs ?_
 refine ⟨I64.mk (by omega) (by omega), ?_⟩
 apply hK;clear hK
 exact Qah (Qat rfl rfl ⟨hH2.sub (by simp), by rw [cmpT, if_pos h]⟩)
theorem Qje (l : List Tr) : (Qe4 l).length = l.length * 2 := Qtl Qff l
def minT : Tr -> List Tr -> Tr
 | m, [] => m
 | m, t :: l => minT (if cmpT t m < 0 then t else m) l
theorem Qu1 : ∀ (l : List Tr) (m t : Tr), minT m (l ++ [t]) = if cmpT t (minT m l) < 0 then t else minT m l
 | [], m, t => rfl
 | x :: l, m, t => by rw [List.cons_append, minT, Qu1 l _ t, minT]
theorem Qsg : ∀ (l : List Tr) (m : Tr), minT m l = m ∨ minT m l ∈ l
 | [], m => .inl rfl
 | x :: l, m => by
  rw [minT]
  rcases Qsg l (if cmpT x m < 0 then x else m) with h | h
  ·
   rw [h];split
   ·
    simp
   ·
    simp
  ·
   simp [h]
theorem Qqz {a b c : Tr} (h1 : ¬ cmpT b a < 0) (h2 : ¬ cmpT c b < 0) : ¬ cmpT c a < 0 := by
 unfold cmpT at *
 (repeat' split at *) <;> omega
theorem QEc : ∀ (l : List Tr) (m : Tr), ¬ cmpT m (minT m l) < 0 /\ ∀ t ∈ l, ¬ cmpT t (minT m l) < 0
 | [], m => ⟨by simp [minT, cmpT], by simp⟩
 | x :: l, m => by
  rw [minT]
  obtain ⟨h1, h2⟩ := QEc l (if cmpT x m < 0 then x else m)
  by_cases hx : cmpT x m < 0
  ·
   rw [if_pos hx] at h1 h2 ⊢
   refine ⟨Qqz h1 (by unfold cmpT at hx ⊢;(repeat' split at *) <;> omega), fun t ht => ?_⟩
   rcases List.mem_cons.1 ht with rfl | ht
   ·
    exact h1
   ·
    exact h2 t ht
  ·
   rw [if_neg hx] at h1 h2 ⊢
   refine ⟨h1, fun t ht => ?_⟩
   rcases List.mem_cons.1 ht with rfl | ht
   ·
    exact Qqz h1 hx
   ·
    exact h2 t ht
abbrev Qu2 : Value := .func (.func 165) #[] #[]
def trow (g cap : Nat) (l : List Tr) : Res := Res.row 200 2 (some ⟨g, 0, none⟩) l.length cap (Qe4 l)
theorem Qu3 (t0 : Tr) (l : List Tr) (hl : l.length <= 1000000) (hok : ∀ t ∈ t0 :: l, TrOk t) (g cap : Nat) (w : World) (hL : (trow g cap (t0 :: l)).holds w) :
  Does Tryz.prog 189 #[.slice (some ⟨g, 0, none⟩) (t0 :: l).length cap, Qu2] w fun v w' => Heap w [] w' [] /\ v = .agg (Qbd (minT t0 l)).toArray := by
 have hrs : RS w (some ⟨g, 0, none⟩) (t0 :: l).length 2 (Qe4 (t0 :: l)) := Qa8 hL
 have hget : ∀ (w' : World) (i : Nat) (x : Tr), RS w' (some ⟨g, 0, none⟩) (t0 :: l).length 2 (Qe4 (t0 :: l)) -> (t0 :: l)[i]? = some x -> Reads w' ⟨g, i * 2, none⟩ (Qbd x) := fun w' i x h hi => by
  have := Qhp Qff h rfl hi
  rwa [Qbp, Nat.zero_add] at this
 refine En [.slice (some ⟨g, 0, none⟩) (t0 :: l).length cap, Qu2] 33 Tryz.func189 ?_
 generalize hn : (t0 :: l).length = n at *
 have hn1 : l.length + 1 = n := by rw [<- hn];simp
 refine VQ [0, 1, 4] fun K hK => ?_
 refine Qal (.agg #[.int .i64 0, .int .i64 0]) (by kernel_rfl) ?_
 refine Qs ?_
 have hH := (Heap.start w).box 200 [.int .i64 0, .int .i64 0]
 generalize w.alloc (Obj.cells [Value.int .i64 0, .int .i64 0].toArray 200) = w1 at *
 generalize w.heap.size = gr at *
 apply hK;clear hK
 refine VS [0, 1, 4, 9] ?_
 refine Qdb [0, 1, 4] (fun e w' => Is e [(0, .slice (some ⟨g, 0, none⟩) n cap), (1, Qu2), (4, .pointer (some ⟨gr, 0, none⟩))] /\ Is w' w1) ?_ ?_
 ·
  refine Qai rfl rfl (fun h => by simp at h;omega) (fun h => Qac ?_)
  refine Qad ?_
  refine Qs ?_
  exact ⟨rfl, rfl⟩
 rintro e w' ⟨rfl, rfl⟩
 have h0 := hget w' 0 t0 (hH.rs' hrs) rfl
 refine VQ [0, 1, 4, 5] fun K hK => ?_
 refine ⟨by omega, Qbd t0, ⟨rfl, h0⟩, ?_⟩
 refine Qal (.agg #[.int .i64 0, .int .i64 0]) (by kernel_rfl) ?_
 refine Qs ?_
 have hH1 := hH.box 200 [.int .i64 0, .int .i64 0]
 generalize w'.alloc (Obj.cells [Value.int .i64 0, .int .i64 0].toArray 200) = w2 at *
 generalize w'.heap.size = gm at *
 refine Qab ?_
 refine Qs ?_
 refine Qae hH1 0 (vs := Qbd t0) rfl rfl (by kernel_rfl) (by simp [Qbd]) (Qdm _) fun w3 hH2 => ?_
 have hH2 : Heap w [] w3 [Res.blk gm 200 (Qbd t0), Res.blk gr 200 [.int .i64 0, .int .i64 0]] := hH2
 clear hH hH1 h0
 apply hK;clear hK
 refine VS [0, 1, 4, 5, 6] ?_
 refine Qag ?_
 refine Qaj [0, 1, 4, 5, 6] (fun m e w' => ∃ (i : Nat), Is e [(0, .slice (some ⟨g, 0, none⟩) n cap), (1, Qu2), (4, .pointer (some ⟨gr, 0, none⟩)), (5, .pointer (some ⟨gm, 0, none⟩)), (6, .int .i64 (i + 1 : Nat))] /\ Heap w [] w' [Res.blk gm 200 (Qbd (minT t0 (l.take i))), Res.blk gr 200 [.int .i64 0, .int .i64 0]] /\ i + 1 <= n /\ m = n - i) n ?_ ?_
 ·
  refine Qs ?_
  exact ⟨0, rfl, hH2, by omega, rfl⟩
 clear hH2
 rintro m e w4 ⟨i, rfl, hH, hi, rfl⟩
 refine VS [0, 1, 4, 5, 6, 17] ?_
 refine VD (fun h => ?_) (fun h => ?_)
 ·
  have hil : i < l.length := by omega
  have hgi : (t0 :: l)[i + 1]? = some l[i] := by simp [List.getElem?_eq_getElem hil]
  have hrd := hget w4 (i + 1) l[i] (hH.rs' hrs) hgi
  have htk : l.take (i + 1) = l.take i ++ [l[i]] := by rw [List.take_add_one, List.getElem?_eq_getElem hil];rfl
  have hmn := Qu1 (l.take i) t0 l[i]
  rw [<- htk] at hmn
  have hokx : TrOk l[i] := hok _ (by simp)
  have hokm : TrOk (minT t0 (l.take i)) := hok _ (by
   rcases Qsg (l.take i) t0 with h | h
   ·
    rw [h];simp
   ·
    exact List.mem_cons_of_mem _ (List.mem_of_mem_take h))
  generalize l[i] = x at *
  generalize minT t0 (l.take i) = mt at *
  refine Qac ?_
  refine VB ?_
  refine VL [0, 1, 4, 5, 6, 27] 6 fun K hK => ?_
  refine ⟨⟨by omega, by omega⟩, Qbd x, ⟨rfl, hrd⟩, ?_⟩
  refine ⟨Qbd mt, ⟨rfl, Qa1 (hH.at 0 rfl)⟩, ?_⟩
  refine Qbg ?_;refine Qs ?_;refine FnK.mk Tryz.call165 (Qps x mt hokx hokm w4) ?_
  rintro v w5 ⟨hHc, rfl⟩
  have hH2 := hH.call0 hHc
  simp only [List.nil_append] at hH2
  refine Qs ?_
  apply hK;clear hK
  have hrd5 := hget w5 (i + 1) x (hH2.rs' hrs) hgi
  clear hH hHc
  refine VD (fun h => ?_) (fun h => ?_)
  ·
   rw [if_pos h] at hmn
   refine VQ [0, 1, 4, 5, 6] fun K hK => ?_
   refine ⟨⟨by omega, by omega⟩, Qbd x, ⟨rfl, hrd5⟩, ?_⟩
   refine Qab ?_
   refine Qs ?_
   refine Qae hH2 0 (vs := Qbd x) rfl rfl (by kernel_rfl) (by simp [Qbd]) (Qdm _) fun w6 hH3 => ?_
   have hH3 : Heap w [] w6 [Res.blk gm 200 (Qbd x), Res.blk gr 200 [.int .i64 0, .int .i64 0]] := hH3
   apply hK;clear hK
   refine Qar ?_
   refine VS [0, 1, 4, 5, 6] ?_
   refine Qad ?_
   refine Qs ?_
   exact ⟨n - (i + 1), by omega, i + 1, rfl, by rw [hmn];exact hH3, by omega, rfl⟩
  ·
   rw [if_neg h] at hmn
   refine Qac ?_
   refine Qar ?_
   refine VS [0, 1, 4, 5, 6] ?_
   refine Qad ?_
   refine Qs ?_
   exact ⟨n - (i + 1), by omega, i + 1, rfl, by rw [hmn];exact hH2, by omega, rfl⟩
 ·
  refine Qak rfl ?_
  rw [List.take_of_length_le (by omega)] at hH
  refine VQ [4] fun K hK => ?_
  refine ⟨Qbd (minT t0 l), ⟨rfl, Qa1 (hH.at 0 rfl)⟩, ?_⟩
  refine Qab ?_
  refine Qs ?_
  refine Qae hH 1 (vs := Qbd (minT t0 l)) rfl rfl (by kernel_rfl) (by simp [Qbd]) (Qdm _) fun w6 hH3 => ?_
  have hH3 : Heap w [] w6 [Res.blk gm 200 (Qbd (minT t0 l)), Res.blk gr 200 (Qbd (minT t0 l))] := hH3
  apply hK;clear hK
  refine Qah (Qrh rfl rfl (Qbu (hH3.at 1 rfl) (by kernel_rfl) (by kernel_rfl) rfl ?_))
  exact ⟨hH3.sub (by simp), rfl⟩
theorem Qxt (x : Tr) (l : List Tr) (hl : l.length <= 1000000) (hx : x ∈ l) (g cap : Nat) (w : World) (hL : (trow g cap l).holds w) :
  Does Tryz.prog 190 #[.slice (some ⟨g, 0, none⟩) l.length cap, .agg (Qbd x).toArray] w fun v w' => Heap w [] w' [] /\ ∃ i : Nat, l[i]? = some x /\ v = .int .i64 i := by
 have hrs : RS w (some ⟨g, 0, none⟩) l.length 2 (Qe4 l) := Qa8 hL
 have hget : ∀ (w' : World) (i : Nat) (y : Tr), RS w' (some ⟨g, 0, none⟩) l.length 2 (Qe4 l) -> l[i]? = some y -> Reads w' ⟨g, i * 2, none⟩ (Qbd y) := fun w' i y h hi => by
  have := Qhp Qff h rfl hi
  rwa [Qbp, Nat.zero_add] at this
 refine En [.slice (some ⟨g, 0, none⟩) l.length cap, .agg (Qbd x).toArray] 19 Tryz.func190 ?_
 generalize hn : l.length = n at *
 refine VQ [0, 3] fun K hK => ?_
 refine Qcg ?_
 refine Qs ?_
 have hH := (Heap.start w).box 200 (Qbd x)
 generalize w.alloc (Obj.cells (Qbd x).toArray 200) = w1 at *
 generalize w.heap.size = gx at *
 apply hK;clear hK
 refine VS [0, 3, 7, 8] ?_
 refine Qag ?_
 refine Qaj [0, 3, 7, 8] (fun m e w' => ∃ (i : Nat), Is e [(0, .slice (some ⟨g, 0, none⟩) n cap), (3, .pointer (some ⟨gx, 0, none⟩)), (7, .int .i64 n), (8, .int .i64 i)] /\ Is w' w1 /\ i <= n /\ x ∉ l.take i /\ m = n - i) n ?_ ?_
 ·
  refine Qs ?_
  exact ⟨0, rfl, rfl, by omega, by simp, rfl⟩
 rintro m e w' ⟨i, rfl, rfl, hi, hnot, rfl⟩
 refine VS [0, 3, 7, 8, 9] ?_
 (repeat refine Qaw ?_)
 refine VD (fun h => ?_) (fun h => ?_)
 ·
  have hil : i < l.length := by omega
  have hgi : l[i]? = some l[i] := List.getElem?_eq_getElem hil
  have hrd := hget w' i l[i] (hH.rs' hrs) hgi
  have htk : l.take (i + 1) = l.take i ++ [l[i]] := by rw [List.take_add_one, hgi];rfl
  generalize l[i] = y at *
  refine Qac ?_
  refine VB ?_
  refine VS [0, 3, 5, 7, 8] ?_
  refine Vq [0, 3, 5, 7, 8, 16] fun K hK => ?_
  refine ⟨Qbd x, ⟨rfl, Qa1 (hH.at 0 rfl)⟩, ?_⟩
  refine ⟨⟨by omega, by omega⟩, Qbd y, ⟨rfl, hrd⟩, ?_⟩
  rw [Qxs]
  apply hK;clear hK
  refine VD (fun h => ?_) (fun h => Qac ?_)
  ·
   subst h
   refine VS [4] ?_
   exact Qah (Qat rfl rfl ⟨hH.sub (by simp), i, hgi, rfl⟩)
  refine Qar ?_
  refine VS [0, 3, 7, 8] ?_
  refine Qad ?_
  refine Qs ?_
  refine ⟨n - (i + 1), by omega, i + 1, rfl, rfl, by omega, ?_, rfl⟩
  rw [htk, List.mem_append]
  rintro (h2 | h2)
  ·
   exact hnot h2
  ·
   simp at h2;exact h h2
 ·
  rw [List.take_of_length_le (by omega)] at hnot
  exact absurd hx hnot
def Qe5 (ws ov : List Nat) : List Tr := ((List.range ws.length).filter fun i => ov.getD i 0 == 0).map fun i => ((ws.getD i 0 : Nat), i)
theorem Qot {ws ov : List Nat} {t : Tr} : t ∈ Qe5 ws ov ↔ t.2 < ws.length /\ ov.getD t.2 0 = 0 /\ t.1 = (ws.getD t.2 0 : Nat) := by
 unfold Qe5
 rw [List.mem_map]
 constructor
 ·
  rintro ⟨i, hi, rfl⟩
  rw [List.mem_filter, List.mem_range, beq_iff_eq] at hi
  exact ⟨hi.1, hi.2, rfl⟩
 ·
  rintro ⟨h1, h2, h3⟩
  refine ⟨t.2, ?_, ?_⟩
  ·
   rw [List.mem_filter, List.mem_range, beq_iff_eq];exact ⟨h1, h2⟩
  ·
   rw [Ql0];exact ⟨h3.symm, rfl⟩
theorem Qou {ws ov : List Nat} {t : Tr} (ht : t ∈ Qe5 ws ov) (hm : ∀ x ∈ Qe5 ws ov, ¬ cmpT x t < 0) : IsLeast ws ov t.2 /\ t.1 = (ws.getD t.2 0 : Nat) := by
 obtain ⟨h1, h2, h3⟩ := Qot.1 ht
 refine ⟨⟨h1, h2, fun i hi hf => ?_⟩, h3⟩
 have := hm (((ws.getD i 0 : Nat) : Int), i) (Qot.2 ⟨hi, hf, rfl⟩)
 unfold cmpT at this
 simp only at this
 split at this <;> omega
theorem Qu4 {p q : Nat -> Bool} {a n : Nat} (ha : a < n) (hpa : p a = true) (hqa : q a = false) (h : ∀ i, i ≠ a -> q i = p i) : ((List.range n).filter p).Perm (a :: (List.range n).filter q) := by
 induction n with
 | zero => omega
 | succ n ih =>
  rw [List.range_succ, List.filter_append, List.filter_append]
  by_cases e : a = n
  ·
   subst e
   have e1 : (List.range a).filter p = (List.range a).filter q := List.filter_congr fun i hi => by
    have : i < a := by simpa using hi
    exact (h i (by omega)).symm
   rw [List.filter_cons_of_pos hpa, List.filter_cons_of_neg (by simp [hqa]), List.filter_nil, List.filter_nil, List.append_nil, e1]
   exact List.perm_append_singleton _ _
  ·
   have e1 : [n].filter p = [n].filter q := by
    have := h n (fun x => e x.symm)
    cases hp : p n <;> simp [hp, this]
   rw [e1, <- List.cons_append]
   exact (ih (by omega)).append_right _
theorem Qu5 {ws ov : List Nat} {a v : Nat} (ha : a < ws.length) (hl : ov.length = ws.length) (h0 : ov.getD a 0 = 0) (hv : v ≠ 0) : (Qe5 ws ov).Perm (((ws.getD a 0 : Nat), a) :: Qe5 ws (ov.set a v)) := by
 unfold Qe5
 have := Qu4 (p := fun i => ov.getD i 0 == 0) (q := fun i => (ov.set a v).getD i 0 == 0) ha (by simp only [beq_iff_eq];exact h0) (by rw [Qc3 (by omega)];simp [hv]) (fun i hi => by rw [Qcr (fun x => hi x.symm)])
 have h2 := this.map fun i => (((ws.getD i 0 : Nat) : Int), i)
 rw [List.map_cons] at h2
 exact h2
theorem QBj {ws ov : List Nat} (x : Nat) (hl : ov.length = ws.length) : Qe5 (ws ++ [x]) (ov ++ [0]) = Qe5 ws ov ++ [(((x : Nat) : Int), ws.length)] := by
 unfold Qe5
 rw [List.length_append, List.length_singleton, List.range_succ, List.filter_append, List.map_append]
 congr 1
 ·
  have e : (List.range ws.length).filter (fun i => (ov ++ [0]).getD i 0 == 0) = (List.range ws.length).filter fun i => ov.getD i 0 == 0 := List.filter_congr fun i hi => by
   rw [Qco (by rw [hl];simpa using hi)]
  rw [e]
  refine List.map_congr_left fun i hi => ?_
  rw [List.mem_filter, List.mem_range] at hi
  rw [Qco hi.1]
 ·
  have e1 : (ov ++ [0]).getD ws.length 0 = 0 := by rw [<- hl];exact Qiu
  rw [List.filter_cons_of_pos (by rw [beq_iff_eq];exact e1), List.filter_nil, List.map_cons, List.map_nil, Qiu]
theorem QEd (ws ov : List Nat) : (Qe5 ws ov).length = Qbo (fun i => if ov.getD i 0 = 0 then 1 else 0) ws.length := by
 unfold Qe5
 rw [List.length_map]
 generalize ws.length = n
 induction n with
 | zero => rfl
 | succ n ih =>
  rw [List.range_succ, List.filter_append, List.length_append, ih, Qbo]
  by_cases h : ov.getD n 0 = 0
  ·
   rw [List.filter_cons_of_pos (by rw [beq_iff_eq];exact h), if_pos h];rfl
  ·
   rw [List.filter_cons_of_neg (by rw [beq_iff_eq];exact h), if_neg h];rfl
theorem Qxu (w : List Nat) : Qe5 w (List.replicate w.length 0) = (List.range w.length).map fun i => (((w.getD i 0 : Nat) : Int), i) := by
 unfold Qe5
 rw [List.filter_eq_self.2 fun i hi => by rw [Qdj];rfl]
theorem QHp {α : Type} (l : List α) (i : Nat) (x z : α) (hx : l[i]? = some x) (hz : l[l.length - 1]? = some z) : l.Perm (x :: (l.set i z).take (l.length - 1)) := by
 have hi := (List.getElem?_eq_some_iff.1 hx).1
 have hxe : l[i] = x := (List.getElem?_eq_some_iff.1 hx).2
 have h1 : l = l.take (l.length - 1) ++ [z] := by
  have h2 : l.drop (l.length - 1) = [z] := by
   have h3 := (List.getElem?_eq_some_iff.1 hz)
   rw [List.drop_eq_getElem_cons h3.1, h3.2, List.drop_of_length_le (by omega)]
  rw [<- h2, List.take_append_drop]
 rw [List.take_set]
 generalize hin : l.take (l.length - 1) = t at *
 have htl : t.length = l.length - 1 := by rw [<- hin, List.length_take];omega
 by_cases e : i = l.length - 1
 ·
  have : x = z := by rw [e, hz] at hx;exact (Option.some.inj hx).symm
  subst this
  rw [List.set_eq_of_length_le (by omega), h1]
  exact List.perm_append_singleton _ _
 ·
  have hit : i < t.length := by omega
  have hti : t[i]? = some x := by
   rw [<- hin, List.getElem?_take, if_pos (by omega)];exact hx
  have ht : t = t.take i ++ x :: t.drop (i + 1) := by
   have h4 := List.getElem?_eq_some_iff.1 hti
   have h5 := List.drop_eq_getElem_cons h4.1
   rw [h4.2] at h5
   rw [<- h5, List.take_append_drop]
  rw [List.set_eq_take_append_cons_drop, if_pos hit]
  generalize t.take i = a at *
  generalize t.drop (i + 1) = b at *
  rw [h1, ht, List.append_assoc]
  have p1 : (a ++ (x :: b ++ [z])).Perm (x :: (a ++ (b ++ [z]))) := by simp
  refine p1.trans (List.Perm.cons x ?_)
  exact (List.perm_append_comm (l₁ := b) (l₂ := [z])).append_left a
def tvar (gT g cap : Nat) (l : List Tr) : Res := Res.blk gT 198 [.slice (some ⟨g, 0, none⟩) l.length cap]
theorem Qq0 (trees : List Tr) (hl : trees.length <= 1000000) (hne : 0 < trees.length) (hok : ∀ t ∈ trees, TrOk t) (gT g cap : Nat) (w0 w : World) (B : List Nat) (G : List Res) (hL : Heap w0 B w (trow g cap trees :: tvar gT g cap trees :: G)) :
  Does Tryz.prog 188 #[.pointer (some ⟨gT, 0, none⟩)] w fun v w' => ∃ (t : Tr) (trees' : List Tr), trees.Perm (t :: trees') /\ (∀ x ∈ trees, ¬ cmpT x t < 0) /\ Heap w0 B w' (trow g cap trees' :: tvar gT g cap trees' :: G) /\ v = .agg (Qbd t).toArray := by
 obtain ⟨t0, l0, rfl⟩ : ∃ t0 l0, trees = t0 :: l0 := by
  cases trees with
  | nil => simp at hne
  | cons t l => exact ⟨t, l, rfl⟩
 have hmin := QEc l0 t0
 have hmem : minT t0 l0 ∈ t0 :: l0 := by
  rcases Qsg l0 t0 with h | h
  ·
   rw [h];simp
  ·
   exact List.mem_cons_of_mem _ h
 have hall : ∀ x ∈ t0 :: l0, ¬ cmpT x (minT t0 l0) < 0 := fun x hx => by
  rcases List.mem_cons.1 hx with rfl | hx
  ·
   exact hmin.1
  ·
   exact hmin.2 x hx
 clear hmin
 refine En [.pointer (some ⟨gT, 0, none⟩)] 24 Tryz.func188 ?_
 refine VQ [0, 1] fun K hK => ?_
 refine Qal (.agg #[.int .i64 0, .int .i64 0]) (by kernel_rfl) ?_
 refine Qs ?_
 have hH := hL.box 200 [.int .i64 0, .int .i64 0]
 generalize w.alloc (Obj.cells [Value.int .i64 0, .int .i64 0].toArray 200) = w1 at *
 generalize w.heap.size = gr at *
 clear hL
 apply hK;clear hK
 refine VQ [0, 1, 2] fun K hK => ?_
 refine ⟨_, Qaf (hH.at 2 rfl) rfl, ?_⟩
 refine Qaa Tryz.call189 ?_;refine Qs ?_;refine CallK.mk (Qu3 t0 l0 (by simp at hl;omega) hok g cap w1 (hH.at 1 rfl)) ?_
 rintro v w2 ⟨hHm, rfl⟩
 have hH2 := hH.call0 hHm
 simp only [List.nil_append] at hH2
 clear hH hHm
 generalize minT t0 l0 = t at *
 generalize hT : t0 :: l0 = trees at *
 refine Qal (.agg #[.int .i64 0, .int .i64 0]) (by kernel_rfl) ?_
 refine Qs ?_
 have hH3 := hH2.box 200 [.int .i64 0, .int .i64 0]
 generalize w2.alloc (Obj.cells [Value.int .i64 0, .int .i64 0].toArray 200) = w3 at *
 generalize w2.heap.size = gt at *
 refine Qab ?_
 refine Qs ?_
 refine Qae hH3 0 (vs := Qbd t) rfl rfl (by kernel_rfl) (by simp [Qbd]) (Qdm _) fun w4 hH4 => ?_
 have hH4 : Heap w0 B w4 (Res.blk gt 200 (Qbd t) :: Res.blk gr 200 [.int .i64 0, .int .i64 0] :: trow g cap trees :: tvar gT g cap trees :: G) := hH4
 clear hH2 hH3
 apply hK;clear hK
 refine VQ [0, 1, 2, 3] fun K hK => ?_
 refine ⟨_, Qaf (hH4.at 3 rfl) rfl, ?_⟩
 refine ⟨Qbd t, ⟨rfl, Qa1 (hH4.at 0 rfl)⟩, ?_⟩
 refine Qaa Tryz.call190 ?_;refine Qs ?_;refine CallK.mk (Qxt t trees hl hmem g cap w4 (hH4.at 2 rfl)) ?_
 rintro v w5 ⟨hHi, i, hi, rfl⟩
 have hH5 := hH4.call0 hHi
 simp only [List.nil_append] at hH5
 clear hH4 hHi
 apply hK;clear hK
 have hil : i < trees.length := (List.getElem?_eq_some_iff.1 hi).1
 have hlast : trees[trees.length - 1]? = some trees[trees.length - 1] := List.getElem?_eq_getElem (by omega)
 have hout := QHp trees i t _ hi hlast
 generalize trees[trees.length - 1] = z at *
 have hrs := Qa8 (hH5.at 2 rfl)
 have hrd := Qhp Qff hrs rfl hlast
 rw [Qbp, Nat.zero_add] at hrd
 obtain ⟨hx1, hx2, hx3, hx4⟩ := hH5.at 2 rfl
 clear hx1 hx4
 refine VL [0, 1, 2] 9 fun K hK => ?_
 refine ⟨_, Qaf (hH5.at 3 rfl) rfl, _, Qaf (hH5.at 3 rfl) rfl, _, Qaf (hH5.at 3 rfl) rfl, ?_⟩
 refine Qs ?_
 refine ⟨I64.mk (by omega) (by omega), ⟨by omega, by omega⟩, ?_⟩
 refine ⟨Qbd z, ⟨rfl, hrd⟩, ?_⟩
 refine Qp ?_
 refine Qab ?_
 refine Qs ?_
 refine Qbf hH5 2 (o := i * 2) (vs := Qbd z) rfl (by rw [Qbp, Nat.zero_add]) rfl (by kernel_rfl) (by rw [Qje];simp [Qbd];omega) (Qdm z) fun w6 hH6 => ?_
 have e6 := Qto Qff trees i z hil
 simp only [List.set_cons_succ, List.set_cons_zero] at hH6
 rw [Qff] at hH6
 have hH7 : Heap w0 B w6 (Res.blk gt 200 (Qbd t) :: Res.blk gr 200 [.int .i64 0, .int .i64 0] :: trow g cap (trees.set i z) :: tvar gT g cap trees :: G) := by
  have e7 : trow g cap (trees.set i z) = Res.row 200 2 (some ⟨g, 0, none⟩) trees.length cap ((Qe4 trees).take (i * 2) ++ Qbd z ++ (Qe4 trees).drop (i * 2 + 2)) := by
   rw [trow, List.length_set]
   exact congrArg _ e6.symm
  rw [e7];exact hH6
 clear hH6 hH5 e6 hrd hrs
 have hlen2 : ((trees.set i z).take (trees.length - 1)).length = trees.length - 1 := by rw [List.length_take, List.length_set];omega
 have hsh : (trow g cap (trees.set i z)).holds w6 -> (trow g cap ((trees.set i z).take (trees.length - 1))).holds w6 := fun h => by
  have h1 := QAi (m := trees.length - 1) h (by rw [List.length_set];omega)
  have h2 := Qqb Qff (trees.set i z) (trees.length - 1)
  rw [show Qe4 (trees.set i z) = Qdo Qbd (trees.set i z) from rfl, h2] at h1
  rw [trow, hlen2]
  exact h1
 have hH8 := hH7.view 2 rfl hsh (fun b hb => hb)
 simp only [List.set_cons_succ, List.set_cons_zero] at hH8
 clear hH7 hsh
 generalize (trees.set i z).take (trees.length - 1) = trees' at *
 apply hK;clear hK
 refine VQ [1, 2] fun K hK => ?_
 refine ⟨_, Qaf (hH8.at 3 rfl) rfl, _, Qaf (hH8.at 3 rfl) rfl, ?_⟩
 refine Qs ?_
 refine ⟨I64.mk (by omega) (by omega), ⟨by omega, by omega⟩, ?_⟩
 refine Qab ?_
 refine Qs ?_
 refine Qae hH8 3 (vs := [.slice (some ⟨g, 0, none⟩) trees'.length cap]) rfl (by rw [hlen2];rfl) (by kernel_rfl) (by simp) (by simp [Value.oneCell']) fun w7 hH9 => ?_
 have hH9 : Heap w0 B w7 (Res.blk gt 200 (Qbd t) :: Res.blk gr 200 [.int .i64 0, .int .i64 0] :: trow g cap trees' :: tvar gT g cap trees' :: G) := hH9
 apply hK;clear hK
 refine VQ [1] fun K hK => ?_
 refine ⟨Qbd t, ⟨rfl, Qa1 (hH9.at 0 rfl)⟩, ?_⟩
 refine Qab ?_
 refine Qs ?_
 refine Qae hH9 1 (vs := Qbd t) rfl rfl (by kernel_rfl) (by simp [Qbd]) (Qdm _) fun w8 hH10 => ?_
 have hH10 : Heap w0 B w8 (Res.blk gt 200 (Qbd t) :: Res.blk gr 200 (Qbd t) :: trow g cap trees' :: tvar gT g cap trees' :: G) := hH10
 apply hK;clear hK
 refine Qah (Qrh rfl rfl (Qbu (hH10.at 1 rfl) (by kernel_rfl) (by kernel_rfl) rfl ?_))
 exact ⟨t, trees', hout, hall, hH10.sub ((List.sublist_cons_self _ _).trans (List.sublist_cons_self _ _)), rfl⟩
theorem Qcs (n : Nat) : Qam (List.replicate n 0) = List.replicate n (.int .i64 0) := by simp [Qam]
theorem QEe {n : Nat} (h : 0 < n) : List.replicate n (0 : Nat) = [0] ++ List.replicate (n - 1) 0 := by
 obtain ⟨m, rfl⟩ : ∃ m, n = m + 1 := ⟨n - 1, by omega⟩
 rfl
abbrev QO1 (gT : Nat) : Value := .func (.func 188) #[] #[.pointer (some ⟨gT, 0, none⟩)]
theorem QBk (l : List Nat) (hl : 2 <= l.length) (hl2 : l.length <= 258) (hx : ∀ x ∈ l, 1 <= x /\ x <= 2147483648) (pa : Option Addr) (lc : Nat) (w : World) (hr : RS w pa l.length 1 (Qam l)) :
  Does Tryz.prog 162 #[.slice pa l.length lc] w fun v w' => ∃ a cap, Heap w [] w' [Res.row 3 1 a (Qfk l).length cap (Qam (Qfk l))] /\ v = .slice a (Qfk l).length cap := by
 obtain ⟨p, rfl⟩ := Qcy hr (by omega)
 have hget : ∀ i, i < l.length -> 1 <= l.getD i 0 /\ l.getD i 0 <= 2147483648 := fun i hi => hx _ (Qbq 0 hi)
 have htot : Qbo (fun i => l.getD i 0) l.length <= 1099511627776 := by
  have := Qro (fun i => l.getD i 0) 2147483648 l.length fun i hi => (hget i hi).2
  omega
 refine En [.slice (some p) l.length lc] 90 Tryz.func162 ?_
 generalize hn : l.length = n at *
 refine VS [0] ?_
 refine VQ [0, 3] fun K hK => ?_
 refine Qal (.slice none 0 0) (by kernel_rfl) ?_
 refine Qs ?_
 have hH0 := ((Heap.start w).box 198 [.slice none 0 0]).nilRow 200 2
 generalize w.alloc (Obj.cells [Value.slice none 0 0].toArray 198) = w1 at *
 generalize w.heap.size = gT at *
 apply hK;clear hK
 refine VS [0, 3, 14, 15, 16] ?_
 refine Qag ?_
 refine Qaj [0, 3, 14, 15, 16] (fun m e w' => ∃ (i cap : Nat) (a : Option Addr), Is e [(0, .slice (some p) n lc), (3, .pointer (some ⟨gT, 0, none⟩)), (14, .slice (some p) n lc), (15, .int .i64 n), (16, .int .i64 i)] /\ Heap w [] w' [Res.row 200 2 a i cap (Qe4 ((List.range i).map fun i => (((l.getD i 0 : Nat) : Int), i))), Res.blk gT 198 [.slice a i cap]] /\ i <= n /\ m = n - i) n ?_ ?_
 ·
  refine Qs ?_
  exact ⟨0, 0, none, rfl, hH0, by omega, rfl⟩
 clear hH0
 rintro m e w2 ⟨i, cap, a, rfl, hH, hi, rfl⟩
 refine VS [0, 3, 14, 15, 16, 17] ?_
 (repeat refine Qaw ?_)
 refine VD (fun h => ?_) (fun h => ?_)
 ·
  have hcell := Qdl (hH.rs' hr) (i := i) (by omega)
  have hsn : (List.range (i + 1)).map (fun i => (((l.getD i 0 : Nat) : Int), i)) = (List.range i).map (fun i => (((l.getD i 0 : Nat) : Int), i)) ++ [(((l.getD i 0 : Nat) : Int), i)] := by rw [List.range_succ, List.map_append];rfl
  have hml : ((List.range i).map (fun i => (((l.getD i 0 : Nat) : Int), i))).length = i := by simp
  generalize hL1 : (List.range i).map (fun i => (((l.getD i 0 : Nat) : Int), i)) = L at *
  generalize hxx : l.getD i 0 = x at *
  refine Qac ?_
  refine VB ?_
  refine VQ [0, 3, 4, 5, 14, 15, 16] fun K hK => ?_
  refine ⟨⟨by omega, by omega⟩, _, hcell, ?_⟩
  apply hK;clear hK
  refine VQ [0, 3, 14, 15, 16] fun K hK => ?_
  refine ⟨_, Qaf (hH.at 1 rfl) rfl, ?_⟩
  refine Qd7 hH 2 (Qbd ((x : Int), i)) (xs := [.tmp 24]) Tryz.underlying198 QKu rfl rfl rfl (by omega) (by omega) ?_
  refine Qs ?_
  refine ⟨rfl, by simp [Value.cells], fun g w4 hH2 => ?_⟩
  refine Qau ?_
  refine Qs ?_
  refine Qca (zs := #[.int .i64 0, .int .i64 0]) (bytes := 16) hH2 1 rfl Tryz.underlying198 (by kernel_rfl) rfl ⟨rfl, Qa8 (hH2.at 0 rfl), 200, Tryz.underlying198⟩ (Qdm _) (fun h => by omega) fun a' cap' w5 hc' hH3 => ?_
  simp only [List.set_cons_succ, List.set_cons_zero] at hH3
  refine Qab ?_
  refine Qs ?_
  refine Qae hH3 2 (vs := [.slice a' (i + 1) cap']) rfl rfl (by kernel_rfl) (by simp) (by simp [Value.oneCell']) fun w6 hH4 => ?_
  have hH5 : Heap w [] w6 [Res.row 200 2 a' (i + 1) cap' (Qe4 (L ++ [((x : Int), i)])), Res.blk gT 198 [.slice a' (i + 1) cap']] := by
   rw [Qe4, Qio, Qtm]
   exact (hH4.sub (List.sublist_cons_self _ _))
  apply hK;clear hK
  refine Qar ?_
  refine VS [0, 3, 14, 15, 16] ?_
  refine Qad ?_
  refine Qs ?_
  exact ⟨n - (i + 1), by omega, i + 1, cap', a', rfl, by rw [hsn];exact hH5, by omega, rfl⟩
 obtain rfl : i = n := by omega
 obtain ⟨g, rfl⟩ := Qdz (hH.at 0 rfl) (by omega)
 have hroots := Qxu l
 rw [hn] at hroots
 rw [<- hroots] at hH
 have hrl : (Qe5 l (List.replicate i 0)).length = i := by rw [hroots];simp
 clear hroots
 generalize hT0 : Qe5 l (List.replicate i 0) = T0 at *
 have hH1 : Heap w [] w2 [trow g cap T0, tvar gT g cap T0] := by
  unfold trow tvar
  rw [hrl];exact hH
 clear hH
 refine Qak rfl ?_
 generalize i = n at *
 refine VQ [0, 3, 6] fun K hK => ?_
 refine ⟨I64.mk (by omega) (by omega), ?_⟩
 refine Qbw Tryz.underlying36 zi3 ?_
 refine Qs ?_
 refine ⟨2 * n, 2 * n, ⟨by push_cast;rfl, by push_cast;rfl, by omega, by omega, by omega⟩, ?_⟩
 have hH2 := hH1.row 3 (n := 2 * n) (cap := 2 * n) (sz := 1) (Qam (List.replicate (2 * n) 0)) [] (by simp [Qan]) (by simp [Qan]) (by omega) (by omega)
 rw [List.append_nil, Qcs] at hH2
 generalize w2.alloc (Obj.cells (List.replicate (2 * n) (Value.int IntKind.i64 0)).toArray 3) = w3 at *
 generalize w2.heap.size = go at *
 rw [<- Qcs] at hH2
 clear hH1
 apply hK;clear hK
 refine VS [0, 3, 6, 7] ?_
 refine VS [0, 3, 6, 7, 8] ?_
 refine VB ?_
 refine Qaj [0, 3, 6, 7, 8] (fun m e w' => ∃ (k cap g : Nat) (ws ov : List Nat) (hh : Nat -> Nat) (T : List Tr), Is e [(0, .slice (some p) n lc), (3, .pointer (some ⟨gT, 0, none⟩)), (6, .slice (some ⟨go, 0, none⟩) (2 * n) (2 * n)), (7, .int .i64 (n + k : Nat)), (8, QO1 gT)] /\ Heap w [] w' [trow g cap T, tvar gT g cap T, Res.row 3 1 (some ⟨go, 0, none⟩) (2 * n) (2 * n) (Qam (ov ++ List.replicate (n - k) 0))] /\ Qrn k (l, List.replicate n 0) = (ws, ov) /\ Grown l k ws ov hh /\ T.Perm (Qe5 ws ov) /\ k + 1 <= n /\ m = n - k) n ?_ ?_
 ·
  refine Qs ?_
  have hg := Grown.start l (by omega) (fun i hi => (hget i (by omega)).1)
  rw [hn] at hg
  refine ⟨0, cap, g, l, List.replicate n 0, _, T0, rfl, ?_, rfl, hg, by rw [hT0], by omega, rfl⟩
  have e : List.replicate n 0 ++ List.replicate (n - 0) 0 = List.replicate (2 * n) (0 : Nat) := by rw [List.replicate_append_replicate];congr 1;omega
  rw [e]
  exact hH2.perm ((List.perm_append_comm (l₁ := [_])))
 clear hH2 hT0 hrl
 rintro m e w4 ⟨k, cap, g, ws, ov, hh, T, rfl, hH, hgr, hg, hp, hk, rfl⟩
 have hTl : T.length + k = n := by
  have h1 := hg.roots
  rw [hp.length_eq, QEd, hg.lws, hn]
  rw [hn] at h1
  exact h1
 have hTok : ∀ t ∈ T, TrOk t := fun t ht => by
  obtain ⟨h1, h2, h3⟩ := Qot.1 (hp.mem_iff.1 ht)
  have h4 := Qm7 (fun i => if ov.getD i 0 = 0 then ws.getD i 0 else 0) (l.length + k) t.2 (by have := hg.lws;omega)
  simp only [if_pos h2] at h4
  rw [hg.weight, hn] at h4
  have := hg.lws
  unfold TrOk
  omega
 refine VQ [0, 3, 6, 7, 8, 37] fun K hK => ?_
 refine ⟨_, Qaf (hH.at 1 rfl) rfl, ?_⟩
 refine Qs ?_
 apply hK;clear hK
 refine VD (fun h => ?_) (fun h => ?_)
 ·
  have hk2 : k + 1 < n := by omega
  have hpick := hg.pick (by omega)
  obtain ⟨hla, hlb, hne, hbf⟩ := hpick
  have hlw := hg.lws
  have hlo := hg.lov
  rw [hn] at hlw hlo
  refine Qac ?_
  refine Qag ?_
  refine VQ [0, 3, 6, 7, 8, 9, 10] fun K hK => ?_
  refine Qbg ?_;refine Qs ?_;refine FnK.mk Tryz.call188 (Qq0 T (by omega) (by omega) hTok gT g cap w w4 [] _ hH) ?_
  rintro v w5 ⟨ta, Ta, hpa, hma, hH2, rfl⟩
  have hta := Qou (hp.mem_iff.1 (hpa.mem_iff.2 (by simp))) (fun x hx' => hma x (hp.mem_iff.2 hx'))
  have hta2 : ta.2 = Qd8 ws ov := hta.1.unique hla
  have htaE : ta = (((ws.getD (Qd8 ws ov) 0 : Nat) : Int), Qd8 ws ov) := (Ql0 _ _).2 ⟨by rw [hta.2, hta2], hta2⟩
  have hTaok : ∀ t ∈ Ta, TrOk t := fun t ht => hTok t (hpa.mem_iff.2 (by simp [ht]))
  have hTal : Ta.length + 1 = T.length := by have := hpa.length_eq;simp at this;omega
  have hcut := Qu5 (v := ws.length) hla.lt (by omega) hla.free (by omega)
  rw [<- htaE] at hcut
  have hpTa : Ta.Perm (Qe5 ws (ov.set (Qd8 ws ov) ws.length)) := ((hpa.symm.trans hp).trans hcut).cons_inv
  clear hH
  refine Qbg ?_;refine Qs ?_;refine FnK.mk Tryz.call188 (Qq0 Ta (by omega) (by omega) hTaok gT g cap w w5 [] _ hH2) ?_
  rintro v w6 ⟨tb, Tb, hpb, hmb, hH3, rfl⟩
  have htb := Qou (hpTa.mem_iff.1 (hpb.mem_iff.2 (by simp))) (fun x hx' => hmb x (hpTa.mem_iff.2 hx'))
  have htb2 : tb.2 = Qd8 ws (ov.set (Qd8 ws ov) ws.length) := htb.1.unique hlb
  have htbE : tb = (((ws.getD tb.2 0 : Nat) : Int), tb.2) := (Ql0 _ _).2 ⟨htb.2, rfl⟩
  rw [<- htb2] at hlb hne hbf
  have hTbok : ∀ t ∈ Tb, TrOk t := fun t ht => hTaok t (hpb.mem_iff.2 (by simp [ht]))
  have hTbl : Tb.length + 1 = Ta.length := by have := hpb.length_eq;simp at this;omega
  rw [<- hta2] at hla hlb hne hpTa
  have hl1 : (ov.set ta.2 ws.length).length = ws.length := by simp;omega
  have hcut2 := Qu5 (v := ws.length) hlb.lt hl1 hlb.free (by omega)
  rw [<- htbE] at hcut2
  have hpTb : Tb.Perm (Qe5 ws ((ov.set ta.2 ws.length).set tb.2 ws.length)) := ((hpb.symm.trans hpTa).trans hcut2).cons_inv
  have hoka := hTok ta (hpa.mem_iff.2 (by simp))
  have hokb := hTaok tb (hpb.mem_iff.2 (by simp))
  have hstep : Qrn (k + 1) (l, List.replicate n 0) = (ws ++ [ws.getD ta.2 0 + ws.getD tb.2 0], (ov.set ta.2 ws.length).set tb.2 ws.length ++ [0]) := by
   rw [Qrn, hgr, Qht]
   simp only
   rw [<- htb2, <- hta2]
  obtain ⟨h', hg'⟩ := hg.step (by omega)
  have hgs : Qht (ws, ov) = (ws ++ [ws.getD ta.2 0 + ws.getD tb.2 0], (ov.set ta.2 ws.length).set tb.2 ws.length ++ [0]) := by
   rw [Qht]
   simp only
   rw [<- htb2, <- hta2]
  rw [hgs] at hg'
  simp only at hg'
  have ha1 := hla.lt
  have hb1 := hlb.lt
  have hwa := hta.2
  have hwb := htb.2
  clear hH2 hgs hcut hcut2 hta htb htaE htbE hma hmb
  generalize hA : ta.2 = A at *
  generalize hB : tb.2 = Bn at *
  refine Qal (.agg #[.int .i64 0, .int .i64 0]) (by kernel_rfl) ?_
  refine Qs ?_
  have hH4 := hH3.box 200 [.int .i64 0, .int .i64 0]
  generalize w6.alloc (Obj.cells [Value.int .i64 0, .int .i64 0].toArray 200) = w7 at *
  generalize w6.heap.size = ga at *
  refine Qal (.agg #[.int .i64 0, .int .i64 0]) (by kernel_rfl) ?_
  refine Qs ?_
  have hH5 := hH4.box 200 [.int .i64 0, .int .i64 0]
  generalize w7.alloc (Obj.cells [Value.int .i64 0, .int .i64 0].toArray 200) = w8 at *
  generalize w7.heap.size = gb at *
  refine Qab ?_
  refine Qs ?_
  refine Qae hH5 1 (vs := Qbd ta) rfl rfl (by kernel_rfl) (by simp [Qbd]) (Qdm _) fun w9 hH6 => ?_
  refine Qab ?_
  refine Qs ?_
  refine Qae hH6 0 (vs := Qbd tb) rfl rfl (by kernel_rfl) (by simp [Qbd]) (Qdm _) fun w10 hH7 => ?_
  have hH7 : Heap w [] w10 [Res.blk gb 200 (Qbd tb), Res.blk ga 200 (Qbd ta), trow g cap Tb, tvar gT g cap Tb, Res.row 3 1 (some ⟨go, 0, none⟩) (2 * n) (2 * n) (Qam (ov ++ List.replicate (n - k) 0))] := hH7
  clear hH3 hH4 hH5 hH6
  apply hK;clear hK
  have ca1 : (Qbd ta)[1]? = some (.int .i64 (A : Nat)) := by rw [<- hA];rfl
  have cb1 : (Qbd tb)[1]? = some (.int .i64 (Bn : Nat)) := by rw [<- hB];rfl
  have hol : (ov ++ List.replicate (n - k) 0).length = 2 * n := by simp;omega
  have hF := hH7.focus 4 rfl
  have hla1 := hH7.hole_at 4 1 rfl rfl (by omega) ca1
  have hlb1 := hH7.hole_at 4 0 rfl rfl (by omega) cb1
  refine VH (holes [go] w10) (Ext.hole _ _) [0, 3, 6, 7, 8, 9, 10] [(0, true), (1, true), (2, true), (3, true), (4, true), (5, true), (6, true), (7, true), (8, true), (9, false), (10, true), (11, false)] fun K hK => ?_
  refine ⟨_, hla1, _, hlb1, ?_⟩
  refine Qs ?_
  refine Qp ?_
  refine Qab ?_;refine Qs ?_;refine Qbf hF 0 (o := (A)) (vs := [.int .i64 (n + k : Nat)]) rfl (by first | exact (Qbp _ _ _).symm | rfl | simp [Qbp]) rfl (by kernel_rfl) (by first | omega | (simp;omega) | (simp [Qao, Qbn];omega) | (rw [Qan];simp;omega)) (by simp [Value.oneCell']) fun w6 hH8 => ?_;(try refine Qs ?_)
  simp only [List.length_singleton, Qb2 (Qam (ov ++ List.replicate (n - k) 0)) _ _ (show A < (Qam (ov ++ List.replicate (n - k) 0)).length by rw [Qan, hol];omega), Qch, List.set_cons_zero, List.set_cons_succ] at hH8
  refine ⟨hH8.upd.extH, ⟨by omega, by omega⟩, ?_⟩
  refine Qab ?_;refine Qs ?_;refine Qbf hH8 0 (o := (Bn)) (vs := [.int .i64 (n + k : Nat)]) rfl (by first | exact (Qbp _ _ _).symm | rfl | simp [Qbp]) rfl (by kernel_rfl) (by first | omega | (simp;omega) | (simp [Qao, Qbn];omega) | (rw [Qan];simp;omega)) (by simp [Value.oneCell']) fun w6 hH9 => ?_;(try refine Qs ?_)
  simp only [List.length_singleton, Qb2 (Qam ((ov ++ List.replicate (n - k) 0).set A (n + k))) _ _ (show Bn < (Qam ((ov ++ List.replicate (n - k) 0).set A (n + k))).length by rw [Qan, List.length_set, hol];omega), Qch, List.set_cons_zero, List.set_cons_succ] at hH9
  refine ⟨hH9.upd.extH, ?_⟩
  apply hK;clear hK
  have hH9 := hH7.call1 4 rfl hH9
  simp only [List.set_cons_zero, List.set_cons_succ, List.nil_append] at hH9
  clear hF hla1 hlb1
  have hrow : ((ov ++ List.replicate (n - k) 0).set A (n + k)).set Bn (n + k) = ((ov.set A ws.length).set Bn ws.length ++ [0]) ++ List.replicate (n - (k + 1)) 0 := by
   rw [List.set_append_left _ _ (by omega), List.set_append_left _ _ (by rw [List.length_set];omega), hlw, QEe (show 0 < n - k by omega), List.append_assoc, show n - k - 1 = n - (k + 1) by omega]
  rw [hrow] at hH9
  have hH10 : Heap w [] w6 [Res.blk gb 200 (Qbd tb), Res.blk ga 200 (Qbd ta), trow g cap Tb, tvar gT g cap Tb, Res.row 3 1 (some ⟨go, 0, none⟩) (2 * n) (2 * n) (Qam (((ov.set A ws.length).set Bn ws.length ++ [0]) ++ List.replicate (n - (k + 1)) 0))] := hH9
  have hso := QBj (ws := ws) (ov := (ov.set A ws.length).set Bn ws.length) (ws.getD A 0 + ws.getD Bn 0) (by simp;omega)
  clear hH7 hH8 hH9 hrow hol ca1 cb1
  generalize (ov.set A ws.length).set Bn ws.length ++ [0] = ov' at *
  generalize hwx : ws.getD A 0 + ws.getD Bn 0 = wx at *
  have hpf : (Tb ++ [(((wx : Nat) : Int), n + k)]).Perm (Qe5 (ws ++ [wx]) ov') := by
   rw [hso, hlw];rw [hlw] at hpTb;exact hpTb.append_right _
  clear hso hpTb
  have hoka' := hoka
  have hokb' := hokb
  unfold TrOk at hoka' hokb'
  have hsum : ta.1 + tb.1 = ((wx : Nat) : Int) := by rw [hwa, hwb, <- hwx];push_cast;rfl
  have ca0 : (Qbd ta)[0]? = some (.int .i64 ta.1) := rfl
  have cb0 : (Qbd tb)[0]? = some (.int .i64 tb.1) := rfl
  refine VQ [0, 3, 6, 7, 8] fun K hK => ?_
  refine ⟨_, Qaf (hH10.at 3 rfl) rfl, _, Qaf (hH10.at 1 rfl) ca0, _, Qaf (hH10.at 0 rfl) cb0, ?_⟩
  refine Qs ?_
  refine ⟨I64.mk (by omega) (by omega), ?_⟩
  rw [hsum]
  refine Qd7 hH10 2 (Qbd ((wx : Int), n + k)) (xs := [.tmp 59]) Tryz.underlying198 QKu rfl rfl rfl (by omega) (by omega) ?_
  refine Qs ?_
  refine ⟨rfl, by simp [Value.cells], fun g2 w11 hH11 => ?_⟩
  refine Qau ?_
  refine Qs ?_
  refine Qca (zs := #[.int .i64 0, .int .i64 0]) (bytes := 16) hH11 3 rfl Tryz.underlying198 (by kernel_rfl) rfl ⟨rfl, Qa8 (hH11.at 0 rfl), 200, Tryz.underlying198⟩ (Qdm _) (fun h => by omega) fun a' cap' w12 hc' hH12 => ?_
  simp only [List.set_cons_succ, List.set_cons_zero] at hH12
  obtain ⟨g', rfl⟩ := Qdz (hH12.at 3 rfl) (by omega)
  refine Qab ?_
  refine Qs ?_
  refine Qae hH12 4 (vs := [.slice (some ⟨g', 0, none⟩) (Tb.length + 1) cap']) rfl rfl (by kernel_rfl) (by simp) (by simp [Value.oneCell']) fun w13 hH13 => ?_
  have hH14 : Heap w [] w13 [trow g' cap' (Tb ++ [((wx : Int), n + k)]), tvar gT g' cap' (Tb ++ [((wx : Int), n + k)]), Res.row 3 1 (some ⟨go, 0, none⟩) (2 * n) (2 * n) (Qam (ov' ++ List.replicate (n - (k + 1)) 0))] := by
   rw [trow, tvar, Qe4, Qio, Qtm, List.length_append, List.length_singleton]
   exact hH13.sub (((List.sublist_cons_self _ _).trans (List.sublist_cons_self _ _)).trans (List.sublist_cons_self _ _))
  apply hK;clear hK
  refine VS [0, 3, 6, 7, 8] ?_
  refine Qar ?_
  refine Qad ?_
  refine Qs ?_
  exact ⟨n - (k + 1), by omega, k + 1, cap', g', _, _, h', _, rfl, hH14, hstep, hg', hpf, by omega, rfl⟩
 ·
  obtain rfl : n = k + 1 := by omega
  have hover : Qt5 l = ov := by rw [Qt5, hn, Nat.add_sub_cancel, hgr]
  have hgrS : Qfk l = (List.range (k + 1)).map fun i => Qbx ov (2 * (k + 1)) i := by rw [Qfk, hover, hn]
  have hdl : ∀ f i, Qbx ov f i <= f := fun f => by
   induction f with
   | zero => intro i;simp [Qbx]
   | succ f ih => intro i;rw [Qbx];split;omega;have := ih (ov.getD i 0);omega
  have hlo := hg.lov
  rw [hn] at hlo
  have hup := hg.up
  rw [hn] at hup
  have hdep : ∀ i, i < k + 1 + k -> ov.getD i 0 ≠ 0 -> Qbx ov (2 * (k + 1)) i = Qbx ov (2 * (k + 1)) (ov.getD i 0) + 1 := fun i hi h0 => hg.dep _ (by omega) (by omega) h0
  have hd0 : ∀ i, ov.getD i 0 = 0 -> Qbx ov (2 * (k + 1)) i = 0 := fun i h0 => by
   rw [show 2 * (k + 1) = (2 * k + 1) + 1 by omega, Qbx, if_pos h0]
  rw [hgrS]
  have hH1 : Heap w [] w4 [Res.row 3 1 (some ⟨go, 0, none⟩) (2 * (k + 1)) (2 * (k + 1)) (Qam (ov ++ [0]))] := by
   have e : k + 1 - k = 1 := by omega
   rw [e] at hH
   exact hH.sub ((List.sublist_cons_self _ _).trans (List.sublist_cons_self _ _))
  clear hH hgrS hgr hg hp hTl hTok hover
  have hog : ∀ i, i < k + 1 + k -> (ov ++ [0]).getD i 0 = ov.getD i 0 := fun i hi => Qco (by omega)
  have hol : (ov ++ [0]).length = 2 * (k + 1) := by simp;omega
  refine Qak rfl ?_
  refine VQ [0, 6, 11] fun K hK => ?_
  refine Qbw Tryz.underlying36 zi3 ?_
  refine Qs ?_
  refine ⟨k + 1, k + 1, ⟨rfl, rfl, by omega, by omega, by omega⟩, ?_⟩
  have hH2 := hH1.row 3 (n := k + 1) (cap := k + 1) (sz := 1) (Qam (List.replicate (k + 1) 0)) [] (by simp [Qan]) (by simp [Qan]) (by omega) (by omega)
  rw [List.append_nil, Qcs] at hH2
  generalize w4.alloc (Obj.cells (List.replicate (k + 1) (Value.int IntKind.i64 0)).toArray 3) = w5 at *
  generalize w4.heap.size = gu at *
  rw [<- Qcs] at hH2
  clear hH1
  apply hK;clear hK
  refine VS [6, 11, 68, 69] ?_
  refine Qag ?_
  refine Qaj [6, 11, 68, 69] (fun m e w' => ∃ (i : Nat), Is e [(6, .slice (some ⟨go, 0, none⟩) (2 * (k + 1)) (2 * (k + 1))), (11, .slice (some ⟨gu, 0, none⟩) (k + 1) (k + 1)), (68, .int .i64 (k + 1 : Nat)), (69, .int .i64 i)] /\ Heap w [] w' [Res.row 3 1 (some ⟨gu, 0, none⟩) (k + 1) (k + 1) (Qam ((List.range i).map (fun i => Qbx ov (2 * (k + 1)) i) ++ List.replicate (k + 1 - i) 0)), Res.row 3 1 (some ⟨go, 0, none⟩) (2 * (k + 1)) (2 * (k + 1)) (Qam (ov ++ [0]))] /\ i <= k + 1 /\ m = k + 1 - i) (k + 1) ?_ ?_
  ·
   refine Qs ?_
   exact ⟨0, rfl, by simpa using hH2, by omega, rfl⟩
  clear hH2
  rintro m e w6 ⟨i, rfl, hH, hi, rfl⟩
  refine VS [6, 11, 68, 69, 70] ?_
  (repeat refine Qaw ?_)
  refine VD (fun h => ?_) (fun h => ?_)
  ·
   have hsn : (List.range (i + 1)).map (fun i => Qbx ov (2 * (k + 1)) i) = (List.range i).map (fun i => Qbx ov (2 * (k + 1)) i) ++ [Qbx ov (2 * (k + 1)) i] := by rw [List.range_succ, List.map_append];rfl
   have hml : ((List.range i).map (fun i => Qbx ov (2 * (k + 1)) i)).length = i := by simp
   have hdi := hdl (2 * (k + 1)) i
   generalize (List.range i).map (fun i => Qbx ov (2 * (k + 1)) i) = Dn at *
   rw [QEe (show 0 < k + 1 - i by omega), List.singleton_append] at hH
   refine Qac ?_
   refine VB ?_
   refine VS [6, 11, 12, 68, 69] ?_
   refine VS [6, 11, 12, 13, 68, 69] ?_
   refine Qag ?_
   refine Qaj [6, 11, 12, 13, 68, 69] (fun m e w' => ∃ (c at_ : Nat), Is e [(6, .slice (some ⟨go, 0, none⟩) (2 * (k + 1)) (2 * (k + 1))), (11, .slice (some ⟨gu, 0, none⟩) (k + 1) (k + 1)), (12, .int .i64 i), (13, .int .i64 at_), (68, .int .i64 (k + 1 : Nat)), (69, .int .i64 i)] /\ Heap w [] w' [Res.row 3 1 (some ⟨gu, 0, none⟩) (k + 1) (k + 1) (Qam (Dn ++ c :: List.replicate (k + 1 - i - 1) 0)), Res.row 3 1 (some ⟨go, 0, none⟩) (2 * (k + 1)) (2 * (k + 1)) (Qam (ov ++ [0]))] /\ at_ < k + 1 + k /\ c + Qbx ov (2 * (k + 1)) at_ = Qbx ov (2 * (k + 1)) i /\ m = 2 * (k + 1) - at_) (2 * (k + 1) - i) ?_ ?_
   ·
    refine Qs ?_
    exact ⟨0, i, rfl, hH, by omega, by omega, rfl⟩
   clear hH
   rintro m e w7 ⟨c, at_, rfl, hH, hat, hc, rfl⟩
   have hov := hup at_ hat
   have hcell : w7.cell? ⟨go, at_, none⟩ = some (.int .i64 ((ov.getD at_ 0 : Nat) : Int)) := by
    rw [<- hog at_ hat];exact Qba (hH.at 1 rfl) (Qb5 (by omega))
   refine VQ [6, 11, 12, 13, 68, 69, 77] fun K hK => ?_
   refine ⟨⟨by omega, by omega⟩, _, hcell, ?_⟩
   refine Qs ?_
   apply hK;clear hK
   refine VD (fun h => ?_) (fun h => ?_)
   ·
    have h0 : ov.getD at_ 0 ≠ 0 := by omega
    have hda := hdep at_ hat h0
    have hlen : (Dn ++ c :: List.replicate (k + 1 - i - 1) 0).length = k + 1 := by simp;omega
    have hgc : (Dn ++ c :: List.replicate (k + 1 - i - 1) 0).getD i 0 = c := by
     rw [List.getD_eq_getElem?_getD, List.getElem?_append_right (by omega), hml, Nat.sub_self];rfl
    have hsc : (Dn ++ c :: List.replicate (k + 1 - i - 1) 0).set i (c + 1) = Dn ++ (c + 1) :: List.replicate (k + 1 - i - 1) 0 := by
     rw [List.set_append_right _ _ (by omega), hml, Nat.sub_self];rfl
    have hcu : w7.cell? ⟨gu, i, none⟩ = some (.int .i64 ((c : Nat) : Int)) := by
     have := Qba (hH.at 0 rfl) (Qb5 (l := Dn ++ c :: List.replicate (k + 1 - i - 1) 0) (i := i) (by omega))
     rwa [hgc] at this
    refine Qac ?_
    refine VB ?_
    refine VQ [6, 11, 12, 13, 68, 69] fun K hK => ?_
    refine ⟨⟨by omega, by omega⟩, _, hcu, ?_⟩
    refine Qs ?_
    refine ⟨I64.mk (by omega) (by omega), ⟨by omega, by omega⟩, ?_⟩
    refine Qab ?_;refine Qs ?_;refine Qbf hH 0 (o := (i)) (vs := [.int .i64 (c + 1 : Nat)]) rfl (by first | exact (Qbp _ _ _).symm | rfl | simp [Qbp]) rfl (by kernel_rfl) (by first | omega | (simp;omega) | (simp [Qao, Qbn];omega) | (rw [Qan];simp;omega)) (by simp [Value.oneCell']) fun w6 hH3 => ?_;(try refine Qs ?_)
    simp only [List.length_singleton, Qb2 (Qam (Dn ++ c :: List.replicate (k + 1 - i - 1) 0)) _ _ (show i < (Qam (Dn ++ c :: List.replicate (k + 1 - i - 1) 0)).length by rw [Qan, hlen];omega), Qch, List.set_cons_zero, hsc] at hH3
    apply hK;clear hK
    refine Qar ?_
    have hcell2 : w6.cell? ⟨go, at_, none⟩ = some (.int .i64 ((ov.getD at_ 0 : Nat) : Int)) := by
     rw [<- hog at_ hat];exact Qba (hH3.at 1 rfl) (Qb5 (by omega))
    refine VQ [6, 11, 12, 13, 68, 69] fun K hK => ?_
    refine ⟨⟨by omega, by omega⟩, _, hcell2, ?_⟩
    apply hK;clear hK
    refine Qad ?_
    refine Qs ?_
    exact ⟨2 * (k + 1) - ov.getD at_ 0, by omega, c + 1, ov.getD at_ 0, rfl, hH3, by omega, by omega, rfl⟩
   ·
    have h0 : ov.getD at_ 0 = 0 := by omega
    rw [hd0 at_ h0] at hc
    refine Qak rfl ?_
    refine Qar ?_
    refine VS [6, 11, 68, 69] ?_
    refine Qad ?_
    refine Qs ?_
    refine ⟨k + 1 - (i + 1), by omega, i + 1, rfl, ?_, by omega, rfl⟩
    rw [hsn, <- hc, List.append_assoc, List.singleton_append, Nat.add_zero, show k + 1 - (i + 1) = k + 1 - i - 1 by omega]
    exact hH
  ·
   obtain rfl : i = k + 1 := by omega
   refine Qak rfl ?_
   refine VS [2] ?_
   refine Qah (Qat rfl rfl ?_)
   have e : ((List.range (k + 1)).map fun i => Qbx ov (2 * (k + 1)) i).length = k + 1 := by simp
   rw [e]
   rw [Nat.sub_self, List.replicate_zero, List.append_nil] at hH
   exact ⟨_, _, hH.sub (by simp), rfl⟩
theorem Qy5 (l : List Nat) (f : Nat -> Nat) {i : Nat} (h : i < l.length) : ((l.take i).map f ++ l.drop i).set i (f (l.getD i 0)) = (l.take (i + 1)).map f ++ l.drop (i + 1) /\ ((l.take i).map f ++ l.drop i).getD i 0 = l.getD i 0 /\ ((l.take i).map f ++ l.drop i).length = l.length := by
 have h1 := Qds 0 h
 have h2 := drop_getD 0 h
 have h3 : ((l.take i).map f).length = i := by rw [List.length_map, List.length_take];omega
 refine ⟨?_, ?_, ?_⟩
 ·
  rw [h2, List.set_append_right _ _ (by omega), h3, Nat.sub_self, List.set_cons_zero, h1, List.map_append, List.append_assoc];rfl
 ·
  rw [h2, List.getD_eq_getElem?_getD, List.getElem?_append_right (by omega), h3, Nat.sub_self];rfl
 ·
  rw [List.length_append, h3, List.length_drop];omega
theorem QEf (l : List Nat) (most : Nat) (hl : 2 <= l.length) (hl2 : l.length <= 258) (hx : ∀ x ∈ l, x <= 1073741824) (hm : 12 <= most) (hm2 : most <= 20) (pa : Option Addr) (lc : Nat) (w : World) (hr : RS w pa l.length 1 (Qam l)) :
  Does Tryz.prog 133 #[.slice pa l.length lc, .int .i64 most] w fun v w' => ∃ a cap, Heap w [] w' [Res.row 3 1 a (lenS l most).length cap (Qam (lenS l most))] /\ v = .tuple #[.slice a (lenS l most).length cap, .int .i64 0] := by
 have hc1 := Qoq l hl hl2 hx pa lc w hr
 have hc2 := QBh l (by omega) (by omega) pa lc w hr
 refine En [.slice pa l.length lc, .int .i64 most] 59 Tryz.func133 ?_
 have hlS : lenS l most = Qn7 most 40 (l.map fun x => max x 1) := rfl
 generalize lenS l most = res at *
 generalize hn : l.length = n at *
 refine VS [0, 1] ?_
 refine VQ [0, 1, 22] fun K hK => ?_
 refine Qaa Tryz.call160 ?_;refine Qs ?_;refine CallK.mk hc1 ?_
 rintro v w2 ⟨rfl, rfl⟩
 refine Qs ?_
 suffices out : ∀ b : Bool, (b = true ↔ False) -> K [(0, .slice pa n lc), (1, .int .i64 most), (22, .bool b)] w2 by
  rw [Bool.not_true]
  refine Qs ?_
  refine ⟨fun h => out _ (by simp;omega), fun h => absurd h (by omega)⟩
 intro b hb
 apply hK;clear hK
 refine Qai rfl rfl (fun h => (hb.1 h).elim) (fun h => Qac ?_)
 clear hb h
 refine VQ [1, 6] fun K hK => ?_
 refine Qaa Tryz.call161 ?_;refine Qs ?_;refine CallK.mk hc2 ?_
 rintro v w3 ⟨a, cap, hH, rfl⟩
 apply hK;clear hK
 obtain ⟨g, rfl⟩ := Qdz (hH.at 0 rfl) (by omega)
 refine VS [1, 6, 25, 26, 27] ?_
 refine Qag ?_
 refine Qaj [1, 6, 25, 26, 27] (fun m e w' => ∃ (i : Nat), Is e [(1, .int .i64 most), (6, .slice (some ⟨g, 0, none⟩) n cap), (25, .slice (some ⟨g, 0, none⟩) n cap), (26, .int .i64 n), (27, .int .i64 i)] /\ Heap w2 [] w' [Res.row 3 1 (some ⟨g, 0, none⟩) n cap (Qam ((l.take i).map (fun x => max x 1) ++ l.drop i))] /\ i <= n /\ m = n - i) n ?_ ?_
 ·
  refine Qs ?_
  exact ⟨0, rfl, by simpa using hH, by omega, rfl⟩
 clear hH
 rintro m e w4 ⟨i, rfl, hH, hi, rfl⟩
 refine VS [1, 6, 25, 26, 27, 28] ?_
 (repeat refine Qaw ?_)
 refine VD (fun h => ?_) (fun h => ?_)
 ·
  obtain ⟨hs1, hs2, hs3⟩ := Qy5 l (fun x => max x 1) (i := i) (by omega)
  have hxi := hx _ (Qbq 0 (l := l) (i := i) (by omega))
  have hcell := Qba (hH.at 0 rfl) (Qb5 (l := (l.take i).map (fun x => max x 1) ++ l.drop i) (i := i) (by omega))
  rw [hs2] at hcell
  generalize l.getD i 0 = x at *
  refine Qac ?_
  refine VB ?_
  refine VQ [1, 6, 7, 8, 25, 26, 27] fun K hK => ?_
  refine ⟨⟨by omega, by omega⟩, _, hcell, ?_⟩
  apply hK;clear hK
  refine VQ [1, 6, 25, 26, 27] fun K hK => ?_
  refine Qp ?_
  rw [show max ((x : Nat) : Int) 1 = ((max x 1 : Nat) : Int) by omega]
  refine Qab ?_;refine Qs ?_;refine Qbf hH 0 (o := (i)) (vs := [.int .i64 (max x 1 : Nat)]) rfl (by first | exact (Qbp _ _ _).symm | rfl | simp [Qbp]) rfl (by kernel_rfl) (by first | omega | (simp;omega) | (simp [Qao, Qbn];omega) | (rw [Qan];simp;omega)) (by simp [Value.oneCell']) fun w6 hH2 => ?_;(try refine Qs ?_)
  simp only [List.length_singleton, Qb2 (Qam ((l.take i).map (fun x => max x 1) ++ l.drop i)) _ _ (show i < (Qam ((l.take i).map (fun x => max x 1) ++ l.drop i)).length by rw [Qan, hs3];omega), Qch, List.set_cons_zero, hs1] at hH2
  apply hK;clear hK
  refine Qar ?_
  refine VS [1, 6, 25, 26, 27] ?_
  refine Qad ?_
  refine Qs ?_
  exact ⟨n - (i + 1), by omega, i + 1, rfl, hH2, by omega, rfl⟩
 obtain rfl : i = n := by omega
 rw [List.take_of_length_le (by omega), List.drop_of_length_le (by omega), List.append_nil] at hH
 refine Qak rfl ?_
 have hown1 : ∀ x ∈ l.map (fun x => max x 1), 1 <= x /\ x <= bnd 40 /\ x <= 2147483648 := fun x hx' => by
  obtain ⟨y, hy, rfl⟩ := List.mem_map.1 hx'
  have := hx y hy
  have e : bnd 40 = 549755813890 := by decide
  omega
 have hownl : (l.map fun x => max x 1).length = i := by simp [hn]
 generalize l.map (fun x => max x 1) = own0 at *
 generalize i = n at *
 clear hn hx hi h
 refine Qag ?_
 refine Qaj [1, 6] (fun m e w' => ∃ (t : Nat) (own : List Nat), Is e [(1, .int .i64 most), (6, .slice (some ⟨g, 0, none⟩) n cap)] /\ Heap w2 [] w' [Res.row 3 1 (some ⟨g, 0, none⟩) n cap (Qam own)] /\ own.length = n /\ (∀ x ∈ own, 1 <= x /\ x <= bnd t /\ x <= 2147483648) /\ res = Qn7 most t own /\ m = t) 40 ?_ ?_
 ·
  refine Qs ?_
  exact ⟨40, own0, rfl, hH, hownl, hown1, hlS, rfl⟩
 clear hH hown1 hownl hlS
 rintro m e w5 ⟨t, own, rfl, hH, hol, hob, hres, rfl⟩
 have hgl := Qhu own
 have hc3 := QBk own (by omega) (by omega) (fun x hx' => ⟨(hob x hx').1, (hob x hx').2.2⟩) (some ⟨g, 0, none⟩) cap w5 (by rw [hol];exact Qa8 (hH.at 0 rfl))
 rw [hol] at hc3 hgl
 refine Qag ?_
 refine VQ [1, 6, 9] fun K hK => ?_
 refine Qaa Tryz.call162 ?_;refine Qs ?_;refine CallK.mk hc3 ?_
 rintro v w6 ⟨a2, cap2, hHg, rfl⟩
 have hH2 := hH.call0 hHg
 clear hH hHg
 simp only [List.singleton_append] at hH2
 apply hK;clear hK
 refine VQ [1, 6, 9, 43] fun K hK => ?_
 refine Qaa Tryz.call163 ?_;refine Qs ?_;refine CallK.mk (Qy1 (Qfk own) (by omega) (by omega) a2 cap2 w6 (Qa8 (hH2.at 0 rfl))) ?_
 rintro v w7 ⟨rfl, rfl⟩
 refine Qs ?_
 apply hK;clear hK
 refine VD (fun h => ?_) (fun h => Qac ?_)
 ·
  have hfin : res = Qfk own := by
   rw [hres]
   cases m with
   | zero => rfl
   | succ t => rw [Qn7, if_pos (by omega)]
  refine VS [4, 5] ?_
  exact Qah (Qa4 rfl rfl rfl ⟨a2, cap2, by rw [hfin];exact hH2.sub (by simp), by rw [hfin]⟩)
 obtain ⟨t, rfl⟩ : ∃ t, m = t + 1 := by
  cases m with
  | succ t => exact ⟨t, rfl⟩
  | zero =>
   have := Qmb (w := own) (by omega) (by omega) (fun x hx' => ⟨(hob x hx').1, (hob x hx').2.1⟩)
   omega
 rw [Qn7, if_neg (by omega)] at hres
 have hH3 : Heap w2 [] w7 [Res.row 3 1 (some ⟨g, 0, none⟩) n cap (Qam own)] := hH2.sub (by simp)
 clear hH2 h
 refine VS [1, 6, 45, 46, 47] ?_
 refine Qag ?_
 refine Qaj [1, 6, 45, 46, 47] (fun m e w' => ∃ (i : Nat), Is e [(1, .int .i64 most), (6, .slice (some ⟨g, 0, none⟩) n cap), (45, .slice (some ⟨g, 0, none⟩) n cap), (46, .int .i64 n), (47, .int .i64 i)] /\ Heap w2 [] w' [Res.row 3 1 (some ⟨g, 0, none⟩) n cap (Qam ((own.take i).map (fun x => x / 2 + 1) ++ own.drop i))] /\ i <= n /\ m = n - i) n ?_ ?_
 ·
  refine Qs ?_
  exact ⟨0, rfl, by simpa using hH3, by omega, rfl⟩
 clear hH3
 rintro m e w8 ⟨i, rfl, hH, hi, rfl⟩
 refine VS [1, 6, 45, 46, 47, 48] ?_
 (repeat refine Qaw ?_)
 refine VD (fun h => ?_) (fun h => ?_)
 ·
  obtain ⟨hs1, hs2, hs3⟩ := Qy5 own (fun x => x / 2 + 1) (i := i) (by omega)
  have hxi := hob _ (Qbq 0 (l := own) (i := i) (by omega))
  have hcell := Qba (hH.at 0 rfl) (Qb5 (l := (own.take i).map (fun x => x / 2 + 1) ++ own.drop i) (i := i) (by omega))
  rw [hs2] at hcell
  generalize own.getD i 0 = x at *
  refine Qac ?_
  refine VB ?_
  refine VQ [1, 6, 10, 11, 45, 46, 47] fun K hK => ?_
  refine ⟨⟨by omega, by omega⟩, _, hcell, ?_⟩
  apply hK;clear hK
  refine VQ [1, 6, 45, 46, 47] fun K hK => ?_
  (repeat first | refine Qo ?_ | refine Qp ?_)
  rw [show ((x : Nat) : Int) / 2 + 1 = ((x / 2 + 1 : Nat) : Int) by omega]
  refine Qab ?_;refine Qs ?_;refine Qbf hH 0 (o := (i)) (vs := [.int .i64 (x / 2 + 1 : Nat)]) rfl (by first | exact (Qbp _ _ _).symm | rfl | simp [Qbp]) rfl (by kernel_rfl) (by first | omega | (simp;omega) | (simp [Qao, Qbn];omega) | (rw [Qan];simp;omega)) (by simp [Value.oneCell']) fun w6 hH2 => ?_;(try refine Qs ?_)
  simp only [List.length_singleton, Qb2 (Qam ((own.take i).map (fun x => x / 2 + 1) ++ own.drop i)) _ _ (show i < (Qam ((own.take i).map (fun x => x / 2 + 1) ++ own.drop i)).length by rw [Qan, hs3];omega), Qch, List.set_cons_zero, hs1] at hH2
  apply hK;clear hK
  refine Qar ?_
  refine VS [1, 6, 45, 46, 47] ?_
  refine Qad ?_
  refine Qs ?_
  exact ⟨n - (i + 1), by omega, i + 1, rfl, hH2, by omega, rfl⟩
 obtain rfl : i = n := by omega
 rw [List.take_of_length_le (by omega), List.drop_of_length_le (by omega), List.append_nil] at hH
 refine Qak rfl ?_
 refine Qar ?_
 refine Qad ?_
 refine Qs ?_
 refine ⟨t, by omega, t, own.map fun x => x / 2 + 1, rfl, hH, by simp [hol], fun x hx' => ?_, hres, rfl⟩
 obtain ⟨y, hy, rfl⟩ := List.mem_map.1 hx'
 have := hob y hy
 exact ⟨by omega, Qyh this.2.1, by omega⟩
def Qb3 (hs : List (Option Addr × Nat)) (T : List (List Nat)) : List Value := List.zipWith (fun h t => .slice h.1 t.length h.2) hs T
theorem Qkb {hs : List (Option Addr × Nat)} {T : List (List Nat)} (h : hs.length = T.length) : (Qb3 hs T).length = T.length := by simp [Qb3, h]
theorem Qc9 {hs : List (Option Addr × Nat)} {T : List (List Nat)} {i : Nat} {h : Option Addr × Nat} {t : List Nat} (h1 : hs[i]? = some h) (h2 : T[i]? = some t) : (Qb3 hs T)[i]? = some (.slice h.1 t.length h.2) := by
 simp [Qb3, List.getElem?_zipWith, h1, h2]
theorem Qxv (hs : List (Option Addr × Nat)) (T : List (List Nat)) : ∀ u ∈ Qb3 hs T, u.oneCell' = true := by
 intro u hu
 obtain ⟨i, hi⟩ := List.mem_iff_getElem?.1 hu
 rw [Qb3, List.getElem?_zipWith] at hi
 split at hi
 ·
  cases hi;rfl
 ·
  cases hi
theorem Qxw {hs : List (Option Addr × Nat)} {T : List (List Nat)} (i : Nat) (h : Option Addr × Nat) (t : List Nat) : (Qb3 hs T).set i (.slice h.1 t.length h.2) = Qb3 (hs.set i h) (T.set i t) := by
 unfold Qb3
 apply List.ext_getElem?
 intro j
 rw [List.getElem?_set, List.getElem?_zipWith, List.getElem?_zipWith, List.getElem?_set, List.getElem?_set]
 by_cases e : i = j
 ·
  subst e
  rw [if_pos rfl, if_pos rfl, if_pos rfl]
  simp only [List.length_zipWith]
  by_cases h1 : i < hs.length
  ·
   by_cases h2 : i < T.length
   ·
    rw [if_pos (by omega), if_pos h1, if_pos h2]
   ·
    rw [if_neg (by omega), if_pos h1, if_neg h2]
  ·
   rw [if_neg (by omega), if_neg h1]
 ·
  rw [if_neg e, if_neg e, if_neg e]
theorem Qu6 {hs : List (Option Addr × Nat)} {T : List (List Nat)} (hl : hs.length = T.length) (h : Option Addr × Nat) (t : List Nat) : Qb3 hs T ++ [.slice h.1 t.length h.2] = Qb3 (hs ++ [h]) (T ++ [t]) := by
 unfold Qb3
 rw [List.zipWith_append hl];rfl
def PlanAt (w : World) (v : Value) (T : List (List Nat)) (P : List Nat) : Prop :=
 ∃ ta tc pa pc, ∃ hs : List (Option Addr × Nat), v = .agg #[.slice ta T.length tc, .slice pa P.length pc] /\ hs.length = T.length /\ RS w ta T.length 1 (Qb3 hs T) /\ RS w pa P.length 1 (Qam P) /\
  ∀ (i : Nat) (h : Option Addr × Nat) (t : List Nat), hs[i]? = some h -> T[i]? = some t -> RS w h.1 t.length 1 (Qam t)
theorem PlanAt.keep {w w' : World} {v : Value} {T : List (List Nat)} {P : List Nat} {G : List Res} (h : PlanAt w v T P) (hH : Heap w [] w' G) : PlanAt w' v T P := by
 obtain ⟨ta, tc, pa, pc, hs, h1, h2, h3, h4, h5⟩ := h
 exact ⟨ta, tc, pa, pc, hs, h1, h2, hH.rs' h3, hH.rs' h4, fun i h t a b => hH.rs' (h5 i h t a b)⟩
def Qaq (ta : Option Addr) (nt tc : Nat) (pa : Option Addr) (np pc : Nat) : List Value := [.slice ta nt tc, .slice pa np pc]
theorem Qml (l : List Nat) (n : Nat) (hm : Qgk l n) (a : Option Addr) (lc : Nat) (w : World) (hr : RS w a l.length 1 (Qam l)) :
  Does Tryz.prog 129 #[.slice a l.length lc, .int .i64 n] w fun v w' => w' = w /\ v = .bool true := by
 obtain ⟨h1, h2, h3, h4, h5⟩ := hm
 obtain ⟨p, rfl⟩ := Qcy hr (by omega)
 refine En [.slice (some p) l.length lc, .int .i64 n] 37 Tryz.func129 ?_
 generalize hn : l.length = m at *
 refine VS [0, 1] ?_
 refine VQ [0, 1, 22] fun K hK => ?_
 suffices out : ∀ b : Bool, (b = true ↔ False) -> K [(0, .slice (some p) m lc), (1, .int .i64 n), (22, .bool b)] w by (repeat' (first | exact out _ _ (by first | omega | (simp;done) | (simp;omega)) | exact out _ (by first | omega | (simp;done) | (simp;omega)) | refine ⟨fun _ => ?_, fun _ => ?_⟩ | refine Qo ?_))
 intro b hb
 apply hK;clear hK
 refine Qai rfl rfl (fun h => (hb.1 h).elim) (fun h => Qac ?_)
 clear hb h
 refine VS [1, 23, 24, 25] ?_
 refine Qag ?_
 refine Qaj [1, 23, 24, 25] (fun m' e w' => ∃ (i : Nat), Is e [(1, .int .i64 n), (23, .slice (some p) m lc), (24, .int .i64 m), (25, .int .i64 i)] /\ Is w' w /\ i <= m /\ m' = m - i) m ?_ ?_
 ·
  refine Qs ?_
  exact ⟨0, rfl, rfl, by omega, rfl⟩
 rintro m' e w' ⟨i, rfl, rfl, hi, rfl⟩
 refine VS [1, 23, 24, 25, 26] ?_
 (repeat refine Qaw ?_)
 refine Vi (fun h => ?_) (fun h => ?_)
 ·
  simp only [decide_eq_true_eq] at h
  have hcell := Qdl hr (i := i) (by omega)
  have hx := h5 _ (Qbq 0 (l := l) (i := i) (by omega))
  generalize l.getD i 0 = x at *
  refine Qac ?_
  refine VB ?_
  refine VQ [1, 6, 23, 24, 25] fun K hK => ?_
  refine ⟨⟨by omega, by omega⟩, _, hcell, ?_⟩
  apply hK;clear hK
  refine VQ [1, 23, 24, 25, 35] fun K hK => ?_
  suffices out : ∀ b : Bool, (b = true ↔ False) -> K [(1, .int .i64 n), (23, .slice (some p) m lc), (24, .int .i64 m), (25, .int .i64 i), (35, .bool b)] w' by (repeat' (first | exact out _ _ (by first | omega | (simp;done) | (simp;omega)) | exact out _ (by first | omega | (simp;done) | (simp;omega)) | refine ⟨fun _ => ?_, fun _ => ?_⟩ | refine Qo ?_))
  intro b hb
  apply hK;clear hK
  refine Qai rfl rfl (fun h => (hb.1 h).elim) (fun h => Qac ?_)
  refine Qar ?_
  refine VS [1, 23, 24, 25] ?_
  refine Qad ?_
  refine Qs ?_
  exact ⟨m - (i + 1), by omega, i + 1, rfl, rfl, by omega, rfl⟩
 ·
  refine Qak rfl ?_
  refine VS [4] ?_
  exact Qah (Qat rfl rfl ⟨rfl, rfl⟩)
theorem Qh3 (m : Nat) (hm : m <= 1000000000) (w : World) : Does Tryz.prog 83 #[.int .i64 m] w fun v w' => w' = w /\ v = .int .i64 (Qb8 m : Nat) := by
 refine En [.int .i64 m] 7 Tryz.func83 ?_
 refine VS [0] ?_
 refine VQ [2] fun K hK => ?_
 (repeat first | refine Qo ?_ | refine Qp ?_)
 rw [show ((m : Int) + 50 - 1) / 50 = ((Qb8 m : Nat) : Int) by unfold Qb8;omega]
 apply hK;clear hK
 exact Qah (Qat rfl rfl ⟨rfl, rfl⟩)
theorem Qq1 (l : List Nat) (k : Nat) (hk : 50 * k < l.length) (hl : l.length <= 1000000000) (p : Addr) (lc : Nat) (hlc : l.length <= lc) (w : World) :
  Does Tryz.prog 132 #[.slice (some p) l.length lc, .int .i64 k] w fun v w' => w' = w /\ v = .slice (some (p.add (50 * k))) (Qc5 l k).length (lc - 50 * k) := by
 have hcl : (Qc5 l k).length = min 50 (l.length - 50 * k) := by simp [Qc5]
 refine En [.slice (some p) l.length lc, .int .i64 k] 15 Tryz.func132 ?_
 generalize hn : l.length = n at *
 refine VS [0, 1] ?_
 refine VQ [4] fun K hK => ?_
 (repeat (first | refine Qo ?_ | refine ⟨I64.mk (by omega) (by omega), ?_⟩ | refine ⟨⟨by omega, by omega, by omega⟩, ?_⟩))
 rw [if_neg (by omega), show ((k : Int) * 50).toNat = 50 * k by omega, show (min (n : Int) (((k : Int) + 1) * 50)).toNat - 50 * k = (Qc5 l k).length by rw [hcl];omega]
 apply hK;clear hK
 exact Qah (Qat rfl rfl ⟨rfl, rfl⟩)
theorem Qy6 {w : World} {l : List Nat} {p : Addr} (hr : RS w (some p) l.length 1 (Qam l)) (hp : p.spot = none) {k : Nat} (hk : 50 * k < l.length) : RS w (some (p.add (50 * k))) (Qc5 l k).length 1 (Qam (Qc5 l k)) := by
 have h1 := hr.drop hp (50 * k) (by omega)
 rw [Nat.mul_one] at h1
 have h2 := h1.take (Qc5 l k).length (by simp [Qc5];omega)
 rw [Nat.mul_one, Qqy, Qly] at h2
 have e : (l.drop (50 * k)).take (Qc5 l k).length = Qc5 l k := by
  unfold Qc5
  rw [List.length_take, List.take_eq_take_iff]
  omega
 rwa [e] at h2
theorem Qxx (m : Nat) (h1 : 1 <= m) (hm : m <= 1000000000) (w : World) : Does Tryz.prog 130 #[.int .i64 m] w fun v w' => w' = w /\ v = .tuple #[.int .i64 (Qel m : Nat), .int .i64 0] := by
 refine En [.int .i64 m] 19 Tryz.func130 ?_
 refine VS [0] ?_
 refine VS [0, 7] ?_
 refine Qai rfl rfl (fun h => by simp at h;omega) (fun h => Qac ?_)
 refine VQ [0, 8, 9] fun K hK => ?_
 suffices hsuf : ∀ x : Array Value, x = (Qam [200, 600, 1200, 2400]).toArray -> K [(0, .int .i64 m), (8, .agg x), (9, .int .i64 0)] w from hsuf _ (by kernel_rfl)
 rintro x rfl
 apply hK;clear hK
 refine Qag ?_
 refine Qaj [0, 8, 9] (fun m' e w' => ∃ (i : Nat), Is e [(0, .int .i64 m), (8, .agg (Qam [200, 600, 1200, 2400]).toArray), (9, .int .i64 i)] /\ Is w' w /\ i <= 4 /\ (∀ j, j < i -> [200, 600, 1200, 2400].getD j 0 <= m) /\ m' = 4 - i) 4 ?_ ?_
 ·
  refine Qs ?_
  exact ⟨0, rfl, rfl, by omega, fun j hj => by omega, rfl⟩
 rintro m' e w' ⟨i, rfl, rfl, hi, hj, rfl⟩
 refine VS [0, 8, 9, 10] ?_
 (repeat refine Qaw ?_)
 refine VD (fun h => ?_) (fun h => ?_)
 ·
  have hvn : vNth (Qam [200, 600, 1200, 2400]) i = fun K => K (.int .i64 ([200, 600, 1200, 2400].getD i 0 : Nat)) := by
   funext K
   exact Qxi (Qb5 (by simp;omega))
  refine Qac ?_
  refine VB ?_
  refine VQ [0, 4, 5, 8, 9] fun K hK => ?_
  rw [hvn]
  dsimp only
  refine Qp ?_
  apply hK;clear hK
  refine VS [0, 4, 8, 9, 15] ?_
  refine VD (fun h => ?_) (fun h => Qac ?_)
  ·
   have ht : Qel m = i + 2 := by
    have h0 := hj 0
    have h1' := hj 1
    have h2 := hj 2
    match i, hi, h, h0, h1', h2 with
    | 0, _, h, _, _, _ => simp at h;unfold Qel;rw [if_pos (by omega)]
    | 1, _, h, h0, _, _ => simp at h h0;unfold Qel;rw [if_neg (by omega), if_pos (by omega)]
    | 2, _, h, h0, h1', _ => simp at h h0 h1';unfold Qel;rw [if_neg (by omega), if_neg (by omega), if_pos (by omega)]
    | 3, _, h, h0, h1', h2 => simp at h h0 h1' h2;unfold Qel;rw [if_neg (by omega), if_neg (by omega), if_neg (by omega), if_pos (by omega)]
    | 4, _, h, _, _, _ => exact absurd h (by simp)
   refine VS [2, 3] ?_
   exact Qah (Qa4 rfl rfl rfl ⟨rfl, by rw [ht];rfl⟩)
  refine Qar ?_
  refine VS [0, 8, 9] ?_
  refine Qad ?_
  refine Qs ?_
  refine ⟨4 - (i + 1), by omega, i + 1, rfl, rfl, by omega, fun j hj2 => ?_, rfl⟩
  by_cases e : j = i
  ·
   rw [e];omega
  ·
   exact hj j (by omega)
 ·
  have h0 := hj 0 (by omega)
  have h1' := hj 1 (by omega)
  have h2 := hj 2 (by omega)
  have h3 := hj 3 (by omega)
  simp at h0 h1' h2 h3
  have ht : Qel m = 6 := by unfold Qel;rw [if_neg (by omega), if_neg (by omega), if_neg (by omega), if_neg (by omega)]
  refine Qak rfl ?_
  refine VS [2, 3] ?_
  exact Qah (Qa4 rfl rfl rfl ⟨rfl, by rw [ht];rfl⟩)
theorem Qmm (m : Nat) (h0 : 0 < m) (hm : m <= 1000000) (w : World) : Does Tryz.prog 80 #[.int .i64 m] w fun v w' => ∃ g, Heap w [] w' [Res.row 3 1 (some ⟨g, 0, none⟩) m m (Qam (List.range m))] /\ v = .slice (some ⟨g, 0, none⟩) m m := by
 refine En [.int .i64 m] 18 Tryz.func80 ?_
 refine VS [0] ?_
 refine VQ [3] fun K hK => ?_
 refine Qbw Tryz.underlying36 zi3 ?_
 refine Qs ?_
 refine ⟨m, m, ⟨rfl, rfl, by omega, by omega, by omega⟩, ?_⟩
 have hH := (Heap.start w).row 3 (n := m) (cap := m) (sz := 1) (Qam (List.replicate m 0)) [] (by simp [Qan]) (by simp [Qan]) (by omega) (by omega)
 rw [List.append_nil, Qcs] at hH
 generalize w.alloc (Obj.cells (List.replicate m (Value.int IntKind.i64 0)).toArray 3) = w1 at *
 generalize w.heap.size = go at *
 rw [<- Qcs] at hH
 apply hK;clear hK
 refine VS [3, 8, 9] ?_
 refine Qag ?_
 refine Qaj [3, 8, 9] (fun m' e w' => ∃ (i : Nat), Is e [(3, .slice (some ⟨go, 0, none⟩) m m), (8, .int .i64 m), (9, .int .i64 i)] /\ Heap w [] w' [Res.row 3 1 (some ⟨go, 0, none⟩) m m (Qam (List.range i ++ List.replicate (m - i) 0))] /\ i <= m /\ m' = m - i) m ?_ ?_
 ·
  refine Qs ?_
  exact ⟨0, rfl, by simpa using hH, by omega, rfl⟩
 clear hH
 rintro m' e w' ⟨i, rfl, hH, hi, rfl⟩
 refine VS [3, 8, 9, 10] ?_
 (repeat refine Qaw ?_)
 refine VD (fun h => ?_) (fun h => ?_)
 ·
  have hset : (List.range i ++ List.replicate (m - i) 0).set i i = List.range (i + 1) ++ List.replicate (m - (i + 1)) 0 := by
   obtain ⟨q, hq⟩ : ∃ q, m - i = q + 1 := ⟨m - i - 1, by omega⟩
   rw [hq, List.replicate_succ, List.set_append_right _ _ (by simp), List.length_range, Nat.sub_self, List.set_cons_zero, List.range_succ, List.append_assoc, show m - (i + 1) = q by omega]
   rfl
  have hlen : (List.range i ++ List.replicate (m - i) 0).length = m := by simp;omega
  refine Qac ?_
  refine VB ?_
  refine VS [3, 4, 8, 9] ?_
  refine VQ [3, 8, 9] fun K hK => ?_
  refine Qp ?_
  refine Qab ?_;refine Qs ?_;refine Qbf hH 0 (o := (i)) (vs := [.int .i64 (i : Nat)]) rfl (by first | exact (Qbp _ _ _).symm | rfl | simp [Qbp]) rfl (by kernel_rfl) (by first | omega | (simp;omega) | (simp [Qao, Qbn];omega) | (rw [Qan];simp;omega)) (by simp [Value.oneCell']) fun w6 hH2 => ?_;(try refine Qs ?_)
  simp only [List.length_singleton, Qb2 (Qam (List.range i ++ List.replicate (m - i) 0)) _ _ (show i < (Qam (List.range i ++ List.replicate (m - i) 0)).length by rw [Qan, hlen];omega), Qch, List.set_cons_zero, hset] at hH2
  apply hK;clear hK
  refine Qar ?_
  refine VS [3, 8, 9] ?_
  refine Qad ?_
  refine Qs ?_
  exact ⟨m - (i + 1), by omega, i + 1, rfl, hH2, by omega, rfl⟩
 ·
  obtain rfl : i = m := by omega
  rw [Nat.sub_self, List.replicate_zero, List.append_nil] at hH
  refine Qak rfl ?_
  refine VS [2] ?_
  exact Qah (Qat rfl rfl ⟨go, hH, rfl⟩)
theorem Qmn (li : List Nat) (g cap at_ : Nat) (hat : at_ < li.length) (hl : li.length <= 1000000000000) (w0 w : World) (B : List Nat) (G : List Res) (hL : Heap w0 B w (Res.row 3 1 (some ⟨g, 0, none⟩) li.length cap (Qam li) :: G)) :
  Does Tryz.prog 81 #[.slice (some ⟨g, 0, none⟩) li.length cap, .int .i64 at_] w
   fun v w' => Heap w0 B w' (Res.row 3 1 (some ⟨g, 0, none⟩) li.length cap (Qam (Qfw li at_)) :: G) /\ v = .int .i64 (li.getD at_ 0 : Nat) := by
 refine En [.slice (some ⟨g, 0, none⟩) li.length cap, .int .i64 at_] 22 Tryz.func81 ?_
 refine VS [0, 1] ?_
 refine VQ [0, 1, 5] fun K hK => ?_
 (repeat (first | refine Qo ?_ | refine Qp ?_ | (refine ⟨_, (by first | exact Qaf (hL.at 0 rfl) rfl | exact Qba (hL.at 0 rfl) (bytesV_get (by omega)) | exact Qba (hL.at 0 rfl) (Qdi (by omega)) | exact Qba (hL.at 0 rfl) (Qb5 (by omega)) | exact Qaf (hL.at 1 rfl) rfl | exact Qba (hL.at 1 rfl) (bytesV_get (by omega)) | exact Qba (hL.at 1 rfl) (Qdi (by omega)) | exact Qba (hL.at 1 rfl) (Qb5 (by omega)) | exact Qaf (hL.at 2 rfl) rfl | exact Qba (hL.at 2 rfl) (bytesV_get (by omega)) | exact Qba (hL.at 2 rfl) (Qdi (by omega)) | exact Qba (hL.at 2 rfl) (Qb5 (by omega)) | exact Qaf (hL.at 3 rfl) rfl | exact Qba (hL.at 3 rfl) (bytesV_get (by omega)) | exact Qba (hL.at 3 rfl) (Qdi (by omega)) | exact Qba (hL.at 3 rfl) (Qb5 (by omega))), ?_⟩;(try refine Qs ?_))))
 apply hK;clear hK
 refine VL [0, 5] 7 fun K hK => ?_
 obtain ⟨hx1, hx2, hx3, hx4⟩ := hL.at 0 rfl
 clear hx1 hx4
 refine ⟨I64.mk (by omega) (by omega), ⟨by omega, by omega, by omega⟩, ⟨by omega, by omega⟩, ?_⟩
 have hsrc : RS w (some ⟨g, 0, none⟩) at_ 1 (Qam (li.take at_)) := by
  rw [<- Qly]
  have h := (Qa8 (hL.at 0 rfl)).take at_ (by omega)
  rwa [Nat.mul_one] at h
 suffices hall : ∀ w5, Heap w0 B w5 (Res.row 3 1 (some ⟨g, 0, none⟩) li.length cap (Qam (li.take 1 ++ li.take at_ ++ li.drop (at_ + 1))) :: G) -> K [(0, .slice (some ⟨g, 0, none⟩) li.length cap), (5, .int .i64 (li.getD at_ 0 : Nat))] w5 by
  refine Qnu ?_
  refine Qs ?_
  by_cases hc1 : cap = 1
  ·
   have h0 : at_ = 0 := by omega
   subst h0
   rw [if_pos (by rw [hc1];rfl)]
   refine Qim hL 0 rfl Tryz.underlying36 sz3 (off := 0) rfl ⟨rfl, hsrc, 3, Tryz.underlying36⟩ (Qgn _) (by simp) fun w5 hu hH4 => ?_
   refine hall w5 ?_
   rw [show li.take 1 ++ li.take 0 ++ li.drop (0 + 1) = li by rw [List.take_zero, List.append_nil];exact List.take_append_drop 1 li]
   simpa using hH4
  ·
   rw [if_neg (by rw [show Int.toNat 1 = 1 from rfl];exact hc1)]
   simp only [Option.map_some]
   refine Qim hL 0 rfl Tryz.underlying36 sz3 (off := 1) rfl ⟨rfl, hsrc, 3, Tryz.underlying36⟩ (Qgn _) (by rw [Qan, show Int.toNat 1 = 1 from rfl];omega) fun w5 hu hH4 => ?_
   refine hall w5 ?_
   have e : min at_ (at_ + 1 - Int.toNat 1) * 1 = at_ := by rw [show Int.toNat 1 = 1 from rfl];omega
   simp only [e, List.set_cons_zero] at hH4
   rw [Qe3, Qe3, <- Qly, <- Qqy]
   have e5 : (Qam (li.take at_)).take at_ = Qam (li.take at_) := List.take_of_length_le (by rw [Qan, List.length_take];omega)
   rw [e5, show 1 + at_ = at_ + 1 by omega] at hH4
   exact hH4
 intro w5 hH
 apply hK;clear hK
 have hlen : (li.take 1 ++ li.take at_ ++ li.drop (at_ + 1)).length = li.length := by simp;omega
 have hmv : (li.take 1 ++ li.take at_ ++ li.drop (at_ + 1)).set 0 (li.getD at_ 0) = Qfw li at_ := by
  cases li with
  | nil => simp at hat
  | cons x r => simp [Qfw]
 generalize li.take 1 ++ li.take at_ ++ li.drop (at_ + 1) = li2 at *
 refine VQ [5] fun K hK => ?_
 refine Qp ?_
 refine Qab ?_;refine Qs ?_;refine Qbf hH 0 (o := (0)) (vs := [.int .i64 (li.getD at_ 0 : Nat)]) rfl (by first | exact (Qbp _ _ _).symm | rfl | simp [Qbp]) rfl (by kernel_rfl) (by first | omega | (simp;omega) | (simp [Qao, Qbn];omega) | (rw [Qan];simp;omega)) (by simp [Value.oneCell']) fun w6 hH2 => ?_;(try refine Qs ?_)
 simp only [List.length_singleton, Qb2 (Qam li2) _ _ (show 0 < (Qam li2).length by rw [Qan];omega), Qch, List.set_cons_zero, hmv] at hH2
 apply hK;clear hK
 refine VS [4] ?_
 exact Qah (Qat rfl rfl ⟨hH2, rfl⟩)
theorem Qi1 (v : Value) (T : List (List Nat)) (P : List Nat) (hm : mayP T P) (w : World) (hp : PlanAt w v T P) : Does Tryz.prog 79 #[v] w fun x w' => Heap w [] w' [] /\ x = .bool true := by
 obtain ⟨ta, tc, pa, pc, hs, rfl, hsl, hrT, hrP, hrt⟩ := hp
 obtain ⟨m1, m2, m3, m4, m5, m6⟩ := hm
 obtain ⟨qt, rfl⟩ := Qcy hrT (by omega)
 obtain ⟨qp, rfl⟩ := Qcy hrP (by omega)
 have hen : #[Value.agg #[.slice (some qt) T.length tc, .slice (some qp) P.length pc]] = [Value.agg (Qaq (some qt) T.length tc (some qp) P.length pc).toArray].toArray := rfl
 rw [hen]
 refine Qfl 72 Tryz.func79 rfl rfl (of_decide_eq_true rfl) ?_
 simp only [Env.ofArgs]
 generalize hnt : T.length = nt at *
 generalize hnp : P.length = np at *
 refine VQ [1] fun K hK => ?_
 refine Qcg ?_
 refine Qs ?_
 have hH := (Heap.start w).box 65 (Qaq (some qt) nt tc (some qp) np pc)
 generalize w.alloc (Obj.cells (Qaq (some qt) nt tc (some qp) np pc).toArray 65) = w1 at *
 generalize w.heap.size = gp at *
 have c0 : w1.cell? ⟨gp, 0, none⟩ = some (.slice (some qt) nt tc) := Qaf (hH.at 0 rfl) rfl
 have c1 : w1.cell? ⟨gp, 1, none⟩ = some (.slice (some qp) np pc) := Qaf (hH.at 0 rfl) rfl
 apply hK;clear hK
 refine VQ [1, 28] fun K hK => ?_
 suffices out : ∀ b : Bool, (b = true ↔ False) -> K [(1, .pointer (some ⟨gp, 0, none⟩)), (28, .bool b)] w1 by
  refine ⟨_, c0, ?_⟩
  refine Qs ?_
  refine ⟨fun _ => ⟨_, c0, ?_⟩, fun h2 => absurd h2 (by omega)⟩
  refine Qs ?_
  refine ⟨fun _ => ⟨_, c1, ?_⟩, fun h2 => absurd h2 (by omega)⟩
  refine Qs ?_
  refine ⟨fun _ => ⟨_, c1, ?_⟩, fun h2 => absurd h2 (by omega)⟩
  refine Qs ?_
  exact out _ (by simp;omega)
 intro b hb
 apply hK;clear hK
 refine Qai rfl rfl (fun h => (hb.1 h).elim) (fun h => Qac ?_)
 clear hb h
 have hT0 : T[0]? = some (T.getD 0 []) := by rw [List.getD_eq_getElem?_getD, List.getElem?_eq_getElem (by omega)];rfl
 refine VQ [1, 30, 31, 32] fun K hK => ?_
 refine ⟨_, c0, ?_⟩
 refine Qs ?_
 apply hK;clear hK
 refine Qag ?_
 refine Qaj [1, 30, 31, 32] (fun m e w' => ∃ (i : Nat), Is e [(1, .pointer (some ⟨gp, 0, none⟩)), (30, .slice (some qt) nt tc), (31, .int .i64 nt), (32, .int .i64 i)] /\ Is w' w1 /\ i <= nt /\ m = nt - i) nt ?_ ?_
 ·
  refine Qs ?_
  exact ⟨0, rfl, rfl, by omega, rfl⟩
 rintro m e w2 ⟨i, rfl, rfl, hi, rfl⟩
 refine VS [1, 30, 31, 32, 33] ?_
 (repeat refine Qaw ?_)
 refine VD (fun h => ?_) (fun h => ?_)
 ·
  have hTi : T[i]? = some (T.getD i []) := by rw [List.getD_eq_getElem?_getD, List.getElem?_eq_getElem (by omega)];rfl
  obtain ⟨hh, hhi⟩ : ∃ hh, hs[i]? = some hh := ⟨_, List.getElem?_eq_getElem (by omega)⟩
  obtain ⟨h0, hh0⟩ : ∃ h0, hs[0]? = some h0 := ⟨_, List.getElem?_eq_getElem (by omega)⟩
  have hrs := hH.rs' hrT
  have hci := hrs.2.2 qt rfl i _ (Qc9 hhi hTi)
  have hc0 := hrs.2.2 qt rfl 0 _ (Qc9 hh0 hT0)
  have hrt2 := hH.rs' (hrt i hh _ hhi hTi)
  obtain ⟨e1, e2, e3⟩ := m5 _ (List.mem_of_getElem? hTi)
  have hck := Qh1 (T.getD i []) hh.1 hh.2 w2 hrt2
  rw [if_pos (Qna.2 e3)] at hck
  generalize T.getD i [] = t at *
  generalize T.getD 0 [] = t0 at *
  refine Qac ?_
  refine VB ?_
  refine VQ [1, 4, 30, 31, 32] fun K hK => ?_
  refine ⟨⟨by omega, by omega⟩, _, hci, ?_⟩
  apply hK;clear hK
  refine VQ [1, 30, 31, 32, 53] fun K hK => ?_
  refine ⟨_, c0, ?_⟩
  refine Qs ?_
  refine ⟨by omega, _, hc0, ?_⟩
  refine Qs ?_
  refine ⟨fun _ => ⟨fun _ => ?_, fun h2 => absurd h2 (by omega)⟩, fun h2 => absurd h2 (by omega)⟩
  refine Qaa Tryz.call103 ?_;refine Qs ?_;refine CallK.mk hck ?_
  rintro v w3 ⟨rfl, rfl⟩
  refine Qs ?_
  apply hK;clear hK
  refine Qai rfl rfl (fun h => by simp at h) (fun h => Qac ?_)
  refine Qar ?_
  refine VS [1, 30, 31, 32] ?_
  refine Qad ?_
  refine Qs ?_
  exact ⟨nt - (i + 1), by omega, i + 1, rfl, rfl, by omega, rfl⟩
 refine Qak rfl ?_
 refine VQ [1, 56, 57, 58] fun K hK => ?_
 refine ⟨_, c1, ?_⟩
 refine Qs ?_
 apply hK;clear hK
 refine Qag ?_
 refine Qaj [1, 56, 57, 58] (fun m e w' => ∃ (i : Nat), Is e [(1, .pointer (some ⟨gp, 0, none⟩)), (56, .slice (some qp) np pc), (57, .int .i64 np), (58, .int .i64 i)] /\ Is w' w2 /\ i <= np /\ m = np - i) np ?_ ?_
 ·
  refine Qs ?_
  exact ⟨0, rfl, rfl, by omega, rfl⟩
 rintro m e w3 ⟨j, rfl, rfl, hj, rfl⟩
 refine VS [1, 56, 57, 58, 59] ?_
 (repeat refine Qaw ?_)
 refine Vi (fun h => ?_) (fun h => ?_)
 ·
  simp only [decide_eq_true_eq] at h
  have hcell := Qdl (hH.rs' hrP) (i := j) (by omega)
  have hx := m6 _ (Qbq 0 (l := P) (i := j) (by omega))
  generalize P.getD j 0 = x at *
  refine Qac ?_
  refine VB ?_
  refine VQ [1, 6, 56, 57, 58] fun K hK => ?_
  refine ⟨⟨by omega, by omega⟩, _, hcell, ?_⟩
  apply hK;clear hK
  refine VQ [1, 56, 57, 58, 70] fun K hK => ?_
  refine ⟨fun _ => ⟨_, c0, ?_⟩, fun h2 => absurd h2 (by omega)⟩
  refine Qs ?_
  rw [decide_eq_false (show ¬ ((nt : Int) <= x) by omega)]
  apply hK;clear hK
  refine Qai rfl rfl (fun h => by simp at h) (fun h => Qac ?_)
  refine Qar ?_
  refine VS [1, 56, 57, 58] ?_
  refine Qad ?_
  refine Qs ?_
  exact ⟨np - (j + 1), by omega, j + 1, rfl, rfl, by omega, rfl⟩
 ·
  refine Qak rfl ?_
  refine VS [2] ?_
  exact Qah (Qat rfl rfl ⟨hH.sub (by simp), rfl⟩)
theorem Qov : ∀ (li : List Nat) (c i : Nat), i < li.idxOf c -> li.getD i 0 ≠ c
 | [], c, i, h => by simp at h
 | x :: li, c, i, h => by
  rw [List.idxOf_cons] at h
  by_cases e : x = c
  ·
   subst e;simp at h
  ·
   have : (x == c) = false := by simpa using e
   rw [this] at h
   simp only [cond_false] at h
   cases i with
   | zero => simpa using e
   | succ i =>
    have := Qov li c i (by omega)
    simpa using this
theorem Qkc : ∀ (P li : List Nat), (∀ k ∈ P, k ∈ li) -> (Qd1 li P).length <= P.length * li.length
 | [], li, _ => by simp [Qd1]
 | p :: P, li, h => by
  have h1 := List.idxOf_lt_length_iff.2 (h p (by simp))
  have h2 := Qkc P (Qfw li (li.idxOf p)) fun k hk => (Qjb h1 k).2 (h k (by simp [hk]))
  rw [Qhg h1] at h2
  simp only [Qd1, List.length_append, List.length_replicate, List.length_cons, Nat.succ_mul]
  omega
theorem Qec (ls : List (List Bool)) (l : List Bool) : Qcu ls ++ Qa7 l = Qcu (ls ++ [l]) := by simp [Qcu]
theorem Qbt (l : List Bool) : ∀ u ∈ Qa7 l, u.oneCell' = true := by
 intro u hu
 simp [Qa7] at hu
 rcases hu with rfl | rfl <;> rfl
theorem Qk0 (v : Value) (T : List (List Nat)) (P : List Nat) (hm : mayP T P) (w : World) (hp : PlanAt w v T P) : Does Tryz.prog 40 #[v] w fun x w' => Heap w [] w' [] /\ x = .tuple #[Qkl (Qbz T P), .int .i64 0] := by
 have hp0 := hp
 obtain ⟨ta, tc, pa, pc, hs, rfl, hsl, hrT, hrP, hrt⟩ := hp
 have hm0 := hm
 obtain ⟨m1, m2, m3, m4, m5, m6⟩ := hm
 obtain ⟨qt, rfl⟩ := Qcy hrT (by omega)
 obtain ⟨qp, rfl⟩ := Qcy hrP (by omega)
 have hen : #[Value.agg #[.slice (some qt) T.length tc, .slice (some qp) P.length pc]] = [Value.agg (Qaq (some qt) T.length tc (some qp) P.length pc).toArray].toArray := rfl
 have hpb : Qbz T P = ([Qbc 3 T.length ++ (Qbc 15 P.length ++ Qd1 (List.range T.length) P)] ++ T.map Qcq).flatten := by
  simp [Qbz, List.flatMap, List.append_assoc]
 rw [hen, hpb]
 refine Qfl 85 Tryz.func40 rfl rfl (of_decide_eq_true rfl) ?_
 simp only [Env.ofArgs]
 have hpl := Qkc P (List.range T.length) (fun k hk => by simpa using m6 k hk)
 have hpl2 : P.length * (List.range T.length).length <= 32767 * 6 := Nat.mul_le_mul m4 (by simpa using m2)
 generalize hnt : T.length = nt at *
 generalize hnp : P.length = np at *
 refine VQ [1, 2] fun K hK => ?_
 refine Qcg ?_
 refine Qs ?_
 have hH := (Heap.start w).box 65 (Qaq (some qt) nt tc (some qp) np pc)
 generalize w.alloc (Obj.cells (Qaq (some qt) nt tc (some qp) np pc).toArray 65) = w1 at *
 generalize w.heap.size = gp at *
 refine Qal (.agg #[.string ⟨#[]⟩, .int .i64 0]) (by kernel_rfl) ?_
 refine Qs ?_
 have hH1 := hH.box 24 [.string ⟨#[]⟩, .int .i64 0]
 generalize w1.alloc (Obj.cells [Value.string ⟨#[]⟩, .int .i64 0].toArray 24) = w2 at *
 generalize w1.heap.size = gr at *
 clear hH
 apply hK;clear hK
 refine VQ [1, 2, 16] fun K hK => ?_
 refine ⟨Qaq (some qt) nt tc (some qp) np pc, ⟨rfl, Qa1 (hH1.at 1 rfl)⟩, ?_⟩
 have hmc := Qi1 _ T P hm0 w2 (hp0.keep hH1)
 refine Qaa Tryz.call79 ?_;refine Qs ?_;refine CallK.mk hmc ?_
 rintro v w3 ⟨hHm, rfl⟩
 have hH2 := hH1.call0 hHm
 simp only [List.nil_append] at hH2
 clear hH1 hHm hmc
 refine Qs ?_
 apply hK;clear hK
 refine Qai rfl rfl (fun h => by simp at h) (fun h => Qac ?_)
 clear h
 refine VQ [1, 2, 4] fun K hK => ?_
 refine Qaa Tryz.call35 ?_;refine Qs ?_;refine CallK.mk (Qc7 w3) ?_
 rintro v w4 ⟨gw, hHw, rfl⟩
 have hH3 := hH2.call0 hHw
 simp only [List.singleton_append] at hH3
 clear hH2 hHw
 apply hK;clear hK
 refine VQ [1, 2, 4] fun K hK => ?_
 refine ⟨_, Qaf (hH3.at 2 rfl) (show (Qaq (some qt) nt tc (some qp) np pc)[0]? = some _ from rfl), ?_⟩
 refine Qs ?_
 rw [show ((nt : Int) % 18446744073709551616) = nt by omega]
 refine Qaa Tryz.call36 ?_;refine Qs ?_;refine CallK.mk (Qcv gw none 0 [] nt 3 w4 (by omega) (by omega) (by simp) (hH3.focus 0 rfl)) ?_
 rintro v w5 ⟨a5, c5, hHp, rfl⟩
 have hH4 := hH3.call1 0 rfl hHp
 simp only [List.set_cons_zero, List.nil_append] at hH4
 clear hH3 hHp
 apply hK;clear hK
 refine VQ [1, 2, 4] fun K hK => ?_
 refine ⟨_, Qaf (hH4.at 2 rfl) (show (Qaq (some qt) nt tc (some qp) np pc)[1]? = some _ from rfl), ?_⟩
 refine Qs ?_
 rw [show ((np : Int) % 18446744073709551616) = np by omega]
 refine Qaa Tryz.call36 ?_;refine Qs ?_;refine CallK.mk (Qcv gw a5 c5 _ np 15 w5 (by omega) (by omega) (by rw [Qas];omega) (hH4.focus 0 rfl)) ?_
 rintro v w6 ⟨a6, c6, hHp, rfl⟩
 have hH5 := hH4.call1 0 rfl hHp
 simp only [List.set_cons_zero, List.nil_append] at hH5
 clear hH4 hHp
 apply hK;clear hK
 refine VQ [1, 2, 4, 5] fun K hK => ?_
 refine ⟨_, Qaf (hH5.at 2 rfl) (show (Qaq (some qt) nt tc (some qp) np pc)[0]? = some _ from rfl), ?_⟩
 refine Qs ?_
 refine Qaa Tryz.call80 ?_;refine Qs ?_;refine CallK.mk (Qmm nt (by omega) (by omega) w6) ?_
 rintro v w7 ⟨go, hHo, rfl⟩
 have hH6 := hH5.call0 hHo
 simp only [List.singleton_append] at hH6
 clear hH5 hHo
 apply hK;clear hK
 refine VQ [1, 2, 4, 5, 36, 37, 38] fun K hK => ?_
 refine ⟨_, Qaf (hH6.at 3 rfl) (show (Qaq (some qt) nt tc (some qp) np pc)[1]? = some _ from rfl), ?_⟩
 refine Qs ?_
 apply hK;clear hK
 generalize hFull : Qbc 3 nt ++ (Qbc 15 np ++ Qd1 (List.range nt) P) = Full at *
 have hFl : Full.length <= 300000 := by
  rw [<- hFull];simp only [List.length_append, Qas];omega
 refine Qag ?_
 refine Qaj [1, 2, 4, 5, 36, 37, 38] (fun m e w' => ∃ (i : Nat) (li : List Nat) (X : List Bool) (a : Option Addr) (c : Nat), Is e [(1, .pointer (some ⟨gp, 0, none⟩)), (2, .pointer (some ⟨gr, 0, none⟩)), (4, .pointer (some ⟨gw, 0, none⟩)), (5, .slice (some ⟨go, 0, none⟩) nt nt), (36, .slice (some qp) np pc), (37, .int .i64 np), (38, .int .i64 i)] /\ Heap w [] w' [Res.row 3 1 (some ⟨go, 0, none⟩) nt nt (Qam li), wr gw a c X, Res.blk gr 24 [.string ⟨#[]⟩, .int .i64 0], Res.blk gp 65 (Qaq (some qt) nt tc (some qp) np pc)] /\ li.length = nt /\ (∀ k, k < nt -> k ∈ li) /\ X ++ Qd1 li (P.drop i) = Full /\ i <= np /\ m = np - i) np ?_ ?_
 ·
  refine Qs ?_
  exact ⟨0, _, _, a6, c6, rfl, hH6, by simp, fun k hk => by simpa using hk, by rw [<- hFull, List.drop_zero, List.append_assoc], by omega, rfl⟩
 clear hH6
 rintro m e w8 ⟨i, li, X, a, c, rfl, hH, hlil, hli, hX, hi, rfl⟩
 refine VS [1, 2, 4, 5, 36, 37, 38, 39] ?_
 (repeat refine Qaw ?_)
 refine VD (fun h => ?_) (fun h => ?_)
 ·
  have hcell := Qdl (hH.rs' hrP) (i := i) (by omega)
  have hx := m6 _ (Qbq 0 (l := P) (i := i) (by omega))
  have hdp : P.drop i = P.getD i 0 :: P.drop (i + 1) := drop_getD 0 (by omega)
  rw [hdp, Qd1] at hX
  generalize P.getD i 0 = x at *
  have hxl := hli x hx
  have hxi := List.idxOf_lt_length_iff.2 hxl
  have hXl : X.length + li.idxOf x + 1 <= 300000 := by
   have := congrArg List.length hX
   simp only [List.length_append, List.length_replicate, List.length_cons] at this
   omega
  refine Qac ?_
  refine VB ?_
  refine VQ [1, 2, 4, 5, 7, 36, 37, 38] fun K hK => ?_
  refine ⟨⟨by omega, by omega⟩, _, hcell, ?_⟩
  apply hK;clear hK
  refine VS [1, 2, 4, 5, 7, 8, 36, 37, 38] ?_
  refine VB ?_
  refine Qaj [1, 2, 4, 5, 7, 8, 36, 37, 38] (fun m e w' => ∃ (at_ : Nat) (a : Option Addr) (c : Nat), Is e [(1, .pointer (some ⟨gp, 0, none⟩)), (2, .pointer (some ⟨gr, 0, none⟩)), (4, .pointer (some ⟨gw, 0, none⟩)), (5, .slice (some ⟨go, 0, none⟩) nt nt), (7, .int .i64 x), (8, .int .i64 at_), (36, .slice (some qp) np pc), (37, .int .i64 np), (38, .int .i64 i)] /\ Heap w [] w' [Res.row 3 1 (some ⟨go, 0, none⟩) nt nt (Qam li), wr gw a c (X ++ List.replicate at_ true), Res.blk gr 24 [.string ⟨#[]⟩, .int .i64 0], Res.blk gp 65 (Qaq (some qt) nt tc (some qp) np pc)] /\ at_ <= li.idxOf x /\ m = li.idxOf x - at_) (li.idxOf x) ?_ ?_
  ·
   refine Qs ?_
   exact ⟨0, a, c, rfl, by simpa using hH, by omega, rfl⟩
  clear hH hcell
  rintro m e w9 ⟨at_, a2, c2, rfl, hH, hat, rfl⟩
  have hca := Qba (hH.at 0 rfl) (Qb5 (l := li) (i := at_) (by omega))
  refine VQ [1, 2, 4, 5, 7, 8, 36, 37, 38, 47] fun K hK => ?_
  refine ⟨⟨by omega, by omega⟩, _, hca, ?_⟩
  refine Qs ?_
  apply hK;clear hK
  refine Vi (fun h => ?_) (fun h => ?_)
  ·
   simp only [decide_eq_true_eq] at h
   have hlt : at_ < li.idxOf x := by
    rcases Nat.lt_or_ge at_ (li.idxOf x) with h2 | h2
    ·
     exact h2
    ·
     have e : at_ = li.idxOf x := by omega
     rw [e, Qqn hxl] at h
     omega
   refine Qac ?_
   refine Qag ?_
   refine VS [1, 2, 4, 5, 7, 8, 36, 37, 38] ?_
   refine VQ [1, 2, 4, 5, 7, 8, 36, 37, 38] fun K hK => ?_
   refine Qaa Tryz.call36 ?_;refine Qs ?_;refine CallK.mk (Qcv gw a2 c2 _ 1 1 w9 (by omega) (by omega) (by rw [List.length_append, List.length_replicate];omega) (hH.focus 1 rfl)) ?_
   rintro v w10 ⟨a3, c3, hHp, rfl⟩
   have e1 : Qbc 1 1 = [true] := rfl
   rw [e1, List.append_assoc, <- List.replicate_succ'] at hHp
   have hH2 := hH.call1 1 rfl hHp
   simp only [List.set_cons_succ, List.set_cons_zero, List.nil_append] at hH2
   apply hK;clear hK
   refine Qar ?_
   refine Qad ?_
   refine Qs ?_
   exact ⟨li.idxOf x - (at_ + 1), by omega, at_ + 1, a3, c3, rfl, hH2, by omega, rfl⟩
  ·
   simp only [decide_eq_false_iff_not, Decidable.not_not] at h
   have hlt : at_ = li.idxOf x := by
    rcases Nat.lt_or_ge at_ (li.idxOf x) with h2 | h2
    ·
     exact absurd (by omega) (Qov li x at_ h2)
    ·
     omega
   subst hlt
   refine Qak rfl ?_
   refine VQ [1, 2, 4, 5, 8, 36, 37, 38] fun K hK => ?_
   refine Qaa Tryz.call36 ?_;refine Qs ?_;refine CallK.mk (Qcv gw a2 c2 _ 0 1 w9 (by omega) (by omega) (by rw [List.length_append, List.length_replicate];omega) (hH.focus 1 rfl)) ?_
   rintro v w10 ⟨a3, c3, hHp, rfl⟩
   have e1 : Qbc 1 0 = [false] := rfl
   rw [e1, List.append_assoc] at hHp
   have hH2 := hH.call1 1 rfl hHp
   simp only [List.set_cons_succ, List.set_cons_zero, List.nil_append] at hH2
   clear hH hHp
   apply hK;clear hK
   refine VQ [1, 2, 4, 5, 36, 37, 38] fun K hK => ?_
   have hmc := Qmn li go nt (li.idxOf x) hxi (by omega) w w10 [] _ (by rw [hlil];exact hH2)
   rw [hlil] at hmc
   refine Qaa Tryz.call81 ?_;refine Qs ?_;refine CallK.mk hmc ?_
   rintro v w11 ⟨hH3, rfl⟩
   apply hK;clear hK
   refine Qar ?_
   refine VS [1, 2, 4, 5, 36, 37, 38] ?_
   refine Qad ?_
   refine Qs ?_
   refine ⟨np - (i + 1), by omega, i + 1, Qfw li (li.idxOf x), _, a3, c3, rfl, hH3, by rw [Qhg hxi];exact hlil, fun k hk => (Qjb hxi k).2 (hli k hk), ?_, by omega, rfl⟩
   rw [<- hX];simp
 obtain rfl : i = np := by omega
 rw [List.drop_of_length_le (by omega), Qd1, List.append_nil] at hX
 subst hX
 refine Qak rfl ?_
 refine VQ [1, 2, 9] fun K hK => ?_
 refine Qaa Tryz.call37 ?_;refine Qs ?_;refine CallK.mk (Qfv gw a c _ w8 (hH.at 1 rfl)) ?_
 rintro v w9 ⟨rfl, rfl⟩
 refine Qaa Tryz.call38 ?_;refine Qs ?_;refine CallK.mk (Qf4 gw a c _ w9 (hH.at 1 rfl)) ?_
 rintro v w10 ⟨rfl, rfl⟩
 refine Qs ?_
 refine Qd7 hH 2 (Qa7 X) (xs := [.tmp 62]) Tryz.underlying101 sz24 rfl rfl rfl (by omega) (by omega) ?_
 refine Qs ?_
 refine ⟨by simp [Qa7, Value.cells], by simp [Value.cells], fun ga w11 hH2 => ?_⟩
 have hH3 : Heap w [] w11 [Res.row 24 2 (some ⟨ga, 0, none⟩) 1 1 (Qcu [X]), Res.blk gr 24 [.string ⟨#[]⟩, .int .i64 0], Res.blk gp 65 (Qaq (some qt) nt tc (some qp) i pc)] := by
  have e : Qcu [X] = Qa7 X := by simp [Qcu]
  rw [e]
  exact hH2.sub (.cons_cons _ (.cons _ (.cons _ (.refl _))))
 clear hH2 hH
 apply hK;clear hK
 refine VQ [2, 9, 65, 66, 67] fun K hK => ?_
 refine ⟨_, Qaf (hH3.at 2 rfl) (show (Qaq (some qt) nt tc (some qp) i pc)[0]? = some _ from rfl), ?_⟩
 refine Qs ?_
 apply hK;clear hK
 clear h hi
 refine Qag ?_
 refine Qaj [2, 9, 65, 66, 67] (fun m e w' => ∃ (j : Nat) (a : Option Addr) (c : Nat), Is e [(2, .pointer (some ⟨gr, 0, none⟩)), (9, .slice a (j + 1) c), (65, .slice (some qt) nt tc), (66, .int .i64 nt), (67, .int .i64 j)] /\ Heap w [] w' [Res.row 24 2 a (j + 1) c (Qcu ([X] ++ (T.take j).map Qcq)), Res.blk gr 24 [.string ⟨#[]⟩, .int .i64 0]] /\ j <= nt /\ m = nt - j) nt ?_ ?_
 ·
  refine Qs ?_
  exact ⟨0, _, 1, rfl, by simpa using hH3.sub (.cons_cons _ (.cons_cons _ (.cons _ (.refl _)))), by omega, rfl⟩
 clear hH3
 rintro m e w12 ⟨j, a4, c4, rfl, hH, hj, rfl⟩
 refine VS [2, 9, 65, 66, 67, 68] ?_
 (repeat refine Qaw ?_)
 refine VD (fun h => ?_) (fun h => ?_)
 ·
  have hTj : T[j]? = some (T.getD j []) := by rw [List.getD_eq_getElem?_getD, List.getElem?_eq_getElem (by omega)];rfl
  obtain ⟨hh, hhi⟩ : ∃ hh, hs[j]? = some hh := ⟨_, List.getElem?_eq_getElem (by omega)⟩
  have hci := (hH.rs' hrT).2.2 qt rfl j _ (Qc9 hhi hTj)
  have hrt2 := hH.rs' (hrt j hh _ hhi hTj)
  obtain ⟨e1, e2, e3⟩ := m5 _ (List.mem_of_getElem? hTj)
  have htk : T.take (j + 1) = T.take j ++ [T.getD j []] := by rw [List.take_add_one, hTj];rfl
  have hds := Qpq (T.getD j []) e3.1 e3.2.1 e3.2.2.1 hh.1 hh.2 w12 hrt2
  generalize T.getD j [] = t at *
  refine Qac ?_
  refine VB ?_
  refine VQ [2, 9, 11, 65, 66, 67] fun K hK => ?_
  refine ⟨⟨by omega, by omega⟩, _, hci, ?_⟩
  apply hK;clear hK
  refine VQ [2, 9, 12, 65, 66, 67] fun K hK => ?_
  refine Qaa Tryz.call82 ?_;refine Qs ?_;refine CallK.mk hds ?_
  rintro v w13 ⟨hHd, rfl⟩
  have hH2 := hH.call0 hHd
  simp only [List.nil_append] at hH2
  clear hH hHd
  refine Qal (.agg #[.string ⟨#[]⟩, .int .i64 0]) (by kernel_rfl) ?_
  refine Qs ?_
  have hH3 := hH2.box 24 [.string ⟨#[]⟩, .int .i64 0]
  generalize w13.alloc (Obj.cells [Value.string ⟨#[]⟩, .int .i64 0].toArray 24) = w14 at *
  generalize w13.heap.size = gb at *
  refine Qab ?_
  refine Qs ?_
  refine Qae hH3 0 (vs := Qa7 (Qcq t)) rfl rfl (by kernel_rfl) (by simp [Qa7]) (Qbt _) fun w15 hH4 => ?_
  have hH5 : Heap w [] w15 [Res.blk gb 24 (Qa7 (Qcq t)), Res.row 24 2 a4 (j + 1) c4 (Qcu ([X] ++ (T.take j).map Qcq)), Res.blk gr 24 [.string ⟨#[]⟩, .int .i64 0]] := hH4
  clear hH2 hH3 hH4
  apply hK;clear hK
  refine VQ [2, 9, 65, 66, 67] fun K hK => ?_
  refine ⟨Qa7 (Qcq t), ⟨rfl, Qa1 (hH5.at 0 rfl)⟩, ?_⟩
  refine Qd7 hH5 2 (Qa7 (Qcq t)) (xs := [.tmp 77]) Tryz.underlying101 sz24 rfl rfl rfl (by omega) (by omega) ?_
  refine Qs ?_
  refine ⟨by simp [Qa7, Value.cells], by simp [Qa7, Value.cells], fun g2 w16 hH6 => ?_⟩
  refine Qau ?_
  refine Qs ?_
  refine Qca (zs := #[.string ⟨#[]⟩, .int .i64 0]) (bytes := 24) hH6 2 rfl Tryz.underlying101 (by kernel_rfl) rfl ⟨rfl, Qa8 (hH6.at 0 rfl), 24, Tryz.underlying101⟩ (Qbt _) (fun h => by omega) fun a' cap' w17 hc' hH7 => ?_
  simp only [List.set_cons_succ, List.set_cons_zero] at hH7
  rw [Qec, List.append_assoc] at hH7
  apply hK;clear hK
  refine Qar ?_
  refine VS [2, 9, 65, 66, 67] ?_
  refine Qad ?_
  refine Qs ?_
  refine ⟨nt - (j + 1), by omega, j + 1, a', cap', rfl, ?_, by omega, rfl⟩
  rw [htk, List.map_append]
  exact hH7.sub (.cons _ (.cons _ (.refl _)))
 obtain rfl : j = nt := by omega
 rw [List.take_of_length_le (by omega)] at hH
 obtain ⟨ga2, rfl⟩ := Qdz (hH.at 0 rfl) (by omega)
 have hlen : ([X] ++ T.map Qcq).length = j + 1 := by simp [hnt]
 have hfl : ([X] ++ T.map Qcq).flatten.length <= 10000000000000 := by
  rw [List.flatten_append, List.length_append]
  have h1 : ∀ Q : List (List Nat), (∀ t ∈ Q, okL t) -> (Q.map Qcq).flatten.length <= Q.length * 20000 := fun Q => by
   induction Q with
   | nil => intro _;simp
   | cons t Q ih =>
    intro hQ
    have h2 := ih fun t ht => hQ t (by simp [ht])
    obtain ⟨o1, o2, o3, _⟩ := hQ t (by simp)
    have h3 := Qh2 t (t.getD 0 0) (o3 _ (Qbq 0 (by omega))).2 fun x hx => (o3 x hx).2
    simp only [List.map_cons, List.flatten_cons, List.length_append, List.length_cons, Nat.succ_mul, Qcq, Qas]
    omega
  have h4 := h1 T fun t ht => (m5 t ht).2.2
  simp only [List.flatten_singleton]
  omega
 have hjn := Qn5 ([X] ++ T.map Qcq) ⟨ga2, 0, none⟩ rfl c4 w12 (by rw [hlen];exact Qa8 (hH.at 0 rfl)) hfl (by omega)
 rw [hlen] at hjn
 generalize ([X] ++ T.map Qcq).flatten = R at *
 refine Qak rfl ?_
 refine VQ [2, 3] fun K hK => ?_
 refine Qaa Tryz.call42 ?_;refine Qs ?_;refine CallK.mk hjn ?_
 rintro v w13 ⟨hHj, rfl⟩
 have hH2 := hH.call0 hHj
 simp only [List.nil_append] at hH2
 refine Qab ?_
 refine Qs ?_
 refine Qae hH2 1 (vs := Qa7 R) rfl rfl (by kernel_rfl) (by simp [Qa7]) (Qbt _) fun w14 hH3 => ?_
 have hH4 : Heap w [] w14 [Res.row 24 2 (some ⟨ga2, 0, none⟩) (j + 1) c4 (Qcu ([X] ++ T.map Qcq)), Res.blk gr 24 (Qa7 R)] := hH3
 apply hK;clear hK
 refine Qah (Qeq rfl rfl rfl (Qbu (hH4.at 1 rfl) (by kernel_rfl) (by kernel_rfl) rfl ?_))
 exact ⟨hH4.sub (by simp), rfl⟩
def Qow (hs : List (Option Addr × Nat)) (L : List (List Nat)) : List Res := List.zipWith (fun h l => Res.row 3 1 h.1 l.length h.2 (Qam l)) hs L
theorem Qu7 {hs : List (Option Addr × Nat)} {L : List (List Nat)} {i : Nat} {h : Option Addr × Nat} {l : List Nat} (h1 : hs[i]? = some h) (h2 : L[i]? = some l) : (Qow hs L)[i]? = some (Res.row 3 1 h.1 l.length h.2 (Qam l)) := by
 simp [Qow, List.getElem?_zipWith, h1, h2]
theorem Qq2 {hs : List (Option Addr × Nat)} {L : List (List Nat)} (hl : hs.length = L.length) (a : Option Addr) (c : Nat) (l : List Nat) : Qow hs L ++ [Res.row 3 1 a l.length c (Qam l)] = Qow (hs ++ [(a, c)]) (L ++ [l]) := by
 unfold Qow
 rw [List.zipWith_append hl];rfl
theorem Ql1 {α : Type} (L : List α) (z x : α) {n i : Nat} (hi : i < n) (hl : L.length = i) : (L ++ List.replicate (n - i) z).set i x = (L ++ [x]) ++ List.replicate (n - (i + 1)) z := by
 obtain ⟨q, hq⟩ : ∃ q, n - i = q + 1 := ⟨n - i - 1, by omega⟩
 rw [hq, List.replicate_succ, List.set_append_right _ _ (by omega), hl, Nat.sub_self, List.set_cons_zero, List.append_assoc, show n - (i + 1) = q by omega];rfl
theorem Qq3 (n : Nat) : Qb3 (List.replicate n (none, 0)) (List.replicate n []) = List.replicate n (.slice none 0 0) := by
 unfold Qb3
 rw [List.zipWith_replicate];simp
theorem Qsh {α β : Type} (f : α -> β) {T : List α} {j : Nat} {t : α} (h : T[j]? = some t) : (T.take (j + 1)).map f = (T.take j).map f ++ [f t] := by
 rw [List.take_add_one, h, List.map_append];rfl
theorem Qmo (v : Value) (T : List (List Nat)) (P : List Nat) (hm : mayP T P) (list : List Nat) (hl1 : 1 <= list.length) (hls : ∀ s ∈ list, s < (T.getD 0 []).length) (hlg : Qb8 list.length <= P.length) (a : Option Addr) (lc : Nat) (w : World) (hp : PlanAt w v T P) (hr : RS w a list.length 1 (Qam list)) :
  Does Tryz.prog 41 #[v, .slice a list.length lc] w fun x w' => Heap w [] w' [] /\ x = .tuple #[Qkl (Qf5 T P list 0), .int .i64 0] := by
 have hp0 := hp
 obtain ⟨ta, tc, pa, pc, hs, rfl, hsl, hrT, hrP, hrt⟩ := hp
 have hm0 := hm
 obtain ⟨m1, m2, m3, m4, m5, m6⟩ := hm
 have hT0 : T[0]? = some (T.getD 0 []) := by rw [List.getD_eq_getElem?_getD, List.getElem?_eq_getElem (by omega)];rfl
 have hn0 : 3 <= (T.getD 0 []).length /\ (T.getD 0 []).length <= 258 := by
  obtain ⟨e1, e2, e3⟩ := m5 _ (List.mem_of_getElem? hT0)
  exact ⟨e2, e3.2.1⟩
 have hml : list.length <= 1638350 := by unfold Qb8 at hlg;omega
 have hFl := Qks (T := T) (P := P) (c := 20) (fun t ht x hx => ((m5 t ht).2.2.2.2.1 x hx).2) list 0
 obtain ⟨qt, rfl⟩ := Qcy hrT (by omega)
 obtain ⟨qp, rfl⟩ := Qcy hrP (by omega)
 obtain ⟨ql, rfl⟩ := Qcy hr (by omega)
 have hen : #[Value.agg #[.slice (some qt) T.length tc, .slice (some qp) P.length pc], .slice (some ql) list.length lc] = [Value.agg (Qaq (some qt) T.length tc (some qp) P.length pc).toArray, .slice (some ql) list.length lc].toArray := rfl
 rw [hen]
 refine Qfl 106 Tryz.func41 rfl rfl (of_decide_eq_true rfl) ?_
 simp only [Env.ofArgs]
 have hgd := fun w => Qh3 list.length (by omega) w
 generalize hnt : T.length = nt at *
 generalize hnp : P.length = np at *
 generalize hnl : list.length = nl at *
 generalize hn : (T.getD 0 []).length = n0 at *
 refine VQ [1, 2, 4] fun K hK => ?_
 refine Qcg ?_
 refine Qs ?_
 have hH := (Heap.start w).box 65 (Qaq (some qt) nt tc (some qp) np pc)
 generalize w.alloc (Obj.cells (Qaq (some qt) nt tc (some qp) np pc).toArray 65) = w1 at *
 generalize w.heap.size = gp at *
 refine Qal (.agg #[.string ⟨#[]⟩, .int .i64 0]) (by kernel_rfl) ?_
 refine Qs ?_
 have hH1 := hH.box 24 [.string ⟨#[]⟩, .int .i64 0]
 generalize w1.alloc (Obj.cells [Value.string ⟨#[]⟩, .int .i64 0].toArray 24) = w2 at *
 generalize w1.heap.size = gr at *
 clear hH
 apply hK;clear hK
 have hmc := Qi1 _ T P hm0 w2 (hp0.keep hH1)
 have c0 : w2.cell? ⟨gp, 0, none⟩ = some (.slice (some qt) nt tc) := Qaf (hH1.at 1 rfl) rfl
 have c1 : w2.cell? ⟨gp, 1, none⟩ = some (.slice (some qp) np pc) := Qaf (hH1.at 1 rfl) rfl
 refine VH _ (Ext.refl _) [1, 2, 4, 25] [(0, true), (1, false), (2, true), (3, true), (4, true), (5, true), (7, true), (8, true), (9, true), (6, false), (10, true), (11, true)] fun K hK => ?_
 refine ⟨Qaq (some qt) nt tc (some qp) np pc, ⟨rfl, Qa1 (hH1.at 1 rfl)⟩, ?_⟩
 refine Qaa Tryz.call79 ?_;refine Qs ?_;refine CallK.mk hmc ?_
 rintro v w3 ⟨hHm, rfl⟩
 have hH2 := hH1.call0 hHm
 simp only [List.nil_append] at hH2
 refine Qs ?_
 refine ⟨hHm.ext, ?_⟩
 refine ⟨fun _ => ⟨_, c1, ?_⟩, fun h2 => absurd h2 (by simp)⟩
 refine Qs ?_
 refine Qaa Tryz.call83 ?_;refine Qs ?_;refine CallK.mk (hgd w3) ?_
 rintro v w4 ⟨rfl, rfl⟩
 refine Qs ?_
 refine ⟨hHm.ext, ?_⟩
 rw [decide_eq_false (show ¬ ((np : Int) < (Qb8 nl : Nat)) by omega)]
 apply hK;clear hK
 refine Qai rfl rfl (fun h => by simp at h) (fun h => Qac ?_)
 clear h hH1 hHm hmc c0 c1
 generalize w4 = w3 at *
 refine VS [1, 2, 4, 27, 28, 29] ?_
 refine Qag ?_
 refine Qaj [1, 2, 4, 27, 28, 29] (fun m e w' => ∃ (i : Nat), Is e [(1, .slice (some ql) nl lc), (2, .pointer (some ⟨gp, 0, none⟩)), (4, .pointer (some ⟨gr, 0, none⟩)), (27, .slice (some ql) nl lc), (28, .int .i64 nl), (29, .int .i64 i)] /\ Is w' w3 /\ i <= nl /\ m = nl - i) nl ?_ ?_
 ·
  refine Qs ?_
  exact ⟨0, rfl, rfl, by omega, rfl⟩
 rintro m e w' ⟨i, rfl, rfl, hi, rfl⟩
 have c0 : w'.cell? ⟨gp, 0, none⟩ = some (.slice (some qt) nt tc) := Qaf (hH2.at 1 rfl) rfl
 have c1 : w'.cell? ⟨gp, 1, none⟩ = some (.slice (some qp) np pc) := Qaf (hH2.at 1 rfl) rfl
 obtain ⟨h0, hh0⟩ : ∃ h0, hs[0]? = some h0 := ⟨_, List.getElem?_eq_getElem (by omega)⟩
 have hc0 := (hH2.rs' hrT).2.2 qt rfl 0 _ (Qc9 hh0 hT0)
 rw [hn] at hc0
 refine VS [1, 2, 4, 27, 28, 29, 30] ?_
 (repeat refine Qaw ?_)
 refine VD (fun h => ?_) (fun h => ?_)
 ·
  have hcell := Qdl (hH2.rs' hr) (i := i) (by omega)
  have hx := hls _ (Qbq 0 (l := list) (i := i) (by omega))
  generalize list.getD i 0 = x at *
  refine Qac ?_
  refine VB ?_
  refine VQ [1, 2, 4, 7, 27, 28, 29] fun K hK => ?_
  refine ⟨⟨by omega, by omega⟩, _, hcell, ?_⟩
  apply hK;clear hK
  refine VQ [1, 2, 4, 27, 28, 29, 43] fun K hK => ?_
  refine ⟨fun _ => ⟨_, c0, ?_⟩, fun h2 => absurd h2 (by omega)⟩
  refine Qs ?_
  refine ⟨by omega, _, hc0, ?_⟩
  refine Qs ?_
  rw [decide_eq_false (show ¬ ((n0 : Int) <= x) by omega)]
  apply hK;clear hK
  refine Qai rfl rfl (fun h => by simp at h) (fun h => Qac ?_)
  refine Qar ?_
  refine VS [1, 2, 4, 27, 28, 29] ?_
  refine Qad ?_
  refine Qs ?_
  exact ⟨nl - (i + 1), by omega, i + 1, rfl, rfl, by omega, rfl⟩
 clear h hi
 generalize w' = w3 at *
 refine Qak rfl ?_
 refine VQ [1, 2, 4, 8] fun K hK => ?_
 refine Qaa Tryz.call35 ?_;refine Qs ?_;refine CallK.mk (Qc7 w3) ?_
 rintro v w4 ⟨gw, hHw, rfl⟩
 have hH3 := hH2.call0 hHw
 simp only [List.singleton_append] at hH3
 clear hHw
 apply hK;clear hK
 refine VQ [1, 2, 4, 8, 9] fun K hK => ?_
 refine ⟨_, Qaf (hH3.at 2 rfl) (show (Qaq (some qt) nt tc (some qp) np pc)[0]? = some _ from rfl), ?_⟩
 refine Qs ?_
 refine Qbw Tryz.underlying63 zi36 ?_
 refine Qs ?_
 refine ⟨nt, nt, ⟨rfl, rfl, by omega, by omega, by omega⟩, ?_⟩
 have hH4 := hH3.row 36 (n := nt) (cap := nt) (sz := 1) (Qb3 (List.replicate nt (none, 0)) (List.replicate nt [])) [] (by rw [Qkb (by simp)];simp) (by rw [List.append_nil, Qkb (by simp)];simp) (by omega) (by omega)
 rw [List.append_nil, Qq3] at hH4
 generalize w4.alloc (Obj.cells (List.replicate nt (Value.slice none 0 0)).toArray 36) = w5 at *
 generalize w4.heap.size = gc at *
 rw [<- Qq3] at hH4
 clear hH3
 apply hK;clear hK
 refine VS [1, 2, 4, 8, 9, 52, 53] ?_
 refine Qag ?_
 refine Qaj [1, 2, 4, 8, 9, 52, 53] (fun m e w' => ∃ (i : Nat) (us : List (Option Addr × Nat)), Is e [(1, .slice (some ql) nl lc), (2, .pointer (some ⟨gp, 0, none⟩)), (4, .pointer (some ⟨gr, 0, none⟩)), (8, .pointer (some ⟨gw, 0, none⟩)), (9, .slice (some ⟨gc, 0, none⟩) nt nt), (52, .int .i64 nt), (53, .int .i64 i)] /\ Heap w [] w' (Res.row 36 1 (some ⟨gc, 0, none⟩) nt nt (Qb3 (us ++ List.replicate (nt - i) (none, 0)) ((T.take i).map Qc0 ++ List.replicate (nt - i) [])) :: wr gw none 0 [] :: Res.blk gr 24 [.string ⟨#[]⟩, .int .i64 0] :: Res.blk gp 65 (Qaq (some qt) nt tc (some qp) np pc) :: Qow us ((T.take i).map Qc0)) /\ us.length = i /\ i <= nt /\ m = nt - i) nt ?_ ?_
 ·
  refine Qs ?_
  exact ⟨0, [], rfl, by simpa [Qow] using hH4, rfl, by omega, rfl⟩
 clear hH4 hH2 c0 c1 hc0
 rintro m e w6 ⟨i, us, rfl, hH, hus, hi, rfl⟩
 refine VS [1, 2, 4, 8, 9, 52, 53, 54] ?_
 (repeat refine Qaw ?_)
 refine VD (fun h => ?_) (fun h => ?_)
 ·
  have hTi : T[i]? = some (T.getD i []) := by rw [List.getD_eq_getElem?_getD, List.getElem?_eq_getElem (by omega)];rfl
  obtain ⟨hh, hhi⟩ : ∃ hh, hs[i]? = some hh := ⟨_, List.getElem?_eq_getElem (by omega)⟩
  have hci := (hH.rs' hrT).2.2 qt rfl i _ (Qc9 hhi hTi)
  have hrt2 := hH.rs' (hrt i hh _ hhi hTi)
  obtain ⟨e1, e2, e3⟩ := m5 _ (List.mem_of_getElem? hTi)
  have htk := Qsh Qc0 hTi
  have hcd := Qmx (T.getD i []) e3 hh.1 hh.2 w6 hrt2
  generalize T.getD i [] = t at *
  have hLl : ((T.take i).map Qc0).length = i := by simp;omega
  have hAl : (Qb3 (us ++ List.replicate (nt - i) (none, 0)) ((T.take i).map Qc0 ++ List.replicate (nt - i) [])).length = nt := by
   rw [Qkb (by simp;omega)];simp;omega
  have c0 : w6.cell? ⟨gp, 0, none⟩ = some (.slice (some qt) nt tc) := Qaf (hH.at 3 rfl) rfl
  refine Qac ?_
  refine VB ?_
  refine VS [1, 2, 4, 8, 9, 10, 52, 53] ?_
  refine VQ [1, 2, 4, 8, 9, 52, 53] fun K hK => ?_
  refine ⟨_, c0, ?_⟩
  refine Qs ?_
  refine ⟨⟨by omega, by omega⟩, _, hci, ?_⟩
  refine Qaa Tryz.call84 ?_;refine Qs ?_;refine CallK.mk hcd ?_
  rintro v w7 ⟨ac, cc, hHc, rfl⟩
  have hH2 := hH.call0 hHc
  simp only [List.singleton_append] at hH2
  clear hHc c0 hci
  refine Qp ?_
  have hset : (Qb3 (us ++ List.replicate (nt - i) (none, 0)) ((T.take i).map Qc0 ++ List.replicate (nt - i) [])).set i (.slice ac (Qc0 t).length cc) = Qb3 ((us ++ [(ac, cc)]) ++ List.replicate (nt - (i + 1)) (none, 0)) ((T.take (i + 1)).map Qc0 ++ List.replicate (nt - (i + 1)) []) := by
   rw [htk, <- Ql1 us (none, 0) (ac, cc) (by omega) hus, <- Ql1 _ [] (Qc0 t) (by omega) hLl]
   exact Qxw i (ac, cc) (Qc0 t)
  refine Qab ?_
  refine Qs ?_
  refine Qbf hH2 1 (o := i) (vs := [.slice ac (Qc0 t).length cc]) rfl (by simp [Qbp]) rfl (by kernel_rfl) (by simp only [List.length_singleton];omega) (by simp [Value.oneCell']) fun w8 hH3 => ?_
  simp only [List.length_singleton, Qb2 _ _ _ (show i < (Qb3 (us ++ List.replicate (nt - i) (none, 0)) ((T.take i).map Qc0 ++ List.replicate (nt - i) [])).length by omega), hset, List.set_cons_zero, List.set_cons_succ] at hH3
  have hH4 := hH3.perm (List.perm_append_singleton _ _).symm
  simp only [List.cons_append] at hH4
  rw [Qq2 (by omega), <- htk] at hH4
  clear hH hH2 hH3
  apply hK;clear hK
  refine Qar ?_
  refine VS [1, 2, 4, 8, 9, 52, 53] ?_
  refine Qad ?_
  refine Qs ?_
  exact ⟨nt - (i + 1), by omega, i + 1, us ++ [(ac, cc)], rfl, hH4, by simp [hus], by omega, rfl⟩
 obtain rfl : i = nt := by omega
 clear h hi
 rw [Nat.sub_self, List.replicate_zero, List.replicate_zero, List.append_nil, List.append_nil, List.take_of_length_le (by omega)] at hH
 generalize i = nt at *
 refine Qak rfl ?_
 refine VS [2, 4, 8, 9, 69, 70, 71] ?_
 generalize hFull : Qf5 T P list 0 = Full at *
 refine Qag ?_
 refine Qaj [2, 4, 8, 9, 69, 70, 71] (fun m e w' => ∃ (i : Nat) (X : List Bool) (a : Option Addr) (c : Nat), Is e [(2, .pointer (some ⟨gp, 0, none⟩)), (4, .pointer (some ⟨gr, 0, none⟩)), (8, .pointer (some ⟨gw, 0, none⟩)), (9, .slice (some ⟨gc, 0, none⟩) nt nt), (69, .slice (some ql) nl lc), (70, .int .i64 nl), (71, .int .i64 i)] /\ Heap w [] w' (Res.row 36 1 (some ⟨gc, 0, none⟩) nt nt (Qb3 us (T.map Qc0)) :: wr gw a c X :: Res.blk gr 24 [.string ⟨#[]⟩, .int .i64 0] :: Res.blk gp 65 (Qaq (some qt) nt tc (some qp) np pc) :: Qow us (T.map Qc0)) /\ X ++ Qf5 T P (list.drop i) i = Full /\ i <= nl /\ m = nl - i) nl ?_ ?_
 ·
  refine Qs ?_
  exact ⟨0, [], none, 0, rfl, hH, by simpa using hFull, by omega, rfl⟩
 clear hH
 rintro m e w7 ⟨i, X, a, c, rfl, hH, hX, hi, rfl⟩
 refine VS [2, 4, 8, 9, 69, 70, 71, 72] ?_
 (repeat refine Qaw ?_)
 refine VD (fun h => ?_) (fun h => ?_)
 ·
  have hcell := Qdl (hH.rs' hr) (i := i) (by omega)
  have hx := hls _ (Qbq 0 (l := list) (i := i) (by omega))
  have hdp : list.drop i = list.getD i 0 :: list.drop (i + 1) := drop_getD 0 (by omega)
  rw [hdp, Qf5] at hX
  generalize list.getD i 0 = x at *
  have hgi : i / 50 < np := by unfold Qb8 at hlg;omega
  have hcp := Qdl (hH.rs' hrP) (i := i / 50) (by omega)
  have hpx := m6 _ (Qbq 0 (l := P) (i := i / 50) (by omega))
  generalize P.getD (i / 50) 0 = k at *
  have hTk : T[k]? = some (T.getD k []) := by rw [List.getD_eq_getElem?_getD, List.getElem?_eq_getElem (by omega)];rfl
  obtain ⟨hh, hhk⟩ : ∃ hh, hs[k]? = some hh := ⟨_, List.getElem?_eq_getElem (by omega)⟩
  obtain ⟨uu, huk⟩ : ∃ uu, us[k]? = some uu := ⟨_, List.getElem?_eq_getElem (by omega)⟩
  have hck := (hH.rs' hrT).2.2 qt rfl k _ (Qc9 hhk hTk)
  have hrt2 := hH.rs' (hrt k hh _ hhk hTk)
  obtain ⟨e1, e2, e3⟩ := m5 _ (List.mem_of_getElem? hTk)
  have hCk : (T.map Qc0)[k]? = some (Qc0 (T.getD k [])) := by rw [List.getElem?_map, hTk];rfl
  have hcc := Qba (hH.at 0 rfl) (Qc9 huk hCk)
  have hrc := Qa8 (hH.at (k + 4) (show _ = some (Res.row 3 1 uu.1 (Qc0 (T.getD k [])).length uu.2 (Qam (Qc0 (T.getD k [])))) from Qu7 huk hCk))
  rw [Qlz] at hcc hrc
  generalize T.getD k [] = t at *
  have hcode := Qm9 e3 (i := x) (by omega)
  have hok := Que e3 (i := x) (by omega)
  obtain ⟨rt, hrt0⟩ := Qcy hrt2 (by omega)
  obtain ⟨rc, hrc0⟩ := Qcy hrc (by omega)
  rw [hrt0] at hrt2 hck
  rw [hrc0] at hrc hcc
  have hct := Qdl hrt2 (i := x) (by omega)
  have hcx := Qdl hrc (i := x) (by rw [Qlz];omega)
  have hcg : (Qc0 t).getD x 0 = Qe8 t x := by unfold Qc0;rw [Qiy _ _ _ _ (by omega)]
  rw [hcg] at hcx
  have hXl : X.length + 20 <= 100000000 := by
   have := congrArg List.length hX
   simp only [List.length_append] at this
   omega
  have hw : Qmu t x = Qbc (t.getD x 0) (Qe8 t x) := rfl
  rw [hw] at hX
  have hp2 : 2 ^ (t.getD x 0) <= 2 ^ 20 := Nat.pow_le_pow_right (by omega) hok.2
  have hp3 : 2 ^ (t.getD x 0) <= 1048576 := hp2
  generalize t.getD x 0 = b at *
  generalize Qe8 t x = cx at *
  have c0 : w7.cell? ⟨gp, 0, none⟩ = some (.slice (some qt) nt tc) := Qaf (hH.at 3 rfl) rfl
  have c1 : w7.cell? ⟨gp, 1, none⟩ = some (.slice (some qp) np pc) := Qaf (hH.at 3 rfl) rfl
  refine Qac ?_
  refine VB ?_
  refine VQ [2, 4, 8, 9, 11, 12, 69, 70, 71] fun K hK => ?_
  refine ⟨⟨by omega, by omega⟩, _, hcell, ?_⟩
  apply hK;clear hK
  refine VQ [2, 4, 8, 9, 12, 13, 69, 70, 71] fun K hK => ?_
  refine ⟨_, c1, ?_⟩
  refine Qs ?_
  rw [show ((i : Int) / 50) = ((i / 50 : Nat) : Int) by omega]
  (repeat first | refine Qo ?_ | refine Qp ?_)
  refine ⟨_, hcp, ?_⟩
  apply hK;clear hK
  refine VL [2, 4, 8, 9, 69, 70, 71] 17 fun K hK => ?_
  refine ⟨⟨by omega, by omega⟩, _, hcc, ?_⟩
  refine Qs ?_
  refine ⟨⟨by omega, by omega⟩, _, hcx, ?_⟩
  refine Qs ?_
  refine ⟨_, c0, ?_⟩
  refine Qs ?_
  refine ⟨⟨by omega, by omega⟩, _, hck, ?_⟩
  refine Qs ?_
  refine ⟨⟨by omega, by omega⟩, _, hct, ?_⟩
  rw [show ((cx : Int) % 18446744073709551616) = cx by omega]
  refine Qaa Tryz.call36 ?_;refine Qs ?_;refine CallK.mk (Qcv gw a c X cx b w7 (by omega) hcode.2.2 (by omega) (hH.focus 1 rfl)) ?_
  rintro v w8 ⟨a2, c2, hHp, rfl⟩
  have hH2 := hH.call1 1 rfl hHp
  simp only [List.set_cons_zero, List.set_cons_succ, List.nil_append] at hH2
  clear hH hHp hcc hcx c0 c1 hck hct hcp hrc hrt2 hcell
  apply hK;clear hK
  refine Qar ?_
  refine VS [2, 4, 8, 9, 69, 70, 71] ?_
  refine Qad ?_
  refine Qs ?_
  exact ⟨nl - (i + 1), by omega, i + 1, _, a2, c2, rfl, hH2, by rw [List.append_assoc];exact hX, by omega, rfl⟩
 obtain rfl : i = nl := by omega
 rw [List.drop_of_length_le (by omega), Qf5, List.append_nil] at hX
 subst hX
 refine Qak rfl ?_
 refine VQ [4, 5] fun K hK => ?_
 refine Qaa Tryz.call37 ?_;refine Qs ?_;refine CallK.mk (Qfv gw a c _ w7 (hH.at 1 rfl)) ?_
 rintro v w9 ⟨rfl, rfl⟩
 refine Qaa Tryz.call38 ?_;refine Qs ?_;refine CallK.mk (Qf4 gw a c _ w9 (hH.at 1 rfl)) ?_
 rintro v w10 ⟨rfl, rfl⟩
 refine Qs ?_
 refine Qab ?_
 refine Qs ?_
 refine Qae hH 2 (vs := Qa7 X) rfl rfl (by kernel_rfl) (by simp [Qa7]) (Qbt _) fun w11 hH3 => ?_
 simp only [List.set_cons_zero, List.set_cons_succ] at hH3
 apply hK;clear hK
 refine Qah (Qeq rfl rfl rfl (Qbu (hH3.at 2 rfl) (by kernel_rfl) (by kernel_rfl) rfl ?_))
 exact ⟨hH3.sub (by simp), rfl⟩
theorem Qy7 (l : List Nat) : ∀ (r : List Bool) (n code : Nat) (p : Nat × Nat), Qfs l r n code = .ok p -> p.2 <= n + r.length
 | [], n, code, p, h => by simp [Qfs] at h
 | b :: r, n, code, p, h => by
  rw [Qfs] at h
  split at h
  ·
   cases h;simp
  ·
   split at h
   ·
    have := Qy7 l r _ _ p h
    simp;omega
   ·
    cases h
theorem Qu8 (l : List Nat) : ∀ (r : List Bool) (n code : Nat) (e : Int), Qfs l r n code = .error e -> e ≠ 0
 | [], n, code, e, h => by simp [Qfs] at h;omega
 | b :: r, n, code, e, h => by
  rw [Qfs] at h
  split at h
  ·
   cases h
  ·
   split at h
   ·
    exact Qu8 l r _ _ e h
   ·
    cases h;omega
theorem QHq {l : List Nat} {bits : List Bool} {at_ : Nat} {q : Nat × Nat} (ha : at_ <= bits.length) (h : Qhf l bits at_ = .ok q) : q.2 <= bits.length := by
 unfold Qhf at h
 split at h
 ·
  rename_i p hp
  cases h
  have := Qy7 l _ _ _ _ hp
  simp at this;simp;omega
 ·
  cases h
theorem QEg {l : List Nat} {bits : List Bool} {at_ : Nat} {e : Int} (h : Qhf l bits at_ = .error e) : e ≠ 0 := by
 unfold Qhf at h
 split at h
 ·
  cases h
 ·
  rename_i e' he
  cases h
  exact Qu8 l _ _ _ _ he
theorem Qy8 {l : List Nat} {bits : List Bool} {fin : Nat} : ∀ (n at_ : Nat) (q : List Nat × Nat), at_ <= bits.length -> Qd9 l bits fin n at_ = .ok q -> q.2 <= bits.length /\ q.1.length <= n /\ (0 < n -> 0 < q.1.length)
 | 0, at_, q, ha, h => by simp [Qd9] at h;subst h;simp;exact ha
 | n + 1, at_, q, ha, h => by
  rw [Qd9] at h
  split at h
  ·
   cases h
  ·
   rename_i p hp
   have h1 := QHq ha hp
   split at h
   ·
    cases h;simp;exact h1
   ·
    split at h
    ·
     cases h
    ·
     rename_i q' hq
     cases h
     have := Qy8 n p.2 q' h1 hq
     simp;omega
theorem Qu9 {l : List Nat} {bits : List Bool} {fin : Nat} : ∀ (n at_ : Nat) (e : Int), Qd9 l bits fin n at_ = .error e -> e ≠ 0
 | 0, at_, e, h => by simp [Qd9] at h
 | n + 1, at_, e, h => by
  rw [Qd9] at h
  split at h
  ·
   rename_i e' he
   cases h
   exact QEg he
  ·
   split at h
   ·
    cases h
   ·
    split at h
    ·
     rename_i e' he
     cases h
     exact Qu9 n _ _ he
    ·
     cases h
theorem Qmp {l : List Nat} (h : 0 < l.length) (fin : Nat) : l.getLast? = some fin ↔ l.getD (l.length - 1) 0 = fin := by
 rw [List.getLast?_eq_getElem?, List.getD_eq_getElem?_getD, List.getElem?_eq_getElem (by omega)]
 simp
theorem Qva (v : Value) (T : List (List Nat)) (P : List Nat) (hm : mayP T P) (s : List UInt8) (at_ : Nat) (hat : at_ <= 8 * s.length) (hs : s.length <= 100000000000000) (w : World) (hp : PlanAt w v T P) :
  Does Tryz.prog 48 #[v, Str s, .int .i64 at_] w (QD8 (Qfh T (Qap s) ((T.getD 0 []).length - 1) P at_) w) := by
 have hp0 := hp
 obtain ⟨ta, tc, pa, pc, hs0, rfl, hsl, hrT, hrP, hrt⟩ := hp
 have hm0 := hm
 obtain ⟨m1, m2, m3, m4, m5, m6⟩ := hm
 have hbl := Qax s
 have hT0 : T[0]? = some (T.getD 0 []) := by rw [List.getD_eq_getElem?_getD, List.getElem?_eq_getElem (by omega)];rfl
 have hn0 : 3 <= (T.getD 0 []).length /\ (T.getD 0 []).length <= 258 := by
  obtain ⟨e1, e2, e3⟩ := m5 _ (List.mem_of_getElem? hT0)
  exact ⟨e2, e3.2.1⟩
 obtain ⟨qt, rfl⟩ := Qcy hrT (by omega)
 obtain ⟨qp, rfl⟩ := Qcy hrP (by omega)
 obtain ⟨h0, hh0⟩ : ∃ h0, hs0[0]? = some h0 := ⟨_, List.getElem?_eq_getElem (by omega)⟩
 have hc0 := hrT.2.2 qt rfl 0 _ (Qc9 hh0 hT0)
 have hen : #[Value.agg #[.slice (some qt) T.length tc, .slice (some qp) P.length pc], Str s, .int .i64 at_] = [Value.agg (Qaq (some qt) T.length tc (some qp) P.length pc).toArray, Str s, .int .i64 at_].toArray := rfl
 rw [hen]
 refine Qfl 72 Tryz.func48 rfl rfl (of_decide_eq_true rfl) ?_
 simp only [Env.ofArgs]
 generalize hn : (T.getD 0 []).length = n0 at *
 generalize hres : Qfh T (Qap s) (n0 - 1) P at_ = res
 generalize hnt : T.length = nt at *
 generalize hnp : P.length = np at *
 refine VQ [1, 2, 3] fun K hK => ?_
 refine Qcg ?_
 refine Qs ?_
 have hH := (Heap.start w).box 65 (Qaq (some qt) nt tc (some qp) np pc)
 generalize w.alloc (Obj.cells (Qaq (some qt) nt tc (some qp) np pc).toArray 65) = w1 at *
 generalize w.heap.size = gp at *
 apply hK;clear hK
 refine VQ [1, 2, 3, 18] fun K hK => ?_
 refine ⟨Qaq (some qt) nt tc (some qp) np pc, ⟨rfl, Qa1 (hH.at 0 rfl)⟩, ?_⟩
 refine Qaa Tryz.call79 ?_;refine Qs ?_;refine CallK.mk (Qi1 _ T P hm0 w1 (hp0.keep hH)) ?_
 rintro v w2 ⟨hHm, rfl⟩
 have hH2 := hH.call0 hHm
 simp only [List.nil_append] at hH2
 clear hH hHm
 refine Qs ?_
 apply hK;clear hK
 refine Qai rfl rfl (fun h => by simp at h) (fun h => Qac ?_)
 clear h
 refine VQ [1, 2, 3, 27] fun K hK => ?_
 suffices out : ∀ b : Bool, (b = true ↔ False) -> K [(1, Str s), (2, .int .i64 at_), (3, .pointer (some ⟨gp, 0, none⟩)), (27, .bool b)] w2 by (repeat' (first | exact out _ _ (by first | omega | (simp;done) | (simp;omega)) | exact out _ (by first | omega | (simp;done) | (simp;omega)) | refine ⟨fun _ => ?_, fun _ => ?_⟩ | refine Qo ?_))
 intro b hb
 apply hK;clear hK
 refine Qai rfl rfl (fun h => (hb.1 h).elim) (fun h => Qac ?_)
 clear hb h
 have c0 : w2.cell? ⟨gp, 0, none⟩ = some (.slice (some qt) nt tc) := Qaf (hH2.at 0 rfl) rfl
 have c1 : w2.cell? ⟨gp, 1, none⟩ = some (.slice (some qp) np pc) := Qaf (hH2.at 0 rfl) rfl
 have hc2 := (hH2.rs' hrT).2.2 qt rfl 0 _ (Qc9 hh0 hT0)
 rw [hn] at hc2
 refine VQ [1, 2, 3, 9] fun K hK => ?_
 refine ⟨_, c0, ?_⟩
 refine Qs ?_
 refine ⟨by omega, _, hc2, ?_⟩
 refine Qs ?_
 (repeat first | refine Qo ?_ | refine Qp ?_)
 rw [show ((n0 : Int) - 1) = ((n0 - 1 : Nat) : Int) by omega]
 apply hK;clear hK
 refine VS [1, 2, 3, 9, 10] ?_
 refine VQ [1, 2, 3, 9, 10, 35, 36, 37] fun K hK => ?_
 refine ⟨_, c1, ?_⟩
 refine Qs ?_
 apply hK;clear hK
 clear c0 c1 hc2 hc0
 generalize hfin : n0 - 1 = fin at *
 refine Qag ?_
 refine Qaj [1, 2, 3, 9, 10, 35, 36, 37] (fun m e w' => ∃ (i at2 cap : Nat) (D : List Nat) (a : Option Addr), Is e [(1, Str s), (2, .int .i64 at2), (3, .pointer (some ⟨gp, 0, none⟩)), (9, .int .i64 fin), (10, .slice a D.length cap), (35, .slice (some qp) np pc), (36, .int .i64 np), (37, .int .i64 i)] /\ Heap w [] w' [Res.row 3 1 a D.length cap (Qam D), Res.blk gp 65 (Qaq (some qt) nt tc (some qp) np pc)] /\ at2 <= 8 * s.length /\ D.length <= 50 * i /\ (match Qfh T (Qap s) fin (P.drop i) at2 with | .error e => .error e | .ok x => .ok (D ++ x.1, x.2)) = res /\ i <= np /\ m = np - i) np ?_ ?_
 ·
  refine Qs ?_
  refine ⟨0, at_, 0, [], none, rfl, hH2.nilRow 3 1, hat, by simp, ?_, by omega, rfl⟩
  rw [<- hres, List.drop_zero]
  cases Qfh T (Qap s) fin P at_ <;> rfl
 clear hH2 hres
 rintro m e w3 ⟨i, at2, cap, D, a, rfl, hH, hat2, hDl, hres, hi, rfl⟩
 refine VS [1, 2, 3, 9, 10, 35, 36, 37, 38] ?_
 (repeat refine Qaw ?_)
 refine VD (fun h => ?_) (fun h => ?_)
 ·
  have hcp := Qdl (hH.rs' hrP) (i := i) (by omega)
  have hpx := m6 _ (Qbq 0 (l := P) (i := i) (by omega))
  have hdp : P.drop i = P.getD i 0 :: P.drop (i + 1) := drop_getD 0 (by omega)
  rw [hdp, Qfh] at hres
  generalize P.getD i 0 = k at *
  have hTk : T[k]? = some (T.getD k []) := by rw [List.getD_eq_getElem?_getD, List.getElem?_eq_getElem (by omega)];rfl
  obtain ⟨hh, hhk⟩ : ∃ hh, hs0[k]? = some hh := ⟨_, List.getElem?_eq_getElem (by omega)⟩
  have hck := (hH.rs' hrT).2.2 qt rfl k _ (Qc9 hhk hTk)
  have hrt2 := hH.rs' (hrt k hh _ hhk hTk)
  obtain ⟨e1, e2, e3⟩ := m5 _ (List.mem_of_getElem? hTk)
  generalize T.getD k [] = t at *
  have hal := QHo t e3 s at2 50 fin hat2 hs (by omega) (by omega) hh.1 hh.2 w3 hrt2
  have hag := fun q => Qy8 (l := t) (bits := Qap s) (fin := fin) 50 at2 q (by omega)
  have hae := fun e => Qu9 (l := t) (bits := Qap s) (fin := fin) 50 at2 e
  generalize Qd9 t (Qap s) fin 50 at2 = r at *
  have c0 : w3.cell? ⟨gp, 0, none⟩ = some (.slice (some qt) nt tc) := Qaf (hH.at 1 rfl) rfl
  refine Qac ?_
  refine VB ?_
  refine VQ [1, 2, 3, 9, 10, 12, 35, 36, 37] fun K hK => ?_
  refine ⟨⟨by omega, by omega⟩, _, hcp, ?_⟩
  apply hK;clear hK
  refine VQ [1, 3, 9, 10, 13, 14, 15, 35, 36, 37] fun K hK => ?_
  refine ⟨_, c0, ?_⟩
  refine Qs ?_
  refine ⟨⟨by omega, by omega⟩, _, hck, ?_⟩
  refine Qaa Tryz.call104 ?_;refine Qs ?_;refine CallK.mk hal ?_
  intro v w4 hEx
  cases r with
  | error e =>
   obtain ⟨hHe, rfl⟩ := hEx
   subst hres
   have hH2 := hH.call0 hHe
   simp only [List.nil_append] at hH2
   apply hK;clear hK
   refine VS [1, 3, 9, 10, 13, 14, 15, 35, 36, 37, 55] ?_
   refine Vi (fun h => ?_) (fun h => ?_)
   ·
    refine VS [6, 7, 8] ?_
    exact Qah (Qcj rfl rfl rfl rfl ⟨hH2.sub (by simp), rfl⟩)
   ·
    simp at h;exact absurd h (hae e rfl)
  | ok q =>
   obtain ⟨aq, cq, hHq, rfl⟩ := hEx
   obtain ⟨q1, q2, q3⟩ := hag q rfl
   replace q3 := q3 (by omega)
   simp only at hres
   have hH2 := hH.call0 hHq
   simp only [List.singleton_append] at hH2
   obtain ⟨gq, rfl⟩ := Qdz (hH2.at 0 rfl) q3
   clear hH hHq
   apply hK;clear hK
   refine VS [1, 3, 9, 10, 13, 14, 15, 35, 36, 37, 55] ?_
   refine Qai rfl rfl (fun h => by simp at h) (fun h => Qac ?_)
   clear h
   refine VQ [1, 3, 9, 10, 13, 14, 35, 36, 37] fun K hK => ?_
   refine Qau ?_
   refine Qs ?_
   refine Qca (zs := #[.int .i64 0]) (bytes := 8) hH2 1 rfl Tryz.underlying36 (by kernel_rfl) rfl ⟨rfl, Qa8 (hH2.at 0 rfl), 3, Tryz.underlying36⟩ (Qgn _) (fun h => by omega) fun a' cap' w5 hc' hH3 => ?_
   simp only [List.set_cons_succ, List.set_cons_zero] at hH3
   rw [<- Qe3, <- List.length_append] at hH3
   rw [<- List.length_append]
   apply hK;clear hK
   refine VS [1, 2, 3, 9, 10, 13, 35, 36, 37] ?_
   have hce := Qba (hH3.at 0 rfl) (Qb5 (l := q.1) (i := q.1.length - 1) (by omega))
   refine VQ [1, 2, 3, 9, 10, 35, 36, 37, 68] fun K hK => ?_
   (repeat first | refine Qo ?_ | refine Qp ?_)
   refine ⟨_, hce, ?_⟩
   refine Qs ?_
   apply hK;clear hK
   clear hce
   refine VD (fun h => ?_) (fun h => Qac ?_)
   ·
    rw [if_pos ((Qmp q3 fin).2 (by omega))] at hres
    subst hres
    refine VS [6, 7, 8] ?_
    exact Qah (Qcj rfl rfl rfl rfl ⟨a', cap', hH3.sub (by simp), rfl⟩)
   rw [if_neg (fun e => h (by have := (Qmp q3 fin).1 e;omega))] at hres
   refine Qar ?_
   refine VS [1, 2, 3, 9, 10, 35, 36, 37] ?_
   refine Qad ?_
   refine Qs ?_
   refine ⟨np - (i + 1), by omega, i + 1, q.2, cap', D ++ q.1, a', rfl, hH3.sub (List.sublist_cons_self _ _), by omega, by simp;omega, ?_, by omega, rfl⟩
   rw [<- hres]
   cases Qfh T (Qap s) fin (P.drop (i + 1)) q.2 with
   | error e => rfl
   | ok y => simp
 obtain rfl : i = np := by omega
 rw [List.drop_of_length_le (by omega), Qfh] at hres
 subst hres
 refine Qak rfl ?_
 refine VS [6, 7, 8] ?_
 exact Qah (Qcj rfl rfl rfl rfl ⟨hH.sub (by simp), rfl⟩)
open Go Go.Eng Go.Shelf Go.Sort
section
variable {α : Type} [Inhabited α] {enc : α -> List Value} {k : Nat}
theorem Qvb (hk : ∀ x, (enc x).length = k) (d : Array α) (j : Nat) (hj : j < d.size * k) : (Qdo enc d.toList)[j]? = some (flatK enc k d)[j]! := by
 have hk0 : 0 < k := by
  rcases Nat.eq_zero_or_pos k with h | h
  ·
   subst h;simp at hj
  ·
   exact h
 have h1 : j / k < d.size := (Nat.div_lt_iff_lt_mul hk0).2 hj
 have h2 : j % k < k := Nat.mod_lt _ hk0
 have h3 : d.toList[j / k]? = some d[j / k]! := by
  rw [List.getElem?_eq_getElem (by simpa using h1), getElem!_pos d _ h1];simp
 have h4 : (enc d[j / k]!)[j % k]? = some (enc d[j / k]!)[j % k]! := by
  rw [List.getElem?_eq_getElem (by rw [hk];exact h2), getElem!_pos (enc d[j / k]!) (j % k) (by rw [hk];exact h2)]
 have h5 := Qtn hk d.toList (j / k) _ h3 (j % k) _ h4
 rw [Nat.mul_comm, Nat.div_add_mod] at h5
 rw [h5, get_flatK enc k d j hj]
theorem Qsi (hk : ∀ x, (enc x).length = k) {T g cap : Nat} {d : Array α} {w : World} (h : (Res.row T k (some ⟨g, 0, none⟩) d.size cap (Qdo enc d.toList)).holds w) : HoldsK enc k w g 0 d := by
 intro j hj
 rw [size_flatK] at hj
 have hc := Qba h (Qvb hk d j hj)
 refine ⟨by rw [Nat.zero_add];exact hc, ?_⟩
 obtain ⟨h1, h2, h3, h4⟩ := h
 rcases h4 with ⟨h5, _⟩ | ⟨g', rest, fz, h5, hg, hl, hf⟩
 ·
  cases h5
 ·
  cases h5
  have hn := Nat.mul_le_mul_right k h2
  have := hf j (by omega)
  obtain ⟨lo, hi⟩ := fz
  simp only [World.frozen?, hg, Nat.zero_add]
  simpa using this
theorem Qxy (hk : ∀ x, (enc x).length = k) {T g cap : Nat} {d d' : Array α} {w : World} (h : (Res.row T k (some ⟨g, 0, none⟩) d.size cap (Qdo enc d.toList)).holds w) (hs : d'.size = d.size) (n m : Nat) (os : Array Obj) :
  ∃ w1, sortWorldK enc k (w.drewN n) g 0 m d' os = (w1.drewN n).drewN m /\ Heap w [g] w1 [Res.row T k (some ⟨g, 0, none⟩) d'.size cap (Qdo enc d'.toList)] := by
 obtain ⟨h1, h2, h3, h4⟩ := h
 rcases h4 with ⟨h5, _⟩ | ⟨g', rest, fz, h5, hg, hl, hf⟩
 ·
  cases h5
 ·
  cases h5
  refine ⟨Sort.grow (putRowK enc k w g 0 d') os, rfl, ?_⟩
  have hlt : g < w.heap.size := (Array.getElem?_eq_some_iff.1 hg).1
  have hsz : (putRowK enc k w g 0 d').heap.size = w.heap.size := by simp [putRowK, Sort.putRow, Sort.mapBlock]
  have hne : ∀ i, i < w.heap.size -> i ≠ g -> (Sort.grow (putRowK enc k w g 0 d') os).heap[i]? = w.heap[i]? := fun i hi hi2 => by
   rw [Sort.heap_grow_old _ _ (by omega)]
   simp only [putRowK, Sort.putRow, Sort.mapBlock, Array.getElem?_modify]
   rw [if_neg (fun e => hi2 e.symm)]
  have hcs : (Qdo enc d'.toList).length = d'.size * k := by rw [Qtl hk];simp
  have hold : (Qdo enc d.toList).length = d.size * k := h1
  have hdk : d'.size * k = d.size * k := by rw [hs]
  have hat : (Sort.grow (putRowK enc k w g 0 d') os).heap[g]? = some (.cells (Qdo enc d'.toList ++ rest).toArray T fz) := by
   rw [Sort.heap_grow_old _ _ (by omega)]
   simp only [putRowK, Sort.putRow, Sort.mapBlock, Array.getElem?_modify, if_true, hg, Option.map_some, Sort.onCells]
   congr 2
   apply Array.ext_getElem?
   intro j
   simp only [Sort.putCells, Array.getElem?_mapIdx, List.getElem?_toArray, size_flatK, Nat.zero_le, true_and, Nat.zero_add, Nat.sub_zero, id]
   by_cases hj : j < d'.size * k
   ·
    have e1 := Qvb hk d' j hj
    rw [List.getElem?_append_left (by omega), List.getElem?_append_left (by omega), e1]
    rw [List.getElem?_eq_getElem (by rw [hold, <- hs];exact hj), Option.map_some, if_pos hj]
   ·
    rw [List.getElem?_append_right (by omega), List.getElem?_append_right (by omega), hcs, hold, hs]
    cases rest[j - d.size * k]? with
    | none => rfl
    | some x => simp only [Option.map_some];rw [if_neg (by omega)]
  refine ⟨⟨rfl, rfl, rfl, by rw [Sort.grow];simp [hsz], fun i hi hi2 => hne i hi (by simpa using hi2)⟩, ?_, ?_, by simp⟩
  ·
   intro r hr
   rw [List.mem_singleton.1 hr]
   refine ⟨hcs, by omega, h3, .inr ⟨g, rest, fz, rfl, hat, ?_, hf⟩⟩
   rw [List.length_append] at hl ⊢
   rw [hcs, hs, <- hold];exact hl
  ·
   intro r hr b hb
   rw [List.mem_singleton.1 hr] at hb
   simp [Res.row] at hb
   subst hb
   exact ⟨.inl (by simp), by rw [Sort.grow];simp [hsz];omega⟩
end
open Go.Shelf
def Qvc : Go.Shelf.Ren := ⟨fun | 6 => 164 | 15 => 159 | 14 => 191 | 28 => 185 | 29 => 186 | 20 => 201 | 21 => 202 | 22 => 203 | 23 => 204 | 24 => 205 | 25 => 206 | 26 => 207 | 27 => 208 | 46 => 211 | 47 => 197 | 48 => 198 | 49 => 212 | 50 => 213 | 57 => 214 | n => n, fun | 22 => 198 | 24 => 200 | 25 => 202 | 3 => 3 | 39 => 97 | 0 => 0 | 53 => 31 | 55 => 71 | 4 => 4 | 46 => 216 | 45 => 215 | 50 => 220 | 5 => 5 | 9 => 9 | 66 => 228 | 70 => 232 | 76 => 240 | 77 => 114 | n => n, fun | n => n⟩
theorem QHr : Go.Proofs.SlLaysF0.n6 Tryz.prog Qvc := {
 mixed := by kernel_rfl
 f6 := ⟨Tryz.f164.name, by decide, Tryz.func164.trans (congrArg some (by kernel_rfl))⟩
 f14 := ⟨Tryz.f191.name, by decide, Tryz.func191.trans (congrArg some (by kernel_rfl))⟩
 f15 := Tryz.func159.trans (congrArg some (by kernel_rfl))
 f20 := ⟨Tryz.f201.name, by decide, Tryz.func201.trans (congrArg some (by kernel_rfl))⟩
 f21 := ⟨Tryz.f202.name, by decide, Tryz.func202.trans (congrArg some (by kernel_rfl))⟩
 f22 := ⟨Tryz.f203.name, by decide, Tryz.func203.trans (congrArg some (by kernel_rfl))⟩
 f23 := ⟨Tryz.f204.name, by decide, Tryz.func204.trans (congrArg some (by kernel_rfl))⟩
 f24 := ⟨Tryz.f205.name, by decide, Tryz.func205.trans (congrArg some (by kernel_rfl))⟩
 f25 := ⟨Tryz.f206.name, by decide, Tryz.func206.trans (congrArg some (by kernel_rfl))⟩
 f26 := ⟨Tryz.f207.name, by decide, Tryz.func207.trans (congrArg some (by kernel_rfl))⟩
 f27 := ⟨Tryz.f208.name, by decide, Tryz.func208.trans (congrArg some (by kernel_rfl))⟩
 f28 := Tryz.func185.trans (congrArg some (by kernel_rfl))
 f29 := Tryz.func186.trans (congrArg some (by kernel_rfl))
 f46 := ⟨Tryz.f211.name, by decide, Tryz.func211.trans (congrArg some (by kernel_rfl))⟩
 f47 := Tryz.func197.trans (congrArg some (by kernel_rfl))
 f48 := Tryz.func198.trans (congrArg some (by kernel_rfl))
 f49 := ⟨Tryz.f212.name, by decide, Tryz.func212.trans (congrArg some (by kernel_rfl))⟩
 f50 := ⟨Tryz.f213.name, by decide, Tryz.func213.trans (congrArg some (by kernel_rfl))⟩
 f57 := ⟨Tryz.f214.name, by decide, Tryz.func214.trans (congrArg some (by kernel_rfl))⟩
 t0 := Tryz.underlying0
 a0 := Tryz.isAgg0
 z0 := Tryz.sizeOf0
 v0 := Tryz.zeroValue0
 t3 := Tryz.underlying3
 a3 := Tryz.isAgg3
 z3 := Tryz.sizeOf3
 v3 := Tryz.zeroValue3
 t4 := Tryz.underlying4
 a4 := Tryz.isAgg4
 z4 := Tryz.sizeOf4
 v4 := Tryz.zeroValue4
 t5 := Tryz.underlying5
 a5 := Tryz.isAgg5
 z5 := Tryz.sizeOf5
 v5 := Tryz.zeroValue5
 t9 := Tryz.underlying9
 a9 := Tryz.isAgg9
 z9 := Tryz.sizeOf9
 v9 := Tryz.zeroValue9
 t22 := Tryz.underlying198
 a22 := Tryz.isAgg198
 z22 := Tryz.sizeOf198
 v22 := Tryz.zeroValue198
 t25 := Tryz.underlying202
 a25 := Tryz.isAgg202
 z25 := Tryz.sizeOf202
 v25 := Tryz.zeroValue202
 t39 := Tryz.underlying97
 a39 := Tryz.isAgg97
 z39 := Tryz.sizeOf97
 v39 := Tryz.zeroValue97
 t45 := Tryz.underlying215
 a45 := Tryz.isAgg215
 z45 := Tryz.sizeOf215
 v45 := Tryz.zeroValue215
 t46 := Tryz.underlying216
 a46 := Tryz.isAgg216
 z46 := Tryz.sizeOf216
 v46 := Tryz.zeroValue216
 t50 := Tryz.underlying220
 a50 := Tryz.isAgg220
 z50 := Tryz.sizeOf220
 v50 := Tryz.zeroValue220
 t53 := Tryz.underlying31
 a53 := Tryz.isAgg31
 z53 := Tryz.sizeOf31
 v53 := Tryz.zeroValue31
 t55 := Tryz.underlying71
 a55 := Tryz.isAgg71
 z55 := Tryz.sizeOf71
 v55 := Tryz.zeroValue71
 t66 := Tryz.underlying228
 a66 := Tryz.isAgg228
 z66 := Tryz.sizeOf228
 v66 := Tryz.zeroValue228
 t70 := Tryz.underlying232
 a70 := Tryz.isAgg232
 z70 := Tryz.sizeOf232
 v70 := Tryz.zeroValue232
 t76 := Tryz.underlying240
 a76 := Tryz.isAgg240
 z76 := Tryz.sizeOf240
 v76 := Tryz.zeroValue240
 t77 := Tryz.underlying114
 a77 := Tryz.isAgg114
 z77 := Tryz.sizeOf114
 v77 := Tryz.zeroValue114 }
open Go Go.Eng
theorem Qox (a b : Tr) (ha : TrOk a) (hb : TrOk b) (w : World) : Does Tryz.prog 165 #[.agg (Qbd a).toArray, .agg (Qbd b).toArray] w fun v w' => v = .int .i64 (cmpT a b) /\ w' = (w.alloc (Obj.cells (Qbd a).toArray 200)).alloc (Obj.cells (Qbd b).toArray 200) := by
 obtain ⟨ha1, ha2, ha3⟩ := ha
 obtain ⟨hb1, hb2, hb3⟩ := hb
 refine En [.agg (Qbd a).toArray, .agg (Qbd b).toArray] 23 Tryz.func165 ?_
 refine VQ [2, 3] fun K hK => ?_
 refine Qcg ?_
 refine Qs ?_
 have hH := (Heap.start w).box 200 (Qbd a)
 generalize w.alloc (Obj.cells (Qbd a).toArray 200) = w1 at *
 generalize w.heap.size = ga at *
 refine Qcg ?_
 refine Qs ?_
 have hH2 := hH.box 200 (Qbd b)
 generalize w1.alloc (Obj.cells (Qbd b).toArray 200) = w2 at *
 generalize w1.heap.size = gb at *
 clear hH
 apply hK;clear hK
 refine VQ [2, 3, 7] fun K hK => ?_
 refine ⟨Qbd a, ⟨rfl, Qa1 (hH2.at 1 rfl)⟩, ?_⟩
 refine ⟨Qbd b, ⟨rfl, Qa1 (hH2.at 0 rfl)⟩, ?_⟩
 rw [Qxs]
 apply hK;clear hK
 refine Vi (fun h => ?_) (fun h => Qac ?_)
 ·
  simp only [decide_eq_true_eq] at h
  subst h
  refine VS [4] ?_
  exact Qah (Qat rfl rfl ⟨by simp [cmpT], rfl⟩)
 clear h
 have c1 : w2.cell? ⟨ga, 0, none⟩ = some (.int .i64 a.1) := Qaf (hH2.at 1 rfl) rfl
 have c2 : w2.cell? ⟨ga, 1, none⟩ = some (.int .i64 a.2) := Qaf (hH2.at 1 rfl) rfl
 have c3 : w2.cell? ⟨gb, 0, none⟩ = some (.int .i64 b.1) := Qaf (hH2.at 0 rfl) rfl
 have c4 : w2.cell? ⟨gb, 1, none⟩ = some (.int .i64 b.2) := Qaf (hH2.at 0 rfl) rfl
 refine VQ [2, 3, 12] fun K hK => ?_
 refine ⟨_, c1, _, c3, ?_⟩
 refine Qs ?_
 apply hK;clear hK
 refine Vi (fun h => ?_) (fun h => Qac ?_)
 ·
  simp only [decide_eq_true_eq] at h
  refine VQ [4] fun K hK => ?_
  refine ⟨_, c1, _, c3, ?_⟩
  refine Qs ?_
  refine ⟨I64.mk (by omega) (by omega), ?_⟩
  apply hK;clear hK
  exact Qah (Qat rfl rfl ⟨by rw [cmpT, if_neg h], rfl⟩)
 simp only [decide_eq_false_iff_not, Decidable.not_not] at h
 refine VQ [4] fun K hK => ?_
 refine ⟨_, c2, _, c4, ?_⟩
 refine Qs ?_
 refine ⟨I64.mk (by omega) (by omega), ?_⟩
 apply hK;clear hK
 exact Qah (Qat rfl rfl ⟨by rw [cmpT, if_pos h], rfl⟩)
abbrev TrS := { t : Tr // TrOk t }
instance : Inhabited TrS := ⟨⟨(0, 0), by unfold TrOk;omega⟩⟩
def encS (x : TrS) : List Value := Qbd x.1
def cmpS (x y : TrS) : Int := cmpT x.1 y.1
theorem Qxz (x y : Tr) : cmpT x y < 0 ↔ (x.1 < y.1 ∨ (x.1 = y.1 /\ x.2 < y.2)) := by
 unfold cmpT
 split <;> omega
theorem swoT : Sort.SWO (Go.Proofs.ltOf cmpS) where
 irrefl x := by simp [Go.Proofs.ltOf, cmpS, cmpT]
 trans x y z h1 h2 := by
  simp only [Go.Proofs.ltOf, cmpS, decide_eq_true_eq, Qxz] at *
  omega
 ntrans x y z h1 h2 := by
  simp only [Go.Proofs.ltOf, cmpS, decide_eq_false_iff_not, Qxz] at *
  omega
theorem QBl (T : List Tr) (hT : T.length <= 1000000) (hok : ∀ t ∈ T, TrOk t) (g cap : Nat) (w0 w : World) (B : List Nat) (G : List Res) (hL : Heap w0 B w (trow g cap T :: G)) :
  Does Tryz.prog 164 #[.slice (some ⟨g, 0, none⟩) T.length cap, Qu2] w fun v w' => ∃ T' : List Tr, T'.Perm T /\ (T'.Pairwise fun a b => ¬ cmpT b a < 0) /\ Heap w0 B w' (trow g cap T' :: G) := by
 intro n
 obtain ⟨d, hd⟩ : ∃ d : Array TrS, d.toList.map (·.1) = T := by
  refine ⟨(T.pmap (fun t h => (⟨t, h⟩ : TrS)) hok).toArray, ?_⟩
  rw [List.toList_toArray, List.map_pmap]
  simp
 have hdl : d.size = T.length := by rw [<- hd];simp
 have henc : ∀ d : Array TrS, Qdo encS d.toList = Qe4 (d.toList.map (·.1)) := fun d => by
  unfold Qe4 Qdo
  rw [List.flatMap_map]
  rfl
 have hrow : (Res.row 200 2 (some ⟨g, 0, none⟩) d.size cap (Qdo encS d.toList)).holds w := by
  rw [henc d, hd, hdl];exact hL.at 0 rfl
 have hlt : g < w.heap.size := (hL.foot (trow g cap T) (by simp) g (by simp [trow, Res.row])).2
 have hcmp : Go.Proofs.CmpLays Tryz.prog 165 #[] encS 2 cmpS g 0 d.size (w.drewN n) := by
  intro m os dk hdk x y
  rw [Array.append_empty]
  have h := Qox x.1 y.1 x.2 y.2 (Go.Proofs.sortWorldK encS 2 (w.drewN n) g 0 m dk os) 0
  rw [QL9] at h
  refine Calls.mono h ?_
  rintro e w' ⟨v, w1, q, rfl, rfl, rfl, rfl⟩
  refine ⟨rfl, q, #[Obj.cells (Qbd x.1).toArray 200, Obj.cells (Qbd y.1).toArray 200], ?_⟩
  rw [Sort.alloc_eq_grow, Sort.alloc_eq_grow, Sort.grow_grow]
  rfl
 have hcon := AnyQ.slices_SortFunc QHr 2 Tryz.isAgg200 Tryz.sizeOf200 encS (fun _ => rfl) (fun x => Qdm x.1) cmpS swoT 165 #[] g 0 cap d (w.drewN n) Tryz.call165 hcmp (Qsi (enc := encS) (k := 2) (fun _ => rfl) hrow) hlt (by omega)
 change Calls Tryz.prog 164 _ _ _ at hcon
 rw [hdl] at hcon
 refine hcon.mono ?_
 rintro e w' ⟨rfl, d', m, os, ⟨hp1, hp2, hp3⟩, hs, rfl⟩
 obtain ⟨w1, e1, hH⟩ := Qxy (enc := encS) (k := 2) (fun _ => rfl) hrow hp1 n m os
 have e2 : (w1.drewN n).drewN m = w1.drewN (n + m) := by simp [World.drewN, Nat.add_assoc]
 have hH2 := hL.call1 0 rfl hH
 simp only [List.set_cons_zero, List.nil_append] at hH2
 have hlen : (d'.toList.map (·.1)).length = d'.size := by simp
 have e3 : Res.row 200 2 (some ⟨g, 0, none⟩) d'.size cap (Qdo encS d'.toList) = trow g cap (d'.toList.map (·.1)) := by
  rw [trow, hlen, <- henc d']
 rw [e3] at hH2
 have hfull : ∀ x : Array TrS, (x.extract 0 x.size).toList = x.toList := fun x => by simp
 refine ⟨_, w1, n + m, rfl, by rw [e1, e2], d'.toList.map (·.1), ?_, ?_, hH2⟩
 ·
  rw [<- hd]
  have h1 := hp3
  rw [<- hdl, hfull d, <- hp1, hfull d'] at h1
  exact h1.map _
 ·
  rw [List.pairwise_map, List.pairwise_iff_getElem]
  intro i j hi hj hij
  have h1 := hs i j (by omega) hij (by rw [<- hdl, <- hp1];simpa using hj)
  have h1 := of_decide_eq_false h1
  simp only [cmpS] at h1
  have hi' : i < d'.size := by simpa using hi
  have hj' : j < d'.size := by simpa using hj
  rw [getElem!_pos d' i hi', getElem!_pos d' j hj'] at h1
  simpa using h1
theorem QHs {n k : Nat} (hn : 2 <= n) (h1 : 2 ^ k <= n) (h2 : n < 2 ^ (k + 1)) : Qfb n = k := (Nat.log2_eq_iff (by omega)).2 ⟨h1, h2⟩
def negT (l : List Nat) (i : Nat) : Tr := (-((max (l.getD i 0) 1 : Nat) : Int), i)
theorem QEh (l : List Nat) (hl : 2 <= l.length) (hl2 : l.length <= 258) (hx : ∀ x ∈ l, x <= 1073741824) (pa : Option Addr) (lc : Nat) (w : World) (hr : RS w pa l.length 1 (Qam l)) :
  Does Tryz.prog 134 #[.slice pa l.length lc] w fun v w' => ∃ a cap, Heap w [] w' [Res.row 3 1 a (Qfr l).length cap (Qam (Qfr l))] /\ v = .tuple #[.slice a (Qfr l).length cap, .int .i64 0] := by
 have hc1 := Qoq l hl hl2 hx pa lc w hr
 obtain ⟨p, rfl⟩ := Qcy hr (by omega)
 have hget : ∀ i, i < l.length -> l.getD i 0 <= 1073741824 := fun i hi => hx _ (Qbq 0 hi)
 refine En [.slice (some p) l.length lc] 73 Tryz.func134 ?_
 generalize hn : l.length = n at *
 refine VS [0] ?_
 refine VQ [0, 14] fun K hK => ?_
 refine Qaa Tryz.call160 ?_;refine Qs ?_;refine CallK.mk hc1 ?_
 rintro v w2 ⟨rfl, rfl⟩
 refine Qs ?_
 apply hK;clear hK
 refine Qai rfl rfl (fun h => by simp at h) (fun h => Qac ?_)
 clear h hc1
 refine VS [0, 4, 5] ?_
 refine VB ?_
 refine Qaj [0, 4, 5] (fun m e w' => ∃ (k : Nat), Is e [(0, .slice (some p) n lc), (4, .int .i64 n), (5, .int .i64 k)] /\ Is w' w2 /\ 1 <= k /\ k <= 8 /\ 2 ^ k <= n /\ m = 9 - k) 8 ?_ ?_
 ·
  refine Qs ?_
  exact ⟨1, rfl, rfl, by omega, by omega, by omega, rfl⟩
 rintro m e w' ⟨k, rfl, rfl, hk1, hk8, hkn, rfl⟩
 have hp2 : 2 ^ (k + 1) <= 2 ^ 9 := Nat.pow_le_pow_right (by omega) (by omega)
 have hp3 : 2 ^ (k + 1) <= 512 := hp2
 have hsh : shN IntKind.i64 ((k : Int) + 1) = k + 1 := Qp9 (by omega) (by simp [IntKind.bits];omega)
 have hp : (1 : Int) * 2 ^ (k + 1) = ((2 ^ (k + 1) : Nat) : Int) := by push_cast;exact Int.one_mul _
 refine VQ [0, 4, 5, 21] fun K hK => ?_
 rw [hsh, hp]
 clear hp hp2 hsh
 generalize hP2 : 2 ^ (k + 1) = P2 at *
 refine ⟨I64.mk (by omega) (by omega), by omega, I64.mk (by omega) (by omega), ?_⟩
 apply hK;clear hK
 refine VD (fun h => ?_) (fun h => ?_)
 ·
  have hk9 : k + 1 <= 8 := by
   rcases Nat.lt_or_ge 8 (k + 1) with h3 | h3
   ·
    have : 2 ^ 9 <= 2 ^ (k + 1) := Nat.pow_le_pow_right (by omega) (by omega)
    rw [hP2] at this
    have e : (2 : Nat) ^ 9 = 512 := by decide
    omega
   ·
    exact h3
  refine Qac ?_
  refine Qag ?_
  refine VS [0, 4, 5] ?_
  refine Qar ?_
  refine Qad ?_
  refine Qs ?_
  exact ⟨9 - (k + 1), by omega, k + 1, rfl, rfl, by omega, hk9, by rw [hP2];omega, rfl⟩
 have hK := QHs (n := n) (k := k) (by omega) hkn (by rw [hP2];omega)
 refine Qak rfl ?_
 refine VQ [0, 4, 5, 6] fun K hK => ?_
 refine QAh (zs := [.int .i64 0, .int .i64 0]) (k := 2) (bytes := 16) Tryz.underlying198 (by kernel_rfl) rfl (by omega) ?_
 refine Qs ?_
 refine ⟨n, n, ⟨rfl, rfl, by omega, by omega, by omega⟩, ?_⟩
 have ez : ∀ c, (List.replicate c [Value.int .i64 0, Value.int .i64 0]).flatten = Qe4 (List.replicate c (0, 0)) := fun c => by
  induction c with
  | zero => rfl
  | succ c ih => rw [List.replicate_succ, List.flatten_cons, ih, List.replicate_succ];rfl
 have hH0 := (Heap.start w').row 200 (n := n) (cap := n) (sz := 2) (Qe4 (List.replicate n (0, 0))) [] (by rw [Qje];simp) (by rw [List.append_nil, Qje];simp) (by omega) (by omega)
 rw [List.append_nil, <- ez] at hH0
 generalize w'.alloc (Obj.cells (List.replicate n [Value.int IntKind.i64 0, Value.int IntKind.i64 0]).flatten.toArray 200) = w3 at *
 generalize w'.heap.size = go at *
 rw [ez] at hH0
 apply hK;clear hK
 refine VS [4, 5, 6, 26, 27, 28] ?_
 refine Qag ?_
 refine Qaj [4, 5, 6, 26, 27, 28] (fun m e w1 => ∃ (i : Nat), Is e [(4, .int .i64 n), (5, .int .i64 k), (6, .slice (some ⟨go, 0, none⟩) n n), (26, .slice (some p) n lc), (27, .int .i64 n), (28, .int .i64 i)] /\ Heap w' [] w1 [Res.row 200 2 (some ⟨go, 0, none⟩) n n (Qe4 ((List.range i).map (negT l) ++ List.replicate (n - i) (0, 0)))] /\ i <= n /\ m = n - i) n ?_ ?_
 ·
  refine Qs ?_
  exact ⟨0, rfl, by simpa using hH0, by omega, rfl⟩
 clear hH0
 rintro m e w4 ⟨i, rfl, hH, hi, rfl⟩
 refine VS [4, 5, 6, 26, 27, 28, 29] ?_
 (repeat refine Qaw ?_)
 refine VD (fun h => ?_) (fun h => ?_)
 ·
  have hcell := Qdl (hH.rs' hr) (i := i) (by omega)
  have hgi := hget i (by omega)
  have hsn : (List.range (i + 1)).map (negT l) = (List.range i).map (negT l) ++ [negT l i] := by rw [List.range_succ, List.map_append];rfl
  have hml : ((List.range i).map (negT l)).length = i := by simp
  have hnt : negT l i = (-((max (l.getD i 0) 1 : Nat) : Int), i) := rfl
  generalize (List.range i).map (negT l) = L at *
  generalize l.getD i 0 = x at *
  generalize negT l i = y at *
  have hset : (L ++ List.replicate (n - i) (0, 0)).set i y = (L ++ [y]) ++ List.replicate (n - (i + 1)) (0, 0) := by
   obtain ⟨q, hq⟩ : ∃ q, n - i = q + 1 := ⟨n - i - 1, by omega⟩
   rw [hq, List.replicate_succ, List.set_append_right _ _ (by omega), hml, Nat.sub_self, List.set_cons_zero, List.append_assoc, show n - (i + 1) = q by omega]
   rfl
  have hlen : (L ++ List.replicate (n - i) ((0 : Int), (0 : Nat))).length = n := by simp;omega
  refine Qac ?_
  refine VB ?_
  refine VQ [4, 5, 6, 7, 8, 26, 27, 28] fun K hK => ?_
  refine ⟨⟨by omega, by omega⟩, _, hcell, ?_⟩
  apply hK;clear hK
  refine VQ [4, 5, 6, 26, 27, 28] fun K hK => ?_
  refine ⟨I64.mk (by omega) (by omega), ⟨by omega, by omega⟩, ?_⟩
  rw [show -(max ((x : Nat) : Int) 1) = y.1 by rw [hnt];simp only;omega, show ((i : Nat) : Int) = (y.2 : Int) by rw [hnt]]
  refine Qab ?_
  refine Qs ?_
  refine Qbf hH 0 (o := i * 2) (vs := Qbd y) rfl (by first | exact (Qbp _ _ _).symm | rw [Qbp, Nat.zero_add] | (rw [Qbp];simp;omega)) rfl (by kernel_rfl) (by rw [Qje, hlen];simp [Qbd];omega) (Qdm y) fun w6 hH6 => ?_
  have e6 := Qto Qff (L ++ List.replicate (n - i) (0, 0)) i y (by omega)
  rw [hset] at e6
  have hH7 : Heap w' [] w6 [Res.row 200 2 (some ⟨go, 0, none⟩) n n (Qe4 ((L ++ [y]) ++ List.replicate (n - (i + 1)) (0, 0)))] := by
   rw [show Qe4 ((L ++ [y]) ++ List.replicate (n - (i + 1)) (0, 0)) = Qdo Qbd ((L ++ [y]) ++ List.replicate (n - (i + 1)) (0, 0)) from rfl, <- e6]
   exact hH6
  clear hH6 e6 hH hcell
  have hi2 : ((y.2 : Nat) : Int) = i := by rw [hnt]
  apply hK;clear hK
  rw [hi2]
  refine Qar ?_
  refine VS [4, 5, 6, 26, 27, 28] ?_
  refine Qad ?_
  refine Qs ?_
  exact ⟨n - (i + 1), by omega, i + 1, rfl, by rw [hsn];exact hH7, by omega, rfl⟩
 obtain rfl : i = n := by omega
 rw [Nat.sub_self, List.replicate_zero, List.append_nil] at hH
 have hTl : ((List.range i).map (negT l)).length = i := by simp
 have hTok : ∀ t ∈ (List.range i).map (negT l), TrOk t := fun t ht => by
  obtain ⟨j, hj, rfl⟩ := List.mem_map.1 ht
  have hj : j < i := by simpa using hj
  have := hget j hj
  unfold TrOk negT
  simp only
  omega
 have hH1 : Heap w' [] w4 [trow go i ((List.range i).map (negT l))] := by
  unfold trow
  rw [hTl];exact hH
 clear hH
 refine Qak rfl ?_
 have hcs := QBl _ (by omega) hTok go i w' w4 [] [] hH1
 rw [hTl] at hcs
 refine VQ [4, 5, 6] fun K hK => ?_
 refine Qaa Tryz.call164 ?_;refine Qs ?_;refine CallK.mk hcs ?_
 rintro v w5 ⟨T, hTp, hTs, hH2⟩
 have hTlen : T.length = i := by rw [hTp.length_eq, hTl]
 have hTmem : ∀ t ∈ T, t = negT l t.2 /\ t.2 < i := fun t ht => by
  obtain ⟨j, hj, rfl⟩ := List.mem_map.1 (hTp.mem_iff.1 ht)
  exact ⟨rfl, by simpa [negT] using hj⟩
 have hσp : (T.map (·.2)).Perm (List.range l.length) := by
  have := hTp.map (·.2)
  rw [List.map_map] at this
  rw [hn]
  refine this.trans ?_
  have e : ((List.range i).map ((fun t : Tr => t.2) ∘ negT l)) = List.range i := by
   conv => rhs;rw [<- List.map_id (List.range i)]
   exact List.map_congr_left fun j _ => rfl
  rw [e]
 have hσs : (T.map (·.2)).Pairwise fun a b => Qfa l a b = true := by
  have hnd : (T.map (·.2)).Nodup := hσp.nodup_iff.2 List.nodup_range
  rw [List.pairwise_map]
  have h2 := hTs.and (List.pairwise_map.1 hnd)
  have h3 : T.Pairwise fun a b => (a = negT l a.2) /\ (b = negT l b.2) := List.pairwise_iff_getElem.2 fun i j hi hj _ => ⟨(hTmem _ (List.getElem_mem hi)).1, (hTmem _ (List.getElem_mem hj)).1⟩
  refine (h2.and h3).imp ?_
  rintro a b ⟨⟨h4, h5⟩, h6, h7⟩
  rw [Qxz] at h4
  have e1 : a.1 = -((max (l.getD a.2 0) 1 : Nat) : Int) := congrArg Prod.fst h6
  have e2 : b.1 = -((max (l.getD b.2 0) 1 : Nat) : Int) := congrArg Prod.fst h7
  rw [Qf9]
  omega
 have hfr : ∀ q t, T[q]? = some t -> Qqi l t.2 = q := fun q t ht => by
  obtain ⟨hq, e⟩ := List.getElem?_eq_some_iff.1 ht
  have := Qoa hσp hσs (p := q) (by simpa using hq)
  rw [List.getElem_map, e] at this
  exact this
 clear hcs hH1 hTs hTok hTl
 apply hK;clear hK
 refine VQ [4, 5, 6, 9] fun K hK => ?_
 refine Qbw Tryz.underlying36 zi3 ?_
 refine Qs ?_
 refine ⟨i, i, ⟨rfl, rfl, by omega, by omega, by omega⟩, ?_⟩
 have hH3 := hH2.row 3 (n := i) (cap := i) (sz := 1) (Qam (List.replicate i 0)) [] (by simp [Qan]) (by simp [Qan]) (by omega) (by omega)
 rw [List.append_nil, Qcs] at hH3
 generalize w5.alloc (Obj.cells (List.replicate i (Value.int IntKind.i64 0)).toArray 3) = w6 at *
 generalize w5.heap.size = gu at *
 rw [<- Qcs] at hH3
 clear hH2
 apply hK;clear hK
 refine VS [4, 5, 9, 46, 47, 48] ?_
 refine Qag ?_
 refine Qaj [4, 5, 9, 46, 47, 48] (fun m e w1 => ∃ (q : Nat) (O : List Nat), Is e [(4, .int .i64 i), (5, .int .i64 k), (9, .slice (some ⟨gu, 0, none⟩) i i), (46, .slice (some ⟨go, 0, none⟩) i i), (47, .int .i64 i), (48, .int .i64 q)] /\ Heap w' [] w1 [Res.row 3 1 (some ⟨gu, 0, none⟩) i i (Qam O), trow go i T] /\ O.length = i /\ (∀ j t, j < q -> T[j]? = some t -> O.getD t.2 0 = Qmt i j) /\ q <= i /\ m = i - q) i ?_ ?_
 ·
  refine Qs ?_
  exact ⟨0, _, rfl, hH3, by simp, fun j t hj _ => by omega, by omega, rfl⟩
 clear hH3
 rintro m e w7 ⟨q, O, rfl, hH, hOl, hO, hq, rfl⟩
 refine VS [4, 5, 9, 46, 47, 48, 49] ?_
 (repeat refine Qaw ?_)
 refine VD (fun h => ?_) (fun h => ?_)
 ·
  have hqT : T[q]? = some T[q] := List.getElem?_eq_getElem (by omega)
  have htm := hTmem T[q] (List.getElem_mem _)
  have hfq := hfr q _ hqT
  have hrd := Qhp Qff (Qa8 (hH.at 1 rfl)) rfl hqT
  rw [Qbp, Nat.zero_add] at hrd
  have hfl : Qmt i q = if P2 - i <= q then k + 1 else k := by rw [Qmt, hK, hP2]
  generalize T[q] = t at *
  refine Qac ?_
  refine VB ?_
  refine VQ [4, 5, 9, 10, 11, 46, 47, 48] fun K hK => ?_
  refine ⟨⟨by omega, by omega⟩, Qbd t, ⟨rfl, hrd⟩, ?_⟩
  refine Qal (.agg #[.int .i64 0, .int .i64 0]) (by kernel_rfl) ?_
  refine Qs ?_
  have hH4 := hH.box 200 [.int .i64 0, .int .i64 0]
  generalize w7.alloc (Obj.cells [Value.int .i64 0, .int .i64 0].toArray 200) = w8 at *
  generalize w7.heap.size = gt at *
  refine Qab ?_
  refine Qs ?_
  refine Qae hH4 0 (vs := Qbd t) rfl rfl (by kernel_rfl) (by simp [Qbd]) (Qdm _) fun w9 hH5 => ?_
  have hH5 : Heap w' [] w9 [Res.blk gt 200 (Qbd t), Res.row 3 1 (some ⟨gu, 0, none⟩) i i (Qam O), trow go i T] := hH5
  apply hK;clear hK
  clear hH hH4 hrd
  have ct : (Qbd t)[1]? = some (.int .i64 (t.2 : Nat)) := rfl
  have hO2 : ∀ x, ∀ j t', j < q + 1 -> T[j]? = some t' -> (O.set t.2 x).getD t'.2 0 = if j = q then x else Qmt i j := fun x j t' hj ht' => by
   have h8 := hfr j t' ht'
   by_cases e : j = q
   ·
    subst e
    have e2 : t' = t := by rw [hqT] at ht';exact (Option.some.inj ht').symm
    rw [if_pos rfl, e2, Qc3 (by omega)]
   ·
    rw [if_neg e, Qcr (fun e2 => e (by rw [<- h8, <- e2, hfq])), hO j t' (by omega) ht']
  refine VQ [4, 5, 9, 10, 11, 46, 47, 48] fun K hK => ?_
  refine ⟨_, Qaf (hH5.at 0 rfl) ct, ?_⟩
  refine Qs ?_
  refine Qp ?_
  refine Qab ?_;refine Qs ?_;refine Qbf hH5 1 (o := (t.2)) (vs := [.int .i64 (k : Nat)]) rfl (by first | exact (Qbp _ _ _).symm | rfl | simp [Qbp]) rfl (by kernel_rfl) (by first | omega | (simp;omega) | (simp [Qao, Qbn];omega) | (rw [Qan];simp;omega)) (by simp [Value.oneCell']) fun w6 hH6 => ?_;(try refine Qs ?_)
  simp only [List.length_singleton, Qb2 (Qam O) _ _ (show t.2 < (Qam O).length by rw [Qan, hOl];omega), Qch, List.set_cons_zero, List.set_cons_succ] at hH6
  apply hK;clear hK
  refine VQ [4, 5, 9, 11, 46, 47, 48, 64] fun K hK => ?_
  rw [Qp9 (i := (k : Int) + 1) (n := k + 1) (by omega) (by simp [IntKind.bits];omega), show (1 : Int) * 2 ^ (k + 1) = ((2 ^ (k + 1) : Nat) : Int) by push_cast;exact Int.one_mul _, hP2]
  (repeat first | refine Qo ?_ | refine Qp ?_)
  apply hK;clear hK
  refine VD (fun h => ?_) (fun h => Qac ?_)
  ·
   rw [if_pos (by omega)] at hfl
   refine VQ [4, 5, 9, 46, 47, 48] fun K hK => ?_
   refine ⟨_, Qaf (hH6.at 0 rfl) ct, ?_⟩
   refine Qs ?_
   refine ⟨I64.mk (by omega) (by omega), ⟨by omega, by omega⟩, ?_⟩
   refine Qab ?_;refine Qs ?_;refine Qbf hH6 1 (o := (t.2)) (vs := [.int .i64 (k + 1 : Nat)]) rfl (by first | exact (Qbp _ _ _).symm | rfl | simp [Qbp]) rfl (by kernel_rfl) (by first | omega | (simp;omega) | (simp [Qao, Qbn];omega) | (rw [Qan];simp;omega)) (by simp [Value.oneCell']) fun w6 hH7 => ?_;(try refine Qs ?_)
   simp only [List.length_singleton, Qb2 (Qam (O.set t.2 k)) _ _ (show t.2 < (Qam (O.set t.2 k)).length by rw [Qan, List.length_set, hOl];omega), Qch, List.set_cons_zero, List.set_cons_succ, List.set_set] at hH7
   apply hK;clear hK
   refine Qar ?_
   refine VS [4, 5, 9, 46, 47, 48] ?_
   refine Qad ?_
   refine Qs ?_
   refine ⟨i - (q + 1), by omega, q + 1, _, rfl, hH7.sub (List.sublist_cons_self _ _), by simp [hOl], fun j t' hj ht' => ?_, by omega, rfl⟩
   rw [hO2 (k + 1) j t' hj ht']
   split
   ·
    rename_i e;rw [e, hfl]
   ·
    rfl
  ·
   rw [if_neg (by omega)] at hfl
   refine Qar ?_
   refine VS [4, 5, 9, 46, 47, 48] ?_
   refine Qad ?_
   refine Qs ?_
   refine ⟨i - (q + 1), by omega, q + 1, _, rfl, hH6.sub (List.sublist_cons_self _ _), by simp [hOl], fun j t' hj ht' => ?_, by omega, rfl⟩
   rw [hO2 k j t' hj ht']
   split
   ·
    rename_i e;rw [e, hfl]
   ·
    rfl
 ·
  obtain rfl : q = i := by omega
  have hfin : O = Qfr l := by
   apply List.ext_getElem
   ·
    rw [hOl, Qfr, List.length_map, List.length_range, hn]
   ·
    intro j h1 h2
    have hj : j < l.length := by omega
    have hm : j ∈ T.map (·.2) := hσp.mem_iff.2 (by simpa using hj)
    obtain ⟨t, ht, e⟩ := List.mem_map.1 hm
    obtain ⟨p', hp', e2⟩ := List.getElem_of_mem ht
    have h3 : T[p']? = some t := by rw [List.getElem?_eq_getElem hp', e2]
    have h4 := hO p' t (by omega) h3
    have h5 := hfr p' t h3
    simp only [Qfr, List.getElem_map, List.getElem_range]
    have e5 : O.getD j 0 = Qmt l.length (Qqi l j) := by
     have e' : t.2 = j := e
     rw [hn, <- e', h5];exact h4
    rw [<- e5, List.getD_eq_getElem?_getD, List.getElem?_eq_getElem h1];rfl
  have hfl2 : (Qfr l).length = q := by rw [<- hfin];exact hOl
  refine Qak rfl ?_
  refine VS [2, 3] ?_
  refine Qah (Qa4 rfl rfl rfl ⟨some ⟨gu, 0, none⟩, q, ?_, by rw [hfl2]⟩)
  rw [hfl2, <- hfin]
  exact hH.sub (by simp)
theorem Qoy {w : World} {v : Value} {T : List (List Nat)} {P : List Nat} {ta pa : Option Addr} {nt tc np pc : Nat} {hs : List (Option Addr × Nat)} (hv : v = .agg (Qaq ta nt tc pa np pc).toArray) (hnt : T.length = nt) (hnp : P.length = np) (hl : hs.length = nt) (h1 : RS w ta nt 1 (Qb3 hs T)) (h2 : RS w pa np 1 (Qam P))
  (h3 : ∀ (i : Nat) (h : Option Addr × Nat) (t : List Nat), hs[i]? = some h -> T[i]? = some t -> RS w h.1 t.length 1 (Qam t)) : PlanAt w v T P := by
 subst hnt hnp
 exact ⟨ta, tc, pa, pc, hs, hv, hl, h1, h2, h3⟩
theorem Qb6 (ta : Option Addr) (nt tc : Nat) (pa : Option Addr) (np pc : Nat) : ∀ u ∈ Qaq ta nt tc pa np pc, u.oneCell' = true := by
 intro u hu
 simp [Qaq] at hu
 rcases hu with rfl | rfl <;> rfl
theorem QBm (l : List Nat) (x n : Nat) (hx : x < n) : (List.range n).map (fun s => (l ++ [x]).count s) = ((List.range n).map fun s => l.count s).set x (l.count x + 1) := by
 apply List.ext_getElem?
 intro j
 rw [List.getElem?_map, List.getElem?_set, List.getElem?_map, List.length_map, List.length_range]
 by_cases e : x = j
 ·
  subst e
  rw [if_pos rfl, if_pos hx, List.getElem?_range hx]
  simp [List.count_append]
 ·
  rw [if_neg e]
  by_cases hj : j < n
  ·
   rw [List.getElem?_range hj]
   simp [List.count_append, List.count_singleton, e]
  ·
   rw [List.getElem?_eq_none (by simpa using hj)];rfl
theorem QBn (l : List Nat) (n : Nat) : ((List.range n).map fun s => l.count s).length = n := by simp
theorem QBo (n : Nat) : (List.range n).map (fun s => ([] : List Nat).count s) = List.replicate n 0 := by
 apply List.ext_getElem?
 intro j
 rw [List.getElem?_map, List.getElem?_replicate]
 by_cases hj : j < n
 ·
  rw [List.getElem?_range hj, if_pos hj];rfl
 ·
  rw [List.getElem?_eq_none (by simpa using hj), if_neg hj];rfl
def QLw (G : List Res) (v : Value) (T : List (List Nat)) (P : List Nat) : Prop := ∀ w : World, (∀ r ∈ G, r.holds w) -> PlanAt w v T P
theorem Qsj (list : List Nat) (n : Nat) (hm : Qgk list n) (a : Option Addr) (lc : Nat) (w : World) (hr : RS w a list.length 1 (Qam list)) :
  Does Tryz.prog 77 #[.slice a list.length lc, .int .i64 n] w fun x w' => ∃ v G, Heap w [] w' G /\ QLw G v (Qb7 list n).1 (Qb7 list n).2 /\ x = .tuple #[v, .int .i64 0] := by
 have hml := Qml list n hm a lc
 have hfl := Qw2 hm
 have hfq : Qfx list n = (List.range n).map fun s => list.count s := rfl
 obtain ⟨h1, h2, h3, h4, h5⟩ := hm
 have hg1 := (Qhi h3 h4)
 obtain ⟨p, rfl⟩ := Qcy hr (by omega)
 refine En [.slice (some p) list.length lc, .int .i64 n] 51 Tryz.func77 ?_
 generalize hnl : list.length = nl at *
 refine VQ [0, 1, 4] fun K hK => ?_
 refine Qal (.agg #[.slice none 0 0, .slice none 0 0]) (by kernel_rfl) ?_
 refine Qs ?_
 have hH := (Heap.start w).box 65 (Qaq none 0 0 none 0 0)
 have hpl : [Value.slice none 0 0, Value.slice none 0 0] = Qaq none 0 0 none 0 0 := rfl
 rw [hpl]
 generalize w.alloc (Obj.cells (Qaq none 0 0 none 0 0).toArray 65) = w1 at *
 generalize w.heap.size = gr at *
 apply hK;clear hK
 refine VQ [0, 1, 4, 16] fun K hK => ?_
 refine Qaa Tryz.call129 ?_;refine Qs ?_;refine CallK.mk (hml w1 (hH.rs' hr)) ?_
 rintro v w2 ⟨rfl, rfl⟩
 refine Qs ?_
 apply hK;clear hK
 refine Qai rfl rfl (fun h => by simp at h) (fun h => Qac ?_)
 clear h
 refine VQ [0, 4, 6] fun K hK => ?_
 refine Qbw Tryz.underlying36 zi3 ?_
 refine Qs ?_
 refine ⟨n, n, ⟨rfl, rfl, by omega, by omega, by omega⟩, ?_⟩
 have hH2 := hH.row 3 (n := n) (cap := n) (sz := 1) (Qam (List.replicate n 0)) [] (by simp [Qan]) (by simp [Qan]) (by omega) (by omega)
 rw [List.append_nil, Qcs] at hH2
 generalize w2.alloc (Obj.cells (List.replicate n (Value.int IntKind.i64 0)).toArray 3) = w3 at *
 generalize w2.heap.size = gu at *
 rw [<- Qcs] at hH2
 clear hH
 apply hK;clear hK
 refine VS [0, 4, 6, 20, 21, 22] ?_
 refine Qag ?_
 refine Qaj [0, 4, 6, 20, 21, 22] (fun m e w' => ∃ (i : Nat), Is e [(0, .slice (some p) nl lc), (4, .pointer (some ⟨gr, 0, none⟩)), (6, .slice (some ⟨gu, 0, none⟩) n n), (20, .slice (some p) nl lc), (21, .int .i64 nl), (22, .int .i64 i)] /\ Heap w [] w' [Res.row 3 1 (some ⟨gu, 0, none⟩) n n (Qam ((List.range n).map fun s => (list.take i).count s)), Res.blk gr 65 (Qaq none 0 0 none 0 0)] /\ i <= nl /\ m = nl - i) nl ?_ ?_
 ·
  refine Qs ?_
  exact ⟨0, rfl, by rw [List.take_zero, QBo];exact hH2, by omega, rfl⟩
 clear hH2
 rintro m e w4 ⟨i, rfl, hH, hi, rfl⟩
 refine VS [0, 4, 6, 20, 21, 22, 23] ?_
 (repeat refine Qaw ?_)
 refine VD (fun h => ?_) (fun h => ?_)
 ·
  have hcell := Qdl (hH.rs' hr) (i := i) (by omega)
  have hx := h5 _ (Qbq 0 (l := list) (i := i) (by omega))
  have htk : list.take (i + 1) = list.take i ++ [list.getD i 0] := Qds 0 (by omega)
  have hsn := QBm (list.take i) (list.getD i 0) n hx
  rw [<- htk] at hsn
  have hcl := QBn (list.take i) n
  have hcg : ((List.range n).map fun s => (list.take i).count s).getD (list.getD i 0) 0 = (list.take i).count (list.getD i 0) := Qiy _ _ _ _ hx
  have hcle : (list.take i).count (list.getD i 0) <= i := Nat.le_trans List.count_le_length (by rw [List.length_take];omega)
  generalize list.getD i 0 = x at *
  have hcu : w4.cell? ⟨gu, x, none⟩ = some (.int .i64 (((list.take i).count x : Nat) : Int)) := by
   rw [<- hcg];exact Qba (hH.at 0 rfl) (Qb5 (by omega))
  generalize (list.take i).count x = c at *
  generalize ((List.range n).map fun s => (list.take i).count s) = C at *
  refine Qac ?_
  refine VB ?_
  refine VQ [0, 4, 6, 8, 20, 21, 22] fun K hK => ?_
  refine ⟨⟨by omega, by omega⟩, _, hcell, ?_⟩
  apply hK;clear hK
  refine VQ [0, 4, 6, 20, 21, 22] fun K hK => ?_
  refine ⟨⟨by omega, by omega⟩, _, hcu, ?_⟩
  refine Qs ?_
  refine ⟨I64.mk (by omega) (by omega), ⟨by omega, by omega⟩, ?_⟩
  refine Qab ?_;refine Qs ?_;refine Qbf hH 0 (o := (x)) (vs := [.int .i64 (c + 1 : Nat)]) rfl (by first | exact (Qbp _ _ _).symm | rfl | simp [Qbp]) rfl (by kernel_rfl) (by first | omega | (simp;omega) | (simp [Qao, Qbn];omega) | (rw [Qan];simp;omega)) (by simp [Value.oneCell']) fun w6 hH3 => ?_;(try refine Qs ?_)
  simp only [List.length_singleton, Qb2 (Qam C) _ _ (show x < (Qam C).length by rw [Qan];omega), Qch, List.set_cons_zero, <- hsn] at hH3
  apply hK;clear hK
  refine Qar ?_
  refine VS [0, 4, 6, 20, 21, 22] ?_
  refine Qad ?_
  refine Qs ?_
  exact ⟨nl - (i + 1), by omega, i + 1, rfl, hH3, by omega, rfl⟩
 obtain rfl : i = nl := by omega
 clear h hi
 rw [List.take_of_length_le (by omega), <- hfq] at hH
 have hql : (Qfx list n).length = n := by rw [hfq];simp
 have hqx : ∀ x ∈ Qfx list n, x <= 1073741824 := fun x hx => by
  obtain ⟨s, _, rfl⟩ := List.mem_map.1 hx
  have := List.count_le_length (l := list) (a := s)
  omega
 have hflp : Qb7 list n = ([Qfr (Qfx list n), Qfr (Qfx list n)], List.replicate (Qb8 i) 0) := by unfold Qb7;rw [hnl]
 rw [hflp]
 have hfd := QEh (Qfx list n) (by omega) (by omega) hqx (some ⟨gu, 0, none⟩) n
 rw [hql] at hfd
 clear hfq hqx
 generalize Qfx list n = Q at *
 generalize i = nl at *
 refine Qak rfl ?_
 refine VQ [0, 4, 6, 9] fun K hK => ?_
 refine Qaa Tryz.call134 ?_;refine Qs ?_;refine CallK.mk (hfd w4 (Qa8 (hH.at 0 rfl))) ?_
 rintro v w5 ⟨aa, ca, hHa, rfl⟩
 have hH2 := hH.call0 hHa
 simp only [List.singleton_append] at hH2
 clear hH hHa
 apply hK;clear hK
 refine VQ [0, 4, 9, 11] fun K hK => ?_
 refine Qaa Tryz.call134 ?_;refine Qs ?_;refine CallK.mk (hfd w5 (Qa8 (hH2.at 1 rfl))) ?_
 rintro v w6 ⟨ab, cb, hHb, rfl⟩
 have hH3 := hH2.call0 hHb
 simp only [List.singleton_append] at hH3
 clear hH2 hHb hfd
 generalize hF : Qfr Q = F at *
 apply hK;clear hK
 refine VQ [4, 5] fun K hK => ?_
 refine Qc1 hH3 (Qb3 [(aa, ca), (ab, cb)] [F, F]) (xs := [.tmp 43, .tmp 44]) Tryz.underlying63 sz36 rfl rfl rfl (by omega) ?_
 refine Qs ?_
 refine ⟨rfl, by simp [Value.cells], fun gt w7 hH4 => ?_⟩
 refine Qaa Tryz.call83 ?_;refine Qs ?_;refine CallK.mk (Qh3 nl (by omega) w7) ?_
 rintro v w8 ⟨rfl, rfl⟩
 generalize hgN : Qb8 nl = gN at *
 refine Qbw Tryz.underlying36 zi3 ?_
 refine Qs ?_
 refine ⟨gN, gN, ⟨rfl, rfl, by omega, by omega, by omega⟩, ?_⟩
 have hH5 := hH4.row 3 (n := gN) (cap := gN) (sz := 1) (Qam (List.replicate gN 0)) [] (by simp [Qan]) (by simp [Qan]) (by omega) (by omega)
 rw [List.append_nil, Qcs] at hH5
 generalize w8.alloc (Obj.cells (List.replicate gN (Value.int IntKind.i64 0)).toArray 3) = w9 at *
 generalize w8.heap.size = gz at *
 rw [<- Qcs] at hH5
 clear hH3 hH4
 refine Qab ?_
 refine Qs ?_
 refine Qae hH5 5 (vs := Qaq (some ⟨gt, 0, none⟩) 2 2 (some ⟨gz, 0, none⟩) gN gN) rfl rfl (by kernel_rfl) (by simp [Qaq]) (Qb6 _ _ _ _ _ _) fun w10 hH6 => ?_
 simp only [List.set_cons_zero, List.set_cons_succ] at hH6
 apply hK;clear hK
 refine Qah (Qeq rfl rfl rfl (Qbu (hH6.at 5 rfl) (by kernel_rfl) (by kernel_rfl) rfl ?_))
 refine ⟨_, _, hH6.sub (List.take_sublist 4 _), fun w' hh => Qoy rfl rfl (by simp) rfl (Qa8 (hh _ (List.mem_of_getElem? (i := 1) rfl))) (Qa8 (hh _ (List.mem_of_getElem? (i := 0) rfl))) (fun i h t h6 h7 => ?_), rfl⟩
 match i with
 | 0 => cases h6;cases h7;exact Qa8 (hh _ (List.mem_of_getElem? (i := 3) rfl))
 | 1 => cases h6;cases h7;exact Qa8 (hh _ (List.mem_of_getElem? (i := 2) rfl))
 | i + 2 => simp at h6
theorem Qk1 (v : Value) (T : List (List Nat)) (P : List Nat) (hm : mayP T P) (list : List Nat) (hl1 : 1 <= list.length) (hls : ∀ s ∈ list, s < (T.getD 0 []).length) (hlg : Qb8 list.length <= P.length) (hsz : Qib (T, P) list <= 1000000000000) (a : Option Addr) (lc : Nat) (w : World) (hp : PlanAt w v T P) (hr : RS w a list.length 1 (Qam list)) :
  Does Tryz.prog 78 #[v, .slice a list.length lc] w fun x w' => Heap w [] w' [] /\ x = .tuple #[.int .i64 (Qib (T, P) list : Nat), .int .i64 0] := by
 have hpd := Qmo v T P hm list hl1 hls hlg a lc
 have hsd := Qk0 v T P hm
 have hsz' : Qib (T, P) list = (Qbz T P).length + (Qf5 T P list 0).length := rfl
 rw [hsz'] at hsz ⊢
 have hp0 := hp
 obtain ⟨ta, tc, pa, pc, hs, rfl, hsl, hrT, hrP, hrt⟩ := hp
 have hen : #[Value.agg #[.slice ta T.length tc, .slice pa P.length pc], .slice a list.length lc] = [Value.agg (Qaq ta T.length tc pa P.length pc).toArray, .slice a list.length lc].toArray := rfl
 rw [hen]
 refine Qfl 29 Tryz.func78 rfl rfl (of_decide_eq_true rfl) ?_
 simp only [Env.ofArgs]
 generalize list.length = nl at *
 generalize T.length = nt at *
 generalize P.length = np at *
 generalize Qf5 T P list 0 = X at *
 generalize Qbz T P = Y at *
 refine VQ [1, 2] fun K hK => ?_
 refine Qcg ?_
 refine Qs ?_
 have hH := (Heap.start w).box 65 (Qaq ta nt tc pa np pc)
 generalize w.alloc (Obj.cells (Qaq ta nt tc pa np pc).toArray 65) = w1 at *
 generalize w.heap.size = gp at *
 apply hK;clear hK
 refine VQ [2, 6, 7] fun K hK => ?_
 refine ⟨Qaq ta nt tc pa np pc, ⟨rfl, Qa1 (hH.at 0 rfl)⟩, ?_⟩
 refine Qaa Tryz.call41 ?_;refine Qs ?_;refine CallK.mk (hpd w1 (hp0.keep hH) (hH.rs' hr)) ?_
 rintro v w2 ⟨hHp, rfl⟩
 have hH2 := hH.call0 hHp
 simp only [List.nil_append] at hH2
 clear hH hHp
 refine Qal (.agg #[.string ⟨#[]⟩, .int .i64 0]) (by kernel_rfl) ?_
 refine Qs ?_
 have hH3 := hH2.box 24 [.string ⟨#[]⟩, .int .i64 0]
 generalize w2.alloc (Obj.cells [Value.string ⟨#[]⟩, .int .i64 0].toArray 24) = w3 at *
 generalize w2.heap.size = gb at *
 refine Qab ?_
 refine Qs ?_
 refine Qae hH3 0 (vs := Qa7 X) rfl rfl (by kernel_rfl) (by simp [Qa7]) (Qbt _) fun w4 hH4 => ?_
 simp only [List.set_cons_zero] at hH4
 clear hH2 hH3
 apply hK;clear hK
 refine VS [2, 6, 7, 17] ?_
 refine Qai rfl rfl (fun h => by simp at h) (fun h => Qac ?_)
 clear h
 refine VQ [6, 8] fun K hK => ?_
 refine ⟨Qaq ta nt tc pa np pc, ⟨rfl, Qa1 (hH4.at 1 rfl)⟩, ?_⟩
 refine Qaa Tryz.call40 ?_;refine Qs ?_;refine CallK.mk (hsd w4 (hp0.keep hH4)) ?_
 rintro v w5 ⟨hHs, rfl⟩
 have hH5 := hH4.call0 hHs
 simp only [List.nil_append] at hH5
 clear hH4 hHs
 refine Qal (.agg #[.string ⟨#[]⟩, .int .i64 0]) (by kernel_rfl) ?_
 refine Qs ?_
 have hH6 := hH5.box 24 [.string ⟨#[]⟩, .int .i64 0]
 generalize w5.alloc (Obj.cells [Value.string ⟨#[]⟩, .int .i64 0].toArray 24) = w6 at *
 generalize w5.heap.size = ga at *
 refine Qab ?_
 refine Qs ?_
 refine Qae hH6 0 (vs := Qa7 Y) rfl rfl (by kernel_rfl) (by simp [Qa7]) (Qbt _) fun w7 hH7 => ?_
 simp only [List.set_cons_zero] at hH7
 clear hH5 hH6
 apply hK;clear hK
 refine VQ [4, 5] fun K hK => ?_
 refine ⟨_, Qaf (hH7.at 0 rfl) (show (Qa7 Y)[1]? = some _ from rfl), _, Qaf (hH7.at 1 rfl) (show (Qa7 X)[1]? = some _ from rfl), ?_⟩
 refine Qs ?_
 (repeat refine Qo ?_);apply hK;clear hK
 exact Qah (Qa4 rfl rfl rfl ⟨hH7.sub (by simp), rfl⟩)
set_option maxHeartbeats 4000000
theorem Qav {P : Program} {N : Nat} {ops : List Oper} {w0 : World} {e : Env} {w : World} {K : Env -> World -> Prop} : vcH P N ops w0 [] e w K = K e w := rfl
abbrev QO2 : Value := .agg (Qaq none 0 0 none 0 0).toArray
def QO3 (r : Except Int ((List (List Nat) × List Nat) × Nat)) (w : World) (v : Value) (w' : World) : Prop := match r with
 | .ok q => ∃ pv, Heap w [] w' [] /\ PlanAt w' pv q.1.1 q.1.2 /\ v = .tuple #[pv, .int .i64 q.2, .int .i64 0]
 | .error e => Heap w [] w' [] /\ v = .tuple #[QO2, .int .i64 0, .int .i64 e]
theorem Qsk (s : List UInt8) (at_ n : Nat) (ha : at_ <= 8 * s.length) (hs : s.length <= 100000000000000) (hn : 3 <= n /\ n <= 258) (w : World) :
  Does Tryz.prog 47 #[Str s, .int .i64 at_, .int .i64 n] w (QO3 (Qc4 (Qap s) at_ n) w) := by
 have hbl := Qax s
 generalize hres : Qc4 (Qap s) at_ n = res
 unfold Qc4 at hres
 refine En [Str s, .int .i64 at_, .int .i64 n] 122 Tryz.func47 ?_
 refine VQ [0, 1, 2, 6] fun K hK => ?_
 refine Qal (.agg #[.slice none 0 0, .slice none 0 0]) (by kernel_rfl) ?_
 refine Qs ?_
 have hH := (Heap.start w).box 65 (Qaq none 0 0 none 0 0)
 have hpl : [Value.slice none 0 0, Value.slice none 0 0] = Qaq none 0 0 none 0 0 := rfl
 rw [hpl]
 generalize w.alloc (Obj.cells (Qaq none 0 0 none 0 0).toArray 65) = w1 at *
 generalize w.heap.size = gr at *
 apply hK;clear hK
 refine VQ [0, 2, 6, 9] fun K hK => ?_
 refine Qaa Tryz.call86 ?_;refine Qs ?_;refine CallK.mk (Qc8 s at_ w1 (I64.mk (by omega) (by omega)) (by omega)) ?_
 rintro v w2 (⟨hbad, _⟩ | ⟨_, gd, gs, hHr, rfl⟩)
 ·
  omega
 rw [Int.toNat_natCast] at hHr
 have hH2 := hH.call0 hHr
 simp only [List.singleton_append] at hH2
 clear hH hHr
 apply hK;clear hK
 refine VQ [0, 2, 6, 9, 32] fun K hK => ?_
 suffices out : ∀ b : Bool, (b = true ↔ False) -> K [(0, Str s), (2, .int .i64 n), (6, .pointer (some ⟨gr, 0, none⟩)), (9, .pointer (some ⟨gd, 0, none⟩)), (32, .bool b)] w2 by (repeat' (first | exact out _ _ (by first | omega | (simp;done) | (simp;omega)) | exact out _ (by first | omega | (simp;done) | (simp;omega)) | refine ⟨fun _ => ?_, fun _ => ?_⟩ | refine Qo ?_))
 intro b hb
 apply hK;clear hK
 refine Qai rfl rfl (fun h => (hb.1 h).elim) (fun h => Qac ?_)
 clear hb h
 refine VQ [0, 2, 6, 9, 10, 11] fun K hK => ?_
 refine Qaa Tryz.call87 ?_;refine Qs ?_;refine CallK.mk (Qeh gd gs s at_ 3 w2 (by omega) (by omega) (by omega) (hH2.focus 0 rfl)) ?_
 rintro v w3 (⟨h1, rfl, rfl⟩ | ⟨h1, hHt, rfl⟩)
 ·
  rw [Qkq (by omega), if_pos (by simp)] at hres
  subst hres
  apply hK;clear hK
  refine VS [0, 2, 6, 9, 10, 11, 40] ?_
  refine Qai rfl rfl (fun h => ?_) (fun h => by simp at h)
  refine VQ [6, 7, 8] fun K hK => ?_
  (refine Qab ?_;refine Qs ?_)
  refine Qae hH2 1 (vs := Qaq none 0 0 none 0 0) rfl rfl (by kernel_rfl) (by simp [Qaq]) (Qb6 _ _ _ _ _ _) fun w4 hH3 => ?_
  simp only [List.set_cons_zero, List.set_cons_succ] at hH3
  apply hK;clear hK
  refine Qah (Qgx rfl rfl rfl rfl (Qbu (hH3.at 1 rfl) (by kernel_rfl) (by kernel_rfl) rfl ?_))
  exact ⟨hH3.sub (by simp), rfl⟩
 have hH3 := hH2.call1 0 rfl hHt
 simp only [List.set_cons_zero, List.nil_append] at hH3
 clear hH2 hHt
 rw [Qlo (by omega), if_neg (by simp)] at hres
 simp only at hres
 have hm7 := Qev (((Qap s).drop at_).take 3)
 have hfl : (((Qap s).drop at_).take 3).length = 3 := by simp;omega
 rw [hfl] at hm7
 generalize numB (((Qap s).drop at_).take 3) = many at *
 apply hK;clear hK
 refine VS [0, 2, 6, 9, 10, 11, 40] ?_
 refine Qai rfl rfl (fun h => by simp at h) (fun h => Qac ?_)
 clear h
 refine VQ [0, 2, 6, 9, 10, 48] fun K hK => ?_
 suffices out : ∀ b : Bool, (b = true ↔ (many < 2 ∨ 6 < many)) -> K [(0, Str s), (2, .int .i64 n), (6, .pointer (some ⟨gr, 0, none⟩)), (9, .pointer (some ⟨gd, 0, none⟩)), (10, .int .u64 many), (48, .bool b)] w3 by (repeat' (first | exact out _ _ (by first | omega | (simp;done) | (simp;omega)) | exact out _ (by first | omega | (simp;done) | (simp;omega)) | refine ⟨fun _ => ?_, fun _ => ?_⟩ | refine Qo ?_))
 intro b hb
 apply hK;clear hK
 refine Vi (fun h => ?_) (fun h => ?_)
 ·
  rw [if_pos (hb.1 h)] at hres
  subst hres
  refine VQ [6, 7, 8] fun K hK => ?_
  (refine Qab ?_;refine Qs ?_)
  refine Qae hH3 1 (vs := Qaq none 0 0 none 0 0) rfl rfl (by kernel_rfl) (by simp [Qaq]) (Qb6 _ _ _ _ _ _) fun w4 hH4 => ?_
  simp only [List.set_cons_zero, List.set_cons_succ] at hH4
  apply hK;clear hK
  refine Qah (Qgx rfl rfl rfl rfl (Qbu (hH4.at 1 rfl) (by kernel_rfl) (by kernel_rfl) rfl ?_))
  exact ⟨hH4.sub (by simp), rfl⟩
 have hb2 : ¬ (many < 2 ∨ 6 < many) := fun hc => by rw [hb.2 hc] at h;cases h
 rw [if_neg hb2] at hres
 clear hb h
 refine Qac ?_
 refine VQ [0, 2, 6, 9, 10, 11, 12] fun K hK => ?_
 refine Qaa Tryz.call87 ?_;refine Qs ?_;refine CallK.mk (Qeh gd gs s (at_ + 3) 15 w3 (by omega) (by omega) (by omega) (hH3.focus 0 rfl)) ?_
 rintro v w4 (⟨h2, rfl, rfl⟩ | ⟨h2, hHt, rfl⟩)
 ·
  rw [Qkq (by omega), if_pos (by simp)] at hres
  subst hres
  apply hK;clear hK
  refine VS [0, 2, 6, 9, 10, 11, 12, 56] ?_
  refine Qai rfl rfl (fun h => ?_) (fun h => by simp at h)
  refine VQ [6, 7, 8] fun K hK => ?_
  (refine Qab ?_;refine Qs ?_)
  refine Qae hH3 1 (vs := Qaq none 0 0 none 0 0) rfl rfl (by kernel_rfl) (by simp [Qaq]) (Qb6 _ _ _ _ _ _) fun w4 hH4 => ?_
  simp only [List.set_cons_zero, List.set_cons_succ] at hH4
  apply hK;clear hK
  refine Qah (Qgx rfl rfl rfl rfl (Qbu (hH4.at 1 rfl) (by kernel_rfl) (by kernel_rfl) rfl ?_))
  exact ⟨hH4.sub (by simp), rfl⟩
 have hH4 := hH3.call1 0 rfl hHt
 simp only [List.set_cons_zero, List.nil_append] at hH4
 clear hH3 hHt
 rw [Qlo (by omega), if_neg (by simp)] at hres
 simp only at hres
 have hm7b := Qev (((Qap s).drop (at_ + 3)).take 15)
 have hflb : (((Qap s).drop (at_ + 3)).take 15).length = 15 := by simp;omega
 rw [hflb] at hm7b
 generalize numB (((Qap s).drop (at_ + 3)).take 15) = np at *
 apply hK;clear hK
 refine VS [0, 2, 6, 9, 10, 11, 12, 56] ?_
 refine Qai rfl rfl (fun h => by simp at h) (fun h => Qac ?_)
 clear h
 refine VS [0, 2, 6, 9, 10, 12, 60] ?_
 refine VD (fun h => ?_) (fun h => Qac ?_)
 ·
  rw [if_pos (by omega)] at hres
  subst hres
  refine VQ [6, 7, 8] fun K hK => ?_
  (refine Qab ?_;refine Qs ?_)
  refine Qae hH4 1 (vs := Qaq none 0 0 none 0 0) rfl rfl (by kernel_rfl) (by simp [Qaq]) (Qb6 _ _ _ _ _ _) fun w5 hH5 => ?_
  simp only [List.set_cons_zero, List.set_cons_succ] at hH5
  apply hK;clear hK
  refine Qah (Qgx rfl rfl rfl rfl (Qbu (hH5.at 1 rfl) (by kernel_rfl) (by kernel_rfl) rfl ?_))
  exact ⟨hH5.sub (by simp), rfl⟩
 rw [if_neg (by omega), show at_ + 3 + 15 = at_ + 18 by omega] at *
 have hat2 : at_ + 18 <= 8 * s.length := by omega
 refine VQ [0, 2, 6, 9, 10, 12, 13] fun K hK => ?_
 refine Qal (.agg #[.slice none 0 0, .slice none 0 0]) (by kernel_rfl) ?_
 refine Qs ?_
 have hH5 := hH4.box 65 (Qaq none 0 0 none 0 0)
 rw [hpl]
 generalize w4.alloc (Obj.cells (Qaq none 0 0 none 0 0).toArray 65) = w5 at *
 generalize w4.heap.size = gp at *
 clear hH4
 apply hK;clear hK
 refine VQ [0, 2, 6, 9, 10, 12, 13, 14] fun K hK => ?_
 (repeat first | refine Qo ?_ | refine Qp ?_)
 refine Qaa Tryz.call80 ?_;refine Qs ?_;refine CallK.mk (Qmm many (by omega) (by omega) w5) ?_
 rintro v w6 ⟨go, hHo, rfl⟩
 have hH6 := hH5.call0 hHo
 simp only [List.singleton_append] at hH6
 clear hH5 hHo
 apply hK;clear hK
 have hH7 : Heap w [] w6 [Res.row 3 1 (some ⟨go, 0, none⟩) many many (Qam (List.range many)), rd gd gs s (at_ + 18), Res.row 3 1 none 0 0 (Qam []), Res.blk gp 65 (Qaq none 0 0 none 0 0), Res.blk gr 65 (Qaq none 0 0 none 0 0)] :=
  (hH6.nilRow 3 1).perm ((List.Perm.swap _ _ _).trans (List.Perm.cons _ ((List.Perm.cons _ (List.Perm.swap _ _ _)).trans (List.Perm.swap _ _ _))))
 clear hH6
 refine VS [0, 2, 6, 9, 10, 13, 14, 65, 66] ?_
 generalize hpt : ptGo (Qap s) many (List.range many) np (at_ + 18) = rp at *
 have hpok := fun q => Qw0 (bits := Qap s) (many := many) (by omega) np (List.range many) (at_ + 18) q (by simp) (by omega)
 have hperr := fun e => Qrt (bits := Qap s) (many := many) np (List.range many) (at_ + 18) e
 rw [hpt] at hpok hperr
 refine Qag ?_
 refine Qaj [0, 2, 6, 9, 10, 13, 14, 65, 66] (fun m e w' => ∃ (i at2 cP : Nat) (aP : Option Addr) (li D : List Nat), Is e [(0, Str s), (2, .int .i64 n), (6, .pointer (some ⟨gr, 0, none⟩)), (9, .pointer (some ⟨gd, 0, none⟩)), (10, .int .u64 many), (13, .pointer (some ⟨gp, 0, none⟩)), (14, .slice (some ⟨go, 0, none⟩) many many), (65, .int .u64 np), (66, .int .u64 i)] /\ Heap w [] w' [Res.row 3 1 (some ⟨go, 0, none⟩) many many (Qam li), rd gd gs s at2, Res.row 3 1 aP D.length cP (Qam D), Res.blk gp 65 (Qaq none 0 0 aP D.length cP), Res.blk gr 65 (Qaq none 0 0 none 0 0)] /\ li.length = many /\ D.length = i /\ at2 <= 8 * s.length /\ (match ptGo (Qap s) many li (np - i) at2 with | .error e => .error e | .ok q => .ok (D ++ q.1, q.2)) = rp /\ i <= np /\ m = np - i) np ?_ ?_
 ·
  refine Qs ?_
  refine ⟨0, at_ + 18, 0, none, List.range many, [], rfl, hH7, by simp, rfl, hat2, ?_, by omega, rfl⟩
  rw [Nat.sub_zero, hpt]
  cases rp <;> rfl
 clear hH7 hpt
 rintro m e w7 ⟨i, at2, cP, aP, li, D, rfl, hH, hlil, hDl, hat, hrp, hi, rfl⟩
 refine VS [0, 2, 6, 9, 10, 13, 14, 65, 66, 67] ?_
 (repeat refine Qaw ?_)
 refine VD (fun h => ?_) (fun h => ?_)
 ·
  obtain ⟨k, hk⟩ : ∃ k, np - i = k + 1 := ⟨np - i - 1, by omega⟩
  rw [hk, ptGo] at hrp
  have hud := QAp gd gs s at2 (many - 1) w7 (by omega) hat (by omega) (hH.focus 1 rfl)
  generalize hU : unS ((Qap s).drop at2) (many - 1) 0 = U at *
  obtain ⟨u, ue⟩ := U
  simp only at hrp hud
  refine Qac ?_
  refine VB ?_
  refine VQ [0, 2, 6, 9, 10, 13, 14, 15, 16, 65, 66] fun K hK => ?_
  (repeat first | refine Qo ?_ | refine Qp ?_)
  rw [show ((many : Int) - 1) = ((many - 1 : Nat) : Int) by omega]
  refine Qaa Tryz.call101 ?_;refine Qs ?_;refine CallK.mk hud ?_
  rintro v w8 ⟨rfl, hcs⟩
  apply hK;clear hK
  refine VS [0, 2, 6, 9, 10, 13, 14, 15, 16, 65, 66, 77] ?_
  refine Qdb [0, 2, 6, 9, 10, 13, 14, 15, 16, 65, 66] (fun e w' => Is e [(0, Str s), (2, .int .i64 n), (6, .pointer (some ⟨gr, 0, none⟩)), (9, .pointer (some ⟨gd, 0, none⟩)), (10, .int .u64 many), (13, .pointer (some ⟨gp, 0, none⟩)), (14, .slice (some ⟨go, 0, none⟩) many many), (15, .int .i64 u), (16, .int .i64 (if ue = 3 then 110 else ue)), (65, .int .u64 np), (66, .int .u64 i)] /\ Is w' w8) ?_ ?_
  ·
   refine VD (fun h => ?_) (fun h => ?_)
   ·
    refine VS [0, 2, 6, 9, 10, 13, 14, 15, 16, 65, 66] ?_
    refine Qad ?_
    refine Qs ?_
    exact ⟨by rw [if_pos h];rfl, rfl⟩
   ·
    refine Qac ?_
    refine Qad ?_
    refine Qs ?_
    exact ⟨by rw [if_neg h];rfl, rfl⟩
  rintro e w9 ⟨rfl, rfl⟩
  refine VS [0, 2, 6, 9, 10, 13, 14, 15, 16, 65, 66, 79] ?_
  rcases hcs with ⟨hne, rfl⟩ | ⟨hue, hul, hum, hHu⟩
  ·
   rw [if_pos hne] at hrp
   subst hrp
   subst hres
   have hx : (if ue = 3 then 110 else ue) ≠ 0 := by split <;> omega
   generalize (if ue = 3 then 110 else ue) = x at *
   refine Qai rfl rfl (fun h => ?_) (fun h => by simp at h;exact absurd h hx)
   refine VQ [6, 7, 8] fun K hK => ?_
   (refine Qab ?_;refine Qs ?_)
   refine Qae hH 4 (vs := Qaq none 0 0 none 0 0) rfl rfl (by kernel_rfl) (by simp [Qaq]) (Qb6 _ _ _ _ _ _) fun w5 hH5 => ?_
   simp only [List.set_cons_zero, List.set_cons_succ] at hH5
   apply hK;clear hK
   refine Qah (Qgx rfl rfl rfl rfl (Qbu (hH5.at 4 rfl) (by kernel_rfl) (by kernel_rfl) rfl ?_))
   exact ⟨hH5.sub (by simp), rfl⟩
  subst hue
  rw [if_neg (by simp)] at hrp
  have hH2 := hH.call1 1 rfl hHu
  simp only [List.set_cons_zero, List.set_cons_succ, List.nil_append] at hH2
  clear hH hHu
  have hmvl := Qhg (li := li) (at_ := u) (by omega)
  have hmd := Qmn li go many u (by omega) (by omega) w w9 [] _ (by rw [hlil];exact hH2)
  rw [hlil] at hmd
  refine Qai rfl rfl (fun h => by simp at h) (fun h => Qac ?_)
  clear h
  refine V3 (bare w9) (Qm3 _ _) [0, 2, 6, 9, 10, 13, 14, 65, 66] (.two [(0, true), (2, true), (3, true)] 1 4 (.seq [(4, false), (5, false), (6, false), (7, true), (8, false)]) (.two [] 1 5 (.seq [(5, false), (6, false), (7, true), (8, false)]) (.seq [(1, false), (6, false), (7, true), (8, false)]))) fun K hK => ?_
  suffices out : ∀ a' c' w10, Heap w [] w10 [Res.row 3 1 (some ⟨go, 0, none⟩) many many (Qam (Qfw li u)), rd gd gs s (at2 + u + 1), Res.row 3 1 a' (D ++ [li.getD u 0]).length c' (Qam (D ++ [li.getD u 0])), Res.blk gp 65 (Qaq none 0 0 a' (D ++ [li.getD u 0]).length c'), Res.blk gr 65 (Qaq none 0 0 none 0 0)] -> K [(0, Str s), (2, .int .i64 n), (6, .pointer (some ⟨gr, 0, none⟩)), (9, .pointer (some ⟨gd, 0, none⟩)), (10, .int .u64 many), (13, .pointer (some ⟨gp, 0, none⟩)), (14, .slice (some ⟨go, 0, none⟩) many many), (65, .int .u64 np), (66, .int .u64 i)] w10 by
   generalize hx : li.getD u 0 = x at *
   have c0 : w9.cell? ⟨gp, 1, none⟩ = some (.slice aP D.length cP) := Qaf (hH2.at 3 rfl) (show (Qaq none 0 0 aP D.length cP)[1]? = some _ from rfl)
   simp only [vcT3, Qa9, List.filterMap_cons, List.filterMap_nil, List.getElem?_cons_succ, List.getElem?_cons_zero, Option.map_some];refine Qs ?_
   simp only [Qav]
   refine Qs ?_
   refine And.intro ?_ ?_
   ·
    refine ⟨_, c0, ?_⟩
    (try simp only [Qav])
    refine Qaa Tryz.call81 ?_;refine Qs ?_;refine CallK.mk hmd ?_
    rintro v w10 ⟨hH3, rfl⟩
    (try simp only [Qav])
    refine Qc1 hH3 (Qam [x]) (xs := [.tmp 86]) Tryz.underlying36 sz3 rfl rfl rfl (by omega) ?_;refine Qs ?_;refine ⟨rfl, by simp [Value.cells], fun g w4 hH4 => ?_⟩;(try refine Qs ?_)
    (try simp only [Qav])
    refine Qau ?_;refine Qs ?_;refine Qca (zs := #[.int .i64 0]) (bytes := 8) hH4 3 rfl Tryz.underlying36 (by kernel_rfl) rfl ⟨rfl, Qa8 (hH4.at 0 rfl), 3, Tryz.underlying36⟩ (Qgn _) (fun h => by omega) fun a' cap' w12 hc' hH5 => ?_;simp only [List.set_cons_succ, List.set_cons_zero] at hH5;skip;(try simp only [Qav]);skip;refine Qab ?_;refine Qs ?_;refine Qae hH5 4 (vs := [.slice a' (D.length + 1) cap']) rfl rfl (by kernel_rfl) (by simp [Qaq]) (by simp [Value.oneCell']) fun w13 hH6 => ?_;simp only [List.set_cons_succ, List.set_cons_zero] at hH6;skip;(try simp only [Qav]);skip;refine out a' cap' w13 ?_;rw [Qe3, List.length_append];exact hH6.sub (List.sublist_cons_self _ _)
   ·
    refine Qaa Tryz.call81 ?_;refine Qs ?_;refine CallK.mk hmd ?_
    rintro v w10 ⟨hH3, rfl⟩
    have c1 : w10.cell? ⟨gp, 1, none⟩ = some (.slice aP D.length cP) := Qaf (hH3.at 3 rfl) (show (Qaq none 0 0 aP D.length cP)[1]? = some _ from rfl)
    (try simp only [Qav])
    refine Qs ?_
    refine And.intro ?_ ?_
    ·
     refine ⟨_, c1, ?_⟩
     (try simp only [Qav])
     refine Qc1 hH3 (Qam [x]) (xs := [.tmp 86]) Tryz.underlying36 sz3 rfl rfl rfl (by omega) ?_;refine Qs ?_;refine ⟨rfl, by simp [Value.cells], fun g w4 hH4 => ?_⟩;(try refine Qs ?_)
     (try simp only [Qav])
     refine Qau ?_;refine Qs ?_;refine Qca (zs := #[.int .i64 0]) (bytes := 8) hH4 3 rfl Tryz.underlying36 (by kernel_rfl) rfl ⟨rfl, Qa8 (hH4.at 0 rfl), 3, Tryz.underlying36⟩ (Qgn _) (fun h => by omega) fun a' cap' w12 hc' hH5 => ?_;simp only [List.set_cons_succ, List.set_cons_zero] at hH5;skip;(try simp only [Qav]);skip;refine Qab ?_;refine Qs ?_;refine Qae hH5 4 (vs := [.slice a' (D.length + 1) cap']) rfl rfl (by kernel_rfl) (by simp [Qaq]) (by simp [Value.oneCell']) fun w13 hH6 => ?_;simp only [List.set_cons_succ, List.set_cons_zero] at hH6;skip;(try simp only [Qav]);skip;refine out a' cap' w13 ?_;rw [Qe3, List.length_append];exact hH6.sub (List.sublist_cons_self _ _)
    ·
     refine Qc1 hH3 (Qam [x]) (xs := [.tmp 86]) Tryz.underlying36 sz3 rfl rfl rfl (by omega) ?_;refine Qs ?_;refine ⟨rfl, by simp [Value.cells], fun g w4 hH4 => ?_⟩;(try refine Qs ?_)
     have c2 : w4.cell? ⟨gp, 1, none⟩ = some (.slice aP D.length cP) := Qaf (hH4.at 4 rfl) (show (Qaq none 0 0 aP D.length cP)[1]? = some _ from rfl)
     (try simp only [Qav])
     refine Qs ?_
     refine ⟨_, c2, ?_⟩
     (try simp only [Qav])
     refine Qau ?_;refine Qs ?_;refine Qca (zs := #[.int .i64 0]) (bytes := 8) hH4 3 rfl Tryz.underlying36 (by kernel_rfl) rfl ⟨rfl, Qa8 (hH4.at 0 rfl), 3, Tryz.underlying36⟩ (Qgn _) (fun h => by omega) fun a' cap' w12 hc' hH5 => ?_;simp only [List.set_cons_succ, List.set_cons_zero] at hH5;skip;(try simp only [Qav]);skip;refine Qab ?_;refine Qs ?_;refine Qae hH5 4 (vs := [.slice a' (D.length + 1) cap']) rfl rfl (by kernel_rfl) (by simp [Qaq]) (by simp [Value.oneCell']) fun w13 hH6 => ?_;simp only [List.set_cons_succ, List.set_cons_zero] at hH6;skip;(try simp only [Qav]);skip;refine out a' cap' w13 ?_;rw [Qe3, List.length_append];exact hH6.sub (List.sublist_cons_self _ _)
  intro a' c' w10 hH3
  clear hH2 hmd
  apply hK;clear hK
  refine Qar ?_
  refine VS [0, 2, 6, 9, 10, 13, 14, 65, 66] ?_
  refine Qad ?_
  refine Qs ?_
  rw [show (((i : Int) + 1) % 18446744073709551616) = ((i + 1 : Nat) : Int) by omega]
  refine ⟨np - (i + 1), by omega, i + 1, at2 + u + 1, c', a', Qfw li u, D ++ [li.getD u 0], rfl, hH3, by omega, by simp [hDl], by omega, ?_, by omega, rfl⟩
  rw [<- hrp, show np - (i + 1) = k by omega]
  cases ptGo (Qap s) many (Qfw li u) k (at2 + u + 1) with
  | error e => rfl
  | ok y => simp
 have hi2 : i = np := by omega
 rw [hi2, Nat.sub_self, ptGo] at hrp
 rw [hi2] at hDl
 simp only [List.append_nil] at hrp
 clear h hi hi2
 subst hrp
 obtain ⟨hp1, hp2, hp3⟩ := hpok _ rfl
 simp only at hres
 clear hpok hperr hlil
 refine Qak rfl ?_
 refine VQ [0, 1, 2, 6, 10, 13] fun K hK => ?_
 refine Qaa Tryz.call100 ?_;refine Qs ?_;refine CallK.mk (Qn4 gd gs at2 s w7 (hH.at 1 rfl)) ?_
 rintro v w8 ⟨rfl, rfl⟩
 apply hK;clear hK
 refine VS [0, 1, 2, 6, 13, 93, 94] ?_
 have htok := fun q => Qw1 (bits := Qap s) (n := n) many at2 q (by omega)
 have hterr := fun e => Qru (bits := Qap s) (n := n) many at2 e
 generalize htt : ttGo (Qap s) n many at2 = rt at *
 refine Qag ?_
 refine Qaj [0, 1, 2, 6, 13, 93, 94] (fun m e w' => ∃ (t at3 cT : Nat) (aT : Option Addr) (us : List (Option Addr × Nat)) (T : List (List Nat)), Is e [(0, Str s), (1, .int .i64 at3), (2, .int .i64 n), (6, .pointer (some ⟨gr, 0, none⟩)), (13, .pointer (some ⟨gp, 0, none⟩)), (93, .int .u64 many), (94, .int .u64 t)] /\ Heap w [] w' (Res.row 36 1 aT t cT (Qb3 us T) :: Res.row 3 1 aP np cP (Qam D) :: Res.blk gp 65 (Qaq aT t cT aP np cP) :: Res.blk gr 65 (Qaq none 0 0 none 0 0) :: Qow us T) /\ us.length = t /\ T.length = t /\ at3 <= 8 * s.length /\ (match ttGo (Qap s) n (many - t) at3 with | .error e => .error e | .ok q => .ok (T ++ q.1, q.2)) = rt /\ t <= many /\ m = many - t) many ?_ ?_
 ·
  refine Qs ?_
  refine ⟨0, at2, 0, none, [], [], rfl, ?_, rfl, rfl, hat, ?_, by omega, rfl⟩
  ·
   have h7 := (hH.sub (.cons _ (.cons _ (.refl _)))).nilRow 36 1
   rw [hDl] at h7
   exact h7
  ·
   rw [Nat.sub_zero, htt]
   cases rt <;> rfl
 clear hH htt
 rintro m e w9 ⟨t, at3, cT, aT, us, T, rfl, hH, hus, hTl, hat3, hrt, ht, rfl⟩
 refine VS [0, 1, 2, 6, 13, 93, 94, 95] ?_
 (repeat refine Qaw ?_)
 refine VD (fun h => ?_) (fun h => ?_)
 ·
  obtain ⟨k, hk⟩ : ∃ k, many - t = k + 1 := ⟨many - t - 1, by omega⟩
  rw [hk, ttGo] at hrt
  have hdt := Qpr s at3 n hat3 hs (by omega) w9
  have hdok := fun q => Qmd (bits := Qap s) (at_ := at3) (n := n) (q := q)
  have hderr := fun e => Qkr (bits := Qap s) (at_ := at3) (n := n) (e := e)
  generalize Qcd (Qap s) at3 n = rd1 at *
  refine Qac ?_
  refine VB ?_
  refine VQ [0, 2, 6, 13, 17, 18, 19, 93, 94] fun K hK => ?_
  refine Qaa Tryz.call102 ?_;refine Qs ?_;refine CallK.mk hdt ?_
  intro v w10 hEx
  cases rd1 with
  | error e =>
   obtain ⟨hHe, rfl⟩ := hEx
   have hne := hderr e rfl
   subst hrt
   subst hres
   have hH2 := hH.call0 hHe
   simp only [List.nil_append] at hH2
   apply hK;clear hK
   refine VS [0, 2, 6, 13, 17, 18, 19, 93, 94, 105] ?_
   (repeat refine Qaw ?_)
   refine Qdb [0, 2, 6, 13, 19, 93, 94] (fun e' w' => Is e' [(0, Str s), (2, .int .i64 n), (6, .pointer (some ⟨gr, 0, none⟩)), (13, .pointer (some ⟨gp, 0, none⟩)), (19, .int .i64 e), (93, .int .u64 many), (94, .int .u64 t)] /\ Is w' w10) ?_ ?_
   ·
    refine Qai rfl rfl (fun h => by simp at h;exact absurd h hne) (fun h => ?_)
    refine Qac ?_
    refine Qad ?_
    refine Qs ?_
    exact ⟨rfl, rfl⟩
   rintro e' w' ⟨rfl, rfl⟩
   refine VS [0, 2, 6, 13, 19, 93, 94, 109] ?_
   refine Qai rfl rfl (fun h => ?_) (fun h => by simp at h;exact absurd h hne)
   refine VQ [6, 7, 8] fun K hK => ?_
   (refine Qab ?_;refine Qs ?_)
   refine Qae hH2 3 (vs := Qaq none 0 0 none 0 0) rfl rfl (by kernel_rfl) (by simp [Qaq]) (Qb6 _ _ _ _ _ _) fun w5 hH5 => ?_
   simp only [List.set_cons_zero, List.set_cons_succ] at hH5
   apply hK;clear hK
   refine Qah (Qgx rfl rfl rfl rfl (Qbu (hH5.at 3 rfl) (by kernel_rfl) (by kernel_rfl) rfl ?_))
   exact ⟨hH5.sub (by simp), rfl⟩
  | ok q =>
   obtain ⟨aq, cq, hHq, rfl⟩ := hEx
   obtain ⟨q1, q2⟩ := hdok q rfl
   simp only at hrt
   have hH2 := hH.call0 hHq
   simp only [List.singleton_append] at hH2
   clear hH hHq
   have hck := Qh1 q.1 aq cq w10 (Qa8 (hH2.at 0 rfl))
   apply hK;clear hK
   refine VS [0, 2, 6, 13, 17, 18, 19, 93, 94, 105] ?_
   (repeat refine Qaw ?_)
   refine Qdb [0, 2, 6, 13, 17, 18, 19, 93, 94] (fun e' w' => Is e' [(0, Str s), (2, .int .i64 n), (6, .pointer (some ⟨gr, 0, none⟩)), (13, .pointer (some ⟨gp, 0, none⟩)), (17, .slice aq q.1.length cq), (18, .int .i64 q.2), (19, .int .i64 (if okLB q.1 = true then 0 else 80)), (93, .int .u64 many), (94, .int .u64 t)] /\ Is w' w10) ?_ ?_
   ·
    refine Qai rfl rfl (fun h => ?_) (fun h => by simp at h)
    refine VQ [0, 2, 6, 13, 17, 18, 19, 93, 94] fun K hK => ?_
    refine Qaa Tryz.call103 ?_;refine Qs ?_;refine CallK.mk hck ?_
    rintro v w11 ⟨rfl, rfl⟩
    apply hK;clear hK
    refine Qad ?_
    refine Qs ?_
    exact ⟨rfl, rfl⟩
   rintro e' w' ⟨rfl, rfl⟩
   refine VS [0, 2, 6, 13, 17, 18, 19, 93, 94, 109] ?_
   by_cases hokb : okLB q.1 = true
   ·
    rw [if_pos hokb]
    rw [if_neg (by simp [hokb])] at hrt
    refine Qai rfl rfl (fun h => by simp at h) (fun h => Qac ?_)
    clear h
    have hrR : Qow (us ++ [(aq, cq)]) (T ++ [q.1]) = Qow us T ++ [Res.row 3 1 aq q.1.length cq (Qam q.1)] := (Qq2 (by omega) _ _ _).symm
    have hsS : Qb3 (us ++ [(aq, cq)]) (T ++ [q.1]) = Qb3 us T ++ Qb3 [(aq, cq)] [q.1] := by rw [<- Qu6 (by omega)];rfl
    refine VQ [0, 2, 6, 13, 18, 93, 94] fun K hK => ?_
    refine ⟨_, Qaf (hH2.at 3 rfl) (show (Qaq aT t cT aP np cP)[0]? = some _ from rfl), ?_⟩
    refine Qc1 hH2 (Qb3 [(aq, cq)] [q.1]) (xs := [.tmp 114]) Tryz.underlying63 sz36 rfl rfl rfl (by omega) ?_
    refine Qs ?_
    refine ⟨rfl, by simp [Value.cells], fun gl w12 hH3 => ?_⟩
    refine Qau ?_
    refine Qs ?_
    refine Qca (zs := #[.slice none 0 0]) (bytes := 24) hH3 2 rfl Tryz.underlying63 (by kernel_rfl) rfl ⟨rfl, Qa8 (hH3.at 0 rfl), 36, Tryz.underlying63⟩ (Qxv _ _) (fun h => by omega) fun a' cap' w13 hc' hH4 => ?_
    simp only [List.set_cons_succ, List.set_cons_zero] at hH4
    rw [<- hsS] at hH4
    refine Qab ?_
    refine Qs ?_
    refine Qae hH4 4 (vs := [.slice a' (t + 1) cap']) rfl rfl (by kernel_rfl) (by simp [Qaq]) (by simp [Value.oneCell']) fun w14 hH5 => ?_
    simp only [List.set_cons_succ, List.set_cons_zero] at hH5
    have hH6 := (hH5.sub (List.sublist_cons_self _ _)).perm (List.perm_append_singleton _ _).symm
    simp only [List.cons_append] at hH6
    rw [<- hrR] at hH6
    clear hH2 hH3 hH4 hH5
    apply hK;clear hK
    refine VS [0, 1, 2, 6, 13, 93, 94] ?_
    refine Qar ?_
    refine VS [0, 1, 2, 6, 13, 93, 94] ?_
    refine Qad ?_
    refine Qs ?_
    rw [show (((t : Int) + 1) % 18446744073709551616) = ((t + 1 : Nat) : Int) by omega]
    refine ⟨many - (t + 1), by omega, t + 1, q.2, cap', a', us ++ [(aq, cq)], T ++ [q.1], rfl, hH6, by simp [hus], by simp [hTl], by omega, ?_, by omega, rfl⟩
    rw [<- hrt, show many - (t + 1) = k by omega]
    cases ttGo (Qap s) n k q.2 with
    | error e => rfl
    | ok y => simp
   ·
    have hokf : okLB q.1 = false := by simpa using hokb
    rw [if_neg hokb]
    rw [if_pos hokf] at hrt
    subst hrt
    subst hres
    refine Qai rfl rfl (fun h => ?_) (fun h => by simp at h)
    refine VQ [6, 7, 8] fun K hK => ?_
    (refine Qab ?_;refine Qs ?_)
    refine Qae hH2 4 (vs := Qaq none 0 0 none 0 0) rfl rfl (by kernel_rfl) (by simp [Qaq]) (Qb6 _ _ _ _ _ _) fun w5 hH5 => ?_
    simp only [List.set_cons_zero, List.set_cons_succ] at hH5
    apply hK;clear hK
    refine Qah (Qgx rfl rfl rfl rfl (Qbu (hH5.at 4 rfl) (by kernel_rfl) (by kernel_rfl) rfl ?_))
    exact ⟨hH5.sub (by simp), rfl⟩
 have ht2 : t = many := by omega
 rw [ht2, Nat.sub_self, ttGo] at hrt
 simp only [List.append_nil] at hrt
 subst hrt
 subst hres
 rw [ht2] at hH hus hTl
 clear h ht ht2
 refine Qak rfl ?_
 refine VQ [6, 7, 8] fun K hK => ?_
 refine ⟨Qaq aT many cT aP np cP, ⟨rfl, Qa1 (hH.at 2 rfl)⟩, ?_⟩
 (refine Qab ?_;refine Qs ?_)
 refine Qae hH 3 (vs := Qaq aT many cT aP np cP) rfl rfl (by kernel_rfl) (by simp [Qaq]) (Qb6 _ _ _ _ _ _) fun w10 hH6 => ?_
 simp only [List.set_cons_zero, List.set_cons_succ] at hH6
 apply hK;clear hK
 refine Qah (Qgx rfl rfl rfl rfl (Qbu (hH6.at 3 rfl) (by kernel_rfl) (by kernel_rfl) rfl ?_))
 refine ⟨_, hH6.sub (by simp), Qoy rfl hTl hDl hus (Qa8 (hH6.at 0 rfl)) (Qa8 (hH6.at 1 rfl)) (fun i h t h6 h7 => ?_), rfl⟩
 exact Qa8 (hH6.at (i + 4) (show _ = some (Res.row 3 1 h.1 t.length h.2 (Qam t)) from Qu7 h6 h7))
set_option maxHeartbeats 2000000
def unpS (used : List UInt8) (list : List Nat) (row most : Int) : List UInt8 × Int :=
 if (Qen used.length most (ni list)).2 ≠ 0 then ([], (Qen used.length most (ni list)).2)
 else if (Qdr used (Qen used.length most (ni list)).1).2 ≠ 0 then ([], (Qdr used (Qen used.length most (ni list)).1).2)
 else if (bckS (Qdr used (Qen used.length most (ni list)).1).1 row).2 ≠ 0 then ([], (bckS (Qdr used (Qen used.length most (ni list)).1).1 row).2)
 else decS [] 0 (bckS (Qdr used (Qen used.length most (ni list)).1).1 row).1
theorem Qsl (used : List UInt8) (list : List Nat) (row most : Int) (la : Option Addr) (lc : Nat) (hu : used.length <= 256) (hl : list.length <= 2147483640) (hx : ∀ x ∈ list, x <= 1000) (hr : I64 row) (hm : I64 most) (w : World) (hrs : RS w la list.length 1 (Qam list)) :
  Does Tryz.prog 49 #[Str used, .slice la list.length lc, .int .i64 row, .int .i64 most] w fun v w' => Heap w [] w' [] /\ v = .tuple #[Str (unpS used list row most).1, .int .i64 (unpS used list row most).2] := by
 have hnl : (ni list).length = list.length := by simp [ni]
 have hzd := QD3 used.length most (ni list) la lc (I64.mk (by omega) (by omega)) hm w (by rw [hnl, <- QHg];exact hrs) (by omega) (fun v hv => by
  simp only [ni, List.mem_map] at hv
  obtain ⟨x, hx2, rfl⟩ := hv
  have := hx x hx2
  exact I64.mk (by omega) (by omega))
 obtain ⟨z1, z2⟩ := QBe (n := used.length) (most := most) (ni list)
 rw [hnl] at hzd
 have hS : unpS used list row most = unpS used list row most := rfl
 conv at hS => rhs;unfold unpS
 rw [hS]
 clear hS
 generalize Qen used.length most (ni list) = Z at *
 have hsb := fun a c w h => Qui Z.1 used a c (by omega) (by omega) (fun v hv => by have := z2 v hv;exact I64.mk (by omega) (by omega)) w h
 have s1 := Quv used Z.1
 generalize Qdr used Z.1 = C at *
 have hbk := fun w => QDw C.1 row hr (by omega) w
 have b1 := QHe C.1 row
 generalize bckS C.1 row = T at *
 have hdc := fun w => QHb T.1 w (by omega)
 generalize decS [] 0 T.1 = X at *
 refine En [Str used, .slice la list.length lc, .int .i64 row, .int .i64 most] 47 Tryz.func49 ?_
 refine VS [0, 1, 2, 3] ?_
 refine VQ [0, 2, 10, 11] fun K hK => ?_
 refine Qaa Tryz.call105 ?_;refine Qs ?_;refine CallK.mk hzd ?_
 rintro v w2 ⟨ap, cp, hH, rfl⟩
 apply hK;clear hK
 refine VS [0, 2, 10, 11, 23] ?_
 refine VD (fun h => ?_) (fun h => ?_)
 ·
  refine VS [8, 9] ?_
  refine Qah (Qa4 rfl rfl rfl ⟨hH.sub (by simp), ?_⟩)
  rw [if_pos h]
 rw [if_neg h]
 refine Qac ?_
 refine VQ [2, 11, 12] fun K hK => ?_
 refine Qaa Tryz.call106 ?_;refine Qs ?_;refine CallK.mk (hsb _ _ w2 (Qa8 (hH.at 0 rfl))) ?_
 rintro v w3 ⟨hHs, rfl⟩
 have hH2 := hH.call0 hHs
 clear hH hHs
 apply hK;clear hK
 refine VS [2, 11, 12, 32] ?_
 refine VD (fun h => ?_) (fun h => ?_)
 ·
  refine VS [8, 9] ?_
  refine Qah (Qa4 rfl rfl rfl ⟨hH2.sub (by simp), ?_⟩)
  rw [if_pos h]
 rw [if_neg h]
 refine Qac ?_
 refine VQ [11, 13] fun K hK => ?_
 refine Qaa Tryz.call107 ?_;refine Qs ?_;refine CallK.mk (hbk w3) ?_
 rintro v w4 ⟨hHs, rfl⟩
 have hH3 := hH2.call0 hHs
 clear hH2 hHs
 apply hK;clear hK
 refine VS [11, 13, 41] ?_
 refine VD (fun h => ?_) (fun h => ?_)
 ·
  refine VS [8, 9] ?_
  refine Qah (Qa4 rfl rfl rfl ⟨hH3.sub (by simp), ?_⟩)
  rw [if_pos h]
 rw [if_neg h]
 refine Qac ?_
 refine VQ [8, 9] fun K hK => ?_
 refine Qaa Tryz.call108 ?_;refine Qs ?_;refine CallK.mk (hdc w4) ?_
 rintro v w5 ⟨hHs, rfl⟩
 have hH4 := hH3.call0 hHs
 apply hK;clear hK
 exact Qah (Qa4 rfl rfl rfl ⟨hH4.sub (by simp), rfl⟩)
abbrev QEi (e : Int) : Value := .iface 141 (.agg #[.int .i64 e])
abbrev Qvd (e : Int) : List PanicEntry := [{ v := QEi e, recovered := false }]
theorem Qk2 (b : Bool) (w : World) : DoesP Tryz.prog 99 #[.bool b] w (fun _ w' => w' = w /\ b = true) (fun c w' => w' = w /\ b = false /\ c = Qvd 120) := by
 refine Qhr (args := [.bool b]) 6 Tryz.func99 rfl rfl (of_decide_eq_true rfl) ?_
 simp only [Env.ofArgs]
 refine GS [3] ?_
 refine Qfp rfl rfl (fun h => ?_) (fun h => ?_)
 ·
  (repeat with_reducible refine Qcz ?_);refine Qe0 [] [2] (by kernel_rfl) fun K hK => ?_;simp only [go_sem, List.take_succ_cons, List.take_zero, List.drop_succ_cons, List.drop_zero,↓reduceIte,reduceEqDiff]
  refine Qjs ?_
  refine Qs ?_
  exact ⟨⟨_, _, rfl⟩, QH8 ⟨rfl, by simpa using h, rfl⟩⟩
 ·
  refine Qg6 (Qqc (nil0 (Qfz rfl ⟨rfl, by simpa using h⟩)))
theorem Qf7 (g gs gr at_ n : Nat) (s : List UInt8) (w : World) (hn : n <= 64) (ha : at_ <= 8 * s.length) (hs : s.length <= 1000000000000000)
  (hL : Heap w (rd g gs s at_).foot w [rd g gs s at_]) (hc : w.cell? ⟨gr, 0, none⟩ = some (.pointer (some ⟨g, 0, none⟩))) :
  DoesP Tryz.prog 98 #[.int .i64 n, .pointer (some ⟨gr, 0, none⟩)] w
   (fun v w' => at_ + n <= 8 * s.length /\ Heap w (rd g gs s at_).foot w' [rd g gs s (at_ + n)] /\ v = .int .u64 (numB (((Qap s).drop at_).take n)))
   (fun c w' => w' = w /\ 8 * s.length < at_ + n /\ c = Qvd 10) := by
 refine Qhr (args := [.int .i64 n, .pointer (some ⟨gr, 0, none⟩)]) 18 Tryz.func98 rfl rfl (of_decide_eq_true rfl) ?_
 simp only [Env.ofArgs]
 refine GS [0, 1] ?_
 refine GQ [4, 5] fun K hK => ?_
 refine ⟨_, hc, ?_⟩
 refine Qaa Tryz.call87 ?_;refine Qs ?_;refine CallK.mk (Qeh g gs s at_ n w hn ha hs hL) ?_
 rintro v w2 (⟨h1, rfl, rfl⟩ | ⟨h1, hH, rfl⟩)
 ·
  skip
  apply hK;clear hK
  refine GS [4, 5, 13] ?_
  (repeat with_reducible refine Qcz ?_)
  refine Qfp rfl rfl (fun h => ?_) (fun h => by simp at h)
  (repeat with_reducible refine Qcz ?_);refine Qe0 [] [3] (by kernel_rfl) fun K hK => ?_;simp only [go_sem, List.take_succ_cons, List.take_zero, List.drop_succ_cons, List.drop_zero,↓reduceIte,reduceEqDiff]
  refine Qjs ?_
  refine Qs ?_
  exact ⟨⟨_, _, rfl⟩, QH8 ⟨rfl, h1, rfl⟩⟩
 ·
  skip
  apply hK;clear hK
  refine GS [4, 5, 13] ?_
  (repeat with_reducible refine Qcz ?_)
  refine Qfp rfl rfl (fun h => by simp at h) (fun h => Qg6 ?_)
  refine GS [3] ?_
  exact Qts (ret0 (Qat rfl rfl ⟨h1, hH, rfl⟩))
set_option maxHeartbeats 2000000
abbrev pt (g : Nat) : Value := .pointer (some ⟨g, 0, none⟩)
abbrev Ql2 (gA gB gC gD : Nat) (sum row to e : Value) : Res := Res.bag [Res.blk gA 31 [sum], Res.blk gB 3 [row], Res.blk gC 3 [to], Res.blk gD 25 [e]]
theorem Qpt (gA gB gC gD : Nat) (w : World) : ∀ n, CallsDIn Fence.wide 0 Tryz.prog 97 #[pt gA, pt gB, pt gC, pt gD] .returning (w.drewN n) (fun e2 u2 w' => (∃ x, e2 = .returned x) /\ u2 = .returning /\ ∃ w1 m, w' = w1.drewN m /\ w1 = w) := by
 refine Qqf (args := [pt gA, pt gB, pt gC, pt gD]) (v := .nilIface) (N := 20) Tryz.func97 rfl rfl rfl (by simp) (of_decide_eq_true rfl) (of_decide_eq_true rfl) (.inl ⟨rfl, rfl, rfl⟩) ?_
 simp only [Env.ofArgs]
 refine GQ [0, 1, 2, 3, 4, 9] fun K hK => ?_
 rw [QNq (P := Tryz.prog) (T := 20) (ms := #[]) rfl]
 apply hK;clear hK
 refine Qfp rfl rfl (fun h => by simp at h) (fun h => Qg6 (Qqc fun a n ha => ⟨.inl rfl, ha.defers, w, n, rfl, rfl⟩))
theorem Qve (e : Int) (gA gB gC gD : Nat) (a b c d : Value) (w : World) (hB : Heap w (Ql2 gA gB gC gD a b c d).foot w [Ql2 gA gB gC gD a b c d]) :
  ∀ n, CallsDIn Fence.wide 0 Tryz.prog 97 #[pt gA, pt gB, pt gC, pt gD] (.panicking (Qvd e)) (w.drewN n) (fun e2 u2 w' => (∃ x, e2 = .returned x) /\ u2 = .panicking [{ v := QEi e, recovered := true }] /\
   ∃ w1 m, w' = w1.drewN m /\ Heap w (Ql2 gA gB gC gD a b c d).foot w1 [Ql2 gA gB gC gD (.int .u32 0) (.int .i64 0) (.int .i64 0) (.int .i64 e)]) := by
 refine Qqf (args := [pt gA, pt gB, pt gC, pt gD]) (v := QEi e) (N := 20) Tryz.func97 rfl rfl rfl (by simp) (of_decide_eq_true rfl) (of_decide_eq_true rfl) (.inr ⟨rfl, rfl⟩) ?_
 simp only [Env.ofArgs]
 refine GQ [0, 1, 2, 3, 4, 9] fun K hK => ?_
 rw [QQi (P := Tryz.prog) (T := 20) (ms := #[]) rfl]
 apply hK;clear hK
 refine Qfp rfl rfl (fun h => ?_) (fun h => by simp at h)
 refine GQ [0, 1, 2, 3, 4, 5, 6] fun K hK => ?_
 refine Qws ?_
 refine Qs ?_
 refine ⟨_, rfl, by kernel_rfl, ?_⟩
 refine Qal (.agg #[.int .i64 0]) (by kernel_rfl) ?_
 refine Qs ?_
 have hH := hB.box 141 [.int .i64 0]
 generalize w.alloc (Obj.cells [Value.int IntKind.i64 0].toArray 141) = w1 at *
 generalize w.heap.size = g5 at *
 refine Qab ?_
 refine Qs ?_
 refine Qae hH 0 (vs := [.int .i64 e]) rfl rfl (by kernel_rfl) (by simp) (by simp [Value.oneCell']) fun w2 hH2 => ?_
 simp only [List.set_cons_zero, List.set_cons_succ] at hH2
 apply hK;clear hK
 clear hH
 (repeat with_reducible refine Qcz ?_)
 refine GS [0, 1, 2, 3, 5, 16] ?_
 (repeat with_reducible refine Qcz ?_)
 refine Qfp rfl rfl (fun h => by simp at h) (fun h => Qg6 ?_)
 have hH3 := hH2.perm (.swap _ _ _)
 have hF := (hH3.focus 0 rfl).unbag
 simp only [List.append_nil] at hF
 (repeat with_reducible refine Qcz ?_);refine Qqd (holes (Ql2 gA gB gC gD a b c d).foot w2) (Ext.hole _ _) [] [(0, true), (1, true), (2, false), (3, false), (4, false), (5, false)] (by kernel_rfl) (by kernel_rfl) (by kernel_rfl) (by simp only [Qa9, List.filterMap_cons, List.filterMap_nil, List.getElem?_cons_succ, List.getElem?_cons_zero, Option.map_some];rfl) fun K hK => ?_;refine Qs ?_
 refine ⟨_, hH3.hole_at 0 1 rfl rfl (by omega) rfl, ?_⟩
 refine Qab ?_
 refine Qs ?_
 refine Qae hF 0 (vs := [.int .u32 0]) rfl rfl (by kernel_rfl) (by simp) (by simp [Value.oneCell']) fun w3 hF1 => ?_
 simp only [List.set_cons_zero, List.set_cons_succ] at hF1
 refine ⟨hF1.upd.extH, ?_⟩
 refine Qab ?_
 refine Qs ?_
 refine Qae hF1 1 (vs := [.int .i64 0]) rfl rfl (by kernel_rfl) (by simp) (by simp [Value.oneCell']) fun w4 hF2 => ?_
 simp only [List.set_cons_zero, List.set_cons_succ] at hF2
 refine ⟨hF2.upd.extH, ?_⟩
 refine Qab ?_
 refine Qs ?_
 refine Qae hF2 2 (vs := [.int .i64 0]) rfl rfl (by kernel_rfl) (by simp) (by simp [Value.oneCell']) fun w5 hF3 => ?_
 simp only [List.set_cons_zero, List.set_cons_succ] at hF3
 refine ⟨hF3.upd.extH, ?_⟩
 refine Qab ?_
 refine Qs ?_
 refine Qae hF3 3 (vs := [.int .i64 e]) rfl rfl (by kernel_rfl) (by simp) (by simp [Value.oneCell']) fun w6 hF4 => ?_
 simp only [List.set_cons_zero, List.set_cons_succ] at hF4
 refine ⟨hF4.upd.extH, ?_⟩
 apply hK;clear hK
 have hF5 := Heap.bag (G := []) [Res.blk gA 31 [.int .u32 0], Res.blk gB 3 [.int .i64 0], Res.blk gC 3 [.int .i64 0], Res.blk gD 25 [.int .i64 e]] (by simpa using hF4)
 have hH4 := hH3.call1 0 rfl hF5
 simp only [List.nil_append, List.set_cons_zero] at hH4
 exact Qqc fun a n ha => ⟨.inl rfl, ha.defers, w6, n, rfl, hH4.sub (.cons_cons _ (.cons _ (.refl _)))⟩
set_option maxHeartbeats 4000000
def hdS (l : List Bool) (a : Nat) : Nat × Nat × Nat × Nat :=
 if l.length < a + 48 then (0, 0, 0, 10)
 else if numB ((l.drop a).take 48) ≠ 54156738319193 then (0, 0, 0, 120)
 else if l.length < a + 80 then (0, 0, 0, 10)
 else if l.length < a + 81 then (0, 0, 0, 10)
 else if numB ((l.drop (a + 80)).take 1) ≠ 0 then (0, 0, 0, 120)
 else if l.length < a + 105 then (0, 0, 0, 10)
 else (numB ((l.drop (a + 48)).take 32), numB ((l.drop (a + 81)).take 24), a + 105, 0)
def hdV (x : Nat × Nat × Nat × Nat) : Value := .tuple #[.int .u32 x.1, .int .i64 x.2.1, .int .i64 x.2.2.1, .int .i64 x.2.2.2]
theorem QHt {C : Ctx} {e : Env} {w : World} {t u s r : Tmp} {T U S R : TypeId} {a b c d : Addr} (hr : C.fn.results = #[.cell t T, .cell u U, .cell s S, .cell r R]) (ht : e.find? t = some (.pointer (some a))) (hu : e.find? u = some (.pointer (some b))) (hs : e.find? s = some (.pointer (some c))) (hq : e.find? r = some (.pointer (some d)))
  (h : Qby C.P T (.pointer (some a)) w fun v => Qby C.P U (.pointer (some b)) w fun x => Qby C.P S (.pointer (some c)) w fun y => Qby C.P R (.pointer (some d)) w fun z => C.F (.tuple #[v, x, y, z]) w) : VX C [] .ret e w := by
 intro ac n ha
 obtain ⟨v, hv, r1⟩ := Qc2 h
 obtain ⟨x, hv, r2⟩ := Qc2 hv
 obtain ⟨y, hv, r3⟩ := Qc2 hv
 obtain ⟨z, hv, r4⟩ := Qc2 hv
 refine ⟨ha.defers, .tuple #[v, x, y, z], ?_, _, w, n, rfl, rfl, hv⟩
 have h1 := ha.at_ t _ ht
 rw [Array.getD_eq_getD_getElem?] at h1
 have h2 := ha.at_ u _ hu
 rw [Array.getD_eq_getD_getElem?] at h2
 have h3 := ha.at_ s _ hs
 rw [Array.getD_eq_getD_getElem?] at h3
 have h4 := ha.at_ r _ hq
 rw [Array.getD_eq_getD_getElem?] at h4
 have q1 := r1 (w.drewN n) (Ext.drewN w n)
 have q2 := r2 (w.drewN n) (Ext.drewN w n)
 have q3 := r3 (w.drewN n) (Ext.drewN w n)
 have q4 := r4 (w.drewN n) (Ext.drewN w n)
 simp [results, hr, h1, h2, h3, h4, asAddr, q1, q2, q3, q4]
theorem Qgb {P : Program} {T : TypeId} {g T' : Nat} {v : Value} {w : World} {K : Value -> Prop} (h : (Res.blk g T' [v]).holds w) (hd : Qho (P.underlying T) = false) (hs : (P.underlying T).isSome = true) (hk : K v) : Qby P T (.pointer (some ⟨g, 0, none⟩)) w K := by
 have hc : w.cell? ⟨g, 0, none⟩ = some v := Qaf h rfl
 unfold Qby
 cases hu : P.underlying T with
 | none => simp [hu] at hs
 | some d =>
  cases d <;> first
   | (exfalso;simp [Qho, hu] at hd;done)
   | exact ⟨v, hc, hk⟩
theorem Qy9 {w w1 : World} {N g4 g5 g6 g7 : Nat} {v x y z : Value} {G : List Res} {F : Value -> World -> Prop} (hH : Heap w [] w1 (Ql2 g4 g5 g6 g7 v x y z :: G)) (hF : F (.tuple #[v, x, y, z]) w1) :
  VX ⟨Tryz.prog, Tryz.f45, F, N⟩ [] .ret [(4, pt g4), (5, pt g5), (6, pt g6), (7, pt g7)] w1 := by
 have hU := hH.unbag
 refine QHt rfl rfl rfl rfl rfl ?_
 refine Qgb (hU.at 0 rfl) (by kernel_rfl) (by kernel_rfl) ?_
 refine Qgb (hU.at 1 rfl) (by kernel_rfl) (by kernel_rfl) ?_
 refine Qgb (hU.at 2 rfl) (by kernel_rfl) (by kernel_rfl) ?_
 exact Qgb (hU.at 3 rfl) (by kernel_rfl) (by kernel_rfl) hF
theorem Qgo {w w1 : World} {N g4 g5 g6 g7 : Nat} {v x y z : Value} {G : List Res} {F : Value -> World -> Prop} (e : Nat) (hH : Heap w [] w1 (Ql2 g4 g5 g6 g7 v x y z :: G)) (hF : ∀ w', Heap w [] w' [] -> F (hdV (0, 0, 0, e)) w') :
  ∀ a n, FitsG N [{ target := .fn (.func 97) #[pt g4, pt g5, pt g6, pt g7], args := #[] }] [(4, pt g4), (5, pt g5), (6, pt g6), (7, pt g7)] a ->
   Qtu Tryz.prog Tryz.f45 F noPn (.panic (Qvd e)) a (w1.drewN n) := by
 refine Qt1 (args := #[]) (cs := #[pt g4, pt g5, pt g6, pt g7]) (u := .panicking (Qvd e)) (R := fun w2 => Heap w1 (Ql2 g4 g5 g6 g7 v x y z).foot w2 [Ql2 g4 g5 g6 g7 (.int .u32 0) (.int .i64 0) (.int .i64 0) (.int .i64 e)]) Tryz.call97 (by simp) rfl (fun n => ?_) fun w2 hR => ?_
 ·
  have h := Qve e g4 g5 g6 g7 v x y z w1 (hH.focus 0 rfl) n
  obtain ⟨h1, h2⟩ := h
  refine ⟨h1, fun c cs hm hr => ?_⟩
  obtain ⟨e2, u2, w2, fr, ⟨hx, hu, hw⟩, rest⟩ := h2 c cs hm hr
  exact ⟨e2, u2, w2, fr, ⟨hx, by rw [hu];rfl, hw⟩, rest⟩
 ·
  have hH2 := hH.call1 0 rfl hR
  simp only [List.nil_append, List.set_cons_zero] at hH2
  exact Qy9 hH2 (hF _ (hH2.sub (List.nil_sublist _)))
theorem QHu {w w1 : World} {N g4 g5 g6 g7 : Nat} {v x y z : Value} {G : List Res} {F : Value -> World -> Prop} (hH : Heap w [] w1 (Ql2 g4 g5 g6 g7 v x y z :: G)) (hF : F (.tuple #[v, x, y, z]) w1) :
  ∀ a n, FitsG N [{ target := .fn (.func 97) #[pt g4, pt g5, pt g6, pt g7], args := #[] }] [(4, pt g4), (5, pt g5), (6, pt g6), (7, pt g7)] a ->
   Qtu Tryz.prog Tryz.f45 F noPn .ret a (w1.drewN n) := by
 refine Qt1 (args := #[]) (cs := #[pt g4, pt g5, pt g6, pt g7]) (u := .returning) (R := fun w2 => w2 = w1) Tryz.call97 (by simp) rfl (fun n => ?_) fun w2 hR => ?_
 ·
  have h := Qpt g4 g5 g6 g7 w1 n
  obtain ⟨h1, h2⟩ := h
  refine ⟨h1, fun c cs hm hr => ?_⟩
  obtain ⟨e2, u2, w2, fr, ⟨hx, hu, hw⟩, rest⟩ := h2 c cs hm hr
  exact ⟨e2, u2, w2, fr, ⟨hx, by rw [hu];rfl, hw⟩, rest⟩
 ·
  subst hR
  exact Qy9 hH hF
end Go.Proofs.YtfphmlhgebpojaaGreat
