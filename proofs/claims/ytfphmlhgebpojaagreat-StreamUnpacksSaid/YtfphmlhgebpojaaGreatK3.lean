/- A program logic over the model, and what this program's functions do by it: part 3. No conditions: a library of lemmas. -/
import Derived.Test.YtfphmlhgebpojaaGreatK2
import Derived.Laws.StructEq
import Derived.Sort.AssemblyPlain
import Derived.Sort.Defs
import Derived.Sort.LotA
open Nat (reduceEqDiff)
set_option linter.unusedSimpArgs false
set_option linter.unusedVariables false
set_option maxRecDepth 100000
namespace Go.Proofs.YtfphmlhgebpojaaGreat
open Go Go.Eng
def tabB (g : Nat) (sv : Value) (ao : Option Addr) (co no : Nat) (F Bg C : List Nat) : Res := Res.blk g 207 (Qbx sv (.slice ao no co) F Bg C)
def tabR (g : Nat) (sv : Value) (ao : Option Addr) (co : Nat) (l : List Nat) : Res := tabB g sv ao co (ordN l (maxL l)).length (upTo (Qao l) (maxL l + 1)) (upTo (begS l) (maxL l + 1)) (upTo (cnt l) (maxL l + 1))
def ordR (ao : Option Addr) (co : Nat) (l : List Nat) : Res := Res.row 3 1 ao (ordN l (maxL l)).length co (Qas (ordN l (maxL l)))
theorem Qj3 {l : List Nat} (h : okL l) : 1 <= maxL l /\ maxL l <= 20 := by
 refine ⟨?_, Qnw.2 fun x hx => (h.2.2.1 x hx).2⟩
 obtain ⟨h1, _, h3, _⟩ := h
 cases l with
 | nil => simp at h1
 | cons x l => exact Nat.le_trans (h3 x (by simp)).1 (Qnw.1 (Nat.le_refl _) x (by simp))
theorem Qj4 {f : Nat -> Nat} (h : f 0 = 0) : upTo f 1 = List.replicate 22 0 := by
 apply List.ext_getElem
 ·
  simp [upTo]
 ·
  intro j h1 h2
  simp only [upTo, List.getElem_map, List.getElem_range, List.getElem_replicate]
  split
  ·
   rw [show j = 0 by omega, h]
  ·
   rfl
section
variable {w0 w : World} {B : List Nat} {G : List Res} {g : Nat} {sv : Value} {ao : Option Addr} {co no : Nat} {F Bg C : List Nat} {D : World -> Prop}
theorem Qn5 (hH : Heap w0 B w G) (i : Nat) {n x : Nat} (hi : G[i]? = some (tabB g sv ao co no F Bg C)) (lF : F.length = 22) (lB : Bg.length = 22) (lC : C.length = 22) (hn : n < 22)
  (h : ∀ w', Heap w0 B w' (G.set i (tabB g sv ao co no (F.set n x) Bg C)) -> D w') : Qd9 Tryz.prog 3 (.pointer (some ⟨g, 2 + n, none⟩)) (.int .i64 (x : Nat)) w D := by
 refine Qad hH i (o := 2 + n) (vs := [.int .i64 (x : Nat)]) hi rfl (by kernel_rfl) (by rw [Qhv lF lB lC];simp;omega) (by simp [Value.oneCell']) fun w' hH2 => h w' ?_
 rw [List.length_singleton, Qc4 _ _ _ (by rw [Qhv lF lB lC];omega), Qyv lF hn] at hH2
 exact hH2
theorem Qn6 (hH : Heap w0 B w G) (i : Nat) {n x : Nat} (hi : G[i]? = some (tabB g sv ao co no F Bg C)) (lF : F.length = 22) (lB : Bg.length = 22) (lC : C.length = 22) (hn : n < 22)
  (h : ∀ w', Heap w0 B w' (G.set i (tabB g sv ao co no F (Bg.set n x) C)) -> D w') : Qd9 Tryz.prog 3 (.pointer (some ⟨g, 24 + n, none⟩)) (.int .i64 (x : Nat)) w D := by
 refine Qad hH i (o := 24 + n) (vs := [.int .i64 (x : Nat)]) hi rfl (by kernel_rfl) (by rw [Qhv lF lB lC];simp;omega) (by simp [Value.oneCell']) fun w' hH2 => h w' ?_
 rw [List.length_singleton, Qc4 _ _ _ (by rw [Qhv lF lB lC];omega), Qyw lF lB hn] at hH2
 exact hH2
theorem Qn7 (hH : Heap w0 B w G) (i : Nat) {n x : Nat} (hi : G[i]? = some (tabB g sv ao co no F Bg C)) (lF : F.length = 22) (lB : Bg.length = 22) (lC : C.length = 22) (hn : n < 22)
  (h : ∀ w', Heap w0 B w' (G.set i (tabB g sv ao co no F Bg (C.set n x))) -> D w') : Qd9 Tryz.prog 3 (.pointer (some ⟨g, 46 + n, none⟩)) (.int .i64 (x : Nat)) w D := by
 refine Qad hH i (o := 46 + n) (vs := [.int .i64 (x : Nat)]) hi rfl (by kernel_rfl) (by rw [Qhv lF lB lC];simp;omega) (by simp [Value.oneCell']) fun w' hH2 => h w' ?_
 rw [List.length_singleton, Qc4 _ _ _ (by rw [Qhv lF lB lC];omega), Qyx lF lB lC hn] at hH2
 exact hH2
theorem Qn8 (hH : Heap w0 B w G) (i : Nat) {ao' : Option Addr} {co' no' : Nat} (hi : G[i]? = some (tabB g sv ao co no F Bg C)) (lF : F.length = 22) (lB : Bg.length = 22) (lC : C.length = 22)
  (h : ∀ w', Heap w0 B w' (G.set i (tabB g sv ao' co' no' F Bg C)) -> D w') : Qd9 Tryz.prog 36 (.pointer (some ⟨g, 1, none⟩)) (.slice ao' no' co') w D := by
 refine Qad hH i (o := 1) (vs := [.slice ao' no' co']) hi rfl (by kernel_rfl) (by rw [Qhv lF lB lC];simp) (by simp [Value.oneCell']) fun w' hH2 => h w' ?_
 exact hH2
end
theorem Qr2 (l : List Nat) (hok : okL l) (a : Option Addr) (lc : Nat) (w : World) (hr : RS w a l.length 1 (Qas l)) :
  Does Tryz.prog 135 #[.slice a l.length lc] w fun v w' => ∃ g ao co, Heap w [] w' [tabR g (.slice a l.length lc) ao co l, ordR ao co l] /\ v = .tuple #[.pointer (some ⟨g, 0, none⟩), .int .i64 0] := by
 have hc1 := Qd6 l a lc w hr
 rw [if_pos (Qg0.2 hok)] at hc1
 obtain ⟨hL1, hL20⟩ := Qj3 hok
 have hfl := fun n hn => Qfw hok (n := n) hn
 have hc0 : cnt l 0 = 0 := Qer fun x hx => (hok.2.2.1 x hx).1
 obtain ⟨hl2, hl258, _, _⟩ := hok
 have hcl := Qgs l (by omega) a lc
 refine En [.slice a l.length lc] 84 Tryz.func135 ?_
 unfold tabR ordR tabB
 generalize hLL : maxL l = L at *
 generalize hn : l.length = n at *
 obtain ⟨p, rfl⟩ := Qbe hr (by omega)
 refine VQi [0] fun K hK => ?_
 apply hK;clear hK
 refine VQi [0, 4] fun K hK => ?_
 refine MemK_call Tryz.call103 ?_;refine Qi ?_;refine CallK.mk hc1 ?_
 rintro v w2 ⟨rfl, rfl⟩
 apply hK;clear hK
 refine VQi [0, 4, 13] fun K hK => ?_
 apply hK;clear hK
 refine Qaa rfl rfl (fun h => by simp at h) (fun h => VC_skip ?_)
 clear h hc1
 refine VQi [5] fun K hK => ?_
 refine Qc0 ?_
 refine Qi ?_
 suffices hsuf : K [(5, .pointer (some ⟨w2.heap.size, 0, none⟩))] (w2.alloc (Obj.cells (Qbx (.slice (some p) n lc) (.slice none 0 0) (List.replicate 22 0) (List.replicate 22 0) (List.replicate 22 0)).toArray 207)) from hsuf
 have hH := ((Heap.start w2).box 207 (Qbx (.slice (some p) n lc) (.slice none 0 0) (List.replicate 22 0) (List.replicate 22 0) (List.replicate 22 0))).nilRow 3 1
 generalize w2.alloc (Obj.cells (Qbx (.slice (some p) n lc) (.slice none 0 0) (List.replicate 22 0) (List.replicate 22 0) (List.replicate 22 0)).toArray 207) = w3 at *
 generalize w2.heap.size = g at *
 apply hK;clear hK
 refine VQi [5, 6] fun K hK => ?_
 apply hK;clear hK
 refine VQi [5, 6, 7] fun K hK => ?_
 apply hK;clear hK
 refine Qaf ?_
 refine Qae [5, 6, 7] (fun m e w' => ∃ (j : Nat) (ao : Option Addr) (co : Nat), Is e [(5, .pointer (some ⟨g, 0, none⟩)), (6, .int .i64 (Qao l j + cnt l j : Nat)), (7, .int .i64 (j + 1 : Nat))] /\ Heap w2 [] w' [Res.row 3 1 ao (ordN l j).length co (Qas (ordN l j)), tabB g (.slice (some p) n lc) ao co (ordN l j).length (upTo (Qao l) (j + 1)) (upTo (begS l) (j + 1)) (upTo (cnt l) (j + 1))] /\ j <= L /\ m = L - j) L ?_ ?_
 ·
  refine Qi ?_
  refine ⟨0, none, 0, ?_, ?_, by omega, rfl⟩
  ·
   rw [hc0];rfl
  ·
   rw [Qj4 rfl, Qj4 rfl, Qj4 hc0]
   exact hH
 clear hH
 rintro m e w4 ⟨j, ao, co, rfl, hH, hj, rfl⟩
 have hcz : (Qbx (.slice (some p) n lc) (.slice ao (ordN l j).length co) (upTo (Qao l) (j + 1)) (upTo (begS l) (j + 1)) (upTo (cnt l) (j + 1)))[0]? = some (.slice (some p) n lc) := rfl
 have hsv : Reads w4 ⟨g, 0, none⟩ [.slice (some p) n lc] := by
  intro q u hu
  cases q with
  | zero =>
   simp at hu;subst hu
   exact Qah (hH.at 1 rfl) hcz
  | succ q => simp at hu
 have hol := Qov l j
 rw [hn] at hol
 have hol2 : (ordN l j).length <= 20 * 258 := Nat.le_trans hol (Nat.mul_le_mul (by omega) hl258)
 have hf1 := hfl j (by omega)
 have hp2 : 2 ^ j <= 2 ^ 20 := Nat.pow_le_pow_right (by omega) (by omega)
 have hp3 : 2 ^ j <= 1048576 := hp2
 refine VQi [5, 6, 7, 25] fun K hK => ?_
 refine ⟨_, ⟨rfl, hsv⟩, ?_⟩
 refine MemK_call Tryz.call166 ?_;refine Qi ?_;refine CallK.mk (hcl w4 (hH.rs' hr)) ?_
 rintro v w5 ⟨hHl, rfl⟩
 have hH2 := hH.call0 hHl
 simp only [List.nil_append] at hH2
 clear hH hHl hsv
 refine Qi ?_
 apply hK;clear hK
 refine VD (fun h => ?_) (fun h => ?_)
 ·
  have hj2 : j + 1 <= L := by omega
  have hf2 := hfl (j + 1) (by omega)
  have hp4 : 2 ^ (j + 1) <= 2 ^ 20 := Nat.pow_le_pow_right (by omega) (by omega)
  have hp5 : 2 ^ (j + 1) <= 1048576 := hp4
  have hfs : Qao l (j + 1) = (Qao l j + cnt l j) * 2 := by rw [Qao, Nat.mul_comm]
  have hbs : begS l (j + 1) = (ordN l j).length := by rw [begS, Nat.add_sub_cancel]
  have hsF := Qj2 (Qao l) (j + 1) (by omega)
  have hsB := Qj2 (begS l) (j + 1) (by omega)
  have hsC := Qj2 (cnt l) (j + 1) (by omega)
  have lF := Qdp (Qao l) (j + 1)
  have lB := Qdp (begS l) (j + 1)
  have lC := Qdp (cnt l) (j + 1)
  have lF2 := Qdp (Qao l) (j + 1 + 1)
  have lB2 := Qdp (begS l) (j + 1 + 1)
  have hcnt : (idxN l (j + 1) n).length = cnt l (j + 1) := by rw [cnt, idxs, hn]
  have hoS : ordN l (j + 1) = ordN l j ++ idxN l (j + 1) n := by rw [ordN, idxs, hn]
  generalize hFF : upTo (Qao l) (j + 1) = F at *
  generalize hBB : upTo (begS l) (j + 1) = Bg at *
  generalize hCC : upTo (cnt l) (j + 1) = C at *
  generalize hO : ordN l j = O at *
  refine VC_skip ?_
  ((repeat refine Qay ?_);refine Qaf ?_)
  refine VQi [5, 6, 7] fun K hK => ?_
  rw [show shN IntKind.i64 1 = 1 from rfl, show (((Qao l j + cnt l j : Nat) : Int) * 2 ^ 1) = ((Qao l (j + 1) : Nat) : Int) by rw [hfs];push_cast;rfl]
  (repeat first | refine Qo ?_ | refine ⟨⟨by omega, by omega⟩, ?_⟩)
  apply hK;clear hK
  (repeat refine Qay ?_);refine Qiv [5, 6, 7] [(0, 0), (1, 0), (2, 0), (3, 0), (4, 0), (5, 0), (6, 0), (7, 0), (10, 0), (11, 0), (14, 0), (15, 0), (8, 1), (9, 0), (12, 0), (13, 2), (16, 0), (17, 2)] (by kernel_rfl) (by kernel_rfl) (by kernel_rfl) (by simp only [Qau, List.map_cons, List.map_nil, beq_self_eq_true, Nat.reduceBEq, List.filterMap_cons, List.filterMap_nil, List.getElem?_cons_succ, List.getElem?_cons_zero, Option.map_some];rfl) fun K hK => ?_;refine Qi ?_
  refine ⟨_, Qah (hH2.at 1 rfl) (show (Qbx (.slice (some p) n lc) (.slice ao O.length co) F Bg C)[1]? = some _ from rfl), ?_⟩
  refine Qi ?_
  refine ⟨⟨by omega, by omega⟩, ?_⟩
  refine Qac ?_
  refine Qi ?_
  refine Qn5 hH2 1 (n := j + 1) rfl lF lB lC (by omega) fun w6 hH3 => ?_
  simp only [List.set_cons_succ, List.set_cons_zero, hsF] at hH3
  refine ⟨⟨by omega, by omega⟩, ?_⟩
  refine Qac ?_
  refine Qi ?_
  rw [<- hbs]
  refine Qn6 hH3 1 (n := j + 1) rfl lF2 lB lC (by omega) fun w7 hH4 => ?_
  simp only [List.set_cons_succ, List.set_cons_zero, hsB] at hH4
  clear hH2 hH3
  apply hK;clear hK
  refine VQi [5, 6, 7, 50, 51, 52] fun K hK => ?_
  refine ⟨_, Qah (hH4.at 1 rfl) (show (Qbx (.slice (some p) n lc) (.slice ao (begS l (j + 1)) co) (upTo (Qao l) (j + 1 + 1)) (upTo (begS l) (j + 1 + 1)) C)[0]? = some _ from rfl), ?_⟩
  refine Qi ?_
  apply hK;clear hK
  refine Qaf ?_
  refine Qae [5, 6, 7, 50, 51, 52] (fun m e w' => ∃ (i : Nat) (ao : Option Addr) (co : Nat), Is e [(5, .pointer (some ⟨g, 0, none⟩)), (6, .int .i64 (Qao l (j + 1) + (idxN l (j + 1) i).length : Nat)), (7, .int .i64 (j + 1 : Nat)), (50, .slice (some p) n lc), (51, .int .i64 n), (52, .int .i64 i)] /\ Heap w2 [] w' [Res.row 3 1 ao (O ++ idxN l (j + 1) i).length co (Qas (O ++ idxN l (j + 1) i)), tabB g (.slice (some p) n lc) ao co (O ++ idxN l (j + 1) i).length (upTo (Qao l) (j + 1 + 1)) (upTo (begS l) (j + 1 + 1)) (C.set (j + 1) (idxN l (j + 1) i).length)] /\ i <= n /\ m = n - i) n ?_ ?_
  ·
   refine Qi ?_
   have e0 : idxN l (j + 1) 0 = [] := rfl
   refine ⟨0, ao, co, rfl, ?_, by omega, rfl⟩
   have hcs : C.set (j + 1) (idxN l (j + 1) 0).length = C := by
    rw [e0, List.length_nil]
    apply List.ext_getElem
    ·
     simp
    ·
     intro q h1 h2
     rw [List.getElem_set]
     split
     ·
      rename_i e
      subst e
      have := Qox (cnt l) (n := j + 1) (j := j + 1) (by omega)
      rw [hCC, if_neg (by omega), List.getD_eq_getElem?_getD, List.getElem?_eq_getElem h2] at this
      exact this.symm
     ·
      rfl
   rw [hcs, e0, List.append_nil]
   exact hH4
  clear hH4
  rintro m e w8 ⟨i, ao, co, rfl, hH, hi, rfl⟩
  refine VQi [5, 6, 7, 50, 51, 52, 53] fun K hK => ?_
  apply hK;clear hK
  (repeat refine Qay ?_)
  refine VD (fun h => ?_) (fun h => ?_)
  ·
   have hcell := Qea (hH.rs' hr) (i := i) (by omega)
   have hix := Qdw l (j + 1) i
   have hil := Qor l (j + 1) i
   have hlC : (C.set (j + 1) (idxN l (j + 1) i).length).length = 22 := by rw [List.length_set];exact lC
   have hgC : (C.set (j + 1) (idxN l (j + 1) i).length).getD (j + 1) 0 = (idxN l (j + 1) i).length := Qcs (by omega)
   have hset : ∀ x, (C.set (j + 1) (idxN l (j + 1) i).length).set (j + 1) x = C.set (j + 1) x := fun x => List.set_set _
   generalize hx : l.getD i 0 = x at *
   generalize hI : idxN l (j + 1) i = I at *
   refine VC_skip ?_
   ((repeat refine Qay ?_);refine Qaf ?_)
   refine VQi [5, 6, 7, 8, 9, 50, 51, 52] fun K hK => ?_
   refine ⟨⟨by omega, by omega⟩, _, hcell, ?_⟩
   apply hK;clear hK
   refine VQi [5, 6, 7, 8, 50, 51, 52, 59] fun K hK => ?_
   apply hK;clear hK
   refine VD (fun h => ?_) (fun h => ?_)
   ·
    rw [if_pos (by omega)] at hix
    refine VQi [5, 6, 7, 50, 51, 52] fun K hK => ?_
    refine ⟨_, Qah (hH.at 1 rfl) (show (Qbx (.slice (some p) n lc) (.slice ao (O ++ I).length co) (upTo (Qao l) (j + 1 + 1)) (upTo (begS l) (j + 1 + 1)) (C.set (j + 1) I.length))[1]? = some _ from rfl), ?_⟩
    refine Qa6 (xs := [.tmp 65]) Tryz.underlying36 sz3 rfl rfl rfl (by omega) ?_;refine Qi ?_;refine ⟨by simp [Value.cells], ?_⟩
    refine Qai ?_;refine Qi ?_;refine Qd5 hH 0 (i) rfl Tryz.underlying36 zi3 (by first | rfl | (simp;done) | omega | (simp;omega)) (fun h => by (first | omega | (simp;done) | (simp;omega))) fun a' cap' w5 hc' hH5 => ?_;(try refine Qi ?_)
    simp only [List.set_cons_zero] at hH5
    rw [List.append_assoc, <- hix] at hH5 ⊢
    refine Qac ?_
    refine Qi ?_
    refine Qn8 hH5 1 rfl lF2 lB2 hlC fun w9 hH6 => ?_
    simp only [List.set_cons_succ, List.set_cons_zero] at hH6
    clear hH5
    apply hK;clear hK
    have hcc := Qow (sv := .slice (some p) n lc) (ov := .slice a' (O ++ idxN l (j + 1) (i + 1)).length cap') lF2 lB2 hlC (n := j + 1) (by omega)
    rw [hgC] at hcc
    (repeat refine Qay ?_);refine Qgc [5, 6, 7, 50, 51, 52] 10 (by kernel_rfl) (by kernel_rfl) (by kernel_rfl) rfl fun K hK => ?_;refine Qi ?_
    refine ⟨⟨by omega, by omega⟩, _, Qah (hH6.at 1 rfl) hcc, ?_⟩
    refine Qi ?_
    refine ⟨I64.mk (by omega) (by omega), ⟨by omega, by omega⟩, ?_⟩
    refine Qac ?_
    refine Qi ?_
    refine Qn7 hH6 1 (n := j + 1) (x := I.length + 1) rfl lF2 lB2 hlC (by omega) fun w10 hH7 => ?_
    simp only [List.set_cons_succ, List.set_cons_zero, hset] at hH7
    apply hK;clear hK
    refine VQi [5, 6, 7, 50, 51, 52] fun K hK => ?_
    (repeat refine Qo ?_);apply hK;clear hK
    refine Qam ?_
    refine VQi [5, 6, 7, 50, 51, 52] fun K hK => ?_
    (repeat refine Qo ?_);apply hK;clear hK
    refine Qab ?_
    refine Qi ?_
    have hil2 : (idxN l (j + 1) (i + 1)).length = I.length + 1 := by rw [hix];simp
    refine ⟨n - (i + 1), by omega, i + 1, a', cap', ?_, ?_, by omega, rfl⟩
    ·
     rw [hil2];rfl
    ·
     rw [hil2];exact hH7
   ·
    rw [if_neg (by omega), List.append_nil] at hix
    refine VC_skip ?_
    refine Qam ?_
    refine VQi [5, 6, 7, 50, 51, 52] fun K hK => ?_
    (repeat refine Qo ?_);apply hK;clear hK
    refine Qab ?_
    refine Qi ?_
    exact ⟨n - (i + 1), by omega, i + 1, ao, co, by rw [hix];rfl, by rw [hix];exact hH, by omega, rfl⟩
  ·
   obtain rfl : i = n := by omega
   rw [hcnt, hsC, <- hoS] at hH
   refine Qag rfl ?_
   refine Qam ?_
   rw [hcnt]
   refine VQi [5, 6, 7] fun K hK => ?_
   (repeat refine Qo ?_);apply hK;clear hK
   refine Qab ?_
   refine Qi ?_
   exact ⟨L - (j + 1), by omega, j + 1, ao, co, rfl, hH, by omega, rfl⟩
 ·
  obtain rfl : j = L := by omega
  refine Qag rfl ?_
  refine VQi [2, 3] fun K hK => ?_
  apply hK;clear hK
  exact VC_ret (Qaj rfl rfl rfl ⟨g, ao, co, hH2.perm (List.Perm.swap _ _ _), rfl⟩)
theorem Qvj {g n lc : Nat} {p : Addr} {ao : Option Addr} {co : Nat} {l : List Nat} {w : World} (h : (tabR g (.slice (some p) n lc) ao co l).holds w) {k : Nat} (hk : k <= maxL l) (hL : maxL l <= 20) :
  w.cell? ⟨g, 2 + k, none⟩ = some (.int .i64 (Qao l k : Nat)) /\ w.cell? ⟨g, 24 + k, none⟩ = some (.int .i64 (begS l k : Nat)) /\ w.cell? ⟨g, 46 + k, none⟩ = some (.int .i64 (cnt l k : Nat)) := by
 have lF := Qdp (Qao l) (maxL l + 1)
 have lB := Qdp (begS l) (maxL l + 1)
 have lC := Qdp (cnt l) (maxL l + 1)
 have h1 := Qum (sv := .slice (some p) n lc) (ov := .slice ao (ordN l (maxL l)).length co) (Bg := upTo (begS l) (maxL l + 1)) (C := upTo (cnt l) (maxL l + 1)) lF (n := k) (by omega)
 have h2 := Qun (sv := .slice (some p) n lc) (ov := .slice ao (ordN l (maxL l)).length co) (C := upTo (cnt l) (maxL l + 1)) lF lB (n := k) (by omega)
 have h3 := Qow (sv := .slice (some p) n lc) (ov := .slice ao (ordN l (maxL l)).length co) lF lB lC (n := k) (by omega)
 rw [Qox _ (by omega), if_pos (by omega)] at h1 h2 h3
 exact ⟨Qah h h1, Qah h h2, Qah h h3⟩
theorem Qvk {g n lc : Nat} {p : Addr} {ao : Option Addr} {co : Nat} {l : List Nat} {w : World} (h : (tabR g (.slice (some p) n lc) ao co l).holds w) : w.cell? ⟨g, 0, none⟩ = some (.slice (some p) n lc) /\ w.cell? ⟨g, 1, none⟩ = some (.slice ao (ordN l (maxL l)).length co) /\ Reads w ⟨g, 0, none⟩ [.slice (some p) n lc] := by
 have h0 : w.cell? ⟨g, 0, none⟩ = some (.slice (some p) n lc) := Qah h (k := 0) rfl
 refine ⟨h0, Qah h (k := 1) rfl, fun q u hu => ?_⟩
 cases q with
 | zero => simp at hu;subst hu;exact h0
 | succ q => simp at hu
def begC (l : List Nat) (c k m : Nat) : Bool := decide (k < m) && decide (0 < cnt l m) && decide (c * 2 ^ (m - k) < Qao l m + cnt l m)
theorem Qr3 {l : List Nat} {c k : Nat} (hL : maxL l <= 20) : begP l c k = true ↔ ∃ m, k < m /\ m <= maxL l /\ begC l c k m = true := by
 unfold begP
 rw [List.any_eq_true]
 constructor
 ·
  rintro ⟨m, hm, h⟩
  refine ⟨m, ?_, ?_, h⟩
  ·
   simp only [Bool.and_eq_true, decide_eq_true_eq] at h;exact h.1.1
  ·
   rcases Nat.lt_or_ge (maxL l) m with h2 | h2
   ·
    have := Qul h2
    simp [this] at h
   ·
    exact h2
 ·
  rintro ⟨m, h1, h2, h3⟩
  exact ⟨m, List.mem_range.2 (by omega), h3⟩
theorem Qn9 (l : List Nat) (hok : okL l) (c k : Nat) (hc : c <= 2097152) (hk : k <= 20) (g : Nat) (p : Addr) (lc : Nat) (ao : Option Addr) (co i : Nat) (w0 w : World) (G : List Res) (hr : RS w0 (some p) l.length 1 (Qas l)) (hL : Heap w0 [] w G) (hi : G[i]? = some (tabR g (.slice (some p) l.length lc) ao co l)) :
  Does Tryz.prog 175 #[.pointer (some ⟨g, 0, none⟩), .int .i64 c, .int .i64 k] w fun v w' => Heap w0 [] w' G /\ v = .bool (begP l c k) := by
 obtain ⟨hL1, hL20⟩ := Qj3 hok
 have hfl := fun n hn => Qfw hok (n := n) hn
 have hbp := Qr3 (l := l) (c := c) (k := k) hL20
 obtain ⟨hl2, hl258, hin, _⟩ := hok
 have hcl := Qgs l (by omega) (some p) lc
 refine En [.pointer (some ⟨g, 0, none⟩), .int .i64 c, .int .i64 k] 47 Tryz.func175 ?_
 generalize hres : begP l c k = res at *
 generalize hn : l.length = n at *
 refine VS [0, 1, 2] ?_
 refine VS [0, 1, 2, 7] ?_
 refine Qaf ?_
 refine Qae [0, 1, 2, 7] (fun m e w' => ∃ (j : Nat), Is e [(0, .pointer (some ⟨g, 0, none⟩)), (1, .int .i64 c), (2, .int .i64 k), (7, .int .i64 (j + 1 : Nat))] /\ Heap w0 [] w' G /\ k <= j /\ j <= 20 /\ (∀ m', k < m' -> m' <= j -> begC l c k m' = false) /\ m = 21 - j) (21 - k) ?_ ?_
 ·
  refine Qs ?_
  exact ⟨k, rfl, hL, by omega, by omega, fun m' h1 h2 => by omega, rfl⟩
 clear hL
 rintro m e w1 ⟨j, rfl, hH, hkj, hj20, hno, rfl⟩
 have hsv := Qvk (hH.at i hi)
 refine VQ [0, 1, 2, 7, 16] fun K hK => ?_
 refine ⟨_, ⟨rfl, hsv.2.2⟩, ?_⟩
 refine MemK_call Tryz.call166 ?_;refine Qs ?_;refine CallK.mk (hcl w1 (hH.rs' hr)) ?_
 rintro v w2 ⟨hHl, rfl⟩
 have hH2 := hH.call0 hHl
 simp only [List.nil_append] at hH2
 clear hH hHl hsv
 refine Qs ?_
 apply hK;clear hK
 refine VD (fun h => ?_) (fun h => ?_)
 ·
  have hj2 : j + 1 <= maxL l := by omega
  obtain ⟨c1, c2, c3⟩ := Qvj (hH2.at i hi) hj2 hL20
  have hff := hfl (j + 1) (by omega)
  have hp2 : 2 ^ (j + 1) <= 2 ^ 20 := Nat.pow_le_pow_right (by omega) (by omega)
  have hp3 : 2 ^ (j + 1) <= 1048576 := hp2
  have hp4 : 2 ^ (j + 1 - k) <= 2 ^ 20 := Nat.pow_le_pow_right (by omega) (by omega)
  have hp5 : 2 ^ (j + 1 - k) <= 1048576 := hp4
  have hmul : c * 2 ^ (j + 1 - k) <= 2097152 * 1048576 := Nat.mul_le_mul hc hp5
  have hsh : shN IntKind.i64 ((j + 1 : Nat) - (k : Int)) = j + 1 - k := Qvb (by omega) (by simp [IntKind.bits];omega)
  have hbc : begC l c k (j + 1) = (decide (k < j + 1) && decide (0 < cnt l (j + 1)) && decide (c * 2 ^ (j + 1 - k) < Qao l (j + 1) + cnt l (j + 1))) := rfl
  rw [decide_eq_true (show k < j + 1 by omega), Bool.true_and] at hbc
  have hsc := Qop c (j + 1 - k)
  refine VC_skip ?_
  refine VB ?_
  refine Vq [0, 1, 2, 7, 46] fun K hK => ?_
  refine ⟨⟨by omega, by omega⟩, _, c3, ?_⟩
  refine Qs ?_
  rw [hsh, hsc]
  clear hsc hsh hp2 hp4
  generalize c * 2 ^ (j + 1 - k) = q at *
  suffices out : K [(0, .pointer (some ⟨g, 0, none⟩)), (1, .int .i64 c), (2, .int .i64 k), (7, .int .i64 (j + 1 : Nat)), (46, .bool (begC l c k (j + 1)))] by
   refine ⟨fun h2 => ?_, fun h2 => ?_⟩
   ·
    rw [decide_eq_true (show 0 < cnt l (j + 1) by omega), Bool.true_and] at hbc
    refine ⟨I64.mk (by omega) (by omega), by omega, I64.mk (by omega) (by omega), ⟨by omega, by omega⟩, _, c1, ?_⟩
    refine ⟨⟨by omega, by omega⟩, _, c3, ?_⟩
    refine Qs ?_
    refine ⟨I64.mk (by omega) (by omega), ?_⟩
    rw [show decide (((q : Nat) : Int) < ((Qao l (j + 1) : Nat) : Int) + ((cnt l (j + 1) : Nat) : Int)) = begC l c k (j + 1) by rw [hbc];exact decide_eq_decide.2 (by omega)]
    exact out
   ·
    rw [decide_eq_false (show ¬ 0 < cnt l (j + 1) by omega), Bool.false_and] at hbc
    rw [hbc] at out
    exact out
  apply hK;clear hK
  refine Vi (fun h => ?_) (fun h => VC_skip ?_)
  ·
   have : res = true := hbp.2 ⟨j + 1, by omega, hj2, h⟩
   subst this
   refine VS [6] ?_
   exact VC_ret (VX_ret1 rfl rfl ⟨hH2, rfl⟩)
  refine Qam ?_
  refine VS [0, 1, 2, 7] ?_
  refine Qab ?_
  refine Qs ?_
  refine ⟨21 - (j + 1), by omega, j + 1, rfl, hH2, by omega, by omega, fun m' h1 h2 => ?_, rfl⟩
  by_cases e : m' = j + 1
  ·
   rw [e];exact h
  ·
   exact hno m' h1 (by omega)
 ·
  have : res = false := by
   rw [Bool.eq_false_iff]
   intro h2
   obtain ⟨m', h3, h4, h5⟩ := hbp.1 h2
   have := hno m' h3 (by omega)
   rw [this] at h5;cases h5
  subst this
  refine Qag rfl ?_
  refine VS [6] ?_
  exact VC_ret (VX_ret1 rfl rfl ⟨hH2, rfl⟩)
theorem Qr4 (l : List Nat) (hok : okL l) (s : List UInt8) (gr gs at_ : Nat) (hat : at_ <= 8 * s.length) (hs : s.length <= 100000000000000) (g : Nat) (p : Addr) (lc : Nat) (ao : Option Addr) (co : Nat) (w0 w : World) (G : List Res) (hr : RS w0 (some p) l.length 1 (Qas l)) (hL : Heap w0 [] w (rd gr gs s at_ :: tabR g (.slice (some p) l.length lc) ao co l :: ordR ao co l :: G)) :
  Does Tryz.prog 150 #[.pointer (some ⟨g, 0, none⟩), .pointer (some ⟨gr, 0, none⟩)] w fun v w' => match Qdt l (bytesB s) at_ with
   | .ok q => Heap w0 [] w' (rd gr gs s q.2 :: tabR g (.slice (some p) l.length lc) ao co l :: ordR ao co l :: G) /\ q.2 <= 8 * s.length /\ at_ < q.2 /\ v = .tuple #[.int .i64 q.1, .int .i64 0]
   | .error e => Heap w0 [] w' [] /\ e ≠ 0 /\ v = .tuple #[.int .i64 0, .int .i64 e] := by
 obtain ⟨hL1, hL20⟩ := Qj3 hok
 have hfl := fun n hn => Qfw hok (n := n) hn
 have hbp := fun c k => Qr3 (l := l) (c := c) (k := k) hL20
 have hbl := bytesB_length s
 refine En [.pointer (some ⟨g, 0, none⟩), .pointer (some ⟨gr, 0, none⟩)] 74 Tryz.func150 ?_
 generalize hres : Qdt l (bytesB s) at_ = res
 generalize hbits : bytesB s = bits at *
 unfold Qdt at hres
 refine VS [0, 1] ?_
 refine VS [0, 1, 6] ?_
 refine VS [0, 1, 6, 7] ?_
 refine Qaf ?_
 refine Qae [0, 1, 6, 7] (fun m e w' => ∃ (j c : Nat), Is e [(0, .pointer (some ⟨g, 0, none⟩)), (1, .pointer (some ⟨gr, 0, none⟩)), (6, .int .i64 c), (7, .int .i64 (j + 1 : Nat))] /\ Heap w0 [] w' (rd gr gs s (at_ + j) :: tabR g (.slice (some p) l.length lc) ao co l :: ordR ao co l :: G) /\ at_ + j <= 8 * s.length /\ j + 1 <= maxL l /\ c < 2 ^ j /\ Qao l j + cnt l j <= c /\ (match Qds l (bits.drop (at_ + j)) j c with | .ok q => .ok (q.1, at_ + q.2) | .error e => .error e) = res /\ m = 21 - j) 21 ?_ ?_
 ·
  refine Qs ?_
  have hc0 : cnt l 0 = 0 := Qer fun x hx => (hok.2.2.1 x hx).1
  refine ⟨0, 0, rfl, hL, by omega, by omega, by simp, by rw [hc0];simp [Qao], ?_, rfl⟩
  rw [<- hres, Nat.add_zero]
  cases Qds l (bits.drop at_) 0 0 <;> rfl
 clear hL hres
 rintro m e w1 ⟨j, c, rfl, hH, hp, hj, hc, hfc, hres, rfl⟩
 refine VB ?_
 refine VQ [0, 1, 6, 7, 8, 9] fun K hK => ?_
 refine MemK_call Tryz.call87 ?_;refine Qs ?_;refine CallK.mk (Qcb gr gs s (at_ + j) 1 w1 (by omega) hp (by omega) (hH.focus 0 rfl)) ?_
 rintro v w2 (⟨h1, rfl, rfl⟩ | ⟨h1, hH2, rfl⟩)
 ·
  rw [List.drop_of_length_le (by omega), Qds] at hres
  subst hres
  apply hK;clear hK
  refine VS [0, 1, 6, 7, 8, 9, 19] ?_
  refine Qaa rfl rfl (fun h => ?_) (fun h => by cases h)
  refine VS [4, 5] ?_
  exact VC_ret (Qaj rfl rfl rfl ⟨hH.sub (by simp), by decide, rfl⟩)
 have hH3 := hH.call1 0 rfl hH2
 simp only [List.set_cons_zero, List.nil_append] at hH3
 clear hH hH2
 have hdp : bits.drop (at_ + j) = bits.getD (at_ + j) false :: bits.drop (at_ + j + 1) := Qa1 false (by omega)
 have hnum : numB ((bits.drop (at_ + j)).take 1) = (bits.getD (at_ + j) false).toNat := by rw [hdp];cases bits.getD (at_ + j) false <;> rfl
 rw [hbits, hnum]
 rw [hdp, Qds] at hres
 generalize bits.getD (at_ + j) false = b at *
 have hb1 : b.toNat <= 1 := by cases b <;> simp
 apply hK;clear hK
 refine VS [0, 1, 6, 7, 8, 9, 19] ?_
 refine Qaa rfl rfl (fun h => by cases h) (fun h => VC_skip ?_)
 clear h
 have hj20 : j + 1 <= 20 := by omega
 have hpj : 2 ^ j <= 2 ^ 19 := Nat.pow_le_pow_right (by omega) (by omega)
 have hpj2 : 2 ^ j <= 524288 := hpj
 have hps : 2 ^ (j + 1) = 2 * 2 ^ j := by rw [Nat.pow_succ, Nat.mul_comm]
 have hor : (c * 2) ||| b.toNat = 2 * c + b.toNat := by
  have h3 : (2 ^ 1 * c) ||| b.toNat = 2 ^ 1 * c + b.toNat := (Nat.two_pow_add_eq_or_of_lt (i := 1) (by omega) c).symm
  rw [Nat.mul_comm c 2];exact h3
 have hfs : Qao l (j + 1) = 2 * (Qao l j + cnt l j) := rfl
 have hffl := hfl (j + 1) hj20
 refine VQ [0, 1, 6, 7] fun K hK => ?_
 rw [show shN IntKind.i64 1 = 1 from rfl, show ((c : Int) * 2 ^ 1) = ((c * 2 : Nat) : Int) by push_cast;rfl]
 (repeat first | refine Qo ?_ | refine Qp ?_)
 rw [Int.toNat_natCast, hor]
 generalize hc2 : 2 * c + b.toNat = c2 at *
 apply hK;clear hK
 obtain ⟨c1, c2', c3⟩ := Qvj (hH3.at 1 rfl) hj hL20
 have csv := Qvk (hH3.at 1 rfl)
 refine VQ [0, 1, 6, 7, 10] fun K hK => ?_
 refine ⟨⟨by omega, by omega⟩, _, c1, ?_⟩
 refine Qs ?_
 refine ⟨I64.mk (by omega) (by omega), ?_⟩
 apply hK;clear hK
 refine VQ [0, 1, 6, 7, 10, 54] fun K hK => ?_
 suffices out : ∀ bb : Bool, (bb = true ↔ (Qao l (j + 1) <= c2 /\ c2 < Qao l (j + 1) + cnt l (j + 1))) -> K [(0, .pointer (some ⟨g, 0, none⟩)), (1, .pointer (some ⟨gr, 0, none⟩)), (6, .int .i64 c2), (7, .int .i64 (j + 1 : Nat)), (10, .int .i64 (((c2 : Nat) : Int) - (Qao l (j + 1) : Nat))), (54, .bool bb)] w2 by
  refine ⟨⟨by omega, by omega⟩, _, c3, ?_⟩
  refine Qs ?_
  refine ⟨fun h1 => ⟨fun h2 => ⟨⟨by omega, by omega⟩, _, c3, ?_⟩, fun h2 => out false (by simp;omega)⟩, fun h1 => out false (by simp;omega)⟩
  refine Qs ?_
  exact out _ (by simp;omega)
 intro bb hbb
 apply hK;clear hK
 refine Vi (fun h => ?_) (fun h => VC_skip ?_)
 ·
  have hb2 := hbb.1 h
  rw [if_pos hb2] at hres
  subst hres
  obtain ⟨s1, s2⟩ := Quk l (n := j + 1) (L := maxL l) (j := c2 - Qao l (j + 1)) (by omega) hj (by omega)
  obtain ⟨go, rfl⟩ := Qfa (hH3.at 2 rfl) (by omega)
  have hcell := Qa0 (hH3.at 2 rfl) (Qce s1)
  rw [s2] at hcell
  have hbl2 : begS l (j + 1) <= 5160 := by
   have h5 := Qov l (j + 1 - 1)
   have h6 := Nat.mul_le_mul (show j + 1 - 1 <= 20 by omega) hok.2.1
   unfold begS
   omega
  refine Vq [4, 5] fun K hK => ?_
  refine ⟨_, csv.2.1, ?_⟩
  refine ⟨⟨by omega, by omega⟩, _, c2', ?_⟩
  refine Qs ?_
  refine ⟨I64.mk (by omega) (by omega), ⟨by omega, by omega⟩, ?_⟩
  rw [show (((begS l (j + 1) : Nat) : Int) + (((c2 : Nat) : Int) - (Qao l (j + 1) : Nat))).toNat = begS l (j + 1) + (c2 - Qao l (j + 1)) by omega]
  refine ⟨_, hcell, ?_⟩
  apply hK;clear hK
  exact VC_ret (Qaj rfl rfl rfl ⟨by rw [<- Nat.add_assoc];exact hH3, by simp only;omega, by simp only;omega, rfl⟩)
 have hnb : ¬ (Qao l (j + 1) <= c2 /\ c2 < Qao l (j + 1) + cnt l (j + 1)) := fun h2 => by have := hbb.2 h2;simp_all
 rw [if_neg hnb] at hres
 clear hbb h
 refine VQ [0, 1, 6, 7, 73] fun K hK => ?_
 refine MemK_call Tryz.call175 ?_;refine Qs ?_;refine CallK.mk (Qn9 l hok c2 (j + 1) (by omega) hj20 g p lc ao co 1 w0 w2 _ hr hH3 rfl) ?_
 rintro v w3 ⟨hH4, rfl⟩
 refine Qs ?_
 apply hK;clear hK
 refine Vi (fun h => ?_) (fun h => VC_skip ?_)
 ·
  have h2 : begP l c2 (j + 1) = false := by simpa using h
  rw [h2, if_neg (by simp)] at hres
  subst hres
  refine VS [4, 5] ?_
  exact VC_ret (Qaj rfl rfl rfl ⟨hH4.sub (by simp), by decide, rfl⟩)
 have h2 : begP l c2 (j + 1) = true := by simpa using h
 rw [if_pos h2] at hres
 obtain ⟨m', h3, h4, h5⟩ := (hbp c2 (j + 1)).1 h2
 refine Qam ?_
 refine VS [0, 1, 6, 7] ?_
 refine Qab ?_
 refine Qs ?_
 exact ⟨21 - (j + 1), by omega, j + 1, c2, rfl, by rw [<- Nat.add_assoc];exact hH4, by omega, by omega, by omega, by omega, by rw [<- hres, <- Nat.add_assoc], rfl⟩
theorem Quo (l : List Nat) (hok : okL l) (s : List UInt8) (at_ n fin : Nat) (hat : at_ <= 8 * s.length) (hs : s.length <= 100000000000000) (hn : n <= 100000) (hfin : fin <= 100000) (a : Option Addr) (lc : Nat) (w : World) (hr : RS w a l.length 1 (Qas l)) :
  Does Tryz.prog 104 #[.slice a l.length lc, Str s, .int .i64 at_, .int .i64 n, .int .i64 fin] w (Qi6 (Qcp l (bytesB s) fin n at_) w) := by
 have hl2 := hok.1
 obtain ⟨p, rfl⟩ := Qbe hr (by omega)
 refine En [.slice (some p) l.length lc, Str s, .int .i64 at_, .int .i64 n, .int .i64 fin] 59 Tryz.func104 ?_
 generalize hres : Qcp l (bytesB s) fin n at_ = res
 refine VS [0, 1, 2, 3, 4] ?_
 refine VQ [1, 2, 3, 4, 13, 14] fun K hK => ?_
 refine MemK_call Tryz.call135 ?_;refine Qs ?_;refine CallK.mk (Qr2 l hok (some p) lc w hr) ?_
 rintro v w2 ⟨g, ao, co, hH, rfl⟩
 apply hK;clear hK
 refine VS [1, 2, 3, 4, 13, 14, 25] ?_
 refine Qaa rfl rfl (fun h => by simp at h) (fun h => VC_skip ?_)
 clear h
 refine VQ [3, 4, 13, 15] fun K hK => ?_
 refine MemK_call Tryz.call86 ?_;refine Qs ?_;refine CallK.mk (Qbj s at_ w2 (I64.mk (by omega) (by omega)) (by omega)) ?_
 rintro v w3 (⟨hbad, _⟩ | ⟨_, gr, gs, hHr, rfl⟩)
 ·
  omega
 rw [Int.toNat_natCast] at hHr
 have hH2 := hH.call0 hHr
 simp only [List.singleton_append] at hH2
 clear hH hHr
 apply hK;clear hK
 refine VQ [3, 4, 13, 15, 35] fun K hK => ?_
 suffices out : ∀ b : Bool, (b = true ↔ False) -> K [(3, .int .i64 n), (4, .int .i64 fin), (13, .pointer (some ⟨g, 0, none⟩)), (15, .pointer (some ⟨gr, 0, none⟩)), (35, .bool b)] w3 by (repeat' (first | exact out _ _ (by first | omega | (simp;done) | (simp;omega)) | exact out _ (by first | omega | (simp;done) | (simp;omega)) | refine ⟨fun _ => ?_, fun _ => ?_⟩ | refine Qo ?_))
 intro b hb
 apply hK;clear hK
 refine Qaa rfl rfl (fun h => (hb.1 h).elim) (fun h => VC_skip ?_)
 clear hb h
 refine VS [3, 4, 13, 15, 16] ?_
 (repeat refine Qay ?_)
 refine Qe3 [15, 16] (fun e w' => ∃ (q : List Nat) (to cap : Nat) (a' : Option Addr), Is e [(15, .pointer (some ⟨gr, 0, none⟩)), (16, .slice a' q.length cap)] /\ Heap w [] w' [rd gr gs s to, Res.row 3 1 a' q.length cap (Qas q)] /\ to <= 8 * s.length /\ res = .ok (q, to)) ?_ ?_
 ·
  refine Qaf ?_
  refine Qae [3, 4, 13, 15, 16] (fun m e w' => ∃ (q : List Nat) (to cap : Nat) (a' : Option Addr), Is e [(3, .int .i64 n), (4, .int .i64 fin), (13, .pointer (some ⟨g, 0, none⟩)), (15, .pointer (some ⟨gr, 0, none⟩)), (16, .slice a' q.length cap)] /\ Heap w [] w' [rd gr gs s to, tabR g (.slice (some p) l.length lc) ao co l, ordR ao co l, Res.row 3 1 a' q.length cap (Qas q)] /\ to <= 8 * s.length /\ q.length <= n /\ (match Qcp l (bytesB s) fin (n - q.length) to with | .error e => .error e | .ok x => .ok (q ++ x.1, x.2)) = res /\ m = n - q.length) n ?_ ?_
  ·
   refine Qs ?_
   have hH3 := (hH2.nilRow 3 1).perm (G' := [rd gr gs s at_, tabR g (.slice (some p) l.length lc) ao co l, ordR ao co l, Res.row 3 1 none 0 0 []]) (by exact (List.perm_append_comm (l₁ := [Res.row 3 1 none 0 0 []])))
   refine ⟨[], at_, 0, none, rfl, hH3, hat, by simp, ?_, rfl⟩
   rw [<- hres, List.length_nil, Nat.sub_zero]
   cases Qcp l (bytesB s) fin n at_ <;> rfl
  clear hH2 hres
  rintro m e w4 ⟨q, to, cap, a', rfl, hH, hto, hq, hres, rfl⟩
  refine VS [3, 4, 13, 15, 16, 39] ?_
  refine VD (fun h => ?_) (fun h => ?_)
  ·
   rw [show n - q.length = (n - (q.length + 1)) + 1 by omega, Qcp] at hres
   refine VC_skip ?_
   refine Qaf ?_
   refine VQ [3, 4, 13, 15, 16, 17, 18] fun K hK => ?_
   refine MemK_call Tryz.call150 ?_;refine Qs ?_;refine CallK.mk (Qr4 l hok s gr gs to hto hs g p lc ao co w w4 _ hr hH) ?_
   intro v w5 hnx
   generalize Qdt l (bytesB s) to = r at *
   cases r with
   | error e =>
    obtain ⟨hH3, hne, rfl⟩ := hnx
    subst hres
    apply hK;clear hK
    refine VS [3, 4, 13, 15, 16, 17, 18, 47] ?_
    refine Vi (fun h => ?_) (fun h => ?_)
    ·
     refine VS [10, 11, 12] ?_
     exact VC_ret (Qap rfl rfl rfl rfl ⟨hH3, rfl⟩)
    ·
     simp at h;exact absurd h hne
   | ok x =>
    obtain ⟨hH3, hx1, hx2, rfl⟩ := hnx
    simp only at hres
    apply hK;clear hK
    refine VS [3, 4, 13, 15, 16, 17, 18, 47] ?_
    refine Qaa rfl rfl (fun h => by cases h) (fun h => VC_skip ?_)
    clear h
    refine VQ [3, 4, 13, 15, 16, 17] fun K hK => ?_
    refine Qa6 (xs := [.tmp 50]) Tryz.underlying36 sz3 rfl rfl rfl (by omega) ?_;refine Qs ?_;refine ⟨by simp [Value.cells], ?_⟩
    refine Qai ?_;refine Qs ?_;refine Qd5 hH3 3 (x.1) rfl Tryz.underlying36 zi3 (by first | rfl | (simp;done) | omega | (simp;omega)) (fun h => by (first | omega | (simp;done) | (simp;omega))) fun a' cap' w5 hc' hH4 => ?_;(try refine Qs ?_)
    simp only [List.set_cons_succ, List.set_cons_zero] at hH4
    apply hK;clear hK
    refine VS [3, 4, 13, 15, 16, 55] ?_
    refine VD (fun h => ?_) (fun h => VC_skip ?_)
    ·
     rw [if_pos (by omega)] at hres
     refine Qag rfl ?_
     refine Qab ?_
     refine Qs ?_
     exact ⟨q ++ [x.1], x.2, cap', a', rfl, hH4.sub (.cons_cons _ (.cons _ (.cons _ (.refl _)))), hx1, hres.symm⟩
    rw [if_neg (by omega)] at hres
    refine Qam ?_
    refine Qab ?_
    refine Qs ?_
    refine ⟨n - (q ++ [x.1]).length, by simp;omega, q ++ [x.1], x.2, cap', a', rfl, hH4, hx1, by simp;omega, ?_, rfl⟩
    rw [<- hres, show n - (q ++ [x.1]).length = n - (q.length + 1) by simp]
    cases Qcp l (bytesB s) fin (n - (q.length + 1)) x.2 with
    | error e => rfl
    | ok y => simp
  ·
   rw [show n - q.length = 0 by omega, Qcp] at hres
   simp only [List.append_nil] at hres
   refine Qag rfl ?_
   refine Qab ?_
   refine Qs ?_
   exact ⟨q, to, cap, a', rfl, hH.sub (.cons_cons _ (.cons _ (.cons _ (.refl _)))), hto, hres.symm⟩
 rintro e w' ⟨q, to, cap, a', rfl, hH, hto, rfl⟩
 refine VQ [10, 11, 12] fun K hK => ?_
 refine MemK_call Tryz.call100 ?_;refine Qs ?_;refine CallK.mk (Qht gr gs to s w' (hH.at 0 rfl)) ?_
 rintro v w7 ⟨rfl, rfl⟩
 apply hK;clear hK
 exact VC_ret (Qap rfl rfl rfl rfl ⟨a', cap, hH.sub (by simp), rfl⟩)
abbrev Tr := Int × Nat
theorem Qi8 (n : Nat) : Qas (List.replicate n 0) = List.replicate n (.int .i64 0) := by simp [Qas]
def Qbt (hs : List (Option Addr × Nat)) (T : List (List Nat)) : List Value := List.zipWith (fun h t => .slice h.1 t.length h.2) hs T
theorem Qbk {hs : List (Option Addr × Nat)} {T : List (List Nat)} {i : Nat} {h : Option Addr × Nat} {t : List Nat} (h1 : hs[i]? = some h) (h2 : T[i]? = some t) : (Qbt hs T)[i]? = some (.slice h.1 t.length h.2) := by
 simp [Qbt, List.getElem?_zipWith, h1, h2]
theorem Qhw (hs : List (Option Addr × Nat)) (T : List (List Nat)) : ∀ u ∈ Qbt hs T, u.oneCell' = true := by
 intro u hu
 obtain ⟨i, hi⟩ := List.mem_iff_getElem?.1 hu
 rw [Qbt, List.getElem?_zipWith] at hi
 split at hi
 ·
  cases hi;rfl
 ·
  cases hi
theorem Qgt {hs : List (Option Addr × Nat)} {T : List (List Nat)} (hl : hs.length = T.length) (h : Option Addr × Nat) (t : List Nat) : Qbt hs T ++ [.slice h.1 t.length h.2] = Qbt (hs ++ [h]) (T ++ [t]) := by
 unfold Qbt
 rw [List.zipWith_append hl];rfl
def PlanAt (w : World) (v : Value) (T : List (List Nat)) (P : List Nat) : Prop :=
 ∃ ta tc pa pc, ∃ hs : List (Option Addr × Nat), v = .agg #[.slice ta T.length tc, .slice pa P.length pc] /\ hs.length = T.length /\ RS w ta T.length 1 (Qbt hs T) /\ RS w pa P.length 1 (Qas P) /\
  ∀ (i : Nat) (h : Option Addr × Nat) (t : List Nat), hs[i]? = some h -> T[i]? = some t -> RS w h.1 t.length 1 (Qas t)
theorem PlanAt.keep {w w' : World} {v : Value} {T : List (List Nat)} {P : List Nat} {G : List Res} (h : PlanAt w v T P) (hH : Heap w [] w' G) : PlanAt w' v T P := by
 obtain ⟨ta, tc, pa, pc, hs, h1, h2, h3, h4, h5⟩ := h
 exact ⟨ta, tc, pa, pc, hs, h1, h2, hH.rs' h3, hH.rs' h4, fun i h t a b => hH.rs' (h5 i h t a b)⟩
def Qaq (ta : Option Addr) (nt tc : Nat) (pa : Option Addr) (np pc : Nat) : List Value := [.slice ta nt tc, .slice pa np pc]
theorem Qlz (m : Nat) (h0 : 0 < m) (hm : m <= 1000000) (w : World) : Does Tryz.prog 80 #[.int .i64 m] w fun v w' => ∃ g, Heap w [] w' [Res.row 3 1 (some ⟨g, 0, none⟩) m m (Qas (List.range m))] /\ v = .slice (some ⟨g, 0, none⟩) m m := by
 refine En [.int .i64 m] 18 Tryz.func80 ?_
 refine VS [0] ?_
 refine VQ [3] fun K hK => ?_
 refine Qdc Tryz.underlying36 zi3 ?_
 refine Qs ?_
 refine ⟨m, m, ⟨rfl, rfl, by omega, by omega, by omega⟩, ?_⟩
 have hH := (Heap.start w).row 3 (n := m) (cap := m) (sz := 1) (Qas (List.replicate m 0)) [] (by simp [Qaw]) (by simp [Qaw]) (by omega) (by omega)
 rw [List.append_nil, Qi8] at hH
 generalize w.alloc (Obj.cells (List.replicate m (Value.int IntKind.i64 0)).toArray 3) = w1 at *
 generalize w.heap.size = go at *
 rw [<- Qi8] at hH
 apply hK;clear hK
 refine VS [3, 8, 9] ?_
 refine Qaf ?_
 refine Qae [3, 8, 9] (fun m' e w' => ∃ (i : Nat), Is e [(3, .slice (some ⟨go, 0, none⟩) m m), (8, .int .i64 m), (9, .int .i64 i)] /\ Heap w [] w' [Res.row 3 1 (some ⟨go, 0, none⟩) m m (Qas (List.range i ++ List.replicate (m - i) 0))] /\ i <= m /\ m' = m - i) m ?_ ?_
 ·
  refine Qs ?_
  exact ⟨0, rfl, by simpa using hH, by omega, rfl⟩
 clear hH
 rintro m' e w' ⟨i, rfl, hH, hi, rfl⟩
 refine VS [3, 8, 9, 10] ?_
 (repeat refine Qay ?_)
 refine VD (fun h => ?_) (fun h => ?_)
 ·
  have hset : (List.range i ++ List.replicate (m - i) 0).set i i = List.range (i + 1) ++ List.replicate (m - (i + 1)) 0 := by
   obtain ⟨q, hq⟩ : ∃ q, m - i = q + 1 := ⟨m - i - 1, by omega⟩
   rw [hq, List.replicate_succ, List.set_append_right _ _ (by simp), List.length_range, Nat.sub_self, List.set_cons_zero, List.range_succ, List.append_assoc, show m - (i + 1) = q by omega]
   rfl
  have hlen : (List.range i ++ List.replicate (m - i) 0).length = m := by simp;omega
  refine VC_skip ?_
  refine VB ?_
  refine VS [3, 4, 8, 9] ?_
  refine VQ [3, 8, 9] fun K hK => ?_
  refine Qp ?_
  refine Qac ?_;refine Qs ?_;refine Qbz hH 0 (o := (i)) (vs := [.int .i64 (i : Nat)]) rfl (by first | exact (Qdn _ _ _).symm | rfl | simp [Qdn]) rfl (by kernel_rfl) (by first | omega | (simp;done) | (simp;omega) | (simp [bytesV, Qal];omega) | (rw [Qaw];simp;omega)) (by simp [Value.oneCell']) fun w6 hH2 => ?_;(try refine Qs ?_)
  simp only [List.length_singleton, Qc4 (Qas (List.range i ++ List.replicate (m - i) 0)) _ _ (show i < (Qas (List.range i ++ List.replicate (m - i) 0)).length by rw [Qaw, hlen];omega), Qes, List.set_cons_zero, hset] at hH2
  apply hK;clear hK
  refine Qam ?_
  refine VS [3, 8, 9] ?_
  refine Qab ?_
  refine Qs ?_
  exact ⟨m - (i + 1), by omega, i + 1, rfl, hH2, by omega, rfl⟩
 ·
  obtain rfl : i = m := by omega
  rw [Nat.sub_self, List.replicate_zero, List.append_nil] at hH
  refine Qag rfl ?_
  refine VS [2] ?_
  exact VC_ret (VX_ret1 rfl rfl ⟨go, hH, rfl⟩)
theorem Ql0 (li : List Nat) (g cap at_ : Nat) (hat : at_ < li.length) (hl : li.length <= 1000000000000) (w0 w : World) (B : List Nat) (G : List Res) (hL : Heap w0 B w (Res.row 3 1 (some ⟨g, 0, none⟩) li.length cap (Qas li) :: G)) :
  Does Tryz.prog 81 #[.slice (some ⟨g, 0, none⟩) li.length cap, .int .i64 at_] w
   fun v w' => Heap w0 B w' (Res.row 3 1 (some ⟨g, 0, none⟩) li.length cap (Qas (Qcm li at_)) :: G) /\ v = .int .i64 (li.getD at_ 0 : Nat) := by
 refine En [.slice (some ⟨g, 0, none⟩) li.length cap, .int .i64 at_] 22 Tryz.func81 ?_
 refine VS [0, 1] ?_
 refine VQ [0, 1, 5] fun K hK => ?_
 (repeat (first | refine Qo ?_ | refine Qp ?_ | (refine ⟨_, (by first | exact Qah (hL.at 0 rfl) rfl | exact Qa0 (hL.at 0 rfl) (bytesV_get (by omega)) | exact Qa0 (hL.at 0 rfl) (Qbd (by omega)) | exact Qa0 (hL.at 0 rfl) (Qce (by omega)) | exact Qah (hL.at 1 rfl) rfl | exact Qa0 (hL.at 1 rfl) (bytesV_get (by omega)) | exact Qa0 (hL.at 1 rfl) (Qbd (by omega)) | exact Qa0 (hL.at 1 rfl) (Qce (by omega)) | exact Qah (hL.at 2 rfl) rfl | exact Qa0 (hL.at 2 rfl) (bytesV_get (by omega)) | exact Qa0 (hL.at 2 rfl) (Qbd (by omega)) | exact Qa0 (hL.at 2 rfl) (Qce (by omega)) | exact Qah (hL.at 3 rfl) rfl | exact Qa0 (hL.at 3 rfl) (bytesV_get (by omega)) | exact Qa0 (hL.at 3 rfl) (Qbd (by omega)) | exact Qa0 (hL.at 3 rfl) (Qce (by omega))), ?_⟩;(try refine Qs ?_))))
 apply hK;clear hK
 refine VL [0, 5] 7 fun K hK => ?_
 obtain ⟨hx1, hx2, hx3, hx4⟩ := hL.at 0 rfl
 clear hx1 hx4
 refine ⟨I64.mk (by omega) (by omega), ⟨by omega, by omega, by omega⟩, ⟨by omega, by omega⟩, ?_⟩
 have hsrc : RS w (some ⟨g, 0, none⟩) at_ 1 (Qas (li.take at_)) := by
  rw [<- Qi5]
  have h := (Qaz (hL.at 0 rfl)).take at_ (by omega)
  rwa [Nat.mul_one] at h
 suffices hall : ∀ w5, Heap w0 B w5 (Res.row 3 1 (some ⟨g, 0, none⟩) li.length cap (Qas (li.take 1 ++ li.take at_ ++ li.drop (at_ + 1))) :: G) -> K [(0, .slice (some ⟨g, 0, none⟩) li.length cap), (5, .int .i64 (li.getD at_ 0 : Nat))] w5 by
  refine Qhe ?_
  refine Qs ?_
  by_cases hc1 : cap = 1
  ·
   have h0 : at_ = 0 := by omega
   subst h0
   rw [if_pos (by rw [hc1];rfl)]
   refine Qek hL 0 rfl Tryz.underlying36 sz3 (off := 0) rfl ⟨rfl, hsrc, 3, Tryz.underlying36⟩ (Qdy _) (by simp) fun w5 hu hH4 => ?_
   refine hall w5 ?_
   rw [show li.take 1 ++ li.take 0 ++ li.drop (0 + 1) = li by rw [List.take_zero, List.append_nil];exact List.take_append_drop 1 li]
   simpa using hH4
  ·
   rw [if_neg (by rw [show Int.toNat 1 = 1 from rfl];exact hc1)]
   simp only [Option.map_some]
   refine Qek hL 0 rfl Tryz.underlying36 sz3 (off := 1) rfl ⟨rfl, hsrc, 3, Tryz.underlying36⟩ (Qdy _) (by rw [Qaw, show Int.toNat 1 = 1 from rfl];omega) fun w5 hu hH4 => ?_
   refine hall w5 ?_
   have e : min at_ (at_ + 1 - Int.toNat 1) * 1 = at_ := by rw [show Int.toNat 1 = 1 from rfl];omega
   simp only [e, List.set_cons_zero] at hH4
   rw [Qcn, Qcn, <- Qi5, <- Qqb]
   have e5 : (Qas (li.take at_)).take at_ = Qas (li.take at_) := List.take_of_length_le (by rw [Qaw, List.length_take];omega)
   rw [e5, show 1 + at_ = at_ + 1 by omega] at hH4
   exact hH4
 intro w5 hH
 apply hK;clear hK
 have hlen : (li.take 1 ++ li.take at_ ++ li.drop (at_ + 1)).length = li.length := by simp;omega
 have hmv : (li.take 1 ++ li.take at_ ++ li.drop (at_ + 1)).set 0 (li.getD at_ 0) = Qcm li at_ := by
  cases li with
  | nil => simp at hat
  | cons x r => simp [Qcm]
 generalize li.take 1 ++ li.take at_ ++ li.drop (at_ + 1) = li2 at *
 refine VQ [5] fun K hK => ?_
 refine Qp ?_
 refine Qac ?_;refine Qs ?_;refine Qbz hH 0 (o := (0)) (vs := [.int .i64 (li.getD at_ 0 : Nat)]) rfl (by first | exact (Qdn _ _ _).symm | rfl | simp [Qdn]) rfl (by kernel_rfl) (by first | omega | (simp;done) | (simp;omega) | (simp [bytesV, Qal];omega) | (rw [Qaw];simp;omega)) (by simp [Value.oneCell']) fun w6 hH2 => ?_;(try refine Qs ?_)
 simp only [List.length_singleton, Qc4 (Qas li2) _ _ (show 0 < (Qas li2).length by rw [Qaw];omega), Qes, List.set_cons_zero, hmv] at hH2
 apply hK;clear hK
 refine VS [4] ?_
 exact VC_ret (VX_ret1 rfl rfl ⟨hH2, rfl⟩)
theorem Ql1 (v : Value) (T : List (List Nat)) (P : List Nat) (hm : mayP T P) (w : World) (hp : PlanAt w v T P) : Does Tryz.prog 79 #[v] w fun x w' => Heap w [] w' [] /\ x = .bool true := by
 obtain ⟨ta, tc, pa, pc, hs, rfl, hsl, hrT, hrP, hrt⟩ := hp
 obtain ⟨m1, m2, m3, m4, m5, m6⟩ := hm
 obtain ⟨qt, rfl⟩ := Qbe hrT (by omega)
 obtain ⟨qp, rfl⟩ := Qbe hrP (by omega)
 have hen : #[Value.agg #[.slice (some qt) T.length tc, .slice (some qp) P.length pc]] = [Value.agg (Qaq (some qt) T.length tc (some qp) P.length pc).toArray].toArray := rfl
 rw [hen]
 refine Qc7 72 Tryz.func79 rfl rfl (of_decide_eq_true rfl) ?_
 simp only [Env.ofArgs]
 generalize hnt : T.length = nt at *
 generalize hnp : P.length = np at *
 refine VQ [1] fun K hK => ?_
 refine Qc0 ?_
 refine Qs ?_
 have hH := (Heap.start w).box 65 (Qaq (some qt) nt tc (some qp) np pc)
 generalize w.alloc (Obj.cells (Qaq (some qt) nt tc (some qp) np pc).toArray 65) = w1 at *
 generalize w.heap.size = gp at *
 have c0 : w1.cell? ⟨gp, 0, none⟩ = some (.slice (some qt) nt tc) := Qah (hH.at 0 rfl) rfl
 have c1 : w1.cell? ⟨gp, 1, none⟩ = some (.slice (some qp) np pc) := Qah (hH.at 0 rfl) rfl
 apply hK;clear hK
 refine VQ [1, 28] fun K hK => ?_
 suffices out : ∀ b : Bool, (b = true ↔ False) -> K [(1, .pointer (some ⟨gp, 0, none⟩)), (28, .bool b)] w1 by
  refine ⟨_, c0, ?_⟩
  refine Qs ?_
  refine ⟨fun _ => ⟨_, c0, ?_⟩, fun h2 => absurd h2 (by omega)⟩
  refine Qs ?_
  refine ⟨fun _ => ⟨_, c1, ?_⟩, fun h2 => absurd h2 (by omega)⟩
  refine Qs ?_
  refine ⟨fun _ => ⟨_, c1, ?_⟩, fun h2 => absurd h2 (by omega)⟩
  refine Qs ?_
  exact out _ (by simp;omega)
 intro b hb
 apply hK;clear hK
 refine Qaa rfl rfl (fun h => (hb.1 h).elim) (fun h => VC_skip ?_)
 clear hb h
 have hT0 : T[0]? = some (T.getD 0 []) := by rw [List.getD_eq_getElem?_getD, List.getElem?_eq_getElem (by omega)];rfl
 refine VQ [1, 30, 31, 32] fun K hK => ?_
 refine ⟨_, c0, ?_⟩
 refine Qs ?_
 apply hK;clear hK
 refine Qaf ?_
 refine Qae [1, 30, 31, 32] (fun m e w' => ∃ (i : Nat), Is e [(1, .pointer (some ⟨gp, 0, none⟩)), (30, .slice (some qt) nt tc), (31, .int .i64 nt), (32, .int .i64 i)] /\ Is w' w1 /\ i <= nt /\ m = nt - i) nt ?_ ?_
 ·
  refine Qs ?_
  exact ⟨0, rfl, rfl, by omega, rfl⟩
 rintro m e w2 ⟨i, rfl, rfl, hi, rfl⟩
 refine VS [1, 30, 31, 32, 33] ?_
 (repeat refine Qay ?_)
 refine VD (fun h => ?_) (fun h => ?_)
 ·
  have hTi : T[i]? = some (T.getD i []) := by rw [List.getD_eq_getElem?_getD, List.getElem?_eq_getElem (by omega)];rfl
  obtain ⟨hh, hhi⟩ : ∃ hh, hs[i]? = some hh := ⟨_, List.getElem?_eq_getElem (by omega)⟩
  obtain ⟨h0, hh0⟩ : ∃ h0, hs[0]? = some h0 := ⟨_, List.getElem?_eq_getElem (by omega)⟩
  have hrs := hH.rs' hrT
  have hci := hrs.2.2 qt rfl i _ (Qbk hhi hTi)
  have hc0 := hrs.2.2 qt rfl 0 _ (Qbk hh0 hT0)
  have hrt2 := hH.rs' (hrt i hh _ hhi hTi)
  obtain ⟨e1, e2, e3⟩ := m5 _ (List.mem_of_getElem? hTi)
  have hck := Qd6 (T.getD i []) hh.1 hh.2 w2 hrt2
  rw [if_pos (Qg0.2 e3)] at hck
  generalize T.getD i [] = t at *
  generalize T.getD 0 [] = t0 at *
  refine VC_skip ?_
  refine VB ?_
  refine VQ [1, 4, 30, 31, 32] fun K hK => ?_
  refine ⟨⟨by omega, by omega⟩, _, hci, ?_⟩
  apply hK;clear hK
  refine VQ [1, 30, 31, 32, 53] fun K hK => ?_
  refine ⟨_, c0, ?_⟩
  refine Qs ?_
  refine ⟨by omega, _, hc0, ?_⟩
  refine Qs ?_
  refine ⟨fun _ => ⟨fun _ => ?_, fun h2 => absurd h2 (by omega)⟩, fun h2 => absurd h2 (by omega)⟩
  refine MemK_call Tryz.call103 ?_;refine Qs ?_;refine CallK.mk hck ?_
  rintro v w3 ⟨rfl, rfl⟩
  refine Qs ?_
  apply hK;clear hK
  refine Qaa rfl rfl (fun h => by simp at h) (fun h => VC_skip ?_)
  refine Qam ?_
  refine VS [1, 30, 31, 32] ?_
  refine Qab ?_
  refine Qs ?_
  exact ⟨nt - (i + 1), by omega, i + 1, rfl, rfl, by omega, rfl⟩
 refine Qag rfl ?_
 refine VQ [1, 56, 57, 58] fun K hK => ?_
 refine ⟨_, c1, ?_⟩
 refine Qs ?_
 apply hK;clear hK
 refine Qaf ?_
 refine Qae [1, 56, 57, 58] (fun m e w' => ∃ (i : Nat), Is e [(1, .pointer (some ⟨gp, 0, none⟩)), (56, .slice (some qp) np pc), (57, .int .i64 np), (58, .int .i64 i)] /\ Is w' w2 /\ i <= np /\ m = np - i) np ?_ ?_
 ·
  refine Qs ?_
  exact ⟨0, rfl, rfl, by omega, rfl⟩
 rintro m e w3 ⟨j, rfl, rfl, hj, rfl⟩
 refine VS [1, 56, 57, 58, 59] ?_
 (repeat refine Qay ?_)
 refine Vi (fun h => ?_) (fun h => ?_)
 ·
  simp only [decide_eq_true_eq] at h
  have hcell := Qea (hH.rs' hrP) (i := j) (by omega)
  have hx := m6 _ (Qbl 0 (l := P) (i := j) (by omega))
  generalize P.getD j 0 = x at *
  refine VC_skip ?_
  refine VB ?_
  refine VQ [1, 6, 56, 57, 58] fun K hK => ?_
  refine ⟨⟨by omega, by omega⟩, _, hcell, ?_⟩
  apply hK;clear hK
  refine VQ [1, 56, 57, 58, 70] fun K hK => ?_
  refine ⟨fun _ => ⟨_, c0, ?_⟩, fun h2 => absurd h2 (by omega)⟩
  refine Qs ?_
  rw [decide_eq_false (show ¬ ((nt : Int) <= x) by omega)]
  apply hK;clear hK
  refine Qaa rfl rfl (fun h => by simp at h) (fun h => VC_skip ?_)
  refine Qam ?_
  refine VS [1, 56, 57, 58] ?_
  refine Qab ?_
  refine Qs ?_
  exact ⟨np - (j + 1), by omega, j + 1, rfl, rfl, by omega, rfl⟩
 ·
  refine Qag rfl ?_
  refine VS [2] ?_
  exact VC_ret (VX_ret1 rfl rfl ⟨hH.sub (by simp), rfl⟩)
set_option maxHeartbeats 2000000
theorem Qhx {li : List Nat} {k i : Nat} (h : i < li.length) : (li.take (i + 1)).eraseIdx k = if i = k then (li.take i).eraseIdx k else (li.take i).eraseIdx k ++ [li.getD i 0] := by
 rw [Qb3 0 h]
 have hl : (li.take i).length = i := by rw [List.length_take];omega
 by_cases e : i = k
 ·
  subst e
  have e2 : (li.take i).eraseIdx i = li.take i := List.eraseIdx_of_length_le (by omega)
  rw [if_pos rfl, List.eraseIdx_append_of_length_le (by omega), hl, Nat.sub_self, e2]
  exact List.append_nil _
 ·
  rw [if_neg e]
  rcases Nat.lt_or_ge k i with h2 | h2
  ·
   rw [List.eraseIdx_append_of_lt_length (by omega)]
  ·
   rw [List.eraseIdx_of_length_le (l := li.take i) (by omega), List.eraseIdx_of_length_le (by simp;omega)]
theorem Qim (li : List Nat) (k : Nat) (hk : k < li.length) (hl : li.length <= 1000000000) (a : Option Addr) (c : Nat) (w : World) (hr : RS w a li.length 1 (Qas li)) :
  Does Tryz.prog 145 #[.slice a li.length c, .int .i64 k] w fun v w' => ∃ a' c', v = .slice a' li.length c' /\ Heap w [] w' [Res.row 3 1 a' li.length c' (Qas (Qcm li k))] := by
 obtain ⟨p, rfl⟩ := Qbe hr (by omega)
 refine En [.slice (some p) li.length c, .int .i64 k] 29 Tryz.func145 ?_
 have hck := Qea hr hk
 refine VS [0, 1] ?_
 refine VQ [0, 1, 5] fun K hK => ?_
 refine ⟨⟨by omega, by omega⟩, _, hck, ?_⟩
 (try refine Qs ?_)
 have hH0 := Heap.start w
 refine Qbg hH0 (Qas [li.getD k 0]) (xs := [.tmp 10]) Tryz.underlying36 sz3 rfl rfl rfl (by omega) ?_;refine Qs ?_;refine ⟨rfl, by simp [Value.cells], fun g w4 hH => ?_⟩;(try refine Qs ?_)
 apply hK;clear hK
 refine VS [0, 1, 5, 6] ?_
 refine Qaf ?_
 refine Qae [0, 1, 5, 6] (fun m e w' => ∃ (i cap : Nat) (ao : Option Addr), Is e [(0, .slice (some p) li.length c), (1, .int .i64 k), (5, .slice ao (li.getD k 0 :: (li.take i).eraseIdx k).length cap), (6, .int .i64 i)] /\ Heap w [] w' [Res.row 3 1 ao (li.getD k 0 :: (li.take i).eraseIdx k).length cap (Qas (li.getD k 0 :: (li.take i).eraseIdx k))] /\ i <= li.length /\ m = li.length - i) li.length ?_ ?_
 ·
  refine Qs ?_
  exact ⟨0, 1, _, rfl, hH, by omega, rfl⟩
 clear hH hH0
 rintro m e w' ⟨i, cap, ao, rfl, hH, hi, rfl⟩
 refine VS [0, 1, 5, 6, 15] ?_
 refine VD (fun h => ?_) (fun h => ?_)
 ·
  have hi' : i < li.length := by omega
  have het := Qhx (li := li) (k := k) hi'
  have hcell := Qea (hH.rs' hr) hi'
  have hel : ((li.take i).eraseIdx k).length <= i := by
   have := List.length_eraseIdx_le (li.take i) k
   rw [List.length_take] at this;omega
  generalize (li.take i).eraseIdx k = E at *
  refine VC_skip ?_
  refine VB ?_
  refine VS [0, 1, 5, 6, 20] ?_
  refine VD (fun h => ?_) (fun h => ?_)
  ·
   rw [if_neg (by omega)] at het
   refine VQ [0, 1, 5, 6] fun K hK => ?_
   refine ⟨⟨by omega, by omega⟩, _, hcell, ?_⟩
   (try refine Qs ?_)
   refine Qa6 (xs := [.tmp 25]) Tryz.underlying36 sz3 rfl rfl rfl (by omega) ?_;refine Qs ?_;refine ⟨by simp [Value.cells], ?_⟩
   refine Qai ?_;refine Qs ?_;refine Qd5 hH 0 (li.getD i 0) rfl Tryz.underlying36 zi3 (by first | rfl | (simp;done) | omega | (simp;omega)) (fun h => by (first | omega | (simp;done) | (simp;omega))) fun a' cap' w5 hc' hH2 => ?_;(try refine Qs ?_)
   apply hK;clear hK
   refine Qam ?_
   refine VS [0, 1, 5, 6] ?_
   refine Qab ?_
   refine Qs ?_
   exact ⟨li.length - (i + 1), by omega, i + 1, cap', a', by rw [het];rfl, by rw [het];exact hH2, by omega, rfl⟩
  ·
   rw [if_pos (by omega)] at het
   refine VC_skip ?_
   refine Qam ?_
   refine VS [0, 1, 5, 6] ?_
   refine Qab ?_
   refine Qs ?_
   exact ⟨li.length - (i + 1), by omega, i + 1, cap, ao, by rw [het];rfl, by rw [het];exact hH, by omega, rfl⟩
 ·
  obtain rfl : i = li.length := by omega
  refine Qag rfl ?_
  have e : li.getD k 0 :: (li.take li.length).eraseIdx k = Qcm li k := by
   rw [List.take_length, Qcm, List.eraseIdx_eq_take_drop_succ]
  rw [e, Qdx hk] at hH ⊢
  refine VS [4] ?_
  exact VC_ret (VX_ret1 rfl rfl ⟨_, _, rfl, hH⟩)
def Qr5 (u : Nat × Int) (at_ : Nat) : Value :=
 if u.2 = 0 then .tuple #[.int .i64 u.1, .int .i64 (at_ + u.1 + 1 : Nat), .int .i64 0] else .tuple #[.int .i64 0, .int .i64 0, .int .i64 (if u.2 = 3 then 110 else u.2)]
theorem Qj5 (l : List Bool) (at_ most : Nat) (hat : at_ <= l.length) (hl : l.length <= 1000000000000) (hm : 1 <= most /\ most <= 6) (a : Option Addr) (c : Nat) (w : World) (hr : RS w a l.length 1 (Qal (bI l))) :
  Does Tryz.prog 154 #[.slice a l.length c, .int .i64 at_, .int .i64 most] w fun v w' => w' = w /\ v = Qr5 (unS (l.drop at_) (most - 1) 0) at_ := by
 generalize hu : unS (l.drop at_) (most - 1) 0 = u
 refine En [.slice a l.length c, .int .i64 at_, .int .i64 most] 34 Tryz.func154 ?_
 refine VS [0, 1, 2] ?_
 refine VS [0, 1, 2, 9] ?_
 refine Qaf ?_
 refine Qae [0, 1, 2, 9] (fun m e w' => ∃ (n : Nat), Is e [(0, .slice a l.length c), (1, .int .i64 at_), (2, .int .i64 most), (9, .int .i64 n)] /\ Is w' w /\ n < most /\ unS (l.drop (at_ + n)) (most - 1) n = u /\ m = most - n) most ?_ ?_
 ·
  refine Qs ?_
  exact ⟨0, rfl, rfl, by omega, hu, rfl⟩
 clear hu
 rintro m e w' ⟨n, rfl, rfl, hn, hu, rfl⟩
 refine VS [0, 1, 2, 9, 15] ?_
 refine VD (fun h => ?_) (fun h => ?_)
 ·
  have hlt : at_ + n < l.length := by omega
  obtain ⟨p, rfl⟩ := Qbe hr (by omega)
  have hcell := Qet hr hlt
  have hd := Qa1 false hlt
  rw [hd] at hu
  generalize l.getD (at_ + n) false = b at *
  refine VC_skip ?_
  refine VB ?_
  refine VQ [0, 1, 2, 9, 24] fun K hK => ?_
  refine ⟨I64.mk (by omega) (by omega), ⟨by omega, by omega⟩, _, hcell, ?_⟩
  (try refine Qs ?_)
  (repeat refine Qo ?_);apply hK;clear hK
  cases b with
  | false =>
   refine Qaa rfl rfl (fun h => ?_) (fun h => by simp at h)
   rw [unS] at hu
   subst hu
   refine VS [6, 7, 8] ?_
   refine VC_ret (Qap rfl rfl rfl rfl ⟨rfl, ?_⟩)
   simp only [Qr5, if_true]
   push_cast
   rfl
  | true =>
   refine Qaa rfl rfl (fun h => by simp at h) (fun h => VC_skip ?_)
   rw [unS] at hu
   refine VS [0, 1, 2, 9, 33] ?_
   refine VD (fun h => ?_) (fun h => VC_skip ?_)
   ·
    rw [if_pos (by omega)] at hu
    subst hu
    refine VS [6, 7, 8] ?_
    exact VC_ret (Qap rfl rfl rfl rfl ⟨rfl, rfl⟩)
   rw [if_neg (by omega)] at hu
   refine Qam ?_
   refine VS [0, 1, 2, 9] ?_
   refine Qab ?_
   refine Qs ?_
   exact ⟨most - (n + 1), by omega, n + 1, rfl, rfl, by omega, hu, rfl⟩
 ·
  refine Qag rfl ?_
  rw [List.drop_of_length_le (by omega), unS] at hu
  subst hu
  refine VS [6, 7, 8] ?_
  exact VC_ret (Qap rfl rfl rfl rfl ⟨rfl, rfl⟩)
theorem Qr6 : ∀ (l : List Bool) (most n : Nat), (unS l most n).2 = 0 -> n <= (unS l most n).1 /\ (unS l most n).1 - n < l.length
 | [], most, n, h => by simp [unS] at h
 | false :: r, most, n, _ => by simp [unS]
 | true :: r, most, n, h => by
  rw [unS] at h ⊢
  split
  ·
   rename_i e;rw [if_pos e] at h;simp at h
  ·
   rename_i e
   rw [if_neg e] at h
   have := Qr6 r most (n + 1) h
   simp only [List.length_cons];omega
theorem Qoy : ∀ (l : List Bool) (most n : Nat), (unS l most n).2 = 0 ∨ (unS l most n).2 = 3 ∨ (unS l most n).2 = 10
 | [], most, n => by simp [unS]
 | false :: r, most, n => by simp [unS]
 | true :: r, most, n => by
  rw [unS]
  split
  ·
   simp
  ·
   exact Qoy r most (n + 1)
theorem Ql2 (l : List Bool) (at_ many np : Nat) (hat : at_ <= l.length) (hl : l.length <= 1000000000000) (hm : 2 <= many /\ many <= 6) (hnp : np <= 32767) (a : Option Addr) (c : Nat) (w : World) (hr : RS w a l.length 1 (Qal (bI l))) :
  Does Tryz.prog 109 #[.slice a l.length c, .int .i64 at_, .int .i64 many, .int .i64 np] w (Qi6 (ptGo l many (List.range many) np at_) w) := by
 have hmore : ptGo l many [0, 1, 2, 3, 4, 5] np at_ = ptGo l many (List.range many) np at_ := by
  have := Qlv l many ([0, 1, 2, 3, 4, 5].drop many) np (List.range many) at_ (by simp) (by omega)
  rw [<- this]
  congr 1
  obtain ⟨h1, h2⟩ := hm
  match many, h1, h2 with
  | 2, _, _ => rfl
  | 3, _, _ => rfl
  | 4, _, _ => rfl
  | 5, _, _ => rfl
  | 6, _, _ => rfl
 rw [<- hmore]
 generalize hres : ptGo l many [0, 1, 2, 3, 4, 5] np at_ = res
 clear hmore
 refine En [.slice a l.length c, .int .i64 at_, .int .i64 many, .int .i64 np] 47 Tryz.func109 ?_
 refine VS [0, 1, 2, 3] ?_
 have hH0 := Heap.start w
 refine VQ [0, 1, 2, 3, 11] fun K hK => ?_
 refine Qbg hH0 (Qas [0, 1, 2, 3, 4, 5]) (xs := [.const (.int .i64 0), .const (.int .i64 1), .const (.int .i64 2), .const (.int .i64 3), .const (.int .i64 4), .const (.int .i64 5)]) Tryz.underlying36 sz3 rfl rfl rfl (by omega) ?_;refine Qs ?_;refine ⟨rfl, by simp [Value.cells], fun g w4 hH => ?_⟩;(try refine Qs ?_)
 apply hK;clear hK
 refine VS [0, 1, 2, 3, 11, 12] ?_
 refine VS [0, 1, 2, 3, 11, 12, 13] ?_
 refine Qaf ?_
 refine Qae [0, 1, 2, 3, 11, 12, 13] (fun m e w' => ∃ (i p cl cap : Nat) (al ao : Option Addr) (li o : List Nat), Is e [(0, .slice a l.length c), (1, .int .i64 p), (2, .int .i64 many), (3, .int .i64 np), (11, .slice al 6 cl), (12, .slice ao o.length cap), (13, .int .i64 i)] /\ Heap w [] w' [Res.row 3 1 ao o.length cap (Qas o), Res.row 3 1 al 6 cl (Qas li)] /\ li.length = 6 /\ p <= l.length /\ o.length = i /\ i <= np /\ (match ptGo l many li (np - i) p with | .error e => .error e | .ok q => .ok (o ++ q.1, q.2)) = res /\ m = np - i) np ?_ ?_
 ·
  refine Qs ?_
  refine ⟨0, at_, 6, 0, _, none, _, [], rfl, hH.nilRow 3 1, rfl, hat, rfl, by omega, ?_, rfl⟩
  rw [Nat.sub_zero, hres]
  cases res <;> rfl
 clear hH hres hH0
 rintro m e w' ⟨i, p, cl, cap, al, ao, li, o, rfl, hH, hli, hp, ho, hi, hres, rfl⟩
 refine VS [0, 1, 2, 3, 11, 12, 13, 20] ?_
 refine VD (fun h => ?_) (fun h => ?_)
 ·
  obtain ⟨k, hk⟩ : ∃ k, np - i = k + 1 := ⟨np - i - 1, by omega⟩
  rw [hk, ptGo] at hres
  refine VC_skip ?_
  refine VB ?_
  have hpl := Qj5 l p many hp hl (by omega) a c w' (hH.rs' hr)
  have hu1 := Qrz (l.drop p) (many - 1) 0 (by omega)
  have hu2 := Qr6 (l.drop p) (many - 1) 0
  have hu3 := Qoy (l.drop p) (many - 1) 0
  rw [List.length_drop] at hu2
  generalize unS (l.drop p) (many - 1) 0 = u at *
  obtain ⟨u, ue⟩ := u
  simp only at hu1 hu2 hu3 hres
  refine VQ [0, 2, 3, 11, 12, 13, 14, 15, 16] fun K hK => ?_
  refine MemK_call Tryz.call154 ?_;refine Qs ?_;refine CallK.mk hpl ?_
  rintro v w2 ⟨rfl, rfl⟩
  unfold Qr5
  by_cases hue : ue = 0
  ·
   subst hue
   have hu1 := hu1 rfl
   have hu2 := (hu2 rfl).2
   rw [if_neg (by simp)] at hres
   rw [if_pos rfl]
   (try refine Qs ?_)
   apply hK;clear hK
   refine VS [0, 2, 3, 11, 12, 13, 14, 15, 16, 32] ?_
   refine Qaa rfl rfl (fun h => by simp at h) (fun h => VC_skip ?_)
   clear h
   obtain ⟨q, rfl⟩ := Qbe (Qaz (hH.at 1 rfl)) (by omega)
   have hcell := Qea (Qaz (hH.at 1 rfl)) (show u < li.length by omega)
   refine VQ [0, 2, 3, 11, 12, 13, 14, 15] fun K hK => ?_
   refine ⟨⟨by omega, by omega⟩, _, hcell, ?_⟩
   (try refine Qs ?_)
   refine Qa6 (xs := [.tmp 38]) Tryz.underlying36 sz3 rfl rfl rfl (by omega) ?_;refine Qs ?_;refine ⟨by simp [Value.cells], ?_⟩
   refine Qai ?_;refine Qs ?_;refine Qd5 hH 0 (li.getD u 0) rfl Tryz.underlying36 zi3 (by first | rfl | (simp;done) | omega | (simp;omega)) (fun h => by (first | omega | (simp;done) | (simp;omega))) fun a' cap' w5 hc' hH2 => ?_;(try refine Qs ?_)
   apply hK;clear hK
   have htd := Qim li u (by omega) (by omega) (some q) cl
   rw [hli] at htd
   refine VQ [0, 2, 3, 11, 12, 13, 15] fun K hK => ?_
   refine MemK_call Tryz.call145 ?_;refine Qs ?_;refine CallK.mk (htd w5 (Qaz (hH2.at 1 rfl))) ?_
   rintro v w6 ⟨a6, c6, rfl, hH6⟩
   have hH3 := hH2.call0 hH6
   simp only [List.singleton_append] at hH3
   clear hH hH2 hH6
   have hH4 := (hH3.perm (.swap _ _ _)).sub (G' := [Res.row 3 1 a' (o ++ [li.getD u 0]).length cap' (Qas (o ++ [li.getD u 0])), Res.row 3 1 a6 6 c6 (Qas (Qcm li u))]) (by simp)
   clear hH3
   (try refine Qs ?_)
   apply hK;clear hK
   refine VS [0, 1, 2, 3, 11, 12, 13] ?_
   refine Qam ?_
   refine VS [0, 1, 2, 3, 11, 12, 13] ?_
   refine Qab ?_
   refine Qs ?_
   refine ⟨np - (i + 1), by omega, i + 1, p + u + 1, c6, cap', a6, a', Qcm li u, o ++ [li.getD u 0], rfl, hH4, by rw [Qdx (by omega)];exact hli, by omega, by simp;omega, by omega, ?_, rfl⟩
   rw [show np - (i + 1) = k by omega, <- hres]
   cases ptGo l many (Qcm li u) k (p + u + 1) <;> simp
  ·
   rw [if_pos hue] at hres
   subst hres
   rw [if_neg hue]
   simp only at hue ⊢
   have hne : (if ue = 3 then 110 else ue) ≠ 0 := by split <;> omega
   generalize (if ue = 3 then 110 else ue) = ue2 at *
   (try refine Qs ?_)
   apply hK;clear hK
   refine VS [0, 2, 3, 11, 12, 13, 14, 15, 16, 32] ?_
   refine Qaa rfl rfl (fun h => ?_) (fun h => by simp at h;exact absurd h hne)
   refine VS [8, 9, 10] ?_
   exact VC_ret (Qap rfl rfl rfl rfl ⟨hH.sub (by simp), rfl⟩)
 ·
  refine Qag rfl ?_
  rw [show np - i = 0 by omega, ptGo] at hres
  simp only [List.append_nil] at hres
  subst hres
  refine VS [8, 9, 10] ?_
  exact VC_ret (Qap rfl rfl rfl rfl ⟨_, _, hH.sub (by simp), rfl⟩)
theorem Qby {l : List Bool} {at_ n : Nat} (h : l.length < at_ + n) : Qcr l at_ n = (0, 10) := if_pos h
theorem Qbn {l : List Bool} {at_ n : Nat} (h : at_ + n <= l.length) : Qcr l at_ n = (numB ((l.drop at_).take n), 0) := if_neg (by omega)
theorem Qvl : ∀ (r : List Bool) (most n : Nat), n <= most -> (unS r most n).2 = 0 -> n <= (unS r most n).1 /\ (unS r most n).1 <= most /\ (unS r most n).1 + 1 <= n + r.length
 | [], most, n, _, h => by simp [unS] at h
 | false :: r, most, n, hn, h => by simp [unS];omega
 | true :: r, most, n, hn, h => by
  rw [unS] at h ⊢
  split
  ·
   rename_i e;rw [if_pos e] at h;simp at h
  ·
   rename_i e
   rw [if_neg e] at h
   have := Qvl r most (n + 1) (by omega) h
   simp;omega
theorem Qj6 : ∀ (m : Nat) (r : List Bool) (now k at_ : Nat) (q : List Nat × Nat), r.length <= m -> tdGo r now k at_ = .ok q -> q.1.length = k /\ q.2 <= at_ + r.length /\ at_ <= q.2
 | _, [], now, k, at_, q, _, h => by
  rw [tdGo] at h
  split at h
  ·
   cases h;simp;omega
  ·
   split at h <;> cases h
 | 0, b :: r, now, k, at_, q, hm, h => by simp at hm
 | m + 1, false :: r, now, k, at_, q, hm, h => by
  rw [tdGo] at h
  split at h
  ·
   cases h;simp;omega
  ·
   split at h
   ·
    cases h
   ·
    split at h
    ·
     cases h
    ·
     rename_i q' hq
     cases h
     have := Qj6 m r _ _ _ q' (by simpa using hm) hq
     simp;omega
 | m + 1, [true], now, k, at_, q, hm, h => by
  rw [tdGo] at h
  split at h
  ·
   cases h;simp;omega
  ·
   split at h <;> cases h
 | m + 1, true :: d :: r, now, k, at_, q, hm, h => by
  rw [tdGo] at h
  split at h
  ·
   cases h;simp;omega
  ·
   split at h
   ·
    cases h
   ·
    have := Qj6 m r _ _ _ q (by simp at hm;omega) h
    simp;omega
theorem Qj7 : ∀ (m : Nat) (r : List Bool) (now k at_ : Nat) (e : Int), r.length <= m -> tdGo r now k at_ = .error e -> e ≠ 0
 | _, [], now, k, at_, e, _, h => by
  rw [tdGo] at h
  split at h
  ·
   cases h
  ·
   split at h <;> (cases h;omega)
 | 0, b :: r, now, k, at_, e, hm, h => by simp at hm
 | m + 1, false :: r, now, k, at_, e, hm, h => by
  rw [tdGo] at h
  split at h
  ·
   cases h
  ·
   split at h
   ·
    cases h;omega
   ·
    split at h
    ·
     rename_i e' he
     cases h
     exact Qj7 m r _ _ _ _ (by simpa using hm) he
    ·
     cases h
 | m + 1, [true], now, k, at_, e, hm, h => by
  rw [tdGo] at h
  split at h
  ·
   cases h
  ·
   split at h <;> (cases h;omega)
 | m + 1, true :: d :: r, now, k, at_, e, hm, h => by
  rw [tdGo] at h
  split at h
  ·
   cases h
  ·
   split at h
   ·
    cases h;omega
   ·
    exact Qj7 m r _ _ _ e (by simp at hm;omega) h
theorem Qev {bits : List Bool} {at_ n : Nat} {q : List Nat × Nat} (h : Qa3 bits at_ n = .ok q) : q.1.length = n /\ q.2 <= bits.length := by
 unfold Qa3 at h
 split at h
 ·
  cases h
 ·
  rename_i h1
  have h2 : at_ + 5 <= bits.length := by
   rcases Nat.lt_or_ge bits.length (at_ + 5) with h3 | h3
   ·
    rw [Qby h3] at h1;simp at h1
   ·
    exact h3
  have := Qj6 _ _ _ _ _ _ (Nat.le_refl _) h
  rw [List.length_drop] at this
  omega
theorem Qd7 {bits : List Bool} {at_ n : Nat} {e : Int} (h : Qa3 bits at_ n = .error e) : e ≠ 0 := by
 unfold Qa3 at h
 split at h
 ·
  rename_i h1;cases h;exact h1
 ·
  exact Qj7 _ _ _ _ _ _ (Nat.le_refl _) h
theorem Qj8 {bits : List Bool} {many : Nat} (hm : 0 < many) : ∀ (k : Nat) (li : List Nat) (at_ : Nat) (q : List Nat × Nat), li.length = many -> at_ <= bits.length -> ptGo bits many li k at_ = .ok q -> q.1.length = k /\ q.2 <= bits.length /\ ∀ x ∈ q.1, x ∈ li
 | 0, li, at_, q, hl, ha, h => by rw [ptGo] at h;cases h;simp;exact ha
 | k + 1, li, at_, q, hl, ha, h => by
  rw [ptGo] at h
  split at h
  ·
   cases h
  ·
   rename_i h1
   have h1 := Decidable.not_not.1 h1
   have h2 := Qvl _ _ _ (by omega) h1
   rw [List.length_drop] at h2
   generalize (unS (bits.drop at_) (many - 1) 0).1 = u at *
   have hu : u < li.length := by omega
   split at h
   ·
    cases h
   ·
    rename_i q' hq
    cases h
    obtain ⟨a, b, c⟩ := Qj8 hm k _ _ q' (by rw [Qdx hu];exact hl) (by omega) hq
    refine ⟨by simp [a], b, fun x hx => ?_⟩
    rcases List.mem_cons.1 hx with rfl | hx
    ·
     rw [List.getD_eq_getElem?_getD, List.getElem?_eq_getElem hu];exact List.getElem_mem hu
    ·
     exact (Qp9 hu x).1 (c x hx)
theorem Qg2 {bits : List Bool} {many : Nat} : ∀ (k : Nat) (li : List Nat) (at_ : Nat) (e : Int), ptGo bits many li k at_ = .error e -> e ≠ 0
 | 0, li, at_, e, h => by rw [ptGo] at h;cases h
 | k + 1, li, at_, e, h => by
  rw [ptGo] at h
  split at h
  ·
   rename_i h1
   cases h
   split
   ·
    omega
   ·
    exact h1
  ·
   split at h
   ·
    rename_i e' he
    cases h
    exact Qg2 k _ _ _ he
   ·
    cases h
theorem Qj9 {bits : List Bool} {n : Nat} : ∀ (k at_ : Nat) (q : List (List Nat) × Nat), at_ <= bits.length -> ttGo bits n k at_ = .ok q -> q.1.length = k /\ q.2 <= bits.length /\ ∀ t ∈ q.1, t.length = n /\ okLB t = true
 | 0, at_, q, ha, h => by rw [ttGo] at h;cases h;simp;exact ha
 | k + 1, at_, q, ha, h => by
  rw [ttGo] at h
  split at h
  ·
   cases h
  ·
   rename_i q1 h1
   have h2 := Qev h1
   split at h
   ·
    cases h
   ·
    rename_i h3
    split at h
    ·
     cases h
    ·
     rename_i q' hq
     cases h
     obtain ⟨a, b, c⟩ := Qj9 k _ q' h2.2 hq
     refine ⟨by simp [a], b, fun t ht => ?_⟩
     rcases List.mem_cons.1 ht with rfl | ht
     ·
      exact ⟨h2.1, by simpa using h3⟩
     ·
      exact c t ht
theorem Qg3 {bits : List Bool} {n : Nat} : ∀ (k at_ : Nat) (e : Int), ttGo bits n k at_ = .error e -> e ≠ 0
 | 0, at_, e, h => by rw [ttGo] at h;cases h
 | k + 1, at_, e, h => by
  rw [ttGo] at h
  split at h
  ·
   rename_i e' he;cases h;exact Qd7 he
  ·
   split at h
   ·
    cases h;omega
   ·
    split at h
    ·
     rename_i e' he;cases h;exact Qg3 k _ _ he
    ·
     cases h
theorem Qfi {bits : List Bool} {at_ n : Nat} {q : (List (List Nat) × List Nat) × Nat} (hn : 3 <= n) (h : Qbr bits at_ n = .ok q) : mayP q.1.1 q.1.2 /\ (q.1.1.getD 0 []).length = n /\ q.2 <= bits.length := by
 unfold Qbr at h
 split at h
 ·
  cases h
 rename_i h1
 split at h
 ·
  cases h
 rename_i h2
 split at h
 ·
  cases h
 rename_i h3
 split at h
 ·
  cases h
 rename_i h4
 have h5 : at_ + 3 + 15 <= bits.length := by
  rcases Nat.lt_or_ge bits.length (at_ + 3 + 15) with h3' | h3'
  ·
   rw [Qby h3'] at h3;simp at h3
  ·
   exact h3'
 have h6 : (Qcr bits (at_ + 3) 15).1 <= 32767 := by
  rw [Qbn h5]
  have := Qba ((bits.drop (at_ + 3)).take 15)
  have h7 : ((bits.drop (at_ + 3)).take 15).length = 15 := by simp;omega
  rw [h7] at this
  simp only
  omega
 generalize (Qcr bits (at_ + 3) 15).1 = np at *
 generalize (Qcr bits at_ 3).1 = many at *
 split at h
 ·
  cases h
 rename_i q1 hq1
 split at h
 ·
  cases h
 rename_i q2 hq2
 cases h
 obtain ⟨a, b, c⟩ := Qj8 (by omega) np _ _ q1 (by simp) (by omega) hq1
 obtain ⟨a2, b2, c2⟩ := Qj9 many _ q2 b hq2
 have h0 : (q2.1.getD 0 []).length = n := by
  rw [List.getD_eq_getElem?_getD, List.getElem?_eq_getElem (by omega)]
  exact (c2 _ (List.getElem_mem _)).1
 refine ⟨⟨by simp only;omega, by simp only;omega, by simp only;omega, by simp only;omega, fun t ht => ?_, fun k hk => ?_⟩, h0, b2⟩
 ·
  simp only at ht ⊢
  rw [h0]
  exact ⟨(c2 t ht).1, by have := (c2 t ht).1;omega, Qg0.1 (c2 t ht).2⟩
 ·
  have := c k hk
  simp at this ⊢
  omega
theorem Qew {bits : List Bool} {at_ n : Nat} {e : Int} (h : Qbr bits at_ n = .error e) : e ≠ 0 := by
 unfold Qbr at h
 split at h
 ·
  rename_i h1;cases h;exact h1
 split at h
 ·
  cases h;omega
 split at h
 ·
  rename_i h1;cases h;exact h1
 split at h
 ·
  cases h;omega
 split at h
 ·
  rename_i e' he;cases h;exact Qg2 _ _ _ _ he
 split at h
 ·
  rename_i e' he;cases h;exact Qg3 _ _ _ he
 ·
  cases h
def Qhy (hs : List (Option Addr × Nat)) (L : List (List Nat)) : List Res := List.zipWith (fun h l => Res.row 3 1 h.1 l.length h.2 (Qas l)) hs L
theorem Ql3 {hs : List (Option Addr × Nat)} {L : List (List Nat)} {i : Nat} {h : Option Addr × Nat} {l : List Nat} (h1 : hs[i]? = some h) (h2 : L[i]? = some l) : (Qhy hs L)[i]? = some (Res.row 3 1 h.1 l.length h.2 (Qas l)) := by
 simp [Qhy, List.getElem?_zipWith, h1, h2]
theorem Qi9 {hs : List (Option Addr × Nat)} {L : List (List Nat)} (hl : hs.length = L.length) (a : Option Addr) (c : Nat) (l : List Nat) : Qhy hs L ++ [Res.row 3 1 a l.length c (Qas l)] = Qhy (hs ++ [(a, c)]) (L ++ [l]) := by
 unfold Qhy
 rw [List.zipWith_append hl];rfl
theorem Qoz (l : List Nat) : ∀ (r : List Bool) (n code : Nat) (p : Nat × Nat), Qds l r n code = .ok p -> p.2 <= n + r.length
 | [], n, code, p, h => by simp [Qds] at h
 | b :: r, n, code, p, h => by
  rw [Qds] at h
  split at h
  ·
   cases h;simp
  ·
   split at h
   ·
    have := Qoz l r _ _ p h
    simp;omega
   ·
    cases h
theorem Ql4 (l : List Nat) : ∀ (r : List Bool) (n code : Nat) (e : Int), Qds l r n code = .error e -> e ≠ 0
 | [], n, code, e, h => by simp [Qds] at h;omega
 | b :: r, n, code, e, h => by
  rw [Qds] at h
  split at h
  ·
   cases h
  ·
   split at h
   ·
    exact Ql4 l r _ _ e h
   ·
    cases h;omega
theorem Qup {l : List Nat} {bits : List Bool} {at_ : Nat} {q : Nat × Nat} (ha : at_ <= bits.length) (h : Qdt l bits at_ = .ok q) : q.2 <= bits.length := by
 unfold Qdt at h
 split at h
 ·
  rename_i p hp
  cases h
  have := Qoz l _ _ _ _ hp
  simp at this;simp;omega
 ·
  cases h
theorem Qr7 {l : List Nat} {bits : List Bool} {at_ : Nat} {e : Int} (h : Qdt l bits at_ = .error e) : e ≠ 0 := by
 unfold Qdt at h
 split at h
 ·
  cases h
 ·
  rename_i e' he
  cases h
  exact Ql4 l _ _ _ _ he
theorem Qo0 {l : List Nat} {bits : List Bool} {fin : Nat} : ∀ (n at_ : Nat) (q : List Nat × Nat), at_ <= bits.length -> Qcp l bits fin n at_ = .ok q -> q.2 <= bits.length /\ q.1.length <= n /\ (0 < n -> 0 < q.1.length)
 | 0, at_, q, ha, h => by simp [Qcp] at h;subst h;simp;exact ha
 | n + 1, at_, q, ha, h => by
  rw [Qcp] at h
  split at h
  ·
   cases h
  ·
   rename_i p hp
   have h1 := Qup ha hp
   split at h
   ·
    cases h;simp;exact h1
   ·
    split at h
    ·
     cases h
    ·
     rename_i q' hq
     cases h
     have := Qo0 n p.2 q' h1 hq
     simp;omega
theorem Ql5 {l : List Nat} {bits : List Bool} {fin : Nat} : ∀ (n at_ : Nat) (e : Int), Qcp l bits fin n at_ = .error e -> e ≠ 0
 | 0, at_, e, h => by simp [Qcp] at h
 | n + 1, at_, e, h => by
  rw [Qcp] at h
  split at h
  ·
   rename_i e' he
   cases h
   exact Qr7 he
  ·
   split at h
   ·
    cases h
   ·
    split at h
    ·
     rename_i e' he
     cases h
     exact Ql5 n _ _ he
    ·
     cases h
theorem Qgv {l : List Nat} (h : 0 < l.length) (fin : Nat) : l.getLast? = some fin ↔ l.getD (l.length - 1) 0 = fin := by
 rw [List.getLast?_eq_getElem?, List.getD_eq_getElem?_getD, List.getElem?_eq_getElem (by omega)]
 simp
theorem Ql6 (v : Value) (T : List (List Nat)) (P : List Nat) (hm : mayP T P) (s : List UInt8) (at_ : Nat) (hat : at_ <= 8 * s.length) (hs : s.length <= 100000000000000) (w : World) (hp : PlanAt w v T P) :
  Does Tryz.prog 48 #[v, Str s, .int .i64 at_] w (Qi6 (Qcq T (bytesB s) ((T.getD 0 []).length - 1) P at_) w) := by
 have hp0 := hp
 obtain ⟨ta, tc, pa, pc, hs0, rfl, hsl, hrT, hrP, hrt⟩ := hp
 have hm0 := hm
 obtain ⟨m1, m2, m3, m4, m5, m6⟩ := hm
 have hbl := bytesB_length s
 have hT0 : T[0]? = some (T.getD 0 []) := by rw [List.getD_eq_getElem?_getD, List.getElem?_eq_getElem (by omega)];rfl
 have hn0 : 3 <= (T.getD 0 []).length /\ (T.getD 0 []).length <= 258 := by
  obtain ⟨e1, e2, e3⟩ := m5 _ (List.mem_of_getElem? hT0)
  exact ⟨e2, e3.2.1⟩
 obtain ⟨qt, rfl⟩ := Qbe hrT (by omega)
 obtain ⟨qp, rfl⟩ := Qbe hrP (by omega)
 obtain ⟨h0, hh0⟩ : ∃ h0, hs0[0]? = some h0 := ⟨_, List.getElem?_eq_getElem (by omega)⟩
 have hc0 := hrT.2.2 qt rfl 0 _ (Qbk hh0 hT0)
 have hen : #[Value.agg #[.slice (some qt) T.length tc, .slice (some qp) P.length pc], Str s, .int .i64 at_] = [Value.agg (Qaq (some qt) T.length tc (some qp) P.length pc).toArray, Str s, .int .i64 at_].toArray := rfl
 rw [hen]
 refine Qc7 72 Tryz.func48 rfl rfl (of_decide_eq_true rfl) ?_
 simp only [Env.ofArgs]
 generalize hn : (T.getD 0 []).length = n0 at *
 generalize hres : Qcq T (bytesB s) (n0 - 1) P at_ = res
 generalize hnt : T.length = nt at *
 generalize hnp : P.length = np at *
 refine VQ [1, 2, 3] fun K hK => ?_
 refine Qc0 ?_
 refine Qs ?_
 have hH := (Heap.start w).box 65 (Qaq (some qt) nt tc (some qp) np pc)
 generalize w.alloc (Obj.cells (Qaq (some qt) nt tc (some qp) np pc).toArray 65) = w1 at *
 generalize w.heap.size = gp at *
 apply hK;clear hK
 refine VQ [1, 2, 3, 18] fun K hK => ?_
 refine ⟨Qaq (some qt) nt tc (some qp) np pc, ⟨rfl, Qcc (hH.at 0 rfl)⟩, ?_⟩
 refine MemK_call Tryz.call79 ?_;refine Qs ?_;refine CallK.mk (Ql1 _ T P hm0 w1 (hp0.keep hH)) ?_
 rintro v w2 ⟨hHm, rfl⟩
 have hH2 := hH.call0 hHm
 simp only [List.nil_append] at hH2
 clear hH hHm
 refine Qs ?_
 apply hK;clear hK
 refine Qaa rfl rfl (fun h => by simp at h) (fun h => VC_skip ?_)
 clear h
 refine VQ [1, 2, 3, 27] fun K hK => ?_
 suffices out : ∀ b : Bool, (b = true ↔ False) -> K [(1, Str s), (2, .int .i64 at_), (3, .pointer (some ⟨gp, 0, none⟩)), (27, .bool b)] w2 by (repeat' (first | exact out _ _ (by first | omega | (simp;done) | (simp;omega)) | exact out _ (by first | omega | (simp;done) | (simp;omega)) | refine ⟨fun _ => ?_, fun _ => ?_⟩ | refine Qo ?_))
 intro b hb
 apply hK;clear hK
 refine Qaa rfl rfl (fun h => (hb.1 h).elim) (fun h => VC_skip ?_)
 clear hb h
 have c0 : w2.cell? ⟨gp, 0, none⟩ = some (.slice (some qt) nt tc) := Qah (hH2.at 0 rfl) rfl
 have c1 : w2.cell? ⟨gp, 1, none⟩ = some (.slice (some qp) np pc) := Qah (hH2.at 0 rfl) rfl
 have hc2 := (hH2.rs' hrT).2.2 qt rfl 0 _ (Qbk hh0 hT0)
 rw [hn] at hc2
 refine VQ [1, 2, 3, 9] fun K hK => ?_
 refine ⟨_, c0, ?_⟩
 refine Qs ?_
 refine ⟨by omega, _, hc2, ?_⟩
 refine Qs ?_
 (repeat first | refine Qo ?_ | refine Qp ?_)
 rw [show ((n0 : Int) - 1) = ((n0 - 1 : Nat) : Int) by omega]
 apply hK;clear hK
 refine VS [1, 2, 3, 9, 10] ?_
 refine VQ [1, 2, 3, 9, 10, 35, 36, 37] fun K hK => ?_
 refine ⟨_, c1, ?_⟩
 refine Qs ?_
 apply hK;clear hK
 clear c0 c1 hc2 hc0
 generalize hfin : n0 - 1 = fin at *
 refine Qaf ?_
 refine Qae [1, 2, 3, 9, 10, 35, 36, 37] (fun m e w' => ∃ (i at2 cap : Nat) (D : List Nat) (a : Option Addr), Is e [(1, Str s), (2, .int .i64 at2), (3, .pointer (some ⟨gp, 0, none⟩)), (9, .int .i64 fin), (10, .slice a D.length cap), (35, .slice (some qp) np pc), (36, .int .i64 np), (37, .int .i64 i)] /\ Heap w [] w' [Res.row 3 1 a D.length cap (Qas D), Res.blk gp 65 (Qaq (some qt) nt tc (some qp) np pc)] /\ at2 <= 8 * s.length /\ D.length <= 50 * i /\ (match Qcq T (bytesB s) fin (P.drop i) at2 with | .error e => .error e | .ok x => .ok (D ++ x.1, x.2)) = res /\ i <= np /\ m = np - i) np ?_ ?_
 ·
  refine Qs ?_
  refine ⟨0, at_, 0, [], none, rfl, hH2.nilRow 3 1, hat, by simp, ?_, by omega, rfl⟩
  rw [<- hres, List.drop_zero]
  cases Qcq T (bytesB s) fin P at_ <;> rfl
 clear hH2 hres
 rintro m e w3 ⟨i, at2, cap, D, a, rfl, hH, hat2, hDl, hres, hi, rfl⟩
 refine VS [1, 2, 3, 9, 10, 35, 36, 37, 38] ?_
 (repeat refine Qay ?_)
 refine VD (fun h => ?_) (fun h => ?_)
 ·
  have hcp := Qea (hH.rs' hrP) (i := i) (by omega)
  have hpx := m6 _ (Qbl 0 (l := P) (i := i) (by omega))
  have hdp : P.drop i = P.getD i 0 :: P.drop (i + 1) := Qa1 0 (by omega)
  rw [hdp, Qcq] at hres
  generalize P.getD i 0 = k at *
  have hTk : T[k]? = some (T.getD k []) := by rw [List.getD_eq_getElem?_getD, List.getElem?_eq_getElem (by omega)];rfl
  obtain ⟨hh, hhk⟩ : ∃ hh, hs0[k]? = some hh := ⟨_, List.getElem?_eq_getElem (by omega)⟩
  have hck := (hH.rs' hrT).2.2 qt rfl k _ (Qbk hhk hTk)
  have hrt2 := hH.rs' (hrt k hh _ hhk hTk)
  obtain ⟨e1, e2, e3⟩ := m5 _ (List.mem_of_getElem? hTk)
  generalize T.getD k [] = t at *
  have hal := Quo t e3 s at2 50 fin hat2 hs (by omega) (by omega) hh.1 hh.2 w3 hrt2
  have hag := fun q => Qo0 (l := t) (bits := bytesB s) (fin := fin) 50 at2 q (by omega)
  have hae := fun e => Ql5 (l := t) (bits := bytesB s) (fin := fin) 50 at2 e
  generalize Qcp t (bytesB s) fin 50 at2 = r at *
  have c0 : w3.cell? ⟨gp, 0, none⟩ = some (.slice (some qt) nt tc) := Qah (hH.at 1 rfl) rfl
  refine VC_skip ?_
  refine VB ?_
  refine VQ [1, 2, 3, 9, 10, 12, 35, 36, 37] fun K hK => ?_
  refine ⟨⟨by omega, by omega⟩, _, hcp, ?_⟩
  apply hK;clear hK
  refine VQ [1, 3, 9, 10, 13, 14, 15, 35, 36, 37] fun K hK => ?_
  refine ⟨_, c0, ?_⟩
  refine Qs ?_
  refine ⟨⟨by omega, by omega⟩, _, hck, ?_⟩
  refine MemK_call Tryz.call104 ?_;refine Qs ?_;refine CallK.mk hal ?_
  intro v w4 hEx
  cases r with
  | error e =>
   obtain ⟨hHe, rfl⟩ := hEx
   subst hres
   have hH2 := hH.call0 hHe
   simp only [List.nil_append] at hH2
   apply hK;clear hK
   refine VS [1, 3, 9, 10, 13, 14, 15, 35, 36, 37, 55] ?_
   refine Vi (fun h => ?_) (fun h => ?_)
   ·
    refine VS [6, 7, 8] ?_
    exact VC_ret (Qap rfl rfl rfl rfl ⟨hH2.sub (by simp), rfl⟩)
   ·
    simp at h;exact absurd h (hae e rfl)
  | ok q =>
   obtain ⟨aq, cq, hHq, rfl⟩ := hEx
   obtain ⟨q1, q2, q3⟩ := hag q rfl
   replace q3 := q3 (by omega)
   simp only at hres
   have hH2 := hH.call0 hHq
   simp only [List.singleton_append] at hH2
   obtain ⟨gq, rfl⟩ := Qfa (hH2.at 0 rfl) q3
   clear hH hHq
   apply hK;clear hK
   refine VS [1, 3, 9, 10, 13, 14, 15, 35, 36, 37, 55] ?_
   refine Qaa rfl rfl (fun h => by simp at h) (fun h => VC_skip ?_)
   clear h
   refine VQ [1, 3, 9, 10, 13, 14, 35, 36, 37] fun K hK => ?_
   refine Qai ?_
   refine Qs ?_
   refine Qb8 (zs := #[.int .i64 0]) (bytes := 8) hH2 1 rfl Tryz.underlying36 (by kernel_rfl) rfl ⟨rfl, Qaz (hH2.at 0 rfl), 3, Tryz.underlying36⟩ (Qdy _) (fun h => by omega) fun a' cap' w5 hc' hH3 => ?_
   simp only [List.set_cons_succ, List.set_cons_zero] at hH3
   rw [<- Qcn, <- List.length_append] at hH3
   rw [<- List.length_append]
   apply hK;clear hK
   refine VS [1, 2, 3, 9, 10, 13, 35, 36, 37] ?_
   have hce := Qa0 (hH3.at 0 rfl) (Qce (l := q.1) (i := q.1.length - 1) (by omega))
   refine VQ [1, 2, 3, 9, 10, 35, 36, 37, 68] fun K hK => ?_
   (repeat first | refine Qo ?_ | refine Qp ?_)
   refine ⟨_, hce, ?_⟩
   refine Qs ?_
   apply hK;clear hK
   clear hce
   refine VD (fun h => ?_) (fun h => VC_skip ?_)
   ·
    rw [if_pos ((Qgv q3 fin).2 (by omega))] at hres
    subst hres
    refine VS [6, 7, 8] ?_
    exact VC_ret (Qap rfl rfl rfl rfl ⟨a', cap', hH3.sub (by simp), rfl⟩)
   rw [if_neg (fun e => h (by have := (Qgv q3 fin).1 e;omega))] at hres
   refine Qam ?_
   refine VS [1, 2, 3, 9, 10, 35, 36, 37] ?_
   refine Qab ?_
   refine Qs ?_
   refine ⟨np - (i + 1), by omega, i + 1, q.2, cap', D ++ q.1, a', rfl, hH3.sub (List.sublist_cons_self _ _), by omega, by simp;omega, ?_, by omega, rfl⟩
   rw [<- hres]
   cases Qcq T (bytesB s) fin (P.drop (i + 1)) q.2 with
   | error e => rfl
   | ok y => simp
 obtain rfl : i = np := by omega
 rw [List.drop_of_length_le (by omega), Qcq] at hres
 subst hres
 refine Qag rfl ?_
 refine VS [6, 7, 8] ?_
 exact VC_ret (Qap rfl rfl rfl rfl ⟨hH.sub (by simp), rfl⟩)
theorem Qa2 (ta : Option Addr) (nt tc : Nat) (pa : Option Addr) (np pc : Nat) : ∀ u ∈ Qaq ta nt tc pa np pc, u.oneCell' = true := by
 intro u hu
 simp [Qaq] at hu
 rcases hu with rfl | rfl <;> rfl
theorem Ql7 {w : World} {v : Value} {T : List (List Nat)} {P : List Nat} {ta pa : Option Addr} {nt tc np pc : Nat} {hs : List (Option Addr × Nat)} (hv : v = .agg (Qaq ta nt tc pa np pc).toArray) (hnt : T.length = nt) (hnp : P.length = np) (hl : hs.length = nt) (h1 : RS w ta nt 1 (Qbt hs T)) (h2 : RS w pa np 1 (Qas P))
  (h3 : ∀ (i : Nat) (h : Option Addr × Nat) (t : List Nat), hs[i]? = some h -> T[i]? = some t -> RS w h.1 t.length 1 (Qas t)) : PlanAt w v T P := by
 subst hnt hnp
 exact ⟨ta, tc, pa, pc, hs, hv, hl, h1, h2, h3⟩
set_option maxHeartbeats 4000000
theorem Qbu {P : Program} {N : Nat} {ops : List Oper} {w0 : World} {e : Env} {w : World} {K : Env -> World -> Prop} : vcH P N ops w0 [] e w K = K e w := rfl
abbrev QBx : Value := .agg (Qaq none 0 0 none 0 0).toArray
def Qvm (r : Except Int ((List (List Nat) × List Nat) × Nat)) (w : World) (v : Value) (w' : World) : Prop := match r with
 | .ok q => ∃ pv, Heap w [] w' [] /\ PlanAt w' pv q.1.1 q.1.2 /\ v = .tuple #[pv, .int .i64 q.2, .int .i64 0]
 | .error e => Heap w [] w' [] /\ v = .tuple #[QBx, .int .i64 0, .int .i64 e]
theorem Qka (s : List UInt8) (at_ n : Nat) (ha : at_ <= 8 * s.length) (hs : s.length <= 100000000000000) (hn : 3 <= n /\ n <= 258) (w : World) :
  Does Tryz.prog 47 #[Str s, .int .i64 at_, .int .i64 n] w (Qvm (Qbr (bytesB s) at_ n) w) := by
 have hbl := bytesB_length s
 generalize hres : Qbr (bytesB s) at_ n = res
 unfold Qbr at hres
 refine En [Str s, .int .i64 at_, .int .i64 n] 122 Tryz.func47 ?_
 refine VQ [0, 1, 2, 6] fun K hK => ?_
 refine Qav (.agg #[.slice none 0 0, .slice none 0 0]) (by kernel_rfl) ?_
 refine Qs ?_
 have hH := (Heap.start w).box 65 (Qaq none 0 0 none 0 0)
 have hpl : [Value.slice none 0 0, Value.slice none 0 0] = Qaq none 0 0 none 0 0 := rfl
 rw [hpl]
 generalize w.alloc (Obj.cells (Qaq none 0 0 none 0 0).toArray 65) = w1 at *
 generalize w.heap.size = gr at *
 apply hK;clear hK
 refine VQ [0, 2, 6, 9] fun K hK => ?_
 refine MemK_call Tryz.call86 ?_;refine Qs ?_;refine CallK.mk (Qbj s at_ w1 (I64.mk (by omega) (by omega)) (by omega)) ?_
 rintro v w2 (⟨hbad, _⟩ | ⟨_, gd, gs, hHr, rfl⟩)
 ·
  omega
 rw [Int.toNat_natCast] at hHr
 have hH2 := hH.call0 hHr
 simp only [List.singleton_append] at hH2
 clear hH hHr
 apply hK;clear hK
 refine VQ [0, 2, 6, 9, 32] fun K hK => ?_
 suffices out : ∀ b : Bool, (b = true ↔ False) -> K [(0, Str s), (2, .int .i64 n), (6, .pointer (some ⟨gr, 0, none⟩)), (9, .pointer (some ⟨gd, 0, none⟩)), (32, .bool b)] w2 by (repeat' (first | exact out _ _ (by first | omega | (simp;done) | (simp;omega)) | exact out _ (by first | omega | (simp;done) | (simp;omega)) | refine ⟨fun _ => ?_, fun _ => ?_⟩ | refine Qo ?_))
 intro b hb
 apply hK;clear hK
 refine Qaa rfl rfl (fun h => (hb.1 h).elim) (fun h => VC_skip ?_)
 clear hb h
 refine VQ [0, 2, 6, 9, 10, 11] fun K hK => ?_
 refine MemK_call Tryz.call87 ?_;refine Qs ?_;refine CallK.mk (Qcb gd gs s at_ 3 w2 (by omega) (by omega) (by omega) (hH2.focus 0 rfl)) ?_
 rintro v w3 (⟨h1, rfl, rfl⟩ | ⟨h1, hHt, rfl⟩)
 ·
  rw [Qby (by omega), if_pos (by simp)] at hres
  subst hres
  apply hK;clear hK
  refine VS [0, 2, 6, 9, 10, 11, 40] ?_
  refine Qaa rfl rfl (fun h => ?_) (fun h => by simp at h)
  refine VQ [6, 7, 8] fun K hK => ?_
  (refine Qac ?_;refine Qs ?_)
  refine Qad hH2 1 (vs := Qaq none 0 0 none 0 0) rfl rfl (by kernel_rfl) (by simp [Qaq]) (Qa2 _ _ _ _ _ _) fun w4 hH3 => ?_
  simp only [List.set_cons_zero, List.set_cons_succ] at hH3
  apply hK;clear hK
  refine VC_ret (Qbm rfl rfl rfl rfl (Qa5 (hH3.at 1 rfl) (by kernel_rfl) (by kernel_rfl) rfl ?_))
  exact ⟨hH3.sub (by simp), rfl⟩
 have hH3 := hH2.call1 0 rfl hHt
 simp only [List.set_cons_zero, List.nil_append] at hH3
 clear hH2 hHt
 rw [Qbn (by omega), if_neg (by simp)] at hres
 simp only at hres
 have hm7 := Qba (((bytesB s).drop at_).take 3)
 have hfl : (((bytesB s).drop at_).take 3).length = 3 := by simp;omega
 rw [hfl] at hm7
 generalize numB (((bytesB s).drop at_).take 3) = many at *
 apply hK;clear hK
 refine VS [0, 2, 6, 9, 10, 11, 40] ?_
 refine Qaa rfl rfl (fun h => by simp at h) (fun h => VC_skip ?_)
 clear h
 refine VQ [0, 2, 6, 9, 10, 48] fun K hK => ?_
 suffices out : ∀ b : Bool, (b = true ↔ (many < 2 ∨ 6 < many)) -> K [(0, Str s), (2, .int .i64 n), (6, .pointer (some ⟨gr, 0, none⟩)), (9, .pointer (some ⟨gd, 0, none⟩)), (10, .int .u64 many), (48, .bool b)] w3 by (repeat' (first | exact out _ _ (by first | omega | (simp;done) | (simp;omega)) | exact out _ (by first | omega | (simp;done) | (simp;omega)) | refine ⟨fun _ => ?_, fun _ => ?_⟩ | refine Qo ?_))
 intro b hb
 apply hK;clear hK
 refine Vi (fun h => ?_) (fun h => ?_)
 ·
  rw [if_pos (hb.1 h)] at hres
  subst hres
  refine VQ [6, 7, 8] fun K hK => ?_
  (refine Qac ?_;refine Qs ?_)
  refine Qad hH3 1 (vs := Qaq none 0 0 none 0 0) rfl rfl (by kernel_rfl) (by simp [Qaq]) (Qa2 _ _ _ _ _ _) fun w4 hH4 => ?_
  simp only [List.set_cons_zero, List.set_cons_succ] at hH4
  apply hK;clear hK
  refine VC_ret (Qbm rfl rfl rfl rfl (Qa5 (hH4.at 1 rfl) (by kernel_rfl) (by kernel_rfl) rfl ?_))
  exact ⟨hH4.sub (by simp), rfl⟩
 have hb2 : ¬ (many < 2 ∨ 6 < many) := fun hc => by rw [hb.2 hc] at h;cases h
 rw [if_neg hb2] at hres
 clear hb h
 refine VC_skip ?_
 refine VQ [0, 2, 6, 9, 10, 11, 12] fun K hK => ?_
 refine MemK_call Tryz.call87 ?_;refine Qs ?_;refine CallK.mk (Qcb gd gs s (at_ + 3) 15 w3 (by omega) (by omega) (by omega) (hH3.focus 0 rfl)) ?_
 rintro v w4 (⟨h2, rfl, rfl⟩ | ⟨h2, hHt, rfl⟩)
 ·
  rw [Qby (by omega), if_pos (by simp)] at hres
  subst hres
  apply hK;clear hK
  refine VS [0, 2, 6, 9, 10, 11, 12, 56] ?_
  refine Qaa rfl rfl (fun h => ?_) (fun h => by simp at h)
  refine VQ [6, 7, 8] fun K hK => ?_
  (refine Qac ?_;refine Qs ?_)
  refine Qad hH3 1 (vs := Qaq none 0 0 none 0 0) rfl rfl (by kernel_rfl) (by simp [Qaq]) (Qa2 _ _ _ _ _ _) fun w4 hH4 => ?_
  simp only [List.set_cons_zero, List.set_cons_succ] at hH4
  apply hK;clear hK
  refine VC_ret (Qbm rfl rfl rfl rfl (Qa5 (hH4.at 1 rfl) (by kernel_rfl) (by kernel_rfl) rfl ?_))
  exact ⟨hH4.sub (by simp), rfl⟩
 have hH4 := hH3.call1 0 rfl hHt
 simp only [List.set_cons_zero, List.nil_append] at hH4
 clear hH3 hHt
 rw [Qbn (by omega), if_neg (by simp)] at hres
 simp only at hres
 have hm7b := Qba (((bytesB s).drop (at_ + 3)).take 15)
 have hflb : (((bytesB s).drop (at_ + 3)).take 15).length = 15 := by simp;omega
 rw [hflb] at hm7b
 generalize numB (((bytesB s).drop (at_ + 3)).take 15) = np at *
 apply hK;clear hK
 refine VS [0, 2, 6, 9, 10, 11, 12, 56] ?_
 refine Qaa rfl rfl (fun h => by simp at h) (fun h => VC_skip ?_)
 clear h
 refine VS [0, 2, 6, 9, 10, 12, 60] ?_
 refine VD (fun h => ?_) (fun h => VC_skip ?_)
 ·
  rw [if_pos (by omega)] at hres
  subst hres
  refine VQ [6, 7, 8] fun K hK => ?_
  (refine Qac ?_;refine Qs ?_)
  refine Qad hH4 1 (vs := Qaq none 0 0 none 0 0) rfl rfl (by kernel_rfl) (by simp [Qaq]) (Qa2 _ _ _ _ _ _) fun w5 hH5 => ?_
  simp only [List.set_cons_zero, List.set_cons_succ] at hH5
  apply hK;clear hK
  refine VC_ret (Qbm rfl rfl rfl rfl (Qa5 (hH5.at 1 rfl) (by kernel_rfl) (by kernel_rfl) rfl ?_))
  exact ⟨hH5.sub (by simp), rfl⟩
 rw [if_neg (by omega), show at_ + 3 + 15 = at_ + 18 by omega] at *
 have hat2 : at_ + 18 <= 8 * s.length := by omega
 refine VQ [0, 2, 6, 9, 10, 12, 13] fun K hK => ?_
 refine Qav (.agg #[.slice none 0 0, .slice none 0 0]) (by kernel_rfl) ?_
 refine Qs ?_
 have hH5 := hH4.box 65 (Qaq none 0 0 none 0 0)
 rw [hpl]
 generalize w4.alloc (Obj.cells (Qaq none 0 0 none 0 0).toArray 65) = w5 at *
 generalize w4.heap.size = gp at *
 clear hH4
 apply hK;clear hK
 refine VQ [0, 2, 6, 9, 10, 12, 13, 14] fun K hK => ?_
 (repeat first | refine Qo ?_ | refine Qp ?_)
 refine MemK_call Tryz.call80 ?_;refine Qs ?_;refine CallK.mk (Qlz many (by omega) (by omega) w5) ?_
 rintro v w6 ⟨go, hHo, rfl⟩
 have hH6 := hH5.call0 hHo
 simp only [List.singleton_append] at hH6
 clear hH5 hHo
 apply hK;clear hK
 have hH7 : Heap w [] w6 [Res.row 3 1 (some ⟨go, 0, none⟩) many many (Qas (List.range many)), rd gd gs s (at_ + 18), Res.row 3 1 none 0 0 (Qas []), Res.blk gp 65 (Qaq none 0 0 none 0 0), Res.blk gr 65 (Qaq none 0 0 none 0 0)] :=
  (hH6.nilRow 3 1).perm ((List.Perm.swap _ _ _).trans (List.Perm.cons _ ((List.Perm.cons _ (List.Perm.swap _ _ _)).trans (List.Perm.swap _ _ _))))
 clear hH6
 refine VS [0, 2, 6, 9, 10, 13, 14, 65, 66] ?_
 generalize hpt : ptGo (bytesB s) many (List.range many) np (at_ + 18) = rp at *
 have hpok := fun q => Qj8 (bits := bytesB s) (many := many) (by omega) np (List.range many) (at_ + 18) q (by simp) (by omega)
 have hperr := fun e => Qg2 (bits := bytesB s) (many := many) np (List.range many) (at_ + 18) e
 rw [hpt] at hpok hperr
 refine Qaf ?_
 refine Qae [0, 2, 6, 9, 10, 13, 14, 65, 66] (fun m e w' => ∃ (i at2 cP : Nat) (aP : Option Addr) (li D : List Nat), Is e [(0, Str s), (2, .int .i64 n), (6, .pointer (some ⟨gr, 0, none⟩)), (9, .pointer (some ⟨gd, 0, none⟩)), (10, .int .u64 many), (13, .pointer (some ⟨gp, 0, none⟩)), (14, .slice (some ⟨go, 0, none⟩) many many), (65, .int .u64 np), (66, .int .u64 i)] /\ Heap w [] w' [Res.row 3 1 (some ⟨go, 0, none⟩) many many (Qas li), rd gd gs s at2, Res.row 3 1 aP D.length cP (Qas D), Res.blk gp 65 (Qaq none 0 0 aP D.length cP), Res.blk gr 65 (Qaq none 0 0 none 0 0)] /\ li.length = many /\ D.length = i /\ at2 <= 8 * s.length /\ (match ptGo (bytesB s) many li (np - i) at2 with | .error e => .error e | .ok q => .ok (D ++ q.1, q.2)) = rp /\ i <= np /\ m = np - i) np ?_ ?_
 ·
  refine Qs ?_
  refine ⟨0, at_ + 18, 0, none, List.range many, [], rfl, hH7, by simp, rfl, hat2, ?_, by omega, rfl⟩
  rw [Nat.sub_zero, hpt]
  cases rp <;> rfl
 clear hH7 hpt
 rintro m e w7 ⟨i, at2, cP, aP, li, D, rfl, hH, hlil, hDl, hat, hrp, hi, rfl⟩
 refine VS [0, 2, 6, 9, 10, 13, 14, 65, 66, 67] ?_
 (repeat refine Qay ?_)
 refine VD (fun h => ?_) (fun h => ?_)
 ·
  obtain ⟨k, hk⟩ : ∃ k, np - i = k + 1 := ⟨np - i - 1, by omega⟩
  rw [hk, ptGo] at hrp
  have hud := Qqd gd gs s at2 (many - 1) w7 (by omega) hat (by omega) (hH.focus 1 rfl)
  generalize hU : unS ((bytesB s).drop at2) (many - 1) 0 = U at *
  obtain ⟨u, ue⟩ := U
  simp only at hrp hud
  refine VC_skip ?_
  refine VB ?_
  refine VQ [0, 2, 6, 9, 10, 13, 14, 15, 16, 65, 66] fun K hK => ?_
  (repeat first | refine Qo ?_ | refine Qp ?_)
  rw [show ((many : Int) - 1) = ((many - 1 : Nat) : Int) by omega]
  refine MemK_call Tryz.call101 ?_;refine Qs ?_;refine CallK.mk hud ?_
  rintro v w8 ⟨rfl, hcs⟩
  apply hK;clear hK
  refine VS [0, 2, 6, 9, 10, 13, 14, 15, 16, 65, 66, 77] ?_
  refine Qe3 [0, 2, 6, 9, 10, 13, 14, 15, 16, 65, 66] (fun e w' => Is e [(0, Str s), (2, .int .i64 n), (6, .pointer (some ⟨gr, 0, none⟩)), (9, .pointer (some ⟨gd, 0, none⟩)), (10, .int .u64 many), (13, .pointer (some ⟨gp, 0, none⟩)), (14, .slice (some ⟨go, 0, none⟩) many many), (15, .int .i64 u), (16, .int .i64 (if ue = 3 then 110 else ue)), (65, .int .u64 np), (66, .int .u64 i)] /\ Is w' w8) ?_ ?_
  ·
   refine VD (fun h => ?_) (fun h => ?_)
   ·
    refine VS [0, 2, 6, 9, 10, 13, 14, 15, 16, 65, 66] ?_
    refine Qab ?_
    refine Qs ?_
    exact ⟨by rw [if_pos h];rfl, rfl⟩
   ·
    refine VC_skip ?_
    refine Qab ?_
    refine Qs ?_
    exact ⟨by rw [if_neg h];rfl, rfl⟩
  rintro e w9 ⟨rfl, rfl⟩
  refine VS [0, 2, 6, 9, 10, 13, 14, 15, 16, 65, 66, 79] ?_
  rcases hcs with ⟨hne, rfl⟩ | ⟨hue, hul, hum, hHu⟩
  ·
   rw [if_pos hne] at hrp
   subst hrp
   subst hres
   have hx : (if ue = 3 then 110 else ue) ≠ 0 := by split <;> omega
   generalize (if ue = 3 then 110 else ue) = x at *
   refine Qaa rfl rfl (fun h => ?_) (fun h => by simp at h;exact absurd h hx)
   refine VQ [6, 7, 8] fun K hK => ?_
   (refine Qac ?_;refine Qs ?_)
   refine Qad hH 4 (vs := Qaq none 0 0 none 0 0) rfl rfl (by kernel_rfl) (by simp [Qaq]) (Qa2 _ _ _ _ _ _) fun w5 hH5 => ?_
   simp only [List.set_cons_zero, List.set_cons_succ] at hH5
   apply hK;clear hK
   refine VC_ret (Qbm rfl rfl rfl rfl (Qa5 (hH5.at 4 rfl) (by kernel_rfl) (by kernel_rfl) rfl ?_))
   exact ⟨hH5.sub (by simp), rfl⟩
  subst hue
  rw [if_neg (by simp)] at hrp
  have hH2 := hH.call1 1 rfl hHu
  simp only [List.set_cons_zero, List.set_cons_succ, List.nil_append] at hH2
  clear hH hHu
  have hmvl := Qdx (li := li) (at_ := u) (by omega)
  have hmd := Ql0 li go many u (by omega) (by omega) w w9 [] _ (by rw [hlil];exact hH2)
  rw [hlil] at hmd
  refine Qaa rfl rfl (fun h => by simp at h) (fun h => VC_skip ?_)
  clear h
  refine V3 (bare w9) (Qjp _ _) [0, 2, 6, 9, 10, 13, 14, 65, 66] (.two [(0, true), (2, true), (3, true)] 1 4 (.seq [(4, false), (5, false), (6, false), (7, true), (8, false)]) (.two [] 1 5 (.seq [(5, false), (6, false), (7, true), (8, false)]) (.seq [(1, false), (6, false), (7, true), (8, false)]))) fun K hK => ?_
  suffices out : ∀ a' c' w10, Heap w [] w10 [Res.row 3 1 (some ⟨go, 0, none⟩) many many (Qas (Qcm li u)), rd gd gs s (at2 + u + 1), Res.row 3 1 a' (D ++ [li.getD u 0]).length c' (Qas (D ++ [li.getD u 0])), Res.blk gp 65 (Qaq none 0 0 a' (D ++ [li.getD u 0]).length c'), Res.blk gr 65 (Qaq none 0 0 none 0 0)] -> K [(0, Str s), (2, .int .i64 n), (6, .pointer (some ⟨gr, 0, none⟩)), (9, .pointer (some ⟨gd, 0, none⟩)), (10, .int .u64 many), (13, .pointer (some ⟨gp, 0, none⟩)), (14, .slice (some ⟨go, 0, none⟩) many many), (65, .int .u64 np), (66, .int .u64 i)] w10 by
   generalize hx : li.getD u 0 = x at *
   have c0 : w9.cell? ⟨gp, 1, none⟩ = some (.slice aP D.length cP) := Qah (hH2.at 3 rfl) (show (Qaq none 0 0 aP D.length cP)[1]? = some _ from rfl)
   simp only [vcT3, Qau, List.filterMap_cons, List.filterMap_nil, List.getElem?_cons_succ, List.getElem?_cons_zero, Option.map_some];refine Qs ?_
   simp only [Qbu]
   refine Qs ?_
   refine And.intro ?_ ?_
   ·
    refine ⟨_, c0, ?_⟩
    (try simp only [Qbu])
    refine MemK_call Tryz.call81 ?_;refine Qs ?_;refine CallK.mk hmd ?_
    rintro v w10 ⟨hH3, rfl⟩
    (try simp only [Qbu])
    refine Qbg hH3 (Qas [x]) (xs := [.tmp 86]) Tryz.underlying36 sz3 rfl rfl rfl (by omega) ?_;refine Qs ?_;refine ⟨rfl, by simp [Value.cells], fun g w4 hH4 => ?_⟩;(try refine Qs ?_)
    (try simp only [Qbu])
    refine Qai ?_;refine Qs ?_;refine Qb8 (zs := #[.int .i64 0]) (bytes := 8) hH4 3 rfl Tryz.underlying36 (by kernel_rfl) rfl ⟨rfl, Qaz (hH4.at 0 rfl), 3, Tryz.underlying36⟩ (Qdy _) (fun h => by omega) fun a' cap' w12 hc' hH5 => ?_;simp only [List.set_cons_succ, List.set_cons_zero] at hH5;skip;(try simp only [Qbu]);skip;refine Qac ?_;refine Qs ?_;refine Qad hH5 4 (vs := [.slice a' (D.length + 1) cap']) rfl rfl (by kernel_rfl) (by simp [Qaq]) (by simp [Value.oneCell']) fun w13 hH6 => ?_;simp only [List.set_cons_succ, List.set_cons_zero] at hH6;skip;(try simp only [Qbu]);skip;refine out a' cap' w13 ?_;rw [Qcn, List.length_append];exact hH6.sub (List.sublist_cons_self _ _)
   ·
    refine MemK_call Tryz.call81 ?_;refine Qs ?_;refine CallK.mk hmd ?_
    rintro v w10 ⟨hH3, rfl⟩
    have c1 : w10.cell? ⟨gp, 1, none⟩ = some (.slice aP D.length cP) := Qah (hH3.at 3 rfl) (show (Qaq none 0 0 aP D.length cP)[1]? = some _ from rfl)
    (try simp only [Qbu])
    refine Qs ?_
    refine And.intro ?_ ?_
    ·
     refine ⟨_, c1, ?_⟩
     (try simp only [Qbu])
     refine Qbg hH3 (Qas [x]) (xs := [.tmp 86]) Tryz.underlying36 sz3 rfl rfl rfl (by omega) ?_;refine Qs ?_;refine ⟨rfl, by simp [Value.cells], fun g w4 hH4 => ?_⟩;(try refine Qs ?_)
     (try simp only [Qbu])
     refine Qai ?_;refine Qs ?_;refine Qb8 (zs := #[.int .i64 0]) (bytes := 8) hH4 3 rfl Tryz.underlying36 (by kernel_rfl) rfl ⟨rfl, Qaz (hH4.at 0 rfl), 3, Tryz.underlying36⟩ (Qdy _) (fun h => by omega) fun a' cap' w12 hc' hH5 => ?_;simp only [List.set_cons_succ, List.set_cons_zero] at hH5;skip;(try simp only [Qbu]);skip;refine Qac ?_;refine Qs ?_;refine Qad hH5 4 (vs := [.slice a' (D.length + 1) cap']) rfl rfl (by kernel_rfl) (by simp [Qaq]) (by simp [Value.oneCell']) fun w13 hH6 => ?_;simp only [List.set_cons_succ, List.set_cons_zero] at hH6;skip;(try simp only [Qbu]);skip;refine out a' cap' w13 ?_;rw [Qcn, List.length_append];exact hH6.sub (List.sublist_cons_self _ _)
    ·
     refine Qbg hH3 (Qas [x]) (xs := [.tmp 86]) Tryz.underlying36 sz3 rfl rfl rfl (by omega) ?_;refine Qs ?_;refine ⟨rfl, by simp [Value.cells], fun g w4 hH4 => ?_⟩;(try refine Qs ?_)
     have c2 : w4.cell? ⟨gp, 1, none⟩ = some (.slice aP D.length cP) := Qah (hH4.at 4 rfl) (show (Qaq none 0 0 aP D.length cP)[1]? = some _ from rfl)
     (try simp only [Qbu])
     refine Qs ?_
     refine ⟨_, c2, ?_⟩
     (try simp only [Qbu])
     refine Qai ?_;refine Qs ?_;refine Qb8 (zs := #[.int .i64 0]) (bytes := 8) hH4 3 rfl Tryz.underlying36 (by kernel_rfl) rfl ⟨rfl, Qaz (hH4.at 0 rfl), 3, Tryz.underlying36⟩ (Qdy _) (fun h => by omega) fun a' cap' w12 hc' hH5 => ?_;simp only [List.set_cons_succ, List.set_cons_zero] at hH5;skip;(try simp only [Qbu]);skip;refine Qac ?_;refine Qs ?_;refine Qad hH5 4 (vs := [.slice a' (D.length + 1) cap']) rfl rfl (by kernel_rfl) (by simp [Qaq]) (by simp [Value.oneCell']) fun w13 hH6 => ?_;simp only [List.set_cons_succ, List.set_cons_zero] at hH6;skip;(try simp only [Qbu]);skip;refine out a' cap' w13 ?_;rw [Qcn, List.length_append];exact hH6.sub (List.sublist_cons_self _ _)
  intro a' c' w10 hH3
  clear hH2 hmd
  apply hK;clear hK
  refine Qam ?_
  refine VS [0, 2, 6, 9, 10, 13, 14, 65, 66] ?_
  refine Qab ?_
  refine Qs ?_
  rw [show (((i : Int) + 1) % 18446744073709551616) = ((i + 1 : Nat) : Int) by omega]
  refine ⟨np - (i + 1), by omega, i + 1, at2 + u + 1, c', a', Qcm li u, D ++ [li.getD u 0], rfl, hH3, by omega, by simp [hDl], by omega, ?_, by omega, rfl⟩
  rw [<- hrp, show np - (i + 1) = k by omega]
  cases ptGo (bytesB s) many (Qcm li u) k (at2 + u + 1) with
  | error e => rfl
  | ok y => simp
 have hi2 : i = np := by omega
 rw [hi2, Nat.sub_self, ptGo] at hrp
 rw [hi2] at hDl
 simp only [List.append_nil] at hrp
 clear h hi hi2
 subst hrp
 obtain ⟨hp1, hp2, hp3⟩ := hpok _ rfl
 simp only at hres
 clear hpok hperr hlil
 refine Qag rfl ?_
 refine VQ [0, 1, 2, 6, 10, 13] fun K hK => ?_
 refine MemK_call Tryz.call100 ?_;refine Qs ?_;refine CallK.mk (Qht gd gs at2 s w7 (hH.at 1 rfl)) ?_
 rintro v w8 ⟨rfl, rfl⟩
 apply hK;clear hK
 refine VS [0, 1, 2, 6, 13, 93, 94] ?_
 have htok := fun q => Qj9 (bits := bytesB s) (n := n) many at2 q (by omega)
 have hterr := fun e => Qg3 (bits := bytesB s) (n := n) many at2 e
 generalize htt : ttGo (bytesB s) n many at2 = rt at *
 refine Qaf ?_
 refine Qae [0, 1, 2, 6, 13, 93, 94] (fun m e w' => ∃ (t at3 cT : Nat) (aT : Option Addr) (us : List (Option Addr × Nat)) (T : List (List Nat)), Is e [(0, Str s), (1, .int .i64 at3), (2, .int .i64 n), (6, .pointer (some ⟨gr, 0, none⟩)), (13, .pointer (some ⟨gp, 0, none⟩)), (93, .int .u64 many), (94, .int .u64 t)] /\ Heap w [] w' (Res.row 36 1 aT t cT (Qbt us T) :: Res.row 3 1 aP np cP (Qas D) :: Res.blk gp 65 (Qaq aT t cT aP np cP) :: Res.blk gr 65 (Qaq none 0 0 none 0 0) :: Qhy us T) /\ us.length = t /\ T.length = t /\ at3 <= 8 * s.length /\ (match ttGo (bytesB s) n (many - t) at3 with | .error e => .error e | .ok q => .ok (T ++ q.1, q.2)) = rt /\ t <= many /\ m = many - t) many ?_ ?_
 ·
  refine Qs ?_
  refine ⟨0, at2, 0, none, [], [], rfl, ?_, rfl, rfl, hat, ?_, by omega, rfl⟩
  ·
   have h7 := (hH.sub (.cons _ (.cons _ (.refl _)))).nilRow 36 1
   rw [hDl] at h7
   exact h7
  ·
   rw [Nat.sub_zero, htt]
   cases rt <;> rfl
 clear hH htt
 rintro m e w9 ⟨t, at3, cT, aT, us, T, rfl, hH, hus, hTl, hat3, hrt, ht, rfl⟩
 refine VS [0, 1, 2, 6, 13, 93, 94, 95] ?_
 (repeat refine Qay ?_)
 refine VD (fun h => ?_) (fun h => ?_)
 ·
  obtain ⟨k, hk⟩ : ∃ k, many - t = k + 1 := ⟨many - t - 1, by omega⟩
  rw [hk, ttGo] at hrt
  have hdt := Qik s at3 n hat3 hs (by omega) w9
  have hdok := fun q => Qev (bits := bytesB s) (at_ := at3) (n := n) (q := q)
  have hderr := fun e => Qd7 (bits := bytesB s) (at_ := at3) (n := n) (e := e)
  generalize Qa3 (bytesB s) at3 n = rd1 at *
  refine VC_skip ?_
  refine VB ?_
  refine VQ [0, 2, 6, 13, 17, 18, 19, 93, 94] fun K hK => ?_
  refine MemK_call Tryz.call102 ?_;refine Qs ?_;refine CallK.mk hdt ?_
  intro v w10 hEx
  cases rd1 with
  | error e =>
   obtain ⟨hHe, rfl⟩ := hEx
   have hne := hderr e rfl
   subst hrt
   subst hres
   have hH2 := hH.call0 hHe
   simp only [List.nil_append] at hH2
   apply hK;clear hK
   refine VS [0, 2, 6, 13, 17, 18, 19, 93, 94, 105] ?_
   (repeat refine Qay ?_)
   refine Qe3 [0, 2, 6, 13, 19, 93, 94] (fun e' w' => Is e' [(0, Str s), (2, .int .i64 n), (6, .pointer (some ⟨gr, 0, none⟩)), (13, .pointer (some ⟨gp, 0, none⟩)), (19, .int .i64 e), (93, .int .u64 many), (94, .int .u64 t)] /\ Is w' w10) ?_ ?_
   ·
    refine Qaa rfl rfl (fun h => by simp at h;exact absurd h hne) (fun h => ?_)
    refine VC_skip ?_
    refine Qab ?_
    refine Qs ?_
    exact ⟨rfl, rfl⟩
   rintro e' w' ⟨rfl, rfl⟩
   refine VS [0, 2, 6, 13, 19, 93, 94, 109] ?_
   refine Qaa rfl rfl (fun h => ?_) (fun h => by simp at h;exact absurd h hne)
   refine VQ [6, 7, 8] fun K hK => ?_
   (refine Qac ?_;refine Qs ?_)
   refine Qad hH2 3 (vs := Qaq none 0 0 none 0 0) rfl rfl (by kernel_rfl) (by simp [Qaq]) (Qa2 _ _ _ _ _ _) fun w5 hH5 => ?_
   simp only [List.set_cons_zero, List.set_cons_succ] at hH5
   apply hK;clear hK
   refine VC_ret (Qbm rfl rfl rfl rfl (Qa5 (hH5.at 3 rfl) (by kernel_rfl) (by kernel_rfl) rfl ?_))
   exact ⟨hH5.sub (by simp), rfl⟩
  | ok q =>
   obtain ⟨aq, cq, hHq, rfl⟩ := hEx
   obtain ⟨q1, q2⟩ := hdok q rfl
   simp only at hrt
   have hH2 := hH.call0 hHq
   simp only [List.singleton_append] at hH2
   clear hH hHq
   have hck := Qd6 q.1 aq cq w10 (Qaz (hH2.at 0 rfl))
   apply hK;clear hK
   refine VS [0, 2, 6, 13, 17, 18, 19, 93, 94, 105] ?_
   (repeat refine Qay ?_)
   refine Qe3 [0, 2, 6, 13, 17, 18, 19, 93, 94] (fun e' w' => Is e' [(0, Str s), (2, .int .i64 n), (6, .pointer (some ⟨gr, 0, none⟩)), (13, .pointer (some ⟨gp, 0, none⟩)), (17, .slice aq q.1.length cq), (18, .int .i64 q.2), (19, .int .i64 (if okLB q.1 = true then 0 else 80)), (93, .int .u64 many), (94, .int .u64 t)] /\ Is w' w10) ?_ ?_
   ·
    refine Qaa rfl rfl (fun h => ?_) (fun h => by simp at h)
    refine VQ [0, 2, 6, 13, 17, 18, 19, 93, 94] fun K hK => ?_
    refine MemK_call Tryz.call103 ?_;refine Qs ?_;refine CallK.mk hck ?_
    rintro v w11 ⟨rfl, rfl⟩
    apply hK;clear hK
    refine Qab ?_
    refine Qs ?_
    exact ⟨rfl, rfl⟩
   rintro e' w' ⟨rfl, rfl⟩
   refine VS [0, 2, 6, 13, 17, 18, 19, 93, 94, 109] ?_
   by_cases hokb : okLB q.1 = true
   ·
    rw [if_pos hokb]
    rw [if_neg (by simp [hokb])] at hrt
    refine Qaa rfl rfl (fun h => by simp at h) (fun h => VC_skip ?_)
    clear h
    have hrR : Qhy (us ++ [(aq, cq)]) (T ++ [q.1]) = Qhy us T ++ [Res.row 3 1 aq q.1.length cq (Qas q.1)] := (Qi9 (by omega) _ _ _).symm
    have hsS : Qbt (us ++ [(aq, cq)]) (T ++ [q.1]) = Qbt us T ++ Qbt [(aq, cq)] [q.1] := by rw [<- Qgt (by omega)];rfl
    refine VQ [0, 2, 6, 13, 18, 93, 94] fun K hK => ?_
    refine ⟨_, Qah (hH2.at 3 rfl) (show (Qaq aT t cT aP np cP)[0]? = some _ from rfl), ?_⟩
    refine Qbg hH2 (Qbt [(aq, cq)] [q.1]) (xs := [.tmp 114]) Tryz.underlying63 sz36 rfl rfl rfl (by omega) ?_
    refine Qs ?_
    refine ⟨rfl, by simp [Value.cells], fun gl w12 hH3 => ?_⟩
    refine Qai ?_
    refine Qs ?_
    refine Qb8 (zs := #[.slice none 0 0]) (bytes := 24) hH3 2 rfl Tryz.underlying63 (by kernel_rfl) rfl ⟨rfl, Qaz (hH3.at 0 rfl), 36, Tryz.underlying63⟩ (Qhw _ _) (fun h => by omega) fun a' cap' w13 hc' hH4 => ?_
    simp only [List.set_cons_succ, List.set_cons_zero] at hH4
    rw [<- hsS] at hH4
    refine Qac ?_
    refine Qs ?_
    refine Qad hH4 4 (vs := [.slice a' (t + 1) cap']) rfl rfl (by kernel_rfl) (by simp [Qaq]) (by simp [Value.oneCell']) fun w14 hH5 => ?_
    simp only [List.set_cons_succ, List.set_cons_zero] at hH5
    have hH6 := (hH5.sub (List.sublist_cons_self _ _)).perm (List.perm_append_singleton _ _).symm
    simp only [List.cons_append] at hH6
    rw [<- hrR] at hH6
    clear hH2 hH3 hH4 hH5
    apply hK;clear hK
    refine VS [0, 1, 2, 6, 13, 93, 94] ?_
    refine Qam ?_
    refine VS [0, 1, 2, 6, 13, 93, 94] ?_
    refine Qab ?_
    refine Qs ?_
    rw [show (((t : Int) + 1) % 18446744073709551616) = ((t + 1 : Nat) : Int) by omega]
    refine ⟨many - (t + 1), by omega, t + 1, q.2, cap', a', us ++ [(aq, cq)], T ++ [q.1], rfl, hH6, by simp [hus], by simp [hTl], by omega, ?_, by omega, rfl⟩
    rw [<- hrt, show many - (t + 1) = k by omega]
    cases ttGo (bytesB s) n k q.2 with
    | error e => rfl
    | ok y => simp
   ·
    have hokf : okLB q.1 = false := by simpa using hokb
    rw [if_neg hokb]
    rw [if_pos hokf] at hrt
    subst hrt
    subst hres
    refine Qaa rfl rfl (fun h => ?_) (fun h => by simp at h)
    refine VQ [6, 7, 8] fun K hK => ?_
    (refine Qac ?_;refine Qs ?_)
    refine Qad hH2 4 (vs := Qaq none 0 0 none 0 0) rfl rfl (by kernel_rfl) (by simp [Qaq]) (Qa2 _ _ _ _ _ _) fun w5 hH5 => ?_
    simp only [List.set_cons_zero, List.set_cons_succ] at hH5
    apply hK;clear hK
    refine VC_ret (Qbm rfl rfl rfl rfl (Qa5 (hH5.at 4 rfl) (by kernel_rfl) (by kernel_rfl) rfl ?_))
    exact ⟨hH5.sub (by simp), rfl⟩
 have ht2 : t = many := by omega
 rw [ht2, Nat.sub_self, ttGo] at hrt
 simp only [List.append_nil] at hrt
 subst hrt
 subst hres
 rw [ht2] at hH hus hTl
 clear h ht ht2
 refine Qag rfl ?_
 refine VQ [6, 7, 8] fun K hK => ?_
 refine ⟨Qaq aT many cT aP np cP, ⟨rfl, Qcc (hH.at 2 rfl)⟩, ?_⟩
 (refine Qac ?_;refine Qs ?_)
 refine Qad hH 3 (vs := Qaq aT many cT aP np cP) rfl rfl (by kernel_rfl) (by simp [Qaq]) (Qa2 _ _ _ _ _ _) fun w10 hH6 => ?_
 simp only [List.set_cons_zero, List.set_cons_succ] at hH6
 apply hK;clear hK
 refine VC_ret (Qbm rfl rfl rfl rfl (Qa5 (hH6.at 3 rfl) (by kernel_rfl) (by kernel_rfl) rfl ?_))
 refine ⟨_, hH6.sub (by simp), Ql7 rfl hTl hDl hus (Qaz (hH6.at 0 rfl)) (Qaz (hH6.at 1 rfl)) (fun i h t h6 h7 => ?_), rfl⟩
 exact Qaz (hH6.at (i + 4) (show _ = some (Res.row 3 1 h.1 t.length h.2 (Qas t)) from Ql3 h6 h7))
set_option maxHeartbeats 4000000
theorem Qgj : ∀ (m : Nat) (r : List Bool) (now k at_ : Nat) (q : List Nat × Nat), r.length <= m -> tdGo r now k at_ = .ok q -> ∀ x ∈ q.1, x <= 1000000
 | _, [], now, k, at_, q, _, h => by
  rw [tdGo] at h
  split at h
  ·
   cases h;simp
  ·
   split at h <;> cases h
 | 0, b :: r, now, k, at_, q, hm, h => by simp at hm
 | m + 1, false :: r, now, k, at_, q, hm, h => by
  rw [tdGo] at h
  split at h
  ·
   cases h;simp
  ·
   split at h
   ·
    cases h
   ·
    rename_i hnow
    split at h
    ·
     cases h
    ·
     rename_i q' hq
     cases h
     have := Qgj m r _ _ _ q' (by simpa using hm) hq
     intro x hx
     rcases List.mem_cons.1 hx with rfl | hx
     ·
      omega
     ·
      exact this x hx
 | m + 1, [true], now, k, at_, q, hm, h => by
  rw [tdGo] at h
  split at h
  ·
   cases h;simp
  ·
   split at h <;> cases h
 | m + 1, true :: d :: r, now, k, at_, q, hm, h => by
  rw [tdGo] at h
  split at h
  ·
   cases h;simp
  ·
   split at h
   ·
    cases h
   ·
    exact Qgj m r _ _ _ q (by simp at hm;omega) h
theorem Qhz {bits : List Bool} {at_ n : Nat} {q : List Nat × Nat} (h : Qa3 bits at_ n = .ok q) : ∀ x ∈ q.1, x <= 1000000 := by
 unfold Qa3 at h
 split at h
 ·
  cases h
 ·
  exact Qgj _ _ _ _ _ _ (Nat.le_refl _) h
theorem Qoa (v : Value) (T : List (List Nat)) (P : List Nat) (hm : mayP T P) (w : World) (hp : PlanAt w v T P) : Does Tryz.prog 112 #[v] w fun x w' => Heap w [] w' [] /\ x = .bool true := by
 obtain ⟨ta, tc, pa, pc, hs, rfl, hsl, hrT, hrP, hrt⟩ := hp
 obtain ⟨m1, m2, m3, m4, m5, m6⟩ := hm
 obtain ⟨qt, rfl⟩ := Qbe hrT (by omega)
 obtain ⟨qp, rfl⟩ := Qbe hrP (by omega)
 have hen : #[Value.agg #[.slice (some qt) T.length tc, .slice (some qp) P.length pc]] = [Value.agg (Qaq (some qt) T.length tc (some qp) P.length pc).toArray].toArray := rfl
 rw [hen]
 refine Qc7 83 Tryz.func112 rfl rfl (of_decide_eq_true rfl) ?_
 simp only [Env.ofArgs]
 generalize hnt : T.length = nt at *
 generalize hnp : P.length = np at *
 refine VQ [1] fun K hK => ?_
 refine Qc0 ?_
 refine Qs ?_
 have hH := (Heap.start w).box 65 (Qaq (some qt) nt tc (some qp) np pc)
 generalize w.alloc (Obj.cells (Qaq (some qt) nt tc (some qp) np pc).toArray 65) = w1 at *
 generalize w.heap.size = gp at *
 have c0 : w1.cell? ⟨gp, 0, none⟩ = some (.slice (some qt) nt tc) := Qah (hH.at 0 rfl) rfl
 have c1 : w1.cell? ⟨gp, 1, none⟩ = some (.slice (some qp) np pc) := Qah (hH.at 0 rfl) rfl
 apply hK;clear hK
 refine VQ [1, 27] fun K hK => ?_
 suffices out : ∀ b : Bool, (b = true ↔ False) -> K [(1, .pointer (some ⟨gp, 0, none⟩)), (27, .bool b)] w1 by
  refine ⟨_, c0, ?_⟩
  (try refine Qs ?_)
  refine ⟨fun _ => ⟨_, c0, ?_⟩, fun h2 => absurd h2 (by omega)⟩
  (try refine Qs ?_)
  refine ⟨fun _ => ⟨_, c1, ?_⟩, fun h2 => absurd h2 (by omega)⟩
  (try refine Qs ?_)
  refine ⟨fun _ => ⟨_, c1, ?_⟩, fun h2 => absurd h2 (by omega)⟩
  (try refine Qs ?_)
  exact out _ (by simp;omega)
 intro b hb
 apply hK;clear hK
 refine Qaa rfl rfl (fun h => (hb.1 h).elim) (fun h => VC_skip ?_)
 clear hb h
 have hT0 : T[0]? = some (T.getD 0 []) := by rw [List.getD_eq_getElem?_getD, List.getElem?_eq_getElem (by omega)];rfl
 obtain ⟨h0, hh0⟩ : ∃ h0, hs[0]? = some h0 := ⟨_, List.getElem?_eq_getElem (by omega)⟩
 have hc0 := (hH.rs' hrT).2.2 qt rfl 0 _ (Qbk hh0 hT0)
 have hn3 : 3 <= (T.getD 0 []).length := (m5 _ (List.mem_of_getElem? hT0)).2.1
 generalize T.getD 0 [] = t0 at *
 refine VQ [1, 3] fun K hK => ?_
 refine ⟨_, c0, ?_⟩
 (try refine Qs ?_)
 refine ⟨by omega, _, hc0, ?_⟩
 (try refine Qs ?_)
 apply hK;clear hK
 refine VS [1, 3, 4] ?_
 refine Qaf ?_
 refine Qae [1, 3, 4] (fun m e w' => ∃ (i : Nat), Is e [(1, .pointer (some ⟨gp, 0, none⟩)), (3, .int .i64 t0.length), (4, .int .i64 i)] /\ Is w' w1 /\ i <= nt /\ m = nt - i) nt ?_ ?_
 ·
  refine Qs ?_
  exact ⟨0, rfl, rfl, by omega, rfl⟩
 rintro m e w2 ⟨i, rfl, rfl, hi, rfl⟩
 refine VQ [1, 3, 4, 37] fun K hK => ?_
 refine ⟨_, c0, ?_⟩
 (try refine Qs ?_)
 (repeat refine Qo ?_);apply hK;clear hK
 refine VD (fun h => ?_) (fun h => ?_)
 ·
  have hTi : T[i]? = some (T.getD i []) := by rw [List.getD_eq_getElem?_getD, List.getElem?_eq_getElem (by omega)];rfl
  obtain ⟨hh, hhi⟩ : ∃ hh, hs[i]? = some hh := ⟨_, List.getElem?_eq_getElem (by omega)⟩
  have hci := (hH.rs' hrT).2.2 qt rfl i _ (Qbk hhi hTi)
  have hrt2 := hH.rs' (hrt i hh _ hhi hTi)
  obtain ⟨e1, e2, e3⟩ := m5 _ (List.mem_of_getElem? hTi)
  have hck := Qhs (T.getD i []) (by have := e3.2.1;omega) (fun x hx => by have := e3.2.2.1 x hx;omega) hh.1 hh.2 w2 hrt2
  rw [if_pos (Qg0.2 e3)] at hck
  generalize T.getD i [] = t at *
  refine VC_skip ?_
  refine VB ?_
  refine VQ [1, 3, 4, 56] fun K hK => ?_
  refine ⟨_, c0, ?_⟩
  (try refine Qs ?_)
  refine ⟨⟨by omega, by omega⟩, _, hci, ?_⟩
  (try refine Qs ?_)
  refine ⟨fun _ => ⟨_, c0, ?_⟩, fun h2 => by omega⟩
  (try refine Qs ?_)
  refine ⟨⟨by omega, by omega⟩, _, hci, ?_⟩
  (try refine Qs ?_)
  refine MemK_call Tryz.call111 ?_;refine Qs ?_;refine CallK.mk hck ?_
  rintro v w3 ⟨rfl, rfl⟩
  (try refine Qs ?_)
  apply hK;clear hK
  refine Qaa rfl rfl (fun h => by simp at h) (fun h => VC_skip ?_)
  refine Qam ?_
  refine VS [1, 3, 4] ?_
  refine Qab ?_
  refine Qs ?_
  exact ⟨nt - (i + 1), by omega, i + 1, rfl, rfl, by omega, rfl⟩
 refine Qag rfl ?_
 refine VS [1, 3, 5] ?_
 refine Qaf ?_
 refine Qae [1, 3, 5] (fun m e w' => ∃ (i : Nat), Is e [(1, .pointer (some ⟨gp, 0, none⟩)), (3, .int .i64 t0.length), (5, .int .i64 i)] /\ Is w' w2 /\ i <= np /\ m = np - i) np ?_ ?_
 ·
  refine Qs ?_
  exact ⟨0, rfl, rfl, by omega, rfl⟩
 clear h
 rintro m e w3 ⟨j, rfl, rfl, hj, rfl⟩
 refine VQ [1, 3, 5, 61] fun K hK => ?_
 refine ⟨_, c1, ?_⟩
 (try refine Qs ?_)
 (repeat refine Qo ?_);apply hK;clear hK
 refine VD (fun h => ?_) (fun h => ?_)
 ·
  have hcell := Qea (hH.rs' hrP) (i := j) (by omega)
  have hlt := m6 _ (Qbl 0 (l := P) (i := j) (by omega))
  generalize P.getD j 0 = x at *
  refine VC_skip ?_
  refine VB ?_
  refine Vq [1, 3, 5, 80] fun K hK => ?_
  refine ⟨_, c1, ?_⟩
  (try refine Qs ?_)
  refine ⟨⟨by omega, by omega⟩, _, hcell, ?_⟩
  (try refine Qs ?_)
  refine ⟨fun _ => ⟨_, c1, ?_⟩, fun h2 => absurd h2 (by omega)⟩
  (try refine Qs ?_)
  refine ⟨⟨by omega, by omega⟩, _, hcell, _, c0, ?_⟩
  (try refine Qs ?_)
  rw [decide_eq_false (show ¬ ((nt : Int) <= x) by omega)]
  apply hK;clear hK
  refine Qaa rfl rfl (fun h => by simp at h) (fun h => VC_skip ?_)
  refine Qam ?_
  refine VS [1, 3, 5] ?_
  refine Qab ?_
  refine Qs ?_
  exact ⟨np - (j + 1), by omega, j + 1, rfl, rfl, by omega, rfl⟩
 ·
  refine Qag rfl ?_
  refine VS [2] ?_
  exact VC_ret (VX_ret1 rfl rfl ⟨hH.sub (by simp), by rw [decide_eq_true (by omega)]⟩)
set_option maxHeartbeats 4000000
theorem Qin (l : List Bool) (a : Option Addr) (c at_ n : Nat) (ha : at_ <= l.length) (hl : l.length <= 1000000000000) (hn : 3 <= n /\ n <= 258) (w : World) (hs : SL w a l.length c (Qal (bI l))) :
  Does Tryz.prog 52 #[.slice a l.length c, .int .i64 at_, .int .i64 n] w (Qvm (Qbr l at_ n) w) := by
 generalize hres : Qbr l at_ n = res
 unfold Qbr at hres
 have hr := hs.1
 have ht1 := Qca l a c at_ 3 (by omega) ha hl w hs
 refine En [.slice a l.length c, .int .i64 at_, .int .i64 n] 117 Tryz.func52 ?_
 refine VQ [0, 1, 2, 6] fun K hK => ?_
 refine Qav (.agg #[.slice none 0 0, .slice none 0 0]) (by kernel_rfl) ?_
 refine Qs ?_
 have hH := (Heap.start w).box 65 (Qaq none 0 0 none 0 0)
 have hpl : [Value.slice none 0 0, Value.slice none 0 0] = Qaq none 0 0 none 0 0 := rfl
 rw [hpl]
 generalize w.alloc (Obj.cells (Qaq none 0 0 none 0 0).toArray 65) = w1 at *
 generalize w.heap.size = gr at *
 apply hK;clear hK
 have hs1 : SL w1 a l.length c (Qal (bI l)) := ⟨hH.rs' hr, hs.2⟩
 refine VQ [0, 1, 2, 6, 33] fun K hK => ?_
 suffices out : ∀ b : Bool, (b = true ↔ False) -> K [(0, .slice a l.length c), (1, .int .i64 at_), (2, .int .i64 n), (6, .pointer (some ⟨gr, 0, none⟩)), (33, .bool b)] w1 by (repeat' (first | exact out _ _ (by first | omega | (simp;done) | (simp;omega)) | exact out _ (by first | omega | (simp;done) | (simp;omega)) | refine ⟨fun _ => ?_, fun _ => ?_⟩ | refine Qo ?_))
 intro b hb
 apply hK;clear hK
 refine Qaa rfl rfl (fun h => (hb.1 h).elim) (fun h => VC_skip ?_)
 clear hb h ht1
 refine VQ [0, 1, 2, 6, 9, 10] fun K hK => ?_
 refine MemK_call Tryz.call71 ?_;refine Qs ?_;refine CallK.mk (Qca l a c at_ 3 (by omega) ha hl w1 hs1) ?_
 rintro v w3 ⟨rfl, rfl⟩
 by_cases h1 : l.length < at_ + 3
 ·
  rw [Qby h1] at hres ⊢
  rw [if_pos (by simp)] at hres
  subst hres
  (try refine Qs ?_)
  apply hK;clear hK
  refine VS [0, 1, 2, 6, 9, 10, 42] ?_
  refine Qaa rfl rfl (fun h => ?_) (fun h => by simp at h)
  refine VQ [6, 7, 8] fun K hK => ?_
  (refine Qac ?_;refine Qs ?_)
  refine Qad hH 0 (vs := Qaq none 0 0 none 0 0) rfl rfl (by kernel_rfl) (by simp [Qaq]) (Qa2 _ _ _ _ _ _) fun w4 hH3 => ?_
  simp only [List.set_cons_zero, List.set_cons_succ] at hH3
  (try refine Qs ?_)
  apply hK;clear hK
  refine VC_ret (Qbm rfl rfl rfl rfl (Qa5 (hH3.at 0 rfl) (by kernel_rfl) (by kernel_rfl) rfl ?_))
  exact ⟨hH3.sub (by simp), rfl⟩
 rw [Qbn (by omega)] at hres ⊢
 rw [if_neg (by simp)] at hres
 simp only at hres ⊢
 have hm7 := Qba ((l.drop at_).take 3)
 have hfl : ((l.drop at_).take 3).length = 3 := by simp;omega
 rw [hfl] at hm7
 generalize numB ((l.drop at_).take 3) = many at *
 (try refine Qs ?_)
 apply hK;clear hK
 refine VS [0, 1, 2, 6, 9, 10, 42] ?_
 refine Qaa rfl rfl (fun h => by simp at h) (fun h => VC_skip ?_)
 clear h
 refine VQ [0, 1, 2, 6, 9, 50] fun K hK => ?_
 suffices out : ∀ b : Bool, (b = true ↔ (many < 2 ∨ 6 < many)) -> K [(0, .slice a l.length c), (1, .int .i64 at_), (2, .int .i64 n), (6, .pointer (some ⟨gr, 0, none⟩)), (9, .int .u64 many), (50, .bool b)] w3 by (repeat' (first | exact out _ _ (by first | omega | (simp;done) | (simp;omega)) | exact out _ (by first | omega | (simp;done) | (simp;omega)) | refine ⟨fun _ => ?_, fun _ => ?_⟩ | refine Qo ?_))
 intro b hb
 apply hK;clear hK
 refine Vi (fun h => ?_) (fun h => ?_)
 ·
  rw [if_pos (hb.1 h)] at hres
  subst hres
  refine VQ [6, 7, 8] fun K hK => ?_
  (refine Qac ?_;refine Qs ?_)
  refine Qad hH 0 (vs := Qaq none 0 0 none 0 0) rfl rfl (by kernel_rfl) (by simp [Qaq]) (Qa2 _ _ _ _ _ _) fun w4 hH4 => ?_
  simp only [List.set_cons_zero, List.set_cons_succ] at hH4
  (try refine Qs ?_)
  apply hK;clear hK
  refine VC_ret (Qbm rfl rfl rfl rfl (Qa5 (hH4.at 0 rfl) (by kernel_rfl) (by kernel_rfl) rfl ?_))
  exact ⟨hH4.sub (by simp), rfl⟩
 have hb2 : ¬ (many < 2 ∨ 6 < many) := fun hc => by rw [hb.2 hc] at h;cases h
 rw [if_neg hb2] at hres
 clear hb h
 refine VC_skip ?_
 have ht2 := Qca l a c (at_ + 3) 15 (by omega) (by omega) hl w3 hs1
 refine VQ [0, 1, 2, 6, 9, 10, 11] fun K hK => ?_
 (repeat first | refine Qo ?_ | refine Qp ?_)
 rw [show ((at_ : Int) + 3) = ((at_ + 3 : Nat) : Int) by push_cast;rfl]
 refine MemK_call Tryz.call71 ?_;refine Qs ?_;refine CallK.mk ht2 ?_
 rintro v w4 ⟨rfl, rfl⟩
 by_cases h2 : l.length < at_ + 3 + 15
 ·
  rw [Qby h2] at hres ⊢
  rw [if_pos (by simp)] at hres
  subst hres
  (try refine Qs ?_)
  apply hK;clear hK
  refine VS [0, 1, 2, 6, 9, 10, 11, 60] ?_
  refine Qaa rfl rfl (fun h => ?_) (fun h => by simp at h)
  refine VQ [6, 7, 8] fun K hK => ?_
  (refine Qac ?_;refine Qs ?_)
  refine Qad hH 0 (vs := Qaq none 0 0 none 0 0) rfl rfl (by kernel_rfl) (by simp [Qaq]) (Qa2 _ _ _ _ _ _) fun w4 hH4 => ?_
  simp only [List.set_cons_zero, List.set_cons_succ] at hH4
  (try refine Qs ?_)
  apply hK;clear hK
  refine VC_ret (Qbm rfl rfl rfl rfl (Qa5 (hH4.at 0 rfl) (by kernel_rfl) (by kernel_rfl) rfl ?_))
  exact ⟨hH4.sub (by simp), rfl⟩
 rw [Qbn (by omega)] at hres ⊢
 rw [if_neg (by simp)] at hres
 simp only at hres ⊢
 have hm7b := Qba ((l.drop (at_ + 3)).take 15)
 have hflb : ((l.drop (at_ + 3)).take 15).length = 15 := by simp;omega
 rw [hflb] at hm7b
 generalize numB ((l.drop (at_ + 3)).take 15) = np at *
 (try refine Qs ?_)
 apply hK;clear hK
 refine VS [0, 1, 2, 6, 9, 10, 11, 60] ?_
 refine Qaa rfl rfl (fun h => by simp at h) (fun h => VC_skip ?_)
 clear h
 refine VS [0, 1, 2, 6, 9, 11, 64] ?_
 refine VD (fun h => ?_) (fun h => VC_skip ?_)
 ·
  rw [if_pos (by omega)] at hres
  subst hres
  refine VQ [6, 7, 8] fun K hK => ?_
  (refine Qac ?_;refine Qs ?_)
  refine Qad hH 0 (vs := Qaq none 0 0 none 0 0) rfl rfl (by kernel_rfl) (by simp [Qaq]) (Qa2 _ _ _ _ _ _) fun w5 hH5 => ?_
  simp only [List.set_cons_zero, List.set_cons_succ] at hH5
  (try refine Qs ?_)
  apply hK;clear hK
  refine VC_ret (Qbm rfl rfl rfl rfl (Qa5 (hH5.at 0 rfl) (by kernel_rfl) (by kernel_rfl) rfl ?_))
  exact ⟨hH5.sub (by simp), rfl⟩
 rw [if_neg (by omega)] at hres
 have hat2 : at_ + 18 <= l.length := by omega
 have hpk := Ql2 l (at_ + 18) many np hat2 hl (by omega) (by omega) a c w4 hs1.1
 have hpok := fun q => Qj8 (bits := l) (many := many) (by omega) np (List.range many) (at_ + 18) q (by simp) (by omega)
 have hperr := fun e => Qg2 (bits := l) (many := many) np (List.range many) (at_ + 18) e
 generalize ptGo l many (List.range many) np (at_ + 18) = rp at *
 clear h
 refine VQ [0, 1, 2, 6, 9, 10, 12] fun K hK => ?_
 (repeat first | refine Qo ?_ | refine Qp ?_)
 (try refine Qs ?_)
 rw [show ((at_ : Int) + 18) = ((at_ + 18 : Nat) : Int) by push_cast;rfl]
 refine MemK_call Tryz.call109 ?_;refine Qs ?_;refine CallK.mk hpk ?_
 intro v w5 hEx
 cases rp with
 | error e =>
  obtain ⟨hHe, rfl⟩ := hEx
  have hne := hperr e rfl
  subst hres
  have hH2 := hH.call0 hHe
  simp only [List.nil_append] at hH2
  (try refine Qs ?_)
  apply hK;clear hK
  refine VS [0, 1, 2, 6, 9, 10, 12, 79] ?_
  refine Qaa rfl rfl (fun h => ?_) (fun h => by simp at h;exact absurd h hne)
  refine VQ [6, 7, 8] fun K hK => ?_
  (refine Qac ?_;refine Qs ?_)
  refine Qad hH2 0 (vs := Qaq none 0 0 none 0 0) rfl rfl (by kernel_rfl) (by simp [Qaq]) (Qa2 _ _ _ _ _ _) fun w5 hH5 => ?_
  simp only [List.set_cons_zero, List.set_cons_succ] at hH5
  (try refine Qs ?_)
  apply hK;clear hK
  refine VC_ret (Qbm rfl rfl rfl rfl (Qa5 (hH5.at 0 rfl) (by kernel_rfl) (by kernel_rfl) rfl ?_))
  exact ⟨hH5.sub (by simp), rfl⟩
 | ok D =>
 obtain ⟨aP, cP, hHp, rfl⟩ := hEx
 obtain ⟨hp1, hp2, hp3⟩ := hpok D rfl
 obtain ⟨D, at2⟩ := D
 simp only at hp1 hp2 hp3 hHp hres ⊢
 have hH2 := hH.call0 hHp
 simp only [List.singleton_append] at hH2
 clear hpok hperr hpk hHp
 (try refine Qs ?_)
 apply hK;clear hK
 refine VS [0, 1, 2, 6, 9, 10, 12, 79] ?_
 refine Qaa rfl rfl (fun h => by simp at h) (fun h => VC_skip ?_)
 clear h
 refine VQ [0, 1, 2, 6, 9, 13] fun K hK => ?_
 refine Qav (.agg #[.slice none 0 0, .slice none 0 0]) (by kernel_rfl) ?_
 refine Qs ?_
 have hH3 := hH2.box 65 (Qaq none 0 0 none 0 0)
 rw [hpl]
 generalize w5.alloc (Obj.cells (Qaq none 0 0 none 0 0).toArray 65) = w6 at *
 generalize w5.heap.size = gp at *
 (try refine Qs ?_)
 (refine Qac ?_;refine Qs ?_)
 refine Qad hH3 0 (vs := Qaq none 0 0 aP D.length cP) rfl rfl (by kernel_rfl) (by simp [Qaq]) (Qa2 _ _ _ _ _ _) fun w7 hH4 => ?_
 have hH4 : Heap w [] w7 [Res.blk gp 65 (Qaq none 0 0 aP D.length cP), Res.row 3 1 aP D.length cP (Qas D), Res.blk gr 65 (Qaq none 0 0 none 0 0)] := hH4
 rw [hp1] at hH4
 clear hH2 hH3 hH
 (try refine Qs ?_)
 apply hK;clear hK
 refine VS [0, 1, 2, 6, 9, 13, 14] ?_
 have htok := fun q => Qj9 (bits := l) (n := n) many at2 q (by omega)
 have hterr := fun e => Qg3 (bits := l) (n := n) many at2 e
 generalize htt : ttGo l n many at2 = rt at *
 refine Qaf ?_
 refine Qae [0, 1, 2, 6, 9, 13, 14] (fun m e w' => ∃ (t at3 cT : Nat) (aT : Option Addr) (us : List (Option Addr × Nat)) (T : List (List Nat)), Is e [(0, .slice a l.length c), (1, .int .i64 at3), (2, .int .i64 n), (6, .pointer (some ⟨gr, 0, none⟩)), (9, .int .u64 many), (13, .pointer (some ⟨gp, 0, none⟩)), (14, .int .i64 t)] /\ Heap w [] w' (Res.row 36 1 aT t cT (Qbt us T) :: Res.row 3 1 aP np cP (Qas D) :: Res.blk gp 65 (Qaq aT t cT aP np cP) :: Res.blk gr 65 (Qaq none 0 0 none 0 0) :: Qhy us T) /\ us.length = t /\ T.length = t /\ at3 <= l.length /\ (match ttGo l n (many - t) at3 with | .error e => .error e | .ok q => .ok (T ++ q.1, q.2)) = rt /\ t <= many /\ m = many - t) many ?_ ?_
 ·
  refine Qs ?_
  refine ⟨0, at2, 0, none, [], [], rfl, (hH4.perm (.swap _ _ _)).nilRow 36 1, rfl, rfl, hp2, ?_, by omega, rfl⟩
  rw [Nat.sub_zero, htt]
  cases rt <;> rfl
 clear hH4 htt
 rintro m e w9 ⟨t, at3, cT, aT, us, T, rfl, hH, hus, hTl, hat3, hrt, ht, rfl⟩
 refine VQ [0, 1, 2, 6, 9, 13, 14, 87] fun K hK => ?_
 (repeat first | refine Qo ?_ | refine Qp ?_)
 (repeat refine Qo ?_);apply hK;clear hK
 refine VD (fun h => ?_) (fun h => ?_)
 ·
  obtain ⟨k, hk⟩ : ∃ k, many - t = k + 1 := ⟨many - t - 1, by omega⟩
  rw [hk, ttGo] at hrt
  have hdt := Qn1 l a c at3 n hat3 hl (by omega) w9 ⟨hH.rs' hr, hs.2⟩
  have hdok := fun q => Qev (bits := l) (at_ := at3) (n := n) (q := q)
  have hderr := fun e => Qd7 (bits := l) (at_ := at3) (n := n) (e := e)
  have hd100 := fun q => Qhz (bits := l) (at_ := at3) (n := n) (q := q)
  generalize Qa3 l at3 n = rd1 at *
  refine VC_skip ?_
  refine VB ?_
  refine VQ [0, 2, 6, 9, 13, 14, 15, 16, 17] fun K hK => ?_
  refine MemK_call Tryz.call110 ?_;refine Qs ?_;refine CallK.mk hdt ?_
  intro v w10 hEx
  cases rd1 with
  | error e =>
   obtain ⟨hHe, rfl⟩ := hEx
   have hne := hderr e rfl
   subst hrt
   subst hres
   have hH2 := hH.call0 hHe
   simp only [List.nil_append] at hH2
   (try refine Qs ?_)
   apply hK;clear hK
   refine VS [0, 2, 6, 9, 13, 14, 15, 16, 17, 99] ?_
   refine Qaa rfl rfl (fun h => ?_) (fun h => by simp at h;exact absurd h hne)
   refine VQ [6, 7, 8] fun K hK => ?_
   (refine Qac ?_;refine Qs ?_)
   refine Qad hH2 3 (vs := Qaq none 0 0 none 0 0) rfl rfl (by kernel_rfl) (by simp [Qaq]) (Qa2 _ _ _ _ _ _) fun w5 hH5 => ?_
   simp only [List.set_cons_zero, List.set_cons_succ] at hH5
   (try refine Qs ?_)
   apply hK;clear hK
   refine VC_ret (Qbm rfl rfl rfl rfl (Qa5 (hH5.at 3 rfl) (by kernel_rfl) (by kernel_rfl) rfl ?_))
   exact ⟨hH5.sub (by simp), rfl⟩
  | ok q =>
   obtain ⟨aq, cq, hHq, rfl⟩ := hEx
   obtain ⟨q1, q2⟩ := hdok q rfl
   have q3 := hd100 q rfl
   simp only at hrt
   have hH2 := hH.call0 hHq
   simp only [List.singleton_append] at hH2
   clear hH hHq
   have hck := Qhs q.1 (by omega) q3 aq cq w10 (Qaz (hH2.at 0 rfl))
   (try refine Qs ?_)
   apply hK;clear hK
   refine VS [0, 2, 6, 9, 13, 14, 15, 16, 17, 99] ?_
   refine Qaa rfl rfl (fun h => by simp at h) (fun h => VC_skip ?_)
   clear h
   refine VQ [0, 2, 6, 9, 13, 14, 15, 16, 17] fun K hK => ?_
   refine MemK_call Tryz.call111 ?_;refine Qs ?_;refine CallK.mk hck ?_
   rintro v w11 ⟨rfl, rfl⟩
   (try refine Qs ?_)
   apply hK;clear hK
   refine VS [0, 2, 6, 9, 13, 14, 15, 16, 17, 105] ?_
   by_cases hokb : okLB q.1 = true
   ·
    rw [if_pos hokb]
    rw [if_neg (by simp [hokb])] at hrt
    refine Qaa rfl rfl (fun h => by simp at h) (fun h => VC_skip ?_)
    clear h
    have hrR : Qhy (us ++ [(aq, cq)]) (T ++ [q.1]) = Qhy us T ++ [Res.row 3 1 aq q.1.length cq (Qas q.1)] := (Qi9 (by omega) _ _ _).symm
    have hsS : Qbt (us ++ [(aq, cq)]) (T ++ [q.1]) = Qbt us T ++ Qbt [(aq, cq)] [q.1] := by rw [<- Qgt (by omega)];rfl
    refine VQ [0, 2, 6, 9, 13, 14, 16] fun K hK => ?_
    refine ⟨_, Qah (hH2.at 3 rfl) (show (Qaq aT t cT aP np cP)[0]? = some _ from rfl), ?_⟩
    (try refine Qs ?_)
    refine Qbg hH2 (Qbt [(aq, cq)] [q.1]) (xs := [.tmp 110]) Tryz.underlying63 sz36 rfl rfl rfl (by omega) ?_
    refine Qs ?_
    refine ⟨rfl, by simp [Value.cells], fun gl w12 hH3 => ?_⟩
    (try refine Qs ?_)
    refine Qai ?_
    refine Qs ?_
    refine Qb8 (zs := #[.slice none 0 0]) (bytes := 24) hH3 2 rfl Tryz.underlying63 (by kernel_rfl) rfl ⟨rfl, Qaz (hH3.at 0 rfl), 36, Tryz.underlying63⟩ (Qhw _ _) (fun h => by omega) fun a' cap' w13 hc' hH4 => ?_
    simp only [List.set_cons_succ, List.set_cons_zero] at hH4
    rw [<- hsS] at hH4
    (try refine Qs ?_)
    (refine Qac ?_;refine Qs ?_)
    refine Qad hH4 4 (vs := [.slice a' (t + 1) cap']) rfl rfl (by kernel_rfl) (by simp [Qaq]) (by simp [Value.oneCell']) fun w14 hH5 => ?_
    simp only [List.set_cons_succ, List.set_cons_zero] at hH5
    have hH6 := (hH5.sub (List.sublist_cons_self _ _)).perm (List.perm_append_singleton _ _).symm
    simp only [List.cons_append] at hH6
    rw [<- hrR] at hH6
    clear hH2 hH3 hH4 hH5
    (try refine Qs ?_)
    apply hK;clear hK
    refine VS [0, 1, 2, 6, 9, 13, 14] ?_
    refine Qam ?_
    refine VS [0, 1, 2, 6, 9, 13, 14] ?_
    refine Qab ?_
    refine Qs ?_
    refine ⟨many - (t + 1), by omega, t + 1, q.2, cap', a', us ++ [(aq, cq)], T ++ [q.1], rfl, hH6, by simp [hus], by simp [hTl], by omega, ?_, by omega, rfl⟩
    rw [<- hrt, show many - (t + 1) = k by omega]
    cases ttGo l n k q.2 with
    | error e => rfl
    | ok y => simp
   ·
    have hokf : okLB q.1 = false := by simpa using hokb
    rw [if_neg hokb]
    rw [if_pos hokf] at hrt
    subst hrt
    subst hres
    refine Qaa rfl rfl (fun h => ?_) (fun h => by simp at h)
    refine VQ [6, 7, 8] fun K hK => ?_
    (refine Qac ?_;refine Qs ?_)
    refine Qad hH2 4 (vs := Qaq none 0 0 none 0 0) rfl rfl (by kernel_rfl) (by simp [Qaq]) (Qa2 _ _ _ _ _ _) fun w5 hH5 => ?_
    simp only [List.set_cons_zero, List.set_cons_succ] at hH5
    (try refine Qs ?_)
    apply hK;clear hK
    refine VC_ret (Qbm rfl rfl rfl rfl (Qa5 (hH5.at 4 rfl) (by kernel_rfl) (by kernel_rfl) rfl ?_))
    exact ⟨hH5.sub (by simp), rfl⟩
 have ht2 : t = many := by omega
 rw [ht2, Nat.sub_self, ttGo] at hrt
 simp only [List.append_nil] at hrt
 subst hrt
 subst hres
 rw [ht2] at hH hus hTl
 clear h ht ht2
 refine Qag rfl ?_
 refine VQ [6, 7, 8] fun K hK => ?_
 refine ⟨Qaq aT many cT aP np cP, ⟨rfl, Qcc (hH.at 2 rfl)⟩, ?_⟩
 (try refine Qs ?_)
 (refine Qac ?_;refine Qs ?_)
 refine Qad hH 3 (vs := Qaq aT many cT aP np cP) rfl rfl (by kernel_rfl) (by simp [Qaq]) (Qa2 _ _ _ _ _ _) fun w10 hH6 => ?_
 simp only [List.set_cons_zero, List.set_cons_succ] at hH6
 (try refine Qs ?_)
 apply hK;clear hK
 refine VC_ret (Qbm rfl rfl rfl rfl (Qa5 (hH6.at 3 rfl) (by kernel_rfl) (by kernel_rfl) rfl ?_))
 refine ⟨_, hH6.sub (by simp), Ql7 rfl hTl hp1 hus (Qaz (hH6.at 0 rfl)) (Qaz (hH6.at 1 rfl)) (fun i h t h6 h7 => ?_), rfl⟩
 exact Qaz (hH6.at (i + 4) (show _ = some (Res.row 3 1 h.1 t.length h.2 (Qas t)) from Ql3 h6 h7))
def sh1 (r : Nat) : Nat := if 2147483648 <= r then (r * 2 % 4294967296) ^^^ 79764919 else r * 2 % 4294967296
def shK : Nat -> Nat -> Nat
 | 0, r => r
 | k + 1, r => sh1 (shK k r)
def tab (i : Nat) : Nat := shK 8 (i * 16777216)
def Qfj (r : Nat) (b : UInt8) : Nat := (r * 256 % 4294967296) ^^^ tab (r / 16777216 ^^^ b.toNat)
def Qb7 (r : Nat) (s : List UInt8) : Nat := s.foldl Qfj r
def crcBzip (s : List UInt8) : Nat := 4294967295 - Qb7 4294967295 s
def Qa9 (l : List Nat) : Nat := l.foldl (fun c x => ((c * 2 % 4294967296) ||| c / 2147483648) ^^^ x) 0
def u32V (l : List Nat) : List Value := l.map fun (n : Nat) => Value.int .u32 (n : Int)
theorem Qf0 (l : List Nat) : (u32V l).length = l.length := by simp [u32V]
theorem Qkb {l : List Nat} {i : Nat} (h : i < l.length) : (u32V l)[i]? = some (.int .u32 ((l.getD i 0 : Nat) : Int)) := by
 simp [u32V, List.getElem?_eq_getElem h, List.getD_eq_getElem?_getD]
theorem Qvn {r : Nat} (h : r < 4294967296) : sh1 r < 4294967296 := by
 unfold sh1
 split
 ·
  exact Nat.xor_lt_two_pow (n := 32) (Nat.mod_lt _ (by decide)) (by decide)
 ·
  exact Nat.mod_lt _ (by decide)
theorem Ql8 {r : Nat} (h : r < 4294967296) : ∀ k, shK k r < 4294967296
 | 0 => h
 | k + 1 => Qvn (Ql8 h k)
theorem Qvo (i : Nat) (h : i < 256) : tab i < 4294967296 := by
 unfold tab
 exact Ql8 (by omega) 8
theorem Qja {r : Nat} (h : r < 4294967296) (b : UInt8) : Qfj r b < 4294967296 := by
 unfold Qfj
 refine Nat.xor_lt_two_pow (n := 32) (Nat.mod_lt _ (by decide)) (Qvo _ ?_)
 have := b.toNat_lt
 exact Nat.xor_lt_two_pow (n := 8) (by omega) (by omega)
theorem Qe0 (s : List UInt8) : ∀ {r : Nat}, r < 4294967296 -> Qb7 r s < 4294967296 := by
 induction s with
 | nil => intro r h;exact h
 | cons b s ih => intro r h;exact ih (Qja h b)
theorem Ql9 (r : Nat) (s : List UInt8) (b : UInt8) : Qb7 r (s ++ [b]) = Qfj (Qb7 r s) b := by simp [Qb7]
def tabs : List Nat := (List.range 256).map tab
theorem Qg4 : tabs.length = 256 := by
 unfold tabs
 rw [List.length_map, List.length_range]
theorem Quq {i : Nat} (h : i < 256) : tabs.getD i 0 = tab i := by
 unfold tabs
 rw [List.getD_eq_getElem?_getD, List.getElem?_map, List.getElem?_range h, Option.map_some, Option.getD_some]
theorem Qyy {r : Nat} (h : r < 4294967296) : r &&& 2147483648 = if 2147483648 <= r then 2147483648 else 0 := by
 rw [show (2147483648 : Nat) = 2 ^ 31 from rfl]
 apply Nat.eq_of_testBit_eq
 intro j
 rw [Nat.testBit_and, Nat.testBit_two_pow]
 by_cases hj : 31 = j
 ·
  subst hj
  rw [Nat.testBit_eq_decide_div_mod_eq]
  by_cases h1 : 2 ^ 31 <= r
  ·
   have : r / 2 ^ 31 % 2 = 1 := by omega
   rw [if_pos h1, this, Nat.testBit_two_pow];rfl
  ·
   have : r / 2 ^ 31 % 2 = 0 := by omega
   rw [if_neg h1, this];simp
 ·
  simp only [hj, decide_false, Bool.and_false]
  split
  ·
   rw [Nat.testBit_two_pow];simp [hj]
  ·
   simp
theorem Qqg (w : World) : Does Tryz.prog 121 #[] w fun v w' => Heap w [] w' [] /\ v = .agg (u32V tabs).toArray := by
 refine En [] 26 Tryz.func121 ?_
 refine VQ [0] fun K hK => ?_
 refine Qav (.agg (u32V (List.replicate 256 0)).toArray) (by kernel_rfl) ?_
 have hH := (Heap.start w).box 162 (u32V (List.replicate 256 0))
 have ecells : (Value.agg (u32V (List.replicate 256 0)).toArray).cells = (u32V (List.replicate 256 0)).toArray := rfl
 rw [ecells]
 generalize w.alloc (Obj.cells (u32V (List.replicate 256 0)).toArray 162) = w1 at *
 generalize w.heap.size = g0 at *
 refine Qs ?_
 apply hK;clear hK
 refine VQ [0, 1] fun K hK => ?_
 refine Qav (.agg (u32V (List.replicate 256 0)).toArray) (by kernel_rfl) ?_
 have hH2 := hH.box 162 (u32V (List.replicate 256 0))
 rw [ecells]
 generalize w1.alloc (Obj.cells (u32V (List.replicate 256 0)).toArray 162) = w2 at *
 generalize w1.heap.size = g1 at *
 refine Qs ?_
 apply hK;clear hK
 clear ecells hH
 refine VS [0, 1, 4] ?_
 refine VB ?_
 refine Qae [0, 1, 4] (fun m e w' => ∃ (i : Nat), Is e [(0, .pointer (some ⟨g0, 0, none⟩)), (1, .pointer (some ⟨g1, 0, none⟩)), (4, .int .i64 i)] /\ Heap w [] w' [Res.blk g1 162 (u32V ((List.range i).map tab ++ List.replicate (256 - i) 0)), Res.blk g0 162 (u32V (List.replicate 256 0))] /\ i <= 256 /\ m = 256 - i) 256 ?_ ?_
 ·
  refine Qs ?_
  exact ⟨0, rfl, hH2, by omega, rfl⟩
 clear hH2
 rintro m e w' ⟨i, rfl, hH, hi, rfl⟩
 refine VS [0, 1, 4, 5] ?_
 (repeat refine Qay ?_)
 refine VD (fun h => ?_) (fun h => ?_)
 ·
  refine VC_skip ?_
  refine VB ?_
  refine VS [0, 1, 2, 4] ?_
  have e24 : (i : Int) % 4294967296 * 2 ^ shN IntKind.u32 24 % 4294967296 = ((shK 0 (i * 16777216) : Nat) : Int) := by
   rw [show shN IntKind.u32 24 = 24 from rfl, shK];omega
  refine VQ [0, 1, 2, 3, 4] fun K hK => ?_
  rw [e24]
  (repeat refine Qo ?_);apply hK;clear hK
  refine VS [0, 1, 2, 3, 4, 10] ?_
  refine VB ?_
  refine Qae [0, 1, 2, 3, 4, 10] (fun m e w2 => ∃ (k : Nat), Is e [(0, .pointer (some ⟨g0, 0, none⟩)), (1, .pointer (some ⟨g1, 0, none⟩)), (2, .int .i64 i), (3, .int .u32 (shK k (i * 16777216) : Nat)), (4, .int .i64 i), (10, .int .i64 k)] /\ Is w2 w' /\ k <= 8 /\ m = 8 - k) 8 ?_ ?_
  ·
   refine Qs ?_
   exact ⟨0, rfl, rfl, by omega, rfl⟩
  rintro m e w2 ⟨k, rfl, rfl, hk, rfl⟩
  refine VS [0, 1, 2, 3, 4, 10, 11] ?_
  (repeat refine Qay ?_)
  refine VD (fun h => ?_) (fun h => ?_)
  ·
   refine VC_skip ?_
   refine VB ?_
   have hr := Ql8 (r := i * 16777216) (by omega) k
   have hsh : shK (k + 1) (i * 16777216) = sh1 (shK k (i * 16777216)) := rfl
   generalize shK k (i * 16777216) = r at *
   have hand := Qyy hr
   refine VQ [0, 1, 2, 3, 4, 10, 14] fun K hK => ?_
   refine ⟨⟨by omega, by omega⟩, ⟨by omega, by omega⟩, ?_⟩
   rw [show Int.toNat 2147483648 = 2147483648 from rfl, hand]
   apply hK;clear hK
   have fin : ∀ q : Nat, q = sh1 r -> selK [0, 1, 2, 3, 4, 10] [(0, .pointer (some ⟨g0, 0, none⟩)), (1, .pointer (some ⟨g1, 0, none⟩)), (2, .int .i64 i), (3, .int .u32 q), (4, .int .i64 i), (10, .int .i64 (k + 1))] fun e => ∃ m, m < 8 - k /\ ∃ (k : Nat), Is e [(0, .pointer (some ⟨g0, 0, none⟩)), (1, .pointer (some ⟨g1, 0, none⟩)), (2, .int .i64 i), (3, .int .u32 (shK k (i * 16777216) : Nat)), (4, .int .i64 i), (10, .int .i64 k)] /\ Is w2 w2 /\ k <= 8 /\ m = 8 - k := by
    intro q hq
    refine Qs ?_
    exact ⟨8 - (k + 1), by omega, k + 1, by rw [hsh, hq];rfl, rfl, by omega, rfl⟩
   by_cases hbig : 2147483648 <= r
   ·
    refine Qaa rfl rfl (fun h => ?_) (fun h => by simp [hbig] at h)
    refine VQ [0, 1, 2, 3, 4, 10] fun K hK => ?_
    have e1 : (r : Int) * 2 ^ shN IntKind.u32 1 % 4294967296 = ((r * 2 % 4294967296 : Nat) : Int) := by
     rw [show shN IntKind.u32 1 = 1 from rfl];omega
    rw [e1]
    refine ⟨by omega, ⟨by omega, by omega⟩, ⟨by omega, by omega⟩, ?_⟩
    apply hK;clear hK
    refine Qam ?_
    refine VS [0, 1, 2, 3, 4, 10] ?_
    refine Qab ?_
    refine fin _ ?_
    rw [sh1, if_pos hbig];rfl
   ·
    refine Qaa rfl rfl (fun h => by simp [hbig] at h) (fun h => ?_)
    refine VQ [0, 1, 2, 3, 4, 10] fun K hK => ?_
    have e1 : (r : Int) * 2 ^ shN IntKind.u32 1 % 4294967296 = ((r * 2 % 4294967296 : Nat) : Int) := by
     rw [show shN IntKind.u32 1 = 1 from rfl];omega
    rw [e1]
    (repeat refine Qo ?_);apply hK;clear hK
    refine Qam ?_
    refine VS [0, 1, 2, 3, 4, 10] ?_
    refine Qab ?_
    refine fin _ ?_
    rw [sh1, if_neg hbig]
  ·
   refine Qag rfl ?_
   have hk8 : k = 8 := by omega
   subst hk8
   refine VQ [0, 1, 4] fun K hK => ?_
   (repeat first | refine Qo ?_ | refine Qp ?_)
   refine Qac ?_
   refine Qs ?_
   refine Qad hH 0 (vs := [.int .u32 (tab i : Nat)]) rfl rfl (by kernel_rfl) (by rw [Qf0];simp;omega) (by simp [Value.oneCell']) fun w6 hH2 => ?_
   have hset : (u32V ((List.range i).map tab ++ List.replicate (256 - i) 0)).take i ++ [Value.int .u32 (tab i : Nat)] ++ (u32V ((List.range i).map tab ++ List.replicate (256 - i) 0)).drop (i + 1) = u32V ((List.range (i + 1)).map tab ++ List.replicate (256 - (i + 1)) 0) := by
    rw [Qc4 _ _ _ (by rw [Qf0];simp;omega)]
    rw [List.range_succ, List.map_append, show 256 - i = (256 - (i + 1)) + 1 by omega, List.replicate_succ]
    simp [u32V, List.set_append_right]
   simp only [List.length_singleton] at hH2
   rw [hset] at hH2
   apply hK;clear hK
   refine Qam ?_
   refine VS [0, 1, 4] ?_
   refine Qab ?_
   refine Qs ?_
   exact ⟨256 - (i + 1), by omega, i + 1, rfl, hH2, by omega, rfl⟩
 ·
  refine Qag rfl ?_
  have hi : i = 256 := by omega
  subst hi
  have e : (List.range 256).map tab ++ List.replicate (256 - 256) 0 = tabs := by simp [tabs]
  rw [e] at hH
  refine VQ [0] fun K hK => ?_
  refine ⟨u32V tabs, ⟨by rw [Qf0, Qg4], Qcc (hH.at 0 rfl)⟩, ?_⟩
  refine Qac ?_
  refine Qs ?_
  have hlen : (u32V tabs).length = 256 := by rw [Qf0, Qg4]
  have hlen0 : (u32V (List.replicate 256 0)).length = 256 := by simp [u32V]
  refine Qad hH 1 (vs := u32V tabs) rfl rfl (by rw [hlen];kernel_rfl) (by rw [hlen, hlen0];omega) (by intro u hu;obtain ⟨n, _, rfl⟩ := List.mem_map.1 hu;rfl) fun w6 hH2 => ?_
  have e2 : (u32V (List.replicate 256 0)).take 0 ++ u32V tabs ++ (u32V (List.replicate 256 0)).drop (0 + (u32V tabs).length) = u32V tabs := by
   rw [List.take_zero, List.nil_append, List.drop_of_length_le (by rw [hlen, hlen0];omega), List.append_nil]
  rw [e2] at hH2
  apply hK;clear hK
  refine VC_ret (Qt8 rfl rfl (Qa5 (hH2.at 1 rfl) (by kernel_rfl) (by kernel_rfl) hlen ?_))
  exact ⟨hH2.sub (by simp), rfl⟩
def Qbb : List Bool -> List Bool -> List Bool
 | [], d => d
 | _ :: _, [] => []
 | x :: xs, y :: d => (x ^^ y) :: Qbb xs d
def polyB : List Bool := bitsN 32 79764919
def divS : Nat -> List Bool -> List Bool
 | 0, d => d
 | _ + 1, [] => []
 | n + 1, b :: d => divS n (if b then Qbb polyB d else d)
theorem Qur (n : Nat) : divS n [] = [] := by cases n <;> rfl
theorem Qkc (m n : Nat) : ∀ d, divS (m + n) d = divS n (divS m d) := by
 induction m with
 | zero => intro d;rw [Nat.zero_add];rfl
 | succ m ih =>
  intro d
  rw [show m + 1 + n = (m + n) + 1 by omega]
  cases d with
  | nil => rw [divS, divS, Qur]
  | cons b d => rw [divS, divS, ih]
theorem Qf1 : ∀ (x d : List Bool), (Qbb x d).length = d.length
 | [], d => by simp [Qbb]
 | _ :: _, [] => by simp [Qbb]
 | x :: xs, y :: d => by simp [Qbb, Qf1 xs d]
theorem Qh0 : ∀ (n : Nat) (x d : List Bool), Qbb (x ++ List.replicate n false) d = Qbb x d
 | n, [], d => by
  induction n generalizing d with
  | zero => rfl
  | succ n ih => cases d with
   | nil => rfl
   | cons y d =>
    show ((false ^^ y) :: Qbb (List.replicate n false) d) = y :: d
    have := ih d
    rw [List.nil_append] at this
    rw [this, Bool.false_xor];rfl
 | n, x :: xs, [] => rfl
 | n, x :: xs, y :: d => by rw [List.cons_append, Qbb, Qbb, Qh0 n xs d]
theorem Qh1 : ∀ (x y d : List Bool), x.length = y.length -> Qbb x (Qbb y d) = Qbb (List.zipWith (fun a b => a ^^ b) x y) d
 | [], [], d, _ => rfl
 | [], _ :: _, _, h => by simp at h
 | _ :: _, [], _, h => by simp at h
 | a :: x, b :: y, [], _ => rfl
 | a :: x, b :: y, c :: d, h => by
  simp only [Qbb, List.zipWith_cons_cons]
  rw [Qh1 x y d (by simpa using h), Bool.xor_assoc]
theorem Qr8 (n a b : Nat) : bitsN n (a ^^^ b) = List.zipWith (fun a b => a ^^ b) (bitsN n a) (bitsN n b) := by
 induction n with
 | zero => rfl
 | succ n ih => simp only [bitsN, List.zipWith_cons_cons];rw [ih, Nat.testBit_xor]
theorem Qob (n v : Nat) : bitsN (n + 1) (2 * v) = bitsN n v ++ [false] := by
 rw [Qdo n 1, show 2 * v / 2 ^ 1 = v by omega]
 congr 1
 simp [bitsN]
def Qoc (r : Nat) (c : Bool) : Nat := sh1 (r ^^^ (if c then 2147483648 else 0))
theorem Qr9 {r : Nat} (h : r < 4294967296) : (2147483648 <= r) ↔ r.testBit 31 = true := by
 rw [Nat.testBit_eq_decide_div_mod_eq, decide_eq_true_eq]
 have : (2 : Nat) ^ 31 = 2147483648 := by decide
 rw [this];omega
theorem div_one {r : Nat} (h : r < 4294967296) (c : Bool) (T : List Bool) : divS 1 (Qbb (bitsN 32 r) (c :: T)) = Qbb (bitsN 32 (Qoc r c)) T := by
 have hx : r ^^^ (if c then 2147483648 else 0) < 4294967296 := Nat.xor_lt_two_pow (n := 32) h (by split <;> decide)
 have ht : (r ^^^ (if c then 2147483648 else 0)).testBit 31 = (r.testBit 31 ^^ c) := by
  rw [Nat.testBit_xor]
  cases c <;> rfl
 have hl : (r ^^^ (if c then 2147483648 else 0)) * 2 % 4294967296 = 2 * (r % 2147483648) := by
  have e : (r ^^^ (if c then 2147483648 else 0)) % 2147483648 = r % 2147483648 := by
   have := Nat.xor_mod_two_pow (a := r) (b := if c then 2147483648 else 0) (n := 31)
   rw [show (2 : Nat) ^ 31 = 2147483648 by decide] at this
   rw [this]
   cases c <;> simp
  omega
 have hb : bitsN 32 (2 * (r % 2147483648)) = bitsN 31 r ++ [false] := by
  rw [Qob 31, show (2147483648 : Nat) = 2 ^ 31 by decide, Qfp 31 r 31 (Nat.le_refl _)]
 have h0 : Qbb (bitsN 31 r ++ [false]) T = Qbb (bitsN 31 r) T := Qh0 1 _ _
 rw [show bitsN 32 r = r.testBit 31 :: bitsN 31 r from rfl, Qbb, divS, divS, Qoc, sh1]
 have htt := Qr9 hx
 rw [ht] at htt
 rw [hl]
 cases hq : (r.testBit 31 ^^ c) with
 | true =>
  rw [hq] at htt
  rw [if_pos (htt.2 rfl), if_pos rfl, Qr8, hb]
  show Qbb (bitsN 32 79764919) _ = _
  rw [<- h0, Qh1 _ _ _ (by simp [Qat])]
  congr 1
  rw [List.zipWith_comm]
  congr 1
  funext a b
  exact Bool.xor_comm _ _
 | false =>
  rw [hq] at htt
  have hn : ¬ (2147483648 <= r ^^^ (if c then 2147483648 else 0)) := fun h => by have := htt.1 h;cases this
  rw [if_neg hn, if_neg (by simp), hb, h0]
theorem Qo1 {r : Nat} (h : r < 4294967296) (c : Bool) : Qoc r c < 4294967296 := Qvn (Nat.xor_lt_two_pow (n := 32) h (by split <;> decide))
theorem Qo2 : ∀ (l : List Bool) {r : Nat} (h : r < 4294967296) (T : List Bool), divS l.length (Qbb (bitsN 32 r) (l ++ T)) = Qbb (bitsN 32 (l.foldl Qoc r)) T
 | [], r, h, T => rfl
 | c :: l, r, h, T => by
  rw [List.length_cons, Nat.add_comm, Qkc, List.cons_append, div_one h, List.foldl_cons, Qo2 l (Qo1 h c) T]
theorem Qsa {r : Nat} (h : r < 4294967296) : sh1 r = (r * 2 % 4294967296) ^^^ (if r.testBit 31 then 79764919 else 0) := by
 unfold sh1
 have := Qr9 h
 by_cases h2 : 2147483648 <= r
 ·
  rw [if_pos h2, if_pos (this.1 h2)]
 ·
  rw [if_neg h2, if_neg (fun h3 => h2 (this.2 h3)), Nat.xor_zero]
theorem Qsb (a b : Nat) : (a ^^^ b) * 2 % 4294967296 = (a * 2 % 4294967296) ^^^ (b * 2 % 4294967296) := by
 have := Nat.xor_mod_two_pow (a := a * 2) (b := b * 2) (n := 32)
 rw [show (2 : Nat) ^ 32 = 4294967296 by decide] at this
 rw [<- this]
 congr 1
 have e := Nat.shiftLeft_xor_distrib (a := a) (b := b) (i := 1)
 simp only [Nat.shiftLeft_eq] at e
 simpa using e
theorem Qsc {a b : Nat} (ha : a < 4294967296) (hb : b < 4294967296) : sh1 (a ^^^ b) = sh1 a ^^^ sh1 b := by
 rw [Qsa (Nat.xor_lt_two_pow (n := 32) ha hb), Qsa ha, Qsa hb, Qsb, Nat.testBit_xor]
 generalize a * 2 % 4294967296 = x
 generalize b * 2 % 4294967296 = y
 have e : ∀ p : Nat, x ^^^ p ^^^ (y ^^^ p) = x ^^^ y := fun p => by
  rw [Nat.xor_comm y p, <- Nat.xor_assoc, Nat.xor_assoc x p p, Nat.xor_self, Nat.xor_zero]
 cases a.testBit 31 <;> cases b.testBit 31 <;> simp [Nat.xor_assoc]
 ·
  rw [Nat.xor_comm 79764919 y]
 ·
  have := e 79764919;rw [Nat.xor_assoc] at this;exact this.symm
theorem Qsd {a b : Nat} (ha : a < 4294967296) (hb : b < 4294967296) : ∀ k, shK k (a ^^^ b) = shK k a ^^^ shK k b
 | 0 => rfl
 | k + 1 => by rw [shK, Qsd ha hb k, Qsc (Ql8 ha k) (Ql8 hb k)];rfl
theorem Qo3 (r : Nat) : ∀ k, shK k (sh1 r) = sh1 (shK k r)
 | 0 => rfl
 | k + 1 => by rw [shK, Qo3 r k];rfl
theorem Qse : ∀ (k r : Nat), r * 2 ^ k < 4294967296 -> shK k r = r * 2 ^ k
 | 0, r, _ => by simp [shK]
 | k + 1, r, h => by
  have h2 : r * 2 ^ k * 2 < 4294967296 := by rw [Nat.mul_assoc, <- Nat.pow_succ];exact h
  rw [shK, Qse k r (by omega), sh1, if_neg (by omega), Nat.mod_eq_of_lt h2, Nat.mul_assoc, <- Nat.pow_succ]
theorem Qma : ∀ (k : Nat) (v r : Nat), k <= 32 -> r < 4294967296 -> (bitsN k v).foldl Qoc r = shK k (r ^^^ (v % 2 ^ k * 2 ^ (32 - k)))
 | 0, v, r, _, _ => by simp [bitsN, shK, Nat.mod_one]
 | k + 1, v, r, hk, h => by
  rw [bitsN, List.foldl_cons, Qma k v _ (by omega) (Qo1 h _), Qoc]
  have hp : (2 : Nat) ^ (32 - k) = 2 * 2 ^ (31 - k) := by rw [show 32 - k = (31 - k) + 1 by omega, Nat.pow_succ, Nat.mul_comm]
  have hp2 : (2 : Nat) ^ k * 2 ^ (31 - k) = 2147483648 := by rw [<- Nat.pow_add, show k + (31 - k) = 31 by omega]
  have hm : v % 2 ^ k < 2 ^ k := Nat.mod_lt _ (Nat.two_pow_pos _)
  have hlow : v % 2 ^ k * 2 ^ (31 - k) < 2147483648 := by rw [<- hp2];exact Nat.mul_lt_mul_of_pos_right hm (Nat.two_pow_pos _)
  have hs : sh1 (v % 2 ^ k * 2 ^ (31 - k)) = v % 2 ^ k * 2 ^ (32 - k) := by
   rw [sh1, if_neg (by omega), Nat.mod_eq_of_lt (by omega), hp, Nat.mul_assoc, Nat.mul_comm (2 ^ (31 - k)) 2]
  have hx : (if v.testBit k then 2147483648 else 0) < 4294967296 := by split <;> decide
  rw [<- hs, <- Qsc (Nat.xor_lt_two_pow (n := 32) h hx) (by omega), Qo3]
  show shK (k + 1) _ = shK (k + 1) _
  congr 1
  rw [Nat.xor_assoc]
  congr 1
  have e1 : v % 2 ^ (k + 1) = (if v.testBit k then 2 ^ k else 0) + v % 2 ^ k := by
   rw [Nat.pow_succ, Nat.mod_mul, Nat.testBit_eq_decide_div_mod_eq]
   rcases Nat.mod_two_eq_zero_or_one (v / 2 ^ k) with h3 | h3 <;> rw [h3] <;> simp <;> omega
  rw [show 32 - (k + 1) = 31 - k by omega, e1, Nat.add_mul]
  have e2 : (if v.testBit k then 2 ^ k else 0) * 2 ^ (31 - k) = if v.testBit k then 2147483648 else 0 := by
   split
   ·
    exact hp2
   ·
    simp
  rw [e2]
  generalize v % 2 ^ k * 2 ^ (31 - k) = y at *
  split
  ·
   have := Nat.two_pow_add_eq_or_of_lt (i := 31) (b := y) (by omega) 1
   rw [show (2 : Nat) ^ 31 * 1 = 2147483648 by decide] at this
   rw [this]
   apply Nat.eq_of_testBit_eq
   intro j
   rw [Nat.testBit_xor, Nat.testBit_or, show (2147483648 : Nat) = 2 ^ 31 by decide, Nat.testBit_two_pow]
   by_cases hj : 31 = j
   ·
    subst hj
    have hy : y.testBit 31 = false := Nat.testBit_lt_two_pow (by omega)
    simp [hy]
   ·
    simp [hj]
  ·
   simp
theorem Qus {r hi lo bb : Nat} (er : r = hi ^^^ lo) (h1 : hi < 4294967296) (h2 : bb < 4294967296) (h5 : lo < 4294967296) : shK 8 lo ^^^ shK 8 (hi ^^^ bb) = shK 8 (r ^^^ bb) := by
 subst er
 rw [Nat.xor_comm hi lo, Nat.xor_assoc, Qsd h5 (Nat.xor_lt_two_pow (n := 32) h1 h2)]
theorem Qmb {r : Nat} (h : r < 4294967296) (b : UInt8) : Qfj r b = (bitsN 8 b.toNat).foldl Qoc r := by
 have hb := b.toNat_lt
 rw [Qma 8 _ _ (by omega) h, Qfj, tab]
 have e0 : b.toNat % 2 ^ 8 * 2 ^ (32 - 8) = b.toNat * 16777216 := by rw [Nat.mod_eq_of_lt (by omega)]
 rw [e0]
 have hhi : r / 16777216 < 256 := by omega
 have hlo : r % 16777216 < 16777216 := Nat.mod_lt _ (by decide)
 have er : r = (r / 16777216 * 16777216) ^^^ (r % 16777216) := by
  apply Nat.eq_of_testBit_eq
  intro j
  rw [Nat.testBit_xor, show (16777216 : Nat) = 2 ^ 24 by decide, Nat.testBit_mul_two_pow, Nat.testBit_mod_two_pow, Nat.testBit_div_two_pow]
  by_cases hj : 24 <= j
  ·
   simp [hj, show ¬ j < 24 by omega, show j - 24 + 24 = j by omega]
  ·
   simp [hj, show j < 24 by omega]
 have ex : (r / 16777216 ^^^ b.toNat) * 16777216 = (r / 16777216 * 16777216) ^^^ (b.toNat * 16777216) := by
  have e := Nat.shiftLeft_xor_distrib (a := r / 16777216) (b := b.toNat) (i := 24)
  simp only [Nat.shiftLeft_eq] at e
  simpa using e
 have hl8 : shK 8 (r % 16777216) = r * 256 % 4294967296 := by
  have e8 : (2 : Nat) ^ 8 = 256 := by decide
  have h3 : r % 16777216 * 256 = r * 256 % 4294967296 := by
   have h4 := Nat.mul_mod_mul_right 256 r 16777216
   rw [show 16777216 * 256 = 4294967296 by decide] at h4
   exact h4.symm
  rw [Qse 8 _ (by rw [e8];omega), e8, h3]
 have h1 : r / 16777216 * 16777216 < 4294967296 := by clear ex er e0 hl8;omega
 have h2 : b.toNat * 16777216 < 256 * 16777216 := Nat.mul_lt_mul_of_pos_right hb (by decide)
 have h5 : r % 16777216 < 4294967296 := Nat.lt_trans hlo (by decide)
 rw [ex, <- hl8]
 exact Qus er h1 h2 h5
theorem Qsf : ∀ (s : List UInt8) {r : Nat} (h : r < 4294967296), divS (8 * s.length) (Qbb (bitsN 32 r) (bytesB s ++ List.replicate 32 false)) = bitsN 32 (Qb7 r s)
 | [], r, h => by
  show Qbb (bitsN 32 r) ([] ++ List.replicate 32 false) = bitsN 32 r
  have : ∀ (x : List Bool), Qbb x (List.replicate x.length false) = x := by
   intro x
   induction x with
   | nil => rfl
   | cons a x ih => rw [List.length_cons, List.replicate_succ, Qbb, ih, Bool.xor_false]
  have h2 := this (bitsN 32 r)
  rw [Qat] at h2
  exact h2
 | b :: s, r, h => by
  have h8 := Qo2 (bitsN 8 b.toNat) h (bytesB s ++ List.replicate 32 false)
  rw [Qat, <- Qmb h] at h8
  rw [List.length_cons, show 8 * (s.length + 1) = 8 + 8 * s.length by omega, Qkc, bytesB_cons, List.append_assoc, h8, Qsf s (Qja h b)]
  rfl
set_option maxHeartbeats 2000000
theorem Qsg : bitsN 33 4374732215 = true :: polyB := by
 have h := Qfp 32 4374732215 32 (Nat.le_refl _)
 have e : 4374732215 % 2 ^ 32 = 79764919 := by decide
 rw [e] at h
 rw [polyB, h]
 show (4374732215 : Nat).testBit 32 :: _ = _
 congr 1
theorem Qqh (w : World) : Does Tryz.prog 176 #[] w fun v w' => ∃ g, v = .slice (some ⟨g, 0, none⟩) 33 33 /\ Heap w [] w' [Res.row 3 1 (some ⟨g, 0, none⟩) 33 33 (Qal (bI (true :: polyB)))] := by
 have hb := Qgg 4374732215 33 (by decide) (by decide)
 rw [Qsg] at hb
 refine En [] 8 Tryz.func176 ?_
 refine VS [] ?_
 refine VQ [1] fun K hK => ?_
 refine MemK_call Tryz.call66 ?_;refine Qs ?_;refine CallK.mk (hb w) ?_
 rintro v w2 ⟨g, hH, rfl⟩
 (try refine Qs ?_)
 apply hK;clear hK
 refine VS [0] ?_
 exact VC_ret (VX_ret1 rfl rfl ⟨g, rfl, hH⟩)
theorem Qsh : polyB.length = 32 := by rw [polyB, Qat]
theorem Qgk : ∀ (k : Nat) (P D : List Bool), k < P.length -> k < D.length -> Qbb (P.take (k + 1)) D = (Qbb (P.take k) D).set k (D.getD k false ^^ P.getD k false)
 | 0, p :: P, d :: D, _, _ => by simp [Qbb, Bool.xor_comm]
 | k + 1, p :: P, d :: D, h1, h2 => by
  simp only [List.take_succ_cons, Qbb, List.set_cons_succ, List.getD_cons_succ]
  rw [Qgk k P D (by simpa using h1) (by simpa using h2)]
 | _, [], _, h, _ => by simp at h
 | _, _ :: _, [], _, h => by simp at h
theorem Qkd : ∀ (k : Nat) (P D : List Bool), k < D.length -> (Qbb (P.take k) D).getD k false = D.getD k false
 | 0, P, D, _ => by simp [Qbb]
 | k + 1, [], D, _ => by simp [Qbb]
 | k + 1, p :: P, d :: D, h => by
  simp only [List.take_succ_cons, Qbb, List.getD_cons_succ]
  exact Qkd k P D (by simpa using h)
 | k + 1, _ :: _, [], h => by simp at h
theorem Qsi (i : Nat) (l : List Bool) : divS (i + 1) l = divS 1 (divS i l) := Qkc i 1 l
theorem Qo4 : ∀ (i : Nat) (l : List Bool), (divS i l).length = l.length - i
 | 0, l => rfl
 | i + 1, [] => by simp [divS]
 | i + 1, b :: l => by
  rw [divS, Qo4 i]
  split <;> simp [Qf1]
theorem Qvp (l : List Bool) (k : Nat) (b : Bool) : bI (l.set k b) = (bI l).set k (if b then 1 else 0) := by simp [bI, List.map_set]
theorem Qio {α : Type} (A D : List α) (i k : Nat) (x : α) (h : A.length = i) : (A ++ D).set (i + k) x = A ++ D.set k x := by
 rw [List.set_append_right _ _ (by omega), h, Nat.add_sub_cancel_left]
theorem Qmc {l : List Int} {i : Nat} {x : Int} (h : i < l.length) : (Qal l).take i ++ [.int .i64 x] ++ (Qal l).drop (i + [Value.int .i64 x].length) = Qal (l.set i x) := by
 have e := List.set_eq_take_append_cons_drop (l := Qal l) (i := i) (a := Value.int .i64 x)
 rw [if_pos (by rw [Qbw];exact h)] at e
 have e2 : Qal (l.set i x) = (Qal l).set i (.int .i64 x) := by simp [Qal, List.map_set]
 rw [e2, e, List.append_assoc];rfl
theorem Qsj (a b : Bool) : ((if a then 1 else 0 : Int) + (if b then 1 else 0)) % 2 = if (a ^^ b) then 1 else 0 := by cases a <;> cases b <;> rfl
theorem Qqi (l : List Bool) (a : Option Addr) (c : Nat) (hl : l.length <= 1000000000000) (h32 : 32 <= l.length) (w : World) (hr : RS w a l.length 1 (Qal (bI l))) :
  Does Tryz.prog 157 #[.slice a l.length c] w fun v w' => ∃ a' c', v = .slice a' 32 c' /\ Heap w [] w' [] /\ RS w' a' 32 1 (Qal (bI (divS (l.length - 32) l))) := by
 have hbl := bI_len l
 refine En [.slice a l.length c] 49 Tryz.func157 ?_
 refine VS [0] ?_
 refine VQ [0, 3] fun K hK => ?_
 refine MemK_call Tryz.call176 ?_;refine Qs ?_;refine CallK.mk (Qqh w) ?_
 rintro v w2 ⟨gp, rfl, hH⟩
 (try refine Qs ?_)
 apply hK;clear hK
 refine VQ [3, 4] fun K hK => ?_
 refine Qbg hH (Qal []) (xs := []) Tryz.underlying36 sz3 rfl rfl rfl (by omega) ?_;refine Qs ?_;refine ⟨rfl, by simp [Value.cells], fun g w4 hH2 => ?_⟩;(try refine Qs ?_)
 have hr2 := hH2.rs' hr
 rw [<- hbl] at hr2 ⊢
 refine Qai ?_
 refine Qs ?_
 refine Qrd (o := []) (t := bI l) hH2 0 rfl Tryz.underlying36 zi3 rfl hr2 (fun h => by simp;omega) fun a' cap' w5 hc' hH3 => ?_
 simp only [List.set_cons_zero, List.nil_append] at hH3 ⊢
 (try refine Qs ?_)
 apply hK;clear hK
 rw [hbl] at hH3 ⊢
 refine VS [3, 4, 5] ?_
 refine Qaf ?_
 refine Qae [3, 4, 5] (fun m e w' => ∃ (i : Nat) (A : List Bool), Is e [(3, .slice (some ⟨gp, 0, none⟩) 33 33), (4, .slice a' l.length cap'), (5, .int .i64 i)] /\ Heap w [] w' [Res.row 3 1 a' l.length cap' (Qal (bI (A ++ divS i l))), Res.row 3 1 (some ⟨gp, 0, none⟩) 33 33 (Qal (bI (true :: polyB)))] /\ A.length = i /\ i + 32 <= l.length /\ m = l.length - i) l.length ?_ ?_
 ·
  refine Qs ?_
  exact ⟨0, [], rfl, hH3, rfl, by omega, rfl⟩
 clear hH3 hH hH2
 rintro m e w' ⟨i, A, rfl, hH, hA, hi, rfl⟩
 have hdl := Qo4 i l
 generalize hD : divS i l = D at *
 refine VS [3, 4, 5, 15] ?_
 refine VD (fun h => ?_) (fun h => ?_)
 ·
  obtain ⟨d, D, rfl⟩ : ∃ d D', D = d :: D' := by
   cases D with
   | nil => simp at hdl;omega
   | cons d D' => exact ⟨d, D', rfl⟩
  have hn : divS (i + 1) l = if d then Qbb polyB D else D := by
   rw [Qsi, hD];cases d <;> rfl
  simp only [List.length_cons] at hdl
  refine VC_skip ?_
  refine VB ?_
  obtain ⟨p, rfl⟩ := Qbe (Qaz (hH.at 0 rfl)) (by omega)
  have hAl : (A ++ d :: D).length = l.length := by simp;omega
  have hcell := Qde (Qaz (hH.at 0 rfl)) (show i < (bI (A ++ d :: D)).length by rw [bI_len, hAl];omega)
  rw [Qep (by omega)] at hcell
  have hat : (A ++ d :: D).getD i false = d := by
   rw [List.getD_eq_getElem?_getD, List.getElem?_append_right (by omega), hA, Nat.sub_self];rfl
  rw [hat] at hcell
  refine VQ [3, 4, 5, 22] fun K hK => ?_
  refine ⟨⟨by omega, by omega⟩, _, hcell, ?_⟩
  (try refine Qs ?_)
  (repeat refine Qo ?_);apply hK;clear hK
  refine Qaa rfl rfl (fun h2 => ?_) (fun h2 => ?_)
  ·
   simp only [decide_eq_true_eq] at h2
   have hdt : d = true := by cases d <;> simp at h2 ⊢
   subst hdt
   rw [if_pos rfl] at hn
   refine VS [3, 4, 5, 6] ?_
   refine Qaf ?_
   refine Qae [3, 4, 5, 6] (fun m e w' => ∃ (k : Nat), Is e [(3, .slice (some ⟨gp, 0, none⟩) 33 33), (4, .slice (some p) l.length cap'), (5, .int .i64 i), (6, .int .i64 k)] /\ Heap w [] w' [Res.row 3 1 (some p) l.length cap' (Qal (bI (A ++ Qbb ((true :: polyB).take k) (true :: D)))), Res.row 3 1 (some ⟨gp, 0, none⟩) 33 33 (Qal (bI (true :: polyB)))] /\ k <= 33 /\ m = 33 - k) 33 ?_ ?_
   ·
    refine Qs ?_
    exact ⟨0, rfl, hH, by omega, rfl⟩
   clear hH hcell
   rintro m e w3 ⟨k, rfl, hH, hk, rfl⟩
   have hpl : (true :: polyB).length = 33 := by rw [List.length_cons, Qsh]
   refine VS [3, 4, 5, 6, 24] ?_
   refine VD (fun h => ?_) (fun h => ?_)
   ·
    have hk33 : k < 33 := by omega
    refine VC_skip ?_
    refine VB ?_
    have hx := Qgk k (true :: polyB) (true :: D) (by omega) (by simp;omega)
    have hxl : (Qbb ((true :: polyB).take k) (true :: D)).length = D.length + 1 := by rw [Qf1];rfl
    have hAx : (A ++ Qbb ((true :: polyB).take k) (true :: D)).length = l.length := by rw [List.length_append];omega
    have hcell := Qde (Qaz (hH.at 0 rfl)) (show i + k < (bI (A ++ Qbb ((true :: polyB).take k) (true :: D))).length by rw [bI_len, hAx];omega)
    rw [Qep (by omega)] at hcell
    have hat : (A ++ Qbb ((true :: polyB).take k) (true :: D)).getD (i + k) false = (true :: D).getD k false := by
     rw [List.getD_eq_getElem?_getD, List.getElem?_append_right (by omega), hA, Nat.add_sub_cancel_left, <- List.getD_eq_getElem?_getD, Qkd k _ _ (by simp;omega)]
    rw [hat] at hcell
    have hcp := Qa0 (hH.at 1 rfl) (Qbd (l := bI (true :: polyB)) (i := k) (by rw [bI_len];omega))
    rw [Qep (by omega)] at hcp
    have hset : bI (A ++ Qbb ((true :: polyB).take (k + 1)) (true :: D)) = (bI (A ++ Qbb ((true :: polyB).take k) (true :: D))).set (i + k) (if ((true :: D).getD k false ^^ (true :: polyB).getD k false) then 1 else 0) := by
     rw [hx, <- Qvp, Qio _ _ _ _ _ hA]
    have hm := Qsj ((true :: D).getD k false) ((true :: polyB).getD k false)
    generalize (true :: D).getD k false = b1 at *
    generalize (true :: polyB).getD k false = b2 at *
    refine VL [3, 4, 5, 6] 17 fun K hK => ?_
    refine ⟨I64.mk (by omega) (by omega), I64.mk (by omega) (by omega), ⟨by omega, by omega⟩, _, hcell, ⟨by omega, by omega⟩, _, hcp, ?_⟩
    (try refine Qs ?_)
    have h2b : I64 ((if b1 = true then 1 else 0 : Int) + (if b2 = true then 1 else 0)) /\ 0 <= (if b1 = true then 1 else 0 : Int) + (if b2 = true then 1 else 0) := by cases b1 <;> cases b2 <;> exact ⟨I64.mk (by decide) (by decide), by decide⟩
    generalize (if b1 = true then 1 else 0 : Int) + (if b2 = true then 1 else 0) = sm at *
    refine ⟨h2b.1, h2b.2, by decide, ⟨by omega, by omega⟩, ?_⟩
    refine Qac ?_
    refine Qs ?_
    refine Qbz hH 0 (o := i + k) (vs := [.int .i64 (sm % 2)]) rfl (by rfl) rfl (by kernel_rfl) (by simp only [List.length_singleton, Qbw, bI_len];omega) (by simp [Value.oneCell']) fun w4 hH2 => ?_
    simp only [List.set_cons_zero] at hH2
    rw [Qmc (by rw [bI_len];omega), hm, <- hset] at hH2
    (try refine Qs ?_)
    apply hK;clear hK
    refine Qam ?_
    refine VS [3, 4, 5, 6] ?_
    refine Qab ?_
    refine Qs ?_
    exact ⟨33 - (k + 1), by omega, k + 1, rfl, hH2, by omega, rfl⟩
   ·
    obtain rfl : k = 33 := by omega
    have e33 : (true :: polyB).take 33 = true :: polyB := List.take_of_length_le (by omega)
    rw [e33] at hH
    refine Qag rfl ?_
    refine Qam ?_
    refine VS [3, 4, 5] ?_
    refine Qab ?_
    refine Qs ?_
    refine ⟨l.length - (i + 1), by omega, i + 1, A ++ [false], rfl, ?_, by simp [hA], by omega, rfl⟩
    rw [hn, List.append_assoc]
    exact hH
  ·
   simp only [decide_eq_false_iff_not] at h2
   have hdt : d = false := by cases d <;> simp at h2 ⊢
   subst hdt
   rw [if_neg (by simp)] at hn
   refine VC_skip ?_
   refine Qam ?_
   refine VS [3, 4, 5] ?_
   refine Qab ?_
   refine Qs ?_
   refine ⟨l.length - (i + 1), by omega, i + 1, A ++ [false], rfl, ?_, by simp [hA], by omega, rfl⟩
   rw [hn, List.append_assoc]
   exact hH
 ·
  obtain rfl : i = l.length - 32 := by omega
  refine Qag rfl ?_
  have hrs := Qaz (hH.at 0 rfl)
  obtain ⟨g, rfl⟩ := Qfa (hH.at 0 rfl) (by omega)
  have hrc := Qna (hH.at 0 rfl)
  have hSL : SL w' (some ⟨g, 0, none⟩) l.length cap' (Qal (bI (A ++ D))) := ⟨hrs, hrc.1, fun ad e => by cases e;rfl⟩
  have hcut := hSL.cut (l.length - 32) 32 (by omega)
  have e1 : ((Qal (bI (A ++ D))).drop (l.length - 32)).take 32 = Qal (bI D) := by
   have : Qal (bI (A ++ D)) = Qal (bI A) ++ Qal (bI D) := by simp [Qal, bI]
   rw [this, List.drop_append_of_le_length (by rw [Qbw, bI_len];omega), List.drop_of_length_le (by rw [Qbw, bI_len];omega), List.nil_append, List.take_of_length_le (by rw [Qbw, bI_len];omega)]
  rw [e1] at hcut
  refine VQ [2] fun K hK => ?_
  refine ⟨I64.mk (by omega) (by omega), ⟨by omega, by omega, hrc.1⟩, ?_⟩
  rw [show l.length - (l.length - 32) = 32 by omega]
  generalize (if cap' = l.length - 32 then some (⟨g, 0, none⟩ : Addr) else Option.map (fun x => x.add (l.length - 32)) (some (⟨g, 0, none⟩ : Addr))) = a2 at *
  generalize cap' - (l.length - 32) = c2 at *
  apply hK;clear hK
  refine VC_ret (VX_ret1 rfl rfl ⟨a2, c2, rfl, hH.sub (by simp), by rw [hD];exact hcut⟩)
theorem Qqj (r : Nat) (s : List UInt8) (w : World) (hr : r < 4294967296) (hs : s.length <= 100000000000) :
  Does Tryz.prog 120 #[.int .u32 r, Str s] w fun v w' => Heap w [] w' [] /\ v = .int .u32 (Qb7 r s : Nat) := by
 have hbl := bytesB_length s
 have hml := Qe0 s hr
 refine En [.int .u32 r, Str s] 39 Tryz.func120 ?_
 refine VS [0, 1] ?_
 refine VQ [0, 5] fun K hK => ?_
 refine MemK_call Tryz.call20 ?_;refine Qs ?_;refine CallK.mk (dof_does s hs w) ?_
 rintro v w2 ⟨a, cap, hH, rfl⟩
 (try refine Qs ?_)
 refine Qai ?_
 refine Qs ?_
 refine Qgb (m := 32) hH 0 rfl rfl Tryz.underlying36 zi3 Tryz.underlying3 rfl (by rw [bI_len];omega) fun a' cap' w5 hc' hH2 => ?_
 simp only [List.set_cons_zero] at hH2
 have hz : Qal (bI (bytesB s)) ++ List.replicate 32 (.int .i64 0) = Qal (bI (bytesB s ++ List.replicate 32 false)) := by simp [Qal, bI]
 have hzl : (bI (bytesB s)).length + 32 = (bytesB s ++ List.replicate 32 false).length := by simp [bI_len]
 rw [hz, hzl] at hH2
 rw [hzl]
 clear hH hc'
 generalize hD : bytesB s ++ List.replicate 32 false = D at *
 have hDl : D.length = 8 * s.length + 32 := by rw [<- hD];simp [hbl]
 (try refine Qs ?_)
 apply hK;clear hK
 refine VQ [5, 6] fun K hK => ?_
 (repeat first | refine Qo ?_ | refine Qp ?_)
 rw [show (r : Int) % 18446744073709551616 = ((r : Nat) : Int) by omega]
 refine MemK_call Tryz.call66 ?_;refine Qs ?_;refine CallK.mk (Qgg r 32 (by omega) (by omega) w5) ?_
 rintro v w6 ⟨g, hH3, rfl⟩
 have hH4 := hH2.call0 hH3
 simp only [List.singleton_append] at hH4
 clear hH2 hH3
 (try refine Qs ?_)
 apply hK;clear hK
 have hrl := Qat 32 r
 generalize hR : bitsN 32 r = R at *
 refine VS [5, 6, 8] ?_
 refine Qaf ?_
 refine Qae [5, 6, 8] (fun m e w' => ∃ (i : Nat), Is e [(5, .slice a' D.length cap'), (6, .slice (some ⟨g, 0, none⟩) 32 32), (8, .int .i64 i)] /\ Heap w [] w' [Res.row 3 1 (some ⟨g, 0, none⟩) 32 32 (Qal (bI R)), Res.row 3 1 a' D.length cap' (Qal (bI (Qbb (R.take i) D)))] /\ i <= 32 /\ m = 32 - i) 32 ?_ ?_
 ·
  refine Qs ?_
  exact ⟨0, rfl, hH4, by omega, rfl⟩
 clear hH4
 rintro m e w' ⟨i, rfl, hH, hi, rfl⟩
 have hxl : (Qbb (R.take i) D).length = D.length := Qf1 _ _
 refine VS [5, 6, 8, 19] ?_
 refine VD (fun h => ?_) (fun h => ?_)
 ·
  refine VC_skip ?_
  refine VB ?_
  obtain ⟨p, rfl⟩ := Qbe (Qaz (hH.at 1 rfl)) (by omega)
  have hx := Qgk i R D (by omega) (by omega)
  have hcell := Qde (Qaz (hH.at 1 rfl)) (show i < (bI (Qbb (R.take i) D)).length by rw [bI_len];omega)
  rw [Qep (by omega), Qkd i R D (by omega)] at hcell
  have hcp := Qa0 (hH.at 0 rfl) (Qbd (l := bI R) (i := i) (by rw [bI_len];omega))
  rw [Qep (by omega)] at hcp
  have hset : bI (Qbb (R.take (i + 1)) D) = (bI (Qbb (R.take i) D)).set i (if (D.getD i false ^^ R.getD i false) then 1 else 0) := by rw [hx, <- Qvp]
  have hm := Qsj (D.getD i false) (R.getD i false)
  generalize D.getD i false = b1 at *
  generalize R.getD i false = b2 at *
  refine VL [5, 6, 8] 13 fun K hK => ?_
  refine ⟨⟨by omega, by omega⟩, _, hcell, ⟨by omega, by omega⟩, _, hcp, ?_⟩
  (try refine Qs ?_)
  have h2b : I64 ((if b1 = true then 1 else 0 : Int) + (if b2 = true then 1 else 0)) /\ 0 <= (if b1 = true then 1 else 0 : Int) + (if b2 = true then 1 else 0) := by cases b1 <;> cases b2 <;> exact ⟨I64.mk (by decide) (by decide), by decide⟩
  generalize (if b1 = true then 1 else 0 : Int) + (if b2 = true then 1 else 0) = sm at *
  refine ⟨h2b.1, h2b.2, by decide, ⟨by omega, by omega⟩, ?_⟩
  refine Qac ?_
  refine Qs ?_
  refine Qbz hH 1 (o := i) (vs := [.int .i64 (sm % 2)]) rfl (by rfl) rfl (by kernel_rfl) (by simp only [List.length_singleton, Qbw, bI_len];omega) (by simp [Value.oneCell']) fun w4 hH2 => ?_
  simp only [List.set_cons_zero, List.set_cons_succ] at hH2
  rw [Qmc (by rw [bI_len];omega), hm, <- hset] at hH2
  (try refine Qs ?_)
  apply hK;clear hK
  refine Qam ?_
  refine VS [5, 6, 8] ?_
  refine Qab ?_
  refine Qs ?_
  exact ⟨32 - (i + 1), by omega, i + 1, rfl, hH2, by omega, rfl⟩
 ·
  obtain rfl : i = 32 := by omega
  have e32 : R.take 32 = R := List.take_of_length_le (by omega)
  rw [e32] at hH hxl
  refine Qag rfl ?_
  have hdv := Qsf s hr
  rw [hR, hD] at hdv
  have hres := fun w' h => Qqi (Qbb R D) a' cap' (by omega) (by omega) w' h
  rw [hxl] at hres
  rw [show 8 * s.length = D.length - 32 by omega] at hdv
  rw [hdv] at hres
  refine VQ [4] fun K hK => ?_
  refine MemK_call Tryz.call157 ?_;refine Qs ?_;refine CallK.mk (hres w' (Qaz (hH.at 1 rfl))) ?_
  rintro v w7 ⟨a7, c7, rfl, hH7, hr7⟩
  (try refine Qs ?_)
  have hbl32 := Qat 32 (Qb7 r s)
  have hnum := Qeq (bitsN 32 (Qb7 r s)) a7 c7 (by omega) w7 (by rw [hbl32];exact hr7)
  rw [hbl32, Qda, Nat.mod_eq_of_lt (by omega)] at hnum
  refine MemK_call Tryz.call124 ?_;refine Qs ?_;refine CallK.mk hnum ?_
  rintro v w8 ⟨rfl, rfl⟩
  (try refine Qs ?_)
  have hH8 := hH.call0 hH7
  rw [show ((Qb7 r s : Nat) : Int) % 4294967296 = ((Qb7 r s : Nat) : Int) by omega]
  apply hK;clear hK
  exact VC_ret (VX_ret1 rfl rfl ⟨hH8.sub (by simp), rfl⟩)
theorem Qqk (s : List UInt8) (w : World) (hs : s.length <= 100000000000) : Does Tryz.prog 58 #[Str s] w fun v w' => Heap w [] w' [] /\ v = .int .u32 (crcBzip s : Nat) := by
 have hml := Qe0 s (r := 4294967295) (by decide)
 have hm := Qqj 4294967295 s w (by decide) hs
 refine En [Str s] 6 Tryz.func58 ?_
 refine VS [0] ?_
 refine VQ [2] fun K hK => ?_
 refine MemK_call Tryz.call120 ?_;refine Qs ?_;refine CallK.mk hm ?_
 rintro v w2 ⟨hH, rfl⟩
 (try refine Qs ?_)
 rw [show (4294967295 - ((Qb7 4294967295 s : Nat) : Int)) % 4294967296 = ((crcBzip s : Nat) : Int) by unfold crcBzip;omega]
 apply hK;clear hK
 exact VC_ret (VX_ret1 rfl rfl ⟨hH, rfl⟩)
theorem QBy {α : Sort _} (a : α) : Is a a := rfl
theorem Qsk (r : Nat) (s : List UInt8) (w : World) (hr : r < 4294967296) (hs : s.length <= 1000000000000000000) :
  Does Tryz.prog 59 #[.int .u32 r, Str s] w fun v w' => Heap w [] w' [] /\ v = .int .u32 (Qb7 r s : Nat) := by
 refine En [.int .u32 r, Str s] 27 Tryz.func59 ?_
 refine VS [0, 1] ?_
 refine VQ [0, 1, 5] fun K hK => ?_
 refine MemK_call Tryz.call121 ?_;refine Qs ?_;refine CallK.mk (Qqg w) ?_
 rintro v w1 ⟨hH, rfl⟩
 refine Qav (.agg (u32V (List.replicate 256 0)).toArray) (by kernel_rfl) ?_
 have hH2 := hH.box 162 (u32V (List.replicate 256 0))
 have ecells : (Value.agg (u32V (List.replicate 256 0)).toArray).cells = (u32V (List.replicate 256 0)).toArray := rfl
 rw [ecells]
 generalize w1.alloc (Obj.cells (u32V (List.replicate 256 0)).toArray 162) = w2 at *
 generalize w1.heap.size = g at *
 refine Qs ?_
 refine Qac ?_
 refine Qs ?_
 have hlen : (u32V tabs).length = 256 := by rw [Qf0, Qg4]
 have hlen0 : (u32V (List.replicate 256 0)).length = 256 := by simp [u32V]
 refine Qad hH2 0 (vs := u32V tabs) rfl rfl (by rw [hlen];kernel_rfl) (by rw [hlen, hlen0];omega) (by intro u hu;obtain ⟨n, _, rfl⟩ := List.mem_map.1 hu;rfl) fun w6 hH3 => ?_
 have e2 : (u32V (List.replicate 256 0)).take 0 ++ u32V tabs ++ (u32V (List.replicate 256 0)).drop (0 + (u32V tabs).length) = u32V tabs := by
  rw [List.take_zero, List.nil_append, List.drop_of_length_le (by rw [hlen, hlen0];omega), List.append_nil]
 rw [e2] at hH3
 have hH4 : Heap w [] w6 [Res.blk g 162 (u32V tabs)] := hH3
 clear hH3 hH2 hH ecells
 apply hK;clear hK
 refine VS [0, 1, 5, 9, 10] ?_
 refine VB ?_
 refine Qae [0, 1, 5, 9, 10] (fun m e w' => ∃ (i : Nat), Is e [(0, .int .u32 (Qb7 r (s.take i) : Nat)), (1, Str s), (5, .pointer (some ⟨g, 0, none⟩)), (9, .int .i64 s.length), (10, .int .i64 i)] /\ Is w' w6 /\ i <= s.length /\ m = s.length - i) s.length ?_ ?_
 ·
  refine Qs ?_
  exact ⟨0, rfl, rfl, by omega, rfl⟩
 rintro m e w' ⟨i, rfl, rfl, hi, rfl⟩
 refine VS [0, 1, 5, 9, 10, 11] ?_
 (repeat refine Qay ?_)
 refine VD (fun h => ?_) (fun h => ?_)
 ·
  refine VC_skip ?_
  refine VB ?_
  refine VS [0, 1, 5, 6, 9, 10] ?_
  have hq := Qe0 (s.take i) hr
  have htk := Qb3 (0 : UInt8) (l := s) (i := i) (by omega)
  have hnext := Ql9 r (s.take i) (s.getD i 0)
  rw [<- htk, Qfj] at hnext
  have hb := (s.getD i 0).toNat_lt
  have hx : (Qb7 r (s.take i) / 16777216) ^^^ (s.getD i 0).toNat < 256 := Nat.xor_lt_two_pow (n := 8) (by omega) (by omega)
  have htl := Qvo _ hx
  have htg := Quq hx
  generalize Qb7 r (s.take i) = q at *
  have e1 : (q : Int) / 2 ^ shN IntKind.u32 24 % 256 = ((q / 16777216 : Nat) : Int) := by
   rw [show shN IntKind.u32 24 = 24 from rfl];omega
  have e3 : (q : Int) * 2 ^ shN IntKind.u32 8 % 4294967296 = ((q * 256 % 4294967296 : Nat) : Int) := by
   rw [show shN IntKind.u32 8 = 8 from rfl];omega
  refine VQ [0, 1, 5, 9, 10] fun K hK => ?_
  rw [e1, e3]
  (repeat first | refine Qo ?_ | refine Qp ?_)
  (try simp only [Int.toNat_natCast])
  (repeat first | refine Qo ?_ | refine Qp ?_)
  refine ⟨_, Qah (hH4.at 0 rfl) (Qkb (by rw [Qg4];exact hx)), ?_⟩
  refine Qs ?_
  rw [htg]
  clear htg hx
  generalize tab (q / 16777216 ^^^ (s.getD i 0).toNat) = tb at *
  (repeat first | refine Qo ?_ | refine Qp ?_)
  (try simp only [Int.toNat_natCast])
  apply hK;clear hK
  refine Qam ?_
  refine VS [0, 1, 5, 9, 10] ?_
  refine Qab ?_
  refine Qs ?_
  exact ⟨s.length - (i + 1), by omega, i + 1, by rw [hnext];exact QBy _, rfl, by omega, rfl⟩
 ·
  refine Qag rfl ?_
  refine VS [4] ?_
  rw [List.take_of_length_le (by omega)]
  exact VC_ret (VX_ret1 rfl rfl ⟨hH4.sub (by simp), rfl⟩)
theorem bzip_does (s : List UInt8) (w : World) (hs : s.length <= 1000000000000000000) : Does Tryz.prog 21 #[Str s] w fun v w' => Heap w [] w' [] /\ v = .int .u32 (crcBzip s : Nat) := by
 have hlt := Qe0 s (r := 4294967295) (by omega)
 refine En [Str s] 6 Tryz.func21 ?_
 refine VS [0] ?_
 refine VQ [2] fun K hK => ?_
 refine MemK_call Tryz.call59 ?_;refine Qs ?_;refine CallK.mk (Qsk 4294967295 s w (by omega) hs) ?_
 rintro v w1 ⟨hH, rfl⟩
 refine Qs ?_
 refine Qp ?_
 have e : 4294967295 - ((Qb7 4294967295 s : Nat) : Int) = ((crcBzip s : Nat) : Int) := by unfold crcBzip;omega
 rw [e]
 apply hK;clear hK
 exact VC_ret (VX_ret1 rfl rfl ⟨hH, rfl⟩)
theorem Qe8 (l : List Nat) (x : Nat) : Qa9 (l ++ [x]) = ((Qa9 l * 2 % 4294967296) ||| Qa9 l / 2147483648) ^^^ x := by simp [Qa9]
theorem Qdq (l : List Nat) (h : ∀ x ∈ l, x < 4294967296) : Qa9 l < 4294967296 := by
 have : ∀ (l : List Nat) (c : Nat), c < 4294967296 -> (∀ x ∈ l, x < 4294967296) -> l.foldl (fun c x => ((c * 2 % 4294967296) ||| c / 2147483648) ^^^ x) c < 4294967296 := by
  intro l
  induction l with
  | nil => intro c hc _;exact hc
  | cons x l ih =>
   intro c hc hx
   refine ih _ ?_ fun y hy => hx y (by simp [hy])
   exact Nat.xor_lt_two_pow (n := 32) (Nat.or_lt_two_pow (Nat.mod_lt _ (by decide)) (by omega)) (hx x (by simp))
 exact this l 0 (by decide) h
theorem Qmd (l : List Nat) (a : Option Addr) (cap : Nat) (w : World) (hl : RS w a l.length 1 (u32V l)) (h32 : ∀ x ∈ l, x < 4294967296) (hs : l.length <= 1000000000000000000) :
  Does Tryz.prog 63 #[.slice a l.length cap] w fun v w' => w' = w /\ v = .int .u32 (Qa9 l : Nat) := by
 refine En [.slice a l.length cap] 22 Tryz.func63 ?_
 refine VS [0] ?_
 refine VS [0, 3] ?_
 refine VS [3, 6, 7, 8] ?_
 refine VB ?_
 refine Qae [3, 6, 7, 8] (fun m e w' => ∃ (i : Nat), Is e [(3, .int .u32 (Qa9 (l.take i) : Nat)), (6, .slice a l.length cap), (7, .int .i64 l.length), (8, .int .i64 i)] /\ Is w' w /\ i <= l.length /\ m = l.length - i) l.length ?_ ?_
 ·
  refine Qs ?_
  exact ⟨0, rfl, rfl, by omega, rfl⟩
 rintro m e w' ⟨i, rfl, rfl, hi, rfl⟩
 refine VS [3, 6, 7, 8, 9] ?_
 (repeat refine Qay ?_)
 refine VD (fun h => ?_) (fun h => ?_)
 ·
  refine VC_skip ?_
  refine VB ?_
  obtain ⟨p, rfl⟩ := Qbe hl (by omega)
  have hc : w'.cell? (p.add i) = some (.int .u32 ((l.getD i 0 : Nat) : Int)) := hl.2.2 p rfl i _ (Qkb (by omega))
  have hx := h32 _ (Qbl 0 (show i < l.length by omega))
  have hq := Qdq (l.take i) fun x hx => h32 x (List.mem_of_mem_take hx)
  have htk := Qb3 0 (l := l) (i := i) (by omega)
  have hnext := Qe8 (l.take i) (l.getD i 0)
  rw [<- htk] at hnext
  generalize Qa9 (l.take i) = q at *
  generalize l.getD i 0 = x at *
  refine VQ [3, 5, 6, 7, 8] fun K hK => ?_
  refine ⟨⟨by omega, by omega⟩, _, hc, ?_⟩
  apply hK;clear hK
  have e1 : (q : Int) * 2 ^ shN IntKind.u32 1 % 4294967296 = ((q * 2 % 4294967296 : Nat) : Int) := by rw [show shN IntKind.u32 1 = 1 from rfl];omega
  have e2 : (q : Int) / 2 ^ shN IntKind.u32 31 = ((q / 2147483648 : Nat) : Int) := by rw [show shN IntKind.u32 31 = 31 from rfl];omega
  have hor : (q * 2 % 4294967296) ||| q / 2147483648 < 4294967296 := Nat.or_lt_two_pow (n := 32) (Nat.mod_lt _ (by decide)) (by omega)
  refine VQ [3, 5, 6, 7, 8] fun K hK => ?_
  rw [e1, e2]
  refine ⟨by omega, by omega, ⟨by omega, by omega⟩, ⟨by omega, by omega⟩, ?_⟩
  (try simp only [Int.toNat_natCast])
  apply hK;clear hK
  generalize (q * 2 % 4294967296) ||| q / 2147483648 = o at *
  refine VQ [3, 6, 7, 8] fun K hK => ?_
  refine ⟨⟨by omega, by omega⟩, ⟨by omega, by omega⟩, ?_⟩
  (try simp only [Int.toNat_natCast])
  rw [<- hnext]
  apply hK;clear hK
  refine Qam ?_
  refine VS [3, 6, 7, 8] ?_
  refine Qab ?_
  refine Qs ?_
  exact ⟨l.length - (i + 1), by omega, i + 1, rfl, rfl, by omega, rfl⟩
 ·
  refine Qag rfl ?_
  refine VS [2] ?_
  rw [List.take_of_length_le (by omega)]
  exact VC_ret (VX_ret1 rfl rfl ⟨rfl, rfl⟩)
set_option maxHeartbeats 2000000
theorem Qke (l : List Nat) (a : Option Addr) (cap : Nat) (w : World) (hl : RS w a l.length 1 (u32V l)) (h32 : ∀ x ∈ l, x < 4294967296) (hs : l.length <= 1000000000000000000) :
  Does Tryz.prog 67 #[.slice a l.length cap] w fun v w' => w' = w /\ v = .int .u32 (Qa9 l : Nat) := by
 refine En [.slice a l.length cap] 26 Tryz.func67 ?_
 refine VS [0] ?_
 refine VS [0, 3] ?_
 refine VS [0, 3, 4] ?_
 refine Qaf ?_
 refine Qae [0, 3, 4] (fun m e w' => ∃ (i : Nat), Is e [(0, .slice a l.length cap), (3, .int .u32 (Qa9 (l.take i) : Nat)), (4, .int .i64 i)] /\ Is w' w /\ i <= l.length /\ m = l.length - i) l.length ?_ ?_
 ·
  refine Qs ?_
  exact ⟨0, rfl, rfl, by omega, rfl⟩
 rintro m e w' ⟨i, rfl, rfl, hi, rfl⟩
 refine VS [0, 3, 4, 9] ?_
 refine VD (fun h => ?_) (fun h => ?_)
 ·
  refine VC_skip ?_
  refine VB ?_
  obtain ⟨p, rfl⟩ := Qbe hl (by omega)
  have hc : w'.cell? (p.add i) = some (.int .u32 ((l.getD i 0 : Nat) : Int)) := hl.2.2 p rfl i _ (Qkb (by omega))
  have hx := h32 _ (Qbl 0 (show i < l.length by omega))
  have hq := Qdq (l.take i) fun x hx => h32 x (List.mem_of_mem_take hx)
  have htk := Qb3 0 (l := l) (i := i) (by omega)
  have hnext := Qe8 (l.take i) (l.getD i 0)
  rw [<- htk] at hnext
  generalize Qa9 (l.take i) = q at *
  generalize l.getD i 0 = x at *
  have hor : (q * 2 % 4294967296) ||| q / 2147483648 = q % 2147483648 * 2 + q / 2147483648 := by
   have := Nat.two_pow_add_eq_or_of_lt (i := 1) (b := q / 2147483648) (by omega) (q % 2147483648)
   rw [show 2 ^ 1 * (q % 2147483648) = q * 2 % 4294967296 by omega] at this
   rw [<- this];omega
  rw [hor] at hnext
  refine VS [0, 3, 4, 5] ?_
  refine VQ [0, 3, 4] fun K hK => ?_
  (repeat first | refine Qo ?_ | refine Qp ?_)
  rw [show ((q : Int) % 2147483648 * 2 % 4294967296 + q / 2147483648 % 4294967296) % 4294967296 = ((q % 2147483648 * 2 + q / 2147483648 : Nat) : Int) by omega]
  have ho : q % 2147483648 * 2 + q / 2147483648 < 4294967296 := by omega
  generalize q % 2147483648 * 2 + q / 2147483648 = o at *
  apply hK;clear hK
  refine VQ [0, 3, 4] fun K hK => ?_
  refine ⟨⟨by omega, by omega⟩, _, hc, ?_⟩
  (try refine Qs ?_)
  refine ⟨⟨by omega, by omega⟩, ⟨by omega, by omega⟩, ?_⟩
  (try simp only [Int.toNat_natCast])
  rw [<- hnext]
  apply hK;clear hK
  refine Qam ?_
  refine VS [0, 3, 4] ?_
  refine Qab ?_
  refine Qs ?_
  exact ⟨l.length - (i + 1), by omega, i + 1, rfl, rfl, by omega, rfl⟩
 ·
  refine Qag rfl ?_
  refine VS [2] ?_
  rw [List.take_of_length_le (by omega)]
  exact VC_ret (VX_ret1 rfl rfl ⟨rfl, rfl⟩)
def tabV (l : List Nat) (hs : Nat -> Option Nat) : List Value := (List.range l.length).map fun j => match hs j with
 | none => .slice none 0 0
 | some g => .slice (some ⟨g, 0, none⟩) (l.getD j 0) (l.getD j 0)
theorem Qf2 (l : List Nat) (hs : Nat -> Option Nat) : (tabV l hs).length = l.length := by simp [tabV]
theorem Qme (l : List Nat) : tabV l (fun _ => none) = List.replicate l.length (.slice none 0 0) := by
 unfold tabV
 rw [List.map_const', List.length_range]
theorem Qut (l : List Nat) (hs : Nat -> Option Nat) (i g : Nat) : (tabV l hs).set i (.slice (some ⟨g, 0, none⟩) (l.getD i 0) (l.getD i 0)) = tabV l fun j => if j = i then some g else hs j := by
 apply List.ext_getElem?
 intro j
 rw [List.getElem?_set, Qf2]
 unfold tabV
 rw [List.getElem?_map, List.getElem?_map]
 by_cases e : i = j
 ·
  subst e
  by_cases hj : i < l.length
  ·
   rw [List.getElem?_range hj];simp [hj]
  ·
   rw [List.getElem?_eq_none (by simp;omega)];simp [hj]
 ·
  rw [if_neg e]
  by_cases hj : j < l.length
  ·
   rw [List.getElem?_range hj];simp [Ne.symm e]
  ·
   rw [List.getElem?_eq_none (by simp;omega)];rfl
def Qy0 (l : List Nat) (j g : Nat) : Res := Res.row 3 1 (some ⟨g, 0, none⟩) (l.getD j 0) (l.getD j 0) (Qal (bI (Qgw l j)))
def TabAt (w : World) (v : Value) (l : List Nat) : Prop :=
 ∃ p c, ∃ hs : Nat -> Addr, v = .slice (some p) l.length c /\ RS w (some p) l.length 1 ((List.range l.length).map fun j => .slice (some (hs j)) (l.getD j 0) (l.getD j 0)) /\
  ∀ j, j < l.length -> RS w (some (hs j)) (l.getD j 0) 1 (Qal (bI (Qgw l j)))
def TabG (G : List Res) (v : Value) (l : List Nat) : Prop := ∀ w : World, (∀ r ∈ G, r.holds w) -> TabAt w v l
theorem TabAt.keep {w w' : World} {v : Value} {l : List Nat} {G : List Res} (h : TabAt w v l) (hH : Heap w [] w' G) : TabAt w' v l := by
 obtain ⟨p, c, hs, h1, h2, h3⟩ := h
 exact ⟨p, c, hs, h1, hH.rs' h2, fun j hj => hH.rs' (h3 j hj)⟩
theorem Qvq {l : List Nat} (h : okL l) {n : Nat} (hn : n <= 20) : Qao l n + cnt l n <= 1048576 := by
 have h1 := Qfw h hn
 have h2 : 2 ^ n <= 2 ^ 20 := Nat.pow_le_pow_right (by omega) hn
 omega
theorem Qod (l : List Nat) (hok : okL l) (a : Option Addr) (lc : Nat) (w : World) (hr : RS w a l.length 1 (Qas l)) :
  Does Tryz.prog 113 #[.slice a l.length lc] w fun v w' => ∃ G, Heap w [] w' G /\ TabG G v l := by
 obtain ⟨o1, o2, o3, o4⟩ := id hok
 obtain ⟨p, rfl⟩ := Qbe hr (by omega)
 have h0 : Qao l 0 + cnt l 0 = 0 := by rw [Qer fun x hx => (o3 x hx).1];rfl
 refine En [.slice (some p) l.length lc] 44 Tryz.func113 ?_
 refine VS [0] ?_
 refine VQ [0, 3] fun K hK => ?_
 refine Qdc Tryz.underlying63 zi36 ?_
 refine Qs ?_
 refine ⟨l.length, l.length, ⟨rfl, rfl, by omega, by omega, by omega⟩, ?_⟩
 have hH := (Heap.start w).row 36 (n := l.length) (cap := l.length) (sz := 1) (tabV l fun _ => none) [] (by rw [Qf2];omega) (by rw [List.append_nil, Qf2];omega) (by omega) (by omega)
 rw [List.append_nil, Qme] at hH
 generalize w.alloc (Obj.cells (List.replicate l.length (Value.slice none 0 0)).toArray 36) = w1 at *
 generalize w.heap.size = g at *
 rw [<- Qme] at hH
 (try refine Qs ?_)
 apply hK;clear hK
 refine VS [0, 3, 4] ?_
 refine VS [0, 3, 4, 5] ?_
 refine Qaf ?_
 refine Qae [0, 3, 4, 5] (fun m e w' => ∃ (n : Nat) (hs : Nat -> Option Nat) (G : List Res), Is e [(0, .slice (some p) l.length lc), (3, .slice (some ⟨g, 0, none⟩) l.length l.length), (4, .int .i64 (Qao l n + cnt l n : Nat)), (5, .int .i64 (n + 1 : Nat))] /\ (Heap w [] w' (Res.row 36 1 (some ⟨g, 0, none⟩) l.length l.length (tabV l hs) :: G) /\ (∀ j gj, hs j = some gj -> Qy0 l j gj ∈ G)) /\ n <= 20 /\ (∀ j, j < l.length -> l.getD j 0 <= n -> (hs j).isSome = true) /\ m = 20 - n) 20 ?_ ?_
 ·
  refine Qs ?_
  refine ⟨0, _, [], ?_, ⟨hH, fun j gj h => by cases h⟩, by omega, fun j hj h => ?_, rfl⟩
  ·
   rw [h0];rfl
  ·
   have := Qi4 hok hj;omega
 clear hH
 rintro m e w' ⟨n, hs, G, rfl, ⟨hH, hG⟩, hn, hall, rfl⟩
 have hb20 := Qvq hok hn
 refine VS [0, 3, 4, 5, 13] ?_
 refine VD (fun h => ?_) (fun h => ?_)
 ·
  have hn' : n < 20 := by omega
  have hb21 := Qvq hok (show n + 1 <= 20 by omega)
  refine VC_skip ?_
  refine VB ?_
  have hf : Qao l (n + 1) = 2 * (Qao l n + cnt l n) := rfl
  refine VQ [0, 3, 4, 5] fun K hK => ?_
  (repeat first | refine Qo ?_ | refine Qp ?_)
  rw [show ((Qao l n + cnt l n : Nat) : Int) * 2 = ((Qao l (n + 1) : Nat) : Int) by omega]
  apply hK;clear hK
  refine VS [0, 3, 4, 5, 6] ?_
  refine Qaf ?_
  refine Qae [0, 3, 4, 5, 6] (fun m e w' => ∃ (i : Nat) (hs : Nat -> Option Nat) (G : List Res), Is e [(0, .slice (some p) l.length lc), (3, .slice (some ⟨g, 0, none⟩) l.length l.length), (4, .int .i64 (Qao l (n + 1) + (idxN l (n + 1) i).length : Nat)), (5, .int .i64 (n + 1 : Nat)), (6, .int .i64 i)] /\ (Heap w [] w' (Res.row 36 1 (some ⟨g, 0, none⟩) l.length l.length (tabV l hs) :: G) /\ (∀ j gj, hs j = some gj -> Qy0 l j gj ∈ G)) /\ i <= l.length /\ (∀ j, j < l.length -> l.getD j 0 <= n ∨ (l.getD j 0 = n + 1 /\ j < i) -> (hs j).isSome = true) /\ m = l.length - i) l.length ?_ ?_
  ·
   refine Qs ?_
   exact ⟨0, hs, G, rfl, ⟨hH, hG⟩, by omega, fun j hj h => hall j hj (by omega), rfl⟩
  clear hH hG hall
  clear G hs
  rintro m e w2 ⟨i, hs, G, rfl, ⟨hH, hG⟩, hi, hall, rfl⟩
  refine VS [0, 3, 4, 5, 6, 21] ?_
  refine VD (fun h => ?_) (fun h => ?_)
  ·
   have hi' : i < l.length := by omega
   have hcell := Qea (hH.rs' hr) hi'
   have hsu := Qdw l (n + 1) i
   refine VC_skip ?_
   refine VB ?_
   refine VQ [0, 3, 4, 5, 6, 29] fun K hK => ?_
   refine ⟨⟨by omega, by omega⟩, _, hcell, ?_⟩
   (try refine Qs ?_)
   (repeat refine Qo ?_);apply hK;clear hK
   refine VD (fun h => ?_) (fun h => ?_)
   ·
    have he : l.getD i 0 = n + 1 := by omega
    rw [if_pos he] at hsu
    have hcs : Qfv l i = Qao l (n + 1) + (idxN l (n + 1) i).length := by rw [Qfv, he]
    have hclt := (Qgz hok hi').2.1
    rw [he, hcs] at hclt
    have hwd : bitsN (n + 1) (Qao l (n + 1) + (idxN l (n + 1) i).length) = Qgw l i := by rw [Qgw, he, hcs]
    have hnx : Qao l (n + 1) + (idxN l (n + 1) (i + 1)).length = Qao l (n + 1) + (idxN l (n + 1) i).length + 1 := by rw [hsu, List.length_append];rfl
    generalize Qao l (n + 1) + (idxN l (n + 1) i).length = code at *
    refine VQ [0, 3, 4, 5, 6, 7] fun K hK => ?_
    rw [show (code : Int) % 18446744073709551616 = (code : Nat) by omega]
    refine MemK_call Tryz.call66 ?_;refine Qs ?_;refine CallK.mk (Qgg code (n + 1) (by omega) (by omega) w2) ?_
    rintro v w3 ⟨g2, hHb, rfl⟩
    rw [hwd] at hHb
    have hH2 := hH.call0 hHb
    simp only [List.singleton_append] at hH2
    clear hHb hH
    (try refine Qs ?_)
    apply hK;clear hK
    refine VQ [0, 3, 4, 5, 6] fun K hK => ?_
    refine Qp ?_
    refine Qac ?_
    refine Qs ?_
    refine Qbz hH2 1 (o := i) (vs := [.slice (some ⟨g2, 0, none⟩) (n + 1) (n + 1)]) rfl (by simp [Qdn]) rfl (by kernel_rfl) (by simp only [List.length_singleton, Qf2];omega) (by simp [Value.oneCell']) fun w4 hH3 => ?_
    have hset := Qut l hs i g2
    rw [he] at hset
    simp only [List.length_singleton, Qc4 _ _ _ (show i < (tabV l hs).length by rw [Qf2];omega), List.set_cons_zero, List.set_cons_succ] at hH3
    rw [hset] at hH3
    have hH4 := hH3.perm (.swap _ _ _)
    clear hH2 hH3
    (try refine Qs ?_)
    apply hK;clear hK
    refine VQ [0, 3, 4, 5, 6] fun K hK => ?_
    (repeat first | refine Qo ?_ | refine Qp ?_)
    rw [show (code : Int) + 1 = ((code + 1 : Nat) : Int) by push_cast;rfl, <- hnx]
    apply hK;clear hK
    refine Qam ?_
    refine VS [0, 3, 4, 5, 6] ?_
    refine Qab ?_
    refine Qs ?_
    refine ⟨l.length - (i + 1), by omega, i + 1, _, _, rfl, ⟨hH4, fun j gj hj => ?_⟩, by omega, fun j hj hh => ?_, rfl⟩
    ·
     by_cases e : j = i
     ·
      subst e
      rw [if_pos rfl] at hj
      cases hj
      refine List.mem_cons.2 (.inl ?_)
      unfold Qy0
      rw [he]
     ·
      rw [if_neg e] at hj
      exact List.mem_cons_of_mem _ (hG j gj hj)
    ·
     by_cases e : j = i
     ·
      rw [if_pos e];rfl
     ·
      rw [if_neg e];exact hall j hj (by omega)
   ·
    have he : l.getD i 0 ≠ n + 1 := by omega
    rw [if_neg he, List.append_nil] at hsu
    refine VC_skip ?_
    refine Qam ?_
    refine VS [0, 3, 4, 5, 6] ?_
    refine Qab ?_
    refine Qs ?_
    refine ⟨l.length - (i + 1), by omega, i + 1, hs, G, by rw [hsu];rfl, ⟨hH, hG⟩, by omega, fun j hj hh => hall j hj ?_, rfl⟩
    by_cases e : j = i
    ·
     subst e;omega
    ·
     omega
  ·
   obtain rfl : i = l.length := by omega
   refine Qag rfl ?_
   refine Qam ?_
   refine VS [0, 3, 4, 5] ?_
   refine Qab ?_
   refine Qs ?_
   exact ⟨20 - (n + 1), by omega, n + 1, hs, G, by push_cast;rfl, ⟨hH, hG⟩, by omega, fun j hj hh => hall j hj (by omega), rfl⟩
 ·
  obtain rfl : n = 20 := by omega
  refine Qag rfl ?_
  refine VS [2] ?_
  refine VC_ret (VX_ret1 rfl rfl ⟨_, hH, fun u hu => ?_⟩)
  refine ⟨⟨g, 0, none⟩, l.length, fun j => ⟨(hs j).getD 0, 0, none⟩, rfl, ?_, fun j hj => ?_⟩
  ·
   have hr0 := Qaz (hu _ (List.mem_cons_self ..))
   have e : tabV l hs = (List.range l.length).map fun j => Value.slice (some ⟨(hs j).getD 0, 0, none⟩) (l.getD j 0) (l.getD j 0) := by
    unfold tabV
    refine List.map_congr_left fun j hj => ?_
    have hj := List.mem_range.1 hj
    have := hall j hj (Qi4 hok hj).2
    obtain ⟨gj, hgj⟩ := Option.isSome_iff_exists.1 this
    rw [hgj];rfl
   rw [e] at hr0
   exact hr0
  ·
   have := hall j hj (Qi4 hok hj).2
   obtain ⟨gj, hgj⟩ := Option.isSome_iff_exists.1 this
   show RS u (some ⟨(hs j).getD 0, 0, none⟩) _ _ _
   rw [hgj]
   exact Qaz (hu _ (List.mem_cons_of_mem _ (hG j gj hgj)))
set_option maxHeartbeats 2000000
theorem Qkf {w b : List Bool} {k : Nat} (hw : k < w.length) (hb : k < b.length) : w.take (k + 1) = b.take (k + 1) ↔ (w.take k = b.take k /\ w.getD k false = b.getD k false) := by
 rw [Qb3 false hw, Qb3 false hb]
 constructor
 ·
  intro h
  have := List.append_inj' h rfl
  exact ⟨this.1, by simpa using this.2⟩
 ·
  rintro ⟨h1, h2⟩;rw [h1, h2]
theorem QBz (a b : Bool) : ((if a = true then 1 else 0 : Int) = (if b = true then 1 else 0)) ↔ a = b := by cases a <;> cases b <;> simp
theorem Qkg (l : List Nat) (b : List Bool) : ∀ m, Qeu l b m <= m
 | 0 => Nat.le_refl _
 | m + 1 => by have := Qkg l b m;rw [Qeu];split <;> omega
theorem Qh2 (l : List Nat) (b : List Bool) : ∀ m, -1 <= isS l b m /\ isS l b m < m ∨ isS l b m = -1
 | 0 => .inr rfl
 | m + 1 => by
  rw [isS]
  split
  ·
   left;omega
  ·
   rcases Qh2 l b m with h | h <;> omega
theorem Qmf (l : List Nat) (hok : okL l) (b : List Bool) (hb : b.length <= 20) (v : Value) (ab : Option Addr) (cb : Nat) (w : World) (ht : TabAt w v l) (hrb : RS w ab b.length 1 (Qal (bI b))) :
  Does Tryz.prog 156 #[v, .slice ab b.length cb] w fun x w' => w' = w /\ x = .tuple #[.int .i64 (Qeu l b l.length : Nat), .int .i64 (isS l b l.length)] := by
 obtain ⟨p, c, hs, rfl, hrT, hrW⟩ := ht
 obtain ⟨o1, o2, o3, o4⟩ := id hok
 refine En [.slice (some p) l.length c, .slice ab b.length cb] 60 Tryz.func156 ?_
 refine VS [0, 1] ?_
 refine VS [0, 1, 6] ?_
 refine VS [0, 1, 6, 7] ?_
 refine VS [0, 1, 6, 7, 8] ?_
 refine Qaf ?_
 refine Qae [0, 1, 6, 7, 8] (fun m e w' => ∃ (i : Nat), Is e [(0, .slice (some p) l.length c), (1, .slice ab b.length cb), (6, .int .i64 (Qeu l b i : Nat)), (7, .int .i64 (isS l b i)), (8, .int .i64 i)] /\ Is w' w /\ i <= l.length /\ m = l.length - i) l.length ?_ ?_
 ·
  refine Qs ?_
  exact ⟨0, rfl, rfl, by omega, rfl⟩
 rintro m e w' ⟨i, rfl, rfl, hi, rfl⟩
 refine VS [0, 1, 6, 7, 8, 14] ?_
 refine VD (fun h => ?_) (fun h => ?_)
 ·
  have hi' : i < l.length := by omega
  have hct : w'.cell? (p.add i) = some (.slice (some (hs i)) (l.getD i 0) (l.getD i 0)) := hrT.2.2 p rfl i _ (by rw [List.getElem?_map, List.getElem?_range hi'];rfl)
  have hwr := hrW i hi'
  have hwl := Qgr l i
  have hL := Qi4 hok hi'
  have hmn : Qeu l b (i + 1) = if begW l b i = true then Qeu l b i + 1 else Qeu l b i := rfl
  have his : isS l b (i + 1) = if begW l b i = true /\ l.getD i 0 = b.length then (i : Int) else isS l b i := rfl
  have hml := Qkg l b i
  have hil := Qh2 l b i
  have hbw : begW l b i = decide ((Qgw l i).take b.length = b) := rfl
  generalize Qeu l b i = mn at *
  generalize isS l b i = si at *
  refine VC_skip ?_
  refine VB ?_
  refine VQ [0, 1, 6, 7, 8, 9] fun K hK => ?_
  refine ⟨⟨by omega, by omega⟩, _, hct, ?_⟩
  (try refine Qs ?_)
  (repeat refine Qo ?_);apply hK;clear hK
  refine VS [0, 1, 6, 7, 8, 9, 10] ?_
  refine Qaf ?_
  refine Qae [0, 1, 6, 7, 8, 9, 10] (fun m e w2 => ∃ (k : Nat) (sm : Bool), Is e [(0, .slice (some p) l.length c), (1, .slice ab b.length cb), (6, .int .i64 mn), (7, .int .i64 si), (8, .int .i64 i), (9, .bool sm), (10, .int .i64 k)] /\ Is w2 w' /\ k <= b.length /\ (sm = true ↔ b.length <= l.getD i 0 /\ (Qgw l i).take k = b.take k) /\ m = b.length - k) b.length ?_ ?_
  ·
   refine Qs ?_
   exact ⟨0, _, rfl, rfl, by omega, by simp, rfl⟩
  rintro m e w2 ⟨k, sm, rfl, rfl, hk, hsm, rfl⟩
  refine VQ [0, 1, 6, 7, 8, 9, 10, 31] fun K hK => ?_
  suffices out : ∀ bb : Bool, (bb = true ↔ sm = true /\ k < b.length) -> K [(0, .slice (some p) l.length c), (1, .slice ab b.length cb), (6, .int .i64 mn), (7, .int .i64 si), (8, .int .i64 i), (9, .bool sm), (10, .int .i64 k), (31, .bool bb)] w2 by
   cases sm with
   | false => exact ⟨fun h => (by cases h), fun _ => out _ (by simp)⟩
   | true => exact ⟨fun _ => out _ (by simp), fun h => (by simp at h)⟩
  intro bb hbb
  apply hK;clear hK
  refine Vi (fun h => ?_) (fun h => ?_)
  ·
   obtain ⟨h1, h2⟩ := hbb.1 h
   obtain ⟨h3, h4⟩ := hsm.1 h1
   obtain ⟨q, rfl⟩ := Qbe hrb (by omega)
   have hc1 := Qde hwr (i := k) (by rw [bI_len];omega)
   rw [Qep (by omega)] at hc1
   have hc2 := Qde hrb (i := k) (by rw [bI_len];omega)
   rw [Qep (by omega)] at hc2
   have hts := Qkf (w := Qgw l i) (b := b) (k := k) (by omega) h2
   refine VC_skip ?_
   refine VB ?_
   refine Vq [0, 1, 6, 7, 8, 9, 10] fun K hK => ?_
   refine ⟨⟨by omega, by omega⟩, _, hct, ?_⟩
   (try refine Qs ?_)
   refine ⟨⟨by omega, by omega⟩, _, hc1, ⟨by omega, by omega⟩, _, hc2, ?_⟩
   (try refine Qs ?_)
   apply hK;clear hK
   refine Qam ?_
   refine VS [0, 1, 6, 7, 8, 9, 10] ?_
   refine Qab ?_
   refine Qs ?_
   refine ⟨b.length - (k + 1), by omega, k + 1, _, rfl, rfl, by omega, ?_, rfl⟩
   rw [decide_eq_true_eq, QBz, hts]
   exact ⟨fun e => ⟨h3, h4, e⟩, fun e => e.2.2⟩
  ·
   have hsb : sm = begW l b i := by
    rw [hbw, Bool.eq_iff_iff, decide_eq_true_eq, hsm]
    by_cases hkl : k < b.length
    ·
     have hs0 : ¬ sm = true := fun e => by rw [hbb.2 ⟨e, hkl⟩] at h;cases h
     rw [hsm] at hs0
     refine ⟨fun e => (hs0 e).elim, fun e => (hs0 ?_).elim⟩
     have hl := congrArg List.length e
     rw [List.length_take] at hl
     refine ⟨by omega, ?_⟩
     have := congrArg (List.take k) e
     rwa [List.take_take, Nat.min_eq_left (by omega)] at this
    ·
     obtain rfl : k = b.length := by omega
     rw [List.take_length]
     refine ⟨fun e => e.2, fun e => ⟨?_, e⟩⟩
     have hl := congrArg List.length e
     rw [List.length_take] at hl
     omega
   clear hbb hsm h
   subst hsb
   refine Qag rfl ?_
   refine VS [0, 1, 6, 7, 8, 46] ?_
   refine Vi (fun h => ?_) (fun h => ?_)
   ·
    rw [h, if_pos rfl] at hmn
    rw [h] at his
    refine VS [0, 1, 6, 7, 8] ?_
    refine VQ [0, 1, 6, 7, 8, 56] fun K hK => ?_
    refine ⟨⟨by omega, by omega⟩, _, hct, ?_⟩
    (try refine Qs ?_)
    (repeat refine Qo ?_);apply hK;clear hK
    refine Qaa rfl rfl (fun h2 => ?_) (fun h2 => ?_)
    ·
     simp only [decide_eq_true_eq] at h2
     rw [if_pos ⟨rfl, by omega⟩] at his
     refine VS [0, 1, 6, 7, 8] ?_
     refine Qam ?_
     refine VS [0, 1, 6, 7, 8] ?_
     refine Qab ?_
     refine Qs ?_
     exact ⟨l.length - (i + 1), by omega, i + 1, by rw [hmn, his];push_cast;rfl, rfl, by omega, rfl⟩
    ·
     simp only [decide_eq_false_iff_not] at h2
     rw [if_neg (by omega)] at his
     refine VC_skip ?_
     refine Qam ?_
     refine VS [0, 1, 6, 7, 8] ?_
     refine Qab ?_
     refine Qs ?_
     exact ⟨l.length - (i + 1), by omega, i + 1, by rw [hmn, his];push_cast;rfl, rfl, by omega, rfl⟩
   ·
    rw [h, if_neg (by simp)] at hmn
    rw [h, if_neg (by simp)] at his
    refine VC_skip ?_
    refine Qam ?_
    refine VS [0, 1, 6, 7, 8] ?_
    refine Qab ?_
    refine Qs ?_
    exact ⟨l.length - (i + 1), by omega, i + 1, by rw [hmn, his];rfl, rfl, by omega, rfl⟩
 ·
  obtain rfl : i = l.length := by omega
  refine Qag rfl ?_
  refine VS [4, 5] ?_
  exact VC_ret (Qaj rfl rfl rfl ⟨rfl, rfl⟩)
def exN (r : Except Int (Nat × Nat)) : Value := match r with
 | .ok q => .tuple #[.int .i64 q.1, .int .i64 q.2, .int .i64 0]
 | .error e => .tuple #[.int .i64 0, .int .i64 0, .int .i64 e]
theorem Qql (l : List Nat) (hok : okL l) (bits : List Bool) (at_ : Nat) (hat : at_ <= bits.length) (hl : bits.length <= 1000000000000) (v : Value) (a : Option Addr) (c : Nat) (w : World) (ht : TabAt w v l) (hs : SL w a bits.length c (Qal (bI bits))) :
  Does Tryz.prog 114 #[v, .slice a bits.length c, .int .i64 at_] w fun x w' => w' = w /\ x = exN (Qdt l bits at_) := by
 rw [<- Quj hok hat]
 generalize hres : Qls l bits at_ 20 1 = res
 have hlc := hs.2.1
 obtain ⟨o1, o2, o3, o4⟩ := id hok
 refine En [v, .slice a bits.length c, .int .i64 at_] 41 Tryz.func114 ?_
 refine VS [0, 1, 2] ?_
 refine VS [0, 1, 2, 9] ?_
 refine Qaf ?_
 refine Qae [0, 1, 2, 9] (fun m e w' => ∃ (f n : Nat), Is e [(0, v), (1, .slice a bits.length c), (2, .int .i64 at_), (9, .int .i64 n)] /\ Is w' w /\ f + n = 21 /\ 1 <= n /\ Qls l bits at_ f n = res /\ m = f) 20 ?_ ?_
 ·
  refine Qs ?_
  exact ⟨20, 1, rfl, rfl, by omega, by omega, hres, rfl⟩
 clear hres
 rintro m e w' ⟨f, n, rfl, rfl, hf, hn, hres, hm⟩
 refine VS [0, 1, 2, 9, 13] ?_
 refine VD (fun h => ?_) (fun h => ?_)
 ·
  obtain ⟨f, rfl⟩ : ∃ f', f = f' + 1 := ⟨f - 1, by omega⟩
  rw [Qls] at hres
  refine VC_skip ?_
  refine VB ?_
  refine VS [0, 1, 2, 9, 21] ?_
  refine VD (fun h => ?_) (fun h => VC_skip ?_)
  ·
   rw [if_pos (by omega)] at hres
   subst hres
   refine VS [6, 7, 8] ?_
   exact VC_ret (Qap rfl rfl rfl rfl ⟨rfl, rfl⟩)
  rw [if_neg (by omega)] at hres
  have hcut := hs.cut at_ n (by omega)
  have e1 : ((Qal (bI bits)).drop at_).take n = Qal (bI ((bits.drop at_).take n)) := by
   rw [<- Qjv, <- Qju];simp [Qal, List.map_take, List.map_drop]
  have e2 : ((bits.drop at_).take n).length = n := by rw [List.length_take, List.length_drop];omega
  rw [e1] at hcut
  generalize (bits.drop at_).take n = b at *
  have hib := Qh2 l b l.length
  have hml := Qkg l b l.length
  refine VQ [0, 1, 2, 9, 10, 11] fun K hK => ?_
  refine ⟨I64.mk (by omega) (by omega), ⟨by omega, by omega, by omega⟩, ?_⟩
  rw [show at_ + n - at_ = n by omega]
  generalize (if c = at_ then a else a.map fun x => x.add at_) = a2 at *
  have hbg := Qmf l hok b (by omega) v a2 (c - at_) w' ht (by rw [e2];exact hcut)
  rw [e2] at hbg
  generalize isS l b l.length = si at *
  generalize Qeu l b l.length = mn at *
  refine MemK_call Tryz.call156 ?_;refine Qs ?_;refine CallK.mk hbg ?_
  rintro v w3 ⟨rfl, rfl⟩
  (try refine Qs ?_)
  apply hK;clear hK
  refine VS [0, 1, 2, 9, 10, 11, 34] ?_
  refine VD (fun h => ?_) (fun h => VC_skip ?_)
  ·
   rw [if_pos h] at hres
   subst hres
   refine VS [6, 7, 8] ?_
   refine VC_ret (Qap rfl rfl rfl rfl ⟨rfl, ?_⟩)
   simp only [exN]
   rw [show (si : Int) = ((si.toNat : Nat) : Int) by omega]
   push_cast
   rfl
  rw [if_neg h] at hres
  refine VS [0, 1, 2, 9, 40] ?_
  refine VD (fun h => ?_) (fun h => VC_skip ?_)
  ·
   rw [if_pos (by omega)] at hres
   subst hres
   refine VS [6, 7, 8] ?_
   exact VC_ret (Qap rfl rfl rfl rfl ⟨rfl, rfl⟩)
  rw [if_neg (by omega)] at hres
  refine Qam ?_
  refine VS [0, 1, 2, 9] ?_
  refine Qab ?_
  refine Qs ?_
  exact ⟨f, by omega, f, n + 1, by push_cast;rfl, rfl, by omega, by omega, hres, rfl⟩
 ·
  obtain rfl : f = 0 := by omega
  rw [Qls] at hres
  subst hres
  refine Qag rfl ?_
  refine VS [6, 7, 8] ?_
  exact VC_ret (Qap rfl rfl rfl rfl ⟨rfl, rfl⟩)
theorem Qo5 {l : List Bool} {n i : Nat} (hl : l.length = n) (hi : i < n) : (numB l / 2 ^ (n - 1 - i)) % 2 = (l.getD i false).toNat := by
 rw [Qdg]
 have h := Qfq n (numB l) i hi
 rw [<- hl, Qiy, hl] at h
 rw [List.getD_eq_getElem?_getD, h];rfl
theorem Qmg {l : List Bool} (hl : l.length = 16) : numB l < 65536 := by have := Qba l;rw [hl] at this;exact this
def exV (r : Except Int (List UInt8 × Nat)) : Value := match r with
 | .ok q => .tuple #[Str q.1, .int .i64 q.2, .int .i64 0]
 | .error e => .tuple #[Str [], .int .i64 0, .int .i64 e]
def Qbf (i : Nat) (row : List Bool) (n : Nat) : List UInt8 := ((List.range n).filter fun k => row.getD k false).map fun k => UInt8.ofNat (16 * i + k)
theorem Qe9 (i : Nat) (row : List Bool) (n : Nat) : Qbf i row (n + 1) = Qbf i row n ++ if row.getD n false = true then [UInt8.ofNat (16 * i + n)] else [] := by
 unfold Qbf
 rw [List.range_succ, List.filter_append, List.map_append]
 congr 1
 by_cases h : row.getD n false = true
 ·
  rw [if_pos h, List.filter_cons_of_pos (p := fun k => row.getD k false) h];rfl
 ·
  rw [if_neg h, List.filter_cons_of_neg (p := fun k => row.getD k false) h];rfl
theorem Qd8 (i : Nat) (row : List Bool) (n : Nat) : (Qbf i row n).length <= n := by
 unfold Qbf;rw [List.length_map];exact Nat.le_trans (List.length_filter_le _ _) (by simp)
theorem Qmh (s : List UInt8) (at_ : Nat) (ha : at_ <= 8 * s.length) (hs : s.length <= 100000000000000) (w : World) :
  Does Tryz.prog 46 #[Str s, .int .i64 at_] w fun v w' => Heap w [] w' [] /\ v = exV (Qbi (bytesB s) at_) := by
 have hbl := bytesB_length s
 generalize hbits : bytesB s = bits at *
 generalize hres : Qbi bits at_ = res
 unfold Qbi at hres
 refine En [Str s, .int .i64 at_] 74 Tryz.func46 ?_
 refine VS [0, 1] ?_
 refine VQ [7] fun K hK => ?_
 refine MemK_call Tryz.call86 ?_;refine Qs ?_;refine CallK.mk (Qbj s at_ w (I64.mk (by omega) (by omega)) (by omega)) ?_
 rintro v w2 (⟨hbad, _⟩ | ⟨_, gr, gs, hH, rfl⟩)
 ·
  omega
 rw [Int.toNat_natCast] at hH
 apply hK;clear hK
 refine VS [7, 19] ?_
 refine Qaa rfl rfl (fun h => by cases h) (fun h => VC_skip ?_)
 refine VQ [7, 8, 9] fun K hK => ?_
 refine MemK_call Tryz.call87 ?_;refine Qs ?_;refine CallK.mk (Qcb gr gs s at_ 16 w2 (by omega) (by omega) (by omega) (hH.focus 0 rfl)) ?_
 rintro v w3 (⟨h1, rfl, rfl⟩ | ⟨h1, hH2, rfl⟩)
 ·
  rw [if_pos (by omega)] at hres
  subst hres
  apply hK;clear hK
  refine VS [7, 8, 9, 26] ?_
  refine Qaa rfl rfl (fun h => ?_) (fun h => by cases h)
  refine VS [4, 5, 6] ?_
  exact VC_ret (Qap rfl rfl rfl rfl ⟨hH.sub (by simp), rfl⟩)
 rw [if_neg (by omega)] at hres
 have hH3 := hH.call1 0 rfl hH2
 clear hH2 hH
 rw [hbits]
 have hfl : ((bits.drop at_).take 16).length = 16 := by rw [List.length_take, List.length_drop];omega
 generalize (bits.drop at_).take 16 = fl at *
 have hfl2 := Qmg hfl
 apply hK;clear hK
 refine VS [7, 8, 9, 26] ?_
 refine Qaa rfl rfl (fun h => by cases h) (fun h => VC_skip ?_)
 refine VQ [7, 8, 10] fun K hK => ?_
 refine Qbg hH3 (bytesV []) (xs := []) Tryz.underlying43 sz5 rfl rfl rfl (by omega) ?_;refine Qs ?_;refine ⟨rfl, by simp [Value.cells], fun g w4 hH4 => ?_⟩;(try refine Qs ?_)
 apply hK;clear hK
 refine VS [7, 8, 10, 29] ?_
 refine Qaf ?_
 refine Qae [7, 8, 10, 29] (fun m e w' => ∃ (i cap p : Nat) (a : Option Addr) (out : List UInt8), Is e [(7, .pointer (some ⟨gr, 0, none⟩)), (8, .int .u64 (numB fl)), (10, .slice a out.length cap), (29, .int .i64 i)] /\ Heap w [] w' [Res.row 5 1 a out.length cap (bytesV out), rd gr gs s p] /\ i <= 16 /\ p <= 8 * s.length /\ out.length <= 16 * i /\ (match stGo bits (fl.drop i) i p with | .error e => .error e | .ok q => if out ++ q.1 = [] then .error 60 else .ok (out ++ q.1, q.2)) = res /\ m = 16 - i) 16 ?_ ?_
 ·
  refine Qs ?_
  refine ⟨0, _, at_ + 16, _, [], rfl, hH4, by omega, by omega, by simp, ?_, rfl⟩
  rw [List.drop_zero, <- hres]
  cases stGo bits fl 0 (at_ + 16) <;> rfl
 clear hH3 hH4 hres
 rintro m e w' ⟨i, cap, p, a, out, rfl, hH, hi, hp, hol, hres, rfl⟩
 refine VS [7, 8, 10, 29, 30] ?_
 (repeat refine Qay ?_)
 refine VD (fun h => ?_) (fun h => ?_)
 ·
  have hdi : fl.drop i = fl.getD i false :: fl.drop (i + 1) := Qa1 false (by omega)
  rw [hdi] at hres
  have hbit := Qo5 hfl (i := i) (by omega)
  refine VC_skip ?_
  refine VB ?_
  refine VS [7, 8, 10, 11, 29] ?_
  have hsh : shN IntKind.u64 ((15 - (i : Int)) % 18446744073709551616) = 16 - 1 - i := Qnj (by omega) (by simp [IntKind.bits];omega) (by decide)
  refine VQ [7, 8, 10, 11, 29, 38] fun K hK => ?_
  rw [hsh, Qfn]
  have hle := Nat.div_le_self (numB fl) (2 ^ (16 - 1 - i))
  generalize numB fl / 2 ^ (16 - 1 - i) = q at *
  (repeat first | refine Qo ?_ | refine Qp ?_)
  rw [show Int.toNat 1 = 1 from rfl, Int.toNat_natCast, Nat.and_one_is_mod, hbit]
  apply hK;clear hK
  cases hfi : fl.getD i false with
  | false =>
   rw [hfi, stGo] at hres
   refine Qaa rfl rfl (fun h => ?_) (fun h => by simp [hfi] at h)
   refine Qag rfl ?_
   refine VS [7, 8, 10, 29] ?_
   refine Qab ?_
   refine Qs ?_
   exact ⟨16 - (i + 1), by omega, i + 1, cap, p, a, out, rfl, hH, by omega, hp, by omega, hres, rfl⟩
  | true =>
   rw [hfi, stGo] at hres
   refine Qaa rfl rfl (fun h => by simp [hfi] at h) (fun h => VC_skip ?_)
   refine VQ [7, 8, 10, 11, 12, 13, 29] fun K hK => ?_
   refine MemK_call Tryz.call87 ?_;refine Qs ?_;refine CallK.mk (Qcb gr gs s p 16 w' (by omega) (by omega) (by omega) (hH.focus 1 rfl)) ?_
   rintro v w3 (⟨h1, rfl, rfl⟩ | ⟨h1, hH2, rfl⟩)
   ·
    rw [if_pos (by omega)] at hres
    subst hres
    apply hK;clear hK
    refine VS [7, 8, 10, 11, 12, 13, 29, 45] ?_
    refine Qaa rfl rfl (fun h => ?_) (fun h => by cases h)
    refine VS [4, 5, 6] ?_
    exact VC_ret (Qap rfl rfl rfl rfl ⟨hH.sub (by simp), rfl⟩)
   rw [if_neg (by omega)] at hres
   have hH3 := hH.call1 1 rfl hH2
   simp only [List.set_cons_succ, List.set_cons_zero, List.nil_append] at hH3
   clear hH2 hH
   rw [hbits]
   have hrow : ((bits.drop p).take 16).length = 16 := by rw [List.length_take, List.length_drop];omega
   generalize (bits.drop p).take 16 = row at *
   have hrow2 := Qmg hrow
   apply hK;clear hK
   refine VS [7, 8, 10, 11, 12, 13, 29, 45] ?_
   refine Qaa rfl rfl (fun h => by cases h) (fun h => VC_skip ?_)
   refine VS [7, 8, 10, 11, 12, 29, 47] ?_
   refine Qaf ?_
   refine Qae [7, 8, 10, 11, 12, 29, 47] (fun m e w' => ∃ (k cap : Nat) (a : Option Addr), Is e [(7, .pointer (some ⟨gr, 0, none⟩)), (8, .int .u64 (numB fl)), (10, .slice a (out ++ Qbf i row k).length cap), (11, .int .i64 i), (12, .int .u64 (numB row)), (29, .int .i64 i), (47, .int .i64 k)] /\ Heap w [] w' [Res.row 5 1 a (out ++ Qbf i row k).length cap (bytesV (out ++ Qbf i row k)), rd gr gs s (p + 16)] /\ k <= 16 /\ m = 16 - k) 16 ?_ ?_
   ·
    refine Qs ?_
    have e0 : out ++ Qbf i row 0 = out := by simp [Qbf]
    refine ⟨0, cap, a, by rw [e0];rfl, by rw [e0];exact hH3, by omega, rfl⟩
   clear hH3
   rintro m e w4 ⟨k, cap, a, rfl, hH, hk, rfl⟩
   refine VS [7, 8, 10, 11, 12, 29, 47, 48] ?_
   (repeat refine Qay ?_)
   refine VD (fun h => ?_) (fun h => ?_)
   ·
    have hbk := Qo5 hrow (i := k) (by omega)
    have hsucc := Qe9 i row k
    have hlen := Qd8 i row k
    refine VC_skip ?_
    refine VB ?_
    refine VS [7, 8, 10, 11, 12, 14, 29, 47] ?_
    have hsh2 : shN IntKind.u64 ((15 - (k : Int)) % 18446744073709551616) = 16 - 1 - k := Qnj (by omega) (by simp [IntKind.bits];omega) (by decide)
    refine VQ [7, 8, 10, 11, 12, 14, 29, 47, 56] fun K hK => ?_
    rw [hsh2, Qfn]
    have hle2 := Nat.div_le_self (numB row) (2 ^ (16 - 1 - k))
    generalize numB row / 2 ^ (16 - 1 - k) = q2 at *
    (repeat first | refine Qo ?_ | refine Qp ?_)
    rw [show Int.toNat 1 = 1 from rfl, Int.toNat_natCast, Nat.and_one_is_mod, hbk]
    apply hK;clear hK
    cases hrk : row.getD k false with
    | true =>
     rw [hrk, if_pos rfl] at hsucc
     refine Qaa rfl rfl (fun h => ?_) (fun h => by simp [hrk] at h)
     refine VQ [7, 8, 10, 11, 12, 29, 47] fun K hK => ?_
     (repeat first | refine Qo ?_ | refine Qp ?_)
     rw [show ((16 * (i : Int) + k) % 256) = ((UInt8.ofNat (16 * i + k)).toNat : Int) by rw [UInt8.toNat_ofNat'];omega]
     refine Qa6 (xs := [.tmp 62]) Tryz.underlying43 sz5 rfl rfl rfl (by omega) ?_;refine Qs ?_;refine ⟨by simp [Value.cells], ?_⟩
     refine Qai ?_;refine Qs ?_;refine Qc1 hH 0 (UInt8.ofNat (16 * i + k)) rfl Tryz.underlying43 zi5 (by first | rfl | (simp;done) | omega) (fun h => by (first | omega | (simp;done) | (simp;omega))) fun a' cap' w5 hc' hH4 => ?_;(try refine Qs ?_)
     rw [List.append_assoc, <- hsucc] at hH4 ⊢
     apply hK;clear hK
     refine Qam ?_
     refine VS [7, 8, 10, 11, 12, 29, 47] ?_
     refine Qab ?_
     refine Qs ?_
     exact ⟨16 - (k + 1), by omega, k + 1, cap', a', rfl, hH4, by omega, rfl⟩
    | false =>
     rw [hrk, if_neg (by simp), List.append_nil] at hsucc
     refine Qaa rfl rfl (fun h => by simp [hrk] at h) (fun h => VC_skip ?_)
     refine Qam ?_
     refine VS [7, 8, 10, 11, 12, 29, 47] ?_
     refine Qab ?_
     refine Qs ?_
     exact ⟨16 - (k + 1), by omega, k + 1, cap, a, by rw [hsucc];rfl, by rw [hsucc];exact hH, by omega, rfl⟩
   ·
    obtain rfl : k = 16 := by omega
    have hlen := Qd8 i row 16
    refine Qag rfl ?_
    refine Qam ?_
    refine VS [7, 8, 10, 29] ?_
    refine Qab ?_
    refine Qs ?_
    refine ⟨16 - (i + 1), by omega, i + 1, cap, p + 16, a, out ++ Qbf i row 16, rfl, hH, by omega, by omega, by simp;omega, ?_, rfl⟩
    rw [<- hres]
    cases stGo bits (fl.drop (i + 1)) (i + 1) (p + 16) with
    | error e => rfl
    | ok q => simp only [List.append_assoc];rfl
 ·
  obtain rfl : i = 16 := by omega
  rw [List.drop_eq_nil_of_le (by omega), stGo] at hres
  simp only [List.append_nil] at hres
  refine Qag rfl ?_
  refine VS [7, 10, 69] ?_
  refine VD (fun h => ?_) (fun h => VC_skip ?_)
  ·
   rw [if_pos (List.eq_nil_of_length_eq_zero (by omega))] at hres
   subst hres
   refine VS [4, 5, 6] ?_
   exact VC_ret (Qap rfl rfl rfl rfl ⟨hH.sub (by simp), rfl⟩)
  rw [if_neg (fun e => h (by rw [e];rfl))] at hres
  subst hres
  refine Vq [4, 5, 6] fun K hK => ?_
  refine ⟨out, hH.readsBytes 0 rfl, ?_⟩
  refine Qnc Tryz.call100 ?_;refine Qs ?_;refine QCallK.mk (Qht gr gs p s w' (hH.at 1 rfl)) ?_
  apply hK;clear hK
  exact VC_ret (Qap rfl rfl rfl rfl ⟨hH.sub (by simp), rfl⟩)
open Go.Sort (swp insInner insOuter insertionSort)
def arr (g cap : Nat) (d : Array Int) : Res := Res.row 3 1 (some ⟨g, 0, none⟩) d.size cap (Qal d.toList)
abbrev sl (g cap : Nat) (d : Array Int) : Value := .slice (some ⟨g, 0, none⟩) d.size cap
theorem Quu {g cap : Nat} {d : Array Int} {w : World} (h : (arr g cap d).holds w) {k : Nat} (hk : k < d.size) : w.cell? ⟨g, k, none⟩ = some (.int .i64 d[k]!) := by
 refine Qa0 h ?_
 rw [Qbd (by simpa using hk)]
 congr 2
 simp only [List.getD_eq_getElem?_getD, getElem!_def, Array.getElem?_toList]
 cases d[k]? <;> rfl
theorem Qqm {w0 w : World} {B : List Nat} {G : List Res} (hH : Heap w0 B w G) (i : Nat) {g cap o : Nat} {d : Array Int} {ap : Addr} {x : Int} {C : World -> Prop} (hi : G[i]? = some (arr g cap d)) (hp : ap = ⟨g, o, none⟩) (ho : o < d.size)
  (h : ∀ w', Heap w0 B w' (G.set i (arr g cap (d.setIfInBounds o x))) -> C w') : Qd9 Tryz.prog 3 (.pointer (some ap)) (.int .i64 x) w C := by
 refine Qbz hH i (o := o) (vs := [.int .i64 x]) hi (by rw [hp];simp [Qdn]) rfl (by kernel_rfl) (by rw [Qbw];simp;omega) (by simp [Value.oneCell']) fun w' hw => h w' ?_
 have e : (Qal d.toList).take o ++ [.int .i64 x] ++ (Qal d.toList).drop (o + [Value.int .i64 x].length) = Qal (d.setIfInBounds o x).toList := by
  rw [List.length_singleton, Qc4 (Qal d.toList) _ _ (by rw [Qbw];simpa using ho), Qld, Array.toList_setIfInBounds]
 rw [e] at hw
 unfold arr
 rwa [Array.size_setIfInBounds]
structure Cmp (fv : Value) (cf : Int -> Int -> Int) (Q : Int -> Prop) (R : Res) : Prop where
 i64 : ∀ x y, Q x -> Q y -> -9223372036854775808 <= cf x y /\ cf x y <= 9223372036854775807
 run : ∀ w x y, R.holds w -> Q x -> Q y -> FnK Tryz.prog fv [.int .i64 x, .int .i64 y] w (fun v w' => Heap w [] w' [] /\ v = .int .i64 (cf x y))
def AllQ (Q : Int -> Prop) (d : Array Int) : Prop := ∀ k < d.size, Q d[k]!
theorem Quv (d : Array Int) (i j : Nat) : (swp d i j).size = d.size := by simp [swp]
theorem AllQ.swp {Q : Int -> Prop} {d : Array Int} (h : AllQ Q d) {i j : Nat} (hi : i < d.size) (hj : j < d.size) : AllQ Q (swp d i j) := by
 intro k hk
 rw [Quv] at hk
 rw [Sort.swp_get d hi hj]
 split
 ·
  exact h _ hi
 ·
  split
  ·
   exact h _ hj
  ·
   exact h _ hk
theorem FnK.to {fv : Value} {vs : List Value} {w : World} {C C' : Value -> World -> Prop} (h : FnK Tryz.prog fv vs w C) (h' : ∀ v w', C v w' -> C' v w') : FnK Tryz.prog fv vs w C' := by
 obtain ⟨f, first, cs, h1, h2, F, h3, h4⟩ := h
 exact ⟨f, first, cs, h1, h2, F, h3, fun v w' h => h' v w' (h4 v w' h)⟩
theorem Cmp.look {cmp : Value} {cf : Int -> Int -> Int} {Q : Int -> Prop} {R : Res} (hC : Cmp cmp cf Q R) {w0 w : World} {B : List Nat} {G : List Res} {r : Res} (hH : Heap w0 B w (r :: R :: G)) {x y : Int} (hx : Q x) (hy : Q y) :
  FnK Tryz.prog cmp [.int .i64 x, .int .i64 y] w (fun v w' => Heap w0 B w' (r :: R :: G) /\ v = .int .i64 (cf x y)) := by
 obtain ⟨f, first, cs, h1, h2, h3⟩ := hC.run w x y (hH.at 1 rfl) hx hy
 obtain ⟨F, h3, h4⟩ := h3
 exact ⟨f, first, cs, h1, h2, F, h3, fun v w' h => ⟨hH.call0 (h4 v w' h).1, (h4 v w' h).2⟩⟩
open Go Go.Eng
open Go.Sort (swp siftDown heapBuild heapPop heapSort)
open Go Go.Eng
open Go.Sort (swp order2 median medianAdjacent choosePivot Hint reverseLoop reverseRange)
open Go Go.Eng
open Go.Sort (swp order2 median medianAdjacent choosePivot Hint reverseLoop reverseRange)
open Go Go.Eng
open Go.Sort (bitsLen)
open Go Go.Eng
open Go.Sort (swp bitsLen xorNext breakStep breakPatterns)
open Go Go.Eng
open Go.Sort (swp scanUp scanDown partLoop partition partEqLoop partitionEqual)
open Go Go.Eng
open Go.Sort (swp scanSorted shiftDown shiftUp partialIns partialInsertionSort)
open Go Go.Eng
open Go.Sort (swp insertionSort heapSort breakPatterns choosePivot Hint reverseRange partialInsertionSort partitionEqual partition pdq bitsLen)
set_option maxHeartbeats 4000000 in
open Go Go.Eng
open Go.Sort (pdq bitsLen SWO)
theorem Qh3 {d : Array Int} {i : Nat} (h : i < d.size) : d[i]! = d.toList[i]'(by simpa using h) := by
 simp [getElem!_def, h]
open Go Go.Eng
def keyA (rk : List Int) (x : Int) : Int := rk.getD x.toNat 0
def keyB (rk : List Int) (by_ : Nat) (x : Int) : Int := rk.getD ((x.toNat + by_) % rk.length) 0
def leB : List UInt8 -> List UInt8 -> Bool
 | [], _ => true
 | _ :: _, [] => false
 | a :: l, b :: m => if a = b then leB l m else decide (a.toNat < b.toNat)
def ahead (n i : Nat) : Nat := if i = 0 then n - 1 else i - 1
def Qmi (s : List UInt8) (σ : List Nat) : List UInt8 := σ.map fun i => s.getD (ahead s.length i) 0
def placesOf (L : List UInt8) : List Nat := (List.range 256).flatMap fun b => (List.range L.length).filter fun i => (L.getD i 0).toNat == b
theorem Qa8 (L : List UInt8) : (placesOf L).Perm (List.range L.length) := by
 unfold placesOf
 generalize hn : List.range L.length = xs
 clear hn
 induction xs with
 | nil => simp
 | cons x xs ih =>
  have h1 : ∀ (bs : List Nat), bs.Nodup -> (L.getD x 0).toNat ∈ bs ->
    (bs.flatMap fun b => (x :: xs).filter fun i => (L.getD i 0).toNat == b).Perm (x :: bs.flatMap fun b => xs.filter fun i => (L.getD i 0).toNat == b) := by
   intro bs
   induction bs with
   | nil => intro _ h;simp at h
   | cons b bs ihb =>
    intro hnd hm
    rw [List.nodup_cons] at hnd
    simp only [List.flatMap_cons]
    by_cases hb : (L.getD x 0).toNat = b
    ·
     have hno : ∀ b' ∈ bs, ((x :: xs).filter fun i => (L.getD i 0).toNat == b') = xs.filter fun i => (L.getD i 0).toNat == b' := by
      intro b' hb'
      rw [List.filter_cons_of_neg]
      simp only [beq_iff_eq]
      intro h;exact hnd.1 (by rw [<- hb, h];exact hb')
     rw [List.filter_cons_of_pos (by simpa using hb)]
     have e : (bs.flatMap fun b' => (x :: xs).filter fun i => (L.getD i 0).toNat == b') = bs.flatMap fun b' => xs.filter fun i => (L.getD i 0).toNat == b' := by
      have : ∀ (l : List Nat), (∀ b' ∈ l, ((x :: xs).filter fun i => (L.getD i 0).toNat == b') = xs.filter fun i => (L.getD i 0).toNat == b') -> (l.flatMap fun b' => (x :: xs).filter fun i => (L.getD i 0).toNat == b') = l.flatMap fun b' => xs.filter fun i => (L.getD i 0).toNat == b' := by
       intro l
       induction l with
       | nil => intro _;rfl
       | cons c l ihl => intro h;rw [List.flatMap_cons, List.flatMap_cons, h c (by simp), ihl fun b' hb' => h b' (by simp [hb'])]
      exact this bs hno
     rw [e];exact List.Perm.refl _
    ·
     rw [List.filter_cons_of_neg (by simpa using hb)]
     have hm' : (L.getD x 0).toNat ∈ bs := by
      rcases List.mem_cons.1 hm with h | h
      ·
       exact absurd h hb
      ·
       exact h
     refine (List.Perm.append_left _ (ihb hnd.2 hm')).trans ?_
     exact List.perm_middle
  refine (h1 _ List.nodup_range (List.mem_range.2 (UInt8.toNat_lt _))).trans (ih.cons x)
def Qdr (L : List UInt8) (pl : List Nat) : Nat -> Nat -> List UInt8
 | 0, _ => []
 | n + 1, p => L.getD (pl.getD p 0) 0 :: Qdr L pl n (pl.getD p 0)
section
variable {s : List UInt8} {σ : List Nat}
end
def pre (s : List UInt8) (m i : Nat) : List UInt8 := (List.range m).map fun t => s.getD ((i + t) % s.length) 0
def QFo (s : List UInt8) (rk : List Int) (m : Nat) : Prop := rk.length = s.length /\ ∀ i j, i < s.length -> j < s.length -> (rk.getD i 0 <= rk.getD j 0 ↔ leB (pre s m i) (pre s m j) = true)
def leK (rk : List Int) (by_ : Nat) (x y : Int) : Prop := keyA rk x < keyA rk y ∨ (keyA rk x = keyA rk y /\ keyB rk by_ x <= keyB rk by_ y)
def LeK (s : List UInt8) (rk : List Int) (by_ m : Nat) : Prop := rk.length = s.length /\ ∀ i j : Nat, i < s.length -> j < s.length -> (leK rk by_ i j ↔ leB (pre s m i) (pre s m j) = true)
theorem LeK.first {s : List UInt8} {rk : List Int} (h : QFo s rk 1) : LeK s rk 0 1 := by
 refine ⟨h.1, fun i j hi hj => ?_⟩
 have hn := h.1
 rw [<- h.2 i j hi hj]
 simp only [leK, keyA, keyB, Int.toNat_natCast, Nat.add_zero, hn, Nat.mod_eq_of_lt hi, Nat.mod_eq_of_lt hj]
 omega
theorem Qo6 (d : Array Int) (p : Nat) : d.toList.getD p 0 = d[p]! := by
 simp only [List.getD_eq_getElem?_getD, getElem!_def, Array.getElem?_toList]
 cases d[p]? <;> rfl
theorem Qkh (d : Array Int) {i : Nat} (v : Int) (j : Nat) (hi : i < d.size) : (d.setIfInBounds i v)[j]! = if j = i then v else d[j]! := by
 simp only [getElem!_def, Array.getElem?_setIfInBounds]
 by_cases h : i = j
 ·
  subst h;simp [hi]
 ·
  simp [h, Ne.symm h]
theorem Qsm (n k : Nat) : (Array.replicate n (0 : Int))[k]! = 0 := by
 simp only [getElem!_def, Array.getElem?_replicate]
 split <;> rename_i h
 ·
  split at h <;> simp_all
 ·
  rfl
theorem QB0 {w0 w : World} {B : List Nat} {G : List Res} (hH : Heap w0 B w G) (n : Nat) (hn : n <= 1000000000000) : Heap w0 B (w.alloc (.cells (List.replicate n (Value.int .i64 0)).toArray 3)) (arr w.heap.size n (Array.replicate n 0) :: G) := by
 have h := hH.row 3 (n := n) (cap := n) (sz := 1) (List.replicate n (.int .i64 0)) [] (by simp) (by simp) (by omega) (by omega)
 rw [List.append_nil] at h
 rw [arr, Array.size_replicate, Array.toList_replicate, <- intsV_zero]
 exact h
abbrev ptr (g : Nat) : Value := .pointer (some ⟨g, 0, none⟩)
abbrev zsl (g n : Nat) : Value := .slice (some ⟨g, 0, none⟩) n n
set_option maxHeartbeats 4000000 in
def cntB (L : List UInt8) (b k : Nat) : Nat := ((List.range k).filter fun i => (L.getD i 0).toNat == b).length
def Qct (L : List UInt8) : Nat -> Nat
 | 0 => 0
 | b + 1 => Qct L b + cntB L b L.length
def posB (L : List UInt8) (i : Nat) : Nat := Qct L (L.getD i 0).toNat + cntB L (L.getD i 0).toNat i
theorem Qmj (L : List UInt8) (b k : Nat) : cntB L b (k + 1) = cntB L b k + if (L.getD k 0).toNat = b then 1 else 0 := by
 unfold cntB
 rw [List.range_succ, List.filter_append, List.length_append]
 by_cases h : (L.getD k 0).toNat = b
 ·
  rw [List.filter_cons_of_pos (by rw [beq_iff_eq];exact h), if_pos h];rfl
 ·
  rw [List.filter_cons_of_neg (by rw [beq_iff_eq];exact h), if_neg h];rfl
theorem Qh4 (L : List UInt8) (b k : Nat) : cntB L b k <= k := by
 unfold cntB
 exact Nat.le_trans (List.length_filter_le _ _) (by simp)
theorem Qki (L : List UInt8) (b : Nat) : ((List.range b).flatMap fun b => (List.range L.length).filter fun i => (L.getD i 0).toNat == b).length = Qct L b := by
 induction b with
 | zero => rfl
 | succ b ih => rw [List.range_succ, List.flatMap_append, List.length_append, ih];simp [Qct, cntB]
theorem Qcu (L : List UInt8) (i : Nat) (hi : i < L.length) : (placesOf L)[posB L i]? = some i := by
 have hb := (L.getD i 0).toNat_lt
 obtain ⟨k, hk⟩ : ∃ k, 256 = (L.getD i 0).toNat + (k + 1) := ⟨256 - (L.getD i 0).toNat - 1, by omega⟩
 obtain ⟨j, hj⟩ : ∃ j, L.length = i + (j + 1) := ⟨L.length - i - 1, by omega⟩
 generalize hbb : (L.getD i 0).toNat = b at *
 have e : placesOf L = ((List.range b).flatMap fun b => (List.range L.length).filter fun i => (L.getD i 0).toNat == b) ++ (((List.range i).filter fun i => (L.getD i 0).toNat == b) ++ (i :: ((((List.range j).map Nat.succ).map (i + ·)).filter fun i => (L.getD i 0).toNat == b))) ++ ((((List.range k).map Nat.succ).map (b + ·)).flatMap fun b => (List.range L.length).filter fun i => (L.getD i 0).toNat == b) := by
  have e1 : List.range 256 = List.range b ++ (b :: ((List.range k).map Nat.succ).map (b + ·)) := by
   rw [hk, List.range_add, List.range_succ_eq_map];simp
  have e2 : List.range L.length = List.range i ++ (i :: ((List.range j).map Nat.succ).map (i + ·)) := by
   rw [hj, List.range_add, List.range_succ_eq_map];simp
  have e3 : ((List.range L.length).filter fun i => (L.getD i 0).toNat == b) = ((List.range i).filter fun i => (L.getD i 0).toNat == b) ++ (i :: ((((List.range j).map Nat.succ).map (i + ·)).filter fun i => (L.getD i 0).toNat == b)) := by
   rw [e2, List.filter_append, List.filter_cons_of_pos (by rw [beq_iff_eq];exact hbb)]
  unfold placesOf
  rw [e1, List.flatMap_append, List.flatMap_cons, e3, <- List.append_assoc]
 have hp : posB L i = Qct L b + cntB L b i := by rw [posB, hbb]
 rw [e, hp, List.append_assoc, List.getElem?_append_right (by rw [Qki];omega), Qki, Nat.add_sub_cancel_left, List.append_assoc, List.getElem?_append_right (by rw [cntB];exact Nat.le_refl _)]
 rw [show cntB L b i - ((List.range i).filter fun i => (L.getD i 0).toNat == b).length = 0 by rw [cntB];omega]
 rfl
theorem Qsn (L : List UInt8) (i : Nat) (hi : i < L.length) : posB L i < L.length := by
 have h := Qcu L i hi
 have hl : (placesOf L).length = L.length := by rw [(Qa8 L).length_eq, List.length_range]
 have := (List.getElem?_eq_some_iff.1 h).1
 omega
theorem Quw (L : List UInt8) {i j : Nat} (hi : i < L.length) (hj : j < L.length) (h : posB L i = posB L j) : i = j := by
 have h1 := Qcu L i hi
 rw [h, Qcu L j hj] at h1
 exact (Option.some.inj h1).symm
theorem Qso (L : List UInt8) (P : List Nat) (hl : P.length = L.length) (h : ∀ i, i < L.length -> P.getD (posB L i) 0 = i) : P = placesOf L := by
 have hpl : (placesOf L).length = L.length := by rw [(Qa8 L).length_eq, List.length_range]
 have hnd : (placesOf L).Nodup := by rw [(Qa8 L).nodup_iff];exact List.nodup_range
 apply List.ext_getElem (by omega)
 intro p h1 h2
 have hm : (placesOf L)[p] < L.length := by
  have := (Qa8 L).mem_iff.1 (List.getElem_mem h2)
  simpa using this
 generalize hj : (placesOf L)[p] = j at *
 have h3 := Qcu L j hm
 obtain ⟨h4, h5⟩ := List.getElem?_eq_some_iff.1 h3
 have h6 : posB L j = p := (List.getElem_inj hnd).1 (by rw [h5, hj])
 have h7 := h j hm
 rw [h6, List.getD_eq_getElem?_getD, List.getElem?_eq_getElem h1, Option.getD_some] at h7
 exact h7
def tbl (g : Nat) (F : Array Int) : Res := Res.blk g 188 (Qal F.toList)
theorem Qkj {g : Nat} {F : Array Int} {w : World} (h : (tbl g F).holds w) {k : Nat} (hk : k < F.size) : w.cell? ⟨g, k, none⟩ = some (.int .i64 F[k]!) := by
 refine Qah h ?_
 rw [Qbd (by simpa using hk), Qo6]
theorem Qgl {w0 w : World} {B : List Nat} {G : List Res} (hH : Heap w0 B w G) (i : Nat) {g o : Nat} {F : Array Int} {x : Int} {C : World -> Prop} (hi : G[i]? = some (tbl g F)) (ho : o < F.size)
  (h : ∀ w', Heap w0 B w' (G.set i (tbl g (F.setIfInBounds o x))) -> C w') : Qd9 Tryz.prog 3 (.pointer (some ⟨g, o, none⟩)) (.int .i64 x) w C := by
 refine Qad hH i (o := o) (vs := [.int .i64 x]) hi rfl (by kernel_rfl) (by rw [Qbw];simp;omega) (by simp [Value.oneCell']) fun w' hw => h w' ?_
 have e : (Qal F.toList).take o ++ [.int .i64 x] ++ (Qal F.toList).drop (o + [Value.int .i64 x].length) = Qal (F.setIfInBounds o x).toList := by
  rw [List.length_singleton, Qc4 (Qal F.toList) _ _ (by rw [Qbw];simpa using ho), Qld, Array.toList_setIfInBounds]
 rw [e] at hw
 exact hw
theorem Qsp : ∀ {l : List Value} {i : Nat} {v : Value} {K : Value -> Prop}, l[i]? = some v -> vNth l i K = K v
 | [], _, _, _, h => by simp at h
 | x :: l, 0, v, K, h => by simp at h;subst h;rfl
 | x :: l, i + 1, v, K, h => by rw [vNth];exact Qsp (by simpa using h)
theorem Qqn (D : Array Int) (gp cp gc p : Nat) (hp : p < D.size) (hD : D.size <= 1000000000000) (w0 w : World) (B : List Nat) (G : List Res) (hL : Heap w0 B w (arr gp cp D :: Res.blk gc 36 [sl gp cp D] :: G)) :
  Does Tryz.prog 152 #[.int .i64 p, ptr gc] w fun v w' => w' = w /\ v = .int .i64 D[p]! := by
 refine En [.int .i64 p, ptr gc] 8 Tryz.func152 ?_
 refine VQi [0, 1] fun K hK => ?_
 apply hK;clear hK
 refine VQi [3] fun K hK => ?_
 refine ⟨_, Qah (hL.at 1 rfl) rfl, ?_⟩
 refine Qi ?_
 refine ⟨⟨by omega, by omega⟩, _, Quu (hL.at 0 rfl) hp, ?_⟩
 apply hK;clear hK
 exact VC_ret (VX_ret1 rfl rfl ⟨rfl, rfl⟩)
abbrev QB1 (gc : Nat) : Value := .func (.func 152) #[] #[ptr gc]
abbrev wblk (gw gc p : Nat) : Res := Res.blk gw 190 [QB1 gc, .int .i64 p]
theorem Qsq (D : Array Int) (gp cp gc gw p q : Nat) (hp : p < D.size) (hq : D[p]! = q) (hD : D.size <= 1000000000000) (w0 w : World) (B : List Nat) (G : List Res) (hL : Heap w0 B w (arr gp cp D :: Res.blk gc 36 [sl gp cp D] :: wblk gw gc p :: G)) :
  Does Tryz.prog 153 #[ptr gw] w fun v w' => Heap w0 B w' (arr gp cp D :: Res.blk gc 36 [sl gp cp D] :: wblk gw gc q :: G) /\ v = .int .i64 q := by
 refine En [ptr gw] 19 Tryz.func153 ?_
 refine VQi [0] fun K hK => ?_
 apply hK;clear hK
 (repeat refine Qay ?_);refine Qiv [0] [(0, 0), (1, 0), (2, 0), (3, 0), (5, 0), (6, 0), (7, 0), (4, 1), (8, 1), (9, 2), (10, 0), (11, 0), (12, 2)] (by kernel_rfl) (by kernel_rfl) (by kernel_rfl) (by simp only [Qau, List.map_cons, List.map_nil, beq_self_eq_true, Nat.reduceBEq, List.filterMap_cons, List.filterMap_nil, List.getElem?_cons_succ, List.getElem?_cons_zero, Option.map_some];rfl) fun K hK => ?_;refine Qi ?_
 refine ⟨_, Qah (hL.at 2 rfl) rfl, _, Qah (hL.at 2 rfl) rfl, ?_⟩
 refine Qc9 ?_
 refine Qi ?_
 refine FnK.mk Tryz.call152 (Qqn D gp cp gc p hp hD w0 w B _ hL) ?_
 rintro v w2 ⟨rfl, rfl⟩
 rw [hq]
 refine Qac ?_;refine Qi ?_;refine Qad hL 2 (vs := [.int .i64 q]) rfl rfl (by kernel_rfl) (by first | decide | (simp;done) | (simp;omega)) (by simp [Value.oneCell']) fun w6 hH2 => ?_;(try refine Qi ?_)
 apply hK;clear hK
 refine VQi [2] fun K hK => ?_
 refine ⟨_, Qah (hH2.at 2 rfl) rfl, ?_⟩
 apply hK;clear hK
 exact VC_ret (VX_ret1 rfl rfl ⟨hH2, rfl⟩)
def bckS (L : List UInt8) (row : Int) : List UInt8 × Int :=
 if 262144 < L.length then ([], 3) else if row < 0 ∨ (L.length : Int) <= row then ([], 50) else (Qdr L (placesOf L) L.length row.toNat, 0)
theorem Qsr (L : List UInt8) (row : Int) (hr : I64 row) (hL : L.length <= 1000000000000) (w : World) : Does Tryz.prog 107 #[Str L, .int .i64 row] w
  fun v w' => Heap w [] w' [] /\ v = .tuple #[Str (bckS L row).1, .int .i64 (bckS L row).2] := by
 refine En [Str L, .int .i64 row] 96 Tryz.func107 ?_
 refine VQi [0, 1] fun K hK => ?_
 apply hK;clear hK
 refine VQi [0, 1, 18] fun K hK => ?_
 apply hK;clear hK
 refine VD (fun h => ?_) (fun h => ?_)
 ·
  refine VQi [4, 5] fun K hK => ?_
  apply hK;clear hK
  exact VC_ret (Qaj rfl rfl rfl ⟨Heap.start w, by rw [bckS, if_pos (by omega)]⟩)
 have hle : L.length <= 262144 := by omega
 clear h
 refine VC_skip ?_
 refine VQi [0, 1, 26] fun K hK => ?_
 suffices out : ∀ b : Bool, (b = true ↔ (row < 0 ∨ (L.length : Int) <= row)) -> K [(0, Str L), (1, .int .i64 row), (26, .bool b)] w by (repeat' (first | exact out _ _ (by first | omega | (simp;done) | (simp;omega)) | exact out _ (by first | omega | (simp;done) | (simp;omega)) | refine ⟨fun _ => ?_, fun _ => ?_⟩ | refine Qo ?_))
 intro b hb
 apply hK;clear hK
 refine Qaa rfl rfl (fun h => ?_) (fun h => ?_)
 ·
  refine VQi [4, 5] fun K hK => ?_
  apply hK;clear hK
  exact VC_ret (Qaj rfl rfl rfl ⟨Heap.start w, by rw [bckS, if_neg (by omega), if_pos (hb.1 h)]⟩)
 have hb2 : ¬ (row < 0 ∨ (L.length : Int) <= row) := fun h2 => by have := hb.2 h2;simp_all
 have hbs : bckS L row = (Qdr L (placesOf L) L.length row.toNat, 0) := by rw [bckS, if_neg (by omega), if_neg hb2]
 rw [hbs]
 obtain ⟨p0, rfl⟩ : ∃ p : Nat, row = p := ⟨row.toNat, by omega⟩
 rw [Int.toNat_natCast]
 have hp0 : p0 < L.length := by omega
 clear hb hb2 hbs h hr
 refine VC_skip ?_
 generalize hn : L.length = n at *
 refine VQi [0, 1, 6] fun K hK => ?_
 refine Qav (.agg (Qal (List.replicate 256 0)).toArray) (by kernel_rfl) ?_
 refine Qi ?_
 have hH0 : Heap w [] (w.alloc (Obj.cells (Qal (List.replicate 256 0)).toArray 188)) [tbl w.heap.size (Array.replicate 256 0)] := by
  have h := (Heap.start w).box 188 (Qal (List.replicate 256 0))
  rw [tbl, Array.toList_replicate]
  exact h
 generalize w.alloc (Obj.cells (Qal (List.replicate 256 0)).toArray 188) = w1 at *
 generalize w.heap.size = gf at *
 have hb8 : ∀ k, (L.getD k 0).toNat < 256 := fun k => (L.getD k 0).toNat_lt
 have hst : ∀ b, Qct L b <= b * 262144 := fun b => by
  induction b with
  | zero => simp [Qct]
  | succ b ih => have := Qh4 L b L.length;simp only [Qct];omega
 apply hK;clear hK
 refine VQi [0, 1, 6, 28, 29] fun K hK => ?_
 apply hK;clear hK
 rw [hn]
 refine Qaf ?_
 refine Qae [0, 1, 6, 28, 29] (fun m e w' => ∃ (k : Nat) (F : Array Int), Is e [(0, Str L), (1, .int .i64 p0), (6, ptr gf), (28, .int .i64 n), (29, .int .i64 k)] /\ Heap w [] w' [tbl gf F] /\ F.size = 256 /\ k <= n /\ (∀ b, b < 256 -> F[b]! = cntB L b k) /\ m = n - k) n ?_ ?_
 ·
  refine Qi ?_
  exact ⟨0, _, rfl, hH0, by simp, by omega, fun b _ => by rw [Qsm];rfl, rfl⟩
 clear hH0
 rintro m e w2 ⟨k, F, rfl, hH, hF, hk, hFk, hm⟩
 refine VQi [0, 1, 6, 28, 29, 30] fun K hK => ?_
 apply hK;clear hK
 (repeat refine Qay ?_)
 refine VD (fun h => ?_) (fun h => ?_)
 ·
  refine VC_skip ?_
  ((repeat refine Qay ?_);refine Qaf ?_)
  refine VQi [0, 1, 6, 7, 28, 29] fun K hK => ?_
  apply hK;clear hK
  have hb := hb8 k
  have hc := hFk _ hb
  have hcl := Qh4 L (L.getD k 0).toNat k
  have hcs := fun b => Qmj L b k
  generalize hbk : (L.getD k 0).toNat = bk at *
  refine VQi [0, 1, 6, 28, 29] fun K hK => ?_
  rw [hn, hbk]
  refine ⟨⟨by omega, by omega⟩, ⟨by omega, by omega⟩, _, Qkj (hH.at 0 rfl) (by omega), ?_⟩
  rw [hc]
  refine Qi ?_
  refine ⟨I64.mk (by omega) (by omega), ⟨by omega, by omega⟩, ?_⟩
  refine Qac ?_
  refine Qi ?_
  refine Qgl hH 0 (o := bk) rfl (by omega) fun w6 hH2 => ?_
  simp only [List.set_cons_zero] at hH2
  apply hK;clear hK
  refine Qam ?_
  refine VQi [0, 1, 6, 28, 29] fun K hK => ?_
  (repeat refine Qo ?_);apply hK;clear hK
  refine Qab ?_
  refine Qi ?_
  refine ⟨n - (k + 1), by omega, k + 1, _, rfl, hH2, by simp [hF], by omega, fun b hb2 => ?_, rfl⟩
  rw [Qkh _ _ _ (by omega), hcs b]
  by_cases e : b = bk
  ·
   subst e;simp
  ·
   rw [if_neg e, if_neg (Ne.symm e), hFk b hb2];simp
 obtain rfl : k = n := by omega
 refine Qag rfl ?_
 generalize k = n at *
 refine VQi [0, 1, 6, 8] fun K hK => ?_
 apply hK;clear hK
 refine VQi [0, 1, 6, 8, 40, 41] fun K hK => ?_
 refine ⟨Qal F.toList, ⟨by rw [Qbw];simpa using hF, Qcc (hH.at 0 rfl)⟩, ?_⟩
 apply hK;clear hK
 refine Qaf ?_
 refine Qae [0, 1, 6, 8, 40, 41] (fun m e w' => ∃ (b : Nat) (F' : Array Int), Is e [(0, Str L), (1, .int .i64 p0), (6, ptr gf), (8, .int .i64 (Qct L b)), (40, .agg (Qal F.toList).toArray), (41, .int .i64 b)] /\ Heap w [] w' [tbl gf F'] /\ F'.size = 256 /\ b <= 256 /\ (∀ c, c < b -> F'[c]! = Qct L c) /\ m = 256 - b) 256 ?_ ?_
 ·
  refine Qi ?_
  exact ⟨0, F, rfl, hH, hF, by omega, fun c hc => by omega, rfl⟩
 clear hH
 rintro m e w3 ⟨b, F1, rfl, hH, hF1, hb, hFb, hm⟩
 refine VQi [0, 1, 6, 8, 40, 41, 42] fun K hK => ?_
 apply hK;clear hK
 (repeat refine Qay ?_)
 refine VD (fun h => ?_) (fun h => ?_)
 ·
  have hc := hFk b (by omega)
  have hcl := Qh4 L b n
  have hsb := hst b
  have hsb1 := hst (b + 1)
  refine VC_skip ?_
  ((repeat refine Qay ?_);refine Qaf ?_)
  refine VQi [0, 1, 6, 8, 9, 10, 40, 41] fun K hK => ?_
  have hvn : vNth (Qal F.toList) b = fun K => K (.int .i64 F[b]!) := by
   funext K
   exact Qsp (by rw [Qbd (by simp;omega), Qo6])
  rw [hvn]
  dsimp only
  rw [hc]
  refine ⟨⟨by omega, by omega⟩, ?_⟩
  apply hK;clear hK
  refine VQi [0, 1, 6, 8, 10, 40, 41] fun K hK => ?_
  refine ⟨⟨by omega, by omega⟩, ?_⟩
  refine Qac ?_
  refine Qi ?_
  refine Qgl hH 0 (o := b) rfl (by omega) fun w6 hH2 => ?_
  simp only [List.set_cons_zero] at hH2
  apply hK;clear hK
  refine VQi [0, 1, 6, 8, 40, 41] fun K hK => ?_
  (repeat refine Qo ?_);apply hK;clear hK
  refine Qam ?_
  refine VQi [0, 1, 6, 8, 40, 41] fun K hK => ?_
  (repeat refine Qo ?_);apply hK;clear hK
  refine Qab ?_
  refine Qi ?_
  refine ⟨256 - (b + 1), by omega, b + 1, _, by rw [show ((Qct L b : Int) + (cntB L b n : Nat)) = ((Qct L (b + 1) : Nat) : Int) by rw [Qct, hn];omega];rfl, hH2, by simp [hF1], by omega, fun c hc => ?_, rfl⟩
  rw [Qkh _ _ _ (by omega)]
  by_cases e : c = b
  ·
   subst e;simp
  ·
   rw [if_neg e];exact hFb c (by omega)
 obtain rfl : b = 256 := by omega
 refine Qag rfl ?_
 clear hFk hF
 refine VQi [0, 1, 6, 11] fun K hK => ?_
 rw [hn]
 refine Qdc Tryz.underlying36 zi3 ?_
 refine Qi ?_
 refine ⟨n, n, ⟨rfl, rfl, by omega, by omega, by omega⟩, ?_⟩
 have hH1 := QB0 hH n (by omega)
 generalize w3.alloc (Obj.cells (List.replicate n (Value.int .i64 0)).toArray 3) = w4 at *
 generalize w3.heap.size = gp at *
 refine Qav (.slice none 0 0) (by kernel_rfl) ?_
 refine Qi ?_
 have hH2 := hH1.box 36 [.slice none 0 0]
 generalize w4.alloc (Obj.cells [Value.slice none 0 0].toArray 36) = w5 at *
 generalize w4.heap.size = gc at *
 refine Qac ?_;refine Qi ?_;refine Qad hH2 0 (vs := [.slice (some ⟨gp, 0, none⟩) n n]) rfl rfl (by kernel_rfl) (by first | decide | (simp;done) | (simp;omega)) (by simp [Value.oneCell']) fun w6 hH3 => ?_;(try refine Qi ?_)
 have hH4 : Heap w [] w6 [arr gp n (Array.replicate n 0), Res.blk gc 36 [zsl gp n], tbl gf F1] := hH3.front 1 rfl
 clear hH hH1 hH2 hH3
 apply hK;clear hK
 refine VQi [0, 1, 6, 11, 56, 57] fun K hK => ?_
 apply hK;clear hK
 rw [hn]
 refine Qaf ?_
 refine Qae [0, 1, 6, 11, 56, 57] (fun m e w' => ∃ (k : Nat) (F D : Array Int), Is e [(0, Str L), (1, .int .i64 p0), (6, ptr gf), (11, ptr gc), (56, .int .i64 n), (57, .int .i64 k)] /\ Heap w [] w' [arr gp n D, Res.blk gc 36 [zsl gp n], tbl gf F] /\ F.size = 256 /\ D.size = n /\ k <= n /\ (∀ b, b < 256 -> F[b]! = (Qct L b + cntB L b k : Nat)) /\ (∀ j, j < k -> D[posB L j]! = j) /\ m = n - k) n ?_ ?_
 ·
  refine Qi ?_
  exact ⟨0, F1, _, rfl, hH4, hF1, by simp, by omega, fun b hb => by rw [hFb b hb];rfl, fun j hj => by omega, rfl⟩
 clear hH4 hF1 hFb
 rintro m e w7 ⟨k, F, D, rfl, hH, hF, hD, hk, hFk, hDk, hm⟩
 refine VQi [0, 1, 6, 11, 56, 57, 58] fun K hK => ?_
 apply hK;clear hK
 (repeat refine Qay ?_)
 refine VD (fun h => ?_) (fun h => ?_)
 ·
  refine VC_skip ?_
  ((repeat refine Qay ?_);refine Qaf ?_)
  refine VQi [0, 1, 6, 11, 12, 56, 57] fun K hK => ?_
  apply hK;clear hK
  have hb := hb8 k
  have hc := hFk _ hb
  have hpl := Qsn L k (by omega)
  have hcs := fun b => Qmj L b k
  have hps : Qct L (L.getD k 0).toNat + cntB L (L.getD k 0).toNat k = posB L k := rfl
  rw [hps] at hc
  generalize hbk : (L.getD k 0).toNat = bk at *
  (repeat refine Qay ?_);refine Qgc [0, 1, 6, 11, 12, 56, 57] 8 (by kernel_rfl) (by kernel_rfl) (by kernel_rfl) rfl fun K hK => ?_;refine Qi ?_
  refine ⟨_, Qah (hH.at 1 rfl) rfl, ⟨by omega, by omega⟩, ?_⟩
  rw [hbk]
  refine ⟨⟨by omega, by omega⟩, _, Qkj (hH.at 2 rfl) (by omega), ?_⟩
  rw [hc]
  refine Qi ?_
  refine ⟨⟨by omega, by omega⟩, ?_⟩
  refine Qac ?_;refine Qi ?_;refine Qqm hH 0 (o := (posB L k)) rfl (by first | rfl | (simp;done) | (congr 1;omega)) (by first | omega | (simp;omega)) fun w6 hH1 => ?_;simp only [List.set_cons_zero] at hH1;(try refine Qi ?_)
  apply hK;clear hK
  refine VQi [0, 1, 6, 11, 56, 57] fun K hK => ?_
  rw [hbk]
  refine ⟨⟨by omega, by omega⟩, ⟨by omega, by omega⟩, _, Qkj (hH1.at 2 rfl) (by omega), ?_⟩
  rw [hc]
  refine Qi ?_
  refine ⟨I64.mk (by omega) (by omega), ⟨by omega, by omega⟩, ?_⟩
  refine Qac ?_
  refine Qi ?_
  refine Qgl hH1 2 (o := bk) rfl (by omega) fun w8 hH2 => ?_
  simp only [List.set_cons_zero, List.set_cons_succ] at hH2
  apply hK;clear hK
  refine Qam ?_
  refine VQi [0, 1, 6, 11, 56, 57] fun K hK => ?_
  (repeat refine Qo ?_);apply hK;clear hK
  refine Qab ?_
  refine Qi ?_
  refine ⟨n - (k + 1), by omega, k + 1, _, _, rfl, hH2, by simp [hF], by simp [hD], by omega, fun c hc2 => ?_, fun j hj => ?_, rfl⟩
  ·
   rw [Qkh _ _ _ (by omega), hcs c]
   by_cases e : c = bk
   ·
    subst e;rw [if_pos rfl, if_pos rfl];omega
   ·
    rw [if_neg e, if_neg (Ne.symm e), hFk c hc2];simp
  ·
   rw [Qkh _ _ _ (by omega)]
   by_cases e : j = k
   ·
    subst e;simp
   ·
    rw [if_neg (fun h2 => e (Quw L (by omega) (by omega) h2))];exact hDk j (by omega)
 obtain rfl : k = n := by omega
 refine Qag rfl ?_
 generalize k = n at *
 have hPl : D.toList.map Int.toNat = placesOf L := Qso L _ (by rw [hn];simpa using hD) fun i hi => by
  have h1 := hDk i (by omega)
  have h2 := Qsn L i hi
  rw [Qh3 (by omega)] at h1
  rw [List.getD_eq_getElem?_getD, List.getElem?_map, List.getElem?_eq_getElem (by simp;omega)]
  simp only [Option.map_some, Option.getD_some, h1, Int.toNat_natCast]
 have hDp : ∀ p, p < n -> D[p]! = (((placesOf L).getD p 0 : Nat) : Int) /\ (placesOf L).getD p 0 < n := fun p hp => by
  have hm2 : (placesOf L).getD p 0 ∈ placesOf L := Qbl 0 (by rw [(Qa8 L).length_eq, List.length_range];omega)
  have h3 := (Qa8 L).mem_iff.1 hm2
  rw [List.mem_range] at h3
  refine ⟨?_, by omega⟩
  have h4 : posB L ((placesOf L).getD p 0) = p := by
   have hpl2 : (placesOf L).length = L.length := by rw [(Qa8 L).length_eq, List.length_range]
   have hnd : (placesOf L).Nodup := by rw [(Qa8 L).nodup_iff];exact List.nodup_range
   obtain ⟨h5, h6⟩ := List.getElem?_eq_some_iff.1 (Qcu L _ h3)
   refine (List.getElem_inj hnd (h₀ := h5) (h₁ := by omega)).1 ?_
   rw [h6, List.getD_eq_getElem?_getD, List.getElem?_eq_getElem (by omega)];rfl
  have h5 := hDk ((placesOf L).getD p 0) (by omega)
  rwa [h4] at h5
 clear hDk hFk hPl
 generalize hP : placesOf L = P at *
 refine VQi [0, 13] fun K hK => ?_
 refine Qav (.agg #[.nilFunc, .int .i64 0]) (by kernel_rfl) ?_
 refine Qi ?_
 have hH1 := hH.box 190 [.nilFunc, .int .i64 0]
 generalize w7.alloc (Obj.cells [Value.nilFunc, .int .i64 0].toArray 190) = w8 at *
 generalize w7.heap.size = gw at *
 refine Qac ?_;refine Qi ?_;refine Qad hH1 0 (vs := [QB1 gc, .int .i64 p0]) rfl rfl (by kernel_rfl) (by first | decide | (simp;done) | (simp;omega)) (by simp [Value.oneCell']) fun w6 hH2 => ?_;(try refine Qi ?_)
 have hH3 : Heap w [] w6 [arr gp n D, Res.blk gc 36 [zsl gp n], wblk gw gc p0] := ((hH2.front 1 rfl).front 2 rfl |>.front 1 rfl).sub (by simp)
 apply hK;clear hK
 clear hH hH1 hH2
 generalize w6 = w9 at *
 refine VQi [0, 13, 14] fun K hK => ?_
 rw [hn]
 refine Qdc Tryz.underlying43 zi5 ?_
 refine Qi ?_
 refine ⟨n, n, ⟨rfl, rfl, by omega, by omega, by omega⟩, ?_⟩
 have hH1 := hH3.row 5 (n := n) (cap := n) (sz := 1) (List.replicate n (.int .u8 0)) [] (by simp) (by simp) (by omega) (by omega)
 rw [List.append_nil, show List.replicate n (Value.int .u8 0) = bytesV (List.replicate n 0) by simp [bytesV]] at hH1
 rw [show List.replicate n (Value.int .u8 0) = bytesV (List.replicate n 0) by simp [bytesV]]
 generalize w9.alloc (Obj.cells (bytesV (List.replicate n 0)).toArray 5) = w10 at *
 generalize w9.heap.size = gb at *
 have hH2 : Heap w [] w10 [arr gp n D, Res.blk gc 36 [zsl gp n], wblk gw gc p0, Res.row 5 1 (some ⟨gb, 0, none⟩) n n (bytesV (List.replicate n 0))] := ((hH1.front 3 rfl).front 3 rfl).front 3 rfl
 clear hH1 hH3
 apply hK;clear hK
 refine VQi [0, 13, 14, 83, 84] fun K hK => ?_
 apply hK;clear hK
 refine Qaf ?_
 refine Qae [0, 13, 14, 83, 84] (fun m e w' => ∃ (k q : Nat) (o : List UInt8), Is e [(0, Str L), (13, ptr gw), (14, .slice (some ⟨gb, 0, none⟩) n n), (83, .int .i64 n), (84, .int .i64 k)] /\ Heap w [] w' [arr gp n D, Res.blk gc 36 [zsl gp n], wblk gw gc q, Res.row 5 1 (some ⟨gb, 0, none⟩) n n (bytesV o)] /\ o.length = n /\ q < n /\ k <= n /\ o.take k ++ Qdr L P (n - k) q = Qdr L P n p0 /\ m = n - k) n ?_ ?_
 ·
  refine Qi ?_
  exact ⟨0, p0, _, rfl, hH2, by simp, by omega, by omega, by simp, rfl⟩
 clear hH2
 rintro m e w11 ⟨k, q, o, rfl, hH, hol, hq, hk, hgo, hm⟩
 refine VQi [0, 13, 14, 83, 84, 85] fun K hK => ?_
 apply hK;clear hK
 (repeat refine Qay ?_)
 refine VD (fun h => ?_) (fun h => ?_)
 ·
  obtain ⟨h1, h2⟩ := hDp q hq
  generalize hq2 : P.getD q 0 = q2 at *
  refine VC_skip ?_
  ((repeat refine Qay ?_);refine Qaf ?_)
  refine VQi [0, 13, 14, 15, 83, 84] fun K hK => ?_
  apply hK;clear hK
  refine VQi [0, 13, 14, 83, 84] fun K hK => ?_
  have hc := Qsq D gp n gc gw q q2 (by omega) h1 (by omega) w w11 [] _ (by rw [sl, hD];exact hH)
  rw [sl, hD] at hc
  refine MemK_call Tryz.call153 ?_;refine Qi ?_;refine CallK.mk hc ?_
  clear hc hH
  rintro v w12 ⟨hH, rfl⟩
  refine Qi ?_
  rw [hn]
  refine ⟨⟨by omega, by omega⟩, ⟨by omega, by omega⟩, ?_⟩
  refine Qac ?_;refine Qi ?_;refine Qbz hH 3 (o := (k)) (vs := [.int .u8 (L.getD q2 0).toNat]) rfl (by first | exact (Qdn _ _ _).symm | rfl | simp [Qdn]) rfl (by kernel_rfl) (by first | omega | (simp;done) | (simp;omega) | (simp [bytesV, Qal];omega) | (rw [natsV_len];simp;omega)) (by simp [Value.oneCell']) fun w6 hH2 => ?_;(try refine Qi ?_)
  simp only [List.length_singleton, Qc4 (bytesV o) _ _ (show k < (bytesV o).length by rw [Qc8];omega), Qgd, List.set_cons_zero, List.set_cons_succ] at hH2
  apply hK;clear hK
  refine Qam ?_
  refine VQi [0, 13, 14, 83, 84] fun K hK => ?_
  (repeat refine Qo ?_);apply hK;clear hK
  refine Qab ?_
  refine Qi ?_
  refine ⟨n - (k + 1), by omega, k + 1, q2, o.set k (L.getD q2 0), rfl, hH2, by simp [hol], by omega, by omega, ?_, rfl⟩
  have e1 : (o.set k (L.getD q2 0)).take (k + 1) = o.take k ++ [L.getD q2 0] := by
   rw [List.take_add_one, List.getElem?_set_self (by omega), List.take_set_of_le (by omega)];rfl
  obtain ⟨j, hj⟩ : ∃ j, n - k = j + 1 := ⟨n - k - 1, by omega⟩
  rw [<- hgo, e1, hj, Qdr, hq2, show n - (k + 1) = j by omega]
  simp
 ·
  obtain rfl : k = n := by omega
  refine Qag rfl ?_
  rw [List.take_of_length_le (by omega), Nat.sub_self, Qdr, List.append_nil] at hgo
  rw [<- hgo]
  refine VQi [4, 5] fun K hK => ?_
  refine ⟨o, Qdz (by rw [<- hol] at hH ⊢;exact Qaz (hH.at 3 rfl)), ?_⟩
  apply hK;clear hK
  exact VC_ret (Qaj rfl rfl rfl ⟨hH.sub (by simp), rfl⟩)
def digs : Nat -> Nat -> List Int
 | 0, _ => []
 | _ + 1, 0 => []
 | f + 1, k + 1 => ((k % 2 : Nat) : Int) :: digs f (k / 2)
def dig (k : Nat) : List Int := digs k k
def runS (k : Int) : List Int × Int := if k < 0 ∨ 2147483647 < k then ([], 2) else (dig k.toNat, 0)
def IntsErr (p : List Int × Int) (w : World) (v : Value) (w' : World) : Prop :=
 ∃ a cap, Heap w [] w' [Res.row 3 1 a p.1.length cap (Qal p.1)] /\ v = .tuple #[.slice a p.1.length cap, .int .i64 p.2]
theorem IntsErr.nil {w w' : World} (h : Heap w [] w' []) (e : Int) : IntsErr ([], e) w (.tuple #[.slice none 0 0, .int .i64 e]) w' :=
 ⟨none, 0, h.call0 (Heap.one (r := Res.row 3 1 none 0 0 []) (row_nil 3 1 w') (by intro b hb;cases hb)), rfl⟩
def zend (n : Int) (out : List Int) : List Int -> List Int × Int
 | [] => (out, 0)
 | x :: _ => if x < 0 ∨ n + 1 < x then ([], 60) else ([], 70)
def zdec (n most : Int) : List Int -> Nat -> List Int -> List Int × Int
 | _, _, [] => ([], 70)
 | out, wt, s :: r => if s < 0 ∨ n + 1 < s then ([], 60)
  else if s < 2 then (if most - out.length < (s + 1) * wt then ([], 3) else zdec n most (out ++ List.replicate ((s + 1) * wt).toNat 0) (2 * wt) r)
  else if s = n + 1 then zend n out r
  else if most <= out.length then ([], 3) else zdec n most (out ++ [s - 1]) 1 r
def Qbo (n most : Int) (l : List Int) : List Int × Int := if n < 1 ∨ 256 < n ∨ most < 0 ∨ 262144 < most then ([], 2) else zdec n most [] 1 l
theorem Qof (n s : Int) (hn : I64 n) (hn2 : n <= 256) (hs : I64 s) (w : World) : Does Tryz.prog 151 #[.int .i64 n, .int .i64 s] w fun v w' => w' = w /\ v = .int .i64 (if s < 0 ∨ n + 1 < s then 60 else 70) := by
 obtain ⟨hn1, hn3⟩ := hn
 refine En [.int .i64 n, .int .i64 s] 13 Tryz.func151 ?_
 refine VS [0, 1] ?_
 by_cases hn4 : n = -9223372036854775808
 all_goals
  refine VQ [12] fun K hK => ?_
  suffices out : ∀ b : Bool, (b = true ↔ s < 0 ∨ n + 1 < s) -> K [(12, .bool b)] w by (repeat' (first | exact out _ _ (by first | omega | (simp;done) | (simp;omega)) | exact out _ (by first | omega | (simp;done) | (simp;omega)) | refine ⟨fun _ => ?_, fun _ => ?_⟩ | refine Qo ?_))
  intro b hb
  apply hK;clear hK
  refine Vi (fun h => ?_) (fun h => VC_skip ?_)
  ·
   refine VS [4] ?_
   refine VC_ret (VX_ret1 rfl rfl ⟨rfl, ?_⟩)
   rw [if_pos (hb.1 h)]
  refine VS [4] ?_
  refine VC_ret (VX_ret1 rfl rfl ⟨rfl, ?_⟩)
  rw [if_neg (fun h' => by rw [hb.2 h'] at h;cases h)]
theorem intsV_zero (m : Nat) : List.replicate m (Value.int .i64 0) = Qal (List.replicate m 0) := by simp [Qal]
theorem Qmk (o : List Int) (a : Option Addr) (cap : Nat) (k most : Int) (w : World) (hk : 0 <= k /\ k <= 100000000) (hm : 0 <= most /\ most <= 1000000) (ho : o.length <= 1000000)
  (hL : Heap w (Res.row 3 1 a o.length cap (Qal o)).foot w [Res.row 3 1 a o.length cap (Qal o)]) :
  Does Tryz.prog 115 #[.slice a o.length cap, .int .i64 k, .int .i64 most] w fun v w' =>
   (most - o.length < k /\ w' = w /\ v = .tuple #[.slice none 0 0, .bool false]) ∨ (¬ most - o.length < k /\ ∃ a' cap', Heap w (Res.row 3 1 a o.length cap (Qal o)).foot w' [Res.row 3 1 a' (o ++ List.replicate k.toNat 0).length cap' (Qal (o ++ List.replicate k.toNat 0))] /\ v = .tuple #[.slice a' (o ++ List.replicate k.toNat 0).length cap', .bool true]) := by
 refine En [.slice a o.length cap, .int .i64 k, .int .i64 most] 17 Tryz.func115 ?_
 refine VS [0, 1, 2] ?_
 refine VS [0, 1, 13] ?_
 refine VD (fun h => ?_) (fun h => ?_)
 ·
  refine VS [6, 7] ?_
  refine VC_ret (Qaj rfl rfl rfl ?_)
  exact .inl ⟨h, rfl, rfl⟩
 refine VC_skip ?_
 refine VQ [6, 7] fun K hK => ?_
 refine Qai ?_
 refine Qs ?_
 obtain ⟨k, rfl⟩ : ∃ n : Nat, k = n := ⟨k.toNat, by omega⟩
 have el : o.length + k = (o ++ List.replicate k 0).length := by simp
 refine Qgb hL 0 rfl rfl Tryz.underlying36 zi3 Tryz.underlying3 rfl (by omega) fun a' cap' w5 hc' hH4 => ?_
 rw [intsV_zero, <- Qdm, el] at hH4
 rw [el]
 apply hK;clear hK
 refine VC_ret (Qaj rfl rfl rfl ?_)
 exact .inr ⟨h, a', cap', hH4, rfl⟩
def lead (b : UInt8) : List UInt8 -> Nat
 | [] => 0
 | c :: l => if c = b then lead b l + 1 else 0
def Qml : List UInt8 -> Nat
 | [] => 0
 | b :: l => min 255 (lead b l + 1)
def QB2 (n : Nat) (l : List UInt8) : List UInt8 := if n < 4 then l.take n else l.take 4 ++ [UInt8.ofNat (n - 4)]
def encF : Nat -> List UInt8 -> List UInt8
 | 0, _ => []
 | _, [] => []
 | f + 1, b :: l => QB2 (Qml (b :: l)) (b :: l) ++ encF f ((b :: l).drop (Qml (b :: l)))
def enc (l : List UInt8) : List UInt8 := encF l.length l
theorem Qss (b : UInt8) (l : List UInt8) : ∀ n, (∀ j, j < n -> l[j]? = some b) -> (l[n]? ≠ some b) -> lead b l = n := by
 induction l with
 | nil =>
  intro n h1 _
  cases n with
  | zero => rfl
  | succ n => have := h1 0 (by omega);simp at this
 | cons c l ih =>
  intro n h1 h2
  cases n with
  | zero =>
   have : ¬ c = b := by simpa using h2
   simp [lead, this]
  | succ n =>
   have : c = b := by simpa using h1 0 (by omega)
   simp only [lead, this, if_true]
   rw [ih n (fun j hj => by simpa using h1 (j + 1) (by omega)) (by simpa using h2)]
theorem Qst (b : UInt8) (l : List UInt8) : ∀ n, (∀ j, j < n -> l[j]? = some b) -> n <= lead b l := by
 induction l with
 | nil =>
  intro n h1
  cases n with
  | zero => omega
  | succ n => have := h1 0 (by omega);simp at this
 | cons c l ih =>
  intro n h1
  cases n with
  | zero => omega
  | succ n =>
   have : c = b := by simpa using h1 0 (by omega)
   simp only [lead, this, if_true]
   have := ih n (fun j hj => by simpa using h1 (j + 1) (by omega))
   omega
theorem Qy1 (b : UInt8) (l : List UInt8) : lead b l <= l.length := by
 induction l with
 | nil => simp [lead]
 | cons c l ih => simp only [lead];split <;> simp <;> omega
def Same (l : List UInt8) (i n : Nat) : Prop := ∀ j, j < n -> l[i + j]? = l[i]?
theorem Qux (l : List UInt8) (i n : Nat) (hi : i < l.length) (h1 : 1 <= n) (h2 : n <= 255) (hs : Same l i n) (he : n = 255 ∨ l[i + n]? ≠ l[i]?) : Qml (l.drop i) = n := by
 have hd : l.drop i = l[i] :: l.drop (i + 1) := List.drop_eq_getElem_cons hi
 rw [hd]
 simp only [Qml]
 have hg : l[i]? = some l[i] := List.getElem?_eq_getElem hi
 have hj : ∀ j, j < n - 1 -> (l.drop (i + 1))[j]? = some l[i] := fun j hj => by
  rw [List.getElem?_drop, show i + 1 + j = i + (j + 1) by omega, hs (j + 1) (by omega), hg]
 rcases he with he | he
 ·
  have := Qst _ _ _ hj;omega
 ·
  have := Qss l[i] (l.drop (i + 1)) (n - 1) hj (by rw [List.getElem?_drop, show i + 1 + (n - 1) = i + n by omega, <- hg];exact he)
  omega
theorem Qh5 {l : List UInt8} {i j : Nat} (hi : i < l.length) (hj : j < l.length) : (((l.getD i 0).toNat : Int) = ((l.getD j 0).toNat : Int)) ↔ l[i]? = l[j]? := by
 rw [List.getElem?_eq_getElem hi, List.getElem?_eq_getElem hj, List.getD_eq_getElem?_getD, List.getD_eq_getElem?_getD, List.getElem?_eq_getElem hi, List.getElem?_eq_getElem hj]
 simp only [Option.getD_some, Option.some.injEq]
 exact ⟨fun h => UInt8.toNat_inj.1 (by omega), fun h => by rw [h]⟩
end Go.Proofs.YtfphmlhgebpojaaGreat
