/- A program logic over the model, and what this program's functions do by it: part 3. No conditions: a library of lemmas. -/
import Derived.Test.YtfphmlhgebpojaaGreatK2
import Derived.Sort.AssemblyPlain
import Derived.Sort.Defs
import Derived.Sort.LotA
open Nat (reduceEqDiff)
set_option linter.unusedSimpArgs false
set_option linter.unusedVariables false
set_option maxRecDepth 100000
namespace Go.Proofs.YtfphmlhgebpojaaGreat
open Go Go.Eng
open Go.Sort (swp insInner insOuter insertionSort)
def arr (g cap : Nat) (d : Array Int) : Res := Res.row 3 1 (some ⟨g, 0, none⟩) d.size cap (Qbn d.toList)
abbrev sl (g cap : Nat) (d : Array Int) : Value := .slice (some ⟨g, 0, none⟩) d.size cap
theorem Qaz {g cap : Nat} {d : Array Int} {w : World} (h : (arr g cap d).holds w) {k : Nat} (hk : k < d.size) : w.cell? ⟨g, k, none⟩ = some (.int .i64 d[k]!) := by
 refine Qba h ?_
 rw [Qdi (by simpa using hk)]
 congr 2
 simp only [List.getD_eq_getElem?_getD, getElem!_def, Array.getElem?_toList]
 cases d[k]? <;> rfl
theorem Qa2 {w0 w : World} {B : List Nat} {G : List Res} (hH : Heap w0 B w G) (i : Nat) {g cap o : Nat} {d : Array Int} {ap : Addr} {x : Int} {C : World -> Prop} (hi : G[i]? = some (arr g cap d)) (hp : ap = ⟨g, o, none⟩) (ho : o < d.size)
  (h : ∀ w', Heap w0 B w' (G.set i (arr g cap (d.setIfInBounds o x))) -> C w') : Qh7 Tryz.prog 3 (.pointer (some ap)) (.int .i64 x) w C := by
 refine Qbf hH i (o := o) (vs := [.int .i64 x]) hi (by rw [hp];simp [Qbp]) rfl (by kernel_rfl) (by rw [Qij];simp;omega) (by simp [Value.oneCell']) fun w' hw => h w' ?_
 have e : (Qbn d.toList).take o ++ [.int .i64 x] ++ (Qbn d.toList).drop (o + [Value.int .i64 x].length) = Qbn (d.setIfInBounds o x).toList := by
  rw [List.length_singleton, Qb2 (Qbn d.toList) _ _ (by rw [Qij];simpa using ho), Qtj, Array.toList_setIfInBounds]
 rw [e] at hw
 unfold arr
 rwa [Array.size_setIfInBounds]
structure Cmp (fv : Value) (cf : Int -> Int -> Int) (Q : Int -> Prop) (R : Res) : Prop where
 i64 : ∀ x y, Q x -> Q y -> -9223372036854775808 <= cf x y /\ cf x y <= 9223372036854775807
 run : ∀ w x y, R.holds w -> Q x -> Q y -> FnK Tryz.prog fv [.int .i64 x, .int .i64 y] w (fun v w' => Heap w [] w' [] /\ v = .int .i64 (cf x y))
abbrev ltOf (cf : Int -> Int -> Int) : Int -> Int -> Bool := fun x y => decide (cf x y < 0)
def AllQ (Q : Int -> Prop) (d : Array Int) : Prop := ∀ k < d.size, Q d[k]!
theorem Qdg (d : Array Int) (i j : Nat) : (swp d i j).size = d.size := by simp [swp]
theorem AllQ.swp {Q : Int -> Prop} {d : Array Int} (h : AllQ Q d) {i j : Nat} (hi : i < d.size) (hj : j < d.size) : AllQ Q (swp d i j) := by
 intro k hk
 rw [Qdg] at hk
 rw [Sort.swp_get d hi hj]
 split
 ·
  exact h _ hi
 ·
  split
  ·
   exact h _ hj
  ·
   exact h _ hk
theorem FnK.to {fv : Value} {vs : List Value} {w : World} {C C' : Value -> World -> Prop} (h : FnK Tryz.prog fv vs w C) (h' : ∀ v w', C v w' -> C' v w') : FnK Tryz.prog fv vs w C' := by
 obtain ⟨f, first, cs, h1, h2, F, h3, h4⟩ := h
 exact ⟨f, first, cs, h1, h2, F, h3, fun v w' h => h' v w' (h4 v w' h)⟩
theorem Cmp.look {cmp : Value} {cf : Int -> Int -> Int} {Q : Int -> Prop} {R : Res} (hC : Cmp cmp cf Q R) {w0 w : World} {B : List Nat} {G : List Res} {r : Res} (hH : Heap w0 B w (r :: R :: G)) {x y : Int} (hx : Q x) (hy : Q y) :
  FnK Tryz.prog cmp [.int .i64 x, .int .i64 y] w (fun v w' => Heap w0 B w' (r :: R :: G) /\ v = .int .i64 (cf x y)) := by
 obtain ⟨f, first, cs, h1, h2, h3⟩ := hC.run w x y (hH.at 1 rfl) hx hy
 obtain ⟨F, h3, h4⟩ := h3
 exact ⟨f, first, cs, h1, h2, F, h3, fun v w' h => ⟨hH.call0 (h4 v w' h).1, (h4 v w' h).2⟩⟩
theorem Qw3 {lt : Int -> Int -> Bool} {a j : Nat} {d : Array Int} (h1 : a < j) (h2 : lt d[j]! d[j - 1]! = true) : insInner lt a (j - 1) (swp d j (j - 1)) = insInner lt a j d := by
 obtain ⟨k, rfl⟩ : ∃ k, j = k + 1 := ⟨j - 1, by omega⟩
 rw [Nat.add_sub_cancel] at *
 rw [insInner, if_pos (by simp [h1, h2])]
theorem Qrx {lt : Int -> Int -> Bool} {a j : Nat} {d : Array Int} (h : false = (decide (a < j) && lt d[j]! d[j - 1]!)) : insInner lt a j d = d := by
 cases j with
 | zero => rfl
 | succ k => rw [Nat.add_sub_cancel] at h;rw [insInner, if_neg (by simpa using h.symm)]
theorem Qw4 {lt : Int -> Int -> Bool} {a b i : Nat} {d : Array Int} (h : i < b) : insOuter lt a b i d = insOuter lt a b (i + 1) (insInner lt a i d) := by rw [insOuter, if_pos h]
theorem Qry {lt : Int -> Int -> Bool} {a b i : Nat} {d : Array Int} (h : ¬ i < b) : insOuter lt a b i d = d := by rw [insOuter, if_neg h]
theorem Qku {cmp : Value} {cf : Int -> Int -> Int} {Q : Int -> Prop} {R : Res} (hC : Cmp cmp cf Q R) (g cap a b : Nat) (d : Array Int) (hab : a <= b) (hb : b <= d.size) (hd : d.size <= 1000000000000) (hQ : AllQ Q d) (w0 w : World) (B : List Nat) (G : List Res)
  (hL : Heap w0 B w (arr g cap d :: R :: G)) : Does Tryz.prog 177 #[sl g cap d, .int .i64 a, .int .i64 b, cmp] w
   fun v w' => ∃ d', d' = insertionSort (ltOf cf) d a b /\ d'.size = d.size /\ AllQ Q d' /\ Heap w0 B w' (arr g cap d' :: R :: G) /\ v = .tuple #[] := by
 refine En [sl g cap d, .int .i64 a, .int .i64 b, cmp] 53 Tryz.func177 ?_
 refine VS [0, 1, 2, 3, 8] ?_
 refine Qag ?_
 refine Qaj [0, 1, 2, 3, 8] (fun m e w' => ∃ (i : Nat) (d' : Array Int), Is e [(0, sl g cap d), (1, .int .i64 a), (2, .int .i64 b), (3, cmp), (8, .int .i64 i)] /\ Heap w0 B w' (arr g cap d' :: R :: G) /\ d'.size = d.size /\ AllQ Q d' /\ a + 1 <= i /\ i <= max b (a + 1) /\ insOuter (ltOf cf) a b i d' = insertionSort (ltOf cf) d a b /\ m = b - i) (b - (a + 1)) ?_ ?_
 ·
  refine Qs ?_
  exact ⟨a + 1, d, rfl, hL, rfl, hQ, by omega, by omega, rfl, rfl⟩
 rintro m e w1 ⟨i, d1, rfl, hH, hs1, hQ1, hi1, hi2, hins, rfl⟩
 refine VS [0, 1, 2, 3, 8, 14] ?_
 refine VD (fun h => ?_) (fun h => ?_)
 ·
  refine Qac ?_
  refine VB ?_
  refine VS [0, 1, 2, 3, 8, 9] ?_
  refine Qag ?_
  refine Qaj [0, 1, 2, 3, 8, 9] (fun m e w' => ∃ (j : Nat) (d' : Array Int), Is e [(0, sl g cap d), (1, .int .i64 a), (2, .int .i64 b), (3, cmp), (8, .int .i64 i), (9, .int .i64 j)] /\ Heap w0 B w' (arr g cap d' :: R :: G) /\ d'.size = d.size /\ AllQ Q d' /\ a <= j /\ j <= i /\ insInner (ltOf cf) a j d' = insInner (ltOf cf) a i d1 /\ m = j) i ?_ ?_
  ·
   refine Qs ?_
   exact ⟨i, d1, rfl, hH, hs1, hQ1, by omega, by omega, rfl, rfl⟩
  rintro m e w2 ⟨j, d2, rfl, hH, hs2, hQ2, hj1, hj2, hinn, hm⟩
  refine VL [0, 1, 2, 3, 8, 9, 34] 14 fun K hK => ?_
  have hall : ∀ bb : Bool, ∀ w4, bb = (decide (a < j) && ltOf cf d2[j]! d2[j - 1]!) -> Heap w0 B w4 (arr g cap d2 :: R :: G) -> K [(0, sl g cap d), (1, .int .i64 a), (2, .int .i64 b), (3, cmp), (8, .int .i64 i), (9, .int .i64 j), (34, .bool bb)] w4 := by
   intro bb w4 hb hH
   apply hK;clear hK
   refine Vi (fun h => ?_) (fun h => ?_)
   ·
    subst h
    simp only [Bool.true_eq, Bool.and_eq_true, decide_eq_true_eq] at hb
    refine Qac ?_
    refine VB ?_
    refine Vb [0, 1, 2, 3, 8, 9] [(0, 0), (1, 0), (2, 0), (3, 0), (4, 0), (5, 0), (6, 0), (7, 0), (8, 0), (10, 0), (11, 0), (12, 0), (9, 1), (13, 1), (14, 0), (15, 2), (16, 0), (17, 2)] fun K hK => ?_
    (repeat (first | (refine ⟨_, Qaz (hH.at 0 rfl) (by omega), ?_⟩;(try refine Qs ?_)) | refine Qo ?_ | refine Qp ?_))
    refine Qab ?_;refine Qs ?_;refine Qa2 hH 0 (o := (j)) rfl (by first | rfl | (simp;done) | (congr 1;omega)) (by first | omega | (simp;omega)) fun w6 hH3 => ?_;simp only [List.set_cons_zero] at hH3;(try refine Qs ?_)
    (repeat (first | (refine ⟨_, Qaz (hH.at 0 rfl) (by omega), ?_⟩;(try refine Qs ?_)) | refine Qo ?_ | refine Qp ?_))
    refine Qab ?_;refine Qs ?_;refine Qa2 hH3 0 (o := (j - 1)) rfl (by first | rfl | (simp;done) | (congr 1;omega)) (by first | omega | (simp;omega)) fun w6 hH4 => ?_;simp only [List.set_cons_zero] at hH4;(try refine Qs ?_)
    have hH5 : Heap w0 B w6 (arr g cap (swp d2 j (j - 1)) :: R :: G) := hH4
    apply hK;clear hK
    refine Qar ?_
    refine VS [0, 1, 2, 3, 8, 9] ?_
    refine Qad ?_
    refine Qs ?_
    refine ⟨j - 1, by omega, j - 1, _, by rw [show ((j : Int) - 1) = ((j - 1 : Nat) : Int) by omega];rfl, hH5, by rw [Qdg, hs2], hQ2.swp (by omega) (by omega), by omega, by omega, ?_, rfl⟩
    rw [<- hinn, Qw3 hb.1 (by simpa [ltOf] using hb.2)]
   ·
    subst h
    refine Qak rfl ?_
    refine Qar ?_
    refine VS [0, 1, 2, 3, 8] ?_
    refine Qad ?_
    refine Qs ?_
    refine ⟨b - (i + 1), by omega, i + 1, d2, rfl, hH, hs2, hQ2, by omega, by omega, ?_, rfl⟩
    rw [<- hins, Qw4 (i := i) (by omega), <- hinn, Qrx hb]
  refine ⟨fun hg => ?_, fun hg => ?_⟩
  ·
   (repeat (first | (refine ⟨_, Qaz (hH.at 0 rfl) (by omega), ?_⟩;(try refine Qs ?_)) | refine Qo ?_ | refine Qp ?_))
   refine Qbg ?_;refine Qs ?_;refine FnK.to (Cmp.look hC hH (hQ2 _ (by omega)) (hQ2 _ (by omega))) ?_;rintro v w4 ⟨hH2, rfl⟩;(try refine Qs ?_)
   refine hall _ _ ?_ hH2
   simp [ltOf, show a < j by omega]
  ·
   refine hall _ _ ?_ hH
   simp [show ¬ a < j by omega]
 ·
  refine Qak rfl ?_
  refine Qp0 (Qfz rfl ?_)
  rw [Qry (by omega)] at hins
  exact ⟨_, hins, hs1, hQ1, hH, rfl⟩
open Go Go.Eng
open Go.Sort (swp siftDown heapBuild heapPop heapSort)
theorem Qrz {lt : Int -> Int -> Bool} {hi first root : Nat} {d : Array Int} (h : 2 * root + 1 ≥ hi) : siftDown lt hi first root d = d := by rw [siftDown, dif_pos h]
theorem Qr0 {lt : Int -> Int -> Bool} {hi first root c : Nat} {d : Array Int} (h : 2 * root + 1 < hi) (hc : c = if (decide (2 * root + 2 < hi) && lt d[first + (2 * root + 1)]! d[first + (2 * root + 1) + 1]!) then 2 * root + 2 else 2 * root + 1) :
  siftDown lt hi first root d = if lt d[first + root]! d[first + c]! then siftDown lt hi first c (swp d (first + root) (first + c)) else d := by
 rw [siftDown, dif_neg (by omega)]
 by_cases h1 : (decide (2 * root + 2 < hi) && lt d[first + (2 * root + 1)]! d[first + (2 * root + 1) + 1]!) = true
 ·
  rw [if_pos h1] at hc ⊢
  subst hc
  have h2 : 2 * root + 2 < hi := by simp at h1;exact h1.1
  rw [dif_pos h2]
  cases lt d[first + root]! d[first + (2 * root + 2)]! <;> simp
 ·
  rw [if_neg h1] at hc ⊢
  subst hc
  cases lt d[first + root]! d[first + (2 * root + 1)]! <;> simp
theorem Qkv {cmp : Value} {cf : Int -> Int -> Int} {Q : Int -> Prop} {R : Res} (hC : Cmp cmp cf Q R) (g cap lo hi first : Nat) (d : Array Int) (hlo : lo <= 1000000000000) (hb : first + hi <= d.size) (hd : d.size <= 1000000000000) (hQ : AllQ Q d) (w0 w : World) (B : List Nat) (G : List Res)
  (hL : Heap w0 B w (arr g cap d :: R :: G)) : Does Tryz.prog 196 #[sl g cap d, .int .i64 lo, .int .i64 hi, .int .i64 first, cmp] w
   fun v w' => ∃ d', d' = siftDown (ltOf cf) hi first lo d /\ d'.size = d.size /\ AllQ Q d' /\ Heap w0 B w' (arr g cap d' :: R :: G) /\ v = .tuple #[] := by
 refine En [sl g cap d, .int .i64 lo, .int .i64 hi, .int .i64 first, cmp] 82 Tryz.func196 ?_
 refine VS [0, 2, 3, 4, 10] ?_
 refine Qag ?_
 refine Qaj [0, 2, 3, 4, 10] (fun m e w' => ∃ (root : Nat) (d' : Array Int), Is e [(0, sl g cap d), (2, .int .i64 hi), (3, .int .i64 first), (4, cmp), (10, .int .i64 root)] /\ Heap w0 B w' (arr g cap d' :: R :: G) /\ d'.size = d.size /\ AllQ Q d' /\ root <= 1000000000000 /\ siftDown (ltOf cf) hi first root d' = siftDown (ltOf cf) hi first lo d /\ m = hi - root) (hi - lo) ?_ ?_
 ·
  refine Qs ?_
  exact ⟨lo, d, rfl, hL, rfl, hQ, hlo, rfl, rfl⟩
 rintro m e w1 ⟨root, d1, rfl, hH, hs1, hQ1, hr, hins, hm⟩
 refine Qag ?_
 refine VS [0, 2, 3, 4, 10, 11] ?_
 refine VS [0, 2, 3, 4, 10, 11, 18] ?_
 refine VD (fun h => ?_) (fun h => ?_)
 ·
  refine Qak rfl ?_
  refine Qp0 (Qfz rfl ?_)
  rw [Qrz (by omega)] at hins
  exact ⟨_, hins, hs1, hQ1, hH, rfl⟩
 refine Qac ?_
 refine VL [0, 2, 3, 4, 10, 11, 40] 19 fun K hK => ?_
 have hall : ∀ bb : Bool, ∀ w4, bb = (decide (2 * root + 2 < hi) && ltOf cf d1[first + (2 * root + 1)]! d1[first + (2 * root + 1) + 1]!) -> Heap w0 B w4 (arr g cap d1 :: R :: G) -> K [(0, sl g cap d), (2, .int .i64 hi), (3, .int .i64 first), (4, cmp), (10, .int .i64 root), (11, .int .i64 (2 * root + 1)), (40, .bool bb)] w4 := by
  intro bb w4 hbb hH
  apply hK;clear hK
  refine Qdb [0, 2, 3, 4, 10, 11] (fun e w' => ∃ c : Nat, Is e [(0, sl g cap d), (2, .int .i64 hi), (3, .int .i64 first), (4, cmp), (10, .int .i64 root), (11, .int .i64 c)] /\ Is w' w4 /\ c = if bb then 2 * root + 2 else 2 * root + 1) ?_ ?_
  ·
   refine Vi (fun h => ?_) (fun h => ?_)
   ·
    subst h
    refine VS [0, 2, 3, 4, 10, 11] ?_
    refine Qad ?_
    refine Qs ?_
    exact ⟨2 * root + 2, by rw [show (2 * (root : Int) + 1 + 1) = ((2 * root + 2 : Nat) : Int) by omega];rfl, rfl, rfl⟩
   ·
    subst h
    refine Qac ?_
    refine Qad ?_
    refine Qs ?_
    exact ⟨2 * root + 1, by rw [show (2 * (root : Int) + 1) = ((2 * root + 1 : Nat) : Int) by omega];rfl, rfl, rfl⟩
  rintro e w' ⟨c, rfl, rfl, hc⟩
  rw [hbb] at hc
  have hch : c < hi := by
   by_cases h2 : 2 * root + 2 < hi
   ·
    split at hc <;> omega
   ·
    rw [if_neg (by simp [h2])] at hc;omega
  have hc0 : root < c := by split at hc <;> omega
  have hst := Qr0 (lt := ltOf cf) (first := first) (d := d1) (by omega) hc
  refine VL [0, 2, 3, 4, 10, 11, 58] 13 fun K hK => ?_
  (repeat (first | (refine ⟨_, Qaz (hH.at 0 rfl) (by omega), ?_⟩;(try refine Qs ?_)) | refine Qo ?_ | refine Qp ?_))
  refine Qbg ?_;refine Qs ?_;refine FnK.to (Cmp.look hC hH (hQ1 _ (by omega)) (hQ1 _ (by omega))) ?_;rintro v w4 ⟨hH2, rfl⟩;(try refine Qs ?_)
  clear hH
  apply hK;clear hK
  refine Vi (fun h => ?_) (fun h => ?_)
  ·
   simp at h
   rw [if_neg (by simp [ltOf];omega)] at hst
   refine Qah (Qfz rfl ?_)
   exact ⟨_, by rw [<- hins, hst], hs1, hQ1, hH2, rfl⟩
  simp at h
  rw [if_pos (by simp [ltOf];omega)] at hst
  refine Qac ?_
  refine Vb [0, 2, 3, 4, 11] [(0, 0), (1, 0), (2, 0), (3, 0), (4, 0), (5, 0), (6, 0), (7, 0), (8, 0), (9, 0), (10, 0), (11, 0), (12, 0), (14, 0), (15, 0), (16, 0), (17, 0), (18, 0), (13, 1), (19, 1), (20, 0), (21, 2), (22, 0), (23, 2)] fun K hK => ?_
  (repeat (first | (refine ⟨_, Qaz (hH2.at 0 rfl) (by omega), ?_⟩;(try refine Qs ?_)) | refine Qo ?_ | refine Qp ?_))
  refine Qab ?_;refine Qs ?_;refine Qa2 hH2 0 (o := (first + root)) rfl (by first | rfl | (simp;done) | (congr 1;omega)) (by first | omega | (simp;omega)) fun w6 hH3 => ?_;simp only [List.set_cons_zero] at hH3;(try refine Qs ?_)
  (repeat (first | (refine ⟨_, Qaz (hH2.at 0 rfl) (by omega), ?_⟩;(try refine Qs ?_)) | refine Qo ?_ | refine Qp ?_))
  refine Qab ?_;refine Qs ?_;refine Qa2 hH3 0 (o := (first + c)) rfl (by first | rfl | (simp;done) | (congr 1;omega)) (by first | omega | (simp;omega)) fun w6 hH4 => ?_;simp only [List.set_cons_zero] at hH4;(try refine Qs ?_)
  have hH5 : Heap w0 B w6 (arr g cap (swp d1 (first + root) (first + c)) :: R :: G) := hH4
  apply hK;clear hK
  refine VS [0, 2, 3, 4, 10] ?_
  refine Qar ?_
  refine Qad ?_
  refine Qs ?_
  refine ⟨hi - c, by omega, c, _, rfl, hH5, by rw [Qdg, hs1], hQ1.swp (by omega) (by omega), by omega, by rw [<- hins, hst], rfl⟩
 refine ⟨I64.mk (by omega) (by omega), ?_⟩
 refine ⟨fun hg => ?_, fun hg => ?_⟩
 ·
  (repeat (first | (refine ⟨_, Qaz (hH.at 0 rfl) (by omega), ?_⟩;(try refine Qs ?_)) | refine Qo ?_ | refine Qp ?_))
  refine Qbg ?_;refine Qs ?_;refine FnK.to (Cmp.look hC hH (hQ1 _ (by omega)) (hQ1 _ (by omega))) ?_;rintro v w4 ⟨hH2, rfl⟩;(try refine Qs ?_)
  refine hall _ _ ?_ hH2
  rw [show ((first : Int) + (2 * root + 1)).toNat = first + (2 * root + 1) by omega, show ((first : Int) + (2 * root + 1) + 1).toNat = first + (2 * root + 1) + 1 by omega]
  simp [ltOf, show 2 * root + 2 < hi by omega]
 ·
  refine hall _ _ ?_ hH
  simp [show ¬ 2 * root + 2 < hi by omega]
theorem Qr1 {cmp : Value} {cf : Int -> Int -> Int} {Q : Int -> Prop} {R : Res} (hC : Cmp cmp cf Q R) (g cap a b : Nat) (d : Array Int) (hab : a < b) (hb : b <= d.size) (hd : d.size <= 1000000000000) (hQ : AllQ Q d) (w0 w : World) (B : List Nat) (G : List Res)
  (hL : Heap w0 B w (arr g cap d :: R :: G)) : Does Tryz.prog 178 #[sl g cap d, .int .i64 a, .int .i64 b, cmp] w
   fun v w' => ∃ d', d' = heapSort (ltOf cf) d a b /\ d'.size = d.size /\ AllQ Q d' /\ Heap w0 B w' (arr g cap d' :: R :: G) /\ v = .tuple #[] := by
 refine En [sl g cap d, .int .i64 a, .int .i64 b, cmp] 60 Tryz.func178 ?_
 refine VS [0, 1, 2, 3, 8] ?_
 refine VS [0, 1, 2, 3, 8, 9] ?_
 refine VS [0, 3, 8, 9, 10] ?_
 refine VS [0, 3, 8, 9, 10, 11] ?_
 rw [show ((b : Int) - a) = ((b - a : Nat) : Int) by omega]
 generalize hn : b - a = n at *
 refine Qag ?_
 refine Qaj [0, 3, 8, 9, 10, 11] (fun m e w' => ∃ (k : Nat) (i : Int) (d' : Array Int), Is e [(0, sl g cap d), (3, cmp), (8, .int .i64 a), (9, .int .i64 0), (10, .int .i64 n), (11, .int .i64 i)] /\ Heap w0 B w' (arr g cap d' :: R :: G) /\ d'.size = d.size /\ AllQ Q d' /\ i = (k : Int) - 1 /\ k <= n /\ heapBuild (ltOf cf) n a k d' = heapBuild (ltOf cf) n a ((n - 1) / 2 + 1) d /\ m = k) ((n - 1) / 2 + 1) ?_ ?_
 ·
  refine Qs ?_
  exact ⟨(n - 1) / 2 + 1, _, d, rfl, hL, rfl, hQ, by omega, by omega, rfl, rfl⟩
 rintro m e w1 ⟨k, i, d1, rfl, hH, hs1, hQ1, hi, hk, hins, hm⟩
 refine VS [0, 3, 8, 9, 10, 11, 21] ?_
 refine VD (fun h => ?_) (fun h => ?_)
 ·
  obtain ⟨k, rfl⟩ : ∃ j, k = j + 1 := ⟨k - 1, by omega⟩
  have hi' : i = (k : Int) := by omega
  subst hi'
  refine Qac ?_
  refine VB ?_
  refine VQ [0, 3, 8, 9, 10, 11] fun K hK => ?_
  have hsd := Qkv hC g cap k n a d1 (by omega) (by omega) (by omega) hQ1 w0 w1 B G hH
  rw [sl, hs1] at hsd
  refine Qaa Tryz.call196 ?_;refine Qs ?_;refine CallK.mk hsd ?_
  rintro v w2 ⟨d2, hd2, hs2, hQ2, hH2, rfl⟩
  apply hK;clear hK
  refine Qar ?_
  refine VS [0, 3, 8, 9, 10, 11] ?_
  refine Qad ?_
  refine Qs ?_
  refine ⟨k, by omega, k, _, d2, rfl, hH2, by omega, hQ2, rfl, by omega, ?_, rfl⟩
  rw [<- hins, heapBuild, hd2]
 ·
  obtain rfl : k = 0 := by omega
  rw [heapBuild] at hins
  refine Qak rfl ?_
  refine VS [0, 3, 8, 9, 12] ?_
  refine Qag ?_
  refine Qaj [0, 3, 8, 9, 12] (fun m e w' => ∃ (k : Nat) (i : Int) (d' : Array Int), Is e [(0, sl g cap d), (3, cmp), (8, .int .i64 a), (9, .int .i64 0), (12, .int .i64 i)] /\ Heap w0 B w' (arr g cap d' :: R :: G) /\ d'.size = d.size /\ AllQ Q d' /\ i = (k : Int) - 1 /\ k <= n /\ heapPop (ltOf cf) a k d' = heapPop (ltOf cf) a n d1 /\ m = k) n ?_ ?_
  ·
   refine Qs ?_
   exact ⟨n, _, d1, rfl, hH, hs1, hQ1, rfl, by omega, rfl, rfl⟩
  clear hH h
  rintro m e w2 ⟨k, i, d2, rfl, hH, hs2, hQ2, hi, hk, hpop, hm⟩
  refine VS [0, 3, 8, 9, 12, 33] ?_
  refine VD (fun h => ?_) (fun h => ?_)
  ·
   obtain ⟨k, rfl⟩ : ∃ j, k = j + 1 := ⟨k - 1, by omega⟩
   have hi' : i = (k : Int) := by omega
   subst hi'
   refine Qac ?_
   refine VB ?_
   refine Vb [0, 3, 8, 9, 12] [(0, 0), (1, 0), (2, 0), (3, 0), (4, 0), (5, 0), (6, 0), (7, 0), (8, 0), (9, 0), (10, 0), (12, 0), (13, 0), (14, 0), (11, 1), (15, 1), (16, 0), (17, 2), (18, 0), (19, 2)] fun K hK => ?_
   (repeat (first | (refine ⟨_, Qaz (hH.at 0 rfl) (by omega), ?_⟩;(try refine Qs ?_)) | refine Qo ?_ | refine Qp ?_))
   refine Qab ?_;refine Qs ?_;refine Qa2 hH 0 (o := (a)) rfl (by first | rfl | (simp;done) | (congr 1;omega)) (by first | omega | (simp;omega)) fun w6 hH3 => ?_;simp only [List.set_cons_zero] at hH3;(try refine Qs ?_)
   (repeat (first | (refine ⟨_, Qaz (hH.at 0 rfl) (by omega), ?_⟩;(try refine Qs ?_)) | refine Qo ?_ | refine Qp ?_))
   refine Qab ?_;refine Qs ?_;refine Qa2 hH3 0 (o := (a + k)) rfl (by first | rfl | (simp;done) | (congr 1;omega)) (by first | omega | (simp;omega)) fun w6 hH4 => ?_;simp only [List.set_cons_zero] at hH4;(try refine Qs ?_)
   have hH5 : Heap w0 B w6 (arr g cap (swp d2 a (a + k)) :: R :: G) := hH4
   have hs5 : (swp d2 a (a + k)).size = d.size := by rw [Qdg, hs2]
   have hQ5 := hQ2.swp (i := a) (j := a + k) (by omega) (by omega)
   apply hK;clear hK
   refine VQ [0, 3, 8, 9, 12] fun K hK => ?_
   have hsd := Qkv hC g cap 0 k a (swp d2 a (a + k)) (by omega) (by omega) (by omega) hQ5 w0 w6 B G hH5
   rw [sl, hs5] at hsd
   refine Qaa Tryz.call196 ?_;refine Qs ?_;refine CallK.mk hsd ?_
   rintro v w7 ⟨d3, hd3, hs3, hQ3, hH6, rfl⟩
   apply hK;clear hK
   refine Qar ?_
   refine VS [0, 3, 8, 9, 12] ?_
   refine Qad ?_
   refine Qs ?_
   refine ⟨k, by omega, k, _, d3, rfl, hH6, by omega, hQ3, rfl, by omega, ?_, rfl⟩
   rw [<- hpop, heapPop, hd3]
  ·
   obtain rfl : k = 0 := by omega
   rw [heapPop] at hpop
   refine Qak rfl ?_
   refine Qp0 (Qfz rfl ?_)
   exact ⟨_, by rw [hpop, heapSort, hn, <- hins], hs2, hQ2, hH, rfl⟩
open Go Go.Eng
open Go.Sort (swp order2 median medianAdjacent choosePivot Hint reverseLoop reverseRange)
abbrev Qr2 (s : Nat) (n : Nat) : Res := Res.blk s 3 [.int .i64 n]
abbrev pcnt (s : Nat) : Value := .pointer (some ⟨s, 0, none⟩)
theorem Qj3 {cmp : Value} {cf : Int -> Int -> Int} {Q : Int -> Prop} {R : Res} (hC : Cmp cmp cf Q R) (g cap a b s n : Nat) (d : Array Int) (ha : a < d.size) (hb : b < d.size) (hd : d.size <= 1000000000000) (hn : n <= 1000000000000) (hQ : AllQ Q d) (w0 w : World) (B : List Nat) (G : List Res)
  (hL : Heap w0 B w (arr g cap d :: R :: Qr2 s n :: G)) : Does Tryz.prog 210 #[sl g cap d, .int .i64 a, .int .i64 b, pcnt s, cmp] w
   fun v w' => ∃ a' b' n' : Nat, (a', b', n') = order2 (ltOf cf) d a b n /\ Heap w0 B w' (arr g cap d :: R :: Qr2 s n' :: G) /\ v = .tuple #[.int .i64 a', .int .i64 b'] := by
 refine En [sl g cap d, .int .i64 a, .int .i64 b, pcnt s, cmp] 32 Tryz.func210 ?_
 refine VS [0, 1, 2, 3, 4] ?_
 refine VL [1, 2, 3, 22] 9 fun K hK => ?_
 (repeat (first | (refine ⟨_, Qaz (hL.at 0 rfl) (by omega), ?_⟩;(try refine Qs ?_)) | refine Qo ?_ | refine Qp ?_))
 refine Qbg ?_;refine Qs ?_;refine FnK.to (Cmp.look hC hL (hQ _ (by omega)) (hQ _ (by omega))) ?_;rintro v w4 ⟨hH, rfl⟩;(try refine Qs ?_)
 apply hK;clear hK
 refine VD (fun h => ?_) (fun h => ?_)
 ·
  refine VQ [1, 2] fun K hK => ?_
  (repeat first | refine Qo ?_ | refine Qp ?_ | (refine Gc hH ?_;(try refine Qs ?_)))
  refine Qab ?_;refine Qs ?_;refine Qae hH 2 (vs := [.int .i64 (n + 1 : Nat)]) rfl rfl (by kernel_rfl) (by first | decide | (simp;done) | (simp;omega)) (by simp [Value.oneCell']) fun w6 hH2 => ?_;(try refine Qs ?_)
  apply hK;clear hK
  refine VS [10, 11] ?_
  refine Qah (Qa4 rfl rfl rfl ?_)
  exact ⟨b, a, n + 1, by simp [order2, ltOf, h], hH2, rfl⟩
 refine Qac ?_
 refine VS [10, 11] ?_
 refine Qah (Qa4 rfl rfl rfl ?_)
 exact ⟨a, b, n, by simp [order2, ltOf, h], hH, rfl⟩
theorem Qlt {lt : Int -> Int -> Bool} {d : Array Int} {a b n a' b' n' : Nat} (h : (a', b', n') = order2 lt d a b n) : ((a' = a /\ b' = b) ∨ (a' = b /\ b' = a)) /\ n <= n' /\ n' <= n + 1 := by
 unfold order2 at h
 split at h <;> simp only [Prod.mk.injEq] at h <;> omega
theorem Qoi {cmp : Value} {cf : Int -> Int -> Int} {Q : Int -> Prop} {R : Res} (hC : Cmp cmp cf Q R) (g cap a b c s n : Nat) (d : Array Int) (ha : a < d.size) (hb : b < d.size) (hc : c < d.size) (hd : d.size <= 1000000000000) (hn : n <= 1000000000) (hQ : AllQ Q d) (w0 w : World) (B : List Nat) (G : List Res)
  (hL : Heap w0 B w (arr g cap d :: R :: Qr2 s n :: G)) : Does Tryz.prog 200 #[sl g cap d, .int .i64 a, .int .i64 b, .int .i64 c, pcnt s, cmp] w
   fun v w' => ∃ m n' : Nat, (m, n') = median (ltOf cf) d a b c n /\ (m = a ∨ m = b ∨ m = c) /\ n' <= n + 3 /\ Heap w0 B w' (arr g cap d :: R :: Qr2 s n' :: G) /\ v = .int .i64 m := by
 refine En [sl g cap d, .int .i64 a, .int .i64 b, .int .i64 c, pcnt s, cmp] 41 Tryz.func200 ?_
 refine VS [0, 1, 2, 3, 4, 5] ?_
 refine VQ [0, 1, 2, 3, 4, 5] fun K hK => ?_
 refine Qaa Tryz.call210 ?_;refine Qs ?_;refine CallK.mk (Qj3 hC g cap a b s n d ha hb hd (by omega) hQ w0 w B G hL) ?_
 rintro v w1 ⟨a1, b1, n1, ho1, hH1, rfl⟩
 apply hK;clear hK
 have hm1 := Qlt ho1
 refine VQ [0, 1, 2, 4, 5] fun K hK => ?_
 refine Qaa Tryz.call210 ?_;refine Qs ?_;refine CallK.mk (Qj3 hC g cap b1 c s n1 d (by omega) (by omega) hd (by omega) hQ w0 w1 B G hH1) ?_
 rintro v w2 ⟨b2, c2, n2, ho2, hH2, rfl⟩
 apply hK;clear hK
 have hm2 := Qlt ho2
 refine VQ [2] fun K hK => ?_
 refine Qaa Tryz.call210 ?_;refine Qs ?_;refine CallK.mk (Qj3 hC g cap a1 b2 s n2 d (by omega) (by omega) hd (by omega) hQ w0 w2 B G hH2) ?_
 rintro v w3 ⟨a3, b3, n3, ho3, hH3, rfl⟩
 apply hK;clear hK
 have hm3 := Qlt ho3
 refine VS [12] ?_
 refine Qah (Qat rfl rfl ?_)
 exact ⟨b3, n3, by simp only [median, <- ho1, <- ho2, <- ho3], by omega, by omega, hH3, rfl⟩
theorem Qey {cmp : Value} {cf : Int -> Int -> Int} {Q : Int -> Prop} {R : Res} (hC : Cmp cmp cf Q R) (g cap a s n : Nat) (d : Array Int) (ha0 : 1 <= a) (ha : a + 1 < d.size) (hd : d.size <= 1000000000000) (hn : n <= 1000000000) (hQ : AllQ Q d) (w0 w : World) (B : List Nat) (G : List Res)
  (hL : Heap w0 B w (arr g cap d :: R :: Qr2 s n :: G)) : Does Tryz.prog 199 #[sl g cap d, .int .i64 a, pcnt s, cmp] w
   fun v w' => ∃ m n' : Nat, (m, n') = medianAdjacent (ltOf cf) d a n /\ (a - 1 <= m /\ m <= a + 1) /\ n' <= n + 3 /\ Heap w0 B w' (arr g cap d :: R :: Qr2 s n' :: G) /\ v = .int .i64 m := by
 refine En [sl g cap d, .int .i64 a, pcnt s, cmp] 18 Tryz.func199 ?_
 refine VS [0, 1, 2, 3] ?_
 refine VQ [8] fun K hK => ?_
 (repeat first | refine Qo ?_ | refine Qp ?_)
 have hm := Qoi hC g cap (a - 1) a (a + 1) s n d (by omega) (by omega) (by omega) hd hn hQ w0 w B G hL
 rw [show ((a - 1 : Nat) : Int) = (a : Int) - 1 by omega, show ((a + 1 : Nat) : Int) = (a : Int) + 1 by omega] at hm
 refine Qaa Tryz.call200 ?_;refine Qs ?_;refine CallK.mk hm ?_
 rintro v w1 ⟨m, n1, h1, h2, h3, hH1, rfl⟩
 apply hK;clear hK
 refine Qah (Qat rfl rfl ?_)
 exact ⟨m, n1, h1, by omega, h3, hH1, rfl⟩
open Go Go.Eng
open Go.Sort (swp order2 median medianAdjacent choosePivot Hint reverseLoop reverseRange)
def QDj : Hint -> Int
 | .unknown => 0
 | .increasing => 1
 | .decreasing => 2
theorem Qmv {cmp : Value} {cf : Int -> Int -> Int} {Q : Int -> Prop} {R : Res} (hC : Cmp cmp cf Q R) (g cap a b : Nat) (d : Array Int) (hab : a + 8 <= b) (hb : b <= d.size) (hd : d.size <= 1000000000000) (hQ : AllQ Q d) (w0 w : World) (B : List Nat) (G : List Res)
  (hL : Heap w0 B w (arr g cap d :: R :: G)) : Does Tryz.prog 180 #[sl g cap d, .int .i64 a, .int .i64 b, cmp] w
   fun v w' => ∃ (p : Nat) (h : Hint), (p, h) = choosePivot (ltOf cf) d a b /\ (a <= p /\ p < b) /\ Heap w0 B w' (arr g cap d :: R :: G) /\ v = .tuple #[.int .i64 p, .int .i64 (QDj h)] := by
 refine En [sl g cap d, .int .i64 a, .int .i64 b, cmp] 63 Tryz.func180 ?_
 refine VS [0, 1, 2, 3] ?_
 refine VS [0, 1, 3, 10] ?_
 rw [show ((b : Int) - a) = ((b - a : Nat) : Int) by omega]
 generalize hn : b - a = n at *
 refine VQ [0, 1, 3, 10, 11] fun K hK => ?_
 refine Qal (.int .i64 0) (by kernel_rfl) ?_
 refine Qs ?_
 have hH0 := hL.box 3 [.int .i64 0]
 generalize w.alloc (Obj.cells [Value.int .i64 0].toArray 3) = w1 at *
 generalize w.heap.size = s at *
 have hH : Heap w0 B w1 (arr g cap d :: R :: Qr2 s 0 :: G) := hH0.perm (List.perm_middle (l₁ := [arr g cap d, R])).symm
 clear hH0
 apply hK;clear hK
 refine VS [0, 1, 3, 10, 11, 12] ?_
 refine VS [0, 1, 3, 10, 11, 12, 13] ?_
 refine VS [0, 3, 10, 11, 12, 13, 14] ?_
 obtain ⟨i0, hi0⟩ : ∃ i0, a + n / 4 * 1 = i0 := ⟨_, rfl⟩
 obtain ⟨j0, hj0⟩ : ∃ j0, a + n / 4 * 2 = j0 := ⟨_, rfl⟩
 obtain ⟨k0, hk0⟩ : ∃ k0, a + n / 4 * 3 = k0 := ⟨_, rfl⟩
 rw [show ((a : Int) + n / 4 * 1) = (i0 : Int) by omega, show ((a : Int) + n / 4 * 2) = (j0 : Int) by omega, show ((a : Int) + n / 4 * 3) = (k0 : Int) by omega]
 have hcp : choosePivot (ltOf cf) d a b = (fun r : Nat × Nat => (r.1, if r.2 = 0 then Hint.increasing else if r.2 = 12 then Hint.decreasing else Hint.unknown)) (if n ≥ 8 then if n ≥ 50 then median (ltOf cf) d (medianAdjacent (ltOf cf) d i0 0).1 (medianAdjacent (ltOf cf) d j0 (medianAdjacent (ltOf cf) d i0 0).2).1 (medianAdjacent (ltOf cf) d k0 (medianAdjacent (ltOf cf) d j0 (medianAdjacent (ltOf cf) d i0 0).2).2).1 (medianAdjacent (ltOf cf) d k0 (medianAdjacent (ltOf cf) d j0 (medianAdjacent (ltOf cf) d i0 0).2).2).2 else median (ltOf cf) d i0 j0 k0 0 else (j0, 0)) := by
  simp only [choosePivot, hn, hi0, hj0, hk0]
 have hb1 : a + 2 <= i0 /\ i0 < j0 /\ j0 < k0 /\ k0 + 2 <= b := by omega
 clear hi0 hj0 hk0
 refine VS [0, 3, 10, 11, 12, 13, 14, 34] ?_
 refine Qdb [11, 13] (fun e w' => ∃ m n' : Nat, Is e [(11, pcnt s), (13, .int .i64 m)] /\ Heap w0 B w' (arr g cap d :: R :: Qr2 s n' :: G) /\ (a <= m /\ m < b) /\ choosePivot (ltOf cf) d a b = (m, if n' = 0 then .increasing else if n' = 12 then .decreasing else .unknown)) ?_ ?_
 ·
  refine Qai rfl rfl (fun h => ?_) (fun h => by simp at h;omega)
  simp only [decide_eq_true_eq] at h
  refine VS [0, 3, 11, 12, 13, 14, 36] ?_
  refine Qdb [0, 3, 11, 12, 13, 14] (fun e w' => ∃ i j k n' : Nat, Is e [(0, sl g cap d), (3, cmp), (11, pcnt s), (12, .int .i64 i), (13, .int .i64 j), (14, .int .i64 k)] /\ Heap w0 B w' (arr g cap d :: R :: Qr2 s n' :: G) /\ (a <= i /\ i < b) /\ (a <= j /\ j < b) /\ (a <= k /\ k < b) /\ n' <= 9 /\
   choosePivot (ltOf cf) d a b = ((median (ltOf cf) d i j k n').1, if (median (ltOf cf) d i j k n').2 = 0 then .increasing else if (median (ltOf cf) d i j k n').2 = 12 then .decreasing else .unknown)) ?_ ?_
  ·
   refine VD (fun h => ?_) (fun h => ?_)
   ·
    refine VQ [0, 3, 11, 12, 13, 14] fun K hK => ?_
    refine Qaa Tryz.call199 ?_;refine Qs ?_;refine CallK.mk (Qey hC g cap i0 s 0 d (by omega) (by omega) hd (by omega) hQ w0 w1 B G hH) ?_
    rintro v w2 ⟨i, n1, hi, hi2, hn1, hH1, rfl⟩
    apply hK;clear hK
    refine VQ [0, 3, 11, 12, 13, 14] fun K hK => ?_
    refine Qaa Tryz.call199 ?_;refine Qs ?_;refine CallK.mk (Qey hC g cap j0 s n1 d (by omega) (by omega) hd (by omega) hQ w0 w2 B G hH1) ?_
    rintro v w3 ⟨j, n2, hj, hj2, hn2, hH2, rfl⟩
    apply hK;clear hK
    refine VQ [0, 3, 11, 12, 13, 14] fun K hK => ?_
    refine Qaa Tryz.call199 ?_;refine Qs ?_;refine CallK.mk (Qey hC g cap k0 s n2 d (by omega) (by omega) hd (by omega) hQ w0 w3 B G hH2) ?_
    rintro v w4 ⟨k, n3, hk, hk2, hn3, hH3, rfl⟩
    apply hK;clear hK
    refine Qad ?_
    refine Qs ?_
    refine ⟨i, j, k, n3, rfl, hH3, by omega, by omega, by omega, by omega, ?_⟩
    rw [hcp, if_pos (show n ≥ 8 by omega), if_pos (show n ≥ 50 by omega), <- hi, <- hj, <- hk]
   ·
    refine Qac ?_
    refine Qad ?_
    refine Qs ?_
    refine ⟨_, _, _, 0, rfl, hH, by omega, by omega, by omega, by omega, ?_⟩
    rw [hcp, if_pos (show n ≥ 8 by omega), if_neg (show ¬ n ≥ 50 by omega)]
  rintro e w2 ⟨i, j, k, n1, rfl, hH2, hi, hj, hk, hn1, hch⟩
  refine VQ [11, 13] fun K hK => ?_
  refine Qaa Tryz.call200 ?_;refine Qs ?_;refine CallK.mk (Qoi hC g cap i j k s n1 d (by omega) (by omega) (by omega) hd (by omega) hQ w0 w2 B G hH2) ?_
  rintro v w3 ⟨m, n2, hm, hm2, hn2, hH3, rfl⟩
  apply hK;clear hK
  refine Qad ?_
  refine Qs ?_
  refine ⟨m, n2, rfl, hH3, by omega, ?_⟩
  rw [hch, <- hm]
 clear hH
 rintro e w2 ⟨m, n1, rfl, hH, hm, hch⟩
 have hH4 : Heap w0 B w2 (arr g cap d :: R :: G) := hH.sub (by simp)
 refine VQ [13, 55] fun K hK => ?_
 (repeat first | refine Qo ?_ | refine Qp ?_ | (refine Gc hH ?_;(try refine Qs ?_)))
 apply hK;clear hK
 refine Qag ?_
 refine VS [13, 55, 57] ?_
 refine VD (fun h => ?_) (fun h => ?_)
 ·
  refine VS [8, 9] ?_
  refine Qah (Qa4 rfl rfl rfl ?_)
  exact ⟨m, .increasing, by rw [hch, if_pos (by omega)], hm, hH4, rfl⟩
 ·
  refine VS [13, 60] ?_
  refine VD (fun h => ?_) (fun h => ?_)
  ·
   refine VS [8, 9] ?_
   refine Qah (Qa4 rfl rfl rfl ?_)
   exact ⟨m, .decreasing, by rw [hch, if_neg (by omega), if_pos (by omega)], hm, hH4, rfl⟩
  ·
   refine VS [8, 9] ?_
   refine Qah (Qa4 rfl rfl rfl ?_)
   exact ⟨m, .unknown, by rw [hch, if_neg (by omega), if_neg (by omega)], hm, hH4, rfl⟩
theorem Qpm {i j : Nat} {d : Array Int} (h : i < j) : reverseLoop i j d = reverseLoop (i + 1) (j - 1) (swp d i j) := by
 conv => lhs;rw [reverseLoop]
 rw [if_pos h]
theorem Qmw {i j : Nat} {d : Array Int} (h : ¬ i < j) : reverseLoop i j d = d := by rw [reverseLoop, if_neg h]
theorem Qlu {cmp : Value} {R : Res} {Q : Int -> Prop} (g cap a b : Nat) (d : Array Int) (hab : a < b) (hb : b <= d.size) (hd : d.size <= 1000000000000) (hQ : AllQ Q d) (w0 w : World) (B : List Nat) (G : List Res)
  (hL : Heap w0 B w (arr g cap d :: R :: G)) : Does Tryz.prog 181 #[sl g cap d, .int .i64 a, .int .i64 b, cmp] w
   fun v w' => ∃ d', d' = reverseRange d a b /\ d'.size = d.size /\ AllQ Q d' /\ Heap w0 B w' (arr g cap d' :: R :: G) /\ v = .tuple #[] := by
 refine En [sl g cap d, .int .i64 a, .int .i64 b, cmp] 34 Tryz.func181 ?_
 refine VS [0, 2, 8] ?_
 refine VS [0, 8, 9] ?_
 refine Qag ?_
 refine Qaj [0, 8, 9] (fun m e w' => ∃ (i j : Nat) (d' : Array Int), Is e [(0, sl g cap d), (8, .int .i64 i), (9, .int .i64 j)] /\ Heap w0 B w' (arr g cap d' :: R :: G) /\ d'.size = d.size /\ AllQ Q d' /\ i <= b /\ j < b /\ reverseLoop i j d' = reverseRange d a b /\ m = b - i) (b - a) ?_ ?_
 ·
  refine Qs ?_
  exact ⟨a, b - 1, d, by rw [show ((b : Int) - 1) = ((b - 1 : Nat) : Int) by omega];rfl, hL, rfl, hQ, by omega, by omega, rfl, rfl⟩
 rintro m e w1 ⟨i, j, d1, rfl, hH, hs1, hQ1, hi, hj, hrev, hm⟩
 refine VS [0, 8, 9, 15] ?_
 refine VD (fun h => ?_) (fun h => ?_)
 ·
  refine Qac ?_
  refine Qag ?_
  refine Vb [0, 8, 9] [(0, 0), (1, 0), (2, 0), (3, 0), (4, 0), (5, 0), (6, 0), (8, 0), (9, 0), (10, 0), (7, 1), (11, 1), (12, 0), (13, 2), (14, 0), (15, 2)] fun K hK => ?_
  (repeat (first | (refine ⟨_, Qaz (hH.at 0 rfl) (by omega), ?_⟩;(try refine Qs ?_)) | refine Qo ?_ | refine Qp ?_))
  refine Qab ?_;refine Qs ?_;refine Qa2 hH 0 (o := (i)) rfl (by first | rfl | (simp;done) | (congr 1;omega)) (by first | omega | (simp;omega)) fun w6 hH3 => ?_;simp only [List.set_cons_zero] at hH3;(try refine Qs ?_)
  (repeat (first | (refine ⟨_, Qaz (hH.at 0 rfl) (by omega), ?_⟩;(try refine Qs ?_)) | refine Qo ?_ | refine Qp ?_))
  refine Qab ?_;refine Qs ?_;refine Qa2 hH3 0 (o := (j)) rfl (by first | rfl | (simp;done) | (congr 1;omega)) (by first | omega | (simp;omega)) fun w6 hH4 => ?_;simp only [List.set_cons_zero] at hH4;(try refine Qs ?_)
  have hH5 : Heap w0 B w6 (arr g cap (swp d1 i j) :: R :: G) := hH4
  apply hK;clear hK
  refine VS [0, 8, 9] ?_
  refine VS [0, 8, 9] ?_
  refine Qar ?_
  refine Qad ?_
  refine Qs ?_
  refine ⟨b - (i + 1), by omega, i + 1, j - 1, _, by rw [show ((j : Int) - 1) = ((j - 1 : Nat) : Int) by omega];rfl, hH5, by rw [Qdg, hs1], hQ1.swp (by omega) (by omega), by omega, by omega, ?_, rfl⟩
  rw [<- hrev, Qpm (i := i) (by omega)]
 ·
  refine Qak rfl ?_
  refine Qp0 (Qfz rfl ?_)
  rw [Qmw (by omega)] at hrev
  exact ⟨_, hrev, hs1, hQ1, hH, rfl⟩
open Go Go.Eng
open Go.Sort (bitsLen)
theorem QGx {P : Program} {fn : Func} {F : Value -> World -> Prop} {N : Nat} {k : List It} {e : Env} {w : World} {x y : Code} (hf : VC ⟨P, fn, F, N⟩ (.code y :: k) e w) : VC ⟨P, fn, F, N⟩ (.code (.cond (.const (.bool false)) x y) :: k) e w := by
 intro a n ha
 exact wp_cond_split (t := false) rfl (fun h => by cases h) (fun _ => hf a n ha)
theorem Qhw {x k : Nat} (h : 2 ^ k <= x) : bitsLen (x / 2 ^ k) + k = bitsLen x := by
 have h0 : x ≠ 0 := by have := Nat.pow_pos (n := k) (show 0 < 2 by omega);omega
 have h1 : x / 2 ^ k ≠ 0 := by have := Nat.div_pos h (Nat.pow_pos (by omega));omega
 unfold bitsLen
 rw [if_neg h0, if_neg h1]
 have e : Nat.log2 (x / 2 ^ k) = Nat.log2 x - k := by
  rw [Nat.log2_eq_iff h1]
  have h2 := Nat.log2_self_le h0
  have h3 := Nat.lt_log2_self (n := x)
  have hk : k <= Nat.log2 x := (Nat.le_log2 h0).2 h
  constructor
  ·
   rw [Nat.le_div_iff_mul_le (Nat.pow_pos (by omega)), <- Nat.pow_add, Nat.sub_add_cancel hk];exact h2
  ·
   rw [Nat.div_lt_iff_lt_mul (Nat.pow_pos (by omega)), <- Nat.pow_add, show Nat.log2 x - k + 1 + k = Nat.log2 x + 1 by omega];exact h3
 have hk : k <= Nat.log2 x := (Nat.le_log2 h0).2 h
 omega
theorem QAz (x : Nat) : x < 2 ^ bitsLen x := by
 unfold bitsLen
 split
 ·
  omega
 ·
  exact Nat.lt_log2_self
theorem Qga {x n : Nat} (h : x < 2 ^ n) : bitsLen x <= n := by
 unfold bitsLen
 split
 ·
  omega
 ·
  rename_i h0
  have := (Nat.log2_lt h0).2 h
  omega
def len8 : List UInt8 := (List.range 256).map fun n => UInt8.ofNat (bitsLen n)
theorem Qyr {y : Nat} (h : y < 256) : (len8.getD y 0).toNat = bitsLen y := by
 have hl := Qga (n := 8) h
 simp only [len8, List.getD_eq_getElem?_getD, List.getElem?_map, List.getElem?_range h, Option.map_some, Option.getD_some]
 simp;omega
theorem QA0 (x : Nat) (hx : x < 18446744073709551616) (w : World) : Does Tryz.prog 186 #[.int .u64 x] w fun v w' => w' = w /\ v = .int .i64 (bitsLen x) := by
 refine En [.int .u64 x] 25 Tryz.func186 ?_
 refine VS [0, 2] ?_
 refine VS [0, 2, 4] ?_
 refine Qdb [0, 2] (fun e w' => ∃ y n : Nat, Is e [(0, .int .u64 y), (2, .int .i64 n)] /\ Is w' w /\ bitsLen y + n = bitsLen x /\ y < 4294967296 /\ n <= 32) ?_ ?_
 ·
  refine VD (fun h => ?_) (fun h => ?_)
  ·
   refine VQ [0] fun K hK => ?_
   refine Qo ?_
   rw [show shN IntKind.u64 32 = 32 from rfl, Qgw]
   apply hK;clear hK
   refine VS [0, 2] ?_
   refine Qad ?_
   refine Qs ?_
   exact ⟨x / 2 ^ 32, 32, rfl, rfl, Qhw (k := 32) (by omega), by omega, by omega⟩
  ·
   refine Qac ?_
   refine Qad ?_
   refine Qs ?_
   exact ⟨x, 0, rfl, rfl, rfl, by omega, by omega⟩
 rintro e w' ⟨y, n, rfl, rfl, hyn, hy, hn⟩
 refine VS [0, 2, 8] ?_
 refine Qdb [0, 2] (fun e w'' => ∃ y n : Nat, Is e [(0, .int .u64 y), (2, .int .i64 n)] /\ Is w'' w' /\ bitsLen y + n = bitsLen x /\ y < 65536 /\ n <= 48) ?_ ?_
 ·
  refine VD (fun h => ?_) (fun h => ?_)
  ·
   refine VQ [0, 2] fun K hK => ?_
   refine Qo ?_
   rw [show shN IntKind.u64 16 = 16 from rfl, Qgw]
   apply hK;clear hK
   refine VS [0, 2] ?_
   refine Qad ?_
   refine Qs ?_
   have h1 := Qhw (x := y) (k := 16) (by omega)
   exact ⟨y / 2 ^ 16, n + 16, rfl, rfl, by omega, by omega, by omega⟩
  ·
   refine Qac ?_
   refine Qad ?_
   refine Qs ?_
   exact ⟨y, n, rfl, rfl, hyn, by omega, by omega⟩
 clear hyn hy hn
 rintro e w'' ⟨y, n, rfl, rfl, hyn, hy, hn⟩
 refine VS [0, 2, 14] ?_
 refine VD (fun h => ?_) (fun h => ?_)
 ·
  refine VQ [0, 2] fun K hK => ?_
  refine Qo ?_
  rw [show shN IntKind.u64 8 = 8 from rfl, Qgw]
  apply hK;clear hK
  refine VS [0, 2] ?_
  have h1 := Qhw (x := y) (k := 8) (by omega)
  refine VQ [2] fun K hK => ?_
  generalize htab : List.append (List.append _ _) (List.append _ _) = tab at *
  have ht2 : tab = len8 := by rw [<- htab];kernel_rfl
  clear htab
  subst ht2
  have h9 := Qga (n := 8) (show y / 2 ^ 8 < 2 ^ 8 by omega)
  rw [Int.emod_eq_of_lt (by omega) (by omega), Int.toNat_natCast, Qyr (by omega), show len8.length = 256 by simp [len8]]
  refine Qp ?_
  (repeat refine Qo ?_);apply hK;clear hK
  refine Qah (Qat rfl rfl ⟨rfl, ?_⟩)
  rw [show ((n : Int) + 8 + (bitsLen (y / 2 ^ 8) : Nat)) = bitsLen x by omega]
 ·
  refine Qac ?_
  refine VQ [2] fun K hK => ?_
  generalize htab : List.append (List.append _ _) (List.append _ _) = tab at *
  have ht2 : tab = len8 := by rw [<- htab];kernel_rfl
  clear htab
  subst ht2
  have h9 := Qga (n := 8) (show y < 2 ^ 8 by omega)
  rw [Int.emod_eq_of_lt (by omega) (by omega), Int.toNat_natCast, Qyr (by omega), show len8.length = 256 by simp [len8]]
  refine Qp ?_
  (repeat refine Qo ?_);apply hK;clear hK
  refine Qah (Qat rfl rfl ⟨rfl, ?_⟩)
  rw [show ((n : Int) + (bitsLen y : Nat)) = bitsLen x by omega]
theorem Qqv (x : Nat) (hx : x < 18446744073709551616) (w : World) : Does Tryz.prog 159 #[.int .u64 x] w fun v w' => w' = w /\ v = .int .i64 (bitsLen x) := by
 refine En [.int .u64 x] 8 Tryz.func159 ?_
 refine VS [0] ?_
 (repeat refine Qaw ?_)
 refine QGx (Qac ?_)
 refine VQ [2] fun K hK => ?_
 refine Qaa Tryz.call186 ?_;refine Qs ?_;refine CallK.mk (QA0 x hx w) ?_
 rintro v w2 ⟨rfl, rfl⟩
 apply hK;clear hK
 exact Qah (Qat rfl rfl ⟨rfl, rfl⟩)
theorem Qj4 (x : Nat) (hx : x < 1000000000000) (w : World) : Does Tryz.prog 197 #[.int .i64 x] w fun v w' => w' = w /\ v = .int .u64 (2 ^ bitsLen x : Nat) := by
 refine En [.int .i64 x] 7 Tryz.func197 ?_
 refine VS [0] ?_
 refine VQ [2] fun K hK => ?_
 rw [Int.emod_eq_of_lt (by omega) (by omega)]
 refine Qaa Tryz.call159 ?_;refine Qs ?_;refine CallK.mk (Qqv x (by omega) w) ?_
 rintro v w2 ⟨rfl, rfl⟩
 refine Qs ?_
 have h40 : bitsLen x <= 40 := Qga (by omega)
 have hp : 2 ^ bitsLen x <= 2 ^ 40 := Nat.pow_le_pow_right (by omega) h40
 refine Qo ?_
 rw [Qp9 rfl (by rw [show IntKind.bits .u64 = 64 from rfl];omega), show ((1 : Int) * 2 ^ bitsLen x) = ((2 ^ bitsLen x : Nat) : Int) by rw [Int.one_mul];push_cast;rfl]
 generalize 2 ^ bitsLen x = q at *
 rw [Int.emod_eq_of_lt (by omega) (by omega)]
 apply hK;clear hK
 exact Qah (Qat rfl rfl ⟨rfl, rfl⟩)
open Go Go.Eng
open Go.Sort (swp bitsLen xorNext breakStep breakPatterns)
abbrev rnd (s : Nat) (r : UInt64) : Res := Res.blk s 228 [.int .u64 r.toNat]
theorem QSs (r : UInt64) : ((r.toNat : Int) * (2 : Int) ^ shN IntKind.u64 13 % (18446744073709551616 : Int)) = ((r <<< 13).toNat : Int) := by
 rw [show shN IntKind.u64 13 = 13 from rfl, UInt64.toNat_shiftLeft, Qm2, Nat.shiftLeft_eq, show (13 : UInt64).toNat % 64 = 13 from rfl]
 rfl
theorem QSt (r : UInt64) : ((r.toNat : Int) * (2 : Int) ^ shN IntKind.u64 17 % (18446744073709551616 : Int)) = ((r <<< 17).toNat : Int) := by
 rw [show shN IntKind.u64 17 = 17 from rfl, UInt64.toNat_shiftLeft, Qm2, Nat.shiftLeft_eq, show (17 : UInt64).toNat % 64 = 17 from rfl]
 rfl
theorem shr7 (r : UInt64) : ((r.toNat : Int) / (2 : Int) ^ shN IntKind.u64 7) = ((r >>> 7).toNat : Int) := by
 rw [show shN IntKind.u64 7 = 7 from rfl, UInt64.toNat_shiftRight, Qgw, Nat.shiftRight_eq_div_pow, show (7 : UInt64).toNat % 64 = 7 from rfl]
theorem Qw5 (s : Nat) (r : UInt64) (w : World) (hL : Heap w (rnd s r).foot w [rnd s r]) : Does Tryz.prog 198 #[.pointer (some ⟨s, 0, none⟩)] w
   fun v w' => Heap w (rnd s r).foot w' [rnd s (xorNext r)] /\ v = .int .u64 (xorNext r).toNat := by
 refine En [.pointer (some ⟨s, 0, none⟩)] 33 Tryz.func198 ?_
 refine VS [0] ?_
 refine VL [0] 9 fun K hK => ?_
 (repeat first | refine Qo ?_ | refine Qp ?_ | (refine Gc hL ?_;(try refine Qs ?_)))
 rw [QSs, Int.toNat_natCast, <- UInt64.toNat_xor]
 generalize hr1 : r ^^^ (r <<< 13) = r1 at *
 have hb := r.toNat_lt
 have hb2 := (r <<< 13).toNat_lt
 have hb3 := r1.toNat_lt
 refine ⟨⟨by omega, by omega⟩, ⟨by omega, by omega⟩, ?_⟩
 refine Qab ?_;refine Qs ?_;refine Qae hL 0 (vs := [.int .u64 r1.toNat]) rfl rfl (by kernel_rfl) (by first | decide | (simp;done) | (simp;omega)) (by simp [Value.oneCell']) fun w6 hH1 => ?_;(try refine Qs ?_)
 apply hK;clear hK
 refine VL [0] 9 fun K hK => ?_
 (repeat first | refine Qo ?_ | refine Qp ?_ | (refine Gc hH1 ?_;(try refine Qs ?_)))
 rw [shr7, Int.toNat_natCast, <- UInt64.toNat_xor]
 generalize hr2 : r1 ^^^ (r1 >>> 7) = r2 at *
 have hb4 := (r1 >>> 7).toNat_lt
 have hb5 := r2.toNat_lt
 refine Qp ?_
 refine Qab ?_;refine Qs ?_;refine Qae hH1 0 (vs := [.int .u64 r2.toNat]) rfl rfl (by kernel_rfl) (by first | decide | (simp;done) | (simp;omega)) (by simp [Value.oneCell']) fun w6 hH2 => ?_;(try refine Qs ?_)
 apply hK;clear hK
 refine VL [0] 9 fun K hK => ?_
 (repeat first | refine Qo ?_ | refine Qp ?_ | (refine Gc hH2 ?_;(try refine Qs ?_)))
 rw [QSt, Int.toNat_natCast, <- UInt64.toNat_xor]
 generalize hr3 : r2 ^^^ (r2 <<< 17) = r3 at *
 have hb6 := (r2 <<< 17).toNat_lt
 have hb7 := r3.toNat_lt
 refine Qab ?_;refine Qs ?_;refine Qae hH2 0 (vs := [.int .u64 r3.toNat]) rfl rfl (by kernel_rfl) (by first | decide | (simp;done) | (simp;omega)) (by simp [Value.oneCell']) fun w6 hH3 => ?_;(try refine Qs ?_)
 apply hK;clear hK
 refine VQ [2] fun K hK => ?_
 (repeat first | refine Qo ?_ | refine Qp ?_ | (refine Gc hH3 ?_;(try refine Qs ?_)))
 apply hK;clear hK
 have e : xorNext r = r3 := by simp only [xorNext, hr1, hr2, hr3]
 rw [e]
 exact Qah (Qat rfl rfl ⟨hH3, rfl⟩)
def brkN (a length modulus idx : Nat) (d : Array Int) : Nat -> UInt64 × Array Int
 | 0 => (UInt64.ofNat length, d)
 | k + 1 => breakStep a length modulus (brkN a length modulus idx d k) (idx + k)
theorem Qkw {cmp : Value} {R : Res} {Q : Int -> Prop} (g cap a b : Nat) (d : Array Int) (hab : a + 8 <= b) (hb : b <= d.size) (hd : d.size <= 100000000000) (hQ : AllQ Q d) (w0 w : World) (B : List Nat) (G : List Res)
  (hL : Heap w0 B w (arr g cap d :: R :: G)) : Does Tryz.prog 179 #[sl g cap d, .int .i64 a, .int .i64 b, cmp] w
   fun v w' => ∃ d', d' = breakPatterns d a b /\ d'.size = d.size /\ AllQ Q d' /\ Heap w0 B w' (arr g cap d' :: R :: G) /\ v = .tuple #[] := by
 refine En [sl g cap d, .int .i64 a, .int .i64 b, cmp] 67 Tryz.func179 ?_
 refine VS [0, 1, 8] ?_
 rw [show ((b : Int) - a) = ((b - a : Nat) : Int) by omega]
 generalize hn : b - a = n at *
 refine VS [0, 1, 8, 17] ?_
 refine Qai rfl rfl (fun h => ?_) (fun h => by simp at h;omega)
 simp only [decide_eq_true_eq] at h
 refine VQ [0, 1, 8, 9] fun K hK => ?_
 refine Qal (.int .u64 0) (by kernel_rfl) ?_
 refine Qs ?_
 have hH0 := hL.box 228 [.int .u64 0]
 generalize w.alloc (Obj.cells [Value.int .u64 0].toArray 228) = w1 at *
 generalize w.heap.size = s at *
 rw [Int.emod_eq_of_lt (by omega) (by omega)]
 have e1 : n = (UInt64.ofNat n).toNat := by rw [UInt64.toNat_ofNat'];omega
 refine Qab ?_;refine Qs ?_;refine Qae hH0 0 (vs := [.int .u64 n]) rfl rfl (by kernel_rfl) (by first | decide | (simp;done) | (simp;omega)) (by simp [Value.oneCell']) fun w6 hH1 => ?_;(try refine Qs ?_)
 have hH : Heap w0 B w6 (rnd s (UInt64.ofNat n) :: arr g cap d :: R :: G) := by rw [rnd, <- e1];exact hH1
 apply hK;clear hK
 refine VQ [0, 1, 8, 9, 10] fun K hK => ?_
 refine Qaa Tryz.call197 ?_;refine Qs ?_;refine CallK.mk (Qj4 n (by omega) w6) ?_
 rintro v w2 ⟨rfl, rfl⟩
 apply hK;clear hK
 have h40 : bitsLen n <= 40 := Qga (by omega)
 have hp : 2 ^ bitsLen n <= 2 ^ 40 := Nat.pow_le_pow_right (by omega) h40
 have hp0 : 0 < 2 ^ bitsLen n := Nat.pow_pos (by omega)
 have hpn := QAz n
 have hmod : 1 <<< bitsLen n = 2 ^ bitsLen n := by rw [Nat.shiftLeft_eq, Nat.one_mul]
 have hpow2 : ∀ r : Nat, r &&& (2 ^ bitsLen n - 1) < 2 ^ bitsLen n := fun r => by rw [Nat.and_two_pow_sub_one_eq_mod];exact Nat.mod_lt _ hp0
 have hle : 2 ^ bitsLen n <= 2 * n := by
  have h0 : n ≠ 0 := by omega
  have := Nat.log2_self_le h0
  rw [show bitsLen n = Nat.log2 n + 1 by unfold bitsLen;rw [if_neg h0], Nat.pow_succ]
  omega
 refine VS [0, 1, 8, 9, 10, 11] ?_
 have hbp : breakPatterns d a b = (brkN a n (2 ^ bitsLen n) (a + n / 4 * 2 - 1) d 3).2 := by
  simp only [breakPatterns, hn, hmod, if_pos (show n ≥ 8 by omega)]
  rfl
 have hix : a + 3 <= a + n / 4 * 2 - 1 /\ a + n / 4 * 2 - 1 + 3 <= b := by omega
 rw [show ((a : Int) + n / 4 * 2 - 1) = ((a + n / 4 * 2 - 1 : Nat) : Int) by omega]
 have hlim : (a : Int) + n / 4 * 2 + 1 = ((a + n / 4 * 2 - 1 : Nat) : Int) + 2 := by omega
 generalize a + n / 4 * 2 - 1 = i0 at *
 generalize 2 ^ bitsLen n = md at *
 refine Qag ?_
 refine Qaj [0, 1, 8, 9, 10, 11] (fun m e w' => ∃ (k : Nat), Is e [(0, sl g cap d), (1, .int .i64 a), (8, .int .i64 n), (9, .pointer (some ⟨s, 0, none⟩)), (10, .int .u64 md), (11, .int .i64 (i0 + k : Nat))] /\ Heap w0 B w' (rnd s (brkN a n md i0 d k).1 :: arr g cap (brkN a n md i0 d k).2 :: R :: G) /\ (brkN a n md i0 d k).2.size = d.size /\ AllQ Q (brkN a n md i0 d k).2 /\ k <= 3 /\ m = 3 - k) 3 ?_ ?_
 ·
  refine Qs ?_
  exact ⟨0, rfl, hH, rfl, hQ, by omega, rfl⟩
 clear hH hH1 hH0
 rintro m e w3 ⟨k, rfl, hH, hs1, hQ1, hk, hm⟩
 refine VQ [0, 1, 8, 9, 10, 11, 35] fun K hK => ?_
 rw [hlim]
 (repeat refine Qo ?_);apply hK;clear hK
 refine VD (fun h => ?_) (fun h => ?_)
 ·
  refine Qac ?_
  refine VB ?_
  refine VQ [0, 1, 8, 9, 10, 11, 12] fun K hK => ?_
  refine Qaa Tryz.call198 ?_;refine Qs ?_;refine CallK.mk (Qw5 s _ w3 (hH.focus 0 rfl)) ?_
  rintro v w4 ⟨hH2, rfl⟩
  have hH3 := hH.call1 (G' := []) 0 rfl hH2
  simp only [List.nil_append, List.set_cons_zero] at hH3
  refine Qs ?_
  have hst : brkN a n md i0 d (k + 1) = breakStep a n md (brkN a n md i0 d k) (i0 + k) := rfl
  clear hH hH2
  generalize brkN a n md i0 d k = st at *
  obtain ⟨r, d1⟩ := st
  simp only [breakStep] at hst
  dsimp only at hH3 hs1 hQ1 ⊢
  generalize xorNext r = r1 at *
  have hb1 := r1.toNat_lt
  rw [Int.emod_eq_of_lt (by omega) (by omega), show ((md : Int) - 1).toNat = md - 1 by omega]
  have ho := hpow2 r1.toNat
  generalize r1.toNat &&& (md - 1) = o at *
  refine ⟨⟨by omega, by omega⟩, ⟨by omega, by omega⟩, ?_⟩
  (repeat refine Qo ?_);apply hK;clear hK
  refine VS [0, 1, 8, 9, 10, 11, 12, 45] ?_
  refine Qdb [0, 1, 8, 9, 10, 11, 12] (fun e w' => ∃ q : Nat, Is e [(0, sl g cap d), (1, .int .i64 a), (8, .int .i64 n), (9, .pointer (some ⟨s, 0, none⟩)), (10, .int .u64 md), (11, .int .i64 (i0 + k : Nat)), (12, .int .i64 q)] /\ Is w' w4 /\ q = (if o ≥ n then o - n else o) /\ q < n) ?_ ?_
  ·
   refine VD (fun h => ?_) (fun h => ?_)
   ·
    refine VS [0, 1, 8, 9, 10, 11, 12] ?_
    refine Qad ?_
    refine Qs ?_
    exact ⟨o - n, by rw [show ((o : Int) - n) = ((o - n : Nat) : Int) by omega];rfl, rfl, by rw [if_pos (by omega)], by omega⟩
   ·
    refine Qac ?_
    refine Qad ?_
    refine Qs ?_
    exact ⟨o, rfl, rfl, by rw [if_neg (by omega)], by omega⟩
  rintro e w5 ⟨q, rfl, rfl, hq, hq2⟩
  rw [<- hq] at hst
  have hH4 := hH3.front 1 rfl
  simp only [List.eraseIdx_cons_succ, List.eraseIdx_cons_zero] at hH4
  refine Vb [0, 1, 8, 9, 10, 11] [(0, 0), (1, 0), (2, 0), (3, 0), (4, 0), (5, 0), (6, 0), (7, 0), (8, 0), (9, 0), (10, 0), (12, 0), (13, 0), (14, 0), (11, 1), (15, 1), (16, 0), (17, 2), (18, 0), (19, 2)] fun K hK => ?_
  (repeat (first | (refine ⟨_, Qaz (hH4.at 0 rfl) (by omega), ?_⟩;(try refine Qs ?_)) | refine Qo ?_ | refine Qp ?_))
  refine Qab ?_;refine Qs ?_;refine Qa2 hH4 0 (o := (i0 + k)) rfl (by first | rfl | (simp;done) | (congr 1;omega)) (by first | omega | (simp;omega)) fun w6 hH5 => ?_;simp only [List.set_cons_zero] at hH5;(try refine Qs ?_)
  (repeat (first | (refine ⟨_, Qaz (hH4.at 0 rfl) (by omega), ?_⟩;(try refine Qs ?_)) | refine Qo ?_ | refine Qp ?_))
  refine Qab ?_;refine Qs ?_;refine Qa2 hH5 0 (o := (a + q)) rfl (by first | rfl | (simp;done) | (congr 1;omega)) (by first | omega | (simp;omega)) fun w6 hH6 => ?_;simp only [List.set_cons_zero] at hH6;(try refine Qs ?_)
  have hH7 : Heap w0 B w6 (arr g cap (swp d1 (i0 + k) (a + q)) :: rnd s r1 :: R :: G) := hH6
  have hH8 := hH7.front 1 rfl
  simp only [List.eraseIdx_cons_succ, List.eraseIdx_cons_zero] at hH8
  apply hK;clear hK
  refine Qar ?_
  refine VS [0, 1, 8, 9, 10, 11] ?_
  refine Qad ?_
  refine Qs ?_
  refine ⟨3 - (k + 1), by omega, k + 1, by rw [show (((i0 + k : Nat) : Int) + 1) = ((i0 + (k + 1) : Nat) : Int) by omega];rfl, ?_, ?_, ?_, by omega, rfl⟩
  ·
   rw [hst];exact hH8
  ·
   rw [hst];rw [Qdg];exact hs1
  ·
   rw [hst];exact hQ1.swp (by omega) (by omega)
 ·
  obtain rfl : k = 3 := by omega
  refine Qak rfl ?_
  refine Qp0 (Qfz rfl ?_)
  exact ⟨_, hbp.symm, hs1, hQ1, (hH.sub (by simp)), rfl⟩
open Go Go.Eng
open Go.Sort (swp scanUp scanDown partLoop partition partEqLoop partitionEqual)
theorem Qoj {p : Int -> Bool} {d : Array Int} {j i : Nat} (h : i <= j) (hb : true = (decide (i <= j) && p d[i]!)) : scanUp p d j i = scanUp p d j (i + 1) := by
 conv => lhs;rw [scanUp]
 rw [if_pos hb.symm]
theorem Qj5 {p : Int -> Bool} {d : Array Int} {j i : Nat} (hb : false = (decide (i <= j) && p d[i]!)) : scanUp p d j i = i := by
 rw [scanUp, if_neg (by rw [<- hb];simp)]
theorem Qj6 {p : Int -> Bool} {d : Array Int} {j i : Nat} (h : 0 < j) (hb : true = (decide (i <= j) && p d[j]!)) : scanDown p d i j = scanDown p d i (j - 1) := by
 obtain ⟨k, rfl⟩ : ∃ k, j = k + 1 := ⟨j - 1, by omega⟩
 conv => lhs;rw [scanDown]
 rw [if_pos hb.symm];rfl
theorem Qhx {p : Int -> Bool} {d : Array Int} {j i : Nat} (hb : false = (decide (i <= j) && p d[j]!)) : scanDown p d i j = j := by
 cases j with
 | zero => rfl
 | succ k => rw [scanDown, if_neg (by rw [<- hb];simp)]
theorem Qw6 {lt : Int -> Int -> Bool} {a i j i2 j2 : Nat} {d : Array Int} (h1 : i2 = scanUp (fun x => !lt d[a]! x) d j i) (h2 : j2 = scanDown (fun x => lt d[a]! x) d i2 j) (h : i2 > j2) : partEqLoop lt a i j d = (i2, d) := by
 rw [partEqLoop];simp only [<- h1, <- h2];rw [if_pos h]
theorem QDk {lt : Int -> Int -> Bool} {a i j i2 j2 : Nat} {d : Array Int} (h1 : i2 = scanUp (fun x => !lt d[a]! x) d j i) (h2 : j2 = scanDown (fun x => lt d[a]! x) d i2 j) (h : ¬ i2 > j2) (h3 : i <= i2) (h4 : j2 <= j) (h5 : 1 <= j2) : partEqLoop lt a i j d = partEqLoop lt a (i2 + 1) (j2 - 1) (swp d i2 j2) := by
 conv => lhs;rw [partEqLoop]
 simp only [<- h1, <- h2];rw [if_neg h, dif_pos (by omega)]
theorem QDl {lt : Int -> Int -> Bool} {a i j i2 j2 : Nat} {d : Array Int} (h1 : i2 = scanUp (fun x => lt x d[a]!) d j i) (h2 : j2 = scanDown (fun x => !lt x d[a]!) d i2 j) (h : i2 > j2) : partLoop lt a i j d = (j2, d) := by
 rw [partLoop];simp only [<- h1, <- h2];rw [if_pos h]
theorem QLe {lt : Int -> Int -> Bool} {a i j i2 j2 : Nat} {d : Array Int} (h1 : i2 = scanUp (fun x => lt x d[a]!) d j i) (h2 : j2 = scanDown (fun x => !lt x d[a]!) d i2 j) (h : ¬ i2 > j2) (h3 : i <= i2) (h4 : j2 <= j) (h5 : 1 <= j2) : partLoop lt a i j d = partLoop lt a (i2 + 1) (j2 - 1) (swp d i2 j2) := by
 conv => lhs;rw [partLoop]
 simp only [<- h1, <- h2];rw [if_neg h, dif_pos (by omega)]
theorem Qj7 {cmp : Value} {cf : Int -> Int -> Int} {Q : Int -> Prop} {R : Res} (hC : Cmp cmp cf Q R) (g cap a b pivot : Nat) (d : Array Int) (hab : a < b) (hb : b <= d.size) (hp : a <= pivot /\ pivot < b) (hd : d.size <= 1000000000000) (hQ : AllQ Q d) (w0 w : World) (B : List Nat) (G : List Res)
  (hL : Heap w0 B w (arr g cap d :: R :: G)) : Does Tryz.prog 183 #[sl g cap d, .int .i64 a, .int .i64 b, .int .i64 pivot, cmp] w
   fun v w' => ∃ (p : Nat) (d' : Array Int), (p, d') = partitionEqual (ltOf cf) d a b pivot /\ (a < p /\ p <= b) /\ d'.size = d.size /\ AllQ Q d' /\ Heap w0 B w' (arr g cap d' :: R :: G) /\ v = .int .i64 p := by
 refine En [sl g cap d, .int .i64 a, .int .i64 b, .int .i64 pivot, cmp] 90 Tryz.func183 ?_
 refine VS [0, 1, 2, 3, 4] ?_
 refine Vb [0, 1, 2, 4] [(0, 0), (1, 0), (2, 0), (3, 0), (4, 0), (5, 0), (6, 0), (8, 0), (9, 0), (10, 0), (7, 1), (11, 1), (12, 0), (13, 2), (14, 0), (15, 2)] fun K hK => ?_
 (repeat (first | (refine ⟨_, Qaz (hL.at 0 rfl) (by omega), ?_⟩;(try refine Qs ?_)) | refine Qo ?_ | refine Qp ?_))
 refine Qab ?_;refine Qs ?_;refine Qa2 hL 0 (o := (a)) rfl (by first | rfl | (simp;done) | (congr 1;omega)) (by first | omega | (simp;omega)) fun w6 hS1 => ?_;simp only [List.set_cons_zero] at hS1;(try refine Qs ?_)
 (repeat (first | (refine ⟨_, Qaz (hL.at 0 rfl) (by omega), ?_⟩;(try refine Qs ?_)) | refine Qo ?_ | refine Qp ?_))
 refine Qab ?_;refine Qs ?_;refine Qa2 hS1 0 (o := (pivot)) rfl (by first | rfl | (simp;done) | (congr 1;omega)) (by first | omega | (simp;omega)) fun w6 hS2 => ?_;simp only [List.set_cons_zero] at hS2;(try refine Qs ?_)
 have hS0 : Heap w0 B w6 (arr g cap (swp d a pivot) :: R :: G) := hS2
 clear hS1 hS2
 apply hK;clear hK
 have hs0 : (swp d a pivot).size = d.size := Qdg _ _ _
 have hQ0 := hQ.swp (i := a) (j := pivot) (by omega) (by omega)
 refine VS [0, 1, 4, 11, 12] ?_
 refine VB ?_
 refine Qaj [0, 1, 4, 11, 12] (fun m e w' => ∃ (i j : Nat) (d' : Array Int), Is e [(0, sl g cap d), (1, .int .i64 a), (4, cmp), (11, .int .i64 i), (12, .int .i64 j)] /\ Heap w0 B w' (arr g cap d' :: R :: G) /\ d'.size = d.size /\ AllQ Q d' /\ a + 1 <= i /\ (i <= j + 2 /\ i <= b /\ a <= j) /\ j < b /\ partEqLoop (ltOf cf) a i j d' = partitionEqual (ltOf cf) d a b pivot /\ m = j + 1 - i) (b - (a + 1)) ?_ ?_
 ·
  refine Qs ?_
  exact ⟨a + 1, b - 1, _, by rw [show ((b : Int) - 1) = ((b - 1 : Nat) : Int) by omega];rfl, hS0, hs0, hQ0, by omega, by omega, by omega, rfl, by omega⟩
 clear hS0
 rintro m0 e w1 ⟨i0, j, d1, rfl, hH, hs1, hQ1, hi0, hij0, hj, hlp, hm0⟩
 refine Qag ?_
 refine VB ?_
 refine Qaj [0, 1, 4, 11, 12] (fun m e w' => ∃ (i : Nat), Is e [(0, sl g cap d), (1, .int .i64 a), (4, cmp), (11, .int .i64 i), (12, .int .i64 j)] /\ Heap w0 B w' (arr g cap d1 :: R :: G) /\ i0 <= i /\ (i <= j + 1 ∨ i = i0) /\ scanUp (fun x => !ltOf cf d1[a]! x) d1 j i = scanUp (fun x => !ltOf cf d1[a]! x) d1 j i0 /\ m = j + 1 - i) (j + 1 - i0) ?_ ?_
 ·
  refine Qs ?_
  exact ⟨i0, rfl, hH, by omega, by omega, rfl, rfl⟩
 clear hH
 rintro m e w2 ⟨i, rfl, hH, hi1, hi2, hsc, hm⟩
 refine VL [0, 1, 4, 11, 12, 47] 13 fun K hK => ?_
 have hall : ∀ bb : Bool, ∀ w4, bb = (decide (i <= j) && (!ltOf cf d1[a]! d1[i]!)) -> Heap w0 B w4 (arr g cap d1 :: R :: G) -> K [(0, sl g cap d), (1, .int .i64 a), (4, cmp), (11, .int .i64 i), (12, .int .i64 j), (47, .bool bb)] w4 := by
  clear hH
  intro bb w4 hbb hH
  apply hK;clear hK
  refine Vi (fun h => ?_) (fun h => ?_)
  ·
   subst h
   have hij : i <= j := by simp at hbb;omega
   refine Qac ?_
   refine Qag ?_
   refine VS [0, 1, 4, 11, 12] ?_
   refine Qar ?_
   refine Qad ?_
   refine Qs ?_
   refine ⟨j + 1 - (i + 1), by omega, i + 1, rfl, hH, by omega, by omega, ?_, rfl⟩
   rw [<- hsc, Qoj (p := fun x => !ltOf cf d1[a]! x) (i := i) (j := j) (by omega) hbb]
  ·
   subst h
   rw [Qj5 hbb] at hsc
   clear hbb
   refine Qak rfl ?_
   obtain ⟨j0, hj0⟩ : ∃ j0, j0 = j := ⟨_, rfl⟩
   subst hj0
   refine VB ?_
   refine Qaj [0, 1, 4, 11, 12] (fun m e w' => ∃ (j : Nat), Is e [(0, sl g cap d), (1, .int .i64 a), (4, cmp), (11, .int .i64 i), (12, .int .i64 j)] /\ Heap w0 B w' (arr g cap d1 :: R :: G) /\ (i <= j + 2 /\ a <= j) /\ j <= j0 /\ scanDown (fun x => ltOf cf d1[a]! x) d1 i j = scanDown (fun x => ltOf cf d1[a]! x) d1 i j0 /\ m = j) (j0) ?_ ?_
   ·
    refine Qs ?_
    exact ⟨j0, rfl, hH, by omega, by omega, rfl, rfl⟩
   clear hH
   rintro m e w2 ⟨j, rfl, hH, hj1, hj2, hsd, hm⟩
   refine VL [0, 1, 4, 11, 12, 65] 13 fun K hK => ?_
   have hall : ∀ bb : Bool, ∀ w4, bb = (decide (i <= j) && ltOf cf d1[a]! d1[j]!) -> Heap w0 B w4 (arr g cap d1 :: R :: G) -> K [(0, sl g cap d), (1, .int .i64 a), (4, cmp), (11, .int .i64 i), (12, .int .i64 j), (65, .bool bb)] w4 := by
    clear hH
    intro bb w4 hbb hH
    apply hK;clear hK
    refine Vi (fun h => ?_) (fun h => ?_)
    ·
     subst h
     have hij : i <= j := by simp at hbb;omega
     refine Qac ?_
     refine Qag ?_
     refine VS [0, 1, 4, 11, 12] ?_
     refine Qar ?_
     refine Qad ?_
     refine Qs ?_
     refine ⟨j - 1, by omega, j - 1, by rw [show ((j : Int) - 1) = ((j - 1 : Nat) : Int) by omega];rfl, hH, by omega, by omega, ?_, rfl⟩
     rw [<- hsd, Qj6 (p := fun x => ltOf cf d1[a]! x) (i := i) (j := j) (by omega) hbb]
    ·
     subst h
     rw [Qhx hbb] at hsd
     clear hbb
     refine Qak rfl ?_
     refine VS [0, 1, 4, 11, 12, 70] ?_
     refine VD (fun h => ?_) (fun h => ?_)
     ·
      rw [Qw6 hsc hsd (by omega)] at hlp
      refine Qak rfl ?_
      refine VS [10] ?_
      exact Qah (Qat rfl rfl ⟨i, d1, hlp, ⟨by omega, by omega⟩, hs1, hQ1, hH, rfl⟩)
     rw [QDk hsc hsd (by omega) (by omega) (by omega) (by omega)] at hlp
     refine Qac ?_
     refine Vb [0, 1, 4, 11, 12] [(0, 0), (1, 0), (2, 0), (3, 0), (4, 0), (5, 0), (6, 0), (8, 0), (9, 0), (10, 0), (7, 1), (11, 1), (12, 0), (13, 2), (14, 0), (15, 2)] fun K hK => ?_
     (repeat (first | (refine ⟨_, Qaz (hH.at 0 rfl) (by omega), ?_⟩;(try refine Qs ?_)) | refine Qo ?_ | refine Qp ?_))
     refine Qab ?_;refine Qs ?_;refine Qa2 hH 0 (o := (i)) rfl (by first | rfl | (simp;done) | (congr 1;omega)) (by first | omega | (simp;omega)) fun w6 hS1 => ?_;simp only [List.set_cons_zero] at hS1;(try refine Qs ?_)
     (repeat (first | (refine ⟨_, Qaz (hH.at 0 rfl) (by omega), ?_⟩;(try refine Qs ?_)) | refine Qo ?_ | refine Qp ?_))
     refine Qab ?_;refine Qs ?_;refine Qa2 hS1 0 (o := (j)) rfl (by first | rfl | (simp;done) | (congr 1;omega)) (by first | omega | (simp;omega)) fun w6 hS2 => ?_;simp only [List.set_cons_zero] at hS2;(try refine Qs ?_)
     have hS : Heap w0 B w6 (arr g cap (swp d1 i j) :: R :: G) := hS2
     clear hS1 hS2
     apply hK;clear hK
     refine VS [0, 1, 4, 11, 12] ?_
     refine VS [0, 1, 4, 11, 12] ?_
     refine Qar ?_
     refine Qad ?_
     refine Qs ?_
     exact ⟨j - 1 + 1 - (i + 1), by omega, i + 1, j - 1, _, by rw [show ((j : Int) - 1) = ((j - 1 : Nat) : Int) by omega];rfl, hS, by rw [Qdg, hs1], hQ1.swp (by omega) (by omega), by omega, by omega, by omega, hlp, rfl⟩
   refine ⟨fun hg => ?_, fun hg => ?_⟩
   ·
    (repeat (first | (refine ⟨_, Qaz (hH.at 0 rfl) (by omega), ?_⟩;(try refine Qs ?_)) | refine Qo ?_ | refine Qp ?_))
    refine Qbg ?_;refine Qs ?_;refine FnK.to (Cmp.look hC hH (hQ1 _ (by omega)) (hQ1 _ (by omega))) ?_;rintro v w4 ⟨hH2, rfl⟩;(try refine Qs ?_)
    refine hall _ _ ?_ hH2
    simp [ltOf, show i <= j by omega]
   ·
    refine hall _ _ ?_ hH
    simp [show ¬ i <= j by omega]
 refine ⟨fun hg => ?_, fun hg => ?_⟩
 ·
  (repeat (first | (refine ⟨_, Qaz (hH.at 0 rfl) (by omega), ?_⟩;(try refine Qs ?_)) | refine Qo ?_ | refine Qp ?_))
  refine Qbg ?_;refine Qs ?_;refine FnK.to (Cmp.look hC hH (hQ1 _ (by omega)) (hQ1 _ (by omega))) ?_;rintro v w4 ⟨hH2, rfl⟩;(try refine Qs ?_)
  refine hall _ _ ?_ hH2
  simp [ltOf, show i <= j by omega]
 ·
  refine hall _ _ ?_ hH
  simp [show ¬ i <= j by omega]
theorem Qpn {cmp : Value} {cf : Int -> Int -> Int} {Q : Int -> Prop} {R : Res} (hC : Cmp cmp cf Q R) (g cap a b pivot : Nat) (d : Array Int) (hab : a < b) (hb : b <= d.size) (hp : a <= pivot /\ pivot < b) (hd : d.size <= 1000000000000) (hQ : AllQ Q d) (w0 w : World) (B : List Nat) (G : List Res)
  (hL : Heap w0 B w (arr g cap d :: R :: G)) : Does Tryz.prog 184 #[sl g cap d, .int .i64 a, .int .i64 b, .int .i64 pivot, cmp] w
   fun v w' => ∃ (p : Nat) (al : Bool) (d' : Array Int), (p, al, d') = partition (ltOf cf) d a b pivot /\ (a <= p /\ p < b) /\ d'.size = d.size /\ AllQ Q d' /\ Heap w0 B w' (arr g cap d' :: R :: G) /\ v = .tuple #[.int .i64 p, .bool al] := by
 refine En [sl g cap d, .int .i64 a, .int .i64 b, .int .i64 pivot, cmp] 178 Tryz.func184 ?_
 refine VS [0, 1, 2, 3, 4] ?_
 refine Vb [0, 1, 2, 4] [(0, 0), (1, 0), (2, 0), (3, 0), (4, 0), (5, 0), (6, 0), (8, 0), (9, 0), (10, 0), (7, 1), (11, 1), (12, 0), (13, 2), (14, 0), (15, 2)] fun K hK => ?_
 (repeat (first | (refine ⟨_, Qaz (hL.at 0 rfl) (by omega), ?_⟩;(try refine Qs ?_)) | refine Qo ?_ | refine Qp ?_))
 refine Qab ?_;refine Qs ?_;refine Qa2 hL 0 (o := (a)) rfl (by first | rfl | (simp;done) | (congr 1;omega)) (by first | omega | (simp;omega)) fun w6 hS1 => ?_;simp only [List.set_cons_zero] at hS1;(try refine Qs ?_)
 (repeat (first | (refine ⟨_, Qaz (hL.at 0 rfl) (by omega), ?_⟩;(try refine Qs ?_)) | refine Qo ?_ | refine Qp ?_))
 refine Qab ?_;refine Qs ?_;refine Qa2 hS1 0 (o := (pivot)) rfl (by first | rfl | (simp;done) | (congr 1;omega)) (by first | omega | (simp;omega)) fun w6 hS2 => ?_;simp only [List.set_cons_zero] at hS2;(try refine Qs ?_)
 have hH : Heap w0 B w6 (arr g cap (swp d a pivot) :: R :: G) := hS2
 clear hS1 hS2
 apply hK;clear hK
 have hs0 : (swp d a pivot).size = d.size := Qdg _ _ _
 have hQ0 := hQ.swp (i := a) (j := pivot) (by omega) (by omega)
 generalize hd0 : swp d a pivot = d0 at *
 refine VS [0, 1, 4, 12, 13] ?_
 obtain ⟨i0, hi00⟩ : ∃ i0, i0 = a + 1 := ⟨_, rfl⟩
 obtain ⟨j, hj00⟩ : ∃ j, j = b - 1 := ⟨_, rfl⟩
 rw [show ((b : Int) - 1) = (j : Int) by omega, show ((a : Int) + 1) = (i0 : Int) by omega]
 refine VB ?_
 refine Qaj [0, 1, 4, 12, 13] (fun m e w' => ∃ (i : Nat), Is e [(0, sl g cap d), (1, .int .i64 a), (4, cmp), (12, .int .i64 i), (13, .int .i64 j)] /\ Heap w0 B w' (arr g cap d0 :: R :: G) /\ i0 <= i /\ (i <= j + 1 ∨ i = i0) /\ scanUp (fun x => ltOf cf x d0[a]!) d0 j i = scanUp (fun x => ltOf cf x d0[a]!) d0 j i0 /\ m = j + 1 - i) (j + 1 - i0) ?_ ?_
 ·
  refine Qs ?_
  exact ⟨i0, rfl, hH, by omega, by omega, rfl, rfl⟩
 clear hH
 rintro m e w2 ⟨i, rfl, hH, hi1, hi2, hsc, hm⟩
 refine VL [0, 1, 4, 12, 13, 47] 13 fun K hK => ?_
 have hall : ∀ bb : Bool, ∀ w4, bb = (decide (i <= j) && ltOf cf d0[i]! d0[a]!) -> Heap w0 B w4 (arr g cap d0 :: R :: G) -> K [(0, sl g cap d), (1, .int .i64 a), (4, cmp), (12, .int .i64 i), (13, .int .i64 j), (47, .bool bb)] w4 := by
  clear hH
  intro bb w4 hbb hH
  apply hK;clear hK
  refine Vi (fun h => ?_) (fun h => ?_)
  ·
   subst h
   have hij : i <= j := by simp at hbb;omega
   refine Qac ?_
   refine Qag ?_
   refine VS [0, 1, 4, 12, 13] ?_
   refine Qar ?_
   refine Qad ?_
   refine Qs ?_
   refine ⟨j + 1 - (i + 1), by omega, i + 1, rfl, hH, by omega, by omega, ?_, rfl⟩
   rw [<- hsc, Qoj (p := fun x => ltOf cf x d0[a]!) (i := i) (j := j) (by omega) hbb]
  ·
   subst h
   rw [Qj5 hbb] at hsc
   clear hbb
   refine Qak rfl ?_
   obtain ⟨j0, hj0⟩ : ∃ j0, j0 = j := ⟨_, rfl⟩
   subst hj0
   refine VB ?_
   refine Qaj [0, 1, 4, 12, 13] (fun m e w' => ∃ (j : Nat), Is e [(0, sl g cap d), (1, .int .i64 a), (4, cmp), (12, .int .i64 i), (13, .int .i64 j)] /\ Heap w0 B w' (arr g cap d0 :: R :: G) /\ (i <= j + 2 /\ a <= j) /\ j <= j0 /\ scanDown (fun x => !ltOf cf x d0[a]!) d0 i j = scanDown (fun x => !ltOf cf x d0[a]!) d0 i j0 /\ m = j) (j0) ?_ ?_
   ·
    refine Qs ?_
    exact ⟨j0, rfl, hH, by omega, by omega, rfl, rfl⟩
   clear hH
   rintro m e w2 ⟨j, rfl, hH, hj1, hj2, hsd, hm⟩
   refine VL [0, 1, 4, 12, 13, 66] 13 fun K hK => ?_
   have hall : ∀ bb : Bool, ∀ w4, bb = (decide (i <= j) && (!ltOf cf d0[j]! d0[a]!)) -> Heap w0 B w4 (arr g cap d0 :: R :: G) -> K [(0, sl g cap d), (1, .int .i64 a), (4, cmp), (12, .int .i64 i), (13, .int .i64 j), (66, .bool bb)] w4 := by
    clear hH
    intro bb w4 hbb hH
    apply hK;clear hK
    refine Vi (fun h => ?_) (fun h => ?_)
    ·
     subst h
     have hij : i <= j := by simp at hbb;omega
     refine Qac ?_
     refine Qag ?_
     refine VS [0, 1, 4, 12, 13] ?_
     refine Qar ?_
     refine Qad ?_
     refine Qs ?_
     refine ⟨j - 1, by omega, j - 1, by rw [show ((j : Int) - 1) = ((j - 1 : Nat) : Int) by omega];rfl, hH, by omega, by omega, ?_, rfl⟩
     rw [<- hsd, Qj6 (p := fun x => !ltOf cf x d0[a]!) (i := i) (j := j) (by omega) hbb]
    ·
     subst h
     rw [Qhx hbb] at hsd
     clear hbb
     refine Qak rfl ?_
     refine VS [0, 1, 4, 12, 13, 71] ?_
     have hpart : partition (ltOf cf) d a b pivot = if i > j then (j, true, swp d0 j a) else ((partLoop (ltOf cf) a (i + 1) (j - 1) (swp d0 i j)).1, false, swp (partLoop (ltOf cf) a (i + 1) (j - 1) (swp d0 i j)).2 (partLoop (ltOf cf) a (i + 1) (j - 1) (swp d0 i j)).1 a) := by
      simp only [partition, hd0, <- hi00, <- hj00, <- hsc, <- hsd]
     refine VD (fun h => ?_) (fun h => ?_)
     ·
      rw [if_pos (by omega)] at hpart
      refine Vb [13] [(0, 0), (1, 0), (2, 0), (3, 0), (4, 0), (5, 0), (6, 0), (8, 0), (9, 0), (10, 0), (7, 1), (11, 1), (12, 0), (13, 2), (14, 0), (15, 2)] fun K hK => ?_
      (repeat (first | (refine ⟨_, Qaz (hH.at 0 rfl) (by omega), ?_⟩;(try refine Qs ?_)) | refine Qo ?_ | refine Qp ?_))
      refine Qab ?_;refine Qs ?_;refine Qa2 hH 0 (o := (j)) rfl (by first | rfl | (simp;done) | (congr 1;omega)) (by first | omega | (simp;omega)) fun w6 hS1 => ?_;simp only [List.set_cons_zero] at hS1;(try refine Qs ?_)
      (repeat (first | (refine ⟨_, Qaz (hH.at 0 rfl) (by omega), ?_⟩;(try refine Qs ?_)) | refine Qo ?_ | refine Qp ?_))
      refine Qab ?_;refine Qs ?_;refine Qa2 hS1 0 (o := (a)) rfl (by first | rfl | (simp;done) | (congr 1;omega)) (by first | omega | (simp;omega)) fun w6 hS2 => ?_;simp only [List.set_cons_zero] at hS2;(try refine Qs ?_)
      have hS : Heap w0 B w6 (arr g cap (swp d0 j a) :: R :: G) := hS2
      clear hS1 hS2
      apply hK;clear hK
      refine VS [10, 11] ?_
      refine Qah (Qa4 rfl rfl rfl ?_)
      exact ⟨j, true, _, hpart.symm, ⟨by omega, by omega⟩, by rw [Qdg, hs0], hQ0.swp (by omega) (by omega), hS, rfl⟩
     rw [if_neg (by omega)] at hpart
     refine Qac ?_
     refine Vb [0, 1, 4, 12, 13] [(0, 0), (1, 0), (2, 0), (3, 0), (4, 0), (5, 0), (6, 0), (8, 0), (9, 0), (10, 0), (7, 1), (11, 1), (12, 0), (13, 2), (14, 0), (15, 2)] fun K hK => ?_
     (repeat (first | (refine ⟨_, Qaz (hH.at 0 rfl) (by omega), ?_⟩;(try refine Qs ?_)) | refine Qo ?_ | refine Qp ?_))
     refine Qab ?_;refine Qs ?_;refine Qa2 hH 0 (o := (i)) rfl (by first | rfl | (simp;done) | (congr 1;omega)) (by first | omega | (simp;omega)) fun w6 hS1 => ?_;simp only [List.set_cons_zero] at hS1;(try refine Qs ?_)
     (repeat (first | (refine ⟨_, Qaz (hH.at 0 rfl) (by omega), ?_⟩;(try refine Qs ?_)) | refine Qo ?_ | refine Qp ?_))
     refine Qab ?_;refine Qs ?_;refine Qa2 hS1 0 (o := (j)) rfl (by first | rfl | (simp;done) | (congr 1;omega)) (by first | omega | (simp;omega)) fun w6 hS2 => ?_;simp only [List.set_cons_zero] at hS2;(try refine Qs ?_)
     have hS0 : Heap w0 B w6 (arr g cap (swp d0 i j) :: R :: G) := hS2
     clear hS1 hS2
     apply hK;clear hK
     refine VS [0, 1, 4, 12, 13] ?_
     refine VS [0, 1, 4, 12, 13] ?_
     have hs0' : (swp d0 i j).size = d.size := by rw [Qdg, hs0]
     have hQ0' := hQ0.swp (i := i) (j := j) (by omega) (by omega)
     obtain ⟨r, hr⟩ : ∃ r, partLoop (ltOf cf) a (i + 1) (j - 1) (swp d0 i j) = r := ⟨_, rfl⟩
     have hpt : ∀ x y, r = (x, y) -> (x, false, swp y x a) = partition (ltOf cf) d a b pivot := fun x y h => by rw [hpart, hr, h]
     clear hpart hsc hsd
     obtain ⟨d0', hd0'⟩ : ∃ d0', swp d0 i j = d0' := ⟨_, rfl⟩
     rw [hd0'] at hS0 hs0' hQ0' hr
     clear hd0'
     refine VB ?_
     refine Qaj [0, 1, 4, 12, 13] (fun m e w' => ∃ (i j : Nat) (d' : Array Int), Is e [(0, sl g cap d), (1, .int .i64 a), (4, cmp), (12, .int .i64 i), (13, .int .i64 j)] /\ Heap w0 B w' (arr g cap d' :: R :: G) /\ d'.size = d.size /\ AllQ Q d' /\ a + 1 <= i /\ (i <= j + 2 /\ i <= b /\ a <= j) /\ j < b /\ partLoop (ltOf cf) a i j d' = r /\ m = j + 1 - i) (j - 1 + 1 - (i + 1)) ?_ ?_
     ·
      refine Qs ?_
      exact ⟨i + 1, j - 1, d0', by rw [show ((j : Int) - 1) = ((j - 1 : Nat) : Int) by omega];rfl, hS0, hs0', hQ0', by omega, by omega, by omega, hr, rfl⟩
     clear hS0
     rintro m0 e w1 ⟨i0, j, d1, rfl, hH, hs1, hQ1, hi0, hij0, hj, hlp, hm0⟩
     refine Qag ?_
     refine VB ?_
     refine Qaj [0, 1, 4, 12, 13] (fun m e w' => ∃ (i : Nat), Is e [(0, sl g cap d), (1, .int .i64 a), (4, cmp), (12, .int .i64 i), (13, .int .i64 j)] /\ Heap w0 B w' (arr g cap d1 :: R :: G) /\ i0 <= i /\ (i <= j + 1 ∨ i = i0) /\ scanUp (fun x => ltOf cf x d1[a]!) d1 j i = scanUp (fun x => ltOf cf x d1[a]!) d1 j i0 /\ m = j + 1 - i) (j + 1 - i0) ?_ ?_
     ·
      refine Qs ?_
      exact ⟨i0, rfl, hH, by omega, by omega, rfl, rfl⟩
     clear hH
     rintro m e w2 ⟨i, rfl, hH, hi1, hi2, hsc, hm⟩
     refine VL [0, 1, 4, 12, 13, 120] 13 fun K hK => ?_
     have hall : ∀ bb : Bool, ∀ w4, bb = (decide (i <= j) && ltOf cf d1[i]! d1[a]!) -> Heap w0 B w4 (arr g cap d1 :: R :: G) -> K [(0, sl g cap d), (1, .int .i64 a), (4, cmp), (12, .int .i64 i), (13, .int .i64 j), (120, .bool bb)] w4 := by
      clear hH
      intro bb w4 hbb hH
      apply hK;clear hK
      refine Vi (fun h => ?_) (fun h => ?_)
      ·
       subst h
       have hij : i <= j := by simp at hbb;omega
       refine Qac ?_
       refine Qag ?_
       refine VS [0, 1, 4, 12, 13] ?_
       refine Qar ?_
       refine Qad ?_
       refine Qs ?_
       refine ⟨j + 1 - (i + 1), by omega, i + 1, rfl, hH, by omega, by omega, ?_, rfl⟩
       rw [<- hsc, Qoj (p := fun x => ltOf cf x d1[a]!) (i := i) (j := j) (by omega) hbb]
      ·
       subst h
       rw [Qj5 hbb] at hsc
       clear hbb
       refine Qak rfl ?_
       obtain ⟨j0, hj0⟩ : ∃ j0, j0 = j := ⟨_, rfl⟩
       subst hj0
       refine VB ?_
       refine Qaj [0, 1, 4, 12, 13] (fun m e w' => ∃ (j : Nat), Is e [(0, sl g cap d), (1, .int .i64 a), (4, cmp), (12, .int .i64 i), (13, .int .i64 j)] /\ Heap w0 B w' (arr g cap d1 :: R :: G) /\ (i <= j + 2 /\ a <= j) /\ j <= j0 /\ scanDown (fun x => !ltOf cf x d1[a]!) d1 i j = scanDown (fun x => !ltOf cf x d1[a]!) d1 i j0 /\ m = j) (j0) ?_ ?_
       ·
        refine Qs ?_
        exact ⟨j0, rfl, hH, by omega, by omega, rfl, rfl⟩
       clear hH
       rintro m e w2 ⟨j, rfl, hH, hj1, hj2, hsd, hm⟩
       refine VL [0, 1, 4, 12, 13, 139] 13 fun K hK => ?_
       have hall : ∀ bb : Bool, ∀ w4, bb = (decide (i <= j) && (!ltOf cf d1[j]! d1[a]!)) -> Heap w0 B w4 (arr g cap d1 :: R :: G) -> K [(0, sl g cap d), (1, .int .i64 a), (4, cmp), (12, .int .i64 i), (13, .int .i64 j), (139, .bool bb)] w4 := by
        clear hH
        intro bb w4 hbb hH
        apply hK;clear hK
        refine Vi (fun h => ?_) (fun h => ?_)
        ·
         subst h
         have hij : i <= j := by simp at hbb;omega
         refine Qac ?_
         refine Qag ?_
         refine VS [0, 1, 4, 12, 13] ?_
         refine Qar ?_
         refine Qad ?_
         refine Qs ?_
         refine ⟨j - 1, by omega, j - 1, by rw [show ((j : Int) - 1) = ((j - 1 : Nat) : Int) by omega];rfl, hH, by omega, by omega, ?_, rfl⟩
         rw [<- hsd, Qj6 (p := fun x => !ltOf cf x d1[a]!) (i := i) (j := j) (by omega) hbb]
        ·
         subst h
         rw [Qhx hbb] at hsd
         clear hbb
         refine Qak rfl ?_
         refine VS [0, 1, 4, 12, 13, 144] ?_
         refine VD (fun h => ?_) (fun h => ?_)
         ·
          rw [QDl hsc hsd (by omega)] at hlp
          refine Qak rfl ?_
          refine Vb [13] [(0, 0), (1, 0), (2, 0), (3, 0), (4, 0), (5, 0), (6, 0), (8, 0), (9, 0), (10, 0), (7, 1), (11, 1), (12, 0), (13, 2), (14, 0), (15, 2)] fun K hK => ?_
          (repeat (first | (refine ⟨_, Qaz (hH.at 0 rfl) (by omega), ?_⟩;(try refine Qs ?_)) | refine Qo ?_ | refine Qp ?_))
          refine Qab ?_;refine Qs ?_;refine Qa2 hH 0 (o := (j)) rfl (by first | rfl | (simp;done) | (congr 1;omega)) (by first | omega | (simp;omega)) fun w6 hS1 => ?_;simp only [List.set_cons_zero] at hS1;(try refine Qs ?_)
          (repeat (first | (refine ⟨_, Qaz (hH.at 0 rfl) (by omega), ?_⟩;(try refine Qs ?_)) | refine Qo ?_ | refine Qp ?_))
          refine Qab ?_;refine Qs ?_;refine Qa2 hS1 0 (o := (a)) rfl (by first | rfl | (simp;done) | (congr 1;omega)) (by first | omega | (simp;omega)) fun w6 hS2 => ?_;simp only [List.set_cons_zero] at hS2;(try refine Qs ?_)
          have hS : Heap w0 B w6 (arr g cap (swp d1 j a) :: R :: G) := hS2
          clear hS1 hS2
          apply hK;clear hK
          refine VS [10, 11] ?_
          refine Qah (Qa4 rfl rfl rfl ?_)
          exact ⟨j, false, _, hpt _ _ hlp.symm, ⟨by omega, by omega⟩, by rw [Qdg, hs1], hQ1.swp (by omega) (by omega), hS, rfl⟩
         rw [QLe hsc hsd (by omega) (by omega) (by omega) (by omega)] at hlp
         refine Qac ?_
         refine Vb [0, 1, 4, 12, 13] [(0, 0), (1, 0), (2, 0), (3, 0), (4, 0), (5, 0), (6, 0), (8, 0), (9, 0), (10, 0), (7, 1), (11, 1), (12, 0), (13, 2), (14, 0), (15, 2)] fun K hK => ?_
         (repeat (first | (refine ⟨_, Qaz (hH.at 0 rfl) (by omega), ?_⟩;(try refine Qs ?_)) | refine Qo ?_ | refine Qp ?_))
         refine Qab ?_;refine Qs ?_;refine Qa2 hH 0 (o := (i)) rfl (by first | rfl | (simp;done) | (congr 1;omega)) (by first | omega | (simp;omega)) fun w6 hS1 => ?_;simp only [List.set_cons_zero] at hS1;(try refine Qs ?_)
         (repeat (first | (refine ⟨_, Qaz (hH.at 0 rfl) (by omega), ?_⟩;(try refine Qs ?_)) | refine Qo ?_ | refine Qp ?_))
         refine Qab ?_;refine Qs ?_;refine Qa2 hS1 0 (o := (j)) rfl (by first | rfl | (simp;done) | (congr 1;omega)) (by first | omega | (simp;omega)) fun w6 hS2 => ?_;simp only [List.set_cons_zero] at hS2;(try refine Qs ?_)
         have hS : Heap w0 B w6 (arr g cap (swp d1 i j) :: R :: G) := hS2
         clear hS1 hS2
         apply hK;clear hK
         refine VS [0, 1, 4, 12, 13] ?_
         refine VS [0, 1, 4, 12, 13] ?_
         refine Qar ?_
         refine Qad ?_
         refine Qs ?_
         exact ⟨j - 1 + 1 - (i + 1), by omega, i + 1, j - 1, _, by rw [show ((j : Int) - 1) = ((j - 1 : Nat) : Int) by omega];rfl, hS, by rw [Qdg, hs1], hQ1.swp (by omega) (by omega), by omega, by omega, by omega, hlp, rfl⟩
       refine ⟨fun hg => ?_, fun hg => ?_⟩
       ·
        (repeat (first | (refine ⟨_, Qaz (hH.at 0 rfl) (by omega), ?_⟩;(try refine Qs ?_)) | refine Qo ?_ | refine Qp ?_))
        refine Qbg ?_;refine Qs ?_;refine FnK.to (Cmp.look hC hH (hQ1 _ (by omega)) (hQ1 _ (by omega))) ?_;rintro v w4 ⟨hH2, rfl⟩;(try refine Qs ?_)
        refine hall _ _ ?_ hH2
        simp [ltOf, show i <= j by omega]
       ·
        refine hall _ _ ?_ hH
        simp [show ¬ i <= j by omega]
     refine ⟨fun hg => ?_, fun hg => ?_⟩
     ·
      (repeat (first | (refine ⟨_, Qaz (hH.at 0 rfl) (by omega), ?_⟩;(try refine Qs ?_)) | refine Qo ?_ | refine Qp ?_))
      refine Qbg ?_;refine Qs ?_;refine FnK.to (Cmp.look hC hH (hQ1 _ (by omega)) (hQ1 _ (by omega))) ?_;rintro v w4 ⟨hH2, rfl⟩;(try refine Qs ?_)
      refine hall _ _ ?_ hH2
      simp [ltOf, show i <= j by omega]
     ·
      refine hall _ _ ?_ hH
      simp [show ¬ i <= j by omega]
   refine ⟨fun hg => ?_, fun hg => ?_⟩
   ·
    (repeat (first | (refine ⟨_, Qaz (hH.at 0 rfl) (by omega), ?_⟩;(try refine Qs ?_)) | refine Qo ?_ | refine Qp ?_))
    refine Qbg ?_;refine Qs ?_;refine FnK.to (Cmp.look hC hH (hQ0 _ (by omega)) (hQ0 _ (by omega))) ?_;rintro v w4 ⟨hH2, rfl⟩;(try refine Qs ?_)
    refine hall _ _ ?_ hH2
    simp [ltOf, show i <= j by omega]
   ·
    refine hall _ _ ?_ hH
    simp [show ¬ i <= j by omega]
 refine ⟨fun hg => ?_, fun hg => ?_⟩
 ·
  (repeat (first | (refine ⟨_, Qaz (hH.at 0 rfl) (by omega), ?_⟩;(try refine Qs ?_)) | refine Qo ?_ | refine Qp ?_))
  refine Qbg ?_;refine Qs ?_;refine FnK.to (Cmp.look hC hH (hQ0 _ (by omega)) (hQ0 _ (by omega))) ?_;rintro v w4 ⟨hH2, rfl⟩;(try refine Qs ?_)
  refine hall _ _ ?_ hH2
  simp [ltOf, show i <= j by omega]
 ·
  refine hall _ _ ?_ hH
  simp [show ¬ i <= j by omega]
open Go Go.Eng
open Go.Sort (swp scanSorted shiftDown shiftUp partialIns partialInsertionSort)
theorem Qr3 {lt : Int -> Int -> Bool} {d : Array Int} {b i : Nat} (hb : true = (decide (i < b) && !lt d[i]! d[i - 1]!)) : scanSorted lt d b i = scanSorted lt d b (i + 1) := by
 conv => lhs;rw [scanSorted]
 rw [if_pos hb.symm]
theorem Qok {lt : Int -> Int -> Bool} {d : Array Int} {b i : Nat} (hb : false = (decide (i < b) && !lt d[i]! d[i - 1]!)) : scanSorted lt d b i = i := by
 rw [scanSorted, if_neg (by rw [<- hb];simp)]
theorem Qul {lt : Int -> Int -> Bool} {d : Array Int} {j : Nat} (h0 : 0 < j) (h : lt d[j]! d[j - 1]! = true) : shiftDown lt j d = shiftDown lt (j - 1) (swp d j (j - 1)) := by
 obtain ⟨k, rfl⟩ : ∃ k, j = k + 1 := ⟨j - 1, by omega⟩
 rw [Nat.add_sub_cancel] at *
 conv => lhs;rw [shiftDown]
 rw [if_neg (by simp [h])]
theorem Qpo {lt : Int -> Int -> Bool} {d : Array Int} {j : Nat} (h0 : 0 < j) (h : lt d[j]! d[j - 1]! = false) : shiftDown lt j d = d := by
 obtain ⟨k, rfl⟩ : ∃ k, j = k + 1 := ⟨j - 1, by omega⟩
 rw [Nat.add_sub_cancel] at *
 rw [shiftDown, if_pos (by simp [h])]
theorem QA1 {lt : Int -> Int -> Bool} {d : Array Int} {b j : Nat} (h0 : j < b) (h : lt d[j]! d[j - 1]! = true) : shiftUp lt b j d = shiftUp lt b (j + 1) (swp d j (j - 1)) := by
 conv => lhs;rw [shiftUp]
 rw [if_pos h0, if_neg (by simp [h])]
theorem Qum {lt : Int -> Int -> Bool} {d : Array Int} {b j : Nat} (h0 : j < b) (h : lt d[j]! d[j - 1]! = false) : shiftUp lt b j d = d := by
 rw [shiftUp, if_pos h0, if_pos (by simp [h])]
theorem Qw7 {lt : Int -> Int -> Bool} {d : Array Int} {b j : Nat} (h0 : ¬ j < b) : shiftUp lt b j d = d := by
 rw [shiftUp, if_neg h0]
theorem Qg7 {cmp : Value} {cf : Int -> Int -> Int} {Q : Int -> Prop} {R : Res} (hC : Cmp cmp cf Q R) (g cap a b : Nat) (d : Array Int) (hab : a < b) (hb : b <= d.size) (hd : d.size <= 1000000000000) (hQ : AllQ Q d) (w0 w : World) (B : List Nat) (G : List Res)
  (hL : Heap w0 B w (arr g cap d :: R :: G)) : Does Tryz.prog 182 #[sl g cap d, .int .i64 a, .int .i64 b, cmp] w
   fun v w' => ∃ (d' : Array Int) (ok : Bool), (d', ok) = partialInsertionSort (ltOf cf) d a b /\ d'.size = d.size /\ AllQ Q d' /\ Heap w0 B w' (arr g cap d' :: R :: G) /\ v = .bool ok := by
 refine En [sl g cap d, .int .i64 a, .int .i64 b, cmp] 141 Tryz.func182 ?_
 refine VS [0, 1, 2, 3] ?_
 refine VS [0, 1, 2, 3, 9] ?_
 refine VS [0, 1, 2, 3, 9, 10] ?_
 refine Qag ?_
 refine Qaj [0, 1, 2, 3, 9, 10] (fun m e w' => ∃ (i q : Nat) (d' : Array Int), Is e [(0, sl g cap d), (1, .int .i64 a), (2, .int .i64 b), (3, cmp), (9, .int .i64 i), (10, .int .i64 q)] /\ Heap w0 B w' (arr g cap d' :: R :: G) /\ d'.size = d.size /\ AllQ Q d' /\ a + 1 <= i /\ i <= b /\ q <= 5 /\ partialIns (ltOf cf) a b (5 - q) i d' = partialInsertionSort (ltOf cf) d a b /\ m = 5 - q) 5 ?_ ?_
 ·
  refine Qs ?_
  exact ⟨a + 1, 0, d, rfl, hL, rfl, hQ, by omega, by omega, by omega, rfl, rfl⟩
 rintro m0 e w1 ⟨i0, q, d1, rfl, hH, hs1, hQ1, hi0, hi0b, hq, hpi, hm0⟩
 refine VS [0, 1, 2, 3, 9, 10, 16] ?_
 refine VD (fun h => ?_) (fun h => ?_)
 ·
  refine Qac ?_
  refine VB ?_
  refine VB ?_
  refine Qaj [0, 1, 2, 3, 9, 10] (fun m e w' => ∃ (i : Nat), Is e [(0, sl g cap d), (1, .int .i64 a), (2, .int .i64 b), (3, cmp), (9, .int .i64 i), (10, .int .i64 q)] /\ Heap w0 B w' (arr g cap d1 :: R :: G) /\ i0 <= i /\ i <= b /\ scanSorted (ltOf cf) d1 b i = scanSorted (ltOf cf) d1 b i0 /\ m = b - i) (b - i0) ?_ ?_
  ·
   refine Qs ?_
   exact ⟨i0, rfl, hH, by omega, by omega, rfl, rfl⟩
  clear hH
  rintro m e w2 ⟨i, rfl, hH, hi1, hi2, hsc, hm⟩
  refine VL [0, 1, 2, 3, 9, 10, 36] 14 fun K hK => ?_
  have hall : ∀ bb : Bool, ∀ w4, bb = (decide (i < b) && !ltOf cf d1[i]! d1[i - 1]!) -> Heap w0 B w4 (arr g cap d1 :: R :: G) -> K [(0, sl g cap d), (1, .int .i64 a), (2, .int .i64 b), (3, cmp), (9, .int .i64 i), (10, .int .i64 q), (36, .bool bb)] w4 := by
   clear hH
   intro bb w4 hbb hH
   apply hK;clear hK
   refine Vi (fun h => ?_) (fun h => ?_)
   ·
    subst h
    have hij : i < b := by simp at hbb;omega
    refine Qac ?_
    refine Qag ?_
    refine VS [0, 1, 2, 3, 9, 10] ?_
    refine Qar ?_
    refine Qad ?_
    refine Qs ?_
    refine ⟨b - (i + 1), by omega, i + 1, rfl, hH, by omega, by omega, ?_, rfl⟩
    rw [<- hsc, Qr3 (i := i) hbb]
   ·
    subst h
    rw [Qok hbb] at hsc
    clear hbb
    refine Qak rfl ?_
    obtain ⟨s, hs⟩ : ∃ s, 5 - q = s + 1 := ⟨4 - q, by omega⟩
    rw [hs, partialIns] at hpi
    simp only [<- hsc] at hpi
    refine VS [0, 1, 2, 3, 9, 10, 41] ?_
    refine VD (fun h => ?_) (fun h => ?_)
    ·
     rw [if_pos (by omega)] at hpi
     refine VS [8] ?_
     exact Qah (Qat rfl rfl ⟨d1, true, hpi, hs1, hQ1, hH, rfl⟩)
    rw [if_neg (by omega)] at hpi
    refine Qac ?_
    refine VS [0, 1, 2, 3, 9, 10, 45] ?_
    refine VD (fun h => ?_) (fun h => ?_)
    ·
     rw [if_pos (by omega)] at hpi
     refine VS [8] ?_
     exact Qah (Qat rfl rfl ⟨d1, false, hpi, hs1, hQ1, hH, rfl⟩)
    rw [if_neg (by omega)] at hpi
    refine Qac ?_
    refine Vb [0, 1, 2, 3, 9, 10] [(0, 0), (1, 0), (2, 0), (3, 0), (4, 0), (5, 0), (6, 0), (7, 0), (8, 0), (10, 0), (11, 0), (12, 0), (9, 1), (13, 1), (14, 0), (15, 2), (16, 0), (17, 2)] fun K hK => ?_
    (repeat (first | (refine ⟨_, Qaz (hH.at 0 rfl) (by omega), ?_⟩;(try refine Qs ?_)) | refine Qo ?_ | refine Qp ?_))
    refine Qab ?_;refine Qs ?_;refine Qa2 hH 0 (o := (i)) rfl (by first | rfl | (simp;done) | (congr 1;omega)) (by first | omega | (simp;omega)) fun w6 hS1 => ?_;simp only [List.set_cons_zero] at hS1;(try refine Qs ?_)
    (repeat (first | (refine ⟨_, Qaz (hH.at 0 rfl) (by omega), ?_⟩;(try refine Qs ?_)) | refine Qo ?_ | refine Qp ?_))
    refine Qab ?_;refine Qs ?_;refine Qa2 hS1 0 (o := (i - 1)) rfl (by first | rfl | (simp;done) | (congr 1;omega)) (by first | omega | (simp;omega)) fun w6 hS2 => ?_;simp only [List.set_cons_zero] at hS2;(try refine Qs ?_)
    have hH1 : Heap w0 B w6 (arr g cap (swp d1 i (i - 1)) :: R :: G) := hS2
    have hs2 : (swp d1 i (i - 1)).size = d.size := by rw [Qdg, hs1]
    have hQ2 := hQ1.swp (i := i) (j := i - 1) (by omega) (by omega)
    clear hS1 hS2 hH hsc
    generalize swp d1 i (i - 1) = d2 at *
    apply hK;clear hK
    refine VS [0, 1, 2, 3, 9, 10, 65] ?_
    refine Qdb [0, 1, 2, 3, 9, 10] (fun e w' => ∃ d' : Array Int, Is e [(0, sl g cap d), (1, .int .i64 a), (2, .int .i64 b), (3, cmp), (9, .int .i64 i), (10, .int .i64 q)] /\ Heap w0 B w' (arr g cap d' :: R :: G) /\ d'.size = d.size /\ AllQ Q d' /\ d' = if i - a ≥ 2 then shiftDown (ltOf cf) (i - 1) d2 else d2) ?_ ?_
    ·
     refine VD (fun h => ?_) (fun h => ?_)
     ·
      refine VS [0, 1, 2, 3, 9, 10, 11] ?_
      refine Qag ?_
      refine Qaj [0, 1, 2, 3, 9, 10, 11] (fun m e w' => ∃ (j : Nat) (d' : Array Int), Is e [(0, sl g cap d), (1, .int .i64 a), (2, .int .i64 b), (3, cmp), (9, .int .i64 i), (10, .int .i64 q), (11, .int .i64 j)] /\ Heap w0 B w' (arr g cap d' :: R :: G) /\ d'.size = d.size /\ AllQ Q d' /\ j < b /\ shiftDown (ltOf cf) j d' = shiftDown (ltOf cf) (i - 1) d2 /\ m = j) (i - 1) ?_ ?_
      ·
       refine Qs ?_
       exact ⟨i - 1, d2, by rw [show ((i : Int) - 1) = ((i - 1 : Nat) : Int) by omega];rfl, hH1, hs2, hQ2, by omega, rfl, rfl⟩
      clear hH1 hQ2 hs2
      rintro m e w7 ⟨j, d3, rfl, hH, hs3, hQ3, hj, hsd, hm⟩
      refine VS [0, 1, 2, 3, 9, 10, 11, 69] ?_
      refine VD (fun h => ?_) (fun h => ?_)
      ·
       refine Qac ?_
       refine VB ?_
       refine VL [0, 1, 2, 3, 9, 10, 11, 84] 10 fun K hK => ?_
       (repeat (first | (refine ⟨_, Qaz (hH.at 0 rfl) (by omega), ?_⟩;(try refine Qs ?_)) | refine Qo ?_ | refine Qp ?_))
       refine Qbg ?_;refine Qs ?_;refine FnK.to (Cmp.look hC hH (hQ3 _ (by omega)) (hQ3 _ (by omega))) ?_;rintro v w4 ⟨hH2, rfl⟩;(try refine Qs ?_)
       clear hH
       apply hK;clear hK
       refine Vi (fun h => ?_) (fun h => ?_)
       ·
        simp at h
        rw [Qpo (by omega) (by simp [ltOf];omega)] at hsd
        refine Qak rfl ?_
        refine Qad ?_
        refine Qs ?_
        exact ⟨d3, rfl, hH2, hs3, hQ3, by rw [if_pos (by omega), hsd]⟩
       simp at h
       rw [Qul (by omega) (by simp [ltOf];omega)] at hsd
       refine Qac ?_
       refine Vb [0, 1, 2, 3, 9, 10, 11] [(0, 0), (1, 0), (2, 0), (3, 0), (4, 0), (5, 0), (6, 0), (7, 0), (8, 0), (10, 0), (11, 0), (12, 0), (9, 1), (13, 1), (14, 0), (15, 2), (16, 0), (17, 2)] fun K hK => ?_
       (repeat (first | (refine ⟨_, Qaz (hH2.at 0 rfl) (by omega), ?_⟩;(try refine Qs ?_)) | refine Qo ?_ | refine Qp ?_))
       refine Qab ?_;refine Qs ?_;refine Qa2 hH2 0 (o := (j)) rfl (by first | rfl | (simp;done) | (congr 1;omega)) (by first | omega | (simp;omega)) fun w6 hS1 => ?_;simp only [List.set_cons_zero] at hS1;(try refine Qs ?_)
       (repeat (first | (refine ⟨_, Qaz (hH2.at 0 rfl) (by omega), ?_⟩;(try refine Qs ?_)) | refine Qo ?_ | refine Qp ?_))
       refine Qab ?_;refine Qs ?_;refine Qa2 hS1 0 (o := (j - 1)) rfl (by first | rfl | (simp;done) | (congr 1;omega)) (by first | omega | (simp;omega)) fun w6 hS2 => ?_;simp only [List.set_cons_zero] at hS2;(try refine Qs ?_)
       have hS3 : Heap w0 B w6 (arr g cap (swp d3 j (j - 1)) :: R :: G) := hS2
       apply hK;clear hK
       refine Qar ?_
       refine VS [0, 1, 2, 3, 9, 10, 11] ?_
       refine Qad ?_
       refine Qs ?_
       exact ⟨j - 1, by omega, j - 1, _, by rw [show ((j : Int) - 1) = ((j - 1 : Nat) : Int) by omega];rfl, hS3, by rw [Qdg, hs3], hQ3.swp (by omega) (by omega), by omega, hsd, rfl⟩
      ·
       obtain rfl : j = 0 := by omega
       rw [shiftDown] at hsd
       refine Qak rfl ?_
       refine Qad ?_
       refine Qs ?_
       exact ⟨d3, rfl, hH, hs3, hQ3, by rw [if_pos (by omega), hsd]⟩
     ·
      refine Qac ?_
      refine Qad ?_
      refine Qs ?_
      exact ⟨d2, rfl, hH1, hs2, hQ2, by rw [if_neg (by omega)]⟩
    clear hH1 hs2 hQ2
    rintro e w8 ⟨d3, rfl, hH, hs3, hQ3, hd3⟩
    rw [<- hd3] at hpi
    clear hd3
    have hs5 : 5 - (q + 1) = s := by omega
    have hnext : ∀ (d4 : Array Int) (w9 : World), Heap w0 B w9 (arr g cap d4 :: R :: G) -> d4.size = d.size -> AllQ Q d4 -> d4 = (if b - i ≥ 2 then shiftUp (ltOf cf) b (i + 1) d3 else d3) ->
      ∃ m_1, m_1 < m0 /\ ∃ (i' q' : Nat) (d' : Array Int), Is [(0, sl g cap d), (1, .int .i64 a), (2, .int .i64 b), (3, cmp), (9, .int .i64 i), (10, .int .i64 (q + 1))] [(0, sl g cap d), (1, .int .i64 a), (2, .int .i64 b), (3, cmp), (9, .int .i64 i'), (10, .int .i64 q')] /\ Heap w0 B w9 (arr g cap d' :: R :: G) /\ d'.size = d.size /\ AllQ Q d' /\ a + 1 <= i' /\ i' <= b /\ q' <= 5 /\ partialIns (ltOf cf) a b (5 - q') i' d' = partialInsertionSort (ltOf cf) d a b /\ m_1 = 5 - q' := by
     intro d4 w9 h1 h2 h3 h4
     refine ⟨5 - (q + 1), by omega, i, q + 1, d4, rfl, h1, h2, h3, by omega, by omega, by omega, ?_, rfl⟩
     rw [hs5, h4, hpi]
    refine VS [0, 1, 2, 3, 9, 10, 104] ?_
    refine VD (fun h => ?_) (fun h => ?_)
    ·
     refine VS [0, 1, 2, 3, 9, 10, 12] ?_
     refine Qag ?_
     refine Qaj [0, 1, 2, 3, 9, 10, 12] (fun m e w' => ∃ (j : Nat) (d' : Array Int), Is e [(0, sl g cap d), (1, .int .i64 a), (2, .int .i64 b), (3, cmp), (9, .int .i64 i), (10, .int .i64 q), (12, .int .i64 j)] /\ Heap w0 B w' (arr g cap d' :: R :: G) /\ d'.size = d.size /\ AllQ Q d' /\ i + 1 <= j /\ j <= b /\ shiftUp (ltOf cf) b j d' = shiftUp (ltOf cf) b (i + 1) d3 /\ m = b - j) (b - (i + 1)) ?_ ?_
     ·
      refine Qs ?_
      exact ⟨i + 1, d3, rfl, hH, hs3, hQ3, by omega, by omega, rfl, rfl⟩
     clear hH hs3 hQ3
     rintro m e w9 ⟨j, d4, rfl, hH, hs4, hQ4, hj1, hj2, hsu, hm⟩
     refine VS [0, 1, 2, 3, 9, 10, 12, 109] ?_
     refine VD (fun h => ?_) (fun h => ?_)
     ·
      refine Qac ?_
      refine VB ?_
      refine VL [0, 1, 2, 3, 9, 10, 12, 124] 10 fun K hK => ?_
      (repeat (first | (refine ⟨_, Qaz (hH.at 0 rfl) (by omega), ?_⟩;(try refine Qs ?_)) | refine Qo ?_ | refine Qp ?_))
      refine Qbg ?_;refine Qs ?_;refine FnK.to (Cmp.look hC hH (hQ4 _ (by omega)) (hQ4 _ (by omega))) ?_;rintro v w4 ⟨hH2, rfl⟩;(try refine Qs ?_)
      clear hH
      apply hK;clear hK
      refine Vi (fun h => ?_) (fun h => ?_)
      ·
       simp at h
       rw [Qum (by omega) (by simp [ltOf];omega)] at hsu
       refine Qak rfl ?_
       refine Qar ?_
       refine VS [0, 1, 2, 3, 9, 10] ?_
       refine Qad ?_
       refine Qs ?_
       exact hnext _ _ hH2 hs4 hQ4 (by rw [if_pos (by omega), hsu])
      simp at h
      rw [QA1 (by omega) (by simp [ltOf];omega)] at hsu
      refine Qac ?_
      refine Vb [0, 1, 2, 3, 9, 10, 12] [(0, 0), (1, 0), (2, 0), (3, 0), (4, 0), (5, 0), (6, 0), (7, 0), (8, 0), (10, 0), (11, 0), (12, 0), (9, 1), (13, 1), (14, 0), (15, 2), (16, 0), (17, 2)] fun K hK => ?_
      (repeat (first | (refine ⟨_, Qaz (hH2.at 0 rfl) (by omega), ?_⟩;(try refine Qs ?_)) | refine Qo ?_ | refine Qp ?_))
      refine Qab ?_;refine Qs ?_;refine Qa2 hH2 0 (o := (j)) rfl (by first | rfl | (simp;done) | (congr 1;omega)) (by first | omega | (simp;omega)) fun w6 hS1 => ?_;simp only [List.set_cons_zero] at hS1;(try refine Qs ?_)
      (repeat (first | (refine ⟨_, Qaz (hH2.at 0 rfl) (by omega), ?_⟩;(try refine Qs ?_)) | refine Qo ?_ | refine Qp ?_))
      refine Qab ?_;refine Qs ?_;refine Qa2 hS1 0 (o := (j - 1)) rfl (by first | rfl | (simp;done) | (congr 1;omega)) (by first | omega | (simp;omega)) fun w6 hS2 => ?_;simp only [List.set_cons_zero] at hS2;(try refine Qs ?_)
      have hS3 : Heap w0 B w6 (arr g cap (swp d4 j (j - 1)) :: R :: G) := hS2
      apply hK;clear hK
      refine Qar ?_
      refine VS [0, 1, 2, 3, 9, 10, 12] ?_
      refine Qad ?_
      refine Qs ?_
      exact ⟨b - (j + 1), by omega, j + 1, _, rfl, hS3, by rw [Qdg, hs4], hQ4.swp (by omega) (by omega), by omega, by omega, hsu, rfl⟩
     ·
      rw [Qw7 (by omega)] at hsu
      refine Qak rfl ?_
      refine Qar ?_
      refine VS [0, 1, 2, 3, 9, 10] ?_
      refine Qad ?_
      refine Qs ?_
      exact hnext _ _ hH hs4 hQ4 (by rw [if_pos (by omega), hsu])
    ·
     refine Qac ?_
     refine Qar ?_
     refine VS [0, 1, 2, 3, 9, 10] ?_
     refine Qad ?_
     refine Qs ?_
     exact hnext _ _ hH hs3 hQ3 (by rw [if_neg (by omega)])
  refine ⟨fun hg => ?_, fun hg => ?_⟩
  ·
   (repeat (first | (refine ⟨_, Qaz (hH.at 0 rfl) (by omega), ?_⟩;(try refine Qs ?_)) | refine Qo ?_ | refine Qp ?_))
   refine Qbg ?_;refine Qs ?_;refine FnK.to (Cmp.look hC hH (hQ1 _ (by omega)) (hQ1 _ (by omega))) ?_;rintro v w4 ⟨hH2, rfl⟩;(try refine Qs ?_)
   refine hall _ _ ?_ hH2
   simp [ltOf, show i < b by omega]
  ·
   refine hall _ _ ?_ hH
   simp [show ¬ i < b by omega]
 ·
  obtain rfl : q = 5 := by omega
  refine Qak rfl ?_
  refine VS [8] ?_
  exact Qah (Qat rfl rfl ⟨d1, false, hpi, hs1, hQ1, hH, rfl⟩)
open Go Go.Eng
open Go.Sort (swp insertionSort heapSort breakPatterns choosePivot Hint reverseRange partialInsertionSort partitionEqual partition pdq bitsLen)
def pdqD (lt : Int -> Int -> Bool) (d3 : Array Int) (a b limit : Nat) (wb wp : Bool) (pivot : Nat) : Array Int :=
 if a > 0 && !lt d3[a - 1]! d3[pivot]! then
  match partitionEqual lt d3 a b pivot with
  | (mid, d4) => if _h : a < mid /\ mid <= b then pdq lt d4 mid b limit wb wp else d4
 else
  match partition lt d3 a b pivot with
  | (mid, al, d4) =>
   if _h : a <= mid /\ mid < b then
    if mid - a < b - mid then pdq lt (pdq lt d4 a mid limit true true) (mid + 1) b limit (decide (mid - a ≥ (b - a) / 8)) al
    else pdq lt (pdq lt d4 (mid + 1) b limit true true) a mid limit (decide (b - mid ≥ (b - a) / 8)) al
   else d4
def pdqC (lt : Int -> Int -> Bool) (d2 : Array Int) (a b limit : Nat) (wb wp : Bool) (pivot : Nat) (hint : Hint) : Array Int :=
 if (if wb && wp && hint = .increasing then partialInsertionSort lt d2 a b else (d2, false)).2 then (if wb && wp && hint = .increasing then partialInsertionSort lt d2 a b else (d2, false)).1
 else pdqD lt (if wb && wp && hint = .increasing then partialInsertionSort lt d2 a b else (d2, false)).1 a b limit wb wp pivot
def pdqB (lt : Int -> Int -> Bool) (d1 : Array Int) (a b limit : Nat) (wb wp : Bool) (c : Nat × Hint) : Array Int :=
 pdqC lt (if c.2 = .decreasing then reverseRange d1 a b else d1) a b limit wb wp (if c.2 = .decreasing then (b - 1) - (c.1 - a) else c.1) (if c.2 = .decreasing then Hint.increasing else c.2)
theorem QLf {lt : Int -> Int -> Bool} {d : Array Int} {a b limit : Nat} {wb wp : Bool} (h : b - a <= 12) : pdq lt d a b limit wb wp = insertionSort lt d a b := by rw [pdq, if_pos h]
theorem QGy {lt : Int -> Int -> Bool} {d : Array Int} {a b limit : Nat} {wb wp : Bool} (h : ¬ b - a <= 12) (hl : limit = 0) : pdq lt d a b limit wb wp = heapSort lt d a b := by rw [pdq, if_neg h, if_pos hl]
theorem QGz {lt : Int -> Int -> Bool} {d : Array Int} {a b limit : Nat} {wb wp : Bool} (h : ¬ b - a <= 12) (hl : ¬ limit = 0) :
  pdq lt d a b limit wb wp = pdqB lt (if !wb then breakPatterns d a b else d) a b (if !wb then limit - 1 else limit) wb wp (choosePivot lt (if !wb then breakPatterns d a b else d) a b) := by
 conv => lhs;rw [pdq]
 rw [if_neg h, if_neg hl]
 rfl
set_option maxHeartbeats 4000000 in
theorem Qun {cmp : Value} {cf : Int -> Int -> Int} {Q : Int -> Prop} {R : Res} (hC : Cmp cmp cf Q R) (g cap : Nat) : ∀ (n a b limit : Nat) (d : Array Int) (hn : b - a < n) (hab : a <= b) (hb : b <= d.size) (hl : limit <= 100) (hd : d.size <= 100000000000) (hQ : AllQ Q d) (w0 w : World) (B : List Nat) (G : List Res)
  (hL : Heap w0 B w (arr g cap d :: R :: G)), Does Tryz.prog 158 #[sl g cap d, .int .i64 a, .int .i64 b, .int .i64 limit, cmp] w
   fun v w' => ∃ d', d' = pdq (ltOf cf) d a b limit true true /\ d'.size = d.size /\ AllQ Q d' /\ Heap w0 B w' (arr g cap d' :: R :: G) /\ v = .tuple #[] := by
 intro n
 induction n with
 | zero => intro a b limit d hn;omega
 | succ n ih =>
 intro a b limit d hn hab hb hl hd hQ w0 w B G hL
 refine En [sl g cap d, .int .i64 a, .int .i64 b, .int .i64 limit, cmp] 148 Tryz.func158 ?_
 refine VQi [0, 1, 2, 3, 4, 10] fun K hK => ?_
 apply hK;clear hK
 refine VQi [0, 1, 2, 3, 4, 10, 11] fun K hK => ?_
 apply hK;clear hK
 refine Qag ?_
 refine Qaj [0, 1, 2, 3, 4, 10, 11] (fun m e w' => ∃ (x y l : Nat) (wb wp : Bool) (d' : Array Int), Is e [(0, sl g cap d), (1, .int .i64 x), (2, .int .i64 y), (3, .int .i64 l), (4, cmp), (10, .bool wb), (11, .bool wp)] /\ Heap w0 B w' (arr g cap d' :: R :: G) /\ d'.size = d.size /\ AllQ Q d' /\ a <= x /\ x <= y /\ y <= b /\ l <= 100 /\ pdq (ltOf cf) d' x y l wb wp = pdq (ltOf cf) d a b limit true true /\ m = y - x) (b - a) ?_ ?_
 ·
  refine Qi ?_
  exact ⟨a, b, limit, true, true, d, rfl, hL, rfl, hQ, by omega, by omega, by omega, by omega, rfl, rfl⟩
 rintro m e w1 ⟨x, y, l, wb, wp, d1, rfl, hH, hs1, hQ1, hx, hxy, hy, hl1, hp, hm⟩
 refine Qag ?_
 refine VQi [0, 1, 2, 3, 4, 10, 11, 12] fun K hK => ?_
 (repeat refine Qo ?_);apply hK;clear hK
 rw [show ((y : Int) - x) = ((y - x : Nat) : Int) by omega]
 refine VQi [0, 1, 2, 3, 4, 10, 11, 12, 25] fun K hK => ?_
 apply hK;clear hK
 refine VD (fun h => ?_) (fun h => ?_)
 ·
  rw [QLf (by omega)] at hp
  refine VQi [] fun K hK => ?_
  have hc := Qku hC g cap x y d1 (by omega) (by omega) (by omega) hQ1 w0 w1 B G hH
  rw [sl, hs1] at hc
  refine Qaa Tryz.call177 ?_;refine Qi ?_;refine CallK.mk hc ?_
  rintro v w2 ⟨d2, hd2, hs2, hQ2, hH2, rfl⟩
  apply hK;clear hK
  refine Qah (Qfz rfl ?_)
  exact ⟨d2, by rw [hd2, hp], by omega, hQ2, hH2, rfl⟩
 have h12 : ¬ y - x <= 12 := by omega
 refine Qac ?_
 refine VQi [0, 1, 2, 3, 4, 10, 11, 12, 32] fun K hK => ?_
 apply hK;clear hK
 refine VD (fun h => ?_) (fun h => ?_)
 ·
  rw [QGy (by omega) (by omega)] at hp
  refine VQi [] fun K hK => ?_
  have hc := Qr1 hC g cap x y d1 (by omega) (by omega) (by omega) hQ1 w0 w1 B G hH
  rw [sl, hs1] at hc
  refine Qaa Tryz.call178 ?_;refine Qi ?_;refine CallK.mk hc ?_
  rintro v w2 ⟨d2, hd2, hs2, hQ2, hH2, rfl⟩
  apply hK;clear hK
  refine Qah (Qfz rfl ?_)
  exact ⟨d2, by rw [hd2, hp], by omega, hQ2, hH2, rfl⟩
 have hl0 : ¬ l = 0 := by omega
 rw [QGz h12 hl0] at hp
 clear h
 refine Qac ?_
 refine VQi [0, 1, 2, 3, 4, 10, 11, 12, 39] fun K hK => ?_
 apply hK;clear hK
 refine Qdb [0, 1, 2, 3, 4, 10, 11, 12] (fun e w' => ∃ (l' : Nat) (d' : Array Int), Is e [(0, sl g cap d), (1, .int .i64 x), (2, .int .i64 y), (3, .int .i64 l'), (4, cmp), (10, .bool wb), (11, .bool wp), (12, .int .i64 (y - x : Nat))] /\ Heap w0 B w' (arr g cap d' :: R :: G) /\ d'.size = d.size /\ AllQ Q d' /\ l' <= 100 /\ pdqB (ltOf cf) d' x y l' wb wp (choosePivot (ltOf cf) d' x y) = pdq (ltOf cf) d a b limit true true) ?_ ?_
 ·
  refine Qai rfl rfl (fun h => ?_) (fun h => ?_)
  ·
   simp at h
   subst h
   refine VQi [0, 1, 2, 3, 4, 10, 11, 12] fun K hK => ?_
   have hc := Qkw (cmp := cmp) (R := R) (Q := Q) g cap x y d1 (by omega) (by omega) (by omega) hQ1 w0 w1 B G hH
   rw [sl, hs1] at hc
   refine Qaa Tryz.call179 ?_;refine Qi ?_;refine CallK.mk hc ?_
   rintro v w2 ⟨d2, hd2, hs2, hQ2, hH2, rfl⟩
   apply hK;clear hK
   refine VQi [0, 1, 2, 3, 4, 10, 11, 12] fun K hK => ?_
   (repeat refine Qo ?_);apply hK;clear hK
   refine Qad ?_
   refine Qi ?_
   refine ⟨l - 1, d2, by rw [show ((l : Int) - 1) = ((l - 1 : Nat) : Int) by omega];rfl, hH2, by omega, hQ2, by omega, ?_⟩
   rw [<- hp, hd2]
   rfl
  ·
   simp at h
   subst h
   refine Qac ?_
   refine Qad ?_
   refine Qi ?_
   exact ⟨l, d1, rfl, hH, hs1, hQ1, hl1, hp⟩
 clear hp hH hQ1 hs1 hl0 hl1
 rintro e w2 ⟨l1, d2, rfl, hH, hs1, hQ1, hl1, hp⟩
 refine VQi [0, 1, 2, 3, 4, 10, 11, 12, 13, 14] fun K hK => ?_
 have hc := Qmv hC g cap x y d2 (by omega) (by omega) (by omega) hQ1 w0 w2 B G hH
 rw [sl, hs1] at hc
 refine Qaa Tryz.call180 ?_;refine Qi ?_;refine CallK.mk hc ?_
 rintro v w3 ⟨p, hint, hch, hpr, hH3, rfl⟩
 clear hH hc
 rw [<- hch, pdqB] at hp
 clear hch
 dsimp only at hp
 apply hK;clear hK
 simp only [List.getElem_toArray, List.getElem_cons_zero, List.getElem_cons_succ]
 refine VQi [0, 1, 2, 3, 4, 10, 11, 12, 13, 14, 56] fun K hK => ?_
 apply hK;clear hK
 refine Qdb [0, 1, 2, 3, 4, 10, 11, 12, 13, 14] (fun e w' => ∃ (p' : Nat) (h' : Hint) (d' : Array Int), Is e [(0, sl g cap d), (1, .int .i64 x), (2, .int .i64 y), (3, .int .i64 l1), (4, cmp), (10, .bool wb), (11, .bool wp), (12, .int .i64 (y - x : Nat)), (13, .int .i64 p'), (14, .int .i64 (QDj h'))] /\ Heap w0 B w' (arr g cap d' :: R :: G) /\ d'.size = d.size /\ AllQ Q d' /\ (x <= p' /\ p' < y) /\ pdqC (ltOf cf) d' x y l1 wb wp p' h' = pdq (ltOf cf) d a b limit true true) ?_ ?_
 ·
  refine Qai rfl rfl (fun h => ?_) (fun h => ?_)
  ·
   have hh : hint = .decreasing := by cases hint <;> simp [QDj] at h ⊢
   subst hh
   simp only [if_true] at hp
   refine VQi [0, 1, 2, 3, 4, 10, 11, 12, 13] fun K hK => ?_
   have hc := Qlu (cmp := cmp) (R := R) (Q := Q) g cap x y d2 (by omega) (by omega) (by omega) hQ1 w0 w3 B G hH3
   rw [sl, hs1] at hc
   refine Qaa Tryz.call181 ?_;refine Qi ?_;refine CallK.mk hc ?_
   rintro v w4 ⟨d3, hd3, hs3, hQ3, hH4, rfl⟩
   apply hK;clear hK
   refine VQi [0, 1, 2, 3, 4, 10, 11, 12, 13] fun K hK => ?_
   (repeat refine Qo ?_);apply hK;clear hK
   refine VQi [0, 1, 2, 3, 4, 10, 11, 12, 13, 14] fun K hK => ?_
   apply hK;clear hK
   refine Qad ?_
   refine Qi ?_
   exact ⟨y - 1 - (p - x), .increasing, d3, by rw [show ((y : Int) - 1 - (p - x)) = ((y - 1 - (p - x) : Nat) : Int) by omega];rfl, hH4, by omega, hQ3, by omega, by rw [hd3];exact hp⟩
  ·
   have hh : hint ≠ .decreasing := by rintro rfl;simp [QDj] at h
   simp only [if_neg hh] at hp
   refine Qac ?_
   refine Qad ?_
   refine Qi ?_
   exact ⟨p, hint, d2, rfl, hH3, hs1, hQ1, hpr, hp⟩
 clear hp hH3 hQ1 hs1 hpr
 rintro e w4 ⟨p, hint, d2, rfl, hH, hs1, hQ1, hpr, hp⟩
 refine VQi [0, 1, 2, 3, 4, 10, 11, 12, 13, 75] fun K hK => ?_
 suffices hall : ∀ bb : Bool, bb = (wb && wp && decide (hint = .increasing)) -> K [(0, sl g cap d), (1, .int .i64 x), (2, .int .i64 y), (3, .int .i64 l1), (4, cmp), (10, .bool wb), (11, .bool wp), (12, .int .i64 (y - x : Nat)), (13, .int .i64 p), (75, .bool bb)] w4 by
  have hd : decide (QDj hint = 1) = decide (hint = .increasing) := by cases hint <;> rfl
  rw [hd]
  revert hall
  clear hK hp
  cases wb <;> cases wp <;> intro hall <;> simpa [gB] using hall _ rfl
 intro bb hbb
 apply hK;clear hK
 rw [pdqC, show (wb && wp && decide (hint = .increasing)) = bb from hbb.symm] at hp
 clear hbb
 refine Qdb [0, 1, 2, 3, 4, 10, 11, 12, 13] (fun e w' => ∃ (d' : Array Int), Is e [(0, sl g cap d), (1, .int .i64 x), (2, .int .i64 y), (3, .int .i64 l1), (4, cmp), (10, .bool wb), (11, .bool wp), (12, .int .i64 (y - x : Nat)), (13, .int .i64 p)] /\ Heap w0 B w' (arr g cap d' :: R :: G) /\ d'.size = d.size /\ AllQ Q d' /\ pdqD (ltOf cf) d' x y l1 wb wp p = pdq (ltOf cf) d a b limit true true) ?_ ?_
 ·
  refine Qai rfl rfl (fun h => ?_) (fun h => ?_)
  ·
   subst h
   simp only [if_true] at hp
   refine VQi [0, 1, 2, 3, 4, 10, 11, 12, 13, 80] fun K hK => ?_
   have hc := Qg7 hC g cap x y d2 (by omega) (by omega) (by omega) hQ1 w0 w4 B G hH
   rw [sl, hs1] at hc
   refine Qaa Tryz.call182 ?_;refine Qi ?_;refine CallK.mk hc ?_
   rintro v w5 ⟨d3, ok, hd3, hs3, hQ3, hH5, rfl⟩
   rw [<- hd3] at hp
   dsimp only at hp
   apply hK;clear hK
   refine Qai rfl rfl (fun h => ?_) (fun h => ?_)
   ·
    subst h
    rw [if_pos rfl] at hp
    exact Qah (Qfz rfl ⟨d3, hp, by omega, hQ3, hH5, rfl⟩)
   subst h
   rw [if_neg (by simp)] at hp
   refine Qac ?_
   refine Qad ?_
   refine Qi ?_
   exact ⟨d3, rfl, hH5, by omega, hQ3, hp⟩
  ·
   subst h
   simp only [Bool.false_eq_true, if_false] at hp
   refine Qac ?_
   refine Qad ?_
   refine Qi ?_
   exact ⟨d2, rfl, hH, hs1, hQ1, hp⟩
 clear hp hH hQ1 hs1
 rintro e w5 ⟨d3, rfl, hH, hs1, hQ1, hp⟩
 rw [pdqD] at hp
 (repeat refine Qaw ?_);refine Qi8 [0, 1, 2, 3, 4, 10, 11, 12, 13, 97] 13 (by kernel_rfl) (by kernel_rfl) (by kernel_rfl) rfl fun K hK => ?_;refine Qi ?_
 have hall : ∀ bb : Bool, ∀ w4, bb = (decide (x > 0) && !ltOf cf d3[x - 1]! d3[p]!) -> Heap w0 B w4 (arr g cap d3 :: R :: G) -> K [(0, sl g cap d), (1, .int .i64 x), (2, .int .i64 y), (3, .int .i64 l1), (4, cmp), (10, .bool wb), (11, .bool wp), (12, .int .i64 (y - x : Nat)), (13, .int .i64 p), (97, .bool bb)] w4 := by
  clear hH
  intro bb w4 hbb hH
  rw [<- hbb] at hp
  apply hK;clear hK
  refine Qai rfl rfl (fun h => ?_) (fun h => ?_)
  ·
   subst h
   rw [if_pos rfl] at hp
   refine VQi [0, 2, 3, 4, 10, 11, 15] fun K hK => ?_
   have hc := Qj7 hC g cap x y p d3 (by omega) (by omega) hpr (by omega) hQ1 w0 w4 B G hH
   rw [sl, hs1] at hc
   refine Qaa Tryz.call183 ?_;refine Qi ?_;refine CallK.mk hc ?_
   rintro v w5 ⟨mid, d4, hd4, hmid, hs4, hQ4, hH5, rfl⟩
   rw [<- hd4] at hp
   dsimp only at hp
   rw [dif_pos hmid] at hp
   apply hK;clear hK
   refine VQi [0, 1, 2, 3, 4, 10, 11] fun K hK => ?_
   apply hK;clear hK
   refine Qak rfl ?_
   refine Qad ?_
   refine Qi ?_
   exact ⟨y - mid, by omega, mid, y, l1, wb, wp, d4, rfl, hH5, by omega, hQ4, by omega, by omega, by omega, hl1, hp, rfl⟩
  subst h
  rw [if_neg (by simp)] at hp
  refine Qac ?_
  refine VQi [0, 1, 2, 3, 4, 12, 16, 17] fun K hK => ?_
  have hc := Qpn hC g cap x y p d3 (by omega) (by omega) hpr (by omega) hQ1 w0 w4 B G hH
  rw [sl, hs1] at hc
  refine Qaa Tryz.call184 ?_;refine Qi ?_;refine CallK.mk hc ?_
  rintro v w5 ⟨mid, al, d4, hd4, hmid, hs4, hQ4, hH5, rfl⟩
  rw [<- hd4] at hp
  dsimp only at hp
  rw [dif_pos hmid] at hp
  apply hK;clear hK
  simp only [List.getElem_toArray, List.getElem_cons_zero, List.getElem_cons_succ]
  refine VQi [0, 1, 2, 3, 4, 11, 12, 16] fun K hK => ?_
  apply hK;clear hK
  refine VQi [0, 1, 2, 3, 4, 11, 12, 16, 18, 19] fun K hK => ?_
  (repeat refine Qo ?_);apply hK;clear hK
  rw [show ((mid : Int) - x) = ((mid - x : Nat) : Int) by omega, show ((y : Int) - mid) = ((y - mid : Nat) : Int) by omega]
  refine VQi [0, 1, 2, 3, 4, 11, 16, 18, 19, 20] fun K hK => ?_
  (repeat refine Qo ?_);apply hK;clear hK
  refine VQi [0, 1, 2, 3, 4, 11, 16, 18, 19, 20, 125] fun K hK => ?_
  apply hK;clear hK
  refine VD (fun h => ?_) (fun h => ?_)
  ·
   rw [if_pos (by omega)] at hp
   refine VQi [0, 1, 2, 3, 4, 10, 11, 16] fun K hK => ?_
   apply hK;clear hK
   refine VQi [0, 2, 3, 4, 10, 11, 16] fun K hK => ?_
   have hc := ih x mid l1 d4 (by omega) (by omega) (by omega) hl1 (by omega) hQ4 w0 w5 B G hH5
   rw [sl, show d4.size = d.size by omega] at hc
   refine Qaa Tryz.call158 ?_;refine Qi ?_;refine CallK.mk hc ?_
   rintro v w6 ⟨d5, hd5, hs5, hQ5, hH6, rfl⟩
   rw [<- hd5] at hp
   apply hK;clear hK
   refine VQi [0, 1, 2, 3, 4, 10, 11] fun K hK => ?_
   (repeat refine Qo ?_);apply hK;clear hK
   refine Qar ?_
   refine Qad ?_
   refine Qi ?_
   refine ⟨y - (mid + 1), by omega, mid + 1, y, l1, decide (mid - x ≥ (y - x) / 8), al, d5, ?_, hH6, by omega, hQ5, by omega, by omega, by omega, hl1, hp, rfl⟩
   rw [show decide (mid - x ≥ (y - x) / 8) = decide (((y - x : Nat) : Int) / 8 <= ((mid - x : Nat) : Int)) from decide_eq_decide.2 (by omega)]
   rfl
  ·
   rw [if_neg (by omega)] at hp
   refine VQi [0, 1, 2, 3, 4, 10, 11, 16] fun K hK => ?_
   apply hK;clear hK
   refine VQi [0, 1, 3, 4, 10, 11, 16] fun K hK => ?_
   refine And.intro (I64.mk (by omega) (by omega)) ?_
   have hc := ih (mid + 1) y l1 d4 (by omega) (by omega) (by omega) hl1 (by omega) hQ4 w0 w5 B G hH5
   rw [sl, show d4.size = d.size by omega, show ((mid + 1 : Nat) : Int) = (mid : Int) + 1 by omega] at hc
   refine Qaa Tryz.call158 ?_;refine Qi ?_;refine CallK.mk hc ?_
   rintro v w6 ⟨d5, hd5, hs5, hQ5, hH6, rfl⟩
   rw [<- hd5] at hp
   apply hK;clear hK
   refine VQi [0, 1, 2, 3, 4, 10, 11] fun K hK => ?_
   apply hK;clear hK
   refine Qar ?_
   refine Qad ?_
   refine Qi ?_
   refine ⟨mid - x, by omega, x, mid, l1, decide (y - mid ≥ (y - x) / 8), al, d5, ?_, hH6, by omega, hQ5, by omega, by omega, by omega, hl1, hp, rfl⟩
   rw [show decide (y - mid ≥ (y - x) / 8) = decide (((y - x : Nat) : Int) / 8 <= ((y - mid : Nat) : Int)) from decide_eq_decide.2 (by omega)]
   rfl
 refine ⟨fun hg => ?_, fun hg => ?_⟩
 ·
  (repeat (first | (refine ⟨_, Qaz (hH.at 0 rfl) (by omega), ?_⟩;(try refine Qi ?_)) | refine Qo ?_ | refine ⟨⟨by omega, by omega⟩, ?_⟩))
  refine Qbg ?_;refine Qi ?_;refine FnK.to (Cmp.look hC hH (hQ1 _ (by omega)) (hQ1 _ (by omega))) ?_;rintro v w4 ⟨hH2, rfl⟩;(try refine Qi ?_)
  refine hall _ _ ?_ hH2
  simp [ltOf, show 0 < x by omega]
 ·
  refine hall _ _ ?_ hH
  simp [show ¬ 0 < x by omega]
open Go Go.Eng
open Go.Sort (pdq bitsLen SWO)
def QIb (lt : Int -> Int -> Bool) (l l' : List Int) : Prop := l'.Perm l /\ l'.Pairwise fun x y => lt y x = false
theorem Qfc {d : Array Int} {i : Nat} (h : i < d.size) : d[i]! = d.toList[i]'(by simpa using h) := by
 simp [getElem!_def, h]
theorem QLg {lt : Int -> Int -> Bool} (hS : SWO lt) (d : Array Int) (limit : Nat) : QIb lt d.toList (pdq lt d 0 d.size limit true true).toList := by
 obtain ⟨⟨h1, h2, h3⟩, h4⟩ := Sort.pdq_sorts lt hS d 0 d.size limit true true (by omega) (by omega) (.inl rfl)
 generalize pdq lt d 0 d.size limit true true = d' at *
 refine ⟨?_, ?_⟩
 ·
  have e1 : d'.extract 0 d.size = d' := by rw [<- h1];simp
  have e2 : d.extract 0 d.size = d := by simp
  rw [e1, e2] at h3
  exact h3
 ·
  rw [List.pairwise_iff_getElem]
  intro i j hi hj hij
  have := h4 i j (by omega) hij (by simpa [h1] using hj)
  rwa [Qfc (by simpa using hj), Qfc (by simpa using hi)] at this
theorem Qkx {cmp : Value} {cf : Int -> Int -> Int} {Q : Int -> Prop} {R : Res} (hC : Cmp cmp cf Q R) (hS : SWO (ltOf cf)) (g cap : Nat) (d : Array Int) (hd : d.size <= 100000000000) (hQ : AllQ Q d) (w0 w : World) (B : List Nat) (G : List Res)
  (hL : Heap w0 B w (arr g cap d :: R :: G)) : Does Tryz.prog 127 #[sl g cap d, cmp] w
   fun v w' => ∃ d', QIb (ltOf cf) d.toList d'.toList /\ d'.size = d.size /\ AllQ Q d' /\ Heap w0 B w' (arr g cap d' :: R :: G) /\ v = .tuple #[] := by
 refine En [sl g cap d, cmp] 14 Tryz.func127 ?_
 refine VS [0, 1, 4] ?_
 refine VQ [] fun K hK => ?_
 rw [Int.emod_eq_of_lt (by omega) (by omega)]
 refine Qaa Tryz.call159 ?_;refine Qs ?_;refine CallK.mk (Qqv d.size (by omega) w) ?_
 rintro v w2 ⟨rfl, rfl⟩
 have hb40 : bitsLen d.size <= 40 := Qga (by omega)
 refine Qaa Tryz.call158 ?_;refine Qs ?_;refine CallK.mk (Qun hC g cap (d.size + 1) 0 d.size (bitsLen d.size) d (by omega) (by omega) (by omega) (by omega) hd hQ w0 w2 B G hL) ?_
 rintro v w3 ⟨d', hd', hs, hQ', hH, rfl⟩
 apply hK;clear hK
 exact Qp0 (Qfz rfl ⟨d', by rw [hd'];exact QLg hS d _, hs, hQ', hH, rfl⟩)
open Go Go.Eng
abbrev Qw8 (a : Addr) (n cap : Nat) (by_ : Nat) : Value := .agg #[.slice (some a) n cap, .int .i64 by_]
theorem Qnc (rk : List Int) (a : Addr) (cap by_ i : Nat) (hn : rk.length <= 1000000000) (hby : by_ <= 10000000000) (hi : i < rk.length) (w : World) (hr : RS w (some a) rk.length 1 (Qbn rk)) :
  Does Tryz.prog 126 #[Qw8 a rk.length cap by_, .int .i64 i] w fun v w' => Heap w [] w' [] /\ v = .tuple #[.int .i64 (rk.getD i 0), .int .i64 (rk.getD ((i + by_) % rk.length) 0)] := by
 refine En [Qw8 a rk.length cap by_, .int .i64 i] 23 Tryz.func126 ?_
 refine VQ [1, 2] fun K hK => ?_
 refine Qcg ?_
 refine Qs ?_
 have hH := (Heap.start w).box 166 [.slice (some a) rk.length cap, .int .i64 by_]
 generalize w.alloc (Obj.cells [Value.slice (some a) rk.length cap, .int .i64 by_].toArray 166) = w1 at *
 generalize w.heap.size = g at *
 have hr1 := hH.rs' hr
 apply hK;clear hK
 refine Vq [4, 5] fun K hK => ?_
 (repeat first | refine Qo ?_ | refine Qp ?_ | (refine Gc hH ?_;(try refine Qs ?_)))
 refine ⟨_, Qny hr1 hi, ?_⟩
 (repeat first | refine Qo ?_ | refine Qp ?_ | (refine Gc hH ?_;(try refine Qs ?_)))
 have hm : (i + by_) % rk.length < rk.length := Nat.mod_lt _ (by omega)
 rw [show ((i : Int) + by_) % rk.length = (((i + by_) % rk.length : Nat) : Int) by push_cast;rfl]
 generalize (i + by_) % rk.length = j at *
 refine And.intro (by omega) ⟨_, Qny hr1 (i := j) hm, ?_⟩
 apply hK;clear hK
 refine Qah (Qa4 rfl rfl rfl ?_)
 exact ⟨hH.sub (by simp), rfl⟩
def keyA (rk : List Int) (x : Int) : Int := rk.getD x.toNat 0
def keyB (rk : List Int) (by_ : Nat) (x : Int) : Int := rk.getD ((x.toNat + by_) % rk.length) 0
def cmpR (rk : List Int) (by_ : Nat) (x y : Int) : Int :=
 if keyA rk x ≠ keyA rk y then keyA rk x - keyA rk y else if keyB rk by_ x ≠ keyB rk by_ y then keyB rk by_ x - keyB rk by_ y else x - y
def inR (rk : List Int) (x : Int) : Prop := 0 <= x /\ x < rk.length
def Qky (rk : List Int) : Prop := ∀ r ∈ rk, 0 <= r /\ r <= 1000000000
theorem Qiz {rk : List Int} (h : Qky rk) (i : Nat) : 0 <= rk.getD i 0 /\ rk.getD i 0 <= 1000000000 := by
 by_cases hi : i < rk.length
 ·
  rw [List.getD_eq_getElem?_getD, List.getElem?_eq_getElem hi];exact h _ (List.getElem_mem hi)
 ·
  rw [List.getD_eq_getElem?_getD, List.getElem?_eq_none (by omega)];simp
theorem QG0 {rk : List Int} (h : Qky rk) (hn : rk.length <= 1000000000) (by_ : Nat) (x y : Int) (hx : inR rk x) (hy : inR rk y) : -1000000000 <= cmpR rk by_ x y /\ cmpR rk by_ x y <= 1000000000 := by
 obtain ⟨h1, h2⟩ := hx
 obtain ⟨h3, h4⟩ := hy
 unfold cmpR keyA keyB
 have a1 := Qiz h x.toNat
 have a2 := Qiz h y.toNat
 have a3 := Qiz h ((x.toNat + by_) % rk.length)
 have a4 := Qiz h ((y.toNat + by_) % rk.length)
 split
 ·
  omega
 ·
  split <;> omega
theorem Quo (rk : List Int) (hrk : Qky rk) (a : Addr) (cap by_ i j : Nat) (hn : rk.length <= 1000000000) (hby : by_ <= 10000000000) (hi : i < rk.length) (hj : j < rk.length) (w : World) (hr : RS w (some a) rk.length 1 (Qbn rk)) :
  Does Tryz.prog 128 #[Qw8 a rk.length cap by_, .int .i64 i, .int .i64 j] w fun v w' => Heap w [] w' [] /\ v = .int .i64 (cmpR rk by_ i j) := by
 have a1 := Qiz hrk i
 have a2 := Qiz hrk j
 have a3 := Qiz hrk ((i + by_) % rk.length)
 have a4 := Qiz hrk ((j + by_) % rk.length)
 have hcm : cmpR rk by_ i j = if rk.getD i 0 ≠ rk.getD j 0 then rk.getD i 0 - rk.getD j 0 else if rk.getD ((i + by_) % rk.length) 0 ≠ rk.getD ((j + by_) % rk.length) 0 then rk.getD ((i + by_) % rk.length) 0 - rk.getD ((j + by_) % rk.length) 0 else (i : Int) - j := by
  simp only [cmpR, keyA, keyB, Int.toNat_natCast]
  rfl
 have hk1 := fun w hr => Qnc rk a cap by_ i hn hby hi w hr
 have hk2 := fun w hr => Qnc rk a cap by_ j hn hby hj w hr
 generalize rk.getD i 0 = ka at *
 generalize rk.getD j 0 = kb at *
 generalize rk.getD ((i + by_) % rk.length) 0 = kc at *
 generalize rk.getD ((j + by_) % rk.length) 0 = kd at *
 rw [hcm]
 clear hcm
 refine En [Qw8 a rk.length cap by_, .int .i64 i, .int .i64 j] 40 Tryz.func128 ?_
 refine VQ [1, 2, 3] fun K hK => ?_
 refine Qcg ?_
 refine Qs ?_
 have hH := (Heap.start w).box 166 [.slice (some a) rk.length cap, .int .i64 by_]
 generalize w.alloc (Obj.cells [Value.slice (some a) rk.length cap, .int .i64 by_].toArray 166) = w1 at *
 generalize w.heap.size = g at *
 have hr1 := hH.rs' hr
 apply hK;clear hK
 refine VQ [1, 2, 3, 7, 8] fun K hK => ?_
 refine ⟨[.slice (some a) rk.length cap, .int .i64 by_], ⟨rfl, Qa1 (hH.at 0 rfl)⟩, ?_⟩
 refine Qaa Tryz.call126 ?_;refine Qs ?_;refine CallK.mk (hk1 w1 hr1) ?_
 rintro v w2 ⟨hH2, rfl⟩
 have hH3 := hH.call0 hH2
 simp only [List.nil_append] at hH3
 have hr2 := hH3.rs' hr
 apply hK;clear hK
 refine VQ [1, 2, 7, 8, 9, 10] fun K hK => ?_
 refine ⟨[.slice (some a) rk.length cap, .int .i64 by_], ⟨rfl, Qa1 (hH3.at 0 rfl)⟩, ?_⟩
 refine Qaa Tryz.call126 ?_;refine Qs ?_;refine CallK.mk (hk2 w2 hr2) ?_
 rintro v w3 ⟨hH4, rfl⟩
 have hH5 := hH3.call0 hH4
 simp only [List.nil_append] at hH5
 have hH6 : Heap w [] w3 [] := hH5.sub (by simp)
 apply hK;clear hK
 refine VB ?_
 try simp only [List.getElem_toArray, List.getElem_cons_zero, List.getElem_cons_succ]
 refine VS [1, 2, 7, 8, 9, 10, 23] ?_
 refine VD (fun h => ?_) (fun h => ?_)
 ·
  refine VS [6] ?_
  exact Qah (Qat rfl rfl ⟨hH6, by rw [if_pos h]⟩)
 rw [if_neg h]
 refine VS [1, 2, 8, 10, 30] ?_
 refine VD (fun h => ?_) (fun h => ?_)
 ·
  refine VS [6] ?_
  exact Qah (Qat rfl rfl ⟨hH6, by rw [if_pos h]⟩)
 rw [if_neg h]
 refine Qac ?_
 refine Qar ?_
 refine VS [6] ?_
 exact Qah (Qat rfl rfl ⟨hH6, rfl⟩)
theorem Qys (rk : List Int) (hrk : Qky rk) (gr : Nat) (cap by_ : Nat) (hn : rk.length <= 1000000000) (hby : by_ <= 10000000000) :
  Cmp (.func (.func 128) #[Qw8 ⟨gr, 0, none⟩ rk.length cap by_] #[]) (cmpR rk by_) (inR rk) (Res.row 3 1 (some ⟨gr, 0, none⟩) rk.length cap (Qbn rk)) where
 i64 := fun x y hx hy => by have := QG0 hrk hn by_ x y hx hy;omega
 run := fun w x y hR hx hy => by
  obtain ⟨i, rfl⟩ : ∃ i : Nat, x = i := ⟨x.toNat, by have := hx.1;omega⟩
  obtain ⟨j, rfl⟩ : ∃ j : Nat, y = j := ⟨y.toNat, by have := hy.1;omega⟩
  exact FnK.mk Tryz.call128 (Quo rk hrk ⟨gr, 0, none⟩ cap by_ i j hn hby (by have := hx.2;omega) (by have := hy.2;omega) w (Qa8 hR)) fun v w' h => h
theorem Qj8 (rk : List Int) (by_ : Nat) (x y : Int) : cmpR rk by_ x y < 0 ↔ keyA rk x < keyA rk y ∨ (keyA rk x = keyA rk y /\ (keyB rk by_ x < keyB rk by_ y ∨ (keyB rk by_ x = keyB rk by_ y /\ x < y))) := by
 unfold cmpR
 split
 ·
  omega
 ·
  split <;> omega
theorem Qyt (rk : List Int) (by_ : Nat) : Sort.SWO (ltOf (cmpR rk by_)) := by
 constructor
 ·
  intro x
  simp [ltOf, cmpR]
 ·
  intro x y z h1 h2
  have h3 := Qj8 rk by_ x y
  have h4 := Qj8 rk by_ y z
  have h5 := Qj8 rk by_ x z
  simp only [ltOf] at *
  have h1 := of_decide_eq_true h1
  have h2 := of_decide_eq_true h2
  exact decide_eq_true (by omega)
 ·
  intro x y z h1 h2
  have h3 := Qj8 rk by_ x y
  have h4 := Qj8 rk by_ y z
  have h5 := Qj8 rk by_ x z
  simp only [ltOf] at *
  have h1 := of_decide_eq_false h1
  have h2 := of_decide_eq_false h2
  exact decide_eq_false (by omega)
def leB : List UInt8 -> List UInt8 -> Bool
 | [], _ => true
 | _ :: _, [] => false
 | a :: l, b :: m => if a = b then leB l m else decide (a.toNat < b.toNat)
theorem Qkz : ∀ l, leB l l = true
 | [] => rfl
 | a :: l => by simp [leB, Qkz l]
theorem Qnd : ∀ l m, leB l m = true -> leB m l = true -> l = m
 | [], [], _, _ => rfl
 | [], _ :: _, _, h => by simp [leB] at h
 | _ :: _, [], h, _ => by simp [leB] at h
 | a :: l, b :: m, h1, h2 => by
  simp only [leB] at h1 h2
  by_cases h : a = b
  ·
   subst h;simp at h1 h2;rw [Qnd l m h1 h2]
  ·
   simp [h, Ne.symm h] at h1 h2;omega
theorem Qyu : ∀ (l m : List UInt8) (c : UInt8), l.length = m.length -> leB (l ++ [c]) (m ++ [c]) = true -> leB l m = true
 | [], _, _, _, _ => rfl
 | _ :: _, [], _, h, _ => by simp at h
 | a :: l, b :: m, c, hl, h => by
  simp only [List.cons_append, leB] at h ⊢
  by_cases hab : a = b
  ·
   subst hab;simp at h ⊢;exact Qyu l m c (by simpa using hl) h
  ·
   simp [hab] at h ⊢;exact h
def rot (s : List UInt8) (i : Nat) : List UInt8 := s.drop i ++ s.take i
theorem QA2 (s : List UInt8) (i : Nat) : (rot s i).length = s.length := by simp [rot];omega
theorem QG1 (s : List UInt8) : rot s 0 = s := by simp [rot]
def rotl : List UInt8 -> List UInt8
 | [] => []
 | a :: l => l ++ [a]
theorem Qr4 (s : List UInt8) (i : Nat) (h : i < s.length) : rot s (i + 1) = rotl (rot s i) := by
 have e : s.drop i = s[i] :: s.drop (i + 1) := List.drop_eq_getElem_cons h
 rw [rot, rot, e, List.cons_append, rotl, List.append_assoc]
 congr 1
 rw [List.take_add_one, List.getElem?_eq_getElem h];rfl
theorem QG2 (s : List UInt8) : rot s s.length = s := by simp [rot]
theorem Qyv (s : List UInt8) (i : Nat) (h : i < s.length) : (rot s i).head? = some (s.getD i 0) := by
 rw [rot, List.drop_eq_getElem_cons h, List.getD_eq_getElem?_getD, List.getElem?_eq_getElem h];rfl
structure Ordered (s : List UInt8) (σ : List Nat) : Prop where
 perm : σ.Perm (List.range s.length)
 sorted : σ.Pairwise fun i j => leB (rot s i) (rot s j) = true /\ (rot s i = rot s j -> i < j)
theorem Ordered.unique {s : List UInt8} {σ τ : List Nat} (h : Ordered s σ) (k : Ordered s τ) : σ = τ := by
 refine List.Perm.eq_of_pairwise (le := fun i j => leB (rot s i) (rot s j) = true /\ (rot s i = rot s j -> i < j)) (fun a b _ _ h1 h2 => ?_) h.sorted k.sorted (h.perm.trans k.perm.symm)
 have e := Qnd _ _ h1.1 h2.1
 have := h1.2 e
 have := h2.2 e.symm
 omega
def Qfd (n i : Nat) : Nat := if i = 0 then n - 1 else i - 1
theorem QDm (s : List UInt8) (i : Nat) (h : i < s.length) : rot s i = rotl (rot s (Qfd s.length i)) := by
 unfold Qfd
 by_cases h0 : i = 0
 ·
  subst h0
  rw [if_pos rfl, <- Qr4 s (s.length - 1) (by omega), show s.length - 1 + 1 = s.length by omega, QG2, QG1]
 ·
  rw [if_neg h0, <- Qr4 s (i - 1) (by omega), show i - 1 + 1 = i by omega]
def Qbs (s : List UInt8) (σ : List Nat) : List UInt8 := σ.map fun i => s.getD (Qfd s.length i) 0
def Qbh (L : List UInt8) : List Nat := (List.range 256).flatMap fun b => (List.range L.length).filter fun i => (L.getD i 0).toNat == b
theorem Qci (L : List UInt8) : (Qbh L).Perm (List.range L.length) := by
 unfold Qbh
 generalize hn : List.range L.length = xs
 clear hn
 induction xs with
 | nil => simp
 | cons x xs ih =>
  have h1 : ∀ (bs : List Nat), bs.Nodup -> (L.getD x 0).toNat ∈ bs ->
    (bs.flatMap fun b => (x :: xs).filter fun i => (L.getD i 0).toNat == b).Perm (x :: bs.flatMap fun b => xs.filter fun i => (L.getD i 0).toNat == b) := by
   intro bs
   induction bs with
   | nil => intro _ h;simp at h
   | cons b bs ihb =>
    intro hnd hm
    rw [List.nodup_cons] at hnd
    simp only [List.flatMap_cons]
    by_cases hb : (L.getD x 0).toNat = b
    ·
     have hno : ∀ b' ∈ bs, ((x :: xs).filter fun i => (L.getD i 0).toNat == b') = xs.filter fun i => (L.getD i 0).toNat == b' := by
      intro b' hb'
      rw [List.filter_cons_of_neg]
      simp only [beq_iff_eq]
      intro h;exact hnd.1 (by rw [<- hb, h];exact hb')
     rw [List.filter_cons_of_pos (by simpa using hb)]
     have e : (bs.flatMap fun b' => (x :: xs).filter fun i => (L.getD i 0).toNat == b') = bs.flatMap fun b' => xs.filter fun i => (L.getD i 0).toNat == b' := by
      have : ∀ (l : List Nat), (∀ b' ∈ l, ((x :: xs).filter fun i => (L.getD i 0).toNat == b') = xs.filter fun i => (L.getD i 0).toNat == b') -> (l.flatMap fun b' => (x :: xs).filter fun i => (L.getD i 0).toNat == b') = l.flatMap fun b' => xs.filter fun i => (L.getD i 0).toNat == b' := by
       intro l
       induction l with
       | nil => intro _;rfl
       | cons c l ihl => intro h;rw [List.flatMap_cons, List.flatMap_cons, h c (by simp), ihl fun b' hb' => h b' (by simp [hb'])]
      exact this bs hno
     rw [e];exact List.Perm.refl _
    ·
     rw [List.filter_cons_of_neg (by simpa using hb)]
     have hm' : (L.getD x 0).toNat ∈ bs := by
      rcases List.mem_cons.1 hm with h | h
      ·
       exact absurd h hb
      ·
       exact h
     refine (List.Perm.append_left _ (ihb hnd.2 hm')).trans ?_
     exact List.perm_middle
  refine (h1 _ List.nodup_range (List.mem_range.2 (UInt8.toNat_lt _))).trans (ih.cons x)
theorem Qol (L : List UInt8) : (Qbh L).Pairwise fun i j => (L.getD i 0).toNat < (L.getD j 0).toNat ∨ ((L.getD i 0).toNat = (L.getD j 0).toNat /\ i < j) := by
 unfold Qbh
 rw [List.pairwise_flatMap]
 refine ⟨fun b _ => ?_, ?_⟩
 ·
  have hr : (List.range L.length).Pairwise (· < ·) := List.pairwise_lt_range
  have := hr.filter fun i => (L.getD i 0).toNat == b
  refine this.imp_of_mem fun {i j} hi hj h => ?_
  rw [List.mem_filter] at hi hj
  simp only [beq_iff_eq] at hi hj
  exact .inr ⟨by rw [hi.2, hj.2], h⟩
 ·
  refine (List.pairwise_lt_range (n := 256)).imp fun {b c} h i hi j hj => ?_
  rw [List.mem_filter] at hi hj
  simp only [beq_iff_eq] at hi hj
  exact .inl (by rw [hi.2, hj.2];exact h)
def Qg1 (L : List UInt8) (pl : List Nat) : Nat -> Nat -> List UInt8
 | 0, _ => []
 | n + 1, p => L.getD (pl.getD p 0) 0 :: Qg1 L pl n (pl.getD p 0)
theorem QLh (a : UInt8) (l : List UInt8) : rotl (a :: l) = l ++ [a] := rfl
section
variable {s : List UInt8} {σ : List Nat}
theorem QLi (h : Ordered s σ) {j : Nat} (hj : j < s.length) : (Qbs s σ).getD j 0 = s.getD (Qfd s.length (σ.getD j 0)) 0 := by
 have hl : σ.length = s.length := by rw [h.perm.length_eq, List.length_range]
 simp only [Qbs, List.getD_eq_getElem?_getD, List.getElem?_map]
 rw [List.getElem?_eq_getElem (by omega)]
 simp
theorem QOy (h : Ordered s σ) {j : Nat} (hj : j < s.length) : σ.getD j 0 < s.length := by
 have hl : σ.length = s.length := by rw [h.perm.length_eq, List.length_range]
 have : σ.getD j 0 ∈ σ := by
  rw [List.getD_eq_getElem?_getD, List.getElem?_eq_getElem (by omega)];simp
 have := (h.perm.mem_iff).1 this
 simpa using this
theorem Qyw {n i : Nat} (h : i < n) : Qfd n i < n := by unfold Qfd;split <;> omega
theorem Qr5 (h : Ordered s σ) {j : Nat} (hj : j < s.length) : ∃ l, rot s (σ.getD j 0) = l ++ [(Qbs s σ).getD j 0] /\ rot s (Qfd s.length (σ.getD j 0)) = (Qbs s σ).getD j 0 :: l := by
 have h1 := QOy h hj
 have h2 := QDm s _ h1
 have h3 := Qyv s _ (Qyw h1)
 cases hr : rot s (Qfd s.length (σ.getD j 0)) with
 | nil => rw [hr] at h3;simp at h3
 | cons a l =>
  rw [hr] at h2 h3
  simp only [List.head?_cons, Option.some.injEq] at h3
  rw [QLi h hj, <- h3]
  exact ⟨l, h2, rfl⟩
theorem QA3 (n : Nat) : ((List.range n).map (Qfd n)).Perm (List.range n) := by
 refine (List.perm_ext_iff_of_nodup ?_ List.nodup_range).2 fun a => ?_
 ·
  refine List.Pairwise.map _ ?_ (List.pairwise_lt_range.imp_of_mem (S := fun a b => a < b /\ b < n) fun {a b} ha hb h => ⟨h, by simpa using hb⟩)
  intro a b h
  unfold Qfd
  split <;> split <;> omega
 ·
  simp only [List.mem_map, List.mem_range]
  constructor
  ·
   rintro ⟨i, hi, rfl⟩;exact Qyw hi
  ·
   intro ha
   by_cases h : a = n - 1
   ·
    exact ⟨0, by omega, by unfold Qfd;rw [if_pos rfl];omega⟩
   ·
    exact ⟨a + 1, by omega, by unfold Qfd;rw [if_neg (by omega)];omega⟩
theorem QG3 (σ : List Nat) : (List.range σ.length).map (fun j => σ.getD j 0) = σ := by
 apply List.ext_getElem?
 intro j
 rw [List.getElem?_map]
 by_cases h : j < σ.length
 ·
  rw [List.getElem?_eq_getElem (by simpa using h)]
  simp [List.getD_eq_getElem?_getD, h]
 ·
  rw [List.getElem?_eq_none (by simpa using h), List.getElem?_eq_none (by omega)];rfl
theorem QDn (h : Ordered s σ) : σ.map (rot s) = (Qbh (Qbs s σ)).map fun j => rot s (Qfd s.length (σ.getD j 0)) := by
 have hl : σ.length = s.length := by rw [h.perm.length_eq, List.length_range]
 have hcl : (Qbs s σ).length = s.length := by simp [Qbs, hl]
 have hpp := Qci (Qbs s σ)
 rw [hcl] at hpp
 have hmem : ∀ j ∈ Qbh (Qbs s σ), j < s.length := fun j hj => by simpa using (hpp.mem_iff).1 hj
 refine List.Perm.eq_of_pairwise (le := fun l m => leB l m = true) (fun a b _ _ h1 h2 => Qnd a b h1 h2) ?_ ?_ ?_
 ·
  exact List.Pairwise.map _ (fun a b h => h) (h.sorted.imp fun h => h.1)
 ·
  refine List.Pairwise.map _ ?_ ((Qol (Qbs s σ)).imp_of_mem (S := fun i j => ((((Qbs s σ).getD i 0).toNat < ((Qbs s σ).getD j 0).toNat ∨ (((Qbs s σ).getD i 0).toNat = ((Qbs s σ).getD j 0).toNat /\ i < j)) /\ i < s.length) /\ j < s.length) fun hi hj h => ⟨⟨h, hmem _ hi⟩, hmem _ hj⟩)
  rintro i j ⟨⟨hij, hi⟩, hj⟩
  obtain ⟨l, e1, e2⟩ := Qr5 h hi
  obtain ⟨m, f1, f2⟩ := Qr5 h hj
  rw [e2, f2]
  simp only [leB]
  rcases hij with hlt | ⟨he, hlt⟩
  ·
   have : (Qbs s σ).getD i 0 ≠ (Qbs s σ).getD j 0 := fun h' => by rw [h'] at hlt;omega
   simp only [this, if_false];simpa using hlt
  ·
   have he' : (Qbs s σ).getD i 0 = (Qbs s σ).getD j 0 := UInt8.toNat_inj.1 he
   rw [if_pos he']
   have hs := List.pairwise_iff_getElem.1 h.sorted i j (by omega) (by omega) hlt
   have g1 : σ[i]'(by omega) = σ.getD i 0 := by rw [List.getD_eq_getElem?_getD, List.getElem?_eq_getElem (by omega)];rfl
   have g2 : σ[j]'(by omega) = σ.getD j 0 := by rw [List.getD_eq_getElem?_getD, List.getElem?_eq_getElem (by omega)];rfl
   rw [g1, g2, e1, f1, he'] at hs
   refine Qyu l m _ ?_ hs.1
   have a1 := congrArg List.length e1
   have a2 := congrArg List.length f1
   simp [QA2] at a1 a2
   omega
 ·
  have p1 : (σ.map (rot s)).Perm ((List.range s.length).map (rot s)) := h.perm.map _
  have p2 : ((Qbh (Qbs s σ)).map fun j => rot s (Qfd s.length (σ.getD j 0))).Perm ((List.range s.length).map fun j => rot s (Qfd s.length (σ.getD j 0))) := hpp.map _
  refine p1.trans (List.Perm.trans ?_ p2.symm)
  have e1 : ((List.range s.length).map fun j => rot s (Qfd s.length (σ.getD j 0))) = (σ.map (Qfd s.length)).map (rot s) := by
   rw [<- hl]
   conv => rhs;rw [<- QG3 σ]
   simp [List.map_map, Function.comp_def, hl]
  rw [e1]
  exact (((h.perm.map (Qfd s.length)).trans (QA3 s.length)).symm).map _
theorem QDo (h : Ordered s σ) : ∀ (n p i : Nat), p < s.length -> i < s.length -> rot s (σ.getD p 0) = rot s i -> i + n <= s.length ->
  Qg1 (Qbs s σ) (Qbh (Qbs s σ)) n p = (s.drop i).take n
 | 0, _, _, _, _, _, _ => by simp [Qg1]
 | n + 1, p, i, hp, hi, hr, hn => by
  have hl : σ.length = s.length := by rw [h.perm.length_eq, List.length_range]
  have hcl : (Qbs s σ).length = s.length := by simp [Qbs, hl]
  have hpp := Qci (Qbs s σ)
  rw [hcl] at hpp
  have hpl : (Qbh (Qbs s σ)).length = s.length := by rw [hpp.length_eq, List.length_range]
  generalize hq : (Qbh (Qbs s σ)).getD p 0 = q
  have hqlt : q < s.length := by
   have : q ∈ Qbh (Qbs s σ) := by
    rw [<- hq, List.getD_eq_getElem?_getD, List.getElem?_eq_getElem (by omega)];simp
   simpa using (hpp.mem_iff).1 this
  have hb := congrArg (fun l => l[p]?) (QDn h)
  simp only [List.getElem?_map] at hb
  rw [List.getElem?_eq_getElem (by omega), List.getElem?_eq_getElem (by omega)] at hb
  simp only [Option.map_some, Option.some.injEq] at hb
  have g1 : σ[p]'(by omega) = σ.getD p 0 := by rw [List.getD_eq_getElem?_getD, List.getElem?_eq_getElem (by omega)];rfl
  have g2 : (Qbh (Qbs s σ))[p]'(by omega) = q := by rw [<- hq, List.getD_eq_getElem?_getD, List.getElem?_eq_getElem (by omega)];rfl
  rw [g1, g2, hr] at hb
  obtain ⟨l, e1, e2⟩ := Qr5 h hqlt
  rw [e2] at hb
  have hd := Qyv s i hi
  rw [hb] at hd
  simp only [List.head?_cons, Option.some.injEq] at hd
  have hnext : rot s (σ.getD q 0) = rotl (rot s i) := by rw [hb, QLh, e1]
  rw [Qg1, hq, hd, List.drop_eq_getElem_cons hi, List.take_succ_cons]
  have e3 : s.getD i 0 = s[i] := by rw [List.getD_eq_getElem?_getD, List.getElem?_eq_getElem hi];rfl
  rw [e3]
  congr 1
  by_cases hlast : i + 1 = s.length
  ·
   have : n = 0 := by omega
   subst this;simp [Qg1]
  ·
   exact QDo h n q (i + 1) hqlt (by omega) (by rw [hnext, Qr4 s i hi]) (by omega)
theorem QG4 (h : Ordered s σ) (hs : s ≠ []) : Qg1 (Qbs s σ) (Qbh (Qbs s σ)) s.length (σ.idxOf 0) = s := by
 have hl : σ.length = s.length := by rw [h.perm.length_eq, List.length_range]
 have hn : 0 < s.length := List.length_pos_iff.2 hs
 have hm : 0 ∈ σ := (h.perm.mem_iff).2 (by simpa using hn)
 have hr : σ.idxOf 0 < σ.length := List.idxOf_lt_length_iff.2 hm
 have hg : σ.getD (σ.idxOf 0) 0 = 0 := by
  rw [List.getD_eq_getElem?_getD, List.getElem?_eq_getElem hr]
  simp
 have := QDo h s.length (σ.idxOf 0) 0 (by omega) hn (by rw [hg]) (by omega)
 simpa using this
end
def pre (s : List UInt8) (m i : Nat) : List UInt8 := (List.range m).map fun t => s.getD ((i + t) % s.length) 0
theorem Qjc (s : List UInt8) (m i : Nat) : (pre s m i).length = m := by simp [pre]
theorem Qr6 (s : List UInt8) (a b i : Nat) : pre s (a + b) i = pre s a i ++ pre s b ((i + a) % s.length) := by
 simp only [pre, List.range_add, List.map_append, List.map_map]
 congr 1
 apply List.map_congr_left
 intro t _
 simp only [Function.comp]
 congr 1
 rw [Nat.mod_add_mod, Nat.add_assoc]
theorem Qlv : ∀ {a c : List UInt8} (b d : List UInt8), a.length = c.length -> leB (a ++ b) (c ++ d) = if a = c then leB b d else leB a c
 | [], [], _, _, _ => by simp
 | [], _ :: _, _, _, h => by simp at h
 | _ :: _, [], _, _, h => by simp at h
 | x :: a, y :: c, b, d, h => by
  have ih := Qlv (a := a) (c := c) b d (by simpa using h)
  by_cases hxy : x = y
  ·
   subst hxy
   simp only [List.cons_append, leB, if_true, ih, List.cons.injEq, true_and]
  ·
   simp [leB, hxy]
theorem Qr7 (s : List UInt8) (i : Nat) (hi : i < s.length) : pre s s.length i = rot s i := by
 apply List.ext_getElem
 ·
  simp [pre, rot];omega
 ·
  intro t h1 h2
  simp only [pre, List.length_map, List.length_range] at h1
  simp only [pre, rot, List.getElem_map, List.getElem_range, List.getElem_append, List.length_drop, List.getElem_drop, List.getElem_take]
  split
  ·
   rename_i h
   rw [Nat.mod_eq_of_lt (by omega), List.getD_eq_getElem?_getD, List.getElem?_eq_getElem (by omega), Option.getD_some]
  ·
   rename_i h
   have e : (i + t) % s.length = t - (s.length - i) := by
    rw [Nat.mod_eq_sub_mod (by omega), Nat.mod_eq_of_lt (by omega)];omega
   rw [e, List.getD_eq_getElem?_getD, List.getElem?_eq_getElem (by omega), Option.getD_some]
theorem QA4 (s : List UInt8) (m i j : Nat) (hi : i < s.length) (hj : j < s.length) (h : rot s i = rot s j) : pre s m i = pre s m j := by
 rw [<- Qr7 s i hi, <- Qr7 s j hj] at h
 unfold pre at h ⊢
 apply List.map_congr_left
 intro t _
 have ht : t % s.length < s.length := Nat.mod_lt _ (by omega)
 have h1 := (List.map_inj_left.1 h) (t % s.length) (by simpa using ht)
 rwa [Nat.add_mod_mod, Nat.add_mod_mod] at h1
def Ranks (s : List UInt8) (rk : List Int) (m : Nat) : Prop := rk.length = s.length /\ ∀ i j, i < s.length -> j < s.length -> (rk.getD i 0 <= rk.getD j 0 ↔ leB (pre s m i) (pre s m j) = true)
def leK (rk : List Int) (by_ : Nat) (x y : Int) : Prop := keyA rk x < keyA rk y ∨ (keyA rk x = keyA rk y /\ keyB rk by_ x <= keyB rk by_ y)
def LeK (s : List UInt8) (rk : List Int) (by_ m : Nat) : Prop := rk.length = s.length /\ ∀ i j : Nat, i < s.length -> j < s.length -> (leK rk by_ i j ↔ leB (pre s m i) (pre s m j) = true)
theorem Ranks.eq {s : List UInt8} {rk : List Int} {m : Nat} (h : Ranks s rk m) {i j : Nat} (hi : i < s.length) (hj : j < s.length) : rk.getD i 0 = rk.getD j 0 ↔ pre s m i = pre s m j := by
 constructor
 ·
  intro e
  exact Qnd _ _ ((h.2 i j hi hj).1 (by omega)) ((h.2 j i hj hi).1 (by omega))
 ·
  intro e
  have h1 := (h.2 i j hi hj).2 (by rw [e];exact Qkz _)
  have h2 := (h.2 j i hj hi).2 (by rw [e];exact Qkz _)
  omega
theorem LeK.first {s : List UInt8} {rk : List Int} (h : Ranks s rk 1) : LeK s rk 0 1 := by
 refine ⟨h.1, fun i j hi hj => ?_⟩
 have hn := h.1
 rw [<- h.2 i j hi hj]
 simp only [leK, keyA, keyB, Int.toNat_natCast, Nat.add_zero, hn, Nat.mod_eq_of_lt hi, Nat.mod_eq_of_lt hj]
 omega
theorem LeK.double {s : List UInt8} {rk : List Int} {c : Nat} (h : Ranks s rk c) : LeK s rk c (c + c) := by
 refine ⟨h.1, fun i j hi hj => ?_⟩
 have hn := h.1
 have h0 : 0 < s.length := by omega
 rw [Qr6, Qr6, Qlv _ _ (by rw [Qjc, Qjc])]
 have hi2 : (i + c) % s.length < s.length := Nat.mod_lt _ h0
 have hj2 : (j + c) % s.length < s.length := Nat.mod_lt _ h0
 have e1 := h.eq hi hj
 have e2 := h.2 i j hi hj
 have e3 := h.2 _ _ hi2 hj2
 simp only [leK, keyA, keyB, Int.toNat_natCast, hn]
 split
 ·
  rename_i hp
  rw [<- e3]
  have := e1.2 hp
  omega
 ·
  rename_i hp
  rw [<- e2]
  have : ¬ rk.getD i 0 = rk.getD j 0 := fun h' => hp (e1.1 h')
  omega
def kEq (rk : List Int) (by_ : Nat) (x y : Int) : Bool := decide (keyA rk x = keyA rk y) && decide (keyB rk by_ x = keyB rk by_ y)
def rsum (rk : List Int) (by_ : Nat) (L : List Int) : Nat -> Nat
 | 0 => 0
 | k + 1 => rsum rk by_ L k + if kEq rk by_ (L.getD k 0) (L.getD (k + 1) 0) then 0 else 1
theorem Qw9 (rk : List Int) (by_ : Nat) (L : List Int) : ∀ k, rsum rk by_ L k <= k
 | 0 => by simp [rsum]
 | k + 1 => by have := Qw9 rk by_ L k;simp only [rsum];split <;> omega
theorem Qom (rk : List Int) (by_ : Nat) (L : List Int) {p q : Nat} (h : p <= q) : rsum rk by_ L p <= rsum rk by_ L q := by
 induction q with
 | zero =>
  obtain rfl : p = 0 := by omega
  exact Nat.le_refl _
 | succ q ih =>
  by_cases hp : p = q + 1
  ·
   rw [hp];exact Nat.le_refl _
  ·
   have := ih (by omega);simp only [rsum];omega
def QG5 (rk : List Int) (by_ : Nat) (L : List Int) : Prop := ∀ p q, p <= q -> q < L.length -> leK rk by_ (L.getD p 0) (L.getD q 0)
theorem QLj {rk : List Int} {by_ : Nat} {L : List Int} (hL : QG5 rk by_ L) {p q : Nat} (h : p <= q) (hq : q < L.length) : rsum rk by_ L p = rsum rk by_ L q ↔ kEq rk by_ (L.getD p 0) (L.getD q 0) = true := by
 induction q with
 | zero =>
  obtain rfl : p = 0 := by omega
  simp [kEq]
 | succ q ih =>
  by_cases hp : p = q + 1
  ·
   subst hp;simp [kEq]
  ·
   have ih := ih (by omega) (by omega)
   have hm := Qom rk by_ L (show p <= q by omega)
   have h1 := hL p q (by omega) (by omega)
   have h2 := hL q (q + 1) (by omega) hq
   simp only [rsum]
   simp only [kEq, Bool.and_eq_true, decide_eq_true_eq, leK] at *
   split
   ·
    rename_i h3
    simp only [Nat.add_zero]
    rw [ih]
    omega
   ·
    rename_i h3
    constructor
    ·
     intro h4;omega
    ·
     intro h4;exfalso;apply h3;omega
theorem QA6 {rk : List Int} {by_ : Nat} {L : List Int} (hL : QG5 rk by_ L) {p q : Nat} (hp : p < L.length) (hq : q < L.length) : rsum rk by_ L p <= rsum rk by_ L q ↔ leK rk by_ (L.getD p 0) (L.getD q 0) := by
 by_cases h : p <= q
 ·
  exact ⟨fun _ => hL p q h hq, fun _ => Qom rk by_ L h⟩
 ·
  have h1 := hL q p (by omega) hp
  have h2 := Qom rk by_ L (show q <= p by omega)
  have h3 := QLj hL (show q <= p by omega) hp
  simp only [kEq, Bool.and_eq_true, decide_eq_true_eq, leK] at *
  constructor
  ·
   intro h4;have := h3.1 (by omega);omega
  ·
   intro h4;have := h3.2 (by omega);omega
def Qe2 (n : Nat) : List Int := (List.range n).map fun i : Nat => (i : Int)
theorem QIc {rk : List Int} {by_ : Nat} {x y : Int} (h : ltOf (cmpR rk by_) y x = false) : leK rk by_ x y /\ (kEq rk by_ x y = true -> x <= y) := by
 have h1 := Qj8 rk by_ y x
 have h2 : ¬ cmpR rk by_ y x < 0 := of_decide_eq_false h
 simp only [leK, kEq, Bool.and_eq_true, decide_eq_true_eq]
 constructor
 ·
  omega
 ·
  omega
theorem QG6 {rk : List Int} {by_ : Nat} {L : List Int} (h : L.Pairwise fun x y => ltOf (cmpR rk by_) y x = false) : QG5 rk by_ L := by
 intro p q hpq hq
 by_cases e : p = q
 ·
  subst e;right;exact ⟨rfl, Int.le_refl _⟩
 ·
  have := (List.pairwise_iff_getElem.1 h) p q (by omega) hq (by omega)
  rw [List.getD_eq_getElem?_getD, List.getElem?_eq_getElem (by omega), List.getD_eq_getElem?_getD, List.getElem?_eq_getElem hq]
  exact (QIc this).1
theorem Qxa {L : List Int} {n : Nat} (h : L.Perm (Qe2 n)) {i : Nat} (hi : i < n) : ∃ p, p < L.length /\ L.getD p 0 = i := by
 have hm : (i : Int) ∈ L := h.mem_iff.2 (by simp only [Qe2, List.mem_map, List.mem_range];exact ⟨i, hi, rfl⟩)
 obtain ⟨p, hp, he⟩ := List.getElem_of_mem hm
 exact ⟨p, hp, by rw [List.getD_eq_getElem?_getD, List.getElem?_eq_getElem hp];exact he⟩
theorem Qxb {L : List Int} {n : Nat} (h : L.Perm (Qe2 n)) {p : Nat} (hp : p < L.length) : 0 <= L.getD p 0 /\ L.getD p 0 < n := by
 have hm : L.getD p 0 ∈ L := by rw [List.getD_eq_getElem?_getD, List.getElem?_eq_getElem hp];exact List.getElem_mem hp
 have := h.mem_iff.1 hm
 simp only [Qe2, List.mem_map, List.mem_range] at this
 obtain ⟨i, hi, he⟩ := this
 omega
theorem Qyx {L : List Int} {n : Nat} (h : L.Perm (Qe2 n)) : L.length = n := by rw [h.length_eq];simp [Qe2]
theorem Qqw {L : List Int} {n : Nat} (h : L.Perm (Qe2 n)) : L.Nodup := by
 rw [h.nodup_iff, Qe2, List.Nodup, List.pairwise_map]
 exact (List.nodup_range (n := n)).imp fun {a b} hab h => hab (by omega)
theorem QG7 {L : List Int} {n : Nat} (h : L.Perm (Qe2 n)) {p q : Nat} (hp : p < L.length) (hq : q < L.length) (e : L.getD p 0 = L.getD q 0) : p = q := by
 have hnd := Qqw h
 rw [List.getD_eq_getElem?_getD, List.getElem?_eq_getElem hp, List.getD_eq_getElem?_getD, List.getElem?_eq_getElem hq] at e
 exact (List.getElem_inj hnd).1 e
theorem QA7 {s : List UInt8} {rk nx L : List Int} {by_ m : Nat} (hk : LeK s rk by_ m) (hp : L.Perm (Qe2 s.length)) (hs : QG5 rk by_ L) (hl : nx.length = s.length) (hn : ∀ p, p < s.length -> nx.getD (L.getD p 0).toNat 0 = rsum rk by_ L p) : Ranks s nx m := by
 refine ⟨hl, fun i j hi hj => ?_⟩
 have hL := Qyx hp
 obtain ⟨p, hp1, hp2⟩ := Qxa hp hi
 obtain ⟨q, hq1, hq2⟩ := Qxa hp hj
 have e1 := hn p (by omega)
 have e2 := hn q (by omega)
 rw [hp2, Int.toNat_natCast] at e1
 rw [hq2, Int.toNat_natCast] at e2
 have h1 := QA6 hs hp1 hq1
 rw [hp2, hq2] at h1
 rw [e1, e2, <- hk.2 i j hi hj, <- h1]
 omega
theorem Qxc {s : List UInt8} {rk nx L : List Int} {by_ : Nat} (hp : L.Perm (Qe2 s.length)) (hl : nx.length = s.length) (hb : s.length <= 1000000000) (hn : ∀ p, p < s.length -> nx.getD (L.getD p 0).toNat 0 = rsum rk by_ L p) : Qky nx := by
 intro r hr
 obtain ⟨i, hi, rfl⟩ := List.getElem_of_mem hr
 have hL := Qyx hp
 obtain ⟨p, hp1, hp2⟩ := Qxa hp (show i < s.length by omega)
 have e1 := hn p (by omega)
 have e2 := Qw9 rk by_ L p
 rw [hp2, Int.toNat_natCast, List.getD_eq_getElem?_getD, List.getElem?_eq_getElem hi, Option.getD_some] at e1
 omega
theorem Qxd {s : List UInt8} {rk L : List Int} {by_ m : Nat} (hk : LeK s rk by_ m) (hm : s.length <= m) (hp : L.Perm (Qe2 s.length)) (hs : L.Pairwise fun x y => ltOf (cmpR rk by_) y x = false) : Ordered s (L.map Int.toNat) := by
 constructor
 ·
  have := hp.map Int.toNat
  rwa [Qe2, List.map_map, show (Int.toNat ∘ fun i : Nat => (i : Int)) = id from funext fun i => Int.toNat_natCast i, List.map_id] at this
 ·
  rw [List.pairwise_map]
  refine (List.pairwise_and_iff.2 ⟨hs, Qqw hp⟩).imp_of_mem fun {x y} hx hy h => ?_
  obtain ⟨h, hne⟩ := h
  have hx := hp.mem_iff.1 hx
  have hy := hp.mem_iff.1 hy
  simp only [Qe2, List.mem_map, List.mem_range] at hx hy
  obtain ⟨i, hi, rfl⟩ := hx
  obtain ⟨j, hj, rfl⟩ := hy
  simp only [Int.toNat_natCast]
  obtain ⟨h1, h2⟩ := QIc h
  have h3 := (hk.2 i j hi hj).1 h1
  constructor
  ·
   obtain ⟨c, rfl⟩ : ∃ c, m = s.length + c := ⟨m - s.length, by omega⟩
   rw [Qr6, Qr6, Qlv _ _ (by rw [Qjc, Qjc]), Qr7 s i hi, Qr7 s j hj] at h3
   split at h3
   ·
    rename_i e;rw [e];exact Qkz _
   ·
    exact h3
  ·
   intro e
   have e2 := QA4 s m i j hi hj e
   have h4 := (hk.2 j i hj hi).2 (by rw [e2];exact Qkz _)
   have h5 : kEq rk by_ i j = true := by
    simp only [leK, kEq, Bool.and_eq_true, decide_eq_true_eq] at *
    omega
   have h6 := h2 h5
   have h7 : i ≠ j := fun h => hne (by rw [h])
   omega
theorem Qd4 (d : Array Int) (p : Nat) : d.toList.getD p 0 = d[p]! := by
 simp only [List.getD_eq_getElem?_getD, getElem!_def, Array.getElem?_toList]
 cases d[p]? <;> rfl
theorem Qhy (d : Array Int) {i : Nat} (v : Int) (j : Nat) (hi : i < d.size) : (d.setIfInBounds i v)[j]! = if j = i then v else d[j]! := by
 simp only [getElem!_def, Array.getElem?_setIfInBounds]
 by_cases h : i = j
 ·
  subst h;simp [hi]
 ·
  simp [h, Ne.symm h]
theorem Qup (n k : Nat) : (Array.replicate n (0 : Int))[k]! = 0 := by
 simp only [getElem!_def, Array.getElem?_replicate]
 split <;> rename_i h
 ·
  split at h <;> simp_all
 ·
  rfl
theorem QDp {w0 w : World} {B : List Nat} {G : List Res} (hH : Heap w0 B w G) (n : Nat) (hn : n <= 1000000000000) : Heap w0 B (w.alloc (.cells (List.replicate n (Value.int .i64 0)).toArray 3)) (arr w.heap.size n (Array.replicate n 0) :: G) := by
 have h := hH.row 3 (n := n) (cap := n) (sz := 1) (List.replicate n (.int .i64 0)) [] (by simp) (by simp) (by omega) (by omega)
 rw [List.append_nil] at h
 rw [arr, Array.size_replicate, Array.toList_replicate, <- intsV_zero]
 exact h
abbrev Qpp (g cap : Nat) (rk : List Int) : Res := Res.row 3 1 (some ⟨g, 0, none⟩) rk.length cap (Qbn rk)
abbrev ptr (g : Nat) : Value := .pointer (some ⟨g, 0, none⟩)
theorem QA8 (rk : List Int) (gr cr by_ go co gn gs : Nat) (d : Array Int) (hrk : Qky rk) (hby : by_ <= 10000000000) (hn : d.size <= 1000000000) (hn0 : 0 < d.size) (hl : rk.length = d.size) (hp : d.toList.Perm (Qe2 d.size)) (w0 w : World) (B : List Nat) (G : List Res)
  (hL : Heap w0 B w (arr go co d :: Qpp gr cr rk :: Res.blk gn 3 [.int .i64 d.size] :: Res.blk gs 36 [sl go co d] :: G)) :
  Does Tryz.prog 125 #[Qw8 ⟨gr, 0, none⟩ rk.length cr by_, ptr gn, ptr gs] w
   fun v w' => ∃ (gx : Nat) (nx : Array Int), nx.size = d.size /\ (∀ p, p < d.size -> nx[(d[p]!).toNat]! = rsum rk by_ d.toList p) /\ Heap w0 B w' (Qpp gx d.size nx.toList :: arr go co d :: Qpp gr cr rk :: Res.blk gn 3 [.int .i64 d.size] :: Res.blk gs 36 [sl go co d] :: G) /\ v = sl gx d.size nx := by
 have hin : ∀ p, p < d.size -> 0 <= d[p]! /\ d[p]! < d.size := fun p h => by
  have := Qxb hp (p := p) (by simpa using h)
  rwa [Qd4] at this
 have hinj : ∀ p q, p < d.size -> q < d.size -> d[p]! = d[q]! -> p = q := fun p q h1 h2 e => by
  refine QG7 hp (p := p) (q := q) (by simpa using h1) (by simpa using h2) ?_
  rw [Qd4, Qd4, e]
 refine En [Qw8 ⟨gr, 0, none⟩ rk.length cr by_, ptr gn, ptr gs] 69 Tryz.func125 ?_
 refine VQ [1, 2, 3] fun K hK => ?_
 refine Qcg ?_
 refine Qs ?_
 have hH := hL.box 166 [.slice (some ⟨gr, 0, none⟩) rk.length cr, .int .i64 by_]
 generalize w.alloc (Obj.cells [Value.slice (some ⟨gr, 0, none⟩) rk.length cr, .int .i64 by_].toArray 166) = w1 at *
 generalize w.heap.size = gb at *
 apply hK;clear hK
 refine VQ [1, 2, 3, 5] fun K hK => ?_
 refine ⟨_, Qaf (hH.at 3 rfl) rfl, ?_⟩
 refine Qbw Tryz.underlying36 zi3 ?_
 refine Qs ?_
 refine ⟨d.size, d.size, ⟨rfl, rfl, by omega, by omega, by omega⟩, ?_⟩
 have hH1 := QDp hH d.size (by omega)
 generalize w1.alloc (Obj.cells (List.replicate d.size (Value.int .i64 0)).toArray 3) = w2 at *
 generalize w1.heap.size = gx at *
 apply hK;clear hK
 refine VS [1, 2, 3, 5, 6] ?_
 refine Qag ?_
 refine Qaj [1, 2, 3, 5, 6] (fun m e w' => ∃ (k : Nat) (nx : Array Int), Is e [(1, ptr gn), (2, ptr gs), (3, ptr gb), (5, .slice (some ⟨gx, 0, none⟩) d.size d.size), (6, .int .i64 k)] /\ Heap w0 B w' (arr gx d.size nx :: Res.blk gb 166 [.slice (some ⟨gr, 0, none⟩) rk.length cr, .int .i64 by_] :: arr go co d :: Qpp gr cr rk :: Res.blk gn 3 [.int .i64 d.size] :: Res.blk gs 36 [sl go co d] :: G) /\ nx.size = d.size /\ 1 <= k /\ k <= d.size /\ (∀ p, p < k -> nx[(d[p]!).toNat]! = rsum rk by_ d.toList p) /\ m = d.size - k) (d.size - 1) ?_ ?_
 ·
  refine Qs ?_
  refine ⟨1, Array.replicate d.size 0, rfl, hH1, by simp, by omega, by omega, fun p hp => ?_, rfl⟩
  obtain rfl : p = 0 := by omega
  rw [Qup];rfl
 clear hH hH1
 rintro m e w3 ⟨k, nx, rfl, hH, hs, hk1, hk2, hnx, hm⟩
 refine VQ [1, 2, 3, 5, 6, 15] fun K hK => ?_
 refine ⟨_, Qaf (hH.at 4 rfl) rfl, ?_⟩
 refine Qs ?_
 apply hK;clear hK
 refine VD (fun h => ?_) (fun h => ?_)
 ·
  refine Qac ?_
  refine VB ?_
  obtain ⟨i1, hi1⟩ : ∃ i1 : Nat, d[k - 1]! = i1 := ⟨(d[k - 1]!).toNat, by have := hin (k - 1) (by omega);omega⟩
  obtain ⟨i2, hi2⟩ : ∃ i2 : Nat, d[k]! = i2 := ⟨(d[k]!).toNat, by have := hin k (by omega);omega⟩
  have hb1 := hin (k - 1) (by omega)
  have hb2 := hin k (by omega)
  have hne : i1 ≠ i2 := fun e => by have := hinj (k - 1) k (by omega) (by omega) (by rw [hi1, hi2, e]);omega
  have hrs : rsum rk by_ d.toList k = rsum rk by_ d.toList (k - 1) + if kEq rk by_ i1 i2 then 0 else 1 := by
   obtain ⟨j, rfl⟩ : ∃ j, k = j + 1 := ⟨k - 1, by omega⟩
   rw [Nat.add_sub_cancel] at *
   rw [rsum, Qd4, Qd4, hi1, hi2]
  have hkeq : kEq rk by_ i1 i2 = (decide (rk.getD i1 0 = rk.getD i2 0) && decide (rk.getD ((i1 + by_) % rk.length) 0 = rk.getD ((i2 + by_) % rk.length) 0)) := by
   simp only [kEq, keyA, keyB, Int.toNat_natCast]
   rfl
  refine VH _ (Ext.refl _) [1, 2, 3, 5, 6, 7, 8] [(0, true), (1, true), (2, true), (3, true), (4, true), (5, true), (6, false), (7, true), (8, true), (9, true), (10, true), (11, true)] fun K hK => ?_
  refine ⟨[.slice (some ⟨gr, 0, none⟩) rk.length cr, .int .i64 by_], ⟨rfl, Qa1 (hH.at 1 rfl)⟩, _, Qaf (hH.at 5 rfl) rfl, I64.mk (by omega) (by omega), ?_⟩
  refine Qs ?_
  refine ⟨⟨by omega, by omega⟩, _, Qaz (hH.at 2 rfl) (by omega), ?_⟩
  rw [hi1]
  refine Qaa Tryz.call126 ?_;refine Qs ?_;refine CallK.mk (Qnc rk ⟨gr, 0, none⟩ cr by_ i1 (by omega) hby (by omega) w3 (Qa8 (hH.at 3 rfl))) ?_
  rintro v w4 ⟨hH2, rfl⟩
  have hH3 := hH.call0 hH2
  simp only [List.nil_append] at hH3
  clear hH
  refine ⟨hH2.ext, ?_⟩
  apply hK;clear hK
  simp only [List.getElem_toArray, List.getElem_cons_zero, List.getElem_cons_succ]
  clear hH2
  refine VH _ (Ext.refl _) [1, 2, 3, 5, 6, 7, 8, 9, 10] [(0, true), (1, true), (2, true), (3, true), (4, true), (5, false), (6, true), (7, true), (8, true), (9, true), (10, true)] fun K hK => ?_
  refine ⟨[.slice (some ⟨gr, 0, none⟩) rk.length cr, .int .i64 by_], ⟨rfl, Qa1 (hH3.at 1 rfl)⟩, _, Qaf (hH3.at 5 rfl) rfl, ?_⟩
  refine Qs ?_
  refine ⟨⟨by omega, by omega⟩, _, Qaz (hH3.at 2 rfl) (by omega), ?_⟩
  rw [hi2]
  refine Qaa Tryz.call126 ?_;refine Qs ?_;refine CallK.mk (Qnc rk ⟨gr, 0, none⟩ cr by_ i2 (by omega) hby (by omega) w4 (Qa8 (hH3.at 3 rfl))) ?_
  rintro v w5 ⟨hH4, rfl⟩
  have hH := hH3.call0 hH4
  simp only [List.nil_append] at hH
  clear hH3
  refine ⟨hH4.ext, ?_⟩
  apply hK;clear hK
  simp only [List.getElem_toArray, List.getElem_cons_zero, List.getElem_cons_succ]
  clear hH4
  generalize rk.getD i1 0 = ka at *
  generalize rk.getD i2 0 = kb at *
  generalize rk.getD ((i1 + by_) % rk.length) 0 = kc at *
  generalize rk.getD ((i2 + by_) % rk.length) 0 = kd at *
  refine VL [1, 2, 3, 5, 6, 7, 8, 9, 10] 14 fun K hK => ?_
  refine ⟨_, Qaf (hH.at 5 rfl) rfl, ?_⟩
  refine Qs ?_
  refine ⟨⟨by omega, by omega⟩, _, Qaz (hH.at 2 rfl) (by omega), _, Qaf (hH.at 5 rfl) rfl, I64.mk (by omega) (by omega), ?_⟩
  refine Qs ?_
  refine ⟨⟨by omega, by omega⟩, _, Qaz (hH.at 2 rfl) (by omega), ?_⟩
  rw [hi1, hi2]
  refine Qs ?_
  refine ⟨⟨by omega, by omega⟩, _, Qaz (hH.at 0 rfl) (by omega), ⟨by omega, by omega⟩, ?_⟩
  refine Qab ?_;refine Qs ?_;refine Qa2 hH 0 (o := (i2)) rfl (by first | rfl | (simp;done) | (congr 1;omega)) (by first | omega | (simp;omega)) fun w6 hS1 => ?_;simp only [List.set_cons_zero] at hS1;(try refine Qs ?_)
  have hr1 := hnx (k - 1) (by omega)
  rw [hi1, Int.toNat_natCast] at hr1
  have hr2 := Qw9 rk by_ d.toList (k - 1)
  have hs1 : (nx.setIfInBounds i2 nx[i1]!).size = d.size := by simp [hs]
  have hnx1 : ∀ p, p < k -> (nx.setIfInBounds i2 nx[i1]!)[(d[p]!).toNat]! = rsum rk by_ d.toList p := fun p hp2 => by
   rw [Qhy _ _ _ (by omega), if_neg, hnx p hp2]
   intro e
   have h1 := hin p (by omega)
   have := hinj p k (by omega) (by omega) (by omega)
   omega
  have hk0 : (nx.setIfInBounds i2 nx[i1]!)[i2]! = rsum rk by_ d.toList (k - 1) := by rw [Qhy _ _ _ (by omega), if_pos rfl, hr1]
  clear hnx hr1 hH hs
  generalize nx.setIfInBounds i2 nx[i1]! = nx1 at *
  apply hK;clear hK
  refine VQ [1, 2, 3, 5, 6, 58] fun K hK => ?_
  suffices hall : ∀ bb : Bool, kEq rk by_ i1 i2 = !bb -> K [(1, ptr gn), (2, ptr gs), (3, ptr gb), (5, .slice (some ⟨gx, 0, none⟩) d.size d.size), (6, .int .i64 k), (58, .bool bb)] w6 by
   refine ⟨fun h => hall _ ?_, fun h => hall _ ?_⟩
   ·
    rw [hkeq];simp only [Decidable.not_not] at h;simp [h]
   ·
    rw [hkeq];simp [h]
  intro bb hbb
  rw [hbb] at hrs
  clear hbb hkeq
  apply hK;clear hK
  refine Vi (fun h => ?_) (fun h => ?_)
  ·
   subst h
   simp only [Bool.not_true, Bool.false_eq_true, if_false] at hrs
   refine VQ [1, 2, 3, 5, 6] fun K hK => ?_
   refine ⟨_, Qaf (hS1.at 5 rfl) rfl, ?_⟩
   refine Qs ?_
   refine ⟨⟨by omega, by omega⟩, _, Qaz (hS1.at 2 rfl) (by omega), ?_⟩
   rw [hi2]
   refine Qs ?_
   refine ⟨⟨by omega, by omega⟩, _, Qaz (hS1.at 0 rfl) (by omega), ?_⟩
   rw [hk0]
   refine Qs ?_
   refine ⟨I64.mk (by omega) (by omega), ⟨by omega, by omega⟩, ?_⟩
   refine Qab ?_;refine Qs ?_;refine Qa2 hS1 0 (o := (i2)) rfl (by first | rfl | (simp;done) | (congr 1;omega)) (by first | omega | (simp;omega)) fun w6 hS2 => ?_;simp only [List.set_cons_zero] at hS2;(try refine Qs ?_)
   apply hK;clear hK
   refine Qar ?_
   refine VS [1, 2, 3, 5, 6] ?_
   refine Qad ?_
   refine Qs ?_
   refine ⟨d.size - (k + 1), by omega, k + 1, _, rfl, hS2, by simp [hs1], by omega, by omega, fun p hp2 => ?_, rfl⟩
   rw [Qhy _ _ _ (by omega)]
   by_cases hpk : p = k
   ·
    subst hpk
    rw [hi2, Int.toNat_natCast, if_pos rfl, hrs]
    omega
   ·
    rw [if_neg, hnx1 p (by omega)]
    intro e
    have h1 := hin p (by omega)
    have := hinj p k (by omega) (by omega) (by omega)
    omega
  ·
   subst h
   simp only [Bool.not_false, if_true, Nat.add_zero] at hrs
   refine Qac ?_
   refine Qar ?_
   refine VS [1, 2, 3, 5, 6] ?_
   refine Qad ?_
   refine Qs ?_
   refine ⟨d.size - (k + 1), by omega, k + 1, nx1, rfl, hS1, hs1, by omega, by omega, fun p hp2 => ?_, rfl⟩
   by_cases hpk : p = k
   ·
    subst hpk
    rw [hi2, Int.toNat_natCast, hk0, hrs]
   ·
    exact hnx1 p (by omega)
 ·
  obtain rfl : k = d.size := by omega
  refine Qak rfl ?_
  refine VS [4] ?_
  refine Qah (Qat rfl rfl ?_)
  refine ⟨gx, nx, hs, hnx, ?_, by rw [sl, hs]⟩
  have h5 : Heap w0 B w3 (arr gx d.size nx :: arr go co d :: Qpp gr cr rk :: Res.blk gn 3 [.int .i64 d.size] :: Res.blk gs 36 [sl go co d] :: G) := hH.sub (by simp)
  rw [arr, hs] at h5
  rw [Qpp, show nx.toList.length = d.size by simpa using hs]
  exact h5
abbrev zarr (g n : Nat) : Res := arr g n (Array.replicate n 0)
abbrev zsl (g n : Nat) : Value := .slice (some ⟨g, 0, none⟩) n n
theorem QDq {P : Program} {N : Nat} {ops : List Oper} {w0 : World} {e : Env} {w : World} {K : Env -> World -> Prop} : vcH P N ops w0 [] e w K = K e w := rfl
set_option maxHeartbeats 4000000 in
theorem QA9 (l : List UInt8) (hl : l.length <= 100000000) (w : World) : Does Tryz.prog 72 #[Str l] w
  fun v w' => ∃ (go : Nat) (σ : List Nat), Ordered l σ /\ Heap w [] w' [Res.row 3 1 (some ⟨go, 0, none⟩) l.length l.length (Qbn (σ.map fun i : Nat => (i : Int)))] /\ v = .slice (some ⟨go, 0, none⟩) l.length l.length := by
 refine En [Str l] 57 Tryz.func72 ?_
 generalize hn : l.length = n at *
 refine VS [0] ?_
 refine VQ [0, 3] fun K hK => ?_
 refine Qal (.int .i64 0) (by kernel_rfl) ?_
 refine Qs ?_
 have hH0 := (Heap.start w).box 3 [.int .i64 0]
 generalize w.alloc (Obj.cells [Value.int .i64 0].toArray 3) = w1 at *
 generalize w.heap.size = gn at *
 rw [hn]
 refine Qab ?_;refine Qs ?_;refine Qae hH0 0 (vs := [.int .i64 n]) rfl rfl (by kernel_rfl) (by first | decide | (simp;done) | (simp;omega)) (by simp [Value.oneCell']) fun w6 hH => ?_;(try refine Qs ?_)
 apply hK;clear hK
 clear hH0
 generalize w6 = w1 at *
 refine V3 w1 (Ext.refl _) [0, 3, 4, 5] (.three [(0, true), (2, true)] 1 3 4 (.two [] 3 4 (.seq [(4, false), (5, false), (6, true)]) (.two [] 3 5 (.seq [(5, false), (6, true)]) (.seq [(3, false), (6, true)]))) (.two [] 1 4 (.seq [(4, false), (5, false), (6, true)]) (.seq [(1, false), (5, false), (6, true)])) (.two [] 1 3 (.two [] 3 5 (.seq [(5, false), (6, true)]) (.seq [(3, false), (6, true)])) (.seq [(1, false), (5, false), (6, true)]))) fun K hK => ?_
 suffices out : ∀ go gf gs w2, Heap w1 [] w2 [zarr go n, zarr gf n, Res.blk gs 36 [zsl go n]] -> K [(0, Str l), (3, ptr gn), (4, ptr gs), (5, zsl gf n)] w2 by
  simp only [vcT3, Qa9, List.filterMap_cons, List.filterMap_nil, List.getElem?_cons_succ, List.getElem?_cons_zero, Option.map_some];refine Qs ?_
  refine ⟨_, Qaf (hH.at 0 rfl) rfl, _, Qaf (hH.at 0 rfl) rfl, ?_⟩
  have hX := Heap.start w1
  repeat' (first
   | (refine Qbw Tryz.underlying36 zi3 ?_;refine Qs ?_;refine ⟨n, n, ⟨rfl, rfl, by omega, by omega, by omega⟩, ?_⟩;have hX := QDp hX n (by omega);skip;refine ⟨hX.ext, ?_⟩;skip)
   | (refine Qal (.slice none 0 0) (by kernel_rfl) ?_;refine Qs ?_;have hX := hX.box 36 [.slice none 0 0];skip;refine ⟨hX.ext, ?_⟩;skip)
   | (refine Qab ?_;refine Qs ?_;first
     | (refine Qae hX 0 (vs := [_]) rfl rfl (by kernel_rfl) (by first | decide | (simp;done)) (by simp [Value.oneCell']) fun w6 hX => ?_;simp only [List.set_cons_zero, List.set_cons_succ] at hX;skip;refine ⟨hX.ext, ?_⟩;skip)
     | (refine Qae hX 1 (vs := [_]) rfl rfl (by kernel_rfl) (by first | decide | (simp;done)) (by simp [Value.oneCell']) fun w6 hX => ?_;simp only [List.set_cons_zero, List.set_cons_succ] at hX;skip;refine ⟨hX.ext, ?_⟩;skip)
     | (refine Qae hX 2 (vs := [_]) rfl rfl (by kernel_rfl) (by first | decide | (simp;done)) (by simp [Value.oneCell']) fun w6 hX => ?_;simp only [List.set_cons_zero, List.set_cons_succ] at hX;skip;refine ⟨hX.ext, ?_⟩;skip))
   | (simp only [QDq];skip)
   | refine And.intro ?_ ?_)
  all_goals first
   | exact out _ _ _ _ hX
   | exact out _ _ _ _ (hX.front 1 rfl)
   | exact out _ _ _ _ (hX.front 2 rfl)
   | exact out _ _ _ _ ((hX.front 1 rfl).front 2 rfl)
   | exact out _ _ _ _ ((hX.front 2 rfl).front 2 rfl)
   | exact out _ _ _ _ ((hX.front 2 rfl).front 1 rfl)
 intro go gf gs w2 hX
 have hH2 := hH.call0 hX
 simp only [List.set_cons_zero, List.cons_append, List.nil_append] at hH2
 have hG : Heap w [] w2 [zarr go n, zarr gf n, Res.blk gs 36 [zsl go n], Res.blk gn 3 [.int .i64 n]] := hH2
 clear hX hH hH2
 apply hK;clear hK
 refine VQ [0, 3, 4, 5, 16, 17] fun K hK => ?_
 refine ⟨_, Qaf (hG.at 3 rfl) rfl, ?_⟩
 apply hK;clear hK
 refine Qag ?_
 refine Qaj [0, 3, 4, 5, 16, 17] (fun m e w' => ∃ (i : Nat) (D F : Array Int), Is e [(0, Str l), (3, ptr gn), (4, ptr gs), (5, zsl gf n), (16, .int .i64 n), (17, .int .i64 i)] /\ Heap w [] w' [arr go n D, arr gf n F, Res.blk gs 36 [zsl go n], Res.blk gn 3 [.int .i64 n]] /\ D.size = n /\ F.size = n /\ i <= n /\ (∀ p, p < i -> D[p]! = p /\ F[p]! = (l.getD p 0).toNat) /\ m = n - i) n ?_ ?_
 ·
  refine Qs ?_
  exact ⟨0, _, _, rfl, hG, by simp, by simp, by omega, fun p hp => by omega, rfl⟩
 clear hG
 rintro m e w3 ⟨i, D, F, rfl, hH, hD, hF, hi, hDF, hm⟩
 refine VS [0, 3, 4, 5, 16, 17, 18] ?_
 (repeat refine Qaw ?_)
 refine VD (fun h => ?_) (fun h => ?_)
 ·
  refine Qac ?_
  refine VB ?_
  refine VS [0, 3, 4, 5, 6, 16, 17] ?_
  refine Vb [0, 3, 4, 5, 16, 17] [(1, 0), (2, 0), (3, 0), (4, 0), (5, 0), (6, 0), (7, 0), (8, 0), (0, 1), (9, 0), (10, 2), (11, 0), (12, 2)] fun K hK => ?_
  rw [hn]
  have hb := (l.getD i 0).toNat_lt
  refine ⟨⟨by omega, by omega⟩, I64.mk (by omega) (by omega), _, Qaf (hH.at 2 rfl) rfl, ?_⟩
  refine Qs ?_
  refine Qo ?_
  refine Qab ?_;refine Qs ?_;refine Qa2 hH 0 (o := (i)) rfl (by first | rfl | (simp;done) | (congr 1;omega)) (by first | omega | (simp;omega)) fun w6 hS1 => ?_;simp only [List.set_cons_zero] at hS1;(try refine Qs ?_)
  refine Qo ?_
  refine Qab ?_
  refine Qs ?_
  refine Qa2 hS1 1 (o := i) rfl rfl (by omega) fun w7 hS2 => ?_
  simp only [List.set_cons_succ, List.set_cons_zero] at hS2
  apply hK;clear hK
  refine Qar ?_
  refine VS [0, 3, 4, 5, 16, 17] ?_
  refine Qad ?_
  refine Qs ?_
  refine ⟨n - (i + 1), by omega, i + 1, _, _, rfl, hS2, by simp [hD], by simp [hF], by omega, fun p hp => ?_, rfl⟩
  rw [Qhy _ _ _ (by omega), Qhy _ _ _ (by omega)]
  by_cases hpi : p = i
  ·
   subst hpi;simp
  ·
   rw [if_neg hpi, if_neg hpi];exact hDF p (by omega)
 ·
  obtain rfl : i = n := by omega
  refine Qak rfl ?_
  have hDl : D.toList = Qe2 i := by
   apply List.ext_getElem
   ·
    simp [Qe2, hD]
   ·
    intro p h1 h2
    have h3 := (hDF p (by simpa [hD] using h1)).1
    rw [Qfc (by simpa using h1)] at h3
    rw [h3];simp [Qe2]
  have hFl : ∀ p, p < i -> F.toList.getD p 0 = (l.getD p 0).toNat := fun p hp => by rw [Qd4];exact (hDF p hp).2
  have hFn : F.toList.length = l.length := by rw [hn];simpa using hF
  clear hDF
  refine VQ [3, 4, 5, 33] fun K hK => ?_
  refine ⟨_, Qaf (hH.at 3 rfl) rfl, ?_⟩
  refine Qs ?_
  apply hK;clear hK
  refine VD (fun h => ?_) (fun h => ?_)
  ·
   obtain rfl : i = 0 := by omega
   obtain rfl : l = [] := List.eq_nil_of_length_eq_zero hn
   refine VQ [2] fun K hK => ?_
   refine ⟨_, Qaf (hH.at 2 rfl) rfl, ?_⟩
   apply hK;clear hK
   refine Qah (Qat rfl rfl ?_)
   refine ⟨go, [], ⟨by simp, .nil⟩, ?_, rfl⟩
   have h5 : Heap w [] w3 [arr go 0 D] := hH.sub (by simp)
   rw [arr, hD, hDl] at h5
   exact h5
  have hn0 : 0 < i := by omega
  generalize i = n at *
  refine Qac ?_
  refine VS [3, 4, 5, 7] ?_
  have hrk0 : Ranks l F.toList 1 := by
   refine ⟨hFn, fun p q hp hq => ?_⟩
   rw [hFl p (by omega), hFl q (by omega)]
   have h1 : ∀ r, r < l.length -> pre l 1 r = [l.getD r 0] := fun r hr => by simp [pre, List.range_succ, Nat.mod_eq_of_lt hr]
   rw [h1 p hp, h1 q hq]
   simp only [leB]
   by_cases e : l.getD p 0 = l.getD q 0
   ·
    rw [if_pos e, e];simp
   ·
    rw [if_neg e, decide_eq_true_eq]
    have : (l.getD p 0).toNat ≠ (l.getD q 0).toNat := fun h' => e (UInt8.toNat_inj.1 h')
    omega
  have hok0 : Qky F.toList := by
   intro r hr
   obtain ⟨p, hp, rfl⟩ := List.getElem_of_mem hr
   have h1 := hFl p (by rw [hFn, hn] at hp;exact hp)
   rw [List.getD_eq_getElem?_getD, List.getElem?_eq_getElem hp, Option.getD_some] at h1
   have := (l.getD p 0).toNat_lt
   omega
  refine VQ [3, 4, 7, 8] fun K hK => ?_
  refine Qal (.agg #[.slice none 0 0, .int .i64 0]) (by kernel_rfl) ?_
  refine Qs ?_
  have hH1 := hH.box 166 [.slice none 0 0, .int .i64 0]
  generalize w3.alloc (Obj.cells [Value.slice none 0 0, .int .i64 0].toArray 166) = w4 at *
  generalize w3.heap.size = gr at *
  refine Qab ?_;refine Qs ?_;refine Qae hH1 0 (vs := [.slice (some ⟨gf, 0, none⟩) n n, .int .i64 0]) rfl rfl (by kernel_rfl) (by first | decide | (simp;done) | (simp;omega)) (by simp [Value.oneCell']) fun w6 hH2 => ?_;(try refine Qs ?_)
  have hH3 : Heap w [] w6 (arr go n D :: Qpp gf n F.toList :: Res.blk gn 3 [.int .i64 n] :: Res.blk gs 36 [zsl go n] :: [Res.blk gr 166 [.slice (some ⟨gf, 0, none⟩) F.toList.length n, .int .i64 (0 : Nat)]]) := by
   rw [show F.toList.length = n by rw [hFn, hn]]
   have h7 := (((hH2.front 3 rfl).front 4 rfl).front 4 rfl).front 4 rfl
   rw [Qpp, show F.toList.length = n by rw [hFn, hn]]
   simp only [arr, hF, List.eraseIdx_cons_succ, List.eraseIdx_cons_zero] at h7
   simp only [arr]
   exact h7
  clear hH hH1 hH2
  apply hK;clear hK
  refine VS [3, 4, 7, 8, 9] ?_
  refine Qag ?_
  refine Qaj [3, 4, 7, 8, 9] (fun m e w' => ∃ (b by_ gk ck : Nat) (rk : List Int) (D : Array Int), Is e [(3, ptr gn), (4, ptr gs), (7, .func (.func 125) #[] #[ptr gn, ptr gs]), (8, ptr gr), (9, .int .i64 b)] /\ Heap w [] w' (arr go n D :: Qpp gk ck rk :: Res.blk gn 3 [.int .i64 n] :: Res.blk gs 36 [zsl go n] :: [Res.blk gr 166 [.slice (some ⟨gk, 0, none⟩) rk.length ck, .int .i64 by_]]) /\ D.size = n /\ D.toList.Perm (Qe2 n) /\ LeK l rk by_ b /\ Qky rk /\ rk.length = n /\ 1 <= b /\ b <= 2 * n /\ by_ <= b /\ m = 2 * n - b) (2 * n - 1) ?_ ?_
  ·
   refine Qs ?_
   exact ⟨1, 0, gf, n, F.toList, D, rfl, hH3, hD, by rw [hDl], LeK.first hrk0, hok0, by rw [hFn, hn], by omega, by omega, by omega, rfl⟩
  clear hH3 hrk0 hok0 hFl hFn hDl hD hF
  rintro m e w4 ⟨b, by_, gk, ck, rk, D1, rfl, hH, hD1, hp1, hk1, hok1, hrl1, hb1, hb2, hby, hm⟩
  refine VB ?_
  have hQ1 : AllQ (inR rk) D1 := fun k hk => by
   have h1 := Qxb hp1 (p := k) (by simpa using hk)
   rw [Qd4] at h1
   exact ⟨h1.1, by rw [hrl1];exact h1.2⟩
  refine VQ [3, 4, 7, 8, 9] fun K hK => ?_
  refine ⟨_, Qaf (hH.at 3 rfl) rfl, [.slice (some ⟨gk, 0, none⟩) rk.length ck, .int .i64 by_], ⟨rfl, Qa1 (hH.at 4 rfl)⟩, ?_⟩
  have hc := Qkx (Qys rk hok1 gk ck by_ (by omega) (by omega)) (Qyt rk by_) go n D1 (by omega) hQ1 w w4 [] _ hH
  rw [sl, hD1] at hc
  refine Qaa Tryz.call127 ?_;refine Qs ?_;refine CallK.mk hc ?_
  clear hc hH
  rintro v w5 ⟨D2, hsrt, hD2, hQ2, hH, rfl⟩
  have hp2 := hsrt.1.trans hp1
  have hrow := QG6 hsrt.2
  apply hK;clear hK
  refine VQ [3, 4, 7, 8, 9] fun K hK => ?_
  refine ⟨[.slice (some ⟨gk, 0, none⟩) rk.length ck, .int .i64 by_], ⟨rfl, Qa1 (hH.at 4 rfl)⟩, ?_⟩
  have hc := QA8 rk gk ck by_ go n gn gs D2 hok1 (by omega) (by omega) (by omega) (by omega) (by rw [hD2];exact hp2) w w5 [] _ (by rw [sl, hD2];exact hH)
  rw [hD2] at hc
  refine Qbg ?_
  refine Qs ?_
  refine FnK.mk Tryz.call125 hc ?_
  clear hc hH
  rintro v w6 ⟨gx, nx, hnx, hrs, hH, rfl⟩
  have hrk2 : Ranks l nx.toList b := QA7 hk1 (by rw [hn];exact hp2) hrow (by rw [hn];simpa using hnx) fun p hp => by
   rw [Qd4, Qd4];exact hrs p (by omega)
  have hok2 : Qky nx.toList := Qxc (s := l) (rk := rk) (by_ := by_) (L := D2.toList) (by rw [hn];exact hp2) (by rw [hn];simpa using hnx) (by omega) fun p hp => by
   rw [Qd4, Qd4];exact hrs p (by omega)
  have hnl : nx.toList.length = n := by simpa using hnx
  simp only [sl, hnx, hD2] at hH ⊢
  refine Qs ?_
  refine Qab ?_;refine Qs ?_;refine Qae hH 5 (vs := [.slice (some ⟨gx, 0, none⟩) n n, .int .i64 b]) rfl rfl (by kernel_rfl) (by first | decide | (simp;done) | (simp;omega)) (by simp [Value.oneCell']) fun w6 hH2 => ?_;(try refine Qs ?_)
  simp only [List.set_cons_succ, List.set_cons_zero] at hH2
  have hH3 : Heap w [] w6 (arr go n D2 :: Qpp gx n nx.toList :: Res.blk gn 3 [.int .i64 n] :: Res.blk gs 36 [zsl go n] :: [Res.blk gr 166 [.slice (some ⟨gx, 0, none⟩) nx.toList.length n, .int .i64 b]]) := by
   rw [show nx.toList.length = n from hnl]
   exact (hH2.front 1 rfl).sub (by simp)
  clear hH hH2
  apply hK;clear hK
  have hk2 : LeK l nx.toList b (b + b) := LeK.double hrk2
  refine VQ [3, 4, 7, 8, 9, 51] fun K hK => ?_
  refine ⟨_, Qaf (hH3.at 2 rfl) rfl, ?_⟩
  refine Qs ?_
  apply hK;clear hK
  refine VD (fun h => ?_) (fun h => ?_)
  ·
   have hQ3 : AllQ (inR nx.toList) D2 := fun k hk => by
    have h1 := Qxb hp2 (p := k) (by simpa using hk)
    rw [Qd4] at h1
    exact ⟨h1.1, by rw [hnl];exact h1.2⟩
   refine VQ [4] fun K hK => ?_
   refine ⟨_, Qaf (hH3.at 3 rfl) rfl, [.slice (some ⟨gx, 0, none⟩) nx.toList.length n, .int .i64 b], ⟨rfl, Qa1 (hH3.at 4 rfl)⟩, ?_⟩
   have hc := Qkx (Qys nx.toList hok2 gx n b (by omega) (by omega)) (Qyt nx.toList b) go n D2 (by omega) hQ3 w w6 [] _ hH3
   rw [sl, hD2] at hc
   refine Qaa Tryz.call127 ?_;refine Qs ?_;refine CallK.mk hc ?_
   clear hc hH3
   rintro v w7 ⟨D3, hsrt3, hD3, hQ3', hH, rfl⟩
   have hp3 := hsrt3.1.trans hp2
   apply hK;clear hK
   refine VQ [2] fun K hK => ?_
   refine ⟨_, Qaf (hH.at 3 rfl) rfl, ?_⟩
   apply hK;clear hK
   refine Qah (Qat rfl rfl ?_)
   have ho := Qxd hk2 (by omega) (by rw [hn];exact hp3) hsrt3.2
   refine ⟨go, D3.toList.map Int.toNat, ho, ?_, rfl⟩
   have e : (D3.toList.map Int.toNat).map (fun i : Nat => (i : Int)) = D3.toList := by
    rw [List.map_map]
    conv => rhs;rw [<- List.map_id D3.toList]
    apply List.map_congr_left
    intro x hx
    have := hp3.mem_iff.1 hx
    simp only [Qe2, List.mem_map, List.mem_range] at this
    obtain ⟨i, _, rfl⟩ := this
    simp
   rw [e]
   have h5 : Heap w [] w7 [arr go n D3] := hH.sub (by simp)
   rw [arr, show D3.size = n by omega] at h5
   exact h5
  refine Qac ?_
  refine Qar ?_
  refine VS [3, 4, 7, 8, 9] ?_
  refine Qad ?_
  refine Qs ?_
  refine ⟨2 * n - (b + b), by omega, b + b, b, gx, n, nx.toList, D2, by rw [show ((b : Int) * 2) = ((b + b : Nat) : Int) by omega];rfl, hH3, by omega, hp2, hk2, hok2, hnl, by omega, by omega, by omega, rfl⟩
def QDr (l : List UInt8) (v : Value) : Prop :=
 if l = [] then v = .tuple #[Str [], .int .i64 0, .int .i64 2]
 else if 262144 < l.length then v = .tuple #[Str [], .int .i64 0, .int .i64 3]
 else ∃ σ, Ordered l σ /\ v = .tuple #[Str (Qbs l σ), .int .i64 (σ.idxOf 0 : Nat), .int .i64 0]
theorem Quq (l : List UInt8) (hl : l.length <= 1000000000000) (w : World) : Does Tryz.prog 30 #[Str l] w fun v w' => Heap w [] w' [] /\ QDr l v := by
 refine En [Str l] 41 Tryz.func30 ?_
 refine VS [0] ?_
 refine VS [0, 10] ?_
 refine VD (fun h => ?_) (fun h => ?_)
 ·
  refine VS [2, 3, 4] ?_
  exact Qah (Qcj rfl rfl rfl rfl ⟨Heap.start w, by rw [QDr, if_pos h]⟩)
 have hne := h
 refine Qac ?_
 refine VS [0, 13] ?_
 refine VD (fun h => ?_) (fun h => ?_)
 ·
  refine VS [2, 3, 4] ?_
  exact Qah (Qcj rfl rfl rfl rfl ⟨Heap.start w, by rw [QDr, if_neg hne, if_pos (by omega)]⟩)
 have hle : l.length <= 262144 := by omega
 have hn0 : 0 < l.length := List.length_pos_iff.2 hne
 clear h
 generalize hn : l.length = n at *
 refine Qac ?_
 refine VQ [0, 5, 6] fun K hK => ?_
 rw [hn]
 refine Qbw Tryz.underlying43 zi5 ?_
 refine Qs ?_
 refine ⟨n, n, ⟨rfl, rfl, by omega, by omega, by omega⟩, ?_⟩
 have hH0 := (Heap.start w).row 5 (n := n) (cap := n) (sz := 1) (List.replicate n (.int .u8 0)) [] (by simp) (by simp) (by omega) (by omega)
 rw [List.append_nil, show List.replicate n (Value.int .u8 0) = Qao (List.replicate n 0) by simp [Qao]] at hH0
 rw [show List.replicate n (Value.int .u8 0) = Qao (List.replicate n 0) by simp [Qao]]
 generalize w.alloc (Obj.cells (Qao (List.replicate n 0)).toArray 5) = w1 at *
 generalize w.heap.size = gb at *
 apply hK;clear hK
 refine VQ [0, 5, 6, 18, 19, 20] fun K hK => ?_
 have hc := QA9 l (by omega) w1
 rw [hn] at hc
 refine Qaa Tryz.call72 ?_;refine Qs ?_;refine CallK.mk hc ?_
 clear hc
 rintro v w2 ⟨go, σ, hσ, hX, rfl⟩
 have hH1 := hH0.call0 hX
 simp only [List.cons_append, List.nil_append] at hH1
 have hσl : σ.length = n := by rw [hσ.perm.length_eq, List.length_range, hn]
 have hσb : ∀ p, p < n -> σ.getD p 0 < n := fun p hp => by
  have h1 : σ.getD p 0 ∈ σ := Qbq 0 (by omega)
  have := hσ.perm.mem_iff.1 h1
  rw [List.mem_range, hn] at this
  exact this
 have hnd : σ.Nodup := by rw [hσ.perm.nodup_iff];exact List.nodup_range
 have h0σ : 0 ∈ σ := hσ.perm.mem_iff.2 (by rw [List.mem_range];omega)
 have hcl : (Qbs l σ).length = n := by simp [Qbs, hσl]
 have hcg : ∀ p, p < n -> (Qbs l σ).getD p 0 = l.getD (Qfd n (σ.getD p 0)) 0 := fun p hp => by
  simp only [Qbs, List.getD_eq_getElem?_getD, List.getElem?_map, hn]
  rw [List.getElem?_eq_getElem (by omega)]
  simp
 refine Qs ?_
 apply hK;clear hK
 refine Qag ?_
 refine Qaj [0, 5, 6, 18, 19, 20] (fun m e w' => ∃ (k r : Nat) (o : List UInt8), Is e [(0, Str l), (5, .slice (some ⟨gb, 0, none⟩) n n), (6, .int .i64 r), (18, .slice (some ⟨go, 0, none⟩) n n), (19, .int .i64 n), (20, .int .i64 k)] /\ Heap w [] w' [Res.row 3 1 (some ⟨go, 0, none⟩) n n (Qbn (σ.map fun i : Nat => (i : Int))), Res.row 5 1 (some ⟨gb, 0, none⟩) n n (Qao o)] /\ o.length = n /\ k <= n /\ o.take k = (Qbs l σ).take k /\ (0 ∈ σ.take k -> r = σ.idxOf 0) /\ m = n - k) n ?_ ?_
 ·
  refine Qs ?_
  exact ⟨0, 0, _, rfl, hH1, by simp, by omega, by simp, by simp, rfl⟩
 clear hH0 hX hH1
 rintro m e w3 ⟨k, r, o, rfl, hH, hol, hk, ho, hr, hm⟩
 refine VS [0, 5, 6, 18, 19, 20, 21] ?_
 (repeat refine Qaw ?_)
 refine VD (fun h => ?_) (fun h => ?_)
 ·
  have hkn : k < n := by omega
  have hsk := hσb k hkn
  have hgk : (σ.map fun i : Nat => (i : Int)).getD k 0 = ((σ.getD k 0 : Nat) : Int) := by
   simp only [List.getD_eq_getElem?_getD, List.getElem?_map]
   rw [List.getElem?_eq_getElem (by omega)];simp
  refine Qac ?_
  refine VB ?_
  refine VQ [0, 5, 6, 7, 8, 18, 19, 20] fun K hK => ?_
  refine And.intro ⟨by omega, by omega⟩ ⟨_, Qba (hH.at 0 rfl) (Qdi (by simp;omega)), ?_⟩
  rw [hgk]
  apply hK;clear hK
  refine VS [0, 5, 6, 7, 8, 18, 19, 20, 26] ?_
  have htk : σ.take (k + 1) = σ.take k ++ [σ.getD k 0] := by
   rw [List.take_add_one, List.getElem?_eq_getElem (by omega), List.getD_eq_getElem?_getD, List.getElem?_eq_getElem (by omega)];rfl
  refine Qdb [0, 5, 6, 7, 8, 18, 19, 20] (fun e w' => ∃ (r' : Nat), Is e [(0, Str l), (5, .slice (some ⟨gb, 0, none⟩) n n), (6, .int .i64 r'), (7, .int .i64 k), (8, .int .i64 (Qfd n (σ.getD k 0) + 1 : Nat)), (18, .slice (some ⟨go, 0, none⟩) n n), (19, .int .i64 n), (20, .int .i64 k)] /\ Is w' w3 /\ (0 ∈ σ.take (k + 1) -> r' = σ.idxOf 0)) ?_ ?_
  ·
   refine VD (fun h => ?_) (fun h => ?_)
   ·
    have hz : σ.getD k 0 = 0 := by omega
    refine VS [0, 5, 6, 7, 18, 19, 20] ?_
    refine VQ [0, 5, 6, 7, 8, 18, 19, 20] fun K hK => ?_
    rw [hn]
    apply hK;clear hK
    refine Qad ?_
    refine Qs ?_
    refine ⟨k, by rw [hz, show Qfd n 0 + 1 = n by unfold Qfd;rw [if_pos rfl];omega];rfl, rfl, fun _ => ?_⟩
    have h1 := hnd.idxOf_getElem k (by omega)
    rw [List.getD_eq_getElem?_getD, List.getElem?_eq_getElem (by omega), Option.getD_some] at hz
    rw [hz] at h1
    exact h1.symm
   ·
    have hz : σ.getD k 0 ≠ 0 := by omega
    refine Qac ?_
    refine Qad ?_
    refine Qs ?_
    refine ⟨r, by rw [show Qfd n (σ.getD k 0) + 1 = σ.getD k 0 by unfold Qfd;rw [if_neg hz];omega];rfl, rfl, fun h2 => hr ?_⟩
    rw [htk, List.mem_append] at h2
    rcases h2 with h2 | h2
    ·
     exact h2
    ·
     exact absurd (List.mem_singleton.1 h2).symm hz
  rintro e w4 ⟨r', rfl, rfl, hr'⟩
  have hah : Qfd n (σ.getD k 0) < n := by unfold Qfd;split <;> omega
  have hcgk := hcg k hkn
  generalize Qfd n (σ.getD k 0) = at_ at *
  refine VQ [0, 5, 6, 18, 19, 20] fun K hK => ?_
  rw [hn, show ((at_ + 1 : Nat) : Int) - 1 = (at_ : Int) by omega]
  rw [Nat.add_sub_cancel]
  refine ⟨I64.mk (by omega) (by omega), ⟨by omega, by omega⟩, ⟨by omega, by omega⟩, ?_⟩
  refine Qab ?_;refine Qs ?_;refine Qbf hH 1 (o := (k)) (vs := [.int .u8 (l.getD at_ 0).toNat]) rfl (by first | exact (Qbp _ _ _).symm | rfl | simp [Qbp]) rfl (by kernel_rfl) (by first | omega | (simp;omega) | (simp [Qao, Qbn];omega) | (rw [natsV_len];simp;omega)) (by simp [Value.oneCell']) fun w6 hH2 => ?_;(try refine Qs ?_)
  simp only [List.length_singleton, Qb2 (Qao o) _ _ (show k < (Qao o).length by rw [Qfo];omega), Qi9, List.set_cons_zero, List.set_cons_succ] at hH2
  apply hK;clear hK
  refine Qar ?_
  refine VS [0, 5, 6, 18, 19, 20] ?_
  refine Qad ?_
  refine Qs ?_
  refine ⟨n - (k + 1), by omega, k + 1, r', o.set k (l.getD at_ 0), rfl, hH2, by simp [hol], by omega, ?_, hr', rfl⟩
  have e1 : (o.set k (l.getD at_ 0)).take (k + 1) = o.take k ++ [l.getD at_ 0] := by
   rw [List.take_add_one, List.getElem?_set_self (by omega), List.take_set_of_le (by omega)];rfl
  have e2 : (Qbs l σ).take (k + 1) = (Qbs l σ).take k ++ [(Qbs l σ).getD k 0] := by
   rw [List.take_add_one, List.getElem?_eq_getElem (by omega), List.getD_eq_getElem?_getD, List.getElem?_eq_getElem (by omega)];rfl
  rw [e1, e2, ho, hcgk]
 ·
  obtain rfl : k = n := by omega
  refine Qak rfl ?_
  rw [List.take_of_length_le (by omega), List.take_of_length_le (by omega)] at ho
  subst ho
  have hr2 := hr (by rw [List.take_of_length_le (by omega)];exact h0σ)
  subst hr2
  refine VQ [2, 3, 4] fun K hK => ?_
  refine ⟨Qbs l σ, Qf3 (by rw [<- hcl] at hH ⊢;exact Qa8 (hH.at 1 rfl)), ?_⟩
  apply hK;clear hK
  refine Qah (Qcj rfl rfl rfl rfl ?_)
  refine ⟨hH.sub (by simp), ?_⟩
  rw [QDr, if_neg hne, if_neg (by omega)]
  exact ⟨σ, hσ, rfl⟩
def cntB (L : List UInt8) (b k : Nat) : Nat := ((List.range k).filter fun i => (L.getD i 0).toNat == b).length
def Qgm (L : List UInt8) : Nat -> Nat
 | 0 => 0
 | b + 1 => Qgm L b + cntB L b L.length
def posB (L : List UInt8) (i : Nat) : Nat := Qgm L (L.getD i 0).toNat + cntB L (L.getD i 0).toNat i
theorem Qur (L : List UInt8) (b k : Nat) : cntB L b (k + 1) = cntB L b k + if (L.getD k 0).toNat = b then 1 else 0 := by
 unfold cntB
 rw [List.range_succ, List.filter_append, List.length_append]
 by_cases h : (L.getD k 0).toNat = b
 ·
  rw [List.filter_cons_of_pos (by rw [beq_iff_eq];exact h), if_pos h];rfl
 ·
  rw [List.filter_cons_of_neg (by rw [beq_iff_eq];exact h), if_neg h];rfl
theorem Qxe (L : List UInt8) (b k : Nat) : cntB L b k <= k := by
 unfold cntB
 exact Nat.le_trans (List.length_filter_le _ _) (by simp)
theorem Qyy (L : List UInt8) (b : Nat) : ((List.range b).flatMap fun b => (List.range L.length).filter fun i => (L.getD i 0).toNat == b).length = Qgm L b := by
 induction b with
 | zero => rfl
 | succ b ih => rw [List.range_succ, List.flatMap_append, List.length_append, ih];simp [Qgm, cntB]
theorem Qfe (L : List UInt8) (i : Nat) (hi : i < L.length) : (Qbh L)[posB L i]? = some i := by
 have hb := (L.getD i 0).toNat_lt
 obtain ⟨k, hk⟩ : ∃ k, 256 = (L.getD i 0).toNat + (k + 1) := ⟨256 - (L.getD i 0).toNat - 1, by omega⟩
 obtain ⟨j, hj⟩ : ∃ j, L.length = i + (j + 1) := ⟨L.length - i - 1, by omega⟩
 generalize hbb : (L.getD i 0).toNat = b at *
 have e : Qbh L = ((List.range b).flatMap fun b => (List.range L.length).filter fun i => (L.getD i 0).toNat == b) ++ (((List.range i).filter fun i => (L.getD i 0).toNat == b) ++ (i :: ((((List.range j).map Nat.succ).map (i + ·)).filter fun i => (L.getD i 0).toNat == b))) ++ ((((List.range k).map Nat.succ).map (b + ·)).flatMap fun b => (List.range L.length).filter fun i => (L.getD i 0).toNat == b) := by
  have e1 : List.range 256 = List.range b ++ (b :: ((List.range k).map Nat.succ).map (b + ·)) := by
   rw [hk, List.range_add, List.range_succ_eq_map];simp
  have e2 : List.range L.length = List.range i ++ (i :: ((List.range j).map Nat.succ).map (i + ·)) := by
   rw [hj, List.range_add, List.range_succ_eq_map];simp
  have e3 : ((List.range L.length).filter fun i => (L.getD i 0).toNat == b) = ((List.range i).filter fun i => (L.getD i 0).toNat == b) ++ (i :: ((((List.range j).map Nat.succ).map (i + ·)).filter fun i => (L.getD i 0).toNat == b)) := by
   rw [e2, List.filter_append, List.filter_cons_of_pos (by rw [beq_iff_eq];exact hbb)]
  unfold Qbh
  rw [e1, List.flatMap_append, List.flatMap_cons, e3, <- List.append_assoc]
 have hp : posB L i = Qgm L b + cntB L b i := by rw [posB, hbb]
 rw [e, hp, List.append_assoc, List.getElem?_append_right (by rw [Qyy];omega), Qyy, Nat.add_sub_cancel_left, List.append_assoc, List.getElem?_append_right (by rw [cntB];exact Nat.le_refl _)]
 rw [show cntB L b i - ((List.range i).filter fun i => (L.getD i 0).toNat == b).length = 0 by rw [cntB];omega]
 rfl
theorem QDs (L : List UInt8) (i : Nat) (hi : i < L.length) : posB L i < L.length := by
 have h := Qfe L i hi
 have hl : (Qbh L).length = L.length := by rw [(Qci L).length_eq, List.length_range]
 have := (List.getElem?_eq_some_iff.1 h).1
 omega
theorem QG8 (L : List UInt8) {i j : Nat} (hi : i < L.length) (hj : j < L.length) (h : posB L i = posB L j) : i = j := by
 have h1 := Qfe L i hi
 rw [h, Qfe L j hj] at h1
 exact (Option.some.inj h1).symm
theorem QDt (L : List UInt8) (P : List Nat) (hl : P.length = L.length) (h : ∀ i, i < L.length -> P.getD (posB L i) 0 = i) : P = Qbh L := by
 have hpl : (Qbh L).length = L.length := by rw [(Qci L).length_eq, List.length_range]
 have hnd : (Qbh L).Nodup := by rw [(Qci L).nodup_iff];exact List.nodup_range
 apply List.ext_getElem (by omega)
 intro p h1 h2
 have hm : (Qbh L)[p] < L.length := by
  have := (Qci L).mem_iff.1 (List.getElem_mem h2)
  simpa using this
 generalize hj : (Qbh L)[p] = j at *
 have h3 := Qfe L j hm
 obtain ⟨h4, h5⟩ := List.getElem?_eq_some_iff.1 h3
 have h6 : posB L j = p := (List.getElem_inj hnd).1 (by rw [h5, hj])
 have h7 := h j hm
 rw [h6, List.getD_eq_getElem?_getD, List.getElem?_eq_getElem h1, Option.getD_some] at h7
 exact h7
def tbl (g : Nat) (F : Array Int) : Res := Res.blk g 188 (Qbn F.toList)
theorem Qr8 {g : Nat} {F : Array Int} {w : World} (h : (tbl g F).holds w) {k : Nat} (hk : k < F.size) : w.cell? ⟨g, k, none⟩ = some (.int .i64 F[k]!) := by
 refine Qaf h ?_
 rw [Qdi (by simpa using hk), Qd4]
theorem Qlw {w0 w : World} {B : List Nat} {G : List Res} (hH : Heap w0 B w G) (i : Nat) {g o : Nat} {F : Array Int} {x : Int} {C : World -> Prop} (hi : G[i]? = some (tbl g F)) (ho : o < F.size)
  (h : ∀ w', Heap w0 B w' (G.set i (tbl g (F.setIfInBounds o x))) -> C w') : Qh7 Tryz.prog 3 (.pointer (some ⟨g, o, none⟩)) (.int .i64 x) w C := by
 refine Qae hH i (o := o) (vs := [.int .i64 x]) hi rfl (by kernel_rfl) (by rw [Qij];simp;omega) (by simp [Value.oneCell']) fun w' hw => h w' ?_
 have e : (Qbn F.toList).take o ++ [.int .i64 x] ++ (Qbn F.toList).drop (o + [Value.int .i64 x].length) = Qbn (F.setIfInBounds o x).toList := by
  rw [List.length_singleton, Qb2 (Qbn F.toList) _ _ (by rw [Qij];simpa using ho), Qtj, Array.toList_setIfInBounds]
 rw [e] at hw
 exact hw
theorem QDu : ∀ {l : List Value} {i : Nat} {v : Value} {K : Value -> Prop}, l[i]? = some v -> vNth l i K = K v
 | [], _, _, _, h => by simp at h
 | x :: l, 0, v, K, h => by simp at h;subst h;rfl
 | x :: l, i + 1, v, K, h => by rw [vNth];exact QDu (by simpa using h)
theorem QBa (D : Array Int) (gp cp gc p : Nat) (hp : p < D.size) (hD : D.size <= 1000000000000) (w0 w : World) (B : List Nat) (G : List Res) (hL : Heap w0 B w (arr gp cp D :: Res.blk gc 36 [sl gp cp D] :: G)) :
  Does Tryz.prog 152 #[.int .i64 p, ptr gc] w fun v w' => w' = w /\ v = .int .i64 D[p]! := by
 refine En [.int .i64 p, ptr gc] 8 Tryz.func152 ?_
 refine VQi [0, 1] fun K hK => ?_
 apply hK;clear hK
 refine VQi [3] fun K hK => ?_
 refine ⟨_, Qaf (hL.at 1 rfl) rfl, ?_⟩
 refine Qi ?_
 refine ⟨⟨by omega, by omega⟩, _, Qaz (hL.at 0 rfl) hp, ?_⟩
 apply hK;clear hK
 exact Qah (Qat rfl rfl ⟨rfl, rfl⟩)
abbrev QOz (gc : Nat) : Value := .func (.func 152) #[] #[ptr gc]
abbrev wblk (gw gc p : Nat) : Res := Res.blk gw 190 [QOz gc, .int .i64 p]
theorem QDv (D : Array Int) (gp cp gc gw p q : Nat) (hp : p < D.size) (hq : D[p]! = q) (hD : D.size <= 1000000000000) (w0 w : World) (B : List Nat) (G : List Res) (hL : Heap w0 B w (arr gp cp D :: Res.blk gc 36 [sl gp cp D] :: wblk gw gc p :: G)) :
  Does Tryz.prog 153 #[ptr gw] w fun v w' => Heap w0 B w' (arr gp cp D :: Res.blk gc 36 [sl gp cp D] :: wblk gw gc q :: G) /\ v = .int .i64 q := by
 refine En [ptr gw] 19 Tryz.func153 ?_
 refine VQi [0] fun K hK => ?_
 apply hK;clear hK
 (repeat refine Qaw ?_);refine Qlg [0] [(0, 0), (1, 0), (2, 0), (3, 0), (5, 0), (6, 0), (7, 0), (4, 1), (8, 1), (9, 2), (10, 0), (11, 0), (12, 2)] (by kernel_rfl) (by kernel_rfl) (by kernel_rfl) (by simp only [Qa9, List.map_cons, List.map_nil, beq_self_eq_true, Nat.reduceBEq, List.filterMap_cons, List.filterMap_nil, List.getElem?_cons_succ, List.getElem?_cons_zero, Option.map_some];rfl) fun K hK => ?_;refine Qi ?_
 refine ⟨_, Qaf (hL.at 2 rfl) rfl, _, Qaf (hL.at 2 rfl) rfl, ?_⟩
 refine Qbg ?_
 refine Qi ?_
 refine FnK.mk Tryz.call152 (QBa D gp cp gc p hp hD w0 w B _ hL) ?_
 rintro v w2 ⟨rfl, rfl⟩
 rw [hq]
 refine Qab ?_;refine Qi ?_;refine Qae hL 2 (vs := [.int .i64 q]) rfl rfl (by kernel_rfl) (by first | decide | (simp;done) | (simp;omega)) (by simp [Value.oneCell']) fun w6 hH2 => ?_;(try refine Qi ?_)
 apply hK;clear hK
 refine VQi [2] fun K hK => ?_
 refine ⟨_, Qaf (hH2.at 2 rfl) rfl, ?_⟩
 apply hK;clear hK
 exact Qah (Qat rfl rfl ⟨hH2, rfl⟩)
def bckS (L : List UInt8) (row : Int) : List UInt8 × Int :=
 if 262144 < L.length then ([], 3) else if row < 0 ∨ (L.length : Int) <= row then ([], 50) else (Qg1 L (Qbh L) L.length row.toNat, 0)
theorem QDw (L : List UInt8) (row : Int) (hr : I64 row) (hL : L.length <= 1000000000000) (w : World) : Does Tryz.prog 107 #[Str L, .int .i64 row] w
  fun v w' => Heap w [] w' [] /\ v = .tuple #[Str (bckS L row).1, .int .i64 (bckS L row).2] := by
 refine En [Str L, .int .i64 row] 96 Tryz.func107 ?_
 refine VQi [0, 1] fun K hK => ?_
 apply hK;clear hK
 refine VQi [0, 1, 18] fun K hK => ?_
 apply hK;clear hK
 refine VD (fun h => ?_) (fun h => ?_)
 ·
  refine VQi [4, 5] fun K hK => ?_
  apply hK;clear hK
  exact Qah (Qa4 rfl rfl rfl ⟨Heap.start w, by rw [bckS, if_pos (by omega)]⟩)
 have hle : L.length <= 262144 := by omega
 clear h
 refine Qac ?_
 refine VQi [0, 1, 26] fun K hK => ?_
 suffices out : ∀ b : Bool, (b = true ↔ (row < 0 ∨ (L.length : Int) <= row)) -> K [(0, Str L), (1, .int .i64 row), (26, .bool b)] w by (repeat' (first | exact out _ _ (by first | omega | (simp;done) | (simp;omega)) | exact out _ (by first | omega | (simp;done) | (simp;omega)) | refine ⟨fun _ => ?_, fun _ => ?_⟩ | refine Qo ?_))
 intro b hb
 apply hK;clear hK
 refine Qai rfl rfl (fun h => ?_) (fun h => ?_)
 ·
  refine VQi [4, 5] fun K hK => ?_
  apply hK;clear hK
  exact Qah (Qa4 rfl rfl rfl ⟨Heap.start w, by rw [bckS, if_neg (by omega), if_pos (hb.1 h)]⟩)
 have hb2 : ¬ (row < 0 ∨ (L.length : Int) <= row) := fun h2 => by have := hb.2 h2;simp_all
 have hbs : bckS L row = (Qg1 L (Qbh L) L.length row.toNat, 0) := by rw [bckS, if_neg (by omega), if_neg hb2]
 rw [hbs]
 obtain ⟨p0, rfl⟩ : ∃ p : Nat, row = p := ⟨row.toNat, by omega⟩
 rw [Int.toNat_natCast]
 have hp0 : p0 < L.length := by omega
 clear hb hb2 hbs h hr
 refine Qac ?_
 generalize hn : L.length = n at *
 refine VQi [0, 1, 6] fun K hK => ?_
 refine Qal (.agg (Qbn (List.replicate 256 0)).toArray) (by kernel_rfl) ?_
 refine Qi ?_
 have hH0 : Heap w [] (w.alloc (Obj.cells (Qbn (List.replicate 256 0)).toArray 188)) [tbl w.heap.size (Array.replicate 256 0)] := by
  have h := (Heap.start w).box 188 (Qbn (List.replicate 256 0))
  rw [tbl, Array.toList_replicate]
  exact h
 generalize w.alloc (Obj.cells (Qbn (List.replicate 256 0)).toArray 188) = w1 at *
 generalize w.heap.size = gf at *
 have hb8 : ∀ k, (L.getD k 0).toNat < 256 := fun k => (L.getD k 0).toNat_lt
 have hst : ∀ b, Qgm L b <= b * 262144 := fun b => by
  induction b with
  | zero => simp [Qgm]
  | succ b ih => have := Qxe L b L.length;simp only [Qgm];omega
 apply hK;clear hK
 refine VQi [0, 1, 6, 28, 29] fun K hK => ?_
 apply hK;clear hK
 rw [hn]
 refine Qag ?_
 refine Qaj [0, 1, 6, 28, 29] (fun m e w' => ∃ (k : Nat) (F : Array Int), Is e [(0, Str L), (1, .int .i64 p0), (6, ptr gf), (28, .int .i64 n), (29, .int .i64 k)] /\ Heap w [] w' [tbl gf F] /\ F.size = 256 /\ k <= n /\ (∀ b, b < 256 -> F[b]! = cntB L b k) /\ m = n - k) n ?_ ?_
 ·
  refine Qi ?_
  exact ⟨0, _, rfl, hH0, by simp, by omega, fun b _ => by rw [Qup];rfl, rfl⟩
 clear hH0
 rintro m e w2 ⟨k, F, rfl, hH, hF, hk, hFk, hm⟩
 refine VQi [0, 1, 6, 28, 29, 30] fun K hK => ?_
 apply hK;clear hK
 (repeat refine Qaw ?_)
 refine VD (fun h => ?_) (fun h => ?_)
 ·
  refine Qac ?_
  ((repeat refine Qaw ?_);refine Qag ?_)
  refine VQi [0, 1, 6, 7, 28, 29] fun K hK => ?_
  apply hK;clear hK
  have hb := hb8 k
  have hc := hFk _ hb
  have hcl := Qxe L (L.getD k 0).toNat k
  have hcs := fun b => Qur L b k
  generalize hbk : (L.getD k 0).toNat = bk at *
  refine VQi [0, 1, 6, 28, 29] fun K hK => ?_
  rw [hn, hbk]
  refine ⟨⟨by omega, by omega⟩, ⟨by omega, by omega⟩, _, Qr8 (hH.at 0 rfl) (by omega), ?_⟩
  rw [hc]
  refine Qi ?_
  refine ⟨I64.mk (by omega) (by omega), ⟨by omega, by omega⟩, ?_⟩
  refine Qab ?_
  refine Qi ?_
  refine Qlw hH 0 (o := bk) rfl (by omega) fun w6 hH2 => ?_
  simp only [List.set_cons_zero] at hH2
  apply hK;clear hK
  refine Qar ?_
  refine VQi [0, 1, 6, 28, 29] fun K hK => ?_
  (repeat refine Qo ?_);apply hK;clear hK
  refine Qad ?_
  refine Qi ?_
  refine ⟨n - (k + 1), by omega, k + 1, _, rfl, hH2, by simp [hF], by omega, fun b hb2 => ?_, rfl⟩
  rw [Qhy _ _ _ (by omega), hcs b]
  by_cases e : b = bk
  ·
   subst e;simp
  ·
   rw [if_neg e, if_neg (Ne.symm e), hFk b hb2];simp
 obtain rfl : k = n := by omega
 refine Qak rfl ?_
 generalize k = n at *
 refine VQi [0, 1, 6, 8] fun K hK => ?_
 apply hK;clear hK
 refine VQi [0, 1, 6, 8, 40, 41] fun K hK => ?_
 refine ⟨Qbn F.toList, ⟨by rw [Qij];simpa using hF, Qa1 (hH.at 0 rfl)⟩, ?_⟩
 apply hK;clear hK
 refine Qag ?_
 refine Qaj [0, 1, 6, 8, 40, 41] (fun m e w' => ∃ (b : Nat) (F' : Array Int), Is e [(0, Str L), (1, .int .i64 p0), (6, ptr gf), (8, .int .i64 (Qgm L b)), (40, .agg (Qbn F.toList).toArray), (41, .int .i64 b)] /\ Heap w [] w' [tbl gf F'] /\ F'.size = 256 /\ b <= 256 /\ (∀ c, c < b -> F'[c]! = Qgm L c) /\ m = 256 - b) 256 ?_ ?_
 ·
  refine Qi ?_
  exact ⟨0, F, rfl, hH, hF, by omega, fun c hc => by omega, rfl⟩
 clear hH
 rintro m e w3 ⟨b, F1, rfl, hH, hF1, hb, hFb, hm⟩
 refine VQi [0, 1, 6, 8, 40, 41, 42] fun K hK => ?_
 apply hK;clear hK
 (repeat refine Qaw ?_)
 refine VD (fun h => ?_) (fun h => ?_)
 ·
  have hc := hFk b (by omega)
  have hcl := Qxe L b n
  have hsb := hst b
  have hsb1 := hst (b + 1)
  refine Qac ?_
  ((repeat refine Qaw ?_);refine Qag ?_)
  refine VQi [0, 1, 6, 8, 9, 10, 40, 41] fun K hK => ?_
  have hvn : vNth (Qbn F.toList) b = fun K => K (.int .i64 F[b]!) := by
   funext K
   exact QDu (by rw [Qdi (by simp;omega), Qd4])
  rw [hvn]
  dsimp only
  rw [hc]
  refine ⟨⟨by omega, by omega⟩, ?_⟩
  apply hK;clear hK
  refine VQi [0, 1, 6, 8, 10, 40, 41] fun K hK => ?_
  refine ⟨⟨by omega, by omega⟩, ?_⟩
  refine Qab ?_
  refine Qi ?_
  refine Qlw hH 0 (o := b) rfl (by omega) fun w6 hH2 => ?_
  simp only [List.set_cons_zero] at hH2
  apply hK;clear hK
  refine VQi [0, 1, 6, 8, 40, 41] fun K hK => ?_
  (repeat refine Qo ?_);apply hK;clear hK
  refine Qar ?_
  refine VQi [0, 1, 6, 8, 40, 41] fun K hK => ?_
  (repeat refine Qo ?_);apply hK;clear hK
  refine Qad ?_
  refine Qi ?_
  refine ⟨256 - (b + 1), by omega, b + 1, _, by rw [show ((Qgm L b : Int) + (cntB L b n : Nat)) = ((Qgm L (b + 1) : Nat) : Int) by rw [Qgm, hn];omega];rfl, hH2, by simp [hF1], by omega, fun c hc => ?_, rfl⟩
  rw [Qhy _ _ _ (by omega)]
  by_cases e : c = b
  ·
   subst e;simp
  ·
   rw [if_neg e];exact hFb c (by omega)
 obtain rfl : b = 256 := by omega
 refine Qak rfl ?_
 clear hFk hF
 refine VQi [0, 1, 6, 11] fun K hK => ?_
 rw [hn]
 refine Qbw Tryz.underlying36 zi3 ?_
 refine Qi ?_
 refine ⟨n, n, ⟨rfl, rfl, by omega, by omega, by omega⟩, ?_⟩
 have hH1 := QDp hH n (by omega)
 generalize w3.alloc (Obj.cells (List.replicate n (Value.int .i64 0)).toArray 3) = w4 at *
 generalize w3.heap.size = gp at *
 refine Qal (.slice none 0 0) (by kernel_rfl) ?_
 refine Qi ?_
 have hH2 := hH1.box 36 [.slice none 0 0]
 generalize w4.alloc (Obj.cells [Value.slice none 0 0].toArray 36) = w5 at *
 generalize w4.heap.size = gc at *
 refine Qab ?_;refine Qi ?_;refine Qae hH2 0 (vs := [.slice (some ⟨gp, 0, none⟩) n n]) rfl rfl (by kernel_rfl) (by first | decide | (simp;done) | (simp;omega)) (by simp [Value.oneCell']) fun w6 hH3 => ?_;(try refine Qi ?_)
 have hH4 : Heap w [] w6 [arr gp n (Array.replicate n 0), Res.blk gc 36 [zsl gp n], tbl gf F1] := hH3.front 1 rfl
 clear hH hH1 hH2 hH3
 apply hK;clear hK
 refine VQi [0, 1, 6, 11, 56, 57] fun K hK => ?_
 apply hK;clear hK
 rw [hn]
 refine Qag ?_
 refine Qaj [0, 1, 6, 11, 56, 57] (fun m e w' => ∃ (k : Nat) (F D : Array Int), Is e [(0, Str L), (1, .int .i64 p0), (6, ptr gf), (11, ptr gc), (56, .int .i64 n), (57, .int .i64 k)] /\ Heap w [] w' [arr gp n D, Res.blk gc 36 [zsl gp n], tbl gf F] /\ F.size = 256 /\ D.size = n /\ k <= n /\ (∀ b, b < 256 -> F[b]! = (Qgm L b + cntB L b k : Nat)) /\ (∀ j, j < k -> D[posB L j]! = j) /\ m = n - k) n ?_ ?_
 ·
  refine Qi ?_
  exact ⟨0, F1, _, rfl, hH4, hF1, by simp, by omega, fun b hb => by rw [hFb b hb];rfl, fun j hj => by omega, rfl⟩
 clear hH4 hF1 hFb
 rintro m e w7 ⟨k, F, D, rfl, hH, hF, hD, hk, hFk, hDk, hm⟩
 refine VQi [0, 1, 6, 11, 56, 57, 58] fun K hK => ?_
 apply hK;clear hK
 (repeat refine Qaw ?_)
 refine VD (fun h => ?_) (fun h => ?_)
 ·
  refine Qac ?_
  ((repeat refine Qaw ?_);refine Qag ?_)
  refine VQi [0, 1, 6, 11, 12, 56, 57] fun K hK => ?_
  apply hK;clear hK
  have hb := hb8 k
  have hc := hFk _ hb
  have hpl := QDs L k (by omega)
  have hcs := fun b => Qur L b k
  have hps : Qgm L (L.getD k 0).toNat + cntB L (L.getD k 0).toNat k = posB L k := rfl
  rw [hps] at hc
  generalize hbk : (L.getD k 0).toNat = bk at *
  (repeat refine Qaw ?_);refine Qi8 [0, 1, 6, 11, 12, 56, 57] 8 (by kernel_rfl) (by kernel_rfl) (by kernel_rfl) rfl fun K hK => ?_;refine Qi ?_
  refine ⟨_, Qaf (hH.at 1 rfl) rfl, ⟨by omega, by omega⟩, ?_⟩
  rw [hbk]
  refine ⟨⟨by omega, by omega⟩, _, Qr8 (hH.at 2 rfl) (by omega), ?_⟩
  rw [hc]
  refine Qi ?_
  refine ⟨⟨by omega, by omega⟩, ?_⟩
  refine Qab ?_;refine Qi ?_;refine Qa2 hH 0 (o := (posB L k)) rfl (by first | rfl | (simp;done) | (congr 1;omega)) (by first | omega | (simp;omega)) fun w6 hH1 => ?_;simp only [List.set_cons_zero] at hH1;(try refine Qi ?_)
  apply hK;clear hK
  refine VQi [0, 1, 6, 11, 56, 57] fun K hK => ?_
  rw [hbk]
  refine ⟨⟨by omega, by omega⟩, ⟨by omega, by omega⟩, _, Qr8 (hH1.at 2 rfl) (by omega), ?_⟩
  rw [hc]
  refine Qi ?_
  refine ⟨I64.mk (by omega) (by omega), ⟨by omega, by omega⟩, ?_⟩
  refine Qab ?_
  refine Qi ?_
  refine Qlw hH1 2 (o := bk) rfl (by omega) fun w8 hH2 => ?_
  simp only [List.set_cons_zero, List.set_cons_succ] at hH2
  apply hK;clear hK
  refine Qar ?_
  refine VQi [0, 1, 6, 11, 56, 57] fun K hK => ?_
  (repeat refine Qo ?_);apply hK;clear hK
  refine Qad ?_
  refine Qi ?_
  refine ⟨n - (k + 1), by omega, k + 1, _, _, rfl, hH2, by simp [hF], by simp [hD], by omega, fun c hc2 => ?_, fun j hj => ?_, rfl⟩
  ·
   rw [Qhy _ _ _ (by omega), hcs c]
   by_cases e : c = bk
   ·
    subst e;rw [if_pos rfl, if_pos rfl];omega
   ·
    rw [if_neg e, if_neg (Ne.symm e), hFk c hc2];simp
  ·
   rw [Qhy _ _ _ (by omega)]
   by_cases e : j = k
   ·
    subst e;simp
   ·
    rw [if_neg (fun h2 => e (QG8 L (by omega) (by omega) h2))];exact hDk j (by omega)
 obtain rfl : k = n := by omega
 refine Qak rfl ?_
 generalize k = n at *
 have hPl : D.toList.map Int.toNat = Qbh L := QDt L _ (by rw [hn];simpa using hD) fun i hi => by
  have h1 := hDk i (by omega)
  have h2 := QDs L i hi
  rw [Qfc (by omega)] at h1
  rw [List.getD_eq_getElem?_getD, List.getElem?_map, List.getElem?_eq_getElem (by simp;omega)]
  simp only [Option.map_some, Option.getD_some, h1, Int.toNat_natCast]
 have hDp : ∀ p, p < n -> D[p]! = (((Qbh L).getD p 0 : Nat) : Int) /\ (Qbh L).getD p 0 < n := fun p hp => by
  have hm2 : (Qbh L).getD p 0 ∈ Qbh L := Qbq 0 (by rw [(Qci L).length_eq, List.length_range];omega)
  have h3 := (Qci L).mem_iff.1 hm2
  rw [List.mem_range] at h3
  refine ⟨?_, by omega⟩
  have h4 : posB L ((Qbh L).getD p 0) = p := by
   have hpl2 : (Qbh L).length = L.length := by rw [(Qci L).length_eq, List.length_range]
   have hnd : (Qbh L).Nodup := by rw [(Qci L).nodup_iff];exact List.nodup_range
   obtain ⟨h5, h6⟩ := List.getElem?_eq_some_iff.1 (Qfe L _ h3)
   refine (List.getElem_inj hnd (h₀ := h5) (h₁ := by omega)).1 ?_
   rw [h6, List.getD_eq_getElem?_getD, List.getElem?_eq_getElem (by omega)];rfl
  have h5 := hDk ((Qbh L).getD p 0) (by omega)
  rwa [h4] at h5
 clear hDk hFk hPl
 generalize hP : Qbh L = P at *
 refine VQi [0, 13] fun K hK => ?_
 refine Qal (.agg #[.nilFunc, .int .i64 0]) (by kernel_rfl) ?_
 refine Qi ?_
 have hH1 := hH.box 190 [.nilFunc, .int .i64 0]
 generalize w7.alloc (Obj.cells [Value.nilFunc, .int .i64 0].toArray 190) = w8 at *
 generalize w7.heap.size = gw at *
 refine Qab ?_;refine Qi ?_;refine Qae hH1 0 (vs := [QOz gc, .int .i64 p0]) rfl rfl (by kernel_rfl) (by first | decide | (simp;done) | (simp;omega)) (by simp [Value.oneCell']) fun w6 hH2 => ?_;(try refine Qi ?_)
 have hH3 : Heap w [] w6 [arr gp n D, Res.blk gc 36 [zsl gp n], wblk gw gc p0] := ((hH2.front 1 rfl).front 2 rfl |>.front 1 rfl).sub (by simp)
 apply hK;clear hK
 clear hH hH1 hH2
 generalize w6 = w9 at *
 refine VQi [0, 13, 14] fun K hK => ?_
 rw [hn]
 refine Qbw Tryz.underlying43 zi5 ?_
 refine Qi ?_
 refine ⟨n, n, ⟨rfl, rfl, by omega, by omega, by omega⟩, ?_⟩
 have hH1 := hH3.row 5 (n := n) (cap := n) (sz := 1) (List.replicate n (.int .u8 0)) [] (by simp) (by simp) (by omega) (by omega)
 rw [List.append_nil, show List.replicate n (Value.int .u8 0) = Qao (List.replicate n 0) by simp [Qao]] at hH1
 rw [show List.replicate n (Value.int .u8 0) = Qao (List.replicate n 0) by simp [Qao]]
 generalize w9.alloc (Obj.cells (Qao (List.replicate n 0)).toArray 5) = w10 at *
 generalize w9.heap.size = gb at *
 have hH2 : Heap w [] w10 [arr gp n D, Res.blk gc 36 [zsl gp n], wblk gw gc p0, Res.row 5 1 (some ⟨gb, 0, none⟩) n n (Qao (List.replicate n 0))] := ((hH1.front 3 rfl).front 3 rfl).front 3 rfl
 clear hH1 hH3
 apply hK;clear hK
 refine VQi [0, 13, 14, 83, 84] fun K hK => ?_
 apply hK;clear hK
 refine Qag ?_
 refine Qaj [0, 13, 14, 83, 84] (fun m e w' => ∃ (k q : Nat) (o : List UInt8), Is e [(0, Str L), (13, ptr gw), (14, .slice (some ⟨gb, 0, none⟩) n n), (83, .int .i64 n), (84, .int .i64 k)] /\ Heap w [] w' [arr gp n D, Res.blk gc 36 [zsl gp n], wblk gw gc q, Res.row 5 1 (some ⟨gb, 0, none⟩) n n (Qao o)] /\ o.length = n /\ q < n /\ k <= n /\ o.take k ++ Qg1 L P (n - k) q = Qg1 L P n p0 /\ m = n - k) n ?_ ?_
 ·
  refine Qi ?_
  exact ⟨0, p0, _, rfl, hH2, by simp, by omega, by omega, by simp, rfl⟩
 clear hH2
 rintro m e w11 ⟨k, q, o, rfl, hH, hol, hq, hk, hgo, hm⟩
 refine VQi [0, 13, 14, 83, 84, 85] fun K hK => ?_
 apply hK;clear hK
 (repeat refine Qaw ?_)
 refine VD (fun h => ?_) (fun h => ?_)
 ·
  obtain ⟨h1, h2⟩ := hDp q hq
  generalize hq2 : P.getD q 0 = q2 at *
  refine Qac ?_
  ((repeat refine Qaw ?_);refine Qag ?_)
  refine VQi [0, 13, 14, 15, 83, 84] fun K hK => ?_
  apply hK;clear hK
  refine VQi [0, 13, 14, 83, 84] fun K hK => ?_
  have hc := QDv D gp n gc gw q q2 (by omega) h1 (by omega) w w11 [] _ (by rw [sl, hD];exact hH)
  rw [sl, hD] at hc
  refine Qaa Tryz.call153 ?_;refine Qi ?_;refine CallK.mk hc ?_
  clear hc hH
  rintro v w12 ⟨hH, rfl⟩
  refine Qi ?_
  rw [hn]
  refine ⟨⟨by omega, by omega⟩, ⟨by omega, by omega⟩, ?_⟩
  refine Qab ?_;refine Qi ?_;refine Qbf hH 3 (o := (k)) (vs := [.int .u8 (L.getD q2 0).toNat]) rfl (by first | exact (Qbp _ _ _).symm | rfl | simp [Qbp]) rfl (by kernel_rfl) (by first | omega | (simp;omega) | (simp [Qao, Qbn];omega) | (rw [natsV_len];simp;omega)) (by simp [Value.oneCell']) fun w6 hH2 => ?_;(try refine Qi ?_)
  simp only [List.length_singleton, Qb2 (Qao o) _ _ (show k < (Qao o).length by rw [Qfo];omega), Qi9, List.set_cons_zero, List.set_cons_succ] at hH2
  apply hK;clear hK
  refine Qar ?_
  refine VQi [0, 13, 14, 83, 84] fun K hK => ?_
  (repeat refine Qo ?_);apply hK;clear hK
  refine Qad ?_
  refine Qi ?_
  refine ⟨n - (k + 1), by omega, k + 1, q2, o.set k (L.getD q2 0), rfl, hH2, by simp [hol], by omega, by omega, ?_, rfl⟩
  have e1 : (o.set k (L.getD q2 0)).take (k + 1) = o.take k ++ [L.getD q2 0] := by
   rw [List.take_add_one, List.getElem?_set_self (by omega), List.take_set_of_le (by omega)];rfl
  obtain ⟨j, hj⟩ : ∃ j, n - k = j + 1 := ⟨n - k - 1, by omega⟩
  rw [<- hgo, e1, hj, Qg1, hq2, show n - (k + 1) = j by omega]
  simp
 ·
  obtain rfl : k = n := by omega
  refine Qak rfl ?_
  rw [List.take_of_length_le (by omega), Nat.sub_self, Qg1, List.append_nil] at hgo
  rw [<- hgo]
  refine VQi [4, 5] fun K hK => ?_
  refine ⟨o, Qf3 (by rw [<- hol] at hH ⊢;exact Qa8 (hH.at 3 rfl)), ?_⟩
  apply hK;clear hK
  exact Qah (Qa4 rfl rfl rfl ⟨hH.sub (by simp), rfl⟩)
def digs : Nat -> Nat -> List Int
 | 0, _ => []
 | _ + 1, 0 => []
 | f + 1, k + 1 => ((k % 2 : Nat) : Int) :: digs f (k / 2)
theorem Qus : ∀ (f g k : Nat), k <= f -> k <= g -> digs f k = digs g k
 | 0, g, k, h, _ => by
  have : k = 0 := by omega
  subst this
  cases g <;> rfl
 | f + 1, 0, k, _, h => by
  have : k = 0 := by omega
  subst this
  rfl
 | f + 1, g + 1, 0, _, _ => rfl
 | f + 1, g + 1, k + 1, h, h' => by
  simp only [digs]
  rw [Qus f g (k / 2) (by omega) (by omega)]
def dig (k : Nat) : List Int := digs k k
theorem Qhz : dig 0 = [] := rfl
theorem Qne (k : Nat) : dig (k + 1) = ((k % 2 : Nat) : Int) :: dig (k / 2) := by
 rw [dig, digs, dig, Qus k (k / 2) (k / 2) (by omega) (Nat.le_refl _)]
theorem Qjd : ∀ (f k : Nat), k <= f -> (dig k).length <= k
 | 0, k, h => by
  have : k = 0 := by omega
  subst this;simp [Qhz]
 | f + 1, 0, _ => by simp [Qhz]
 | f + 1, k + 1, h => by
  have := Qjd f (k / 2) (by omega)
  rw [Qne, List.length_cons];omega
theorem Qxf (k : Nat) (w : World) (hk : k <= 17592186044416) :
  Does Tryz.prog 75 #[.int .i64 k] w fun v w' => ∃ a cap, Heap w [] w' [Res.row 3 1 a (dig k).length cap (Qbn (dig k))] /\ v = .slice a (dig k).length cap := by
 refine En [.int .i64 k] 16 Tryz.func75 ?_
 refine VS [0] ?_
 refine VS [0, 3] ?_
 refine VB ?_
 refine Qaj [0, 3] (fun m e w' => ∃ (j cap : Nat) (a : Option Addr) (o : List Int), Is e [(0, .int .i64 j), (3, .slice a o.length cap)] /\ Heap w [] w' [Res.row 3 1 a o.length cap (Qbn o)] /\ j <= k /\ o.length + j <= k /\ dig k = o ++ dig j /\ m = j) k ?_ ?_
 ·
  refine Qs ?_
  exact ⟨k, 0, none, [], rfl, Heap.one (r := Res.row 3 1 none 0 0 []) (Qwb 3 1 w) (by intro b hb;cases hb), by omega, by simp, rfl, rfl⟩
 rintro m e w2 ⟨j, cap, a, o, rfl, hH, h1, h2, h3, rfl⟩
 refine VS [0, 3, 5] ?_
 refine Qai rfl rfl (fun hlt => ?_) (fun hge => ?_)
 ·
  simp only [decide_eq_true_eq] at hlt
  refine Qac (Qag ?_)
  refine VS [0, 3] ?_
  refine VQ [0, 3] fun K hK => ?_
  refine ⟨⟨by omega, by omega⟩, ⟨by decide, by decide⟩, ?_⟩
  rw [show Int.toNat 1 = 1 from rfl, Nat.and_one_is_mod]
  refine Qde (xs := [.tmp 10]) Tryz.underlying36 sz3 rfl rfl rfl (by omega) ?_
  refine Qs ?_
  refine ⟨by simp [Value.cells], ?_⟩
  refine Qau ?_
  refine Qs ?_
  refine Qkh hH 0 rfl Tryz.underlying36 zi3 (fun h => by simp;omega) fun a' cap' w5 hc' hH4 => ?_
  apply hK;clear hK
  refine VS [0, 3] ?_
  refine Qar (Qad ?_)
  refine Qs ?_
  obtain ⟨j, rfl⟩ : ∃ j, m = j + 1 := ⟨m - 1, by omega⟩
  have e1 : (((j + 1 : Nat) : Int) - 1) / 2 ^ shN IntKind.i64 1 = ((j / 2 : Nat) : Int) := by
   rw [show shN IntKind.i64 1 = 1 by decide, show (((j + 1 : Nat) : Int) - 1) = (j : Int) by omega]
   omega
  rw [e1]
  rw [Qne] at h3
  exact ⟨j / 2, by omega, j / 2, cap', a', o ++ [((j % 2 : Nat) : Int)], rfl, hH4, by omega, by simp;omega, by rw [h3, List.append_assoc];rfl, rfl⟩
 ·
  simp only [decide_eq_false_iff_not] at hge
  refine Qak rfl ?_
  refine VS [2] ?_
  refine Qah (Qat rfl rfl ?_)
  have : m = 0 := by omega
  subst this
  rw [Qhz, List.append_nil] at h3
  rw [h3]
  exact ⟨a, cap, hH, rfl⟩
def IntsErr (p : List Int × Int) (w : World) (v : Value) (w' : World) : Prop :=
 ∃ a cap, Heap w [] w' [Res.row 3 1 a p.1.length cap (Qbn p.1)] /\ v = .tuple #[.slice a p.1.length cap, .int .i64 p.2]
theorem IntsErr.nil {w w' : World} (h : Heap w [] w' []) (e : Int) : IntsErr ([], e) w (.tuple #[.slice none 0 0, .int .i64 e]) w' :=
 ⟨none, 0, h.call0 (Heap.one (r := Res.row 3 1 none 0 0 []) (Qwb 3 1 w') (by intro b hb;cases hb)), rfl⟩
def zgo (n : Int) : List Int -> Nat -> List Int -> List Int × Int
 | out, z, [] => (out ++ dig z ++ [n + 1], 0)
 | out, z, v :: r => if v = 0 then zgo n out (z + 1) r else if v < 0 ∨ n <= v then ([], 60) else zgo n (out ++ dig z ++ [v + 1]) 0 r
def zenc (n : Int) (l : List Int) : List Int × Int := if n < 1 ∨ 256 < n then ([], 2) else zgo n [] 0 l
theorem QDx (n : Int) (l : List Int) (la : Option Addr) (lc : Nat) (hn : I64 n) (w : World) (hl : RS w la l.length 1 (Qbn l)) (hs : l.length <= 17592186044400) (hi : ∀ v ∈ l, I64 v) :
  Does Tryz.prog 33 #[.int .i64 n, .slice la l.length lc] w (IntsErr (zenc n l) w) := by
 refine En [.int .i64 n, .slice la l.length lc] 68 Tryz.func33 ?_
 refine VS [0, 1] ?_
 refine VQ [0, 1, 14] fun K hK => ?_
 have out : (n < 1 ∨ 256 < n) -> K [(0, .int .i64 n), (1, .slice la l.length lc), (14, .bool true)] w := by
  intro h
  apply hK;clear hK
  refine Qai rfl rfl (fun _ => ?_) (fun h => by cases h)
  refine VS [4, 5] ?_
  refine Qah (Qa4 rfl rfl rfl ?_)
  rw [zenc, if_pos h]
  exact IntsErr.nil (Heap.start w) 2
 refine ⟨fun h1 => ?_, fun h1 => out (.inl h1)⟩
 by_cases h2 : 256 < n
 ·
  rw [decide_eq_true h2]
  exact out (.inr h2)
 rw [decide_eq_false h2]
 clear out
 apply hK;clear hK
 refine Qai rfl rfl (fun h => by cases h) (fun _ => Qac ?_)
 rw [zenc, if_neg (by omega)]
 refine VS [0, 1, 6] ?_
 refine VS [0, 1, 6, 7] ?_
 (repeat refine Qaw ?_)
 refine Qdb [0, 6] (fun e w' => ∃ (cap : Nat) (a : Option Addr) (o : List Int), Is e [(0, .int .i64 n), (6, .slice a o.length cap)] /\ Heap w [] w' [Res.row 3 1 a o.length cap (Qbn o)] /\ o.length <= l.length /\ zgo n [] 0 l = (o ++ [n + 1], 0)) (Qag ?_) ?_
 rotate_left
 ·
  rintro e w2 ⟨cap, a, o, rfl, hH, g1, g2⟩
  refine VQ [4, 5] fun K hK => ?_
  (repeat first | refine Qo ?_ | refine Qp ?_)
  refine Qde (xs := [.tmp 65]) Tryz.underlying36 sz3 rfl rfl rfl (by omega) ?_;refine Qs ?_;refine ⟨by simp [Value.cells], ?_⟩
  refine Qau ?_;refine Qs ?_;refine Qkh hH 0 rfl Tryz.underlying36 zi3 (fun h => by (first | omega | (simp;done) | (simp;omega))) fun a' cap' w5 hc' hH6 => ?_;(try refine Qs ?_)
  apply hK;clear hK
  refine Qah (Qa4 rfl rfl rfl ?_)
  rw [g2]
  exact ⟨_, _, hH6, rfl⟩
 refine Qaj [0, 1, 6, 7] (fun m e w' => ∃ (i cap : Nat) (a : Option Addr) (o : List Int), Is e [(0, .int .i64 n), (1, .slice la l.length lc), (6, .slice a o.length cap), (7, .int .i64 i)] /\ Heap w [] w' [Res.row 3 1 a o.length cap (Qbn o)] /\ i <= l.length /\ o.length <= i /\ zgo n [] 0 l = zgo n o 0 (l.drop i) /\ m = l.length - i) l.length ?_ ?_
 ·
  refine Qs ?_
  exact ⟨0, 0, none, [], rfl, Qm1, by omega, by simp, rfl, rfl⟩
 rintro m e w2 ⟨i, cap, a, o, rfl, hH, g1, g2, g3, rfl⟩
 refine VS [0, 1, 6, 7, 18] ?_
 refine VD (fun h => ?_) (fun h => ?_)
 ·
  refine Qac ?_
  refine Qag ?_
  refine Qm0 ?_
  refine VS [0, 1, 6, 7, 8] ?_
  (repeat refine Qaw ?_)
  refine Qmy ?_
  (repeat refine Qaw ?_)
  refine Qdb [0, 1, 6, 7, 8] (fun e w' => ∃ j z : Nat, Is e [(0, .int .i64 n), (1, .slice la l.length lc), (6, .slice a o.length cap), (7, .int .i64 j), (8, .int .i64 z)] /\ Is w' w2 /\ j <= l.length /\ i <= j /\ z = j - i /\ zgo n [] 0 l = zgo n o z (l.drop j) /\ (j < l.length -> l.getD j 0 ≠ 0)) ?_ ?_
  ·
   refine Qag ?_
   refine Qaj [0, 1, 6, 7, 8] (fun m e w' => ∃ (j z : Nat), Is e [(0, .int .i64 n), (1, .slice la l.length lc), (6, .slice a o.length cap), (7, .int .i64 j), (8, .int .i64 z)] /\ Is w' w2 /\ j <= l.length /\ i <= j /\ z = j - i /\ zgo n [] 0 l = zgo n o z (l.drop j) /\ m = l.length - j) (l.length - i) ?_ ?_
   ·
    refine Qs ?_
    exact ⟨i, 0, rfl, rfl, g1, by omega, by omega, g3, rfl⟩
   rintro m e w' ⟨j, z, rfl, rfl, k1, k2, k3, k4, rfl⟩
   refine VS [0, 1, 6, 7, 8, 22] ?_
   refine VD (fun h => ?_) (fun h => ?_)
   ·
    refine Qac ?_
    refine Qag ?_
    obtain ⟨p, rfl⟩ := Qcy hl (by omega)
    have hl2 := hH.rs' hl
    refine VQ [0, 1, 6, 7, 8, 27] fun K hK => ?_
    refine ⟨⟨by omega, by omega⟩, _, Qny hl2 (show j < l.length by omega), ?_⟩
    refine Qs ?_
    apply hK;clear hK
    have k4' := k4
    rw [drop_getD 0 (by omega), zgo] at k4
    refine Vi (fun h => ?_) (fun h => ?_)
    ·
     simp only [decide_eq_true_eq] at h
     refine Qak rfl ?_
     refine Qad ?_
     refine Qs ?_
     exact ⟨j, z, rfl, rfl, k1, k2, k3, k4', fun _ => h⟩
    simp only [decide_eq_false_iff_not, Decidable.not_not] at h
    rw [if_pos h] at k4
    refine Qac ?_
    refine VS [0, 1, 6, 7, 8] ?_
    refine VS [0, 1, 6, 7, 8] ?_
    refine Qar ?_
    refine Qad ?_
    refine Qs ?_
    exact ⟨l.length - (j + 1), by omega, j + 1, z + 1, rfl, rfl, by omega, by omega, by omega, k4, rfl⟩
   ·
    refine Qak rfl ?_
    refine Qad ?_
    refine Qs ?_
    exact ⟨j, z, rfl, rfl, k1, k2, k3, k4, fun h' => by omega⟩
  rintro e w' ⟨j, z, rfl, rfl, k1, k2, k3, k4, k5⟩
  have hdl := Qjd z z (Nat.le_refl _)
  refine VQ [0, 1, 6, 7] fun K hK => ?_
  refine Qaa Tryz.call75 ?_;refine Qs ?_;refine CallK.mk (Qxf z w' (by omega)) ?_
  rintro v w2 ⟨a2, c2, hH2, rfl⟩
  have hH3 := hH.call0 hH2
  refine Qau ?_;refine Qs ?_;refine QCm hH3 1 rfl Tryz.underlying36 zi3 (t := dig z) (by simp) (Qa8 (hH2.at 0 rfl)) (fun h => by (first | omega | (simp;done) | (simp;omega))) fun a' cap' w5 hc' hH4 => ?_;(try refine Qs ?_)
  apply hK;clear hK
  have hol : (o ++ dig z).length <= j := by simp;omega
  refine VS [0, 1, 6, 7, 39] ?_
  refine VD (fun h => ?_) (fun h => ?_)
  ·
   refine Qak rfl (Qad ?_)
   refine Qs ?_
   rw [List.drop_of_length_le (by omega), zgo] at k4
   exact ⟨_, _, _, rfl, hH4.sub (by simp), by omega, k4⟩
  refine Qac ?_
  obtain ⟨p, rfl⟩ := Qcy hl (by omega)
  have hl2 := hH4.rs' hl
  have hc := Qny hl2 (show j < l.length by omega)
  have hj := k5 (by omega)
  rw [drop_getD 0 (by omega), zgo, if_neg hj] at k4
  have hr := hi _ (Qbq 0 (show j < l.length by omega))
  generalize l.getD j 0 = v at *
  obtain ⟨hr1, hr2⟩ := hr
  refine VQ [0, 1, 6, 7, 52] fun K hK => ?_
  refine ⟨⟨by omega, by omega⟩, _, hc, ?_⟩
  refine Qs ?_
  have out : (v < 0 ∨ n <= v) -> K [(0, .int .i64 n), (1, .slice (some p) l.length lc), (6, .slice a' (o ++ dig z).length cap'), (7, .int .i64 j), (52, .bool true)] w5 := by
   intro h
   apply hK;clear hK
   refine Qai rfl rfl (fun _ => ?_) (fun h => by cases h)
   refine VS [4, 5] ?_
   refine Qah (Qa4 rfl rfl rfl ?_)
   rw [k4, if_pos h]
   exact IntsErr.nil (hH4.sub (by simp)) 60
  refine ⟨fun f1 => ⟨⟨by omega, by omega⟩, _, hc, ?_⟩, fun f1 => out (.inl f1)⟩
  refine Qs ?_
  by_cases f2 : n <= v
  ·
   rw [decide_eq_true f2];exact out (.inr f2)
  rw [decide_eq_false f2]
  clear out
  rw [if_neg (by omega)] at k4
  apply hK;clear hK
  refine Qai rfl rfl (fun h => by cases h) (fun _ => Qac ?_)
  refine VQ [0, 1, 6, 7] fun K hK => ?_
  refine ⟨⟨by omega, by omega⟩, _, hc, ?_⟩
  refine Qs ?_
  (repeat first | refine Qo ?_ | refine Qp ?_)
  refine Qde (xs := [.tmp 58]) Tryz.underlying36 sz3 rfl rfl rfl (by omega) ?_;refine Qs ?_;refine ⟨by simp [Value.cells], ?_⟩
  refine Qau ?_;refine Qs ?_;refine Qkh hH4 1 rfl Tryz.underlying36 zi3 (fun h => by (first | omega | (simp;done) | (simp;omega))) fun a' cap' w5 hc' hH6 => ?_;(try refine Qs ?_)
  apply hK;clear hK
  refine VS [0, 1, 6, 7] ?_
  refine Qar ?_
  refine Qad ?_
  refine Qs ?_
  exact ⟨l.length - (j + 1), by omega, j + 1, _, _, _, rfl, hH6.sub (by simp), by omega, by simp at hol ⊢;omega, k4, rfl⟩
 ·
  refine Qak rfl (Qad ?_)
  refine Qs ?_
  rw [List.drop_of_length_le (by omega), zgo, Qhz, List.append_nil] at g3
  exact ⟨_, _, _, rfl, hH, by omega, g3⟩
def zend (n : Int) (out : List Int) : List Int -> List Int × Int
 | [] => (out, 0)
 | x :: _ => if x < 0 ∨ n + 1 < x then ([], 60) else ([], 70)
def zdec (n most : Int) : List Int -> Nat -> List Int -> List Int × Int
 | _, _, [] => ([], 70)
 | out, wt, s :: r => if s < 0 ∨ n + 1 < s then ([], 60)
  else if s < 2 then (if most - out.length < (s + 1) * wt then ([], 3) else zdec n most (out ++ List.replicate ((s + 1) * wt).toNat 0) (2 * wt) r)
  else if s = n + 1 then zend n out r
  else if most <= out.length then ([], 3) else zdec n most (out ++ [s - 1]) 1 r
def Qen (n most : Int) (l : List Int) : List Int × Int := if n < 1 ∨ 256 < n ∨ most < 0 ∨ 262144 < most then ([], 2) else zdec n most [] 1 l
theorem Qxg (n s : Int) (hn : I64 n) (hn2 : n <= 256) (hs : I64 s) (w : World) : Does Tryz.prog 151 #[.int .i64 n, .int .i64 s] w fun v w' => w' = w /\ v = .int .i64 (if s < 0 ∨ n + 1 < s then 60 else 70) := by
 obtain ⟨hn1, hn3⟩ := hn
 refine En [.int .i64 n, .int .i64 s] 13 Tryz.func151 ?_
 refine VS [0, 1] ?_
 by_cases hn4 : n = -9223372036854775808
 all_goals
  refine VQ [12] fun K hK => ?_
  suffices out : ∀ b : Bool, (b = true ↔ s < 0 ∨ n + 1 < s) -> K [(12, .bool b)] w by (repeat' (first | exact out _ _ (by first | omega | (simp;done) | (simp;omega)) | exact out _ (by first | omega | (simp;done) | (simp;omega)) | refine ⟨fun _ => ?_, fun _ => ?_⟩ | refine Qo ?_))
  intro b hb
  apply hK;clear hK
  refine Vi (fun h => ?_) (fun h => Qac ?_)
  ·
   refine VS [4] ?_
   refine Qah (Qat rfl rfl ⟨rfl, ?_⟩)
   rw [if_pos (hb.1 h)]
  refine VS [4] ?_
  refine Qah (Qat rfl rfl ⟨rfl, ?_⟩)
  rw [if_neg (fun h' => by rw [hb.2 h'] at h;cases h)]
theorem intsV_zero (m : Nat) : List.replicate m (Value.int .i64 0) = Qbn (List.replicate m 0) := by simp [Qbn]
def lead (b : UInt8) : List UInt8 -> Nat
 | [] => 0
 | c :: l => if c = b then lead b l + 1 else 0
def Qcw : List UInt8 -> Nat
 | [] => 0
 | b :: l => min 255 (lead b l + 1)
def Qfy (n : Nat) (l : List UInt8) : List UInt8 := if n < 4 then l.take n else l.take 4 ++ [UInt8.ofNat (n - 4)]
def encF : Nat -> List UInt8 -> List UInt8
 | 0, _ => []
 | _, [] => []
 | f + 1, b :: l => Qfy (Qcw (b :: l)) (b :: l) ++ encF f ((b :: l).drop (Qcw (b :: l)))
def enc (l : List UInt8) : List UInt8 := encF l.length l
theorem QDy (b : UInt8) (l : List UInt8) : ∀ n, (∀ j, j < n -> l[j]? = some b) -> (l[n]? ≠ some b) -> lead b l = n := by
 induction l with
 | nil =>
  intro n h1 _
  cases n with
  | zero => rfl
  | succ n => have := h1 0 (by omega);simp at this
 | cons c l ih =>
  intro n h1 h2
  cases n with
  | zero =>
   have : ¬ c = b := by simpa using h2
   simp [lead, this]
  | succ n =>
   have : c = b := by simpa using h1 0 (by omega)
   simp only [lead, this, if_true]
   rw [ih n (fun j hj => by simpa using h1 (j + 1) (by omega)) (by simpa using h2)]
theorem QLk (b : UInt8) (l : List UInt8) : ∀ n, (∀ j, j < n -> l[j]? = some b) -> n <= lead b l := by
 induction l with
 | nil =>
  intro n h1
  cases n with
  | zero => omega
  | succ n => have := h1 0 (by omega);simp at this
 | cons c l ih =>
  intro n h1
  cases n with
  | zero => omega
  | succ n =>
   have : c = b := by simpa using h1 0 (by omega)
   simp only [lead, this, if_true]
   have := ih n (fun j hj => by simpa using h1 (j + 1) (by omega))
   omega
theorem QLl (b : UInt8) (l : List UInt8) : lead b l <= l.length := by
 induction l with
 | nil => simp [lead]
 | cons c l ih => simp only [lead];split <;> simp <;> omega
theorem QG9 (b : UInt8) (l : List UInt8) : l[lead b l]? ≠ some b := by
 induction l with
 | nil => simp [lead]
 | cons c l ih =>
  simp only [lead]
  split
  ·
   simpa using ih
  ·
   rename_i hc;simpa using hc
def Same (l : List UInt8) (i n : Nat) : Prop := ∀ j, j < n -> l[i + j]? = l[i]?
theorem Qyz (l : List UInt8) (i n : Nat) (hi : i < l.length) (h1 : 1 <= n) (h2 : n <= 255) (hs : Same l i n) (he : n = 255 ∨ l[i + n]? ≠ l[i]?) : Qcw (l.drop i) = n := by
 have hd : l.drop i = l[i] :: l.drop (i + 1) := List.drop_eq_getElem_cons hi
 rw [hd]
 simp only [Qcw]
 have hg : l[i]? = some l[i] := List.getElem?_eq_getElem hi
 have hj : ∀ j, j < n - 1 -> (l.drop (i + 1))[j]? = some l[i] := fun j hj => by
  rw [List.getElem?_drop, show i + 1 + j = i + (j + 1) by omega, hs (j + 1) (by omega), hg]
 rcases he with he | he
 ·
  have := QLk _ _ _ hj;omega
 ·
  have := QDy l[i] (l.drop (i + 1)) (n - 1) hj (by rw [List.getElem?_drop, show i + 1 + (n - 1) = i + n by omega, <- hg];exact he)
  omega
theorem Qdk (l : List UInt8) (h : l ≠ []) : 1 <= Qcw l := by
 cases l with
 | nil => exact absurd rfl h
 | cons b l => simp only [Qcw];omega
theorem Qg2 (l : List UInt8) : Qcw l <= l.length /\ Qcw l <= 255 := by
 cases l with
 | nil => simp [Qcw]
 | cons b l => have := QLl b l;simp only [Qcw, List.length_cons];omega
theorem Qon (l : List UInt8) (h : l ≠ []) (f : Nat) : encF (f + 1) l = Qfy (Qcw l) l ++ encF f (l.drop (Qcw l)) := by
 cases l with
 | nil => exact absurd rfl h
 | cons b l => rfl
theorem QDz : ∀ (f g : Nat) (l : List UInt8), l.length <= f -> l.length <= g -> encF f l = encF g l := by
 intro f
 induction f with
 | zero =>
  intro g l hf _
  have : l = [] := List.eq_nil_of_length_eq_zero (by omega)
  subst this
  cases g <;> rfl
 | succ f ih =>
  intro g l hf hg
  by_cases hl : l = []
  ·
   subst hl;cases g <;> rfl
  ·
   cases g with
   | zero => exact absurd (List.eq_nil_of_length_eq_zero (by omega)) hl
   | succ g =>
    rw [Qon l hl, Qon l hl]
    have := Qdk l hl
    rw [ih g _ (by simp;omega) (by simp;omega)]
theorem Qh0 (l : List UInt8) (h : l ≠ []) : enc l = Qfy (Qcw l) l ++ enc (l.drop (Qcw l)) := by
 have hp : 0 < l.length := List.length_pos_iff.2 h
 have hr := Qdk l h
 unfold enc
 rw [show l.length = (l.length - 1) + 1 by omega, Qon l h]
 rw [QDz (l.length - 1) (l.drop (Qcw l)).length _ (by simp;omega) (Nat.le_refl _)]
theorem Qi0 : enc [] = [] := rfl
theorem Qc6 (n : Nat) (l : List UInt8) (h : n <= l.length) : (Qfy n l).length = if n < 4 then n else 5 := by
 unfold Qfy
 split <;> simp <;> omega
theorem Qlx (l : List UInt8) : (enc l).length <= l.length + l.length / 4 := by
 induction hn : l.length using Nat.strongRecOn generalizing l with
 | _ n ih =>
  subst hn
  by_cases hl : l = []
  ·
   subst hl;simp [Qi0]
  ·
   rw [Qh0 l hl]
   have h1 := Qdk l hl
   have h2 := (Qg2 l).1
   have := ih (l.drop (Qcw l)).length (by simp;omega) _ rfl
   rw [List.length_append, Qc6 _ _ h2]
   simp only [List.length_drop] at this
   split <;> omega
theorem Qoo {l : List UInt8} {i j : Nat} (hi : i < l.length) (hj : j < l.length) : (((l.getD i 0).toNat : Int) = ((l.getD j 0).toNat : Int)) ↔ l[i]? = l[j]? := by
 rw [List.getElem?_eq_getElem hi, List.getElem?_eq_getElem hj, List.getD_eq_getElem?_getD, List.getD_eq_getElem?_getD, List.getElem?_eq_getElem hi, List.getElem?_eq_getElem hj]
 simp only [Option.getD_some, Option.some.injEq]
 exact ⟨fun h => UInt8.toNat_inj.1 (by omega), fun h => by rw [h]⟩
theorem Qy0 (l : List UInt8) (i : Nat) (w : World) (hi : i < l.length) (hs : l.length <= 1000000000000000000) :
  Does Tryz.prog 60 #[Str l, .int .i64 i] w fun v w' => w' = w /\ v = .int .i64 (Qcw (l.drop i)) := by
 refine En [Str l, .int .i64 i] 30 Tryz.func60 ?_
 refine VS [0, 1] ?_
 refine VS [0, 1, 5] ?_
 refine VB ?_
 refine Qaj [0, 1, 5] (fun m e w' => ∃ n : Nat, Is e [(0, Str l), (1, .int .i64 i), (5, .int .i64 n)] /\ Is w' w /\ 1 <= n /\ n <= 255 /\ Same l i n /\ m = 255 - n) 254 ?_ ?_
 ·
  refine Qs ?_
  exact ⟨1, rfl, rfl, by omega, by omega, fun j hj => by rw [show j = 0 by omega];rfl, rfl⟩
 rintro m e w' ⟨n, rfl, rfl, h1, h2, h3, rfl⟩
 refine Vq [0, 1, 5, 26] fun K hK => ?_
 have done : (n = 255 ∨ l[i + n]? ≠ l[i]?) -> K [(0, Str l), (1, Value.int IntKind.i64 i), (5, Value.int IntKind.i64 n), (26, Value.bool false)] := by
  intro hend
  apply hK;clear hK
  refine Qai rfl rfl (fun h => by cases h) (fun _ => ?_)
  refine Qak rfl ?_
  refine VS [4] ?_
  refine Qah (Qat rfl rfl ⟨rfl, ?_⟩)
  rw [Qyz l i n hi h1 h2 h3 hend]
 refine ⟨fun g1 => ⟨I64.mk (by omega) (by omega), fun g2 => ⟨I64.mk (by omega) (by omega), by omega, by omega, ?_⟩, fun g2 => done (.inr ?_)⟩, fun g1 => done (.inl (by omega))⟩
 ·
  by_cases hc : l[i + n]? = l[i]?
  ·
   (apply hK;clear hK)
   refine Vi (fun h => ?_) (fun h => ?_)
   ·
    refine Qac (Qag ?_)
    refine VS [0, 1, 5] ?_
    refine Qar (Qad ?_)
    refine Qs ?_
    refine ⟨255 - (n + 1), by omega, n + 1, rfl, rfl, by omega, by omega, ?_, rfl⟩
    intro j hj
    by_cases hjn : j = n
    ·
     rw [hjn];exact hc
    ·
     exact h3 j (by omega)
   ·
    exfalso
    simp only [decide_eq_false_iff_not] at h
    rw [Qoo (by omega) hi] at h
    exact h hc
  ·
   have e : decide ((((l.getD (i + n) 0).toNat : Nat) : Int) = (((l.getD i 0).toNat : Nat) : Int)) = false := by
    rw [decide_eq_false_iff_not, Qoo (by omega) hi]
    exact hc
   rw [e]
   exact done (.inr hc)
 ·
  rw [List.getElem?_eq_none (by omega), List.getElem?_eq_getElem hi];simp
theorem QHa (l : List UInt8) (w : World) (hs : l.length <= 140737488355328) :
  Does Tryz.prog 22 #[Str l] w fun v w' => Heap w [] w' [] /\ v = Str (enc l) := by
 refine En [Str l] 48 Tryz.func22 ?_
 refine VS [0] ?_
 refine VQ [0, 3] fun K hK => ?_
 refine ⟨by omega, by omega, I64.mk (by omega) (by omega), I64.mk (by omega) (by omega), ?_⟩
 refine Qbw Tryz.underlying43 zi5 ?_
 refine Qs ?_
 refine ⟨0, l.length + l.length / 4, ⟨rfl, rfl, by omega, by omega, by omega⟩, ?_⟩
 have hH := (Heap.start w).row 5 (n := 0) (cap := l.length + l.length / 4) (sz := 1) [] (List.replicate (l.length + l.length / 4) (.int .u8 0)) (by simp) (by simp) (by omega) (by omega)
 simp only [List.nil_append] at hH
 generalize w.alloc (Obj.cells (List.replicate (l.length + l.length / 4) (Value.int IntKind.u8 0)).toArray 5) = w1 at hH ⊢
 generalize (some ⟨w.heap.size, 0, none⟩ : Option Addr) = a at hH ⊢
 apply hK;clear hK
 refine VS [0, 3, 4] ?_
 refine VB ?_
 refine Qaj [0, 3, 4] (fun m e w' => ∃ (i : Nat) (o : List UInt8), Is e [(0, Str l), (3, .slice a o.length (l.length + l.length / 4)), (4, .int .i64 i)] /\ Heap w [] w' [Res.row 5 1 a o.length (l.length + l.length / 4) (Qao o)] /\ i <= l.length /\ enc l = o ++ enc (l.drop i) /\ o.length <= i + i / 4 /\ m = l.length - i) l.length ?_ ?_
 ·
  refine Qs ?_
  exact ⟨0, [], rfl, hH, by omega, rfl, by simp, rfl⟩
 rintro m e w2 ⟨i, o, rfl, hH, h1, h2, h3, rfl⟩
 refine VS [0, 3, 4, 16] ?_
 refine Qai rfl rfl (fun hlt => ?_) (fun hge => ?_)
 ·
  simp only [decide_eq_true_eq] at hlt
  refine Qac (Qag ?_)
  have hn1 : 1 <= Qcw (l.drop i) := Qdk _ (by intro h;have := congrArg List.length h;simp at this;omega)
  have hn2 := Qg2 (l.drop i)
  rw [List.length_drop] at hn2
  have hstep := Qh0 (l.drop i) (by intro h;have := congrArg List.length h;simp at this;omega)
  rw [List.drop_drop] at hstep
  refine VQ [0, 3, 4, 5] fun K hK => ?_
  refine Qaa Tryz.call60 ?_;refine Qs ?_;refine CallK.mk (Qy0 l i w2 (by omega) (by omega)) ?_
  rintro v w' ⟨rfl, rfl⟩
  apply hK;clear hK
  generalize hn : Qcw (l.drop i) = n at hn1 hn2 hstep ⊢
  refine VS [0, 3, 4, 5, 21] ?_
  refine Qdb [0, 3, 4, 5] (fun e w3 => Is e [(0, Str l), (3, .slice a (o ++ Qfy n (l.drop i)).length (l.length + l.length / 4)), (4, .int .i64 i), (5, .int .i64 n)] /\ Heap w [] w3 [Res.row 5 1 a (o ++ Qfy n (l.drop i)).length (l.length + l.length / 4) (Qao (o ++ Qfy n (l.drop i)))]) ?_ ?_
  ·
   refine Qai rfl rfl (fun hn4 => ?_) (fun hn4 => ?_)
   ·
    simp only [decide_eq_true_eq] at hn4
    refine VQ [0, 3, 4, 5] fun K hK => ?_
    refine ⟨I64.mk (by omega) (by omega), by omega, ?_⟩
    refine Qau ?_
    refine Qs ?_
    have e : Qfy n (l.drop i) = List.take (i + n - i) (List.drop i l) := by
     rw [Qfy, if_pos (by omega)];congr 1;omega
    rw [<- e]
    have el : (o ++ Qfy n (l.drop i)).length <= l.length + l.length / 4 := by
     rw [List.length_append, Qc6 _ _ (by simp;omega), if_pos (by omega)];omega
    refine Qmz hH 0 rfl Tryz.underlying43 zi5 Tryz.underlying9 (fun h => by omega) fun a' cap' w' hc hH => ?_
    obtain ⟨rfl, rfl⟩ := hc el
    apply hK;clear hK
    refine Qad ?_
    refine Qs ?_
    exact ⟨rfl, hH⟩
   ·
    simp only [decide_eq_false_iff_not] at hn4
    have e : Qfy n (l.drop i) = List.take (i + 4 - i) (List.drop i l) ++ [UInt8.ofNat (n - 4)] := by
     rw [Qfy, if_neg (by omega)];congr 2;omega
    have el : (o ++ Qfy n (l.drop i)).length <= l.length + l.length / 4 := by
     rw [List.length_append, Qc6 _ _ (by simp;omega), if_neg (by omega)];omega
    rw [e, <- List.append_assoc] at el ⊢
    generalize ht : List.take (i + 4 - i) (List.drop i l) = t at el ⊢
    have el2 : (o ++ t).length <= l.length + l.length / 4 := by simp at el ⊢;omega
    refine VQ [0, 3, 4, 5] fun K hK => ?_
    refine ⟨I64.mk (by omega) (by omega), by omega, ?_⟩
    refine Qau ?_
    refine Qs ?_
    rw [ht]
    refine Qmz hH 0 rfl Tryz.underlying43 zi5 Tryz.underlying9 (fun h => by omega) fun a' cap' w' hc hH => ?_
    obtain ⟨rfl, rfl⟩ := hc el2
    apply hK;clear hK
    refine VQ [0, 3, 4, 5] fun K hK => ?_
    refine ⟨I64.mk (by omega) (by omega), ?_⟩
    refine Qde (xs := [.tmp 40]) Tryz.underlying43 sz5 rfl rfl rfl (by omega) ?_
    refine Qs ?_
    refine ⟨by simp [Value.cells], ?_⟩
    refine Qau ?_
    refine Qs ?_
    refine Qhc hH 0 (UInt8.ofNat (n - 4)) rfl Tryz.underlying43 zi5 (by simp;omega) (fun h => by omega) fun a' cap' w' hc hH => ?_
    obtain ⟨rfl, rfl⟩ := hc el
    apply hK;clear hK
    refine Qad ?_
    refine Qs ?_
    exact ⟨rfl, hH⟩
  ·
   rintro e w3 ⟨rfl, hH⟩
   refine VS [0, 3, 4] ?_
   refine Qar (Qad ?_)
   refine Qs ?_
   refine ⟨l.length - (i + n), by omega, i + n, o ++ Qfy n (l.drop i), rfl, hH, by omega, ?_, ?_, rfl⟩
   ·
    rw [h2, hstep, List.append_assoc]
   ·
    rw [List.length_append, Qc6 _ _ (by simp;omega)];split <;> omega
 ·
  simp only [decide_eq_false_iff_not] at hge
  refine Qak rfl ?_
  refine VQ [2] fun K hK => ?_
  refine ⟨o, hH.readsBytes 0 rfl, ?_⟩
  apply hK;clear hK
  refine Qah (Qat rfl rfl ⟨hH.sub (by simp), ?_⟩)
  rw [h2, List.drop_of_length_le (by omega), Qi0, List.append_nil]
def decS : List UInt8 -> Nat -> List UInt8 -> List UInt8 × Int
 | out, same, [] => if same = 4 then ([], 30) else (out, 0)
 | out, same, c :: s =>
  if same = 4 then (if 262144 < out.length + c.toNat then ([], 3) else decS (out ++ List.replicate c.toNat (out.getLastD 0)) 0 s)
  else if out.length = 262144 then ([], 3) else decS (out ++ [c]) (if 0 < same /\ out.getLastD 0 = c then same + 1 else 1) s
def Tail (out : List UInt8) (k : Nat) : Prop := k <= out.length /\ ∀ j, j < k -> out[out.length - 1 - j]? = some (out.getLastD 0)
theorem Tail.zero (out : List UInt8) : Tail out 0 := ⟨Nat.zero_le _, fun j hj => by omega⟩
theorem Tail.one (out : List UInt8) (c : UInt8) : Tail (out ++ [c]) 1 := ⟨by simp, fun j hj => by rw [show j = 0 by omega];simp [List.getLastD_eq_getLast?]⟩
theorem Tail.succ {out : List UInt8} {k : Nat} {c : UInt8} (h : Tail out k) (hc : out.getLastD 0 = c) : Tail (out ++ [c]) (k + 1) := by
 refine ⟨by have := h.1;simp;omega, fun j hj => ?_⟩
 have e : (out ++ [c]).getLastD 0 = c := by simp [List.getLastD_eq_getLast?]
 rw [e]
 cases j with
 | zero => simp
 | succ j =>
  have h1 := h.2 j (by omega)
  have hk := h.1
  rw [List.getElem?_append_left (by simp;omega)]
  rw [show (out ++ [c]).length - 1 - (j + 1) = out.length - 1 - j by simp;omega, h1, hc]
theorem Tail.drop {out : List UInt8} {k : Nat} (h : Tail out k) : out.drop (out.length - k) = List.replicate k (out.getLastD 0) := by
 apply List.ext_getElem?
 intro j
 rw [List.getElem?_drop, List.getElem?_replicate]
 split
 ·
  rename_i hj
  have := h.2 (k - 1 - j) (by omega)
  have hk := h.1
  rw [show out.length - k + j = out.length - 1 - (k - 1 - j) by omega, this]
 ·
  rename_i hj
  have hk := h.1
  rw [List.getElem?_eq_none (by omega)]
theorem QD0 (out : List UInt8) (same : Nat) (c : UInt8) (s : List UInt8) : decS out same (c :: s) =
  if same = 4 then (if 262144 < out.length + c.toNat then ([], 3) else decS (out ++ List.replicate c.toNat (out.getLastD 0)) 0 s)
  else if out.length = 262144 then ([], 3) else decS (out ++ [c]) (if 0 < same /\ out.getLastD 0 = c then same + 1 else 1) s := rfl
def QId (w : World) (l : List UInt8) (m : Nat) (e : Env) (w' : World) : Prop :=
 ∃ (i same cap : Nat) (a : Option Addr) (out : List UInt8), Is e [(0, Str l), (4, .slice a out.length cap), (5, .int .i64 same), (6, .int .i64 i)] /\ Heap w [] w' [Res.row 5 1 a out.length cap (Qao out)] /\ i <= l.length /\ out.length <= 262144 /\ same <= 4 /\ Tail out same /\ decS [] 0 l = decS out same (l.drop i) /\ m = l.length - i
theorem QLm (m c k : Nat) (b : UInt8) (hk : m + k <= c) (ms : List UInt8) (hm : ms.length = c) (hp : ms.take m = List.replicate m b) :
  (ms.take m ++ List.replicate k b ++ ms.drop (m + k)).length = c /\ (ms.take m ++ List.replicate k b ++ ms.drop (m + k)).take (m + k) = List.replicate (m + k) b := by
 refine ⟨by simp;omega, ?_⟩
 rw [hp, List.replicate_append_replicate, List.take_left' (by simp)]
theorem bytesV_take (l : List UInt8) (k : Nat) : (Qao l).take k = Qao (l.take k) := by simp [Qao]
theorem bytesV_drop (l : List UInt8) (k : Nat) : (Qao l).drop k = Qao (l.drop k) := by simp [Qao]
theorem bytesV_zero (n : Nat) : List.replicate n (Value.int .u8 0) = Qao (List.replicate n 0) := by simp [Qao]
theorem bytesV_get {l : List UInt8} {i : Nat} (h : i < l.length) : (Qao l)[i]? = some (.int .u8 (l.getD i 0).toNat) := by
 simp [Qao, List.getElem?_eq_getElem h, List.getD_eq_getElem?_getD]
theorem QHb (l : List UInt8) (w : World) (hs : l.length <= 140737488355328) :
  Does Tryz.prog 108 #[Str l] w fun v w' => Heap w [] w' [] /\ v = .tuple #[Str (decS [] 0 l).1, .int .i64 (decS [] 0 l).2] := by
 refine En [Str l] 78 Tryz.func108 ?_
 refine VS [0] ?_
 (repeat refine Qaw ?_);refine Qm0 ?_
 refine VQ [0, 4] fun K hK => ?_
 refine Qde (xs := []) Tryz.underlying43 sz5 rfl rfl rfl (by omega) ?_
 refine Qs ?_
 refine ⟨by simp, ?_⟩
 have hH := (Heap.start w).row 5 (n := 0) (cap := 0) (sz := 1) [] [] rfl rfl (by omega) (by omega)
 simp only [List.append_nil] at hH
 generalize w.alloc (Obj.cells (List.toArray []) 5) = w1 at hH ⊢
 generalize (some ⟨w.heap.size, 0, none⟩ : Option Addr) = a at hH ⊢
 apply hK;clear hK
 refine VS [0, 4, 5] ?_
 refine Qaw (Qmy ?_)
 refine VS [0, 4, 5, 6] ?_
 refine VB ?_
 refine Qaj [0, 4, 5, 6] (QId w l) l.length ?_ ?_
 ·
  simp only [Qs3, Qnn, Qs4, Qno, ↓reduceIte, reduceEqDiff]
  exact ⟨0, 0, 0, a, [], rfl, hH, by omega, by simp, by omega, Tail.zero _, rfl, rfl⟩
 clear hH
 rintro m e w2 ⟨i, same, cap, a, out, rfl, hH, h1, h2, h3, h4, h5, rfl⟩
 refine VS [0, 4, 5, 6, 13] ?_
 refine Qai rfl rfl (fun hlt => ?_) (fun hge => ?_)
 ·
  simp only [decide_eq_true_eq] at hlt
  have hlt' : i < l.length := by omega
  have hdrop : l.drop i = l.getD i 0 :: l.drop (i + 1) := by
   rw [List.drop_eq_getElem_cons hlt', List.getD_eq_getElem?_getD, List.getElem?_eq_getElem hlt'];rfl
  rw [hdrop, QD0] at h5
  have hc255 := (l.getD i 0).toNat_lt
  have fin : ∀ (same' : Nat) (cap' : Nat) (a' : Option Addr) (out' : List UInt8) (w3 : World) (k : List It), Heap w [] w3 [Res.row 5 1 a' out'.length cap' (Qao out')] -> out'.length <= 262144 -> same' <= 4 -> Tail out' same' -> decS [] 0 l = decS out' same' (l.drop (i + 1)) ->
    selK [0, 4, 5, 6] [(0, Str l), (4, .slice a' out'.length cap'), (5, .int .i64 same'), (6, .int .i64 (↑i + 1))] fun e => ∃ m, m < l.length - i /\ QId w l m e w3 := by
   intro same' cap' a' out' w3 k g1 g2 g3 g4 g5
   simp only [Qs3, Qnn, Qs4, Qno, ↓reduceIte, reduceEqDiff]
   exact ⟨l.length - (i + 1), by omega, i + 1, same', cap', a', out', rfl, g1, by omega, g2, g3, g4, g5, rfl⟩
  refine Qac ?_
  refine VB ?_
  by_cases hsame : same = 4
  ·
   subst hsame
   rw [if_pos rfl] at h5
   refine VS [0, 4, 5, 6, 17] ?_
   refine Qai rfl rfl (fun _ => ?_) (fun h => absurd h (by simp))
   refine VQ [0, 4, 5, 6, 25] fun K hK => ?_
   refine ⟨by omega, I64.mk (by omega) (by omega), I64.mk (by omega) (by omega), ?_⟩
   apply hK;clear hK
   generalize hc : l.getD i 0 = c at h5 hc255 ⊢
   by_cases hbig : 262144 < out.length + c.toNat
   ·
    rw [if_pos hbig] at h5
    refine Qai rfl rfl (fun _ => ?_) (fun h => ?_)
    ·
     refine VS [2, 3] ?_
     refine Qah (Qa4 rfl rfl rfl ⟨hH.sub (by simp), ?_⟩)
     rw [h5]
    ·
     simp only [decide_eq_false_iff_not] at h;omega
   ·
    rw [if_neg hbig] at h5
    refine Qai rfl rfl (fun h => ?_) (fun _ => ?_)
    ·
     simp only [decide_eq_true_eq] at h;omega
    refine Qac ?_
    have h4' := h4.1
    obtain ⟨g, rfl⟩ := Qdz (hH.at 0 rfl) (by omega)
    refine VQ [0, 4, 6, 7] fun K hK => ?_
    rw [hc]
    refine ⟨by omega, I64.mk (by omega) (by omega), ?_⟩
    refine Qbw Tryz.underlying43 zi5 ?_
    refine Qs ?_
    refine ⟨c.toNat, c.toNat, ⟨rfl, rfl, by omega, by omega, by omega⟩, ?_⟩
    have hH2 := hH.row 5 (n := c.toNat) (cap := c.toNat) (sz := 1) (List.replicate c.toNat (.int .u8 0)) [] (by simp) (by simp) (by omega) (by omega)
    rw [List.append_nil, bytesV_zero] at hH2
    rw [bytesV_zero]
    generalize w2.alloc (Obj.cells (Qao (List.replicate c.toNat 0)).toArray 5) = w3 at hH2 ⊢
    generalize hg2 : w2.heap.size = g2 at hH2 ⊢
    apply hK;clear hK
    refine VS [0, 4, 6, 7, 8] ?_
    generalize hb : out.getLastD 0 = b at h5
    (repeat refine Qaw ?_)
    refine Qdb [0, 4, 6, 7] (fun e w' => Is e [(0, Str l), (4, .slice (some ⟨g, 0, none⟩) out.length cap), (6, .int .i64 i), (7, .slice (some ⟨g2, 0, none⟩) c.toNat c.toNat)] /\ Heap w [] w' [Res.row 5 1 (some ⟨g2, 0, none⟩) c.toNat c.toNat (Qao (List.replicate c.toNat b)), Res.row 5 1 (some ⟨g, 0, none⟩) out.length cap (Qao out)]) ?_ ?_
    ·
     refine Qag ?_
     refine Qaj [0, 4, 6, 7, 8] (fun m e w' => ∃ (n : Nat) (ms : List UInt8), Is e [(0, Str l), (4, .slice (some ⟨g, 0, none⟩) out.length cap), (6, .int .i64 i), (7, .slice (some ⟨g2, 0, none⟩) c.toNat c.toNat), (8, .int .i64 n)] /\ Heap w [] w' [Res.row 5 1 (some ⟨g2, 0, none⟩) c.toNat c.toNat (Qao ms), Res.row 5 1 (some ⟨g, 0, none⟩) out.length cap (Qao out)] /\ n <= c.toNat /\ ms.length = c.toNat /\ ms.take n = List.replicate n b /\ m = c.toNat - n) c.toNat ?_ ?_
     ·
      simp only [Qs3, Qnn, Qs4, Qno, ↓reduceIte, reduceEqDiff]
      exact ⟨0, List.replicate c.toNat 0, rfl, hH2, by omega, by simp, rfl, rfl⟩
     rintro m e w4 ⟨n, ms, rfl, hH3, k1, k2, k3, rfl⟩
     refine VS [0, 4, 6, 7, 8, 34] ?_
     refine Qai rfl rfl (fun hn => ?_) (fun hn => ?_)
     ·
      simp only [decide_eq_true_eq] at hn
      refine Qac ?_
      (repeat refine Qaw ?_)
      refine Qag (Qac (Qar ?_))
      have hcap := (QJl (hH3.at 1 rfl)).1
      refine VH (holes [g2] w4) (Ext.hole _ _) [0, 4, 6, 7, 8] [(0, true), (1, true), (2, true), (3, true), (4, true), (5, true), (6, true), (7, true), (8, true), (9, false), (10, false), (11, false)] fun K hK => ?_
      refine ⟨by omega, I64.mk (by omega) (by omega), by omega, ?_⟩
      refine Qnu ?_
      refine Qs ?_
      rw [if_neg (show ¬ c.toNat = n by omega), if_neg (show ¬ cap = out.length - 4 by omega)]
      simp only [Option.map_some]
      have hsrc := (Qa8 (hH3.at 1 rfl)).drop rfl (out.length - 4) (by omega)
      rw [Nat.mul_one, bytesV_drop, Tail.drop h4, hb, show out.length - (out.length - 4) = 4 by omega] at hsrc
      rw [show out.length - (out.length - 4) = 4 by omega]
      refine Qim hH3 0 rfl Tryz.underlying43 sz5 (off := n) rfl ⟨rfl, hsrc, 5, Tryz.underlying43⟩ (Qik _) (by rw [Qfo, k2];omega) fun w5 hu hH4 => ?_
      refine Qs ?_
      have hkk : min 4 (c.toNat - n) <= c.toNat - n := Nat.min_le_right _ _
      have hkk0 : 0 < min 4 (c.toNat - n) := by omega
      have hk4 : min 4 (c.toNat - n) <= 4 := Nat.min_le_left _ _
      generalize min 4 (c.toNat - n) = kk at hH4 hkk hkk0 hk4 ⊢
      refine ⟨hu.extH, I64.mk (by omega) (by omega), ?_⟩
      apply hK;clear hK
      refine Qad ?_
      simp only [Qs3, Qnn, Qs4, Qno, ↓reduceIte, reduceEqDiff]
      have hset : (Qao ms).take n ++ (Qao (List.replicate 4 b)).take (kk * 1) ++ (Qao ms).drop (n + kk * 1) = Qao (ms.take n ++ List.replicate kk b ++ ms.drop (n + kk)) := by
       rw [Nat.mul_one, bytesV_take, bytesV_take, bytesV_drop, List.take_replicate, Nat.min_eq_left hk4, Qdq, Qdq]
      rw [hset] at hH4
      obtain ⟨r1, r2⟩ := QLm n c.toNat kk b (by omega) ms k2 k3
      exact ⟨c.toNat - (n + kk), by omega, n + kk, _, rfl, hH4, by omega, r1, r2, rfl⟩
     ·
      simp only [decide_eq_false_iff_not] at hn
      refine Qak rfl ?_
      refine Qad ?_
      refine Qs ?_
      refine ⟨rfl, ?_⟩
      have hms : ms = List.replicate c.toNat b := by
       rw [<- List.take_of_length_le (show ms.length <= n by omega), k3];congr 1;omega
      rw [hms] at hH3
      exact hH3
    ·
     rintro e w4 ⟨rfl, hH3⟩
     refine VQ [0, 4, 6] fun K hK => ?_
     refine Qau ?_
     refine Qs ?_
     refine Qz5 hH3 1 rfl Tryz.underlying43 zi5 (t := List.replicate c.toNat b) (by simp) (by simpa using Qa8 (hH3.at 0 rfl)) (fun h => by simp;omega) fun a' cap' w5 hc' hH4 => ?_
     apply hK;clear hK
     refine VS [0, 4, 5, 6] ?_
     refine Qak rfl ?_
     refine VS [0, 4, 5, 6] ?_
     refine Qad ?_
     exact fin 0 cap' a' _ w5 [] (hH4.sub (by simp)) (by simp;omega) (by omega) (Tail.zero _) h5
  ·
   rw [if_neg hsame] at h5
   generalize hsm : (if 0 < same /\ out.getLastD 0 = l.getD i 0 then same + 1 else 1) = same' at h5
   have hsame' : same' <= 4 /\ Tail (out ++ [l.getD i 0]) same' := by
    rw [<- hsm]
    split
    ·
     rename_i h;exact ⟨by omega, Tail.succ h4 h.2⟩
    ·
     exact ⟨by omega, Tail.one _ _⟩
   refine VS [0, 4, 5, 6, 17] ?_
   refine Qai rfl rfl (fun h => absurd h (by simp;omega)) (fun _ => ?_)
   refine Qac ?_
   refine Qaw (Qdb [0, 4, 5, 6] (fun e w' => Is e [(0, Str l), (4, .slice a out.length cap), (5, .int .i64 same'), (6, .int .i64 i)] /\ Is w' w2) ?_ ?_)
   ·
    have yes : 0 < same /\ out.getLastD 0 = l.getD i 0 -> VC ⟨Tryz.prog, Tryz.f108, fun v w' => Heap w [] w' [] /\ v = .tuple #[Str (decS [] 0 l).1, .int .i64 (decS [] 0 l).2], 78⟩ [] [] w2 -> True := fun _ _ => trivial
    clear yes
    by_cases hs0 : 0 < same
    ·
     have h4' := h4.1
     obtain ⟨g, rfl⟩ := Qdz (hH.at 0 rfl) (by omega)
     have hcell : w2.cell? ⟨g, out.length - 1, none⟩ = some (.int .u8 (out.getLastD 0).toNat) := by
      refine Qba (hH.at 0 rfl) ?_
      have h1' := h4.2 0 hs0
      simp only [Qao, List.getElem?_map]
      rw [show out.length - 1 = out.length - 1 - 0 by omega, h1']
      rfl
     refine Vq [0, 4, 5, 6, 62] fun K hK => ?_
     refine ⟨fun _ => ⟨by omega, I64.mk (by omega) (by omega), by omega, _, hcell, ?_⟩, fun h => absurd (show (0 : Int) < same by omega) h⟩
     refine Qs ?_
     apply hK;clear hK
     refine VD (fun h => ?_) (fun h => ?_)
     ·
      have hl : out.getLastD 0 = l.getD i 0 := (UInt8.toNat_inj.1 (by omega))
      rw [if_pos ⟨hs0, hl⟩] at hsm
      subst hsm
      refine VS [0, 4, 5, 6] ?_
      refine Qad ?_
      refine Qs ?_
      exact ⟨rfl, rfl⟩
     ·
      have hl : ¬ out.getLastD 0 = l.getD i 0 := fun h' => h (by rw [h'])
      rw [if_neg (fun h => hl h.2)] at hsm
      subst hsm
      refine VS [0, 4, 5, 6] ?_
      refine Qad ?_
      refine Qs ?_
      exact ⟨rfl, rfl⟩
    ·
     have : same = 0 := by omega
     subst this
     rw [if_neg (by omega)] at hsm
     subst hsm
     refine Vq [0, 4, 5, 6, 62] fun K hK => ?_
     refine ⟨fun h => absurd h (by omega), fun _ => ?_⟩
     apply hK;clear hK
     refine Qai rfl rfl (fun h => by cases h) (fun _ => ?_)
     refine VS [0, 4, 5, 6] ?_
     refine Qad ?_
     refine Qs ?_
     exact ⟨rfl, rfl⟩
   ·
    rintro e w3 ⟨rfl, rfl⟩
    refine VS [0, 4, 5, 6, 67] ?_
    by_cases hfull : out.length = 262144
    ·
     rw [if_pos hfull] at h5
     refine Qai rfl rfl (fun _ => ?_) (fun h => absurd h (by simp;omega))
     refine VS [2, 3] ?_
     refine Qah (Qa4 rfl rfl rfl ⟨hH.sub (by simp), ?_⟩)
     rw [h5]
    ·
     rw [if_neg hfull] at h5
     refine Qai rfl rfl (fun h => absurd h (by simp;omega)) (fun _ => ?_)
     refine Qac ?_
     refine VQ [0, 4, 5, 6] fun K hK => ?_
     refine ⟨by omega, ?_⟩
     refine Qde (xs := [.tmp 71]) Tryz.underlying43 sz5 rfl rfl rfl (by omega) ?_
     refine Qs ?_
     refine ⟨by simp [Value.cells], ?_⟩
     refine Qau ?_
     refine Qs ?_
     refine Qhc hH 0 (l.getD i 0) rfl Tryz.underlying43 zi5 rfl (fun h => by simp;omega) fun a' cap' w5 hc' hH4 => ?_
     apply hK;clear hK
     refine Qar ?_
     refine VS [0, 4, 5, 6] ?_
     refine Qad ?_
     exact fin same' cap' a' _ w5 [] hH4 (by simp;omega) hsame'.1 hsame'.2 h5
 ·
  simp only [decide_eq_false_iff_not] at hge
  rw [List.drop_of_length_le (by omega)] at h5
  refine Qak rfl ?_
  refine VS [4, 75, 5] ?_
  by_cases hsame : same = 4
  ·
   subst hsame
   refine Qai rfl rfl (fun _ => ?_) (fun h => absurd h (by simp))
   refine VS [2, 3] ?_
   refine Qah (Qa4 rfl rfl rfl ⟨hH.sub (by simp), ?_⟩)
   rw [h5];rfl
  ·
   refine Qai rfl rfl (fun h => absurd h (by simp;omega)) (fun _ => ?_)
   refine Qac ?_
   refine VQ [2, 3] fun K hK => ?_
   refine ⟨out, hH.readsBytes 0 rfl, ?_⟩
   apply hK;clear hK
   refine Qah (Qa4 rfl rfl rfl ⟨hH.sub (by simp), ?_⟩)
   rw [h5];simp [decS, hsame]
def cost (n : Nat) : Nat := if n <= 3 then n else 5
def fitF : Nat -> List UInt8 -> Int -> Nat
 | 0, _, _ => 0
 | _ + 1, [], _ => 0
 | f + 1, x :: l, left =>
  if left < (cost (Qcw (x :: l)) : Int) then (max 0 (min left 3)).toNat
  else Qcw (x :: l) + fitF f ((x :: l).drop (Qcw (x :: l))) (left - (cost (Qcw (x :: l)) : Int))
theorem QD1 (f : Nat) : ∀ (g : Nat) (l : List UInt8) (left : Int), l.length <= f -> l.length <= g -> fitF f l left = fitF g l left := by
 induction f with
 | zero =>
  intro g l left h1 h2
  have : l = [] := List.eq_nil_of_length_eq_zero (by omega)
  subst this
  cases g <;> rfl
 | succ f ih =>
  intro g l left h1 h2
  cases l with
  | nil => cases g <;> rfl
  | cons x l =>
   cases g with
   | zero => simp at h2
   | succ g =>
    have hp := Qdk (x :: l) (by simp)
    simp only [fitF]
    simp only [List.length_cons] at h1 h2
    rw [ih g ((x :: l).drop (Qcw (x :: l))) _ (by simp;omega) (by simp;omega)]
def fit (l : List UInt8) (left : Int) : Nat := fitF l.length l left
theorem Qxh (left : Int) : fit [] left = 0 := rfl
theorem Qsa (l : List UInt8) (left : Int) (h : l ≠ []) :
  fit l left = if left < (cost (Qcw l) : Int) then (max 0 (min left 3)).toNat else Qcw l + fit (l.drop (Qcw l)) (left - (cost (Qcw l) : Int)) := by
 cases l with
 | nil => exact absurd rfl h
 | cons x l =>
  have hp := Qdk (x :: l) (by simp)
  rw [fit, List.length_cons, fitF]
  rw [QD1 l.length ((x :: l).drop (Qcw (x :: l))).length ((x :: l).drop (Qcw (x :: l))) _ (by simp;omega) (Nat.le_refl _)]
  rfl
theorem QHc (l : List UInt8) (most : Int) (hm : I64 most) (w : World) (hs : l.length <= 140737488355328) :
  Does Tryz.prog 123 #[Str l, .int .i64 most] w fun v w' => w' = w /\ v = .int .i64 (fit l most) := by
 refine En [Str l, .int .i64 most] 40 Tryz.func123 ?_
 have hm1 := hm.1
 have hm2 := hm.2
 refine VS [0, 1] ?_
 refine VS [0, 1, 5] ?_
 refine VS [0, 1, 5, 6] ?_
 refine VB ?_
 refine Qaj [0, 1, 5, 6] (fun m e w' => ∃ (i : Nat) (used : Int), Is e [(0, Str l), (1, .int .i64 most), (5, .int .i64 used), (6, .int .i64 i)] /\ Is w' w /\ i <= l.length /\ 0 <= used /\ used <= 2 * i /\ (used = 0 ∨ used <= most) /\ fit l most = i + fit (l.drop i) (most - used) /\ m = l.length - i) l.length ?_ ?_
 ·
  refine Qs ?_
  exact ⟨0, 0, rfl, rfl, by omega, by omega, by omega, .inl rfl, by simp, by omega⟩
 rintro m e w' ⟨i, used, rfl, rfl, g1, g2, g3, g4, g5, rfl⟩
 refine VS [0, 1, 5, 6, 12] ?_
 refine Qai rfl rfl (fun hlt => ?_) (fun hge => ?_)
 ·
  simp only [decide_eq_true_eq] at hlt
  refine Qac (Qag ?_)
  have hne : l.drop i ≠ [] := by intro h;have := congrArg List.length h;simp at this;omega
  have hp := Qdk _ hne
  have hle := Qg2 (l.drop i)
  simp only [List.length_drop] at hle
  have hst := Qsa (l.drop i) (most - used) hne
  generalize hn : Qcw (l.drop i) = n at hp hle hst
  have hc0 : (cost n : Int) <= 2 * n := by simp only [cost];split <;> omega
  have hc1 : 0 <= (cost n : Int) := by omega
  refine VQ [0, 1, 5, 6, 7] fun K hK => ?_
  refine Qaa Tryz.call60 ?_;refine Qs ?_;refine CallK.mk (Qy0 l i w' (by omega) (by omega)) ?_
  rintro v w2 ⟨rfl, rfl⟩
  rw [hn]
  apply hK;clear hK
  refine VS [0, 1, 5, 6, 7, 8] ?_
  refine VS [0, 1, 5, 6, 7, 8, 19] ?_
  refine Qdb [0, 1, 5, 6, 7, 8] (fun e w3 => Is e [(0, Str l), (1, .int .i64 most), (5, .int .i64 used), (6, .int .i64 i), (7, .int .i64 n), (8, .int .i64 (cost n : Nat))] /\ Is w3 w2) ?_ ?_
  ·
   refine Qai rfl rfl (fun hn4 => ?_) (fun hn4 => ?_)
   ·
    simp only [decide_eq_true_eq] at hn4
    refine VS [0, 1, 5, 6, 7, 8] ?_
    refine Qad ?_
    refine Qs ?_
    exact ⟨by rw [cost, if_neg (by omega)];rfl, rfl⟩
   ·
    simp only [decide_eq_false_iff_not] at hn4
    refine Qac (Qad ?_)
    refine Qs ?_
    exact ⟨by rw [cost, if_pos (by omega), Int.min_eq_left (by omega)];rfl, rfl⟩
  ·
   rintro e w3 ⟨rfl, rfl⟩
   refine VS [0, 1, 5, 6, 7, 8, 24] ?_
   refine Qai rfl rfl (fun hc => ?_) (fun hc => ?_)
   ·
    simp only [decide_eq_true_eq] at hc
    refine VS [4] ?_
    refine Qah (Qat rfl rfl ⟨rfl, ?_⟩)
    rw [g5, hst, if_pos (by omega)]
    have : ((i + (max 0 (min (most - used) 3)).toNat : Nat) : Int) = i + max 0 (min (most - used) 3) := by omega
    rw [this]
   ·
    simp only [decide_eq_false_iff_not] at hc
    refine Qac ?_
    refine VS [0, 1, 5, 6, 7] ?_
    refine VS [0, 1, 5, 6] ?_
    refine Qar (Qad ?_)
    refine Qs ?_
    refine ⟨l.length - (i + n), by omega, i + n, used + cost n, rfl, rfl, by omega, by omega, by omega, .inr (by omega), ?_, rfl⟩
    rw [g5, hst, if_neg (by omega), List.drop_drop]
    have e1 : most - used - (cost n : Int) = most - (used + (cost n : Int)) := by omega
    rw [e1]
    omega
 ·
  simp only [decide_eq_false_iff_not] at hge
  refine Qak rfl ?_
  refine VS [4] ?_
  refine Qah (Qat rfl rfl ⟨rfl, ?_⟩)
  have : i = l.length := by omega
  rw [g5, this]
  simp [Qxh]
theorem QHd {l : List Nat} {n i : Nat} (h : i ∈ idxs l n) : i < l.length := (Qm8.1 h).1
theorem QD2 (l : List Nat) : ∀ (r : List Bool) (n code : Nat) (q : Nat × Nat), Qfs l r n code = .ok q -> q.1 < l.length /\ n < q.2 /\ q.2 <= n + r.length := by
 intro r
 induction r with
 | nil => intro n code q h;simp [Qfs] at h
 | cons b r ih =>
  intro n code q h
  rw [Qfs] at h
  split at h
  ·
   rename_i hc
   cases h
   refine ⟨?_, by simp, by simp⟩
   have hlt : 2 * code + b.toNat - Qbi l (n + 1) < (idxs l (n + 1)).length := by unfold cnt at hc;omega
   have := List.getElem_mem hlt
   rw [List.getD_eq_getElem?_getD, List.getElem?_eq_getElem hlt]
   exact QHd this
  ·
   split at h
   ·
    have := ih _ _ _ h
    simp only [List.length_cons]
    omega
   ·
    cases h
theorem QBb (l : List Nat) : ∀ (r : List Bool) (n code : Nat) (e : Int), Qfs l r n code = .error e -> e ≠ 0 := by
 intro r
 induction r with
 | nil => intro n code e h;simp [Qfs] at h;omega
 | cons b r ih =>
  intro n code e h
  rw [Qfs] at h
  split at h
  ·
   cases h
  ·
   split at h
   ·
    exact ih _ _ _ h
   ·
    cases h;decide
theorem Qut {l : List Nat} {bits : List Bool} {at_ : Nat} {q : Nat × Nat} (h : Qhf l bits at_ = .ok q) : q.1 < l.length /\ at_ < q.2 /\ q.2 <= bits.length := by
 unfold Qhf at h
 split at h
 ·
  rename_i p hp
  cases h
  have := QD2 l _ _ _ _ hp
  rw [List.length_drop] at this
  simp only
  omega
 ·
  cases h
theorem QBc {l : List Nat} {bits : List Bool} {at_ : Nat} {e : Int} (h : Qhf l bits at_ = .error e) : e ≠ 0 := by
 unfold Qhf at h
 split at h
 ·
  cases h
 ·
  rename_i e' hp;cases h;exact QBb l _ _ _ _ hp
theorem Qop {l : List Nat} {bits : List Bool} {fin : Nat} : ∀ (n at_ : Nat) (q : List Nat × Nat), at_ <= bits.length -> Qd9 l bits fin n at_ = .ok q -> (∀ x ∈ q.1, x < l.length) /\ q.1.length <= n /\ q.2 <= bits.length /\ at_ <= q.2 := by
 intro n
 induction n with
 | zero => intro at_ q ha h;rw [Qd9] at h;cases h;simp [ha]
 | succ n ih =>
  intro at_ q ha h
  rw [Qd9] at h
  cases hn : Qhf l bits at_ with
  | error e => rw [hn] at h;cases h
  | ok p =>
   rw [hn] at h
   simp only at h
   obtain ⟨h1, h2, h3⟩ := Qut hn
   split at h
   ·
    cases h
    refine ⟨by simpa using h1, by simp, h3, by simp only;omega⟩
   ·
    cases hr : Qd9 l bits fin n p.2 with
    | error e => rw [hr] at h;cases h
    | ok q' =>
     rw [hr] at h
     cases h
     obtain ⟨g1, g2, g3, g4⟩ := ih _ _ h3 hr
     refine ⟨fun x hx => ?_, by simp only [List.length_cons];omega, g3, by simp only;omega⟩
     rcases List.mem_cons.1 hx with rfl | hx
     ·
      exact h1
     ·
      exact g1 x hx
theorem QBd {l : List Nat} {bits : List Bool} {fin : Nat} : ∀ (n at_ : Nat) (e : Int), Qd9 l bits fin n at_ = .error e -> e ≠ 0 := by
 intro n
 induction n with
 | zero => intro at_ e h;rw [Qd9] at h;cases h
 | succ n ih =>
  intro at_ e h
  rw [Qd9] at h
  cases hn : Qhf l bits at_ with
  | error e' => rw [hn] at h;cases h;exact QBc hn
  | ok p =>
   rw [hn] at h
   simp only at h
   split at h
   ·
    cases h
   ·
    cases hr : Qd9 l bits fin n p.2 with
    | error e' => rw [hr] at h;cases h;exact ih _ _ hr
    | ok q' => rw [hr] at h;cases h
theorem Quu {T : List (List Nat)} {bits : List Bool} {fin N : Nat} (hT : ∀ t, t < T.length -> (T.getD t []).length = N) : ∀ (P : List Nat) (at_ : Nat) (q : List Nat × Nat), (∀ k ∈ P, k < T.length) -> at_ <= bits.length -> Qfh T bits fin P at_ = .ok q ->
  (∀ x ∈ q.1, x < N) /\ q.1.length <= 50 * P.length /\ q.2 <= bits.length := by
 intro P
 induction P with
 | nil => intro at_ q _ _ h;rw [Qfh] at h;cases h
 | cons p P ih =>
  intro at_ q hP ha h
  rw [Qfh] at h
  have hp := hT p (hP p (by simp))
  cases hn : Qd9 (T.getD p []) bits fin 50 at_ with
  | error e => rw [hn] at h;cases h
  | ok q1 =>
   rw [hn] at h
   simp only at h
   obtain ⟨h1, h2, h3, h4⟩ := Qop _ _ _ ha hn
   rw [hp] at h1
   split at h
   ·
    cases h
    refine ⟨h1, by simp only [List.length_cons];omega, h3⟩
   ·
    cases hr : Qfh T bits fin P q1.2 with
    | error e => rw [hr] at h;cases h
    | ok q' =>
     rw [hr] at h
     cases h
     obtain ⟨g1, g2, g3⟩ := ih _ _ (fun k hk => hP k (by simp [hk])) h3 hr
     refine ⟨fun x hx => ?_, by simp only [List.length_cons, List.length_append];omega, g3⟩
     rcases List.mem_append.1 hx with hx | hx
     ·
      exact h1 x hx
     ·
      exact g1 x hx
theorem Qqx {T : List (List Nat)} {bits : List Bool} {fin : Nat} : ∀ (P : List Nat) (at_ : Nat) (e : Int), Qfh T bits fin P at_ = .error e -> e ≠ 0 := by
 intro P
 induction P with
 | nil => intro at_ e h;rw [Qfh] at h;cases h;decide
 | cons p P ih =>
  intro at_ e h
  rw [Qfh] at h
  cases hn : Qd9 (T.getD p []) bits fin 50 at_ with
  | error e' => rw [hn] at h;cases h;exact QBd _ _ _ hn
  | ok q1 =>
   rw [hn] at h
   simp only at h
   split at h
   ·
    cases h
   ·
    cases hr : Qfh T bits fin P q1.2 with
    | error e' => rw [hr] at h;cases h;exact ih _ _ hr
    | ok q' => rw [hr] at h;cases h
theorem QLn {n most : Int} (hn : n <= 256) : ∀ (r out : List Int) (wt : Nat), (out.length : Int) <= most -> (∀ x ∈ out, 0 <= x /\ x <= 256) -> ((zdec n most out wt r).1.length : Int) <= most /\ ∀ x ∈ (zdec n most out wt r).1, 0 <= x /\ x <= 256 := by
 intro r
 induction r with
 | nil => intro out wt h _;rw [zdec];simp;omega
 | cons s r ih =>
  intro out wt h ho
  rw [zdec]
  split
  ·
   simp;omega
  ·
   split
   ·
    split
    ·
     simp;omega
    ·
     refine ih _ _ ?_ ?_
     ·
      rename_i h1 h2 h3
      have h4 : 0 <= (s + 1) * (wt : Int) := Int.mul_nonneg (by omega) (by omega)
      rw [List.length_append, List.length_replicate]
      omega
     ·
      intro x hx
      rcases List.mem_append.1 hx with hx | hx
      ·
       exact ho x hx
      ·
       rw [List.mem_replicate] at hx;omega
   ·
    split
    ·
     cases r with
     | nil => exact ⟨h, ho⟩
     | cons x r => rw [zend];split <;> (simp;omega)
    ·
     split
     ·
      simp;omega
     ·
      refine ih _ _ (by rw [List.length_append, List.length_singleton];omega) fun x hx => ?_
      rcases List.mem_append.1 hx with hx | hx
      ·
       exact ho x hx
      ·
       simp at hx;omega
theorem QBe {n most : Int} (l : List Int) : (Qen n most l).1.length <= 262144 /\ ∀ x ∈ (Qen n most l).1, 0 <= x /\ x <= 256 := by
 unfold Qen
 split
 ·
  simp
 ·
  have := QLn (n := n) (most := most) (by omega) l [] 1 (by simp;omega) (by simp)
  exact ⟨by omega, this.2⟩
theorem Qsb : ∀ (l : List Int) (li out : List UInt8), Qdt li l = some out -> out.length = l.length := by
 intro l
 induction l with
 | nil => intro li out h;simp [Qdt] at h;subst h;rfl
 | cons x l ih =>
  intro li out h
  unfold Qdt at h
  split at h
  ·
   simp only [Option.map_eq_some_iff] at h
   obtain ⟨o, ho, rfl⟩ := h
   simp [ih _ _ ho]
  ·
   cases h
theorem Quv (u : List UInt8) (l : List Int) : (Qdr u l).1.length <= l.length := by
 unfold Qdr
 split
 ·
  split
  ·
   simp
  ·
   rename_i out h;exact Nat.le_of_eq (Qsb _ _ _ h)
 ·
  simp
theorem QBf (L : List UInt8) (P : List Nat) : ∀ (k row : Nat), (Qg1 L P k row).length = k := by
 intro k
 induction k with
 | zero => intro row;rfl
 | succ k ih => intro row;simp [Qg1, ih]
theorem QHe (L : List UInt8) (row : Int) : (bckS L row).1.length <= 262144 := by
 unfold bckS
 split
 ·
  simp
 ·
  split
  ·
   simp
  ·
   simp only [QBf];omega
theorem QLo : ∀ (l out : List UInt8) (k : Nat), out.length <= 262144 -> (decS out k l).1.length <= 262144 := by
 intro l
 induction l with
 | nil => intro out k h;rw [decS];split <;> simp <;> omega
 | cons c l ih =>
  intro out k h
  rw [decS]
  split
  ·
   split
   ·
    simp
   ·
    exact ih _ _ (by simp;omega)
  ·
   split
   ·
    simp
   ·
    exact ih _ _ (by simp;omega)
theorem Quw (i : Nat) (row : List Bool) : (Qg0 i row).length <= 16 := by
 unfold Qg0
 rw [List.length_map]
 have := List.length_filter_le (fun k => row.getD k false) (List.range 16)
 simpa using this
theorem QLp {bits : List Bool} : ∀ (r : List Bool) (i at_ : Nat) (q : List UInt8 × Nat), at_ <= bits.length -> stGo bits r i at_ = .ok q -> q.2 <= bits.length /\ q.1.length <= 16 * r.length := by
 intro r
 induction r with
 | nil => intro i at_ q ha h;rw [stGo] at h;cases h;simp [ha]
 | cons b r ih =>
  intro i at_ q ha h
  cases b with
  | false => rw [stGo] at h;have := ih _ _ _ ha h;simp only [List.length_cons];omega
  | true =>
   rw [stGo] at h
   split at h
   ·
    cases h
   ·
    cases hr : stGo bits r (i + 1) (at_ + 16) with
    | error e => rw [hr] at h;cases h
    | ok q' =>
     rw [hr] at h
     cases h
     have h1 := ih _ _ _ (by omega) hr
     have h2 := Quw i ((bits.drop at_).take 16)
     simp only [List.length_cons, List.length_append]
     omega
theorem QHf {bits : List Bool} : ∀ (r : List Bool) (i at_ : Nat) (e : Int), stGo bits r i at_ = .error e -> e ≠ 0 := by
 intro r
 induction r with
 | nil => intro i at_ e h;rw [stGo] at h;cases h
 | cons b r ih =>
  intro i at_ e h
  cases b with
  | false => rw [stGo] at h;exact ih _ _ _ h
  | true =>
   rw [stGo] at h
   split at h
   ·
    cases h;decide
   ·
    cases hr : stGo bits r (i + 1) (at_ + 16) with
    | error e' => rw [hr] at h;cases h;exact ih _ _ _ hr
    | ok q' => rw [hr] at h;cases h
theorem Qj9 {bits : List Bool} {at_ : Nat} {q : List UInt8 × Nat} (h : Qdf bits at_ = .ok q) : q.2 <= bits.length /\ 1 <= q.1.length /\ q.1.length <= 256 := by
 unfold Qdf at h
 split at h
 ·
  cases h
 ·
  cases hr : stGo bits ((bits.drop at_).take 16) 0 (at_ + 16) with
  | error e => rw [hr] at h;cases h
  | ok q' =>
   rw [hr] at h
   simp only at h
   split at h
   ·
    cases h
   ·
    rename_i hne
    cases h
    have h1 := QLp _ _ _ _ (by omega) hr
    have h2 : ((bits.drop at_).take 16).length <= 16 := by rw [List.length_take];omega
    have h3 : 0 < q.1.length := by
     cases hq : q.1 with
     | nil => exact absurd hq hne
     | cons a b => simp
    omega
theorem Qmi {bits : List Bool} {at_ : Nat} {e : Int} (h : Qdf bits at_ = .error e) : e ≠ 0 := by
 unfold Qdf at h
 split at h
 ·
  cases h;decide
 ·
  cases hr : stGo bits ((bits.drop at_).take 16) 0 (at_ + 16) with
  | error e' => rw [hr] at h;cases h;exact QHf _ _ _ _ hr
  | ok q' =>
   rw [hr] at h
   simp only at h
   split at h
   ·
    cases h;decide
   ·
    cases h
theorem QD3 (n most : Int) (l : List Int) (la : Option Addr) (lc : Nat) (hn : I64 n) (hm : I64 most) (w : World) (hl : RS w la l.length 1 (Qbn l)) (hs : l.length <= 2147483640) (hi : ∀ v ∈ l, I64 v) :
  Does Tryz.prog 105 #[.int .i64 n, .int .i64 most, .slice la l.length lc] w (IntsErr (Qen n most l) w) := by
 obtain ⟨hn1, hn2⟩ := hn
 obtain ⟨hm1, hm2⟩ := hm
 refine En [.int .i64 n, .int .i64 most, .slice la l.length lc] 98 Tryz.func105 ?_
 refine VQi [0, 1, 2] fun K hK => ?_
 apply hK;clear hK
 refine VQi [0, 1, 2, 26] fun K hK => ?_
 suffices out : ∀ b : Bool, (b = true ↔ n < 1 ∨ 256 < n ∨ most < 0 ∨ 262144 < most) -> K [(0, .int .i64 n), (1, .int .i64 most), (2, .slice la l.length lc), (26, .bool b)] w by (repeat' (first | exact out _ _ (by first | omega | (simp;done) | (simp;omega)) | exact out _ (by first | omega | (simp;done) | (simp;omega)) | refine ⟨fun _ => ?_, fun _ => ?_⟩ | refine Qo ?_))
 intro b hb
 apply hK;clear hK
 refine Qai rfl rfl (fun h => ?_) (fun h => Qac ?_)
 ·
  refine VQi [6, 7] fun K hK => ?_
  apply hK;clear hK
  refine Qah (Qa4 rfl rfl rfl ?_)
  rw [Qen, if_pos (hb.1 h)]
  exact IntsErr.nil (Heap.start w) 2
 have hg : ¬ (n < 1 ∨ 256 < n ∨ most < 0 ∨ 262144 < most) := fun h' => by rw [hb.2 h'] at h;cases h
 clear h hb
 rw [Qen, if_neg hg]
 refine VQi [0, 1, 2, 8] fun K hK => ?_
 apply hK;clear hK
 refine VQi [0, 1, 2, 8, 9, 10] fun K hK => ?_
 apply hK;clear hK
 refine VQi [0, 1, 2, 8, 9, 10, 27, 28, 29] fun K hK => ?_
 apply hK;clear hK
 ((repeat refine Qaw ?_);refine Qag ?_)
 refine Qaj [0, 1, 2, 8, 9, 10, 27, 28, 29] (fun m e w' => ∃ (i run wt cap : Nat) (a : Option Addr) (o : List Int), Is e [(0, .int .i64 n), (1, .int .i64 most), (2, .slice la l.length lc), (8, .slice a o.length cap), (9, .int .i64 run), (10, .int .i64 wt), (27, .slice la l.length lc), (28, .int .i64 l.length), (29, .int .i64 i)] /\ Heap w [] w' [Res.row 3 1 a o.length cap (Qbn o)] /\ i <= l.length /\ (o.length : Int) + run <= most /\ wt <= 2 * most + 1 /\ 1 <= wt /\ zdec n most [] 1 l = zdec n most (o ++ List.replicate run 0) wt (l.drop i) /\ m = l.length - i) l.length ?_ ?_
 ·
  refine Qi ?_
  exact ⟨0, 0, 1, 0, none, [], rfl, Qm1, by omega, by simp;omega, by omega, by omega, rfl, rfl⟩
 rintro m e w2 ⟨i, run, wt, cap, a, o, rfl, hH, g1, g2, g3, g4, g5, rfl⟩
 refine VQi [0, 1, 2, 8, 9, 10, 27, 28, 29, 30] fun K hK => ?_
 apply hK;clear hK
 (repeat refine Qaw ?_)
 refine VD (fun h => ?_) (fun h => ?_)
 ·
  refine Qac ?_
  ((repeat refine Qaw ?_);refine Qag ?_)
  obtain ⟨p, rfl⟩ := Qcy hl (by omega)
  have hc := Qny (hH.rs' hl) (show i < l.length by omega)
  have hr := hi _ (Qbq 0 (show i < l.length by omega))
  have hdr := drop_getD 0 (show i < l.length by omega)
  generalize l.getD i 0 = s at *
  obtain ⟨hr1, hr2⟩ := hr
  rw [hdr] at g5
  refine VQi [0, 1, 2, 8, 9, 10, 11, 12, 27, 28, 29] fun K hK => ?_
  refine ⟨⟨by omega, by omega⟩, _, hc, ?_⟩
  apply hK;clear hK
  refine VQi [0, 1, 2, 8, 9, 10, 11, 12, 27, 28, 29, 41] fun K hK => ?_
  suffices out : ∀ c : Bool, (c = true ↔ s < 0 ∨ n + 1 < s) -> K [(0, .int .i64 n), (1, .int .i64 most), (2, .slice (some p) l.length lc), (8, .slice a o.length cap), (9, .int .i64 run), (10, .int .i64 wt), (11, .int .i64 i), (12, .int .i64 s), (27, .slice (some p) l.length lc), (28, .int .i64 l.length), (29, .int .i64 i), (41, .bool c)] w2 by (repeat' (first | exact out _ _ (by first | omega | (simp;done) | (simp;omega)) | exact out _ (by first | omega | (simp;done) | (simp;omega)) | refine ⟨fun _ => ?_, fun _ => ?_⟩ | refine Qo ?_))
  intro c hb
  apply hK;clear hK
  refine Qai rfl rfl (fun h => ?_) (fun h => Qac ?_)
  ·
   refine VQi [6, 7] fun K hK => ?_
   apply hK;clear hK
   refine Qah (Qa4 rfl rfl rfl ?_)
   have hg2 := hb.1 h
   rw [zdec, if_pos hg2] at g5
   rw [g5]
   exact IntsErr.nil (hH.sub (by simp)) 60
  have hg2 : ¬ (s < 0 ∨ n + 1 < s) := fun h' => by rw [hb.2 h'] at h;cases h
  clear h hb
  rw [zdec, if_neg hg2] at g5
  refine VQi [0, 1, 2, 8, 9, 10, 11, 12, 27, 28, 29, 43] fun K hK => ?_
  apply hK;clear hK
  refine VD (fun h => ?_) (fun h => ?_)
  ·
   rw [if_pos h, List.length_append, List.length_replicate] at g5
   obtain ⟨t, rfl⟩ : ∃ t : Nat, s = t := ⟨s.toNat, by omega⟩
   have ht : t = 0 ∨ t = 1 := by omega
   have hmul : ((t : Int) + 1) * wt <= 2 * wt /\ (wt : Int) <= ((t : Int) + 1) * wt := by
    rcases ht with rfl | rfl <;> simp <;> omega
   generalize hk : ((t : Int) + 1) * wt = k at *
   refine VQi [0, 1, 2, 8, 9, 10, 12, 27, 28, 29, 59] fun K hK => ?_
   rw [hk]
   suffices out : ∀ c : Bool, (c = true ↔ most - o.length - run < k) -> K [(0, .int .i64 n), (1, .int .i64 most), (2, .slice (some p) l.length lc), (8, .slice a o.length cap), (9, .int .i64 run), (10, .int .i64 wt), (12, .int .i64 t), (27, .slice (some p) l.length lc), (28, .int .i64 l.length), (29, .int .i64 i), (59, .bool c)] w2 by (repeat' (first | exact out _ _ (by first | omega | (simp;done) | (simp;omega)) | exact out _ (by first | omega | (simp;done) | (simp;omega)) | refine ⟨fun _ => ?_, fun _ => ?_⟩ | refine Qo ?_))
   intro c hb
   apply hK;clear hK
   refine Qai rfl rfl (fun h => ?_) (fun h => Qac ?_)
   ·
    refine VQi [6, 7] fun K hK => ?_
    apply hK;clear hK
    refine Qah (Qa4 rfl rfl rfl ?_)
    have := hb.1 h
    rw [if_pos (by omega)] at g5
    rw [g5]
    exact IntsErr.nil (hH.sub (by simp)) 3
   have hg3 : ¬ (most - o.length - run < k) := fun h' => by rw [hb.2 h'] at h;cases h
   clear h hb
   rw [if_neg (by omega)] at g5
   refine VQi [0, 1, 2, 8, 9, 10, 27, 28, 29] fun K hK => ?_
   rw [hk]
   (repeat refine Qo ?_);apply hK;clear hK
   refine VQi [0, 1, 2, 8, 9, 10, 27, 28, 29] fun K hK => ?_
   (repeat refine Qo ?_);apply hK;clear hK
   refine Qak rfl ?_
   refine VQi [0, 1, 2, 8, 9, 10, 27, 28, 29] fun K hK => ?_
   (repeat refine Qo ?_);apply hK;clear hK
   refine Qad ?_
   refine Qi ?_
   rw [List.append_assoc, List.replicate_append_replicate] at g5
   exact ⟨l.length - (i + 1), by omega, i + 1, run + k.toNat, 2 * wt, _, _, _, by simp [Is];omega, hH, by omega, by omega, by omega, by omega, g5, rfl⟩
  rw [if_neg h] at g5
  refine Qac ?_
  refine VQi [0, 1, 2, 8, 11, 12, 27, 28, 29] fun K hK => ?_
  refine Qau ?_
  refine Qi ?_
  have el : o.length + run = (o ++ List.replicate run 0).length := by simp
  refine QAa hH 0 rfl rfl Tryz.underlying36 zi3 Tryz.underlying3 rfl (by omega) fun a' cap' w5 hc' hH4 => ?_
  rw [intsV_zero, <- Qil, el] at hH4
  rw [el]
  apply hK;clear hK
  generalize ho2 : o ++ List.replicate run 0 = o2 at *
  refine VQi [0, 1, 2, 8, 9, 10, 11, 12, 27, 28, 29] fun K hK => ?_
  apply hK;clear hK
  refine VQi [0, 1, 2, 8, 9, 10, 11, 12, 27, 28, 29, 74] fun K hK => ?_
  (repeat refine Qo ?_);apply hK;clear hK
  refine Qai rfl rfl (fun h' => ?_) (fun h' => ?_)
  ·
   simp only [decide_eq_true_eq] at h'
   rw [if_pos h'] at g5
   refine VQi [0, 2, 8, 11, 79] fun K hK => ?_
   (repeat refine Qo ?_);apply hK;clear hK
   refine Qai rfl rfl (fun hx => ?_) (fun hx => ?_)
   ·
    simp only [decide_eq_true_eq] at hx
    have hc2 := Qny (hH4.rs' hl) (show i + 1 < l.length by omega)
    have hr := hi _ (Qbq 0 (show i + 1 < l.length by omega))
    have hdr2 := drop_getD 0 (show i + 1 < l.length by omega)
    generalize l.getD (i + 1) 0 = x at *
    rw [hdr2, zend] at g5
    refine VQi [6, 7] fun K hK => ?_
    refine ⟨I64.mk (by omega) (by omega), ⟨by omega, by omega⟩, _, hc2, ?_⟩
    refine Qaa Tryz.call151 ?_;refine Qi ?_;refine CallK.mk (Qxg n x ⟨hn1, hn2⟩ (by omega) hr w5) ?_
    rintro v w6 ⟨rfl, rfl⟩
    apply hK;clear hK
    refine Qah (Qa4 rfl rfl rfl ?_)
    rw [g5]
    split
    ·
     exact IntsErr.nil (hH4.sub (by simp)) 60
    ·
     exact IntsErr.nil (hH4.sub (by simp)) 70
   simp only [decide_eq_false_iff_not] at hx
   refine Qac ?_
   refine VQi [6, 7] fun K hK => ?_
   apply hK;clear hK
   refine Qah (Qa4 rfl rfl rfl ?_)
   rw [List.drop_of_length_le (by omega), zend] at g5
   rw [g5]
   exact ⟨_, _, hH4, rfl⟩
  simp only [decide_eq_false_iff_not] at h'
  rw [if_neg h'] at g5
  refine Qac ?_
  refine VQi [0, 1, 2, 8, 9, 10, 12, 27, 28, 29, 91] fun K hK => ?_
  apply hK;clear hK
  refine VD (fun h => ?_) (fun h => ?_)
  ·
   refine VQi [6, 7] fun K hK => ?_
   apply hK;clear hK
   refine Qah (Qa4 rfl rfl rfl ?_)
   rw [if_pos (by omega)] at g5
   rw [g5]
   exact IntsErr.nil (hH4.sub (by simp)) 3
  rw [if_neg (by omega)] at g5
  refine Qac ?_
  refine VQi [0, 1, 2, 8, 9, 10, 27, 28, 29] fun K hK => ?_
  (repeat first | refine Qo ?_ | refine ⟨⟨by omega, by omega⟩, ?_⟩)
  refine Qde (xs := [.tmp 94]) Tryz.underlying36 sz3 rfl rfl rfl (by omega) ?_;refine Qi ?_;refine ⟨by simp [Value.cells], ?_⟩
  refine Qau ?_;refine Qi ?_;refine Qkh hH4 0 rfl Tryz.underlying36 zi3 (fun h => by (first | omega | (simp;done) | (simp;omega))) fun a' cap' w5 hc' hH5 => ?_;(try refine Qi ?_)
  apply hK;clear hK
  refine Qar ?_
  refine VQi [0, 1, 2, 8, 9, 10, 27, 28, 29] fun K hK => ?_
  (repeat refine Qo ?_);apply hK;clear hK
  refine Qad ?_
  refine Qi ?_
  exact ⟨l.length - (i + 1), by omega, i + 1, 0, 1, _, _, _, rfl, hH5, by omega, by simp;omega, by omega, by omega, by simpa using g5, rfl⟩
 ·
  refine Qak rfl ?_
  rw [List.drop_of_length_le (by omega), zdec] at g5
  refine VQi [6, 7] fun K hK => ?_
  apply hK;clear hK
  refine Qah (Qa4 rfl rfl rfl ?_)
  rw [g5]
  exact IntsErr.nil (hH.sub (by simp)) 70
def Qam (l : List Nat) : List Value := l.map fun n : Nat => .int .i64 (n : Int)
def ni (l : List Nat) : List Int := l.map fun n : Nat => (n : Int)
theorem QHg (l : List Nat) : Qam l = Qbn (ni l) := by simp [Qam, Qbn, ni]
theorem Qan (l : List Nat) : (Qam l).length = l.length := by simp [Qam]
theorem Qe3 (l m : List Nat) : Qam (l ++ m) = Qam l ++ Qam m := by simp [Qam]
theorem QBg (l : List Nat) (x : Nat) : Qam l ++ [.int .i64 (x : Int)] = Qam (l ++ [x]) := by simp [Qam]
theorem Qb5 {l : List Nat} {i : Nat} (h : i < l.length) : (Qam l)[i]? = some (.int .i64 ((l.getD i 0 : Nat) : Int)) := by
 simp [Qam, List.getElem?_eq_getElem h, List.getD_eq_getElem?_getD]
theorem Qch (l : List Nat) (i v : Nat) : (Qam l).set i (.int .i64 (v : Int)) = Qam (l.set i v) := by simp [Qam, List.map_set]
theorem Qly (l : List Nat) (k : Nat) : (Qam l).take k = Qam (l.take k) := by simp [Qam]
theorem Qqy (l : List Nat) (k : Nat) : (Qam l).drop k = Qam (l.drop k) := by simp [Qam]
theorem Qgn (l : List Nat) : ∀ u ∈ Qam l, u.oneCell' = true := by
 intro u hu
 obtain ⟨b, _, rfl⟩ := List.mem_map.1 hu
 rfl
theorem Qdl {w : World} {p : Addr} {l : List Nat} {n : Nat} (h : RS w (some p) n 1 (Qam l)) {i : Nat} (hi : i < l.length) : w.cell? (p.add i) = some (.int .i64 ((l.getD i 0 : Nat) : Int)) :=
 h.2.2 p rfl i _ (Qb5 hi)
def u64V (l : List Nat) : List Value := l.map fun n : Nat => .int .u64 (n : Int)
theorem Qnf (l : List Nat) : (u64V l).length = l.length := by simp [u64V]
theorem Qsc {l : List Nat} {i : Nat} (h : i < l.length) : (u64V l)[i]? = some (.int .u64 ((l.getD i 0 : Nat) : Int)) := by
 simp [u64V, List.getElem?_eq_getElem h, List.getD_eq_getElem?_getD]
theorem QHh (l : List Nat) (i v : Nat) : (u64V l).set i (.int .u64 (v : Int)) = u64V (l.set i v) := by simp [u64V, List.map_set]
theorem Qxi : ∀ {l : List Value} {i : Nat} {v : Value} {K : Value -> Prop}, l[i]? = some v -> vNth l i K = K v := by
 intro l i v K h
 rw [QCu, h]
section
variable {P : Program} {w w0 : World} {B : List Nat} {G : List Res}
theorem Qsd (hH : Heap w0 B w G) (i : Nat) {T E ty : TypeId} {bytes : Nat} {z : Value} {a : Option Addr} {cap : Nat} {o : List Nat} (k : Nat) {n : Int} {C : Value -> World -> Prop}
  (hi : G[i]? = some (Res.row E 1 a o.length cap (Qam o))) (hu : P.underlying T = some (.slice E)) (hz : (P.info? E).map (fun i => (i.zero.map Value.cells, i.size, i.bytes)) = some (some #[z], 1, bytes)) (hn : n = k)
  (hb : cap < (o ++ [k]).length -> (o ++ [k]).length * bytes <= 140737488355328 /\ (o ++ [k]).length <= 9223372036854775807)
  (h : ∀ a' cap' w', ((o ++ [k]).length <= cap -> a' = a /\ cap' = cap) -> Heap w0 B w' (G.set i (Res.row E 1 a' (o ++ [k]).length cap' (Qam (o ++ [k])))) -> C (.slice a' (o ++ [k]).length cap') w') :
  AppK P #[T, T] ty [.slice a o.length cap, .slice (some ⟨w.heap.size, 0, none⟩) 1 1] (w.alloc (.cells [Value.int .i64 n].toArray E)) C := by
 subst hn
 have e : o.length + 1 = (o ++ [k]).length := by simp
 refine Qrg hH i hi hu hz rfl (by rw [e];exact hb) fun a' cap' w' hc hH' => ?_
 rw [QBg, e] at hH'
 rw [e] at hc ⊢
 exact h a' cap' w' hc hH'
end
theorem Qjm {l : List Nat} {i : Nat} (h : i < l.length) : maxL (l.take (i + 1)) = max (maxL (l.take i)) (l.getD i 0) := by
 rw [Qds 0 h, maxL, List.foldl_append];rfl
theorem Qy1 (l : List Nat) (hl : 0 < l.length) (hs : l.length <= 1000000000) (a : Option Addr) (lc : Nat) (w : World) (hr : RS w a l.length 1 (Qam l)) :
  Does Tryz.prog 163 #[.slice a l.length lc] w fun v w' => w' = w /\ v = .int .i64 (maxL l : Nat) := by
 obtain ⟨p, rfl⟩ := Qcy hr (by omega)
 refine En [.slice (some p) l.length lc] 25 Tryz.func163 ?_
 generalize hn : l.length = n at *
 refine VS [0] ?_
 refine VS [0, 7] ?_
 refine Qdb [0] (fun e w' => Is e [(0, .slice (some p) n lc)] /\ Is w' w) ?_ ?_
 ·
  refine Qai rfl rfl (fun h => by simp at h;omega) (fun h => ?_)
  refine Qac ?_
  refine Qad ?_
  refine Qs ?_
  exact ⟨rfl, rfl⟩
 rintro e w' ⟨rfl, rfl⟩
 have h0 := Qdl hr (i := 0) (by omega)
 refine VQ [0, 3] fun K hK => ?_
 refine ⟨by omega, _, h0, ?_⟩
 apply hK;clear hK
 refine VS [0, 3, 4] ?_
 have hm0 : l.getD 0 0 = maxL (l.take 1) := by
  cases l with
  | nil => simp at hn;omega
  | cons x l => simp [maxL]
 rw [hm0]
 refine Qag ?_
 refine Qaj [0, 3, 4] (fun m e w1 => ∃ (i : Nat), Is e [(0, .slice (some p) n lc), (3, .int .i64 (maxL (l.take i) : Nat)), (4, .int .i64 i)] /\ Is w1 w' /\ 1 <= i /\ i <= n /\ m = n - i) (n - 1) ?_ ?_
 ·
  refine Qs ?_
  exact ⟨1, rfl, rfl, by omega, by omega, rfl⟩
 rintro m e w2 ⟨i, rfl, rfl, h1, h2, rfl⟩
 refine VS [0, 3, 4, 15] ?_
 refine VD (fun h => ?_) (fun h => ?_)
 ·
  have hi := Qdl hr (i := i) (by omega)
  have hs2 := Qjm (l := l) (i := i) (by omega)
  refine Qac ?_
  refine VB ?_
  refine VQ [0, 3, 4] fun K hK => ?_
  refine ⟨⟨by omega, by omega⟩, _, hi, ?_⟩
  refine Qs ?_
  rw [show max ((maxL (l.take i) : Nat) : Int) ((l.getD i 0 : Nat) : Int) = ((maxL (l.take (i + 1)) : Nat) : Int) by rw [hs2];omega]
  apply hK;clear hK
  refine Qar ?_
  refine VS [0, 3, 4] ?_
  refine Qad ?_
  refine Qs ?_
  exact ⟨n - (i + 1), by omega, i + 1, rfl, rfl, by omega, by omega, rfl⟩
 ·
  refine Qak rfl ?_
  refine VS [2] ?_
  refine Qah (Qat rfl rfl ⟨rfl, ?_⟩)
  rw [List.take_of_length_le (by omega)]
theorem QHi (l : List Nat) (hl : 0 < l.length) (hs : l.length <= 1000000000) (a : Option Addr) (lc : Nat) (w : World) (hr : RS w a l.length 1 (Qam l)) :
  Does Tryz.prog 187 #[.slice a l.length lc] w fun v w' => w' = w /\ ∃ n : Nat, v = .int .i64 n := by
 obtain ⟨p, rfl⟩ := Qcy hr (by omega)
 refine En [.slice (some p) l.length lc] 25 Tryz.func187 ?_
 generalize hn : l.length = n at *
 refine VS [0] ?_
 refine VS [0, 7] ?_
 refine Qdb [0] (fun e w' => Is e [(0, .slice (some p) n lc)] /\ Is w' w) ?_ ?_
 ·
  refine Qai rfl rfl (fun h => by simp at h;omega) (fun h => ?_)
  refine Qac ?_
  refine Qad ?_
  refine Qs ?_
  exact ⟨rfl, rfl⟩
 rintro e w' ⟨rfl, rfl⟩
 have h0 := Qdl hr (i := 0) (by omega)
 refine VQ [0, 3] fun K hK => ?_
 refine ⟨by omega, _, h0, ?_⟩
 apply hK;clear hK
 refine VS [0, 3, 4] ?_
 refine Qag ?_
 refine Qaj [0, 3, 4] (fun m e w1 => ∃ (i x : Nat), Is e [(0, .slice (some p) n lc), (3, .int .i64 x), (4, .int .i64 i)] /\ Is w1 w' /\ 1 <= i /\ i <= n /\ m = n - i) (n - 1) ?_ ?_
 ·
  refine Qs ?_
  exact ⟨1, _, rfl, rfl, by omega, by omega, rfl⟩
 rintro m e w2 ⟨i, x, rfl, rfl, h1, h2, rfl⟩
 refine VS [0, 3, 4, 15] ?_
 refine VD (fun h => ?_) (fun h => ?_)
 ·
  have hi := Qdl hr (i := i) (by omega)
  refine Qac ?_
  refine VB ?_
  refine VQ [0, 3, 4] fun K hK => ?_
  refine ⟨⟨by omega, by omega⟩, _, hi, ?_⟩
  refine Qs ?_
  rw [show min ((x : Nat) : Int) ((l.getD i 0 : Nat) : Int) = ((min x (l.getD i 0) : Nat) : Int) by omega]
  apply hK;clear hK
  refine Qar ?_
  refine VS [0, 3, 4] ?_
  refine Qad ?_
  refine Qs ?_
  exact ⟨n - (i + 1), by omega, i + 1, _, rfl, rfl, by omega, by omega, rfl⟩
 ·
  refine Qak rfl ?_
  refine VS [2] ?_
  exact Qah (Qat rfl rfl ⟨rfl, _, rfl⟩)
theorem Qoq (l : List Nat) (hl : 2 <= l.length) (hl2 : l.length <= 258) (hx : ∀ x ∈ l, x <= 1073741824) (a : Option Addr) (lc : Nat) (w : World) (hr : RS w a l.length 1 (Qam l)) :
  Does Tryz.prog 160 #[.slice a l.length lc] w fun v w' => w' = w /\ v = .bool true := by
 have hmax := (Qiv (l := l)).2 hx
 have hc1 := QHi l (by omega) (by omega) a lc w hr
 have hc2 := Qy1 l (by omega) (by omega) a lc w hr
 refine En [.slice a l.length lc] 21 Tryz.func160 ?_
 generalize l.length = n at *
 generalize maxL l = mx at *
 refine VS [0] ?_
 refine VQ [2] fun K hK => ?_
 refine ⟨fun h1 => ⟨fun h2 => ?_, fun h2 => absurd h2 (by simp;omega)⟩, fun h1 => absurd h1 (by simp;omega)⟩
 refine Qaa Tryz.call187 ?_;refine Qs ?_;refine CallK.mk hc1 ?_
 rintro v w2 ⟨rfl, q, rfl⟩
 refine Qs ?_
 refine ⟨fun h3 => ?_, fun h3 => absurd h3 (by simp)⟩
 refine Qaa Tryz.call163 ?_;refine Qs ?_;refine CallK.mk hc2 ?_
 rintro v w3 ⟨rfl, rfl⟩
 refine Qs ?_
 rw [decide_eq_true (show ((mx : Nat) : Int) <= 1073741824 by omega)]
 apply hK;clear hK
 exact Qah (Qat rfl rfl ⟨rfl, rfl⟩)
def sumS (l : List Nat) : Nat := if l.length < 2 ∨ 258 < l.length then 0 else if l.all (fun x => decide (1 <= x) && decide (x <= 20)) then Qcp l else 0
theorem Qxj (l : List Nat) (x : Nat) : Qcp (l ++ [x]) = Qcp l + 2 ^ (20 - x) := by rw [Qkn];rfl
theorem QD4 (l : List Nat) : Qcp l <= l.length * 1048576 := by
 induction l with
 | nil => simp [Qcp]
 | cons x l ih =>
  have : 2 ^ (20 - x) <= 2 ^ 20 := Nat.pow_le_pow_right (by omega) (by omega)
  simp only [Qcp, List.length_cons, Nat.succ_mul]
  have e : (2 : Nat) ^ 20 = 1048576 := by decide
  omega
theorem Qxk (l : List Nat) (a : Option Addr) (lc : Nat) (w : World) (hr : RS w a l.length 1 (Qam l)) :
  Does Tryz.prog 149 #[.slice a l.length lc] w fun v w' => w' = w /\ v = .int .i64 (sumS l : Nat) := by
 generalize hres : sumS l = res
 unfold sumS at hres
 refine En [.slice a l.length lc] 33 Tryz.func149 ?_
 generalize hn : l.length = n at *
 refine VS [0] ?_
 refine VQ [0, 13] fun K hK => ?_
 suffices out : ∀ b : Bool, (b = true ↔ (n < 2 ∨ 258 < n)) -> K [(0, .slice a n lc), (13, .bool b)] w by (repeat' (first | exact out _ _ (by first | omega | (simp;done) | (simp;omega)) | exact out _ (by first | omega | (simp;done) | (simp;omega)) | refine ⟨fun _ => ?_, fun _ => ?_⟩ | refine Qo ?_))
 intro b hb
 apply hK;clear hK
 refine Vi (fun h => ?_) (fun h => Qac ?_)
 ·
  rw [if_pos (hb.1 h)] at hres
  subst hres
  refine VS [2] ?_
  exact Qah (Qat rfl rfl ⟨rfl, rfl⟩)
 have hg : ¬ (n < 2 ∨ 258 < n) := fun h2 => by have := hb.2 h2;simp_all
 rw [if_neg hg] at hres
 clear hb h
 obtain ⟨p, rfl⟩ := Qcy hr (by omega)
 refine VS [0, 3] ?_
 refine VS [3, 14, 15, 16] ?_
 refine Qag ?_
 refine Qaj [3, 14, 15, 16] (fun m e w' => ∃ (i : Nat), Is e [(3, .int .i64 (Qcp (l.take i) : Nat)), (14, .slice (some p) n lc), (15, .int .i64 n), (16, .int .i64 i)] /\ Is w' w /\ i <= n /\ (l.take i).all (fun x => decide (1 <= x) && decide (x <= 20)) = true /\ m = n - i) n ?_ ?_
 ·
  refine Qs ?_
  exact ⟨0, rfl, rfl, by omega, by simp, rfl⟩
 rintro m e w' ⟨i, rfl, rfl, hi, hall, rfl⟩
 refine VS [3, 14, 15, 16, 17] ?_
 (repeat refine Qaw ?_)
 refine VD (fun h => ?_) (fun h => ?_)
 ·
  have hcell := Qdl hr (i := i) (by omega)
  have htk := Qds 0 (l := l) (i := i) (by omega)
  have hks := Qxj (l.take i) (l.getD i 0)
  rw [<- htk] at hks
  have hmem := Qbq 0 (l := l) (i := i) (by omega)
  have hkl := QD4 (l.take i)
  have hlt : (l.take i).length <= 258 := by rw [List.length_take];omega
  generalize hx : l.getD i 0 = x at *
  refine Qac ?_
  refine VB ?_
  refine VQ [3, 5, 14, 15, 16] fun K hK => ?_
  refine ⟨⟨by omega, by omega⟩, _, hcell, ?_⟩
  apply hK;clear hK
  refine VQ [3, 5, 14, 15, 16, 25] fun K hK => ?_
  suffices out : ∀ b : Bool, (b = true ↔ (x < 1 ∨ 20 < x)) -> K [(3, .int .i64 (Qcp (l.take i) : Nat)), (5, .int .i64 x), (14, .slice (some p) n lc), (15, .int .i64 n), (16, .int .i64 i), (25, .bool b)] w' by (repeat' (first | exact out _ _ (by first | omega | (simp;done) | (simp;omega)) | exact out _ (by first | omega | (simp;done) | (simp;omega)) | refine ⟨fun _ => ?_, fun _ => ?_⟩ | refine Qo ?_))
  intro b hb
  apply hK;clear hK
  refine Vi (fun h => ?_) (fun h => Qac ?_)
  ·
   have hb1 := hb.1 h
   have : l.all (fun x => decide (1 <= x) && decide (x <= 20)) = false := by
    rw [List.all_eq_false]
    exact ⟨x, hmem, by simp;omega⟩
   rw [this, if_neg (by simp)] at hres
   subst hres
   refine VS [2] ?_
   exact Qah (Qat rfl rfl ⟨rfl, rfl⟩)
  have hg2 : ¬ (x < 1 ∨ 20 < x) := fun h2 => by have := hb.2 h2;simp_all
  clear hb h
  have hsh : shN IntKind.i64 (20 - (x : Int)) = 20 - x := Qp9 (by omega) (by simp [IntKind.bits];omega)
  have hp2 : 2 ^ (20 - x) <= 2 ^ 20 := Nat.pow_le_pow_right (by omega) (by omega)
  have hp3 : 2 ^ (20 - x) <= 1048576 := hp2
  have hp : (1 : Int) * 2 ^ (20 - x) = ((2 ^ (20 - x) : Nat) : Int) := by push_cast;exact Int.one_mul _
  refine VQ [3, 14, 15, 16] fun K hK => ?_
  rw [hsh, hp]
  clear hp hp2 hsh
  generalize 2 ^ (20 - x) = pw at *
  (repeat first | refine Qo ?_ | refine Qp ?_)
  rw [show ((Qcp (l.take i) : Nat) : Int) + pw = ((Qcp (l.take (i + 1)) : Nat) : Int) by rw [hks];omega]
  apply hK;clear hK
  refine Qar ?_
  refine VS [3, 14, 15, 16] ?_
  refine Qad ?_
  refine Qs ?_
  refine ⟨n - (i + 1), by omega, i + 1, rfl, rfl, by omega, ?_, rfl⟩
  rw [htk, List.all_append, hall]
  simp;omega
 ·
  obtain rfl : i = n := by omega
  rw [List.take_of_length_le (by omega)] at hall ⊢
  rw [if_pos hall] at hres
  refine Qak rfl ?_
  refine VS [2] ?_
  exact Qah (Qat rfl rfl ⟨rfl, by rw [hres]⟩)
theorem QLq (l : List Nat) : okLB l = true ↔ ¬ (sumS l = 0 ∨ 1048576 < sumS l) := by
 unfold sumS okLB
 by_cases h1 : l.length < 2 ∨ 258 < l.length
 ·
  rw [if_pos h1];simp;omega
 ·
  rw [if_neg h1]
  cases h2 : l.all (fun x => decide (1 <= x) && decide (x <= 20)) with
  | false => simp
  | true =>
   have hpos : 0 < Qcp l := by
    cases l with
    | nil => simp at h1
    | cons x l => have := Nat.two_pow_pos (20 - x);simp only [Qcp];omega
   simp;omega
theorem Qh1 (l : List Nat) (a : Option Addr) (lc : Nat) (w : World) (hr : RS w a l.length 1 (Qam l)) :
  Does Tryz.prog 103 #[.slice a l.length lc] w fun v w' => w' = w /\ v = .int .i64 (if okLB l = true then 0 else 80) := by
 have hc := Qxk l a lc w hr
 have hs := QLq l
 refine En [.slice a l.length lc] 12 Tryz.func103 ?_
 generalize sumS l = n at *
 refine VS [0] ?_
 refine VQ [3] fun K hK => ?_
 refine Qaa Tryz.call149 ?_;refine Qs ?_;refine CallK.mk hc ?_
 rintro v w2 ⟨rfl, rfl⟩
 apply hK;clear hK
 refine VQ [11] fun K hK => ?_
 suffices out : ∀ b : Bool, (b = true ↔ (n = 0 ∨ 1048576 < n)) -> K [(11, .bool b)] w2 by (repeat' (first | exact out _ _ (by first | omega | (simp;done) | (simp;omega)) | exact out _ (by first | omega | (simp;done) | (simp;omega)) | refine ⟨fun _ => ?_, fun _ => ?_⟩ | refine Qo ?_))
 intro b hb
 apply hK;clear hK
 refine Vi (fun h => ?_) (fun h => Qac ?_)
 ·
  have h2 := hb.1 h
  refine VS [2] ?_
  exact Qah (Qat rfl rfl ⟨rfl, by rw [if_neg (fun h3 => hs.1 h3 h2)]⟩)
 have hg : ¬ (n = 0 ∨ 1048576 < n) := fun h2 => by have := hb.2 h2;simp_all
 refine VS [2] ?_
 exact Qah (Qat rfl rfl ⟨rfl, by rw [if_pos (hs.2 hg)]⟩)
theorem QHj {P : Program} {w : World} {a : Option Addr} {n c : Nat} {l : List Nat} {T E : TypeId} (h : RS w a n 1 (Qam l)) (hu : P.underlying T = some (.slice E)) : Src P w (.slice a n c) T 1 n (Qam l) := ⟨rfl, h, E, hu⟩
theorem QLr {w : World} {KV : Value -> Prop} (a : Option Addr) (n c n' c' : Nat) (xo yo : Operand) : Qbr Tryz.prog .eql 36 xo yo (.slice a n c) (.slice none n' c') w KV = KV (.bool a.isNone) := QGm Tryz.underlying36 a n c n' c' xo yo
attribute [go_sem] QLr
theorem QBh (l : List Nat) (hl : 0 < l.length) (hs : l.length <= 1000000000) (a : Option Addr) (lc : Nat) (w : World) (hr : RS w a l.length 1 (Qam l)) :
  Does Tryz.prog 161 #[.slice a l.length lc] w fun v w' => ∃ a' cap, Heap w [] w' [Res.row 3 1 a' l.length cap (Qam l)] /\ v = .slice a' l.length cap := by
 obtain ⟨p, rfl⟩ := Qcy hr (by omega)
 refine En [.slice (some p) l.length lc] 8 Tryz.func161 ?_
 refine VS [0] ?_
 refine VS [0, 4] ?_
 refine Qai rfl rfl (fun h => by simp at h) (fun h => Qac ?_)
 refine VQ [2] fun K hK => ?_
 have hS := Heap.start w
 refine Qc1 hS (Qam []) (xs := []) Tryz.underlying36 sz3 rfl rfl rfl (by omega) ?_;refine Qs ?_;refine ⟨rfl, by simp [Value.cells], fun g w4 hH2 => ?_⟩;(try refine Qs ?_)
 refine Qau ?_
 refine Qs ?_
 refine Qca hH2 0 rfl Tryz.underlying36 zi3 rfl (QHj (hH2.rs' hr) Tryz.underlying36) (Qgn _) (fun h => by omega) fun a' cap' w5 hc' hH4 => ?_
 refine Qs ?_
 apply hK;clear hK
 exact Qah (Qat rfl rfl ⟨a', cap', by simpa [Qam] using hH4, by simp⟩)
end Go.Proofs.YtfphmlhgebpojaaGreat
