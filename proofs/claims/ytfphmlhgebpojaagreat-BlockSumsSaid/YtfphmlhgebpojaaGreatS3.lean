/- A program logic over the model, and what this program's functions do by it: part 3. No conditions: a library of lemmas. -/
import Derived.Test.YtfphmlhgebpojaaGreatS2
import Derived.Laws.StructEq
import Derived.Shelf.SlSortCmp.WholeK
import Derived.Test.YtfphmlhgebpojaaGreatChecked
open Nat (reduceEqDiff)
set_option linter.unusedSimpArgs false
set_option linter.unusedVariables false
set_option maxRecDepth 100000
namespace Go.Proofs.YtfphmlhgebpojaaGreat
open Go Go.Eng
theorem QA8 (d : Nat) (b : Bool) : (List.replicate (d + 1) [true, b]).flatten = (List.replicate d [true, b]).flatten ++ [true, b] := by
 rw [List.replicate_succ', List.flatten_append];simp
def Qi6 : Nat -> List Nat -> Nat
 | p, [] => p
 | _, y :: l => Qi6 y l
theorem Qlt : ∀ (l : List Nat) (p x : Nat), Qcc p (l ++ [x]) = Qcc p l ++ (Qg7 (Qi6 p l) x ++ [false])
 | [], p, x => by simp [Qcc, Qi6]
 | y :: l, p, x => by
  rw [List.cons_append, Qcc, Qlt l y x, Qcc, Qi6]
  simp
theorem Qnh : ∀ (l : List Nat) (p x : Nat), Qi6 p (l ++ [x]) = x
 | [], p, x => rfl
 | y :: l, p, x => by rw [List.cons_append, Qi6, Qnh l y x]
theorem Qsn {lo hi : Nat} : ∀ (l : List Nat) (p : Nat), (lo <= p /\ p <= hi) -> (∀ x ∈ l, lo <= x /\ x <= hi) -> lo <= Qi6 p l /\ Qi6 p l <= hi
 | [], p, hp, _ => hp
 | y :: l, p, hp, h => Qsn l y (h y (by simp)) fun x hx => h x (by simp [hx])
theorem Qym (p x : Nat) : Qg7 p x = (List.replicate (x - p) [true, false]).flatten ++ (List.replicate (p - x) [true, true]).flatten := by
 unfold Qg7
 split
 ·
  rw [show p - x = 0 by omega];simp
 ·
  rw [show x - p = 0 by omega];simp
theorem Qhe : ∀ (l : List Nat) (p : Nat), (p <= 20) -> (∀ x ∈ l, x <= 20) -> (Qcc p l).length <= 41 * l.length
 | [], p, _, _ => by simp [Qcc]
 | x :: l, p, hp, hx => by
  have h1 := hx x (by simp)
  have h2 := Qhe l x h1 fun y hy => hx y (by simp [hy])
  have h3 := Qje p x
  simp only [Qcc, List.length_append, List.length_cons]
  omega
theorem Qof (l : List Nat) (hl : 2 <= l.length) (hl2 : l.length <= 258) (hx : ∀ x ∈ l, 1 <= x /\ x <= 20) (a : Option Addr) (lc : Nat) (w : World) (hr : RS w a l.length 1 (Qaq l)) :
  Does Tryz.prog 82 #[.slice a l.length lc] w fun v w' => Heap w [] w' [] /\ v = .tuple #[Qjh (Qcl l), .int .i64 0] := by
 obtain ⟨p, rfl⟩ := Qcx hr (by omega)
 have hget : ∀ i, i < l.length -> 1 <= l.getD i 0 /\ l.getD i 0 <= 20 := fun i hi => hx _ (Qbs 0 hi)
 refine Qak (args := [.slice (some p) l.length lc]) 71 Tryz.func82 rfl rfl (of_decide_eq_true rfl) ?_
 simp only [Env.ofArgs]
 generalize hn : l.length = n at *
 refine VR [0, 2] rfl rfl fun K hK => ?_;simp only [go_sem,↓reduceIte,reduceEqDiff]
 refine Qat (.agg #[.string ⟨#[]⟩, .int .i64 0]) (by kernel_rfl) ?_
 simp only [go_sem,↓reduceIte,reduceEqDiff]
 have hH := (Heap.start w).box 24 [.string ⟨#[]⟩, .int .i64 0]
 generalize w.alloc (Obj.cells [Value.string ⟨#[]⟩, .int .i64 0].toArray 24) = w1 at *
 generalize w.heap.size = gr at *
 (refine hK _ _ ?_;clear hK)
 refine VR [0, 2, 17] rfl rfl fun K hK => ?_;simp only [go_sem,↓reduceIte,reduceEqDiff]
 suffices out : ∀ b : Bool, (b = true ↔ False) -> K [(0, .slice (some p) n lc), (2, .pointer (some ⟨gr, 0, none⟩)), (17, .bool b)] w1 by (repeat' (first | exact out _ _ (by first | omega | (simp;done) | (simp;omega)) | exact out _ (by first | omega | (simp;done) | (simp;omega)) | refine ⟨fun _ => ?_, fun _ => ?_⟩ | refine And.intro (by omega) ?_))
 intro b hb
 (refine hK _ _ ?_;clear hK)
 refine Qab rfl rfl (fun h => (hb.1 h).elim) (fun h => Qaf ?_)
 clear hb h
 refine VR [0, 2, 19, 20, 21] rfl rfl fun K hK => ?_;simp only [go_sem,↓reduceIte,reduceEqDiff]
 (refine hK _ _ ?_;clear hK)
 refine Qad ?_
 refine Qam [0, 2, 19, 20, 21] (fun m e w' => ∃ (i : Nat), Is e [(0, .slice (some p) n lc), (2, .pointer (some ⟨gr, 0, none⟩)), (19, .slice (some p) n lc), (20, .int .i64 n), (21, .int .i64 i)] /\ Is w' w1 /\ i <= n /\ m = n - i) n ?_ ?_
 ·
  simp only [go_sem,↓reduceIte,reduceEqDiff]
  exact ⟨0, rfl, rfl, by omega, rfl⟩
 rintro m e w2 ⟨i, rfl, rfl, hi, rfl⟩
 refine VR [0, 2, 19, 20, 21, 22] rfl rfl fun K hK => ?_;simp only [go_sem,↓reduceIte,reduceEqDiff]
 (refine hK _ _ ?_;clear hK)
 (repeat refine Qai ?_)
 refine Qab rfl rfl (fun h => ?_) (fun h => ?_)
 ·
  simp only [decide_eq_true_eq] at h
  have hcell := Qda (hH.rs' hr) (i := i) (by omega)
  have hg := hget i (by omega)
  generalize l.getD i 0 = x at *
  refine Qaf ?_
  ((repeat refine Qai ?_);refine Qad ?_)
  refine VR [0, 2, 5, 19, 20, 21] rfl rfl fun K hK => ?_;simp only [go_sem,↓reduceIte,reduceEqDiff]
  refine ⟨⟨by omega, by omega⟩, _, hcell, ?_⟩
  (refine hK _ _ ?_;clear hK)
  refine VR [0, 2, 19, 20, 21, 30] rfl rfl fun K hK => ?_;simp only [go_sem,↓reduceIte,reduceEqDiff]
  suffices out : ∀ b : Bool, (b = true ↔ False) -> K [(0, .slice (some p) n lc), (2, .pointer (some ⟨gr, 0, none⟩)), (19, .slice (some p) n lc), (20, .int .i64 n), (21, .int .i64 i), (30, .bool b)] w2 by (repeat' (first | exact out _ _ (by first | omega | (simp;done) | (simp;omega)) | exact out _ (by first | omega | (simp;done) | (simp;omega)) | refine ⟨fun _ => ?_, fun _ => ?_⟩ | refine And.intro (by omega) ?_))
  intro b hb
  (refine hK _ _ ?_;clear hK)
  refine Qab rfl rfl (fun h => (hb.1 h).elim) (fun h => Qaf ?_)
  refine Qav ?_
  refine VR [0, 2, 19, 20, 21] rfl rfl fun K hK => ?_;simp only [go_sem,↓reduceIte,reduceEqDiff]
  ((repeat refine And.intro (by omega) ?_);refine hK _ _ ?_;clear hK)
  refine Qah ?_
  simp only [go_sem,↓reduceIte,reduceEqDiff]
  exact ⟨n - (i + 1), by omega, i + 1, rfl, rfl, by omega, rfl⟩
 simp only [decide_eq_false_iff_not] at h
 obtain rfl : i = n := by omega
 refine Qap rfl ?_
 refine VR [0, 2, 6] rfl rfl fun K hK => ?_;simp only [go_sem,↓reduceIte,reduceEqDiff]
 refine Qag Tryz.call35 ?_;simp only [go_sem,↓reduceIte,reduceEqDiff];refine CallK.mk (Qdq w2) ?_
 rintro v w5 ⟨gw, hH2, rfl⟩
 have hH3 := hH.call0 hH2
 clear hH hH2 hi h
 (refine hK _ _ ?_;clear hK)
 have h0 := hget 0 (by omega)
 have hc0 := Qda (hH3.rs' hr) (i := 0) (by omega)
 have hdS : Qcl l = Qbh 5 (l.getD 0 0) ++ Qcc (l.getD 0 0) l := rfl
 rw [hdS]
 generalize hx0 : l.getD 0 0 = x0 at *
 refine VR [0, 2, 6] rfl rfl fun K hK => ?_;simp only [go_sem,↓reduceIte,reduceEqDiff]
 refine ⟨by omega, _, hc0, ?_⟩
 simp only [go_sem,↓reduceIte,reduceEqDiff]
 rw [show ((x0 : Int) % 18446744073709551616) = x0 by omega]
 refine Qag Tryz.call36 ?_;simp only [go_sem,↓reduceIte,reduceEqDiff];refine CallK.mk (Qc4 gw none 0 [] x0 5 w5 (by omega) (by omega) (by simp) (hH3.focus 0 rfl)) ?_
 rintro v w7 ⟨a2, c2, hHw, rfl⟩
 rw [List.nil_append] at hHw
 have hH4 := hH3.call1 0 rfl hHw
 simp only [List.set_cons_zero, List.nil_append] at hH4
 clear hH3 hHw hc0
 have hc0 := Qda (hH4.rs' hr) (i := 0) (by omega)
 rw [hx0] at hc0
 (refine hK _ _ ?_;clear hK)
 refine VR [0, 2, 6, 7] rfl rfl fun K hK => ?_;simp only [go_sem,↓reduceIte,reduceEqDiff]
 refine ⟨by omega, _, hc0, ?_⟩
 (refine hK _ _ ?_;clear hK)
 refine VR [2, 6, 7, 43, 44, 45] rfl rfl fun K hK => ?_;simp only [go_sem,↓reduceIte,reduceEqDiff]
 (refine hK _ _ ?_;clear hK)
 refine Qad ?_
 refine Qam [2, 6, 7, 43, 44, 45] (fun m e w' => ∃ (k : Nat) (a : Option Addr) (c : Nat), Is e [(2, .pointer (some ⟨gr, 0, none⟩)), (6, .pointer (some ⟨gw, 0, none⟩)), (7, .int .i64 (Qi6 x0 (l.take k) : Nat)), (43, .slice (some p) i lc), (44, .int .i64 i), (45, .int .i64 k)] /\ Heap w [] w' [wr gw a c (Qbh 5 x0 ++ Qcc x0 (l.take k)), Res.blk gr 24 [.string ⟨#[]⟩, .int .i64 0]] /\ k <= i /\ m = i - k) i ?_ ?_
 ·
  simp only [go_sem,↓reduceIte,reduceEqDiff]
  exact ⟨0, a2, c2, rfl, by simpa [Qcc] using hH4, by omega, rfl⟩
 clear hH4 hc0 hdS
 rintro m e w8 ⟨k, a3, c3, rfl, hH, hk, rfl⟩
 refine VR [2, 6, 7, 43, 44, 45, 46] rfl rfl fun K hK => ?_;simp only [go_sem,↓reduceIte,reduceEqDiff]
 (refine hK _ _ ?_;clear hK)
 (repeat refine Qai ?_)
 refine Qab rfl rfl (fun h => ?_) (fun h => ?_)
 ·
  simp only [decide_eq_true_eq] at h
  have hcell := Qda (hH.rs' hr) (i := k) (by omega)
  have hg := hget k (by omega)
  have htk := Qd2 0 (l := l) (i := k) (by omega)
  have hlo := Qsn (l.take k) x0 h0 fun x hx' => hx x (List.mem_of_mem_take hx')
  have hdl := Qhe (l.take k) x0 h0.2 fun x hx' => (hx x (List.mem_of_mem_take hx')).2
  have hdl2 : (l.take k).length <= 258 := by rw [List.length_take];omega
  have hsn := Qlt (l.take k) x0 (l.getD k 0)
  have hls := Qnh (l.take k) x0 (l.getD k 0)
  rw [<- htk] at hsn hls
  rw [Qym] at hsn
  have hbl := Qaw 5 x0
  generalize l.getD k 0 = x at *
  generalize Qi6 x0 (l.take k) = p0 at *
  generalize hB : Qbh 5 x0 ++ Qcc x0 (l.take k) = Bt at *
  have hBl : Bt.length <= 11000 := by rw [<- hB, List.length_append];omega
  refine Qaf ?_
  ((repeat refine Qai ?_);refine Qad ?_)
  refine VR [2, 6, 7, 9, 43, 44, 45] rfl rfl fun K hK => ?_;simp only [go_sem,↓reduceIte,reduceEqDiff]
  refine ⟨⟨by omega, by omega⟩, _, hcell, ?_⟩
  (refine hK _ _ ?_;clear hK)
  ((repeat refine Qai ?_);refine Qad ?_)
  refine Qam [2, 6, 7, 9, 43, 44, 45] (fun m e w' => ∃ (d : Nat) (a : Option Addr) (c : Nat), Is e [(2, .pointer (some ⟨gr, 0, none⟩)), (6, .pointer (some ⟨gw, 0, none⟩)), (7, .int .i64 (p0 + d : Nat)), (9, .int .i64 x), (43, .slice (some p) i lc), (44, .int .i64 i), (45, .int .i64 k)] /\ Heap w [] w' [wr gw a c (Bt ++ (List.replicate d [true, false]).flatten), Res.blk gr 24 [.string ⟨#[]⟩, .int .i64 0]] /\ d <= x - p0 /\ m = x - p0 - d) (x - p0) ?_ ?_
  ·
   simp only [go_sem,↓reduceIte,reduceEqDiff]
   exact ⟨0, a3, c3, rfl, by simpa using hH, by omega, rfl⟩
  clear hH hcell
  rintro m e w9 ⟨d, a4, c4, rfl, hH, hd, rfl⟩
  refine VR [2, 6, 7, 9, 43, 44, 45, 51] rfl rfl fun K hK => ?_;simp only [go_sem,↓reduceIte,reduceEqDiff]
  (refine hK _ _ ?_;clear hK)
  refine Qab rfl rfl (fun h => ?_) (fun h => ?_)
  ·
   simp only [decide_eq_true_eq] at h
   refine Qaf ?_
   ((repeat refine Qai ?_);refine Qad ?_)
   refine VR [2, 6, 7, 9, 43, 44, 45] rfl rfl fun K hK => ?_;simp only [go_sem,↓reduceIte,reduceEqDiff]
   refine Qag Tryz.call36 ?_;simp only [go_sem,↓reduceIte,reduceEqDiff];refine CallK.mk (Qc4 gw a4 c4 _ 2 2 w9 (by omega) (by omega) (by rw [List.length_append, Qh0];omega) (hH.focus 0 rfl)) ?_
   rintro v w10 ⟨a5, c5, hHw, rfl⟩
   have e2 : Qbh 2 2 = [true, false] := rfl
   rw [e2, List.append_assoc, <- QA8] at hHw
   have hH2 := hH.call1 0 rfl hHw
   simp only [List.set_cons_zero, List.nil_append] at hH2
   (refine hK _ _ ?_;clear hK)
   refine Qav ?_
   refine VR [2, 6, 7, 9, 43, 44, 45] rfl rfl fun K hK => ?_;simp only [go_sem,↓reduceIte,reduceEqDiff]
   ((repeat refine And.intro (by omega) ?_);refine hK _ _ ?_;clear hK)
   refine Qah ?_
   simp only [go_sem,↓reduceIte,reduceEqDiff]
   exact ⟨x - p0 - (d + 1), by omega, d + 1, a5, c5, rfl, hH2, by omega, rfl⟩
  simp only [decide_eq_false_iff_not] at h
  obtain rfl : d = x - p0 := by omega
  refine Qap rfl ?_
  generalize hB2 : Bt ++ (List.replicate (x - p0) [true, false]).flatten = Bt2 at *
  have hBl2 : Bt2.length <= 11100 := by rw [<- hB2, List.length_append, Qh0];omega
  ((repeat refine Qai ?_);refine Qad ?_)
  refine Qam [2, 6, 7, 9, 43, 44, 45] (fun m e w' => ∃ (d : Nat) (a : Option Addr) (c : Nat), Is e [(2, .pointer (some ⟨gr, 0, none⟩)), (6, .pointer (some ⟨gw, 0, none⟩)), (7, .int .i64 ((p0 + (x - p0) - d : Nat) : Int)), (9, .int .i64 x), (43, .slice (some p) i lc), (44, .int .i64 i), (45, .int .i64 k)] /\ Heap w [] w' [wr gw a c (Bt2 ++ (List.replicate d [true, true]).flatten), Res.blk gr 24 [.string ⟨#[]⟩, .int .i64 0]] /\ d <= p0 - x /\ m = p0 - x - d) (p0 - x) ?_ ?_
  ·
   simp only [go_sem,↓reduceIte,reduceEqDiff]
   exact ⟨0, a4, c4, rfl, by simpa using hH, by omega, rfl⟩
  clear hH
  rintro m e w10 ⟨d, a5, c5, rfl, hH, hd, rfl⟩
  refine VR [2, 6, 7, 9, 43, 44, 45, 58] rfl rfl fun K hK => ?_;simp only [go_sem,↓reduceIte,reduceEqDiff]
  (refine hK _ _ ?_;clear hK)
  refine Qab rfl rfl (fun h => ?_) (fun h => ?_)
  ·
   simp only [decide_eq_true_eq] at h
   refine Qaf ?_
   ((repeat refine Qai ?_);refine Qad ?_)
   refine VR [2, 6, 7, 9, 43, 44, 45] rfl rfl fun K hK => ?_;simp only [go_sem,↓reduceIte,reduceEqDiff]
   refine Qag Tryz.call36 ?_;simp only [go_sem,↓reduceIte,reduceEqDiff];refine CallK.mk (Qc4 gw a5 c5 _ 3 2 w10 (by omega) (by omega) (by rw [List.length_append, Qh0];omega) (hH.focus 0 rfl)) ?_
   rintro v w11 ⟨a6, c6, hHw, rfl⟩
   have e2 : Qbh 2 3 = [true, true] := rfl
   rw [e2, List.append_assoc, <- QA8] at hHw
   have hH2 := hH.call1 0 rfl hHw
   simp only [List.set_cons_zero, List.nil_append] at hH2
   (refine hK _ _ ?_;clear hK)
   refine Qav ?_
   refine VR [2, 6, 7, 9, 43, 44, 45] rfl rfl fun K hK => ?_;simp only [go_sem,↓reduceIte,reduceEqDiff]
   ((repeat refine And.intro (by omega) ?_);refine hK _ _ ?_;clear hK)
   refine Qah ?_
   simp only [go_sem,↓reduceIte,reduceEqDiff]
   refine ⟨p0 - x - (d + 1), by omega, d + 1, a6, c6, ?_, hH2, by omega, rfl⟩
   rw [show ((p0 + (x - p0) - d : Nat) : Int) - 1 = ((p0 + (x - p0) - (d + 1) : Nat) : Int) by omega]
   rfl
  simp only [decide_eq_false_iff_not] at h
  obtain rfl : d = p0 - x := by omega
  refine Qap rfl ?_
  refine VR [2, 6, 7, 43, 44, 45] rfl rfl fun K hK => ?_;simp only [go_sem,↓reduceIte,reduceEqDiff]
  refine Qag Tryz.call36 ?_;simp only [go_sem,↓reduceIte,reduceEqDiff];refine CallK.mk (Qc4 gw a5 c5 _ 0 1 w10 (by omega) (by omega) (by rw [List.length_append, Qh0];omega) (hH.focus 0 rfl)) ?_
  rintro v w11 ⟨a6, c6, hHw, rfl⟩
  have e2 : Qbh 1 0 = [false] := rfl
  rw [e2] at hHw
  have hH2 := hH.call1 0 rfl hHw
  simp only [List.set_cons_zero, List.nil_append] at hH2
  (refine hK _ _ ?_;clear hK)
  refine Qav ?_
  refine VR [2, 6, 7, 43, 44, 45] rfl rfl fun K hK => ?_;simp only [go_sem,↓reduceIte,reduceEqDiff]
  ((repeat refine And.intro (by omega) ?_);refine hK _ _ ?_;clear hK)
  refine Qah ?_
  simp only [go_sem,↓reduceIte,reduceEqDiff]
  refine ⟨i - (k + 1), by omega, k + 1, a6, c6, ?_, ?_, by omega, rfl⟩
  ·
   rw [hls, show p0 + (x - p0) - (p0 - x) = x by omega];rfl
  ·
   rw [hsn, <- List.append_assoc, hB, <- List.append_assoc, <- List.append_assoc, hB2];exact hH2
 simp only [decide_eq_false_iff_not] at h
 obtain rfl : k = i := by omega
 rw [List.take_of_length_le (by omega)] at hH
 refine Qap rfl ?_
 refine VR [2, 3] rfl rfl fun K hK => ?_;simp only [go_sem,↓reduceIte,reduceEqDiff]
 refine Qag Tryz.call37 ?_;simp only [go_sem,↓reduceIte,reduceEqDiff];refine CallK.mk (Qg2 gw a3 c3 _ w8 (hH.at 0 rfl)) ?_
 rintro v w9 ⟨rfl, rfl⟩
 refine Qag Tryz.call38 ?_;simp only [go_sem,↓reduceIte,reduceEqDiff];refine CallK.mk (Qir gw a3 c3 _ w9 (hH.at 0 rfl)) ?_
 rintro v w10 ⟨rfl, rfl⟩
 simp only [go_sem,↓reduceIte,reduceEqDiff]
 generalize Qbh 5 x0 ++ Qcc x0 l = R at *
 refine Qae ?_
 simp only [go_sem,↓reduceIte,reduceEqDiff]
 refine Qal hH 1 (vs := Qbg R) rfl rfl (by kernel_rfl) (by simp [Qbg]) (by simp [Qbg, Value.oneCell']) fun w11 hH2 => ?_
 have hH2 : Heap w [] w11 [wr gw a3 c3 R, Res.blk gr 24 (Qbg R)] := hH2
 (refine hK _ _ ?_;clear hK)
 refine Qan (Qeg rfl rfl rfl (Qbu (hH2.at 1 rfl) (by kernel_rfl) (by kernel_rfl) rfl ?_))
 exact ⟨hH2.sub (by simp), rfl⟩
def QA9 (r : Except Int (List Nat × Nat)) (w : World) (v : Value) (w' : World) : Prop := match r with
 | .ok q => ∃ a cap, Heap w [] w' [Res.row 3 1 a q.1.length cap (Qaq q.1)] /\ v = .tuple #[.slice a q.1.length cap, .int .i64 q.2, .int .i64 0]
 | .error e => Heap w [] w' [] /\ v = .tuple #[.slice none 0 0, .int .i64 0, .int .i64 e]
theorem QIv (r : List Bool) (now at_ : Nat) : tdGo r now 0 at_ = .ok ([], at_) := by
 match r with
 | [] => simp [tdGo]
 | false :: r => simp [tdGo]
 | [true] => simp [tdGo]
 | true :: d :: r => simp [tdGo]
theorem QL2 (r : List Bool) {now k : Nat} (at_ : Nat) (hk : k ≠ 0) (h : now < 1 ∨ 20 < now) : tdGo r now k at_ = .error 80 := by
 match r with
 | [] => simp only [tdGo, if_neg hk, if_pos h]
 | false :: r => simp only [tdGo, if_neg hk, if_pos h]
 | [true] => simp only [tdGo, if_neg hk, if_pos h]
 | true :: d :: r => simp only [tdGo, if_neg hk, if_pos h]
theorem Qji (s : List UInt8) (g9 gr gs p n : Nat) (hn : n <= 60) (hp : p <= 8 * s.length) (hs : s.length <= 100000000000000) (w0 w : World) (B : List Nat) (G : List Res) (hL : Heap w0 B w (rd gr gs s p :: Res.blk g9 130 [.pointer (some ⟨gr, 0, none⟩)] :: G)) :
  Does Tryz.prog 148 #[.int .i64 n, .pointer (some ⟨g9, 0, none⟩)] w fun x w' =>
   (8 * s.length < p + n /\ w' = w /\ x = .tuple #[.int .i64 0, .int .i64 10]) ∨ (p + n <= 8 * s.length /\ Heap w0 B w' (rd gr gs s (p + n) :: Res.blk g9 130 [.pointer (some ⟨gr, 0, none⟩)] :: G) /\ x = .tuple #[.int .i64 (numB (((Qas s).drop p).take n) : Nat), .int .i64 0]) := by
 refine Qak (args := [.int .i64 n, .pointer (some ⟨g9, 0, none⟩)]) 16 Tryz.func148 rfl rfl (of_decide_eq_true rfl) ?_
 simp only [Env.ofArgs]
 refine VR [0, 1] rfl rfl fun K hK => ?_;simp only [go_sem,↓reduceIte,reduceEqDiff]
 (refine hK _ _ ?_;clear hK)
 refine VR [5, 6] rfl rfl fun K hK => ?_;simp only [go_sem,↓reduceIte,reduceEqDiff]
 refine ⟨_, Qac (hL.at 1 rfl) rfl, ?_⟩
 refine Qag Tryz.call87 ?_;simp only [go_sem,↓reduceIte,reduceEqDiff];refine CallK.mk (Qes gr gs s p n w (by omega) (by omega) (by omega) (hL.focus 0 rfl)) ?_
 rintro v w3 (⟨h1, rfl, rfl⟩ | ⟨h1, hH2, rfl⟩)
 ·
  skip
  (refine hK _ _ ?_;clear hK)
  refine VR [3, 4] rfl rfl fun K hK => ?_;simp only [go_sem,↓reduceIte,reduceEqDiff]
  ((repeat refine And.intro (by omega) ?_);refine hK _ _ ?_;clear hK)
  exact Qan (Qa9 rfl rfl rfl (.inl ⟨h1, rfl, rfl⟩))
 have hH3 := hL.call1 0 rfl hH2
 simp only [List.set_cons_zero, List.nil_append] at hH3
 have hlt := Qe1 (((Qas s).drop p).take n)
 have hlen : (((Qas s).drop p).take n).length <= 60 := by rw [List.length_take];omega
 have hlt2 := Nat.pow_le_pow_right (n := 2) (by omega) hlen
 generalize numB (((Qas s).drop p).take n) = q at *
 (refine hK _ _ ?_;clear hK)
 refine VR [3, 4] rfl rfl fun K hK => ?_;simp only [go_sem,↓reduceIte,reduceEqDiff]
 ((repeat refine And.intro (by omega) ?_);refine hK _ _ ?_;clear hK)
 exact Qan (Qa9 rfl rfl rfl (.inr ⟨h1, hH3, rfl⟩))
theorem Qog (s : List UInt8) (at_ n : Nat) (ha : at_ <= 8 * s.length) (hs : s.length <= 100000000000000) (hn : 2 <= n /\ n <= 258) (w : World) :
  Does Tryz.prog 102 #[Str s, .int .i64 at_, .int .i64 n] w (QA9 (Qc8 (Qas s) at_ n) w) := by
 have hbl := Qbe s
 generalize hbits : Qas s = bits at *
 generalize hres : Qc8 bits at_ n = res
 unfold Qc8 at hres
 refine Qak (args := [Str s, .int .i64 at_, .int .i64 n]) 79 Tryz.func102 rfl rfl (of_decide_eq_true rfl) ?_
 simp only [Env.ofArgs]
 refine VR [0, 1, 2] rfl rfl fun K hK => ?_;simp only [go_sem,↓reduceIte,reduceEqDiff]
 (refine hK _ _ ?_;clear hK)
 (repeat refine Qai ?_);refine Qp8 ?_
 refine VR [2, 9] rfl rfl fun K hK => ?_;simp only [go_sem,↓reduceIte,reduceEqDiff]
 refine Qag Tryz.call86 ?_;simp only [go_sem,↓reduceIte,reduceEqDiff];refine CallK.mk (Qdr s at_ w (I64.mk (by omega) (by omega)) (by omega)) ?_
 rintro v w2 (⟨hbad, _⟩ | ⟨_, gr, gs, hH, rfl⟩)
 ·
  omega
 rw [Int.toNat_natCast] at hH
 refine Qat (.pointer none) (by kernel_rfl) ?_
 simp only [go_sem,↓reduceIte,reduceEqDiff]
 have hH1 := hH.box 130 [.pointer none]
 generalize w2.alloc (Obj.cells [Value.pointer none].toArray 130) = w3 at *
 generalize w2.heap.size = g9 at *
 refine Qae ?_
 simp only [go_sem,↓reduceIte,reduceEqDiff]
 refine Qal hH1 0 (vs := [.pointer (some ⟨gr, 0, none⟩)]) rfl rfl (by kernel_rfl) (by simp) (by simp [Value.oneCell']) fun w4 hH2 => ?_
 have hH3 : Heap w [] w4 [rd gr gs s at_, Res.blk g9 130 [.pointer (some ⟨gr, 0, none⟩)]] := hH2.perm (List.Perm.swap _ _ _)
 clear hH hH1 hH2
 (refine hK _ _ ?_;clear hK)
 refine VR [2, 9, 29] rfl rfl fun K hK => ?_;simp only [go_sem,↓reduceIte,reduceEqDiff]
 suffices out : ∀ b : Bool, (b = true ↔ False) -> K [(2, .int .i64 n), (9, .pointer (some ⟨g9, 0, none⟩)), (29, .bool b)] w4 by
  refine ⟨_, Qac (hH3.at 1 rfl) rfl, ?_⟩
  simp only [go_sem,↓reduceIte,reduceEqDiff]
  (repeat' (first | exact out _ _ (by first | omega | (simp;done) | (simp;omega)) | exact out _ (by first | omega | (simp;done) | (simp;omega)) | refine ⟨fun _ => ?_, fun _ => ?_⟩ | refine And.intro (by omega) ?_))
 intro b hb
 (refine hK _ _ ?_;clear hK)
 refine Qab rfl rfl (fun h => (hb.1 h).elim) (fun h => Qaf ?_)
 clear hb h
 refine VR [2, 9, 10] rfl rfl fun K hK => ?_;simp only [go_sem,↓reduceIte,reduceEqDiff]
 (refine hK _ _ ?_;clear hK)
 refine VR [2, 9, 10, 11, 12] rfl rfl fun K hK => ?_;simp only [go_sem,↓reduceIte,reduceEqDiff]
 refine Qbf ?_;simp only [go_sem,↓reduceIte,reduceEqDiff];refine FnK.mk Tryz.call148 (Qji s g9 gr gs at_ 5 (by omega) ha hs w w4 [] [] hH3) ?_
 have hts : Qfv bits at_ 5 = if bits.length < at_ + 5 then (0, 10) else (numB ((bits.drop at_).take 5), 0) := rfl
 rintro v w5 (⟨h1, rfl, rfl⟩ | ⟨h1, hH4, rfl⟩)
 ·
  rw [if_pos (by omega)] at hts
  rw [hts, if_pos (by simp)] at hres
  subst hres
  (refine hK _ _ ?_;clear hK)
  refine VR [2, 9, 10, 11, 12, 37] rfl rfl fun K hK => ?_;simp only [go_sem,↓reduceIte,reduceEqDiff]
  (refine hK _ _ ?_;clear hK)
  refine Qab rfl rfl (fun h => ?_) (fun h => by cases h)
  refine VR [6, 7, 8] rfl rfl fun K hK => ?_;simp only [go_sem,↓reduceIte,reduceEqDiff]
  (refine hK _ _ ?_;clear hK)
  exact Qan (Qdy rfl rfl rfl rfl ⟨hH3.sub (by simp), rfl⟩)
 rw [if_neg (by omega)] at hts
 rw [hts, if_neg (by simp)] at hres
 rw [hbits]
 have hlt := Qe1 ((bits.drop at_).take 5)
 have hlen : ((bits.drop at_).take 5).length <= 5 := by rw [List.length_take];omega
 have hlt2 := Nat.pow_le_pow_right (n := 2) (by omega) hlen
 clear hH3 hts
 simp only at hres
 generalize numB ((bits.drop at_).take 5) = now0 at *
 (refine hK _ _ ?_;clear hK)
 refine VR [2, 9, 10, 11, 12, 37] rfl rfl fun K hK => ?_;simp only [go_sem,↓reduceIte,reduceEqDiff]
 (refine hK _ _ ?_;clear hK)
 refine Qab rfl rfl (fun h => by cases h) (fun h => Qaf ?_)
 clear h
 refine VR [2, 9, 10, 11, 13] rfl rfl fun K hK => ?_;simp only [go_sem,↓reduceIte,reduceEqDiff]
 (refine hK _ _ ?_;clear hK)
 (repeat refine Qai ?_)
 refine Qpz ?_
 ((repeat refine Qai ?_);refine Qad ?_)
 refine Qam [2, 9, 10, 11, 13] (fun m e w' => ∃ (p now cap : Nat) (a : Option Addr) (out : List Nat), Is e [(2, .int .i64 n), (9, .pointer (some ⟨g9, 0, none⟩)), (10, .func (.func 148) #[] #[.pointer (some ⟨g9, 0, none⟩)]), (11, .int .i64 now), (13, .slice a out.length cap)] /\ Heap w [] w' [rd gr gs s p, Res.blk g9 130 [.pointer (some ⟨gr, 0, none⟩)], Res.row 3 1 a out.length cap (Qaq out)] /\ p <= 8 * s.length /\ now <= 100 /\ out.length <= n /\ (match tdGo (bits.drop p) now (n - out.length) p with | .error e => .error e | .ok q => .ok (out ++ q.1, q.2)) = res /\ m = 8 * s.length - p) (8 * s.length - (at_ + 5)) ?_ ?_
 ·
  simp only [go_sem,↓reduceIte,reduceEqDiff]
  have hH5 := (hH4.nilRow 3 1).perm (G' := [rd gr gs s (at_ + 5), Res.blk g9 130 [.pointer (some ⟨gr, 0, none⟩)], Res.row 3 1 none 0 0 []]) (by exact (List.perm_append_comm (l₁ := [Res.row 3 1 none 0 0 []])))
  exact ⟨at_ + 5, now0, 0, none, [], rfl, hH5, by omega, by omega, by simp, by rw [<- hres];simp only [List.length_nil, Nat.sub_zero, List.nil_append];cases tdGo (bits.drop (at_ + 5)) now0 n (at_ + 5) <;> rfl, rfl⟩
 clear hH4 hres
 rintro m e w6 ⟨p, now, cap, a, out, rfl, hH, hp, hnow, hol, hres, rfl⟩
 refine VR [2, 9, 10, 11, 13, 42] rfl rfl fun K hK => ?_;simp only [go_sem,↓reduceIte,reduceEqDiff]
 (refine hK _ _ ?_;clear hK)
 refine Qab rfl rfl (fun h => ?_) (fun h => ?_)
 ·
  simp only [decide_eq_true_eq] at h
  have hol2 : out.length < n := by omega
  obtain ⟨p0, hp0⟩ : ∃ q, q = p := ⟨p, rfl⟩
  refine Qaf ?_
  refine Qad ?_
  refine Qad ?_
  refine Qam [2, 9, 10, 11, 13] (fun m e w' => ∃ (p now : Nat), Is e [(2, .int .i64 n), (9, .pointer (some ⟨g9, 0, none⟩)), (10, .func (.func 148) #[] #[.pointer (some ⟨g9, 0, none⟩)]), (11, .int .i64 now), (13, .slice a out.length cap)] /\ Heap w [] w' [rd gr gs s p, Res.blk g9 130 [.pointer (some ⟨gr, 0, none⟩)], Res.row 3 1 a out.length cap (Qaq out)] /\ p0 <= p /\ p <= 8 * s.length /\ now <= 100 /\ (match tdGo (bits.drop p) now (n - out.length) p with | .error e => .error e | .ok q => .ok (out ++ q.1, q.2)) = res /\ m = 8 * s.length - p) (8 * s.length - p) ?_ ?_
  ·
   simp only [go_sem,↓reduceIte,reduceEqDiff]
   exact ⟨p, now, rfl, hH, by omega, hp, hnow, hres, rfl⟩
  clear hH hres hp hnow
  rintro m e w7 ⟨p, now, rfl, hH, hpp, hp, hnow, hres, rfl⟩
  refine Qad ?_
  refine VR [2, 9, 10, 11, 13, 48] rfl rfl fun K hK => ?_;simp only [go_sem,↓reduceIte,reduceEqDiff]
  suffices out : ∀ b : Bool, (b = true ↔ (now < 1 ∨ 20 < now)) -> K [(2, .int .i64 n), (9, .pointer (some ⟨g9, 0, none⟩)), (10, .func (.func 148) #[] #[.pointer (some ⟨g9, 0, none⟩)]), (11, .int .i64 now), (13, .slice a out.length cap), (48, .bool b)] w7 by (repeat' (first | exact out _ _ (by first | omega | (simp;done) | (simp;omega)) | exact out _ (by first | omega | (simp;done) | (simp;omega)) | refine ⟨fun _ => ?_, fun _ => ?_⟩ | refine And.intro (by omega) ?_))
  intro b hb
  (refine hK _ _ ?_;clear hK)
  refine Qab rfl rfl (fun h => ?_) (fun h => Qaf ?_)
  ·
   rw [QL2 _ _ (by omega) (hb.1 h)] at hres
   subst hres
   refine VR [6, 7, 8] rfl rfl fun K hK => ?_;simp only [go_sem,↓reduceIte,reduceEqDiff]
   (refine hK _ _ ?_;clear hK)
   exact Qan (Qdy rfl rfl rfl rfl ⟨hH.sub (by simp), rfl⟩)
  have hg : ¬ (now < 1 ∨ 20 < now) := fun h2 => by have := hb.2 h2;simp_all
  clear hb h
  refine VR [2, 9, 10, 11, 13, 14, 15] rfl rfl fun K hK => ?_;simp only [go_sem,↓reduceIte,reduceEqDiff]
  refine Qbf ?_;simp only [go_sem,↓reduceIte,reduceEqDiff];refine FnK.mk Tryz.call148 (Qji s g9 gr gs p 1 (by omega) hp hs w w7 [] _ hH) ?_
  rintro v w8 (⟨h1, rfl, rfl⟩ | ⟨h1, hH4, rfl⟩)
  ·
   rw [List.drop_of_length_le (by omega), tdGo, if_neg (by omega), if_neg hg] at hres
   subst hres
   (refine hK _ _ ?_;clear hK)
   refine VR [2, 9, 10, 11, 13, 14, 15, 55] rfl rfl fun K hK => ?_;simp only [go_sem,↓reduceIte,reduceEqDiff]
   (refine hK _ _ ?_;clear hK)
   refine Qab rfl rfl (fun h => ?_) (fun h => by cases h)
   refine VR [6, 7, 8] rfl rfl fun K hK => ?_;simp only [go_sem,↓reduceIte,reduceEqDiff]
   (refine hK _ _ ?_;clear hK)
   exact Qan (Qdy rfl rfl rfl rfl ⟨hH.sub (by simp), rfl⟩)
  have hdp : bits.drop p = bits.getD p false :: bits.drop (p + 1) := drop_getD false (by omega)
  have hnum : numB ((bits.drop p).take 1) = (bits.getD p false).toNat := by rw [hdp];cases bits.getD p false <;> rfl
  rw [hbits, hnum]
  rw [hdp] at hres
  (refine hK _ _ ?_;clear hK)
  refine VR [2, 9, 10, 11, 13, 14, 15, 55] rfl rfl fun K hK => ?_;simp only [go_sem,↓reduceIte,reduceEqDiff]
  (refine hK _ _ ?_;clear hK)
  refine Qab rfl rfl (fun h => by cases h) (fun h => Qaf ?_)
  clear h hH
  refine VR [2, 9, 10, 11, 13, 58] rfl rfl fun K hK => ?_;simp only [go_sem,↓reduceIte,reduceEqDiff]
  (refine hK _ _ ?_;clear hK)
  generalize bits.getD p false = b at *
  cases b with
  | false =>
   rw [tdGo, if_neg (by omega), if_neg hg] at hres
   refine Qab rfl rfl (fun h => ?_) (fun h => by simp at h)
   refine VR [2, 9, 10, 11, 13] rfl rfl fun K hK => ?_;simp only [go_sem,↓reduceIte,reduceEqDiff]
   refine Qc3 (xs := [.tmp 60]) Tryz.underlying36 sz3 rfl rfl rfl (by omega) ?_;simp only [go_sem,↓reduceIte,reduceEqDiff];refine ⟨by simp [Value.cells], ?_⟩
   refine Qa6 ?_;simp only [go_sem,↓reduceIte,reduceEqDiff];refine Qqe hH4 2 (now) rfl Tryz.underlying36 zi3 (by first | rfl | (simp;done) | omega | (simp;omega)) (fun h => by (first | omega | (simp;done) | (simp;omega))) fun a' cap' w5 hc' hH5 => ?_;(try simp only [go_sem,↓reduceIte,reduceEqDiff])
   simp only [List.set_cons_succ, List.set_cons_zero] at hH5
   (refine hK _ _ ?_;clear hK)
   refine Qap rfl ?_
   refine Qah ?_
   simp only [go_sem,↓reduceIte,reduceEqDiff]
   refine ⟨8 * s.length - (p + 1), by omega, p + 1, now, cap', a', out ++ [now], rfl, hH5, by omega, hnow, by simp;omega, ?_, rfl⟩
   rw [<- hres, show n - (out ++ [now]).length = n - out.length - 1 by simp;omega]
   cases tdGo (bits.drop (p + 1)) now (n - out.length - 1) (p + 1) with
   | error e => rfl
   | ok q => simp
  | true =>
   refine Qab rfl rfl (fun h => by simp at h) (fun h => Qaf ?_)
   clear h
   refine VR [2, 9, 10, 11, 13, 15, 16] rfl rfl fun K hK => ?_;simp only [go_sem,↓reduceIte,reduceEqDiff]
   refine Qbf ?_;simp only [go_sem,↓reduceIte,reduceEqDiff];refine FnK.mk Tryz.call148 (Qji s g9 gr gs (p + 1) 1 (by omega) h1 hs w w8 [] _ hH4) ?_
   rintro v w9 (⟨h2, rfl, rfl⟩ | ⟨h2, hH6, rfl⟩)
   ·
    rw [List.drop_of_length_le (by omega), tdGo, if_neg (by omega), if_neg hg] at hres
    subst hres
    (refine hK _ _ ?_;clear hK)
    refine VR [2, 9, 10, 11, 13, 15, 16, 69] rfl rfl fun K hK => ?_;simp only [go_sem,↓reduceIte,reduceEqDiff]
    (refine hK _ _ ?_;clear hK)
    refine Qab rfl rfl (fun h => ?_) (fun h => by cases h)
    refine VR [6, 7, 8] rfl rfl fun K hK => ?_;simp only [go_sem,↓reduceIte,reduceEqDiff]
    (refine hK _ _ ?_;clear hK)
    exact Qan (Qdy rfl rfl rfl rfl ⟨hH4.sub (by simp), rfl⟩)
   have hdp2 : bits.drop (p + 1) = bits.getD (p + 1) false :: bits.drop (p + 1 + 1) := drop_getD false (by omega)
   have hnum2 : numB ((bits.drop (p + 1)).take 1) = (bits.getD (p + 1) false).toNat := by rw [hdp2];cases bits.getD (p + 1) false <;> rfl
   rw [hbits, hnum2]
   rw [hdp2, tdGo, if_neg (by omega), if_neg hg] at hres
   generalize bits.getD (p + 1) false = d at *
   have hd1 : d.toNat <= 1 := by cases d <;> simp
   (refine hK _ _ ?_;clear hK)
   refine VR [2, 9, 10, 11, 13, 15, 16, 69] rfl rfl fun K hK => ?_;simp only [go_sem,↓reduceIte,reduceEqDiff]
   (refine hK _ _ ?_;clear hK)
   refine Qab rfl rfl (fun h => by cases h) (fun h => Qaf ?_)
   clear h
   refine VR [2, 9, 10, 11, 13] rfl rfl fun K hK => ?_;simp only [go_sem,↓reduceIte,reduceEqDiff]
   ((repeat refine And.intro (by omega) ?_);refine hK _ _ ?_;clear hK)
   refine Qav ?_
   refine Qah ?_
   simp only [go_sem,↓reduceIte,reduceEqDiff]
   refine ⟨8 * s.length - (p + 1 + 1), by omega, p + 1 + 1, (if d = true then now - 1 else now + 1), ?_, hH6, by omega, by omega, by split <;> omega, hres, rfl⟩
   cases d with
   | true => rw [if_pos rfl, show ((now : Int) + (1 - 2 * ((true.toNat : Nat) : Int))) = ((now - 1 : Nat) : Int) by simp;omega];rfl
   | false => rw [if_neg (by simp), show ((now : Int) + (1 - 2 * ((false.toNat : Nat) : Int))) = ((now + 1 : Nat) : Int) by simp];rfl
 ·
  simp only [decide_eq_false_iff_not] at h
  rw [show n - out.length = 0 by omega, QIv] at hres
  simp only [List.append_nil] at hres
  subst hres
  refine Qap rfl ?_
  refine VR [6, 7, 8] rfl rfl fun K hK => ?_;simp only [go_sem,↓reduceIte,reduceEqDiff]
  refine ⟨_, Qac (hH.at 1 rfl) rfl, ?_⟩
  refine Qag Tryz.call100 ?_;simp only [go_sem,↓reduceIte,reduceEqDiff];refine CallK.mk (Qnf gr gs p s w6 (hH.at 0 rfl)) ?_
  rintro v w7 ⟨rfl, rfl⟩
  (refine hK _ _ ?_;clear hK)
  exact Qan (Qdy rfl rfl rfl rfl ⟨a, cap, hH.sub (by simp), rfl⟩)
def Qct (l : List Nat) : List Nat := (List.range l.length).map (Qew l)
theorem Qk7 (l : List Nat) : (Qct l).length = l.length := by simp [Qct]
theorem QBa {g n lc : Nat} {p : Addr} {ao : Option Addr} {co : Nat} {l : List Nat} {w : World} (h : (tabR g (.slice (some p) n lc) ao co l).holds w) {k : Nat} (hk : k <= maxL l) (hL : maxL l <= 20) :
  w.cell? ⟨g, 2 + k, none⟩ = some (.int .i64 (Qbj l k : Nat)) /\ w.cell? ⟨g, 24 + k, none⟩ = some (.int .i64 (begS l k : Nat)) /\ w.cell? ⟨g, 46 + k, none⟩ = some (.int .i64 (cnt l k : Nat)) := by
 have lF := Qgj (Qbj l) (maxL l + 1)
 have lB := Qgj (begS l) (maxL l + 1)
 have lC := Qgj (cnt l) (maxL l + 1)
 have h1 := QEd (sv := .slice (some p) n lc) (ov := .slice ao (ordN l (maxL l)).length co) (Bg := upTo (begS l) (maxL l + 1)) (C := upTo (cnt l) (maxL l + 1)) lF (n := k) (by omega)
 have h2 := QEe (sv := .slice (some p) n lc) (ov := .slice ao (ordN l (maxL l)).length co) (C := upTo (cnt l) (maxL l + 1)) lF lB (n := k) (by omega)
 have h3 := Qw1 (sv := .slice (some p) n lc) (ov := .slice ao (ordN l (maxL l)).length co) lF lB lC (n := k) (by omega)
 rw [Qw2 _ (by omega), if_pos (by omega)] at h1 h2 h3
 exact ⟨Qac h h1, Qac h h2, Qac h h3⟩
theorem Qso {g n lc : Nat} {p : Addr} {ao : Option Addr} {co : Nat} {l : List Nat} {w : World} (h : (tabR g (.slice (some p) n lc) ao co l).holds w) : w.cell? ⟨g, 0, none⟩ = some (.slice (some p) n lc) /\ w.cell? ⟨g, 1, none⟩ = some (.slice ao (ordN l (maxL l)).length co) /\ Reads w ⟨g, 0, none⟩ [.slice (some p) n lc] := by
 have h0 : w.cell? ⟨g, 0, none⟩ = some (.slice (some p) n lc) := Qac h (k := 0) rfl
 refine ⟨h0, Qac h (k := 1) rfl, fun q u hu => ?_⟩
 cases q with
 | zero => simp at hu;subst hu;exact h0
 | succ q => simp at hu
theorem Qsp (l : List Nat) (hok : okL l) (g : Nat) (p : Addr) (lc : Nat) (ao : Option Addr) (co : Nat) (w0 w : World) (G : List Res) (hr : RS w0 (some p) l.length 1 (Qaq l)) (hL : Heap w0 [] w (tabR g (.slice (some p) l.length lc) ao co l :: ordR ao co l :: G)) :
  Does Tryz.prog 136 #[.pointer (some ⟨g, 0, none⟩)] w fun v w' => ∃ a cap, Heap w0 [] w' (Res.row 3 1 a (Qct l).length cap (Qaq (Qct l)) :: tabR g (.slice (some p) l.length lc) ao co l :: ordR ao co l :: G) /\ v = .slice a (Qct l).length cap := by
 obtain ⟨hL1, hL20⟩ := Qmk hok
 have hat := fun i hi => Qrn hok (i := i) hi
 have hfl := fun n hn => Qjy hok (n := n) hn
 have hbl : ∀ n, n <= 20 -> begS l n <= 5160 := fun n hn => by
  have := Qmj l (n - 1)
  have h2 := Nat.mul_le_mul (show n - 1 <= 20 by omega) hok.2.1
  unfold begS
  omega
 obtain ⟨hl2, hl258, hin, _⟩ := id hok
 refine Qak (args := [.pointer (some ⟨g, 0, none⟩)]) 52 Tryz.func136 rfl rfl (of_decide_eq_true rfl) ?_
 simp only [Env.ofArgs]
 have hcl := Qk7 l
 generalize hn : l.length = n at *
 refine VR [0] rfl rfl fun K hK => ?_;simp only [go_sem,↓reduceIte,reduceEqDiff]
 (refine hK _ _ ?_;clear hK)
 refine VR [0, 3] rfl rfl fun K hK => ?_;simp only [go_sem,↓reduceIte,reduceEqDiff]
 refine ⟨_, (Qso (hL.at 0 rfl)).1, ?_⟩
 simp only [go_sem,↓reduceIte,reduceEqDiff]
 refine Qbw Tryz.underlying36 zi3 ?_
 simp only [go_sem,↓reduceIte,reduceEqDiff]
 refine ⟨n, n, ⟨rfl, rfl, by omega, by omega, by omega⟩, ?_⟩
 have hH := hL.row 3 (n := n) (cap := n) (sz := 1) (Qaq (List.replicate n 0)) [] (by simp [Qar]) (by simp [Qar]) (by omega) (by omega)
 have er : Qaq (List.replicate n 0) = List.replicate n (.int .i64 0) := by simp [Qaq]
 rw [List.append_nil, er] at hH
 generalize w.alloc (Obj.cells (List.replicate n (Value.int IntKind.i64 0)).toArray 3) = w1 at *
 generalize w.heap.size = gu at *
 rw [<- er] at hH
 clear hL
 (refine hK _ _ ?_;clear hK)
 refine VR [0, 3, 17, 18, 19] rfl rfl fun K hK => ?_;simp only [go_sem,↓reduceIte,reduceEqDiff]
 refine ⟨_, (Qso (hH.at 1 rfl)).2.1, ?_⟩
 simp only [go_sem,↓reduceIte,reduceEqDiff]
 (refine hK _ _ ?_;clear hK)
 have hol := Qmj l (maxL l)
 have hol2 : (ordN l (maxL l)).length <= 5160 := by
  have h2 := Nat.mul_le_mul hL20 hl258
  rw [hn] at hol
  omega
 generalize hoL : (ordN l (maxL l)).length = oL at *
 refine Qad ?_
 refine Qam [0, 3, 17, 18, 19] (fun m e w' => ∃ (k : Nat) (O : List Nat), Is e [(0, .pointer (some ⟨g, 0, none⟩)), (3, .slice (some ⟨gu, 0, none⟩) n n), (17, .slice ao oL co), (18, .int .i64 oL), (19, .int .i64 k)] /\ Heap w0 [] w' (Res.row 3 1 (some ⟨gu, 0, none⟩) n n (Qaq O) :: tabR g (.slice (some p) n lc) ao co l :: ordR ao co l :: G) /\ O.length = n /\ (∀ j, j < k -> O.getD ((ordN l (maxL l)).getD j 0) 0 = Qew l ((ordN l (maxL l)).getD j 0)) /\ k <= oL /\ m = oL - k) oL ?_ ?_
 ·
  simp only [go_sem,↓reduceIte,reduceEqDiff]
  exact ⟨0, _, rfl, hH, by simp, fun j hj => by omega, by omega, rfl⟩
 clear hH
 rintro m e w2 ⟨k, O, rfl, hH, hOl, hO, hk, rfl⟩
 refine VR [0, 3, 17, 18, 19, 20] rfl rfl fun K hK => ?_;simp only [go_sem,↓reduceIte,reduceEqDiff]
 (refine hK _ _ ?_;clear hK)
 (repeat refine Qai ?_)
 refine Qab rfl rfl (fun h => ?_) (fun h => ?_)
 ·
  simp only [decide_eq_true_eq] at h
  have hkL : k < (ordN l (maxL l)).length := by omega
  obtain ⟨go, rfl⟩ := Qfs (hH.at 2 rfl) (by omega)
  have hcell := Qaa (hH.at 2 rfl) (Qb6 hkL)
  obtain ⟨h1, h2, h3⟩ := Qu5 l (maxL l) k hkL
  have hcode := QA6 hkL rfl
  rw [hn] at h1
  have hti := hat _ (by rw [hn] at *;exact h1)
  have hco := (Qmd hok (by rw [hn] at *;exact h1)).2.2
  generalize hi : (ordN l (maxL l)).getD k 0 = i at *
  have hle : l.getD i 0 <= maxL l := Qhw.1 (Nat.le_refl _) _ (Qbs 0 (by omega))
  obtain ⟨c1, c2, c3⟩ := QBa (hH.at 1 rfl) hle hL20
  have csv := Qso (hH.at 1 rfl)
  have hcx := Qda (hH.rs' hr) (i := i) (by omega)
  have hff := hfl (l.getD i 0) hti.2
  have hbb := hbl (l.getD i 0) hti.2
  have hp2 : 2 ^ (l.getD i 0) <= 2 ^ 20 := Nat.pow_le_pow_right (by omega) hti.2
  have hp3 : 2 ^ (l.getD i 0) <= 1048576 := hp2
  generalize hx : l.getD i 0 = x at *
  refine Qaf ?_
  ((repeat refine Qai ?_);refine Qad ?_)
  refine VR [0, 3, 4, 5, 17, 18, 19] rfl rfl fun K hK => ?_;simp only [go_sem,↓reduceIte,reduceEqDiff]
  refine ⟨⟨by omega, by omega⟩, _, hcell, ?_⟩
  (refine hK _ _ ?_;clear hK)
  refine VR [0, 3, 4, 5, 6, 17, 18, 19] rfl rfl fun K hK => ?_;simp only [go_sem,↓reduceIte,reduceEqDiff]
  refine ⟨_, csv.1, ?_⟩
  simp only [go_sem,↓reduceIte,reduceEqDiff]
  refine ⟨⟨by omega, by omega⟩, _, hcx, ?_⟩
  (refine hK _ _ ?_;clear hK)
  (repeat refine Qai ?_);refine Qa8 [0, 3, 17, 18, 19] 18 (by kernel_rfl) (by kernel_rfl) (by kernel_rfl) rfl fun K hK => ?_;simp only [go_sem,↓reduceIte,reduceEqDiff]
  refine ⟨⟨by omega, by omega⟩, _, c1, ?_⟩
  simp only [go_sem,↓reduceIte,reduceEqDiff]
  refine ⟨I64.mk (by omega) (by omega), ⟨by omega, by omega⟩, _, c2, ?_⟩
  simp only [go_sem,↓reduceIte,reduceEqDiff]
  refine ⟨I64.mk (by omega) (by omega), ⟨by omega, by omega⟩, ?_⟩
  rw [show ((Qbj l x : Nat) : Int) + k - (begS l x : Nat) = ((Qew l i : Nat) : Int) by omega]
  refine Qae ?_;simp only [go_sem,↓reduceIte,reduceEqDiff];refine Qbd hH 0 (o := (i)) (vs := [.int .i64 (Qew l i : Nat)]) rfl (by first | exact (Qbp _ _ _).symm | rfl | simp [Qbp]) rfl (by kernel_rfl) (by first | omega | (simp;omega) | (simp [Qao, Qbm];omega) | (rw [Qar];simp;omega)) (by simp [Value.oneCell']) fun w6 hH2 => ?_;(try simp only [go_sem,↓reduceIte,reduceEqDiff])
  simp only [List.length_singleton, Qb1 (Qaq O) _ _ (show i < (Qaq O).length by rw [Qar, hOl];omega), Qce, List.set_cons_zero] at hH2
  (refine hK _ _ ?_;clear hK)
  refine Qav ?_
  refine VR [0, 3, 17, 18, 19] rfl rfl fun K hK => ?_;simp only [go_sem,↓reduceIte,reduceEqDiff]
  ((repeat refine And.intro (by omega) ?_);refine hK _ _ ?_;clear hK)
  refine Qah ?_
  simp only [go_sem,↓reduceIte,reduceEqDiff]
  refine ⟨oL - (k + 1), by omega, k + 1, _, rfl, hH2, by simp [hOl], fun j hj => ?_, by omega, rfl⟩
  by_cases e : (ordN l (maxL l)).getD j 0 = i
  ·
   rw [e, Qcv (by omega)]
  ·
   rw [Qcn (fun e2 => e e2.symm)]
   have : j ≠ k := fun e2 => e (by rw [e2];exact hi)
   exact hO j (by omega)
 ·
  simp only [decide_eq_false_iff_not] at h
  have hfin : O = Qct l := by
   apply List.ext_getElem
   ·
    rw [hOl, hcl]
   ·
    intro i h1 h2
    have hi : i < l.length := by omega
    have hm := Qw0 hi (hat i (by omega)).1 (maxL l) (Qhw.1 (Nat.le_refl _) _ (Qbs 0 hi))
    obtain ⟨j, hj, e⟩ := List.getElem_of_mem hm
    have e2 : (ordN l (maxL l)).getD j 0 = i := by rw [List.getD_eq_getElem?_getD, List.getElem?_eq_getElem hj];exact e
    have := hO j (by omega)
    rw [e2, List.getD_eq_getElem?_getD, List.getElem?_eq_getElem h1] at this
    simp only [Qct, List.getElem_map, List.getElem_range]
    exact this
  refine Qap rfl ?_
  refine VR [2] rfl rfl fun K hK => ?_;simp only [go_sem,↓reduceIte,reduceEqDiff]
  (refine hK _ _ ?_;clear hK)
  refine Qan (Qax rfl rfl ⟨some ⟨gu, 0, none⟩, n, ?_, by rw [hcl]⟩)
  rw [hcl, <- hfin]
  exact hH
theorem Ql7 (l : List Nat) (hok : okL l) (a : Option Addr) (lc : Nat) (w : World) (hr : RS w a l.length 1 (Qaq l)) :
  Does Tryz.prog 84 #[.slice a l.length lc] w fun v w' => ∃ a' cap, Heap w [] w' [Res.row 3 1 a' (Qct l).length cap (Qaq (Qct l))] /\ v = .tuple #[.slice a' (Qct l).length cap, .int .i64 0] := by
 have hl2 := hok.1
 obtain ⟨p, rfl⟩ := Qcx hr (by omega)
 refine Qak (args := [.slice (some p) l.length lc]) 16 Tryz.func84 rfl rfl (of_decide_eq_true rfl) ?_
 simp only [Env.ofArgs]
 refine VR [0] rfl rfl fun K hK => ?_;simp only [go_sem,↓reduceIte,reduceEqDiff]
 (refine hK _ _ ?_;clear hK)
 refine VR [4, 5] rfl rfl fun K hK => ?_;simp only [go_sem,↓reduceIte,reduceEqDiff]
 refine Qag Tryz.call135 ?_;simp only [go_sem,↓reduceIte,reduceEqDiff];refine CallK.mk (Qsm l hok (some p) lc w hr) ?_
 rintro v w2 ⟨g, ao, co, hH, rfl⟩
 (refine hK _ _ ?_;clear hK)
 refine VR [4, 5, 12] rfl rfl fun K hK => ?_;simp only [go_sem,↓reduceIte,reduceEqDiff]
 (refine hK _ _ ?_;clear hK)
 refine Qab rfl rfl (fun h => by simp at h) (fun h => Qaf ?_)
 refine VR [2, 3] rfl rfl fun K hK => ?_;simp only [go_sem,↓reduceIte,reduceEqDiff]
 refine Qag Tryz.call136 ?_;simp only [go_sem,↓reduceIte,reduceEqDiff];refine CallK.mk (Qsp l hok g p lc ao co w w2 [] hr hH) ?_
 rintro v w3 ⟨a', cap, hH2, rfl⟩
 (refine hK _ _ ?_;clear hK)
 exact Qan (Qa9 rfl rfl rfl ⟨a', cap, hH2.sub (by simp), rfl⟩)
def begC (l : List Nat) (c k m : Nat) : Bool := decide (k < m) && decide (0 < cnt l m) && decide (c * 2 ^ (m - k) < Qbj l m + cnt l m)
theorem QBb {l : List Nat} {c k : Nat} (hL : maxL l <= 20) : begP l c k = true ↔ ∃ m, k < m /\ m <= maxL l /\ begC l c k m = true := by
 unfold begP
 rw [List.any_eq_true]
 constructor
 ·
  rintro ⟨m, hm, h⟩
  refine ⟨m, ?_, ?_, h⟩
  ·
   simp only [Bool.and_eq_true, decide_eq_true_eq] at h;exact h.1.1
  ·
   rcases Nat.lt_or_ge (maxL l) m with h2 | h2
   ·
    have := QEc h2
    simp [this] at h
   ·
    exact h2
 ·
  rintro ⟨m, h1, h2, h3⟩
  exact ⟨m, List.mem_range.2 (by omega), h3⟩
theorem Qvb (l : List Nat) (hok : okL l) (c k : Nat) (hc : c <= 2097152) (hk : k <= 20) (g : Nat) (p : Addr) (lc : Nat) (ao : Option Addr) (co i : Nat) (w0 w : World) (G : List Res) (hr : RS w0 (some p) l.length 1 (Qaq l)) (hL : Heap w0 [] w G) (hi : G[i]? = some (tabR g (.slice (some p) l.length lc) ao co l)) :
  Does Tryz.prog 175 #[.pointer (some ⟨g, 0, none⟩), .int .i64 c, .int .i64 k] w fun v w' => Heap w0 [] w' G /\ v = .bool (begP l c k) := by
 obtain ⟨hL1, hL20⟩ := Qmk hok
 have hfl := fun n hn => Qjy hok (n := n) hn
 have hbp := QBb (l := l) (c := c) (k := k) hL20
 obtain ⟨hl2, hl258, hin, _⟩ := hok
 have hcl := Qls l (by omega) (some p) lc
 refine Qak (args := [.pointer (some ⟨g, 0, none⟩), .int .i64 c, .int .i64 k]) 47 Tryz.func175 rfl rfl (of_decide_eq_true rfl) ?_
 simp only [Env.ofArgs]
 generalize hres : begP l c k = res at *
 generalize hn : l.length = n at *
 refine VR [0, 1, 2] rfl rfl fun K hK => ?_;simp only [go_sem,↓reduceIte,reduceEqDiff]
 (refine hK _ _ ?_;clear hK)
 refine VR [0, 1, 2, 7] rfl rfl fun K hK => ?_;simp only [go_sem,↓reduceIte,reduceEqDiff]
 ((repeat refine And.intro (by omega) ?_);refine hK _ _ ?_;clear hK)
 refine Qad ?_
 refine Qam [0, 1, 2, 7] (fun m e w' => ∃ (j : Nat), Is e [(0, .pointer (some ⟨g, 0, none⟩)), (1, .int .i64 c), (2, .int .i64 k), (7, .int .i64 (j + 1 : Nat))] /\ Heap w0 [] w' G /\ k <= j /\ j <= 20 /\ (∀ m', k < m' -> m' <= j -> begC l c k m' = false) /\ m = 21 - j) (21 - k) ?_ ?_
 ·
  simp only [go_sem,↓reduceIte,reduceEqDiff]
  exact ⟨k, rfl, hL, by omega, by omega, fun m' h1 h2 => by omega, rfl⟩
 clear hL
 rintro m e w1 ⟨j, rfl, hH, hkj, hj20, hno, rfl⟩
 have hsv := Qso (hH.at i hi)
 refine VR [0, 1, 2, 7, 16] rfl rfl fun K hK => ?_;simp only [go_sem,↓reduceIte,reduceEqDiff]
 refine ⟨_, ⟨rfl, hsv.2.2⟩, ?_⟩
 refine Qag Tryz.call166 ?_;simp only [go_sem,↓reduceIte,reduceEqDiff];refine CallK.mk (hcl w1 (hH.rs' hr)) ?_
 rintro v w2 ⟨hHl, rfl⟩
 have hH2 := hH.call0 hHl
 simp only [List.nil_append] at hH2
 clear hH hHl hsv
 simp only [go_sem,↓reduceIte,reduceEqDiff]
 (refine hK _ _ ?_;clear hK)
 refine Qab rfl rfl (fun h => ?_) (fun h => ?_)
 ·
  simp only [decide_eq_true_eq] at h
  have hj2 : j + 1 <= maxL l := by omega
  obtain ⟨c1, c2, c3⟩ := QBa (hH2.at i hi) hj2 hL20
  have hff := hfl (j + 1) (by omega)
  have hp2 : 2 ^ (j + 1) <= 2 ^ 20 := Nat.pow_le_pow_right (by omega) (by omega)
  have hp3 : 2 ^ (j + 1) <= 1048576 := hp2
  have hp4 : 2 ^ (j + 1 - k) <= 2 ^ 20 := Nat.pow_le_pow_right (by omega) (by omega)
  have hp5 : 2 ^ (j + 1 - k) <= 1048576 := hp4
  have hmul : c * 2 ^ (j + 1 - k) <= 2097152 * 1048576 := Nat.mul_le_mul hc hp5
  have hsh : shN IntKind.i64 ((j + 1 : Nat) - (k : Int)) = j + 1 - k := Qo8 (by omega) (by simp [IntKind.bits];omega)
  have hbc : begC l c k (j + 1) = (decide (k < j + 1) && decide (0 < cnt l (j + 1)) && decide (c * 2 ^ (j + 1 - k) < Qbj l (j + 1) + cnt l (j + 1))) := rfl
  rw [decide_eq_true (show k < j + 1 by omega), Bool.true_and] at hbc
  have hsc := Qmh c (j + 1 - k)
  refine Qaf ?_
  ((repeat refine Qai ?_);refine Qad ?_)
  (repeat refine Qai ?_);refine Qcq [0, 1, 2, 7, 46] (by kernel_rfl) (by kernel_rfl) rfl fun K hK => ?_;simp only [go_sem,↓reduceIte,reduceEqDiff]
  refine ⟨⟨by omega, by omega⟩, _, c3, ?_⟩
  simp only [go_sem,↓reduceIte,reduceEqDiff]
  rw [hsh, hsc]
  clear hsc hsh hp2 hp4
  generalize c * 2 ^ (j + 1 - k) = q at *
  suffices out : K [(0, .pointer (some ⟨g, 0, none⟩)), (1, .int .i64 c), (2, .int .i64 k), (7, .int .i64 (j + 1 : Nat)), (46, .bool (begC l c k (j + 1)))] by
   refine ⟨fun h2 => ?_, fun h2 => ?_⟩
   ·
    rw [decide_eq_true (show 0 < cnt l (j + 1) by omega), Bool.true_and] at hbc
    refine ⟨I64.mk (by omega) (by omega), by omega, I64.mk (by omega) (by omega), ⟨by omega, by omega⟩, _, c1, ?_⟩
    refine ⟨⟨by omega, by omega⟩, _, c3, ?_⟩
    simp only [go_sem,↓reduceIte,reduceEqDiff]
    refine ⟨I64.mk (by omega) (by omega), ?_⟩
    rw [show decide (((q : Nat) : Int) < ((Qbj l (j + 1) : Nat) : Int) + ((cnt l (j + 1) : Nat) : Int)) = begC l c k (j + 1) by rw [hbc];exact decide_eq_decide.2 (by omega)]
    exact out
   ·
    rw [decide_eq_false (show ¬ 0 < cnt l (j + 1) by omega), Bool.false_and] at hbc
    rw [hbc] at out
    exact out
  (refine hK _ ?_;clear hK)
  refine Qab rfl rfl (fun h => ?_) (fun h => Qaf ?_)
  ·
   have : res = true := hbp.2 ⟨j + 1, by omega, hj2, h⟩
   subst this
   refine VR [6] rfl rfl fun K hK => ?_;simp only [go_sem,↓reduceIte,reduceEqDiff]
   (refine hK _ _ ?_;clear hK)
   exact Qan (Qax rfl rfl ⟨hH2, rfl⟩)
  refine Qav ?_
  refine VR [0, 1, 2, 7] rfl rfl fun K hK => ?_;simp only [go_sem,↓reduceIte,reduceEqDiff]
  ((repeat refine And.intro (by omega) ?_);refine hK _ _ ?_;clear hK)
  refine Qah ?_
  simp only [go_sem,↓reduceIte,reduceEqDiff]
  refine ⟨21 - (j + 1), by omega, j + 1, rfl, hH2, by omega, by omega, fun m' h1 h2 => ?_, rfl⟩
  by_cases e : m' = j + 1
  ·
   rw [e];exact h
  ·
   exact hno m' h1 (by omega)
 ·
  simp only [decide_eq_false_iff_not] at h
  have : res = false := by
   rw [Bool.eq_false_iff]
   intro h2
   obtain ⟨m', h3, h4, h5⟩ := hbp.1 h2
   have := hno m' h3 (by omega)
   rw [this] at h5;cases h5
  subst this
  refine Qap rfl ?_
  refine VR [6] rfl rfl fun K hK => ?_;simp only [go_sem,↓reduceIte,reduceEqDiff]
  (refine hK _ _ ?_;clear hK)
  exact Qan (Qax rfl rfl ⟨hH2, rfl⟩)
theorem QBc (l : List Nat) (hok : okL l) (s : List UInt8) (gr gs at_ : Nat) (hat : at_ <= 8 * s.length) (hs : s.length <= 100000000000000) (g : Nat) (p : Addr) (lc : Nat) (ao : Option Addr) (co : Nat) (w0 w : World) (G : List Res) (hr : RS w0 (some p) l.length 1 (Qaq l)) (hL : Heap w0 [] w (rd gr gs s at_ :: tabR g (.slice (some p) l.length lc) ao co l :: ordR ao co l :: G)) :
  Does Tryz.prog 150 #[.pointer (some ⟨g, 0, none⟩), .pointer (some ⟨gr, 0, none⟩)] w fun v w' => match Qhy l (Qas s) at_ with
   | .ok q => Heap w0 [] w' (rd gr gs s q.2 :: tabR g (.slice (some p) l.length lc) ao co l :: ordR ao co l :: G) /\ q.2 <= 8 * s.length /\ at_ < q.2 /\ v = .tuple #[.int .i64 q.1, .int .i64 0]
   | .error e => Heap w0 [] w' [] /\ e ≠ 0 /\ v = .tuple #[.int .i64 0, .int .i64 e] := by
 obtain ⟨hL1, hL20⟩ := Qmk hok
 have hfl := fun n hn => Qjy hok (n := n) hn
 have hbp := fun c k => QBb (l := l) (c := c) (k := k) hL20
 have hbl := Qbe s
 refine Qak (args := [.pointer (some ⟨g, 0, none⟩), .pointer (some ⟨gr, 0, none⟩)]) 74 Tryz.func150 rfl rfl (of_decide_eq_true rfl) ?_
 simp only [Env.ofArgs]
 generalize hres : Qhy l (Qas s) at_ = res
 generalize hbits : Qas s = bits at *
 unfold Qhy at hres
 refine VR [0, 1] rfl rfl fun K hK => ?_;simp only [go_sem,↓reduceIte,reduceEqDiff]
 (refine hK _ _ ?_;clear hK)
 refine VR [0, 1, 6] rfl rfl fun K hK => ?_;simp only [go_sem,↓reduceIte,reduceEqDiff]
 (refine hK _ _ ?_;clear hK)
 refine VR [0, 1, 6, 7] rfl rfl fun K hK => ?_;simp only [go_sem,↓reduceIte,reduceEqDiff]
 (refine hK _ _ ?_;clear hK)
 refine Qad ?_
 refine Qam [0, 1, 6, 7] (fun m e w' => ∃ (j c : Nat), Is e [(0, .pointer (some ⟨g, 0, none⟩)), (1, .pointer (some ⟨gr, 0, none⟩)), (6, .int .i64 c), (7, .int .i64 (j + 1 : Nat))] /\ Heap w0 [] w' (rd gr gs s (at_ + j) :: tabR g (.slice (some p) l.length lc) ao co l :: ordR ao co l :: G) /\ at_ + j <= 8 * s.length /\ j + 1 <= maxL l /\ c < 2 ^ j /\ Qbj l j + cnt l j <= c /\ (match Qgc l (bits.drop (at_ + j)) j c with | .ok q => .ok (q.1, at_ + q.2) | .error e => .error e) = res /\ m = 21 - j) 21 ?_ ?_
 ·
  simp only [go_sem,↓reduceIte,reduceEqDiff]
  have hc0 : cnt l 0 = 0 := Qmx fun x hx => (hok.2.2.1 x hx).1
  refine ⟨0, 0, rfl, hL, by omega, by omega, by simp, by rw [hc0];simp [Qbj], ?_, rfl⟩
  rw [<- hres, Nat.add_zero]
  cases Qgc l (bits.drop at_) 0 0 <;> rfl
 clear hL hres
 rintro m e w1 ⟨j, c, rfl, hH, hp, hj, hc, hfc, hres, rfl⟩
 ((repeat refine Qai ?_);refine Qad ?_)
 refine VR [0, 1, 6, 7, 8, 9] rfl rfl fun K hK => ?_;simp only [go_sem,↓reduceIte,reduceEqDiff]
 refine Qag Tryz.call87 ?_;simp only [go_sem,↓reduceIte,reduceEqDiff];refine CallK.mk (Qes gr gs s (at_ + j) 1 w1 (by omega) hp (by omega) (hH.focus 0 rfl)) ?_
 rintro v w2 (⟨h1, rfl, rfl⟩ | ⟨h1, hH2, rfl⟩)
 ·
  rw [List.drop_of_length_le (by omega), Qgc] at hres
  subst hres
  (refine hK _ _ ?_;clear hK)
  refine VR [0, 1, 6, 7, 8, 9, 19] rfl rfl fun K hK => ?_;simp only [go_sem,↓reduceIte,reduceEqDiff]
  (refine hK _ _ ?_;clear hK)
  refine Qab rfl rfl (fun h => ?_) (fun h => by cases h)
  refine VR [4, 5] rfl rfl fun K hK => ?_;simp only [go_sem,↓reduceIte,reduceEqDiff]
  (refine hK _ _ ?_;clear hK)
  exact Qan (Qa9 rfl rfl rfl ⟨hH.sub (by simp), by decide, rfl⟩)
 have hH3 := hH.call1 0 rfl hH2
 simp only [List.set_cons_zero, List.nil_append] at hH3
 clear hH hH2
 have hdp : bits.drop (at_ + j) = bits.getD (at_ + j) false :: bits.drop (at_ + j + 1) := drop_getD false (by omega)
 have hnum : numB ((bits.drop (at_ + j)).take 1) = (bits.getD (at_ + j) false).toNat := by rw [hdp];cases bits.getD (at_ + j) false <;> rfl
 rw [hbits, hnum]
 rw [hdp, Qgc] at hres
 generalize bits.getD (at_ + j) false = b at *
 have hb1 : b.toNat <= 1 := by cases b <;> simp
 (refine hK _ _ ?_;clear hK)
 refine VR [0, 1, 6, 7, 8, 9, 19] rfl rfl fun K hK => ?_;simp only [go_sem,↓reduceIte,reduceEqDiff]
 (refine hK _ _ ?_;clear hK)
 refine Qab rfl rfl (fun h => by cases h) (fun h => Qaf ?_)
 clear h
 have hj20 : j + 1 <= 20 := by omega
 have hpj : 2 ^ j <= 2 ^ 19 := Nat.pow_le_pow_right (by omega) (by omega)
 have hpj2 : 2 ^ j <= 524288 := hpj
 have hps : 2 ^ (j + 1) = 2 * 2 ^ j := by rw [Nat.pow_succ, Nat.mul_comm]
 have hor : (c * 2) ||| b.toNat = 2 * c + b.toNat := by
  have h3 : (2 ^ 1 * c) ||| b.toNat = 2 ^ 1 * c + b.toNat := (Nat.two_pow_add_eq_or_of_lt (i := 1) (by omega) c).symm
  rw [Nat.mul_comm c 2];exact h3
 have hfs : Qbj l (j + 1) = 2 * (Qbj l j + cnt l j) := rfl
 have hffl := hfl (j + 1) hj20
 refine VR [0, 1, 6, 7] rfl rfl fun K hK => ?_;simp only [go_sem,↓reduceIte,reduceEqDiff]
 rw [show shN IntKind.i64 1 = 1 from rfl, show ((c : Int) * 2 ^ 1) = ((c * 2 : Nat) : Int) by push_cast;rfl]
 (repeat first | refine And.intro (by omega) ?_ | refine ⟨⟨by omega, by omega⟩, ?_⟩)
 rw [Int.toNat_natCast, hor]
 generalize hc2 : 2 * c + b.toNat = c2 at *
 (refine hK _ _ ?_;clear hK)
 obtain ⟨c1, c2', c3⟩ := QBa (hH3.at 1 rfl) hj hL20
 have csv := Qso (hH3.at 1 rfl)
 refine VR [0, 1, 6, 7, 10] rfl rfl fun K hK => ?_;simp only [go_sem,↓reduceIte,reduceEqDiff]
 refine ⟨⟨by omega, by omega⟩, _, c1, ?_⟩
 simp only [go_sem,↓reduceIte,reduceEqDiff]
 refine ⟨I64.mk (by omega) (by omega), ?_⟩
 (refine hK _ _ ?_;clear hK)
 refine VR [0, 1, 6, 7, 10, 54] rfl rfl fun K hK => ?_;simp only [go_sem,↓reduceIte,reduceEqDiff]
 suffices out : ∀ bb : Bool, (bb = true ↔ (Qbj l (j + 1) <= c2 /\ c2 < Qbj l (j + 1) + cnt l (j + 1))) -> K [(0, .pointer (some ⟨g, 0, none⟩)), (1, .pointer (some ⟨gr, 0, none⟩)), (6, .int .i64 c2), (7, .int .i64 (j + 1 : Nat)), (10, .int .i64 (((c2 : Nat) : Int) - (Qbj l (j + 1) : Nat))), (54, .bool bb)] w2 by
  refine ⟨⟨by omega, by omega⟩, _, c3, ?_⟩
  simp only [go_sem,↓reduceIte,reduceEqDiff]
  refine ⟨fun h1 => ⟨fun h2 => ⟨⟨by omega, by omega⟩, _, c3, ?_⟩, fun h2 => out false (by simp;omega)⟩, fun h1 => out false (by simp;omega)⟩
  simp only [go_sem,↓reduceIte,reduceEqDiff]
  exact out _ (by simp;omega)
 intro bb hbb
 (refine hK _ _ ?_;clear hK)
 refine Qab rfl rfl (fun h => ?_) (fun h => Qaf ?_)
 ·
  have hb2 := hbb.1 h
  rw [if_pos hb2] at hres
  subst hres
  obtain ⟨s1, s2⟩ := QEb l (n := j + 1) (L := maxL l) (j := c2 - Qbj l (j + 1)) (by omega) hj (by omega)
  obtain ⟨go, rfl⟩ := Qfs (hH3.at 2 rfl) (by omega)
  have hcell := Qaa (hH3.at 2 rfl) (Qb6 s1)
  rw [s2] at hcell
  have hbl2 : begS l (j + 1) <= 5160 := by
   have h5 := Qmj l (j + 1 - 1)
   have h6 := Nat.mul_le_mul (show j + 1 - 1 <= 20 by omega) hok.2.1
   unfold begS
   omega
  (repeat refine Qai ?_);refine Qcq [4, 5] (by kernel_rfl) (by kernel_rfl) rfl fun K hK => ?_;simp only [go_sem,↓reduceIte,reduceEqDiff]
  refine ⟨_, csv.2.1, ?_⟩
  refine ⟨⟨by omega, by omega⟩, _, c2', ?_⟩
  simp only [go_sem,↓reduceIte,reduceEqDiff]
  refine ⟨I64.mk (by omega) (by omega), ⟨by omega, by omega⟩, ?_⟩
  rw [show (((begS l (j + 1) : Nat) : Int) + (((c2 : Nat) : Int) - (Qbj l (j + 1) : Nat))).toNat = begS l (j + 1) + (c2 - Qbj l (j + 1)) by omega]
  refine ⟨_, hcell, ?_⟩
  (refine hK _ ?_;clear hK)
  exact Qan (Qa9 rfl rfl rfl ⟨by rw [<- Nat.add_assoc];exact hH3, by simp only;omega, by simp only;omega, rfl⟩)
 have hnb : ¬ (Qbj l (j + 1) <= c2 /\ c2 < Qbj l (j + 1) + cnt l (j + 1)) := fun h2 => by have := hbb.2 h2;simp_all
 rw [if_neg hnb] at hres
 clear hbb h
 refine VR [0, 1, 6, 7, 73] rfl rfl fun K hK => ?_;simp only [go_sem,↓reduceIte,reduceEqDiff]
 refine Qag Tryz.call175 ?_;simp only [go_sem,↓reduceIte,reduceEqDiff];refine CallK.mk (Qvb l hok c2 (j + 1) (by omega) hj20 g p lc ao co 1 w0 w2 _ hr hH3 rfl) ?_
 rintro v w3 ⟨hH4, rfl⟩
 simp only [go_sem,↓reduceIte,reduceEqDiff]
 (refine hK _ _ ?_;clear hK)
 refine Qab rfl rfl (fun h => ?_) (fun h => Qaf ?_)
 ·
  have h2 : begP l c2 (j + 1) = false := by simpa using h
  rw [h2, if_neg (by simp)] at hres
  subst hres
  refine VR [4, 5] rfl rfl fun K hK => ?_;simp only [go_sem,↓reduceIte,reduceEqDiff]
  (refine hK _ _ ?_;clear hK)
  exact Qan (Qa9 rfl rfl rfl ⟨hH4.sub (by simp), by decide, rfl⟩)
 have h2 : begP l c2 (j + 1) = true := by simpa using h
 rw [if_pos h2] at hres
 obtain ⟨m', h3, h4, h5⟩ := (hbp c2 (j + 1)).1 h2
 refine Qav ?_
 refine VR [0, 1, 6, 7] rfl rfl fun K hK => ?_;simp only [go_sem,↓reduceIte,reduceEqDiff]
 ((repeat refine And.intro (by omega) ?_);refine hK _ _ ?_;clear hK)
 refine Qah ?_
 simp only [go_sem,↓reduceIte,reduceEqDiff]
 exact ⟨21 - (j + 1), by omega, j + 1, c2, rfl, by rw [<- Nat.add_assoc];exact hH4, by omega, by omega, by omega, by omega, by rw [<- hres, <- Nat.add_assoc], rfl⟩
theorem QEf (l : List Nat) (hok : okL l) (s : List UInt8) (at_ n fin : Nat) (hat : at_ <= 8 * s.length) (hs : s.length <= 100000000000000) (hn : n <= 100000) (hfin : fin <= 100000) (a : Option Addr) (lc : Nat) (w : World) (hr : RS w a l.length 1 (Qaq l)) :
  Does Tryz.prog 104 #[.slice a l.length lc, Str s, .int .i64 at_, .int .i64 n, .int .i64 fin] w (QA9 (Qed l (Qas s) fin n at_) w) := by
 have hl2 := hok.1
 obtain ⟨p, rfl⟩ := Qcx hr (by omega)
 refine Qak (args := [.slice (some p) l.length lc, Str s, .int .i64 at_, .int .i64 n, .int .i64 fin]) 59 Tryz.func104 rfl rfl (of_decide_eq_true rfl) ?_
 simp only [Env.ofArgs]
 generalize hres : Qed l (Qas s) fin n at_ = res
 refine VR [0, 1, 2, 3, 4] rfl rfl fun K hK => ?_;simp only [go_sem,↓reduceIte,reduceEqDiff]
 (refine hK _ _ ?_;clear hK)
 refine VR [1, 2, 3, 4, 13, 14] rfl rfl fun K hK => ?_;simp only [go_sem,↓reduceIte,reduceEqDiff]
 refine Qag Tryz.call135 ?_;simp only [go_sem,↓reduceIte,reduceEqDiff];refine CallK.mk (Qsm l hok (some p) lc w hr) ?_
 rintro v w2 ⟨g, ao, co, hH, rfl⟩
 (refine hK _ _ ?_;clear hK)
 refine VR [1, 2, 3, 4, 13, 14, 25] rfl rfl fun K hK => ?_;simp only [go_sem,↓reduceIte,reduceEqDiff]
 (refine hK _ _ ?_;clear hK)
 refine Qab rfl rfl (fun h => by simp at h) (fun h => Qaf ?_)
 clear h
 refine VR [3, 4, 13, 15] rfl rfl fun K hK => ?_;simp only [go_sem,↓reduceIte,reduceEqDiff]
 refine Qag Tryz.call86 ?_;simp only [go_sem,↓reduceIte,reduceEqDiff];refine CallK.mk (Qdr s at_ w2 (I64.mk (by omega) (by omega)) (by omega)) ?_
 rintro v w3 (⟨hbad, _⟩ | ⟨_, gr, gs, hHr, rfl⟩)
 ·
  omega
 rw [Int.toNat_natCast] at hHr
 have hH2 := hH.call0 hHr
 simp only [List.singleton_append] at hH2
 clear hH hHr
 (refine hK _ _ ?_;clear hK)
 refine VR [3, 4, 13, 15, 35] rfl rfl fun K hK => ?_;simp only [go_sem,↓reduceIte,reduceEqDiff]
 suffices out : ∀ b : Bool, (b = true ↔ False) -> K [(3, .int .i64 n), (4, .int .i64 fin), (13, .pointer (some ⟨g, 0, none⟩)), (15, .pointer (some ⟨gr, 0, none⟩)), (35, .bool b)] w3 by (repeat' (first | exact out _ _ (by first | omega | (simp;done) | (simp;omega)) | exact out _ (by first | omega | (simp;done) | (simp;omega)) | refine ⟨fun _ => ?_, fun _ => ?_⟩ | refine And.intro (by omega) ?_))
 intro b hb
 (refine hK _ _ ?_;clear hK)
 refine Qab rfl rfl (fun h => (hb.1 h).elim) (fun h => Qaf ?_)
 clear hb h
 refine VR [3, 4, 13, 15, 16] rfl rfl fun K hK => ?_;simp only [go_sem,↓reduceIte,reduceEqDiff]
 (refine hK _ _ ?_;clear hK)
 (repeat refine Qai ?_)
 refine Qdf [15, 16] (fun e w' => ∃ (q : List Nat) (to cap : Nat) (a' : Option Addr), Is e [(15, .pointer (some ⟨gr, 0, none⟩)), (16, .slice a' q.length cap)] /\ Heap w [] w' [rd gr gs s to, Res.row 3 1 a' q.length cap (Qaq q)] /\ to <= 8 * s.length /\ res = .ok (q, to)) ?_ ?_
 ·
  refine Qad ?_
  refine Qam [3, 4, 13, 15, 16] (fun m e w' => ∃ (q : List Nat) (to cap : Nat) (a' : Option Addr), Is e [(3, .int .i64 n), (4, .int .i64 fin), (13, .pointer (some ⟨g, 0, none⟩)), (15, .pointer (some ⟨gr, 0, none⟩)), (16, .slice a' q.length cap)] /\ Heap w [] w' [rd gr gs s to, tabR g (.slice (some p) l.length lc) ao co l, ordR ao co l, Res.row 3 1 a' q.length cap (Qaq q)] /\ to <= 8 * s.length /\ q.length <= n /\ (match Qed l (Qas s) fin (n - q.length) to with | .error e => .error e | .ok x => .ok (q ++ x.1, x.2)) = res /\ m = n - q.length) n ?_ ?_
  ·
   simp only [go_sem,↓reduceIte,reduceEqDiff]
   have hH3 := (hH2.nilRow 3 1).perm (G' := [rd gr gs s at_, tabR g (.slice (some p) l.length lc) ao co l, ordR ao co l, Res.row 3 1 none 0 0 []]) (by exact (List.perm_append_comm (l₁ := [Res.row 3 1 none 0 0 []])))
   refine ⟨[], at_, 0, none, rfl, hH3, hat, by simp, ?_, rfl⟩
   rw [<- hres, List.length_nil, Nat.sub_zero]
   cases Qed l (Qas s) fin n at_ <;> rfl
  clear hH2 hres
  rintro m e w4 ⟨q, to, cap, a', rfl, hH, hto, hq, hres, rfl⟩
  refine VR [3, 4, 13, 15, 16, 39] rfl rfl fun K hK => ?_;simp only [go_sem,↓reduceIte,reduceEqDiff]
  (refine hK _ _ ?_;clear hK)
  refine Qab rfl rfl (fun h => ?_) (fun h => ?_)
  ·
   simp only [decide_eq_true_eq] at h
   rw [show n - q.length = (n - (q.length + 1)) + 1 by omega, Qed] at hres
   refine Qaf ?_
   refine Qad ?_
   refine VR [3, 4, 13, 15, 16, 17, 18] rfl rfl fun K hK => ?_;simp only [go_sem,↓reduceIte,reduceEqDiff]
   refine Qag Tryz.call150 ?_;simp only [go_sem,↓reduceIte,reduceEqDiff];refine CallK.mk (QBc l hok s gr gs to hto hs g p lc ao co w w4 _ hr hH) ?_
   intro v w5 hnx
   generalize Qhy l (Qas s) to = r at *
   cases r with
   | error e =>
    obtain ⟨hH3, hne, rfl⟩ := hnx
    subst hres
    (refine hK _ _ ?_;clear hK)
    refine VR [3, 4, 13, 15, 16, 17, 18, 47] rfl rfl fun K hK => ?_;simp only [go_sem,↓reduceIte,reduceEqDiff]
    (refine hK _ _ ?_;clear hK)
    refine Qab rfl rfl (fun h => ?_) (fun h => ?_)
    ·
     refine VR [10, 11, 12] rfl rfl fun K hK => ?_;simp only [go_sem,↓reduceIte,reduceEqDiff]
     (refine hK _ _ ?_;clear hK)
     exact Qan (Qdy rfl rfl rfl rfl ⟨hH3, rfl⟩)
    ·
     simp at h;exact absurd h hne
   | ok x =>
    obtain ⟨hH3, hx1, hx2, rfl⟩ := hnx
    simp only at hres
    (refine hK _ _ ?_;clear hK)
    refine VR [3, 4, 13, 15, 16, 17, 18, 47] rfl rfl fun K hK => ?_;simp only [go_sem,↓reduceIte,reduceEqDiff]
    (refine hK _ _ ?_;clear hK)
    refine Qab rfl rfl (fun h => by cases h) (fun h => Qaf ?_)
    clear h
    refine VR [3, 4, 13, 15, 16, 17] rfl rfl fun K hK => ?_;simp only [go_sem,↓reduceIte,reduceEqDiff]
    refine Qc3 (xs := [.tmp 50]) Tryz.underlying36 sz3 rfl rfl rfl (by omega) ?_;simp only [go_sem,↓reduceIte,reduceEqDiff];refine ⟨by simp [Value.cells], ?_⟩
    refine Qa6 ?_;simp only [go_sem,↓reduceIte,reduceEqDiff];refine Qqe hH3 3 (x.1) rfl Tryz.underlying36 zi3 (by first | rfl | (simp;done) | omega | (simp;omega)) (fun h => by (first | omega | (simp;done) | (simp;omega))) fun a' cap' w5 hc' hH4 => ?_;(try simp only [go_sem,↓reduceIte,reduceEqDiff])
    simp only [List.set_cons_succ, List.set_cons_zero] at hH4
    (refine hK _ _ ?_;clear hK)
    refine VR [3, 4, 13, 15, 16, 55] rfl rfl fun K hK => ?_;simp only [go_sem,↓reduceIte,reduceEqDiff]
    (refine hK _ _ ?_;clear hK)
    refine Qab rfl rfl (fun h => ?_) (fun h => Qaf ?_)
    ·
     simp only [decide_eq_true_eq] at h
     rw [if_pos (by omega)] at hres
     refine Qap rfl ?_
     refine Qah ?_
     simp only [go_sem,↓reduceIte,reduceEqDiff]
     exact ⟨q ++ [x.1], x.2, cap', a', rfl, hH4.sub (.cons_cons _ (.cons _ (.cons _ (.refl _)))), hx1, hres.symm⟩
    simp only [decide_eq_false_iff_not] at h
    rw [if_neg (by omega)] at hres
    refine Qav ?_
    refine Qah ?_
    simp only [go_sem,↓reduceIte,reduceEqDiff]
    refine ⟨n - (q ++ [x.1]).length, by simp;omega, q ++ [x.1], x.2, cap', a', rfl, hH4, hx1, by simp;omega, ?_, rfl⟩
    rw [<- hres, show n - (q ++ [x.1]).length = n - (q.length + 1) by simp]
    cases Qed l (Qas s) fin (n - (q.length + 1)) x.2 with
    | error e => rfl
    | ok y => simp
  ·
   simp only [decide_eq_false_iff_not] at h
   rw [show n - q.length = 0 by omega, Qed] at hres
   simp only [List.append_nil] at hres
   refine Qap rfl ?_
   refine Qah ?_
   simp only [go_sem,↓reduceIte,reduceEqDiff]
   exact ⟨q, to, cap, a', rfl, hH.sub (.cons_cons _ (.cons _ (.cons _ (.refl _)))), hto, hres.symm⟩
 rintro e w' ⟨q, to, cap, a', rfl, hH, hto, rfl⟩
 refine VR [10, 11, 12] rfl rfl fun K hK => ?_;simp only [go_sem,↓reduceIte,reduceEqDiff]
 refine Qag Tryz.call100 ?_;simp only [go_sem,↓reduceIte,reduceEqDiff];refine CallK.mk (Qnf gr gs to s w' (hH.at 0 rfl)) ?_
 rintro v w7 ⟨rfl, rfl⟩
 (refine hK _ _ ?_;clear hK)
 exact Qan (Qdy rfl rfl rfl rfl ⟨a', cap, hH.sub (by simp), rfl⟩)
abbrev Tr := Int × Nat
def Qbb (t : Tr) : List Value := [.int .i64 t.1, .int .i64 t.2]
theorem Qe5 (t : Tr) : (Qbb t).length = 2 := rfl
theorem Qdb (t : Tr) : ∀ v ∈ Qbb t, v.oneCell' = true := by
 intro v hv
 simp [Qbb] at hv
 rcases hv with rfl | rfl <;> rfl
def Qet (l : List Tr) : List Value := Qdd Qbb l
def cmpT (a b : Tr) : Int := if a.1 = b.1 then (a.2 : Int) - b.2 else a.1 - b.1
theorem Qvc (a b : Tr) (xo yo : Operand) (w : World) (KV : Value -> Prop) : Qbr Tryz.prog .eql 200 xo yo (.agg (Qbb a).toArray) (.agg (Qbb b).toArray) w KV = KV (.bool (decide (a = b))) := by
 refine Qlq fun w' => ?_
 have hS : Tryz.prog.underlying 200 = some (.struct (Tryz.prog.fieldsOf 200)) := by kernel_rfl
 have hp : Tryz.prog.stoodInHeld 200 = false := by kernel_rfl
 have hg : Tryz.prog.eqGuardType Tryz.prog.depth 200 = false := by kernel_rfl
 simp only [Sem.run_bind]
 rw [run_eqGuard_agg _ _ _ _ _ _ _ hg]
 simp only [Result.andThen_ok]
 rw [run_eql_struct, show (10000 : Nat) = 9999 + 1 from rfl, run_equalIn_agg w' 9999 200 _ _ hS hp]
 simp only [Program.fieldsOf, Tryz.underlying200]
 have u3 := Tryz.underlying3
 have a3 := Tryz.isAgg3
 have z3 := Tryz.sizeOf3
 simp only [Qbb]
 go_simp
 obtain ⟨a1, a2⟩ := a
 obtain ⟨b1, b2⟩ := b
 simp only [Prod.mk.injEq]
 by_cases h1 : a1 = b1
 ·
  by_cases h2 : a2 = b2
  ·
   subst h1 h2;simp
  ·
   have h3 : ¬ ((a2 : Int) = b2) := by omega
   simp [h1, h2, h3]
 ·
  simp [h1]
theorem Qk8 (a b : Tr) : a = b ↔ a.1 = b.1 /\ a.2 = b.2 := by
 obtain ⟨a1, a2⟩ := a
 obtain ⟨b1, b2⟩ := b
 simp
def TrOk (t : Tr) : Prop := -1099511627776 <= t.1 /\ t.1 <= 1099511627776 /\ t.2 <= 1000000
theorem Qoh (a b : Tr) (ha : TrOk a) (hb : TrOk b) (w : World) : Does Tryz.prog 165 #[.agg (Qbb a).toArray, .agg (Qbb b).toArray] w fun v w' => Heap w [] w' [] /\ v = .int .i64 (cmpT a b) := by
 obtain ⟨ha1, ha2, ha3⟩ := ha
 obtain ⟨hb1, hb2, hb3⟩ := hb
 refine Qak (args := [.agg (Qbb a).toArray, .agg (Qbb b).toArray]) 23 Tryz.func165 rfl rfl (of_decide_eq_true rfl) ?_
 simp only [Env.ofArgs]
 refine VR [2, 3] rfl rfl fun K hK => ?_;simp only [go_sem,↓reduceIte,reduceEqDiff]
 refine Qcg ?_
 simp only [go_sem,↓reduceIte,reduceEqDiff]
 have hH := (Heap.start w).box 200 (Qbb a)
 have e1 : w.alloc (Obj.cells (Qbb a).toArray 200) = w.alloc (Obj.cells (Qbb a).toArray 200) := rfl
 generalize w.alloc (Obj.cells (Qbb a).toArray 200) = w1 at *
 generalize w.heap.size = ga at *
 refine Qcg ?_
 simp only [go_sem,↓reduceIte,reduceEqDiff]
 have hH2 := hH.box 200 (Qbb b)
 generalize w1.alloc (Obj.cells (Qbb b).toArray 200) = w2 at *
 generalize w1.heap.size = gb at *
 clear hH e1
 (refine hK _ _ ?_;clear hK)
 refine VR [2, 3, 7] rfl rfl fun K hK => ?_;simp only [go_sem,↓reduceIte,reduceEqDiff]
 refine ⟨Qbb a, ⟨rfl, Qa1 (hH2.at 1 rfl)⟩, ?_⟩
 refine ⟨Qbb b, ⟨rfl, Qa1 (hH2.at 0 rfl)⟩, ?_⟩
 rw [Qvc]
 (refine hK _ _ ?_;clear hK)
 refine Qab rfl rfl (fun h => ?_) (fun h => Qaf ?_)
 ·
  simp only [decide_eq_true_eq] at h
  subst h
  refine VR [4] rfl rfl fun K hK => ?_;simp only [go_sem,↓reduceIte,reduceEqDiff]
  (refine hK _ _ ?_;clear hK)
  exact Qan (Qax rfl rfl ⟨hH2.sub (by simp), by simp [cmpT]⟩)
 clear h
 have c1 : w2.cell? ⟨ga, 0, none⟩ = some (.int .i64 a.1) := Qac (hH2.at 1 rfl) rfl
 have c2 : w2.cell? ⟨ga, 1, none⟩ = some (.int .i64 a.2) := Qac (hH2.at 1 rfl) rfl
 have c3 : w2.cell? ⟨gb, 0, none⟩ = some (.int .i64 b.1) := Qac (hH2.at 0 rfl) rfl
 have c4 : w2.cell? ⟨gb, 1, none⟩ = some (.int .i64 b.2) := Qac (hH2.at 0 rfl) rfl
 refine VR [2, 3, 12] rfl rfl fun K hK => ?_;simp only [go_sem,↓reduceIte,reduceEqDiff]
 refine ⟨_, c1, _, c3, ?_⟩
 simp only [go_sem,↓reduceIte,reduceEqDiff]
 (refine hK _ _ ?_;clear hK)
 refine Qab rfl rfl (fun h => ?_) (fun h => Qaf ?_)
 ·
  simp only [decide_eq_true_eq] at h
  refine VR [4] rfl rfl fun K hK => ?_;simp only [go_sem,↓reduceIte,reduceEqDiff]
  refine ⟨_, c1, _, c3, ?_⟩
  simp only [go_sem,↓reduceIte,reduceEqDiff]
  refine ⟨I64.mk (by omega) (by omega), ?_⟩
  (refine hK _ _ ?_;clear hK)
  exact Qan (Qax rfl rfl ⟨hH2.sub (by simp), by rw [cmpT, if_neg h]⟩)
 simp only [decide_eq_false_iff_not, Decidable.not_not] at h
 refine VR [4] rfl rfl fun K hK => ?_;simp only [go_sem,↓reduceIte,reduceEqDiff]
 refine ⟨_, c2, _, c4, ?_⟩
 simp only [go_sem,↓reduceIte,reduceEqDiff]
 refine ⟨I64.mk (by omega) (by omega), ?_⟩
 (refine hK _ _ ?_;clear hK)
 exact Qan (Qax rfl rfl ⟨hH2.sub (by simp), by rw [cmpT, if_pos h]⟩)
theorem Qis (l : List Tr) : (Qet l).length = l.length * 2 := Qsh Qe5 l
def minT : Tr -> List Tr -> Tr
 | m, [] => m
 | m, t :: l => minT (if cmpT t m < 0 then t else m) l
theorem Qsq : ∀ (l : List Tr) (m t : Tr), minT m (l ++ [t]) = if cmpT t (minT m l) < 0 then t else minT m l
 | [], m, t => rfl
 | x :: l, m, t => by rw [List.cons_append, minT, Qsq l _ t, minT]
theorem Qqh : ∀ (l : List Tr) (m : Tr), minT m l = m ∨ minT m l ∈ l
 | [], m => .inl rfl
 | x :: l, m => by
  rw [minT]
  rcases Qqh l (if cmpT x m < 0 then x else m) with h | h
  ·
   rw [h];split
   ·
    simp
   ·
    simp
  ·
   simp [h]
theorem Qpc {a b c : Tr} (h1 : ¬ cmpT b a < 0) (h2 : ¬ cmpT c b < 0) : ¬ cmpT c a < 0 := by
 unfold cmpT at *
 (repeat' split at *) <;> omega
theorem QBd : ∀ (l : List Tr) (m : Tr), ¬ cmpT m (minT m l) < 0 /\ ∀ t ∈ l, ¬ cmpT t (minT m l) < 0
 | [], m => ⟨by simp [minT, cmpT], by simp⟩
 | x :: l, m => by
  rw [minT]
  obtain ⟨h1, h2⟩ := QBd l (if cmpT x m < 0 then x else m)
  by_cases hx : cmpT x m < 0
  ·
   rw [if_pos hx] at h1 h2 ⊢
   refine ⟨Qpc h1 (by unfold cmpT at hx ⊢;(repeat' split at *) <;> omega), fun t ht => ?_⟩
   rcases List.mem_cons.1 ht with rfl | ht
   ·
    exact h1
   ·
    exact h2 t ht
  ·
   rw [if_neg hx] at h1 h2 ⊢
   refine ⟨h1, fun t ht => ?_⟩
   rcases List.mem_cons.1 ht with rfl | ht
   ·
    exact Qpc h1 hx
   ·
    exact h2 t ht
abbrev Qsr : Value := .func (.func 165) #[] #[]
def trow (g cap : Nat) (l : List Tr) : Res := Res.row 200 2 (some ⟨g, 0, none⟩) l.length cap (Qet l)
theorem Qss (t0 : Tr) (l : List Tr) (hl : l.length <= 1000000) (hok : ∀ t ∈ t0 :: l, TrOk t) (g cap : Nat) (w : World) (hL : (trow g cap (t0 :: l)).holds w) :
  Does Tryz.prog 189 #[.slice (some ⟨g, 0, none⟩) (t0 :: l).length cap, Qsr] w fun v w' => Heap w [] w' [] /\ v = .agg (Qbb (minT t0 l)).toArray := by
 have hrs : RS w (some ⟨g, 0, none⟩) (t0 :: l).length 2 (Qet (t0 :: l)) := Qbo hL
 have hget : ∀ (w' : World) (i : Nat) (x : Tr), RS w' (some ⟨g, 0, none⟩) (t0 :: l).length 2 (Qet (t0 :: l)) -> (t0 :: l)[i]? = some x -> Reads w' ⟨g, i * 2, none⟩ (Qbb x) := fun w' i x h hi => by
  have := Qhc Qe5 h rfl hi
  rwa [Qbp, Nat.zero_add] at this
 refine Qak (args := [.slice (some ⟨g, 0, none⟩) (t0 :: l).length cap, Qsr]) 33 Tryz.func189 rfl rfl (of_decide_eq_true rfl) ?_
 simp only [Env.ofArgs]
 generalize hn : (t0 :: l).length = n at *
 have hn1 : l.length + 1 = n := by rw [<- hn];simp
 refine VR [0, 1, 4] rfl rfl fun K hK => ?_;simp only [go_sem,↓reduceIte,reduceEqDiff]
 refine Qat (.agg #[.int .i64 0, .int .i64 0]) (by kernel_rfl) ?_
 simp only [go_sem,↓reduceIte,reduceEqDiff]
 have hH := (Heap.start w).box 200 [.int .i64 0, .int .i64 0]
 generalize w.alloc (Obj.cells [Value.int .i64 0, .int .i64 0].toArray 200) = w1 at *
 generalize w.heap.size = gr at *
 (refine hK _ _ ?_;clear hK)
 refine VR [0, 1, 4, 9] rfl rfl fun K hK => ?_;simp only [go_sem,↓reduceIte,reduceEqDiff]
 (refine hK _ _ ?_;clear hK)
 refine Qdf [0, 1, 4] (fun e w' => Is e [(0, .slice (some ⟨g, 0, none⟩) n cap), (1, Qsr), (4, .pointer (some ⟨gr, 0, none⟩))] /\ Is w' w1) ?_ ?_
 ·
  refine Qab rfl rfl (fun h => by simp at h;omega) (fun h => Qaf ?_)
  refine Qah ?_
  simp only [go_sem,↓reduceIte,reduceEqDiff]
  exact ⟨rfl, rfl⟩
 rintro e w' ⟨rfl, rfl⟩
 have h0 := hget w' 0 t0 (hH.rs' hrs) rfl
 refine VR [0, 1, 4, 5] rfl rfl fun K hK => ?_;simp only [go_sem,↓reduceIte,reduceEqDiff]
 refine ⟨by omega, Qbb t0, ⟨rfl, h0⟩, ?_⟩
 refine Qat (.agg #[.int .i64 0, .int .i64 0]) (by kernel_rfl) ?_
 simp only [go_sem,↓reduceIte,reduceEqDiff]
 have hH1 := hH.box 200 [.int .i64 0, .int .i64 0]
 generalize w'.alloc (Obj.cells [Value.int .i64 0, .int .i64 0].toArray 200) = w2 at *
 generalize w'.heap.size = gm at *
 refine Qae ?_
 simp only [go_sem,↓reduceIte,reduceEqDiff]
 refine Qal hH1 0 (vs := Qbb t0) rfl rfl (by kernel_rfl) (by simp [Qbb]) (Qdb _) fun w3 hH2 => ?_
 have hH2 : Heap w [] w3 [Res.blk gm 200 (Qbb t0), Res.blk gr 200 [.int .i64 0, .int .i64 0]] := hH2
 clear hH hH1 h0
 (refine hK _ _ ?_;clear hK)
 refine VR [0, 1, 4, 5, 6] rfl rfl fun K hK => ?_;simp only [go_sem,↓reduceIte,reduceEqDiff]
 (refine hK _ _ ?_;clear hK)
 refine Qad ?_
 refine Qam [0, 1, 4, 5, 6] (fun m e w' => ∃ (i : Nat), Is e [(0, .slice (some ⟨g, 0, none⟩) n cap), (1, Qsr), (4, .pointer (some ⟨gr, 0, none⟩)), (5, .pointer (some ⟨gm, 0, none⟩)), (6, .int .i64 (i + 1 : Nat))] /\ Heap w [] w' [Res.blk gm 200 (Qbb (minT t0 (l.take i))), Res.blk gr 200 [.int .i64 0, .int .i64 0]] /\ i + 1 <= n /\ m = n - i) n ?_ ?_
 ·
  simp only [go_sem,↓reduceIte,reduceEqDiff]
  exact ⟨0, rfl, hH2, by omega, rfl⟩
 clear hH2
 rintro m e w4 ⟨i, rfl, hH, hi, rfl⟩
 refine VR [0, 1, 4, 5, 6, 17] rfl rfl fun K hK => ?_;simp only [go_sem,↓reduceIte,reduceEqDiff]
 (refine hK _ _ ?_;clear hK)
 refine Qab rfl rfl (fun h => ?_) (fun h => ?_)
 ·
  simp only [decide_eq_true_eq] at h
  have hil : i < l.length := by omega
  have hgi : (t0 :: l)[i + 1]? = some l[i] := by simp [List.getElem?_eq_getElem hil]
  have hrd := hget w4 (i + 1) l[i] (hH.rs' hrs) hgi
  have htk : l.take (i + 1) = l.take i ++ [l[i]] := by rw [List.take_add_one, List.getElem?_eq_getElem hil];rfl
  have hmn := Qsq (l.take i) t0 l[i]
  rw [<- htk] at hmn
  have hokx : TrOk l[i] := hok _ (by simp)
  have hokm : TrOk (minT t0 (l.take i)) := hok _ (by
   rcases Qqh (l.take i) t0 with h | h
   ·
    rw [h];simp
   ·
    exact List.mem_cons_of_mem _ (List.mem_of_mem_take h))
  generalize l[i] = x at *
  generalize minT t0 (l.take i) = mt at *
  refine Qaf ?_
  ((repeat refine Qai ?_);refine Qad ?_)
  (repeat refine Qai ?_);refine Qa8 [0, 1, 4, 5, 6, 27] 6 (by kernel_rfl) (by kernel_rfl) (by kernel_rfl) rfl fun K hK => ?_;simp only [go_sem,↓reduceIte,reduceEqDiff]
  refine ⟨⟨by omega, by omega⟩, Qbb x, ⟨rfl, hrd⟩, ?_⟩
  refine ⟨Qbb mt, ⟨rfl, Qa1 (hH.at 0 rfl)⟩, ?_⟩
  refine Qbf ?_;simp only [go_sem,↓reduceIte,reduceEqDiff];refine FnK.mk Tryz.call165 (Qoh x mt hokx hokm w4) ?_
  rintro v w5 ⟨hHc, rfl⟩
  have hH2 := hH.call0 hHc
  simp only [List.nil_append] at hH2
  simp only [go_sem,↓reduceIte,reduceEqDiff]
  (refine hK _ _ ?_;clear hK)
  have hrd5 := hget w5 (i + 1) x (hH2.rs' hrs) hgi
  clear hH hHc
  refine Qab rfl rfl (fun h => ?_) (fun h => ?_)
  ·
   simp only [decide_eq_true_eq] at h
   rw [if_pos h] at hmn
   refine VR [0, 1, 4, 5, 6] rfl rfl fun K hK => ?_;simp only [go_sem,↓reduceIte,reduceEqDiff]
   refine ⟨⟨by omega, by omega⟩, Qbb x, ⟨rfl, hrd5⟩, ?_⟩
   refine Qae ?_
   simp only [go_sem,↓reduceIte,reduceEqDiff]
   refine Qal hH2 0 (vs := Qbb x) rfl rfl (by kernel_rfl) (by simp [Qbb]) (Qdb _) fun w6 hH3 => ?_
   have hH3 : Heap w [] w6 [Res.blk gm 200 (Qbb x), Res.blk gr 200 [.int .i64 0, .int .i64 0]] := hH3
   (refine hK _ _ ?_;clear hK)
   refine Qav ?_
   refine VR [0, 1, 4, 5, 6] rfl rfl fun K hK => ?_;simp only [go_sem,↓reduceIte,reduceEqDiff]
   ((repeat refine And.intro (by omega) ?_);refine hK _ _ ?_;clear hK)
   refine Qah ?_
   simp only [go_sem,↓reduceIte,reduceEqDiff]
   exact ⟨n - (i + 1), by omega, i + 1, rfl, by rw [hmn];exact hH3, by omega, rfl⟩
  ·
   simp only [decide_eq_false_iff_not] at h
   rw [if_neg h] at hmn
   refine Qaf ?_
   refine Qav ?_
   refine VR [0, 1, 4, 5, 6] rfl rfl fun K hK => ?_;simp only [go_sem,↓reduceIte,reduceEqDiff]
   ((repeat refine And.intro (by omega) ?_);refine hK _ _ ?_;clear hK)
   refine Qah ?_
   simp only [go_sem,↓reduceIte,reduceEqDiff]
   exact ⟨n - (i + 1), by omega, i + 1, rfl, by rw [hmn];exact hH2, by omega, rfl⟩
 ·
  simp only [decide_eq_false_iff_not] at h
  refine Qap rfl ?_
  rw [List.take_of_length_le (by omega)] at hH
  refine VR [4] rfl rfl fun K hK => ?_;simp only [go_sem,↓reduceIte,reduceEqDiff]
  refine ⟨Qbb (minT t0 l), ⟨rfl, Qa1 (hH.at 0 rfl)⟩, ?_⟩
  refine Qae ?_
  simp only [go_sem,↓reduceIte,reduceEqDiff]
  refine Qal hH 1 (vs := Qbb (minT t0 l)) rfl rfl (by kernel_rfl) (by simp [Qbb]) (Qdb _) fun w6 hH3 => ?_
  have hH3 : Heap w [] w6 [Res.blk gm 200 (Qbb (minT t0 l)), Res.blk gr 200 (Qbb (minT t0 l))] := hH3
  (refine hK _ _ ?_;clear hK)
  refine Qan (Qqa rfl rfl (Qbu (hH3.at 1 rfl) (by kernel_rfl) (by kernel_rfl) rfl ?_))
  exact ⟨hH3.sub (by simp), rfl⟩
theorem Qvd (x : Tr) (l : List Tr) (hl : l.length <= 1000000) (hx : x ∈ l) (g cap : Nat) (w : World) (hL : (trow g cap l).holds w) :
  Does Tryz.prog 190 #[.slice (some ⟨g, 0, none⟩) l.length cap, .agg (Qbb x).toArray] w fun v w' => Heap w [] w' [] /\ ∃ i : Nat, l[i]? = some x /\ v = .int .i64 i := by
 have hrs : RS w (some ⟨g, 0, none⟩) l.length 2 (Qet l) := Qbo hL
 have hget : ∀ (w' : World) (i : Nat) (y : Tr), RS w' (some ⟨g, 0, none⟩) l.length 2 (Qet l) -> l[i]? = some y -> Reads w' ⟨g, i * 2, none⟩ (Qbb y) := fun w' i y h hi => by
  have := Qhc Qe5 h rfl hi
  rwa [Qbp, Nat.zero_add] at this
 refine Qak (args := [.slice (some ⟨g, 0, none⟩) l.length cap, .agg (Qbb x).toArray]) 19 Tryz.func190 rfl rfl (of_decide_eq_true rfl) ?_
 simp only [Env.ofArgs]
 generalize hn : l.length = n at *
 refine VR [0, 3] rfl rfl fun K hK => ?_;simp only [go_sem,↓reduceIte,reduceEqDiff]
 refine Qcg ?_
 simp only [go_sem,↓reduceIte,reduceEqDiff]
 have hH := (Heap.start w).box 200 (Qbb x)
 generalize w.alloc (Obj.cells (Qbb x).toArray 200) = w1 at *
 generalize w.heap.size = gx at *
 (refine hK _ _ ?_;clear hK)
 refine VR [0, 3, 7, 8] rfl rfl fun K hK => ?_;simp only [go_sem,↓reduceIte,reduceEqDiff]
 (refine hK _ _ ?_;clear hK)
 refine Qad ?_
 refine Qam [0, 3, 7, 8] (fun m e w' => ∃ (i : Nat), Is e [(0, .slice (some ⟨g, 0, none⟩) n cap), (3, .pointer (some ⟨gx, 0, none⟩)), (7, .int .i64 n), (8, .int .i64 i)] /\ Is w' w1 /\ i <= n /\ x ∉ l.take i /\ m = n - i) n ?_ ?_
 ·
  simp only [go_sem,↓reduceIte,reduceEqDiff]
  exact ⟨0, rfl, rfl, by omega, by simp, rfl⟩
 rintro m e w' ⟨i, rfl, rfl, hi, hnot, rfl⟩
 refine VR [0, 3, 7, 8, 9] rfl rfl fun K hK => ?_;simp only [go_sem,↓reduceIte,reduceEqDiff]
 (refine hK _ _ ?_;clear hK)
 (repeat refine Qai ?_)
 refine Qab rfl rfl (fun h => ?_) (fun h => ?_)
 ·
  simp only [decide_eq_true_eq] at h
  have hil : i < l.length := by omega
  have hgi : l[i]? = some l[i] := List.getElem?_eq_getElem hil
  have hrd := hget w' i l[i] (hH.rs' hrs) hgi
  have htk : l.take (i + 1) = l.take i ++ [l[i]] := by rw [List.take_add_one, hgi];rfl
  generalize l[i] = y at *
  refine Qaf ?_
  ((repeat refine Qai ?_);refine Qad ?_)
  refine VR [0, 3, 5, 7, 8] rfl rfl fun K hK => ?_;simp only [go_sem,↓reduceIte,reduceEqDiff]
  (refine hK _ _ ?_;clear hK)
  (repeat refine Qai ?_);refine Qcq [0, 3, 5, 7, 8, 16] (by kernel_rfl) (by kernel_rfl) rfl fun K hK => ?_;simp only [go_sem,↓reduceIte,reduceEqDiff]
  refine ⟨Qbb x, ⟨rfl, Qa1 (hH.at 0 rfl)⟩, ?_⟩
  refine ⟨⟨by omega, by omega⟩, Qbb y, ⟨rfl, hrd⟩, ?_⟩
  rw [Qvc]
  (refine hK _ ?_;clear hK)
  refine Qab rfl rfl (fun h => ?_) (fun h => Qaf ?_)
  ·
   simp only [decide_eq_true_eq] at h
   subst h
   refine VR [4] rfl rfl fun K hK => ?_;simp only [go_sem,↓reduceIte,reduceEqDiff]
   (refine hK _ _ ?_;clear hK)
   exact Qan (Qax rfl rfl ⟨hH.sub (by simp), i, hgi, rfl⟩)
  simp only [decide_eq_false_iff_not] at h
  refine Qav ?_
  refine VR [0, 3, 7, 8] rfl rfl fun K hK => ?_;simp only [go_sem,↓reduceIte,reduceEqDiff]
  ((repeat refine And.intro (by omega) ?_);refine hK _ _ ?_;clear hK)
  refine Qah ?_
  simp only [go_sem,↓reduceIte,reduceEqDiff]
  refine ⟨n - (i + 1), by omega, i + 1, rfl, rfl, by omega, ?_, rfl⟩
  rw [htk, List.mem_append]
  rintro (h2 | h2)
  ·
   exact hnot h2
  ·
   simp at h2;exact h h2
 ·
  simp only [decide_eq_false_iff_not] at h
  rw [List.take_of_length_le (by omega)] at hnot
  exact absurd hx hnot
def Qeu (ws ov : List Nat) : List Tr := ((List.range ws.length).filter fun i => ov.getD i 0 == 0).map fun i => ((ws.getD i 0 : Nat), i)
theorem Qni {ws ov : List Nat} {t : Tr} : t ∈ Qeu ws ov ↔ t.2 < ws.length /\ ov.getD t.2 0 = 0 /\ t.1 = (ws.getD t.2 0 : Nat) := by
 unfold Qeu
 rw [List.mem_map]
 constructor
 ·
  rintro ⟨i, hi, rfl⟩
  rw [List.mem_filter, List.mem_range, beq_iff_eq] at hi
  exact ⟨hi.1, hi.2, rfl⟩
 ·
  rintro ⟨h1, h2, h3⟩
  refine ⟨t.2, ?_, ?_⟩
  ·
   rw [List.mem_filter, List.mem_range, beq_iff_eq];exact ⟨h1, h2⟩
  ·
   rw [Qk8];exact ⟨h3.symm, rfl⟩
theorem Qnj {ws ov : List Nat} {t : Tr} (ht : t ∈ Qeu ws ov) (hm : ∀ x ∈ Qeu ws ov, ¬ cmpT x t < 0) : IsLeast ws ov t.2 /\ t.1 = (ws.getD t.2 0 : Nat) := by
 obtain ⟨h1, h2, h3⟩ := Qni.1 ht
 refine ⟨⟨h1, h2, fun i hi hf => ?_⟩, h3⟩
 have := hm (((ws.getD i 0 : Nat) : Int), i) (Qni.2 ⟨hi, hf, rfl⟩)
 unfold cmpT at this
 simp only at this
 split at this <;> omega
theorem Qst {p q : Nat -> Bool} {a n : Nat} (ha : a < n) (hpa : p a = true) (hqa : q a = false) (h : ∀ i, i ≠ a -> q i = p i) : ((List.range n).filter p).Perm (a :: (List.range n).filter q) := by
 induction n with
 | zero => omega
 | succ n ih =>
  rw [List.range_succ, List.filter_append, List.filter_append]
  by_cases e : a = n
  ·
   subst e
   have e1 : (List.range a).filter p = (List.range a).filter q := List.filter_congr fun i hi => by
    have : i < a := by simpa using hi
    exact (h i (by omega)).symm
   rw [List.filter_cons_of_pos hpa, List.filter_cons_of_neg (by simp [hqa]), List.filter_nil, List.filter_nil, List.append_nil, e1]
   exact List.perm_append_singleton _ _
  ·
   have e1 : [n].filter p = [n].filter q := by
    have := h n (fun x => e x.symm)
    cases hp : p n <;> simp [hp, this]
   rw [e1, <- List.cons_append]
   exact (ih (by omega)).append_right _
theorem Qsu {ws ov : List Nat} {a v : Nat} (ha : a < ws.length) (hl : ov.length = ws.length) (h0 : ov.getD a 0 = 0) (hv : v ≠ 0) : (Qeu ws ov).Perm (((ws.getD a 0 : Nat), a) :: Qeu ws (ov.set a v)) := by
 unfold Qeu
 have := Qst (p := fun i => ov.getD i 0 == 0) (q := fun i => (ov.set a v).getD i 0 == 0) ha (by simp only [beq_iff_eq];exact h0) (by rw [Qcv (by omega)];simp [hv]) (fun i hi => by rw [Qcn (fun x => hi x.symm)])
 have h2 := this.map fun i => (((ws.getD i 0 : Nat) : Int), i)
 rw [List.map_cons] at h2
 exact h2
theorem Qyn {ws ov : List Nat} (x : Nat) (hl : ov.length = ws.length) : Qeu (ws ++ [x]) (ov ++ [0]) = Qeu ws ov ++ [(((x : Nat) : Int), ws.length)] := by
 unfold Qeu
 rw [List.length_append, List.length_singleton, List.range_succ, List.filter_append, List.map_append]
 congr 1
 ·
  have e : (List.range ws.length).filter (fun i => (ov ++ [0]).getD i 0 == 0) = (List.range ws.length).filter fun i => ov.getD i 0 == 0 := List.filter_congr fun i hi => by
   rw [Qcj (by rw [hl];simpa using hi)]
  rw [e]
  refine List.map_congr_left fun i hi => ?_
  rw [List.mem_filter, List.mem_range] at hi
  rw [Qcj hi.1]
 ·
  have e1 : (ov ++ [0]).getD ws.length 0 = 0 := by rw [<- hl];exact Qhv
  rw [List.filter_cons_of_pos (by rw [beq_iff_eq];exact e1), List.filter_nil, List.map_cons, List.map_nil, Qhv]
theorem QBe (ws ov : List Nat) : (Qeu ws ov).length = Qbq (fun i => if ov.getD i 0 = 0 then 1 else 0) ws.length := by
 unfold Qeu
 rw [List.length_map]
 generalize ws.length = n
 induction n with
 | zero => rfl
 | succ n ih =>
  rw [List.range_succ, List.filter_append, List.length_append, ih, Qbq]
  by_cases h : ov.getD n 0 = 0
  ·
   rw [List.filter_cons_of_pos (by rw [beq_iff_eq];exact h), if_pos h];rfl
  ·
   rw [List.filter_cons_of_neg (by rw [beq_iff_eq];exact h), if_neg h];rfl
theorem Qve (w : List Nat) : Qeu w (List.replicate w.length 0) = (List.range w.length).map fun i => (((w.getD i 0 : Nat) : Int), i) := by
 unfold Qeu
 rw [List.filter_eq_self.2 fun i hi => by rw [Qc6];rfl]
theorem QEg {α : Type} (l : List α) (i : Nat) (x z : α) (hx : l[i]? = some x) (hz : l[l.length - 1]? = some z) : l.Perm (x :: (l.set i z).take (l.length - 1)) := by
 have hi := (List.getElem?_eq_some_iff.1 hx).1
 have hxe : l[i] = x := (List.getElem?_eq_some_iff.1 hx).2
 have h1 : l = l.take (l.length - 1) ++ [z] := by
  have h2 : l.drop (l.length - 1) = [z] := by
   have h3 := (List.getElem?_eq_some_iff.1 hz)
   rw [List.drop_eq_getElem_cons h3.1, h3.2, List.drop_of_length_le (by omega)]
  rw [<- h2, List.take_append_drop]
 rw [List.take_set]
 generalize hin : l.take (l.length - 1) = t at *
 have htl : t.length = l.length - 1 := by rw [<- hin, List.length_take];omega
 by_cases e : i = l.length - 1
 ·
  have : x = z := by rw [e, hz] at hx;exact (Option.some.inj hx).symm
  subst this
  rw [List.set_eq_of_length_le (by omega), h1]
  exact List.perm_append_singleton _ _
 ·
  have hit : i < t.length := by omega
  have hti : t[i]? = some x := by
   rw [<- hin, List.getElem?_take, if_pos (by omega)];exact hx
  have ht : t = t.take i ++ x :: t.drop (i + 1) := by
   have h4 := List.getElem?_eq_some_iff.1 hti
   have h5 := List.drop_eq_getElem_cons h4.1
   rw [h4.2] at h5
   rw [<- h5, List.take_append_drop]
  rw [List.set_eq_take_append_cons_drop, if_pos hit]
  generalize t.take i = a at *
  generalize t.drop (i + 1) = b at *
  rw [h1, ht, List.append_assoc]
  have p1 : (a ++ (x :: b ++ [z])).Perm (x :: (a ++ (b ++ [z]))) := by simp
  refine p1.trans (List.Perm.cons x ?_)
  exact (List.perm_append_comm (l₁ := b) (l₂ := [z])).append_left a
def tvar (gT g cap : Nat) (l : List Tr) : Res := Res.blk gT 198 [.slice (some ⟨g, 0, none⟩) l.length cap]
theorem Qpd (trees : List Tr) (hl : trees.length <= 1000000) (hne : 0 < trees.length) (hok : ∀ t ∈ trees, TrOk t) (gT g cap : Nat) (w0 w : World) (B : List Nat) (G : List Res) (hL : Heap w0 B w (trow g cap trees :: tvar gT g cap trees :: G)) :
  Does Tryz.prog 188 #[.pointer (some ⟨gT, 0, none⟩)] w fun v w' => ∃ (t : Tr) (trees' : List Tr), trees.Perm (t :: trees') /\ (∀ x ∈ trees, ¬ cmpT x t < 0) /\ Heap w0 B w' (trow g cap trees' :: tvar gT g cap trees' :: G) /\ v = .agg (Qbb t).toArray := by
 obtain ⟨t0, l0, rfl⟩ : ∃ t0 l0, trees = t0 :: l0 := by
  cases trees with
  | nil => simp at hne
  | cons t l => exact ⟨t, l, rfl⟩
 have hmin := QBd l0 t0
 have hmem : minT t0 l0 ∈ t0 :: l0 := by
  rcases Qqh l0 t0 with h | h
  ·
   rw [h];simp
  ·
   exact List.mem_cons_of_mem _ h
 have hall : ∀ x ∈ t0 :: l0, ¬ cmpT x (minT t0 l0) < 0 := fun x hx => by
  rcases List.mem_cons.1 hx with rfl | hx
  ·
   exact hmin.1
  ·
   exact hmin.2 x hx
 clear hmin
 refine Qak (args := [.pointer (some ⟨gT, 0, none⟩)]) 24 Tryz.func188 rfl rfl (of_decide_eq_true rfl) ?_
 simp only [Env.ofArgs]
 refine VR [0, 1] rfl rfl fun K hK => ?_;simp only [go_sem,↓reduceIte,reduceEqDiff]
 refine Qat (.agg #[.int .i64 0, .int .i64 0]) (by kernel_rfl) ?_
 simp only [go_sem,↓reduceIte,reduceEqDiff]
 have hH := hL.box 200 [.int .i64 0, .int .i64 0]
 generalize w.alloc (Obj.cells [Value.int .i64 0, .int .i64 0].toArray 200) = w1 at *
 generalize w.heap.size = gr at *
 clear hL
 (refine hK _ _ ?_;clear hK)
 refine VR [0, 1, 2] rfl rfl fun K hK => ?_;simp only [go_sem,↓reduceIte,reduceEqDiff]
 refine ⟨_, Qac (hH.at 2 rfl) rfl, ?_⟩
 refine Qag Tryz.call189 ?_;simp only [go_sem,↓reduceIte,reduceEqDiff];refine CallK.mk (Qss t0 l0 (by simp at hl;omega) hok g cap w1 (hH.at 1 rfl)) ?_
 rintro v w2 ⟨hHm, rfl⟩
 have hH2 := hH.call0 hHm
 simp only [List.nil_append] at hH2
 clear hH hHm
 generalize minT t0 l0 = t at *
 generalize hT : t0 :: l0 = trees at *
 refine Qat (.agg #[.int .i64 0, .int .i64 0]) (by kernel_rfl) ?_
 simp only [go_sem,↓reduceIte,reduceEqDiff]
 have hH3 := hH2.box 200 [.int .i64 0, .int .i64 0]
 generalize w2.alloc (Obj.cells [Value.int .i64 0, .int .i64 0].toArray 200) = w3 at *
 generalize w2.heap.size = gt at *
 refine Qae ?_
 simp only [go_sem,↓reduceIte,reduceEqDiff]
 refine Qal hH3 0 (vs := Qbb t) rfl rfl (by kernel_rfl) (by simp [Qbb]) (Qdb _) fun w4 hH4 => ?_
 have hH4 : Heap w0 B w4 (Res.blk gt 200 (Qbb t) :: Res.blk gr 200 [.int .i64 0, .int .i64 0] :: trow g cap trees :: tvar gT g cap trees :: G) := hH4
 clear hH2 hH3
 (refine hK _ _ ?_;clear hK)
 refine VR [0, 1, 2, 3] rfl rfl fun K hK => ?_;simp only [go_sem,↓reduceIte,reduceEqDiff]
 refine ⟨_, Qac (hH4.at 3 rfl) rfl, ?_⟩
 refine ⟨Qbb t, ⟨rfl, Qa1 (hH4.at 0 rfl)⟩, ?_⟩
 refine Qag Tryz.call190 ?_;simp only [go_sem,↓reduceIte,reduceEqDiff];refine CallK.mk (Qvd t trees hl hmem g cap w4 (hH4.at 2 rfl)) ?_
 rintro v w5 ⟨hHi, i, hi, rfl⟩
 have hH5 := hH4.call0 hHi
 simp only [List.nil_append] at hH5
 clear hH4 hHi
 (refine hK _ _ ?_;clear hK)
 have hil : i < trees.length := (List.getElem?_eq_some_iff.1 hi).1
 have hlast : trees[trees.length - 1]? = some trees[trees.length - 1] := List.getElem?_eq_getElem (by omega)
 have hout := QEg trees i t _ hi hlast
 generalize trees[trees.length - 1] = z at *
 have hrs := Qbo (hH5.at 2 rfl)
 have hrd := Qhc Qe5 hrs rfl hlast
 rw [Qbp, Nat.zero_add] at hrd
 obtain ⟨hx1, hx2, hx3, hx4⟩ := hH5.at 2 rfl
 clear hx1 hx4
 (repeat refine Qai ?_);refine Qa8 [0, 1, 2] 9 (by kernel_rfl) (by kernel_rfl) (by kernel_rfl) rfl fun K hK => ?_;simp only [go_sem,↓reduceIte,reduceEqDiff]
 refine ⟨_, Qac (hH5.at 3 rfl) rfl, _, Qac (hH5.at 3 rfl) rfl, _, Qac (hH5.at 3 rfl) rfl, ?_⟩
 simp only [go_sem,↓reduceIte,reduceEqDiff]
 refine ⟨I64.mk (by omega) (by omega), ⟨by omega, by omega⟩, ?_⟩
 refine ⟨Qbb z, ⟨rfl, hrd⟩, ?_⟩
 refine ⟨⟨by omega, by omega⟩, ?_⟩
 refine Qae ?_
 simp only [go_sem,↓reduceIte,reduceEqDiff]
 refine Qbd hH5 2 (o := i * 2) (vs := Qbb z) rfl (by rw [Qbp, Nat.zero_add]) rfl (by kernel_rfl) (by rw [Qis];simp [Qbb];omega) (Qdb z) fun w6 hH6 => ?_
 have e6 := Qsk Qe5 trees i z hil
 simp only [List.set_cons_succ, List.set_cons_zero] at hH6
 rw [Qe5] at hH6
 have hH7 : Heap w0 B w6 (Res.blk gt 200 (Qbb t) :: Res.blk gr 200 [.int .i64 0, .int .i64 0] :: trow g cap (trees.set i z) :: tvar gT g cap trees :: G) := by
  have e7 : trow g cap (trees.set i z) = Res.row 200 2 (some ⟨g, 0, none⟩) trees.length cap ((Qet trees).take (i * 2) ++ Qbb z ++ (Qet trees).drop (i * 2 + 2)) := by
   rw [trow, List.length_set]
   exact congrArg _ e6.symm
  rw [e7];exact hH6
 clear hH6 hH5 e6 hrd hrs
 have hlen2 : ((trees.set i z).take (trees.length - 1)).length = trees.length - 1 := by rw [List.length_take, List.length_set];omega
 have hsh : (trow g cap (trees.set i z)).holds w6 -> (trow g cap ((trees.set i z).take (trees.length - 1))).holds w6 := fun h => by
  have h1 := Qyj (m := trees.length - 1) h (by rw [List.length_set];omega)
  have h2 := Qpb Qe5 (trees.set i z) (trees.length - 1)
  rw [show Qet (trees.set i z) = Qdd Qbb (trees.set i z) from rfl, h2] at h1
  rw [trow, hlen2]
  exact h1
 have hH8 := hH7.view 2 rfl hsh (fun b hb => hb)
 simp only [List.set_cons_succ, List.set_cons_zero] at hH8
 clear hH7 hsh
 generalize (trees.set i z).take (trees.length - 1) = trees' at *
 (refine hK _ _ ?_;clear hK)
 refine VR [1, 2] rfl rfl fun K hK => ?_;simp only [go_sem,↓reduceIte,reduceEqDiff]
 refine ⟨_, Qac (hH8.at 3 rfl) rfl, _, Qac (hH8.at 3 rfl) rfl, ?_⟩
 simp only [go_sem,↓reduceIte,reduceEqDiff]
 refine ⟨I64.mk (by omega) (by omega), ⟨by omega, by omega⟩, ?_⟩
 refine Qae ?_
 simp only [go_sem,↓reduceIte,reduceEqDiff]
 refine Qal hH8 3 (vs := [.slice (some ⟨g, 0, none⟩) trees'.length cap]) rfl (by rw [hlen2];rfl) (by kernel_rfl) (by simp) (by simp [Value.oneCell']) fun w7 hH9 => ?_
 have hH9 : Heap w0 B w7 (Res.blk gt 200 (Qbb t) :: Res.blk gr 200 [.int .i64 0, .int .i64 0] :: trow g cap trees' :: tvar gT g cap trees' :: G) := hH9
 (refine hK _ _ ?_;clear hK)
 refine VR [1] rfl rfl fun K hK => ?_;simp only [go_sem,↓reduceIte,reduceEqDiff]
 refine ⟨Qbb t, ⟨rfl, Qa1 (hH9.at 0 rfl)⟩, ?_⟩
 refine Qae ?_
 simp only [go_sem,↓reduceIte,reduceEqDiff]
 refine Qal hH9 1 (vs := Qbb t) rfl rfl (by kernel_rfl) (by simp [Qbb]) (Qdb _) fun w8 hH10 => ?_
 have hH10 : Heap w0 B w8 (Res.blk gt 200 (Qbb t) :: Res.blk gr 200 (Qbb t) :: trow g cap trees' :: tvar gT g cap trees' :: G) := hH10
 (refine hK _ _ ?_;clear hK)
 refine Qan (Qqa rfl rfl (Qbu (hH10.at 1 rfl) (by kernel_rfl) (by kernel_rfl) rfl ?_))
 exact ⟨t, trees', hout, hall, hH10.sub ((List.sublist_cons_self _ _).trans (List.sublist_cons_self _ _)), rfl⟩
theorem Qcr (n : Nat) : Qaq (List.replicate n 0) = List.replicate n (.int .i64 0) := by simp [Qaq]
theorem QBf {n : Nat} (h : 0 < n) : List.replicate n (0 : Nat) = [0] ++ List.replicate (n - 1) 0 := by
 obtain ⟨m, rfl⟩ : ∃ m, n = m + 1 := ⟨n - 1, by omega⟩
 rfl
abbrev QL3 (gT : Nat) : Value := .func (.func 188) #[] #[.pointer (some ⟨gT, 0, none⟩)]
theorem Qyo (l : List Nat) (hl : 2 <= l.length) (hl2 : l.length <= 258) (hx : ∀ x ∈ l, 1 <= x /\ x <= 2147483648) (pa : Option Addr) (lc : Nat) (w : World) (hr : RS w pa l.length 1 (Qaq l)) :
  Does Tryz.prog 162 #[.slice pa l.length lc] w fun v w' => ∃ a cap, Heap w [] w' [Res.row 3 1 a (Qfc l).length cap (Qaq (Qfc l))] /\ v = .slice a (Qfc l).length cap := by
 obtain ⟨p, rfl⟩ := Qcx hr (by omega)
 have hget : ∀ i, i < l.length -> 1 <= l.getD i 0 /\ l.getD i 0 <= 2147483648 := fun i hi => hx _ (Qbs 0 hi)
 have htot : Qbq (fun i => l.getD i 0) l.length <= 1099511627776 := by
  have := Qpu (fun i => l.getD i 0) 2147483648 l.length fun i hi => (hget i hi).2
  omega
 refine Qak (args := [.slice (some p) l.length lc]) 90 Tryz.func162 rfl rfl (of_decide_eq_true rfl) ?_
 simp only [Env.ofArgs]
 generalize hn : l.length = n at *
 refine VR [0] rfl rfl fun K hK => ?_;simp only [go_sem,↓reduceIte,reduceEqDiff]
 (refine hK _ _ ?_;clear hK)
 refine VR [0, 3] rfl rfl fun K hK => ?_;simp only [go_sem,↓reduceIte,reduceEqDiff]
 refine Qat (.slice none 0 0) (by kernel_rfl) ?_
 simp only [go_sem,↓reduceIte,reduceEqDiff]
 have hH0 := ((Heap.start w).box 198 [.slice none 0 0]).nilRow 200 2
 generalize w.alloc (Obj.cells [Value.slice none 0 0].toArray 198) = w1 at *
 generalize w.heap.size = gT at *
 (refine hK _ _ ?_;clear hK)
 refine VR [0, 3, 14, 15, 16] rfl rfl fun K hK => ?_;simp only [go_sem,↓reduceIte,reduceEqDiff]
 (refine hK _ _ ?_;clear hK)
 refine Qad ?_
 refine Qam [0, 3, 14, 15, 16] (fun m e w' => ∃ (i cap : Nat) (a : Option Addr), Is e [(0, .slice (some p) n lc), (3, .pointer (some ⟨gT, 0, none⟩)), (14, .slice (some p) n lc), (15, .int .i64 n), (16, .int .i64 i)] /\ Heap w [] w' [Res.row 200 2 a i cap (Qet ((List.range i).map fun i => (((l.getD i 0 : Nat) : Int), i))), Res.blk gT 198 [.slice a i cap]] /\ i <= n /\ m = n - i) n ?_ ?_
 ·
  simp only [go_sem,↓reduceIte,reduceEqDiff]
  exact ⟨0, 0, none, rfl, hH0, by omega, rfl⟩
 clear hH0
 rintro m e w2 ⟨i, cap, a, rfl, hH, hi, rfl⟩
 refine VR [0, 3, 14, 15, 16, 17] rfl rfl fun K hK => ?_;simp only [go_sem,↓reduceIte,reduceEqDiff]
 (refine hK _ _ ?_;clear hK)
 (repeat refine Qai ?_)
 refine Qab rfl rfl (fun h => ?_) (fun h => ?_)
 ·
  simp only [decide_eq_true_eq] at h
  have hcell := Qda (hH.rs' hr) (i := i) (by omega)
  have hsn : (List.range (i + 1)).map (fun i => (((l.getD i 0 : Nat) : Int), i)) = (List.range i).map (fun i => (((l.getD i 0 : Nat) : Int), i)) ++ [(((l.getD i 0 : Nat) : Int), i)] := by rw [List.range_succ, List.map_append];rfl
  have hml : ((List.range i).map (fun i => (((l.getD i 0 : Nat) : Int), i))).length = i := by simp
  generalize hL1 : (List.range i).map (fun i => (((l.getD i 0 : Nat) : Int), i)) = L at *
  generalize hxx : l.getD i 0 = x at *
  refine Qaf ?_
  ((repeat refine Qai ?_);refine Qad ?_)
  refine VR [0, 3, 4, 5, 14, 15, 16] rfl rfl fun K hK => ?_;simp only [go_sem,↓reduceIte,reduceEqDiff]
  refine ⟨⟨by omega, by omega⟩, _, hcell, ?_⟩
  (refine hK _ _ ?_;clear hK)
  refine VR [0, 3, 14, 15, 16] rfl rfl fun K hK => ?_;simp only [go_sem,↓reduceIte,reduceEqDiff]
  refine ⟨_, Qac (hH.at 1 rfl) rfl, ?_⟩
  refine Qie hH 2 (Qbb ((x : Int), i)) (xs := [.tmp 24]) Tryz.underlying198 QH7 rfl rfl rfl (by omega) (by omega) ?_
  simp only [go_sem,↓reduceIte,reduceEqDiff]
  refine ⟨rfl, by simp [Value.cells], fun g w4 hH2 => ?_⟩
  refine Qa6 ?_
  simp only [go_sem,↓reduceIte,reduceEqDiff]
  refine Qd8 (zs := #[.int .i64 0, .int .i64 0]) (bytes := 16) hH2 1 rfl Tryz.underlying198 (by kernel_rfl) rfl ⟨rfl, Qbo (hH2.at 0 rfl), 200, Tryz.underlying198⟩ (Qdb _) (fun h => by omega) fun a' cap' w5 hc' hH3 => ?_
  simp only [List.set_cons_succ, List.set_cons_zero] at hH3
  refine Qae ?_
  simp only [go_sem,↓reduceIte,reduceEqDiff]
  refine Qal hH3 2 (vs := [.slice a' (i + 1) cap']) rfl rfl (by kernel_rfl) (by simp) (by simp [Value.oneCell']) fun w6 hH4 => ?_
  have hH5 : Heap w [] w6 [Res.row 200 2 a' (i + 1) cap' (Qet (L ++ [((x : Int), i)])), Res.blk gT 198 [.slice a' (i + 1) cap']] := by
   rw [Qet, Qif, Qsi]
   exact (hH4.sub (List.sublist_cons_self _ _))
  (refine hK _ _ ?_;clear hK)
  refine Qav ?_
  refine VR [0, 3, 14, 15, 16] rfl rfl fun K hK => ?_;simp only [go_sem,↓reduceIte,reduceEqDiff]
  ((repeat refine And.intro (by omega) ?_);refine hK _ _ ?_;clear hK)
  refine Qah ?_
  simp only [go_sem,↓reduceIte,reduceEqDiff]
  exact ⟨n - (i + 1), by omega, i + 1, cap', a', rfl, by rw [hsn];exact hH5, by omega, rfl⟩
 simp only [decide_eq_false_iff_not] at h
 obtain rfl : i = n := by omega
 obtain ⟨g, rfl⟩ := Qfs (hH.at 0 rfl) (by omega)
 have hroots := Qve l
 rw [hn] at hroots
 rw [<- hroots] at hH
 have hrl : (Qeu l (List.replicate i 0)).length = i := by rw [hroots];simp
 clear hroots
 generalize hT0 : Qeu l (List.replicate i 0) = T0 at *
 have hH1 : Heap w [] w2 [trow g cap T0, tvar gT g cap T0] := by
  unfold trow tvar
  rw [hrl];exact hH
 clear hH
 refine Qap rfl ?_
 generalize i = n at *
 refine VR [0, 3, 6] rfl rfl fun K hK => ?_;simp only [go_sem,↓reduceIte,reduceEqDiff]
 refine ⟨I64.mk (by omega) (by omega), ?_⟩
 refine Qbw Tryz.underlying36 zi3 ?_
 simp only [go_sem,↓reduceIte,reduceEqDiff]
 refine ⟨2 * n, 2 * n, ⟨by push_cast;rfl, by push_cast;rfl, by omega, by omega, by omega⟩, ?_⟩
 have hH2 := hH1.row 3 (n := 2 * n) (cap := 2 * n) (sz := 1) (Qaq (List.replicate (2 * n) 0)) [] (by simp [Qar]) (by simp [Qar]) (by omega) (by omega)
 rw [List.append_nil, Qcr] at hH2
 generalize w2.alloc (Obj.cells (List.replicate (2 * n) (Value.int IntKind.i64 0)).toArray 3) = w3 at *
 generalize w2.heap.size = go at *
 rw [<- Qcr] at hH2
 clear hH1
 (refine hK _ _ ?_;clear hK)
 refine VR [0, 3, 6, 7] rfl rfl fun K hK => ?_;simp only [go_sem,↓reduceIte,reduceEqDiff]
 (refine hK _ _ ?_;clear hK)
 refine VR [0, 3, 6, 7, 8] rfl rfl fun K hK => ?_;simp only [go_sem,↓reduceIte,reduceEqDiff]
 (refine hK _ _ ?_;clear hK)
 ((repeat refine Qai ?_);refine Qad ?_)
 refine Qam [0, 3, 6, 7, 8] (fun m e w' => ∃ (k cap g : Nat) (ws ov : List Nat) (hh : Nat -> Nat) (T : List Tr), Is e [(0, .slice (some p) n lc), (3, .pointer (some ⟨gT, 0, none⟩)), (6, .slice (some ⟨go, 0, none⟩) (2 * n) (2 * n)), (7, .int .i64 (n + k : Nat)), (8, QL3 gT)] /\ Heap w [] w' [trow g cap T, tvar gT g cap T, Res.row 3 1 (some ⟨go, 0, none⟩) (2 * n) (2 * n) (Qaq (ov ++ List.replicate (n - k) 0))] /\ Qpt k (l, List.replicate n 0) = (ws, ov) /\ Grown l k ws ov hh /\ T.Perm (Qeu ws ov) /\ k + 1 <= n /\ m = n - k) n ?_ ?_
 ·
  simp only [go_sem,↓reduceIte,reduceEqDiff]
  have hg := Grown.start l (by omega) (fun i hi => (hget i (by omega)).1)
  rw [hn] at hg
  refine ⟨0, cap, g, l, List.replicate n 0, _, T0, rfl, ?_, rfl, hg, by rw [hT0], by omega, rfl⟩
  have e : List.replicate n 0 ++ List.replicate (n - 0) 0 = List.replicate (2 * n) (0 : Nat) := by rw [List.replicate_append_replicate];congr 1;omega
  rw [e]
  exact hH2.perm ((List.perm_append_comm (l₁ := [_])))
 clear hH2 hT0 hrl
 rintro m e w4 ⟨k, cap, g, ws, ov, hh, T, rfl, hH, hgr, hg, hp, hk, rfl⟩
 have hTl : T.length + k = n := by
  have h1 := hg.roots
  rw [hp.length_eq, QBe, hg.lws, hn]
  rw [hn] at h1
  exact h1
 have hTok : ∀ t ∈ T, TrOk t := fun t ht => by
  obtain ⟨h1, h2, h3⟩ := Qni.1 (hp.mem_iff.1 ht)
  have h4 := Qma (fun i => if ov.getD i 0 = 0 then ws.getD i 0 else 0) (l.length + k) t.2 (by have := hg.lws;omega)
  simp only [if_pos h2] at h4
  rw [hg.weight, hn] at h4
  have := hg.lws
  unfold TrOk
  omega
 refine VR [0, 3, 6, 7, 8, 37] rfl rfl fun K hK => ?_;simp only [go_sem,↓reduceIte,reduceEqDiff]
 refine ⟨_, Qac (hH.at 1 rfl) rfl, ?_⟩
 simp only [go_sem,↓reduceIte,reduceEqDiff]
 (refine hK _ _ ?_;clear hK)
 refine Qab rfl rfl (fun h => ?_) (fun h => ?_)
 ·
  simp only [decide_eq_true_eq] at h
  have hk2 : k + 1 < n := by omega
  have hpick := hg.pick (by omega)
  obtain ⟨hla, hlb, hne, hbf⟩ := hpick
  have hlw := hg.lws
  have hlo := hg.lov
  rw [hn] at hlw hlo
  refine Qaf ?_
  refine Qad ?_
  refine VR [0, 3, 6, 7, 8, 9, 10] rfl rfl fun K hK => ?_;simp only [go_sem,↓reduceIte,reduceEqDiff]
  refine Qbf ?_;simp only [go_sem,↓reduceIte,reduceEqDiff];refine FnK.mk Tryz.call188 (Qpd T (by omega) (by omega) hTok gT g cap w w4 [] _ hH) ?_
  rintro v w5 ⟨ta, Ta, hpa, hma, hH2, rfl⟩
  have hta := Qnj (hp.mem_iff.1 (hpa.mem_iff.2 (by simp))) (fun x hx' => hma x (hp.mem_iff.2 hx'))
  have hta2 : ta.2 = Qdx ws ov := hta.1.unique hla
  have htaE : ta = (((ws.getD (Qdx ws ov) 0 : Nat) : Int), Qdx ws ov) := (Qk8 _ _).2 ⟨by rw [hta.2, hta2], hta2⟩
  have hTaok : ∀ t ∈ Ta, TrOk t := fun t ht => hTok t (hpa.mem_iff.2 (by simp [ht]))
  have hTal : Ta.length + 1 = T.length := by have := hpa.length_eq;simp at this;omega
  have hcut := Qsu (v := ws.length) hla.lt (by omega) hla.free (by omega)
  rw [<- htaE] at hcut
  have hpTa : Ta.Perm (Qeu ws (ov.set (Qdx ws ov) ws.length)) := ((hpa.symm.trans hp).trans hcut).cons_inv
  clear hH
  refine Qbf ?_;simp only [go_sem,↓reduceIte,reduceEqDiff];refine FnK.mk Tryz.call188 (Qpd Ta (by omega) (by omega) hTaok gT g cap w w5 [] _ hH2) ?_
  rintro v w6 ⟨tb, Tb, hpb, hmb, hH3, rfl⟩
  have htb := Qnj (hpTa.mem_iff.1 (hpb.mem_iff.2 (by simp))) (fun x hx' => hmb x (hpTa.mem_iff.2 hx'))
  have htb2 : tb.2 = Qdx ws (ov.set (Qdx ws ov) ws.length) := htb.1.unique hlb
  have htbE : tb = (((ws.getD tb.2 0 : Nat) : Int), tb.2) := (Qk8 _ _).2 ⟨htb.2, rfl⟩
  rw [<- htb2] at hlb hne hbf
  have hTbok : ∀ t ∈ Tb, TrOk t := fun t ht => hTaok t (hpb.mem_iff.2 (by simp [ht]))
  have hTbl : Tb.length + 1 = Ta.length := by have := hpb.length_eq;simp at this;omega
  rw [<- hta2] at hla hlb hne hpTa
  have hl1 : (ov.set ta.2 ws.length).length = ws.length := by simp;omega
  have hcut2 := Qsu (v := ws.length) hlb.lt hl1 hlb.free (by omega)
  rw [<- htbE] at hcut2
  have hpTb : Tb.Perm (Qeu ws ((ov.set ta.2 ws.length).set tb.2 ws.length)) := ((hpb.symm.trans hpTa).trans hcut2).cons_inv
  have hoka := hTok ta (hpa.mem_iff.2 (by simp))
  have hokb := hTaok tb (hpb.mem_iff.2 (by simp))
  have hstep : Qpt (k + 1) (l, List.replicate n 0) = (ws ++ [ws.getD ta.2 0 + ws.getD tb.2 0], (ov.set ta.2 ws.length).set tb.2 ws.length ++ [0]) := by
   rw [Qpt, hgr, Qg4]
   simp only
   rw [<- htb2, <- hta2]
  obtain ⟨h', hg'⟩ := hg.step (by omega)
  have hgs : Qg4 (ws, ov) = (ws ++ [ws.getD ta.2 0 + ws.getD tb.2 0], (ov.set ta.2 ws.length).set tb.2 ws.length ++ [0]) := by
   rw [Qg4]
   simp only
   rw [<- htb2, <- hta2]
  rw [hgs] at hg'
  simp only at hg'
  have ha1 := hla.lt
  have hb1 := hlb.lt
  have hwa := hta.2
  have hwb := htb.2
  clear hH2 hgs hcut hcut2 hta htb htaE htbE hma hmb
  generalize hA : ta.2 = A at *
  generalize hB : tb.2 = Bn at *
  refine Qat (.agg #[.int .i64 0, .int .i64 0]) (by kernel_rfl) ?_
  simp only [go_sem,↓reduceIte,reduceEqDiff]
  have hH4 := hH3.box 200 [.int .i64 0, .int .i64 0]
  generalize w6.alloc (Obj.cells [Value.int .i64 0, .int .i64 0].toArray 200) = w7 at *
  generalize w6.heap.size = ga at *
  refine Qat (.agg #[.int .i64 0, .int .i64 0]) (by kernel_rfl) ?_
  simp only [go_sem,↓reduceIte,reduceEqDiff]
  have hH5 := hH4.box 200 [.int .i64 0, .int .i64 0]
  generalize w7.alloc (Obj.cells [Value.int .i64 0, .int .i64 0].toArray 200) = w8 at *
  generalize w7.heap.size = gb at *
  refine Qae ?_
  simp only [go_sem,↓reduceIte,reduceEqDiff]
  refine Qal hH5 1 (vs := Qbb ta) rfl rfl (by kernel_rfl) (by simp [Qbb]) (Qdb _) fun w9 hH6 => ?_
  refine Qae ?_
  simp only [go_sem,↓reduceIte,reduceEqDiff]
  refine Qal hH6 0 (vs := Qbb tb) rfl rfl (by kernel_rfl) (by simp [Qbb]) (Qdb _) fun w10 hH7 => ?_
  have hH7 : Heap w [] w10 [Res.blk gb 200 (Qbb tb), Res.blk ga 200 (Qbb ta), trow g cap Tb, tvar gT g cap Tb, Res.row 3 1 (some ⟨go, 0, none⟩) (2 * n) (2 * n) (Qaq (ov ++ List.replicate (n - k) 0))] := hH7
  clear hH3 hH4 hH5 hH6
  (refine hK _ _ ?_;clear hK)
  have ca1 : (Qbb ta)[1]? = some (.int .i64 (A : Nat)) := by rw [<- hA];rfl
  have cb1 : (Qbb tb)[1]? = some (.int .i64 (Bn : Nat)) := by rw [<- hB];rfl
  have hol : (ov ++ List.replicate (n - k) 0).length = 2 * n := by simp;omega
  have hF := hH7.focus 4 rfl
  have hla1 := hH7.hole_at 4 1 rfl rfl (by omega) ca1
  have hlb1 := hH7.hole_at 4 0 rfl rfl (by omega) cb1
  (repeat refine Qai ?_);refine Qdp (holes [go] w10) (Ext.hole _ _) [0, 3, 6, 7, 8, 9, 10] [(0, true), (1, true), (2, true), (3, true), (4, true), (5, true), (6, true), (7, true), (8, true), (9, false), (10, true), (11, false)] (by kernel_rfl) (by kernel_rfl) rfl (by simp only [Qay, List.filterMap_cons, List.filterMap_nil, List.getElem?_cons_succ, List.getElem?_cons_zero, Option.map_some];rfl) fun K hK => ?_;simp only [go_sem,↓reduceIte,reduceEqDiff]
  refine ⟨_, hla1, _, hlb1, ?_⟩
  simp only [go_sem,↓reduceIte,reduceEqDiff]
  refine ⟨⟨by omega, by omega⟩, ?_⟩
  refine Qae ?_;simp only [go_sem,↓reduceIte,reduceEqDiff];refine Qbd hF 0 (o := (A)) (vs := [.int .i64 (n + k : Nat)]) rfl (by first | exact (Qbp _ _ _).symm | rfl | simp [Qbp]) rfl (by kernel_rfl) (by first | omega | (simp;omega) | (simp [Qao, Qbm];omega) | (rw [Qar];simp;omega)) (by simp [Value.oneCell']) fun w6 hH8 => ?_;(try simp only [go_sem,↓reduceIte,reduceEqDiff])
  simp only [List.length_singleton, Qb1 (Qaq (ov ++ List.replicate (n - k) 0)) _ _ (show A < (Qaq (ov ++ List.replicate (n - k) 0)).length by rw [Qar, hol];omega), Qce, List.set_cons_zero, List.set_cons_succ] at hH8
  refine ⟨hH8.upd.extH, ⟨by omega, by omega⟩, ?_⟩
  refine Qae ?_;simp only [go_sem,↓reduceIte,reduceEqDiff];refine Qbd hH8 0 (o := (Bn)) (vs := [.int .i64 (n + k : Nat)]) rfl (by first | exact (Qbp _ _ _).symm | rfl | simp [Qbp]) rfl (by kernel_rfl) (by first | omega | (simp;omega) | (simp [Qao, Qbm];omega) | (rw [Qar];simp;omega)) (by simp [Value.oneCell']) fun w6 hH9 => ?_;(try simp only [go_sem,↓reduceIte,reduceEqDiff])
  simp only [List.length_singleton, Qb1 (Qaq ((ov ++ List.replicate (n - k) 0).set A (n + k))) _ _ (show Bn < (Qaq ((ov ++ List.replicate (n - k) 0).set A (n + k))).length by rw [Qar, List.length_set, hol];omega), Qce, List.set_cons_zero, List.set_cons_succ] at hH9
  refine ⟨hH9.upd.extH, ?_⟩
  (refine hK _ _ ?_;clear hK)
  have hH9 := hH7.call1 4 rfl hH9
  simp only [List.set_cons_zero, List.set_cons_succ, List.nil_append] at hH9
  clear hF hla1 hlb1
  have hrow : ((ov ++ List.replicate (n - k) 0).set A (n + k)).set Bn (n + k) = ((ov.set A ws.length).set Bn ws.length ++ [0]) ++ List.replicate (n - (k + 1)) 0 := by
   rw [List.set_append_left _ _ (by omega), List.set_append_left _ _ (by rw [List.length_set];omega), hlw, QBf (show 0 < n - k by omega), List.append_assoc, show n - k - 1 = n - (k + 1) by omega]
  rw [hrow] at hH9
  have hH10 : Heap w [] w6 [Res.blk gb 200 (Qbb tb), Res.blk ga 200 (Qbb ta), trow g cap Tb, tvar gT g cap Tb, Res.row 3 1 (some ⟨go, 0, none⟩) (2 * n) (2 * n) (Qaq (((ov.set A ws.length).set Bn ws.length ++ [0]) ++ List.replicate (n - (k + 1)) 0))] := hH9
  have hso := Qyn (ws := ws) (ov := (ov.set A ws.length).set Bn ws.length) (ws.getD A 0 + ws.getD Bn 0) (by simp;omega)
  clear hH7 hH8 hH9 hrow hol ca1 cb1
  generalize (ov.set A ws.length).set Bn ws.length ++ [0] = ov' at *
  generalize hwx : ws.getD A 0 + ws.getD Bn 0 = wx at *
  have hpf : (Tb ++ [(((wx : Nat) : Int), n + k)]).Perm (Qeu (ws ++ [wx]) ov') := by
   rw [hso, hlw];rw [hlw] at hpTb;exact hpTb.append_right _
  clear hso hpTb
  have hoka' := hoka
  have hokb' := hokb
  unfold TrOk at hoka' hokb'
  have hsum : ta.1 + tb.1 = ((wx : Nat) : Int) := by rw [hwa, hwb, <- hwx];push_cast;rfl
  have ca0 : (Qbb ta)[0]? = some (.int .i64 ta.1) := rfl
  have cb0 : (Qbb tb)[0]? = some (.int .i64 tb.1) := rfl
  refine VR [0, 3, 6, 7, 8] rfl rfl fun K hK => ?_;simp only [go_sem,↓reduceIte,reduceEqDiff]
  refine ⟨_, Qac (hH10.at 3 rfl) rfl, _, Qac (hH10.at 1 rfl) ca0, _, Qac (hH10.at 0 rfl) cb0, ?_⟩
  simp only [go_sem,↓reduceIte,reduceEqDiff]
  refine ⟨I64.mk (by omega) (by omega), ?_⟩
  rw [hsum]
  refine Qie hH10 2 (Qbb ((wx : Int), n + k)) (xs := [.tmp 59]) Tryz.underlying198 QH7 rfl rfl rfl (by omega) (by omega) ?_
  simp only [go_sem,↓reduceIte,reduceEqDiff]
  refine ⟨rfl, by simp [Value.cells], fun g2 w11 hH11 => ?_⟩
  refine Qa6 ?_
  simp only [go_sem,↓reduceIte,reduceEqDiff]
  refine Qd8 (zs := #[.int .i64 0, .int .i64 0]) (bytes := 16) hH11 3 rfl Tryz.underlying198 (by kernel_rfl) rfl ⟨rfl, Qbo (hH11.at 0 rfl), 200, Tryz.underlying198⟩ (Qdb _) (fun h => by omega) fun a' cap' w12 hc' hH12 => ?_
  simp only [List.set_cons_succ, List.set_cons_zero] at hH12
  obtain ⟨g', rfl⟩ := Qfs (hH12.at 3 rfl) (by omega)
  refine Qae ?_
  simp only [go_sem,↓reduceIte,reduceEqDiff]
  refine Qal hH12 4 (vs := [.slice (some ⟨g', 0, none⟩) (Tb.length + 1) cap']) rfl rfl (by kernel_rfl) (by simp) (by simp [Value.oneCell']) fun w13 hH13 => ?_
  have hH14 : Heap w [] w13 [trow g' cap' (Tb ++ [((wx : Int), n + k)]), tvar gT g' cap' (Tb ++ [((wx : Int), n + k)]), Res.row 3 1 (some ⟨go, 0, none⟩) (2 * n) (2 * n) (Qaq (ov' ++ List.replicate (n - (k + 1)) 0))] := by
   rw [trow, tvar, Qet, Qif, Qsi, List.length_append, List.length_singleton]
   exact hH13.sub (((List.sublist_cons_self _ _).trans (List.sublist_cons_self _ _)).trans (List.sublist_cons_self _ _))
  (refine hK _ _ ?_;clear hK)
  refine VR [0, 3, 6, 7, 8] rfl rfl fun K hK => ?_;simp only [go_sem,↓reduceIte,reduceEqDiff]
  ((repeat refine And.intro (by omega) ?_);refine hK _ _ ?_;clear hK)
  refine Qav ?_
  refine Qah ?_
  simp only [go_sem,↓reduceIte,reduceEqDiff]
  exact ⟨n - (k + 1), by omega, k + 1, cap', g', _, _, h', _, rfl, hH14, hstep, hg', hpf, by omega, rfl⟩
 ·
  simp only [decide_eq_false_iff_not] at h
  obtain rfl : n = k + 1 := by omega
  have hover : Qrd l = ov := by rw [Qrd, hn, Nat.add_sub_cancel, hgr]
  have hgrS : Qfc l = (List.range (k + 1)).map fun i => Qbv ov (2 * (k + 1)) i := by rw [Qfc, hover, hn]
  have hdl : ∀ f i, Qbv ov f i <= f := fun f => by
   induction f with
   | zero => intro i;simp [Qbv]
   | succ f ih => intro i;rw [Qbv];split;omega;have := ih (ov.getD i 0);omega
  have hlo := hg.lov
  rw [hn] at hlo
  have hup := hg.up
  rw [hn] at hup
  have hdep : ∀ i, i < k + 1 + k -> ov.getD i 0 ≠ 0 -> Qbv ov (2 * (k + 1)) i = Qbv ov (2 * (k + 1)) (ov.getD i 0) + 1 := fun i hi h0 => hg.dep _ (by omega) (by omega) h0
  have hd0 : ∀ i, ov.getD i 0 = 0 -> Qbv ov (2 * (k + 1)) i = 0 := fun i h0 => by
   rw [show 2 * (k + 1) = (2 * k + 1) + 1 by omega, Qbv, if_pos h0]
  rw [hgrS]
  have hH1 : Heap w [] w4 [Res.row 3 1 (some ⟨go, 0, none⟩) (2 * (k + 1)) (2 * (k + 1)) (Qaq (ov ++ [0]))] := by
   have e : k + 1 - k = 1 := by omega
   rw [e] at hH
   exact hH.sub ((List.sublist_cons_self _ _).trans (List.sublist_cons_self _ _))
  clear hH hgrS hgr hg hp hTl hTok hover
  have hog : ∀ i, i < k + 1 + k -> (ov ++ [0]).getD i 0 = ov.getD i 0 := fun i hi => Qcj (by omega)
  have hol : (ov ++ [0]).length = 2 * (k + 1) := by simp;omega
  refine Qap rfl ?_
  refine VR [0, 6, 11] rfl rfl fun K hK => ?_;simp only [go_sem,↓reduceIte,reduceEqDiff]
  refine Qbw Tryz.underlying36 zi3 ?_
  simp only [go_sem,↓reduceIte,reduceEqDiff]
  refine ⟨k + 1, k + 1, ⟨rfl, rfl, by omega, by omega, by omega⟩, ?_⟩
  have hH2 := hH1.row 3 (n := k + 1) (cap := k + 1) (sz := 1) (Qaq (List.replicate (k + 1) 0)) [] (by simp [Qar]) (by simp [Qar]) (by omega) (by omega)
  rw [List.append_nil, Qcr] at hH2
  generalize w4.alloc (Obj.cells (List.replicate (k + 1) (Value.int IntKind.i64 0)).toArray 3) = w5 at *
  generalize w4.heap.size = gu at *
  rw [<- Qcr] at hH2
  clear hH1
  (refine hK _ _ ?_;clear hK)
  refine VR [6, 11, 68, 69] rfl rfl fun K hK => ?_;simp only [go_sem,↓reduceIte,reduceEqDiff]
  (refine hK _ _ ?_;clear hK)
  refine Qad ?_
  refine Qam [6, 11, 68, 69] (fun m e w' => ∃ (i : Nat), Is e [(6, .slice (some ⟨go, 0, none⟩) (2 * (k + 1)) (2 * (k + 1))), (11, .slice (some ⟨gu, 0, none⟩) (k + 1) (k + 1)), (68, .int .i64 (k + 1 : Nat)), (69, .int .i64 i)] /\ Heap w [] w' [Res.row 3 1 (some ⟨gu, 0, none⟩) (k + 1) (k + 1) (Qaq ((List.range i).map (fun i => Qbv ov (2 * (k + 1)) i) ++ List.replicate (k + 1 - i) 0)), Res.row 3 1 (some ⟨go, 0, none⟩) (2 * (k + 1)) (2 * (k + 1)) (Qaq (ov ++ [0]))] /\ i <= k + 1 /\ m = k + 1 - i) (k + 1) ?_ ?_
  ·
   simp only [go_sem,↓reduceIte,reduceEqDiff]
   exact ⟨0, rfl, by simpa using hH2, by omega, rfl⟩
  clear hH2
  rintro m e w6 ⟨i, rfl, hH, hi, rfl⟩
  refine VR [6, 11, 68, 69, 70] rfl rfl fun K hK => ?_;simp only [go_sem,↓reduceIte,reduceEqDiff]
  (refine hK _ _ ?_;clear hK)
  (repeat refine Qai ?_)
  refine Qab rfl rfl (fun h => ?_) (fun h => ?_)
  ·
   simp only [decide_eq_true_eq] at h
   have hsn : (List.range (i + 1)).map (fun i => Qbv ov (2 * (k + 1)) i) = (List.range i).map (fun i => Qbv ov (2 * (k + 1)) i) ++ [Qbv ov (2 * (k + 1)) i] := by rw [List.range_succ, List.map_append];rfl
   have hml : ((List.range i).map (fun i => Qbv ov (2 * (k + 1)) i)).length = i := by simp
   have hdi := hdl (2 * (k + 1)) i
   generalize (List.range i).map (fun i => Qbv ov (2 * (k + 1)) i) = Dn at *
   rw [QBf (show 0 < k + 1 - i by omega), List.singleton_append] at hH
   refine Qaf ?_
   ((repeat refine Qai ?_);refine Qad ?_)
   refine VR [6, 11, 12, 68, 69] rfl rfl fun K hK => ?_;simp only [go_sem,↓reduceIte,reduceEqDiff]
   (refine hK _ _ ?_;clear hK)
   refine VR [6, 11, 12, 13, 68, 69] rfl rfl fun K hK => ?_;simp only [go_sem,↓reduceIte,reduceEqDiff]
   (refine hK _ _ ?_;clear hK)
   refine Qad ?_
   refine Qam [6, 11, 12, 13, 68, 69] (fun m e w' => ∃ (c at_ : Nat), Is e [(6, .slice (some ⟨go, 0, none⟩) (2 * (k + 1)) (2 * (k + 1))), (11, .slice (some ⟨gu, 0, none⟩) (k + 1) (k + 1)), (12, .int .i64 i), (13, .int .i64 at_), (68, .int .i64 (k + 1 : Nat)), (69, .int .i64 i)] /\ Heap w [] w' [Res.row 3 1 (some ⟨gu, 0, none⟩) (k + 1) (k + 1) (Qaq (Dn ++ c :: List.replicate (k + 1 - i - 1) 0)), Res.row 3 1 (some ⟨go, 0, none⟩) (2 * (k + 1)) (2 * (k + 1)) (Qaq (ov ++ [0]))] /\ at_ < k + 1 + k /\ c + Qbv ov (2 * (k + 1)) at_ = Qbv ov (2 * (k + 1)) i /\ m = 2 * (k + 1) - at_) (2 * (k + 1) - i) ?_ ?_
   ·
    simp only [go_sem,↓reduceIte,reduceEqDiff]
    exact ⟨0, i, rfl, hH, by omega, by omega, rfl⟩
   clear hH
   rintro m e w7 ⟨c, at_, rfl, hH, hat, hc, rfl⟩
   have hov := hup at_ hat
   have hcell : w7.cell? ⟨go, at_, none⟩ = some (.int .i64 ((ov.getD at_ 0 : Nat) : Int)) := by
    rw [<- hog at_ hat];exact Qaa (hH.at 1 rfl) (Qb6 (by omega))
   refine VR [6, 11, 12, 13, 68, 69, 77] rfl rfl fun K hK => ?_;simp only [go_sem,↓reduceIte,reduceEqDiff]
   refine ⟨⟨by omega, by omega⟩, _, hcell, ?_⟩
   simp only [go_sem,↓reduceIte,reduceEqDiff]
   (refine hK _ _ ?_;clear hK)
   refine Qab rfl rfl (fun h => ?_) (fun h => ?_)
   ·
    simp only [decide_eq_true_eq] at h
    have h0 : ov.getD at_ 0 ≠ 0 := by omega
    have hda := hdep at_ hat h0
    have hlen : (Dn ++ c :: List.replicate (k + 1 - i - 1) 0).length = k + 1 := by simp;omega
    have hgc : (Dn ++ c :: List.replicate (k + 1 - i - 1) 0).getD i 0 = c := by
     rw [List.getD_eq_getElem?_getD, List.getElem?_append_right (by omega), hml, Nat.sub_self];rfl
    have hsc : (Dn ++ c :: List.replicate (k + 1 - i - 1) 0).set i (c + 1) = Dn ++ (c + 1) :: List.replicate (k + 1 - i - 1) 0 := by
     rw [List.set_append_right _ _ (by omega), hml, Nat.sub_self];rfl
    have hcu : w7.cell? ⟨gu, i, none⟩ = some (.int .i64 ((c : Nat) : Int)) := by
     have := Qaa (hH.at 0 rfl) (Qb6 (l := Dn ++ c :: List.replicate (k + 1 - i - 1) 0) (i := i) (by omega))
     rwa [hgc] at this
    refine Qaf ?_
    ((repeat refine Qai ?_);refine Qad ?_)
    refine VR [6, 11, 12, 13, 68, 69] rfl rfl fun K hK => ?_;simp only [go_sem,↓reduceIte,reduceEqDiff]
    refine ⟨⟨by omega, by omega⟩, _, hcu, ?_⟩
    simp only [go_sem,↓reduceIte,reduceEqDiff]
    refine ⟨I64.mk (by omega) (by omega), ⟨by omega, by omega⟩, ?_⟩
    refine Qae ?_;simp only [go_sem,↓reduceIte,reduceEqDiff];refine Qbd hH 0 (o := (i)) (vs := [.int .i64 (c + 1 : Nat)]) rfl (by first | exact (Qbp _ _ _).symm | rfl | simp [Qbp]) rfl (by kernel_rfl) (by first | omega | (simp;omega) | (simp [Qao, Qbm];omega) | (rw [Qar];simp;omega)) (by simp [Value.oneCell']) fun w6 hH3 => ?_;(try simp only [go_sem,↓reduceIte,reduceEqDiff])
    simp only [List.length_singleton, Qb1 (Qaq (Dn ++ c :: List.replicate (k + 1 - i - 1) 0)) _ _ (show i < (Qaq (Dn ++ c :: List.replicate (k + 1 - i - 1) 0)).length by rw [Qar, hlen];omega), Qce, List.set_cons_zero, hsc] at hH3
    (refine hK _ _ ?_;clear hK)
    refine Qav ?_
    have hcell2 : w6.cell? ⟨go, at_, none⟩ = some (.int .i64 ((ov.getD at_ 0 : Nat) : Int)) := by
     rw [<- hog at_ hat];exact Qaa (hH3.at 1 rfl) (Qb6 (by omega))
    refine VR [6, 11, 12, 13, 68, 69] rfl rfl fun K hK => ?_;simp only [go_sem,↓reduceIte,reduceEqDiff]
    refine ⟨⟨by omega, by omega⟩, _, hcell2, ?_⟩
    (refine hK _ _ ?_;clear hK)
    refine Qah ?_
    simp only [go_sem,↓reduceIte,reduceEqDiff]
    exact ⟨2 * (k + 1) - ov.getD at_ 0, by omega, c + 1, ov.getD at_ 0, rfl, hH3, by omega, by omega, rfl⟩
   ·
    simp only [decide_eq_false_iff_not] at h
    have h0 : ov.getD at_ 0 = 0 := by omega
    rw [hd0 at_ h0] at hc
    refine Qap rfl ?_
    refine Qav ?_
    refine VR [6, 11, 68, 69] rfl rfl fun K hK => ?_;simp only [go_sem,↓reduceIte,reduceEqDiff]
    ((repeat refine And.intro (by omega) ?_);refine hK _ _ ?_;clear hK)
    refine Qah ?_
    simp only [go_sem,↓reduceIte,reduceEqDiff]
    refine ⟨k + 1 - (i + 1), by omega, i + 1, rfl, ?_, by omega, rfl⟩
    rw [hsn, <- hc, List.append_assoc, List.singleton_append, Nat.add_zero, show k + 1 - (i + 1) = k + 1 - i - 1 by omega]
    exact hH
  ·
   simp only [decide_eq_false_iff_not] at h
   obtain rfl : i = k + 1 := by omega
   refine Qap rfl ?_
   refine VR [2] rfl rfl fun K hK => ?_;simp only [go_sem,↓reduceIte,reduceEqDiff]
   (refine hK _ _ ?_;clear hK)
   refine Qan (Qax rfl rfl ?_)
   have e : ((List.range (k + 1)).map fun i => Qbv ov (2 * (k + 1)) i).length = k + 1 := by simp
   rw [e]
   rw [Nat.sub_self, List.replicate_zero, List.append_nil] at hH
   exact ⟨_, _, hH.sub (by simp), rfl⟩
theorem Qw3 (l : List Nat) (f : Nat -> Nat) {i : Nat} (h : i < l.length) : ((l.take i).map f ++ l.drop i).set i (f (l.getD i 0)) = (l.take (i + 1)).map f ++ l.drop (i + 1) /\ ((l.take i).map f ++ l.drop i).getD i 0 = l.getD i 0 /\ ((l.take i).map f ++ l.drop i).length = l.length := by
 have h1 := Qd2 0 h
 have h2 := drop_getD 0 h
 have h3 : ((l.take i).map f).length = i := by rw [List.length_map, List.length_take];omega
 refine ⟨?_, ?_, ?_⟩
 ·
  rw [h2, List.set_append_right _ _ (by omega), h3, Nat.sub_self, List.set_cons_zero, h1, List.map_append, List.append_assoc];rfl
 ·
  rw [h2, List.getD_eq_getElem?_getD, List.getElem?_append_right (by omega), h3, Nat.sub_self];rfl
 ·
  rw [List.length_append, h3, List.length_drop];omega
theorem QBg (l : List Nat) (most : Nat) (hl : 2 <= l.length) (hl2 : l.length <= 258) (hx : ∀ x ∈ l, x <= 1073741824) (hm : 12 <= most) (hm2 : most <= 20) (pa : Option Addr) (lc : Nat) (w : World) (hr : RS w pa l.length 1 (Qaq l)) :
  Does Tryz.prog 133 #[.slice pa l.length lc, .int .i64 most] w fun v w' => ∃ a cap, Heap w [] w' [Res.row 3 1 a (lenS l most).length cap (Qaq (lenS l most))] /\ v = .tuple #[.slice a (lenS l most).length cap, .int .i64 0] := by
 have hc1 := Qne l hl hl2 hx pa lc w hr
 have hc2 := Qyk l (by omega) (by omega) pa lc w hr
 refine Qak (args := [.slice pa l.length lc, .int .i64 most]) 59 Tryz.func133 rfl rfl (of_decide_eq_true rfl) ?_
 simp only [Env.ofArgs]
 have hlS : lenS l most = Qms most 40 (l.map fun x => max x 1) := rfl
 generalize lenS l most = res at *
 generalize hn : l.length = n at *
 refine VR [0, 1] rfl rfl fun K hK => ?_;simp only [go_sem,↓reduceIte,reduceEqDiff]
 (refine hK _ _ ?_;clear hK)
 refine VR [0, 1, 22] rfl rfl fun K hK => ?_;simp only [go_sem,↓reduceIte,reduceEqDiff]
 refine Qag Tryz.call160 ?_;simp only [go_sem,↓reduceIte,reduceEqDiff];refine CallK.mk hc1 ?_
 rintro v w2 ⟨rfl, rfl⟩
 simp only [go_sem,↓reduceIte,reduceEqDiff]
 suffices out : ∀ b : Bool, (b = true ↔ False) -> K [(0, .slice pa n lc), (1, .int .i64 most), (22, .bool b)] w2 by
  rw [Bool.not_true]
  simp only [go_sem,↓reduceIte,reduceEqDiff]
  refine ⟨fun h => out _ (by simp;omega), fun h => absurd h (by omega)⟩
 intro b hb
 (refine hK _ _ ?_;clear hK)
 refine Qab rfl rfl (fun h => (hb.1 h).elim) (fun h => Qaf ?_)
 clear hb h
 refine VR [1, 6] rfl rfl fun K hK => ?_;simp only [go_sem,↓reduceIte,reduceEqDiff]
 refine Qag Tryz.call161 ?_;simp only [go_sem,↓reduceIte,reduceEqDiff];refine CallK.mk hc2 ?_
 rintro v w3 ⟨a, cap, hH, rfl⟩
 (refine hK _ _ ?_;clear hK)
 obtain ⟨g, rfl⟩ := Qfs (hH.at 0 rfl) (by omega)
 refine VR [1, 6, 25, 26, 27] rfl rfl fun K hK => ?_;simp only [go_sem,↓reduceIte,reduceEqDiff]
 (refine hK _ _ ?_;clear hK)
 refine Qad ?_
 refine Qam [1, 6, 25, 26, 27] (fun m e w' => ∃ (i : Nat), Is e [(1, .int .i64 most), (6, .slice (some ⟨g, 0, none⟩) n cap), (25, .slice (some ⟨g, 0, none⟩) n cap), (26, .int .i64 n), (27, .int .i64 i)] /\ Heap w2 [] w' [Res.row 3 1 (some ⟨g, 0, none⟩) n cap (Qaq ((l.take i).map (fun x => max x 1) ++ l.drop i))] /\ i <= n /\ m = n - i) n ?_ ?_
 ·
  simp only [go_sem,↓reduceIte,reduceEqDiff]
  exact ⟨0, rfl, by simpa using hH, by omega, rfl⟩
 clear hH
 rintro m e w4 ⟨i, rfl, hH, hi, rfl⟩
 refine VR [1, 6, 25, 26, 27, 28] rfl rfl fun K hK => ?_;simp only [go_sem,↓reduceIte,reduceEqDiff]
 (refine hK _ _ ?_;clear hK)
 (repeat refine Qai ?_)
 refine Qab rfl rfl (fun h => ?_) (fun h => ?_)
 ·
  simp only [decide_eq_true_eq] at h
  obtain ⟨hs1, hs2, hs3⟩ := Qw3 l (fun x => max x 1) (i := i) (by omega)
  have hxi := hx _ (Qbs 0 (l := l) (i := i) (by omega))
  have hcell := Qaa (hH.at 0 rfl) (Qb6 (l := (l.take i).map (fun x => max x 1) ++ l.drop i) (i := i) (by omega))
  rw [hs2] at hcell
  generalize l.getD i 0 = x at *
  refine Qaf ?_
  ((repeat refine Qai ?_);refine Qad ?_)
  refine VR [1, 6, 7, 8, 25, 26, 27] rfl rfl fun K hK => ?_;simp only [go_sem,↓reduceIte,reduceEqDiff]
  refine ⟨⟨by omega, by omega⟩, _, hcell, ?_⟩
  (refine hK _ _ ?_;clear hK)
  refine VR [1, 6, 25, 26, 27] rfl rfl fun K hK => ?_;simp only [go_sem,↓reduceIte,reduceEqDiff]
  refine ⟨⟨by omega, by omega⟩, ?_⟩
  rw [show max ((x : Nat) : Int) 1 = ((max x 1 : Nat) : Int) by omega]
  refine Qae ?_;simp only [go_sem,↓reduceIte,reduceEqDiff];refine Qbd hH 0 (o := (i)) (vs := [.int .i64 (max x 1 : Nat)]) rfl (by first | exact (Qbp _ _ _).symm | rfl | simp [Qbp]) rfl (by kernel_rfl) (by first | omega | (simp;omega) | (simp [Qao, Qbm];omega) | (rw [Qar];simp;omega)) (by simp [Value.oneCell']) fun w6 hH2 => ?_;(try simp only [go_sem,↓reduceIte,reduceEqDiff])
  simp only [List.length_singleton, Qb1 (Qaq ((l.take i).map (fun x => max x 1) ++ l.drop i)) _ _ (show i < (Qaq ((l.take i).map (fun x => max x 1) ++ l.drop i)).length by rw [Qar, hs3];omega), Qce, List.set_cons_zero, hs1] at hH2
  (refine hK _ _ ?_;clear hK)
  refine Qav ?_
  refine VR [1, 6, 25, 26, 27] rfl rfl fun K hK => ?_;simp only [go_sem,↓reduceIte,reduceEqDiff]
  ((repeat refine And.intro (by omega) ?_);refine hK _ _ ?_;clear hK)
  refine Qah ?_
  simp only [go_sem,↓reduceIte,reduceEqDiff]
  exact ⟨n - (i + 1), by omega, i + 1, rfl, hH2, by omega, rfl⟩
 simp only [decide_eq_false_iff_not] at h
 obtain rfl : i = n := by omega
 rw [List.take_of_length_le (by omega), List.drop_of_length_le (by omega), List.append_nil] at hH
 refine Qap rfl ?_
 have hown1 : ∀ x ∈ l.map (fun x => max x 1), 1 <= x /\ x <= bnd 40 /\ x <= 2147483648 := fun x hx' => by
  obtain ⟨y, hy, rfl⟩ := List.mem_map.1 hx'
  have := hx y hy
  have e : bnd 40 = 549755813890 := by decide
  omega
 have hownl : (l.map fun x => max x 1).length = i := by simp [hn]
 generalize l.map (fun x => max x 1) = own0 at *
 generalize i = n at *
 clear hn hx hi h
 refine Qad ?_
 refine Qam [1, 6] (fun m e w' => ∃ (t : Nat) (own : List Nat), Is e [(1, .int .i64 most), (6, .slice (some ⟨g, 0, none⟩) n cap)] /\ Heap w2 [] w' [Res.row 3 1 (some ⟨g, 0, none⟩) n cap (Qaq own)] /\ own.length = n /\ (∀ x ∈ own, 1 <= x /\ x <= bnd t /\ x <= 2147483648) /\ res = Qms most t own /\ m = t) 40 ?_ ?_
 ·
  simp only [go_sem,↓reduceIte,reduceEqDiff]
  exact ⟨40, own0, rfl, hH, hownl, hown1, hlS, rfl⟩
 clear hH hown1 hownl hlS
 rintro m e w5 ⟨t, own, rfl, hH, hol, hob, hres, rfl⟩
 have hgl := Qg5 own
 have hc3 := Qyo own (by omega) (by omega) (fun x hx' => ⟨(hob x hx').1, (hob x hx').2.2⟩) (some ⟨g, 0, none⟩) cap w5 (by rw [hol];exact Qbo (hH.at 0 rfl))
 rw [hol] at hc3 hgl
 refine Qad ?_
 refine VR [1, 6, 9] rfl rfl fun K hK => ?_;simp only [go_sem,↓reduceIte,reduceEqDiff]
 refine Qag Tryz.call162 ?_;simp only [go_sem,↓reduceIte,reduceEqDiff];refine CallK.mk hc3 ?_
 rintro v w6 ⟨a2, cap2, hHg, rfl⟩
 have hH2 := hH.call0 hHg
 clear hH hHg
 simp only [List.singleton_append] at hH2
 (refine hK _ _ ?_;clear hK)
 refine VR [1, 6, 9, 43] rfl rfl fun K hK => ?_;simp only [go_sem,↓reduceIte,reduceEqDiff]
 refine Qag Tryz.call163 ?_;simp only [go_sem,↓reduceIte,reduceEqDiff];refine CallK.mk (Qwy (Qfc own) (by omega) (by omega) a2 cap2 w6 (Qbo (hH2.at 0 rfl))) ?_
 rintro v w7 ⟨rfl, rfl⟩
 simp only [go_sem,↓reduceIte,reduceEqDiff]
 (refine hK _ _ ?_;clear hK)
 refine Qab rfl rfl (fun h => ?_) (fun h => Qaf ?_)
 ·
  simp only [decide_eq_true_eq] at h
  have hfin : res = Qfc own := by
   rw [hres]
   cases m with
   | zero => rfl
   | succ t => rw [Qms, if_pos (by omega)]
  refine VR [4, 5] rfl rfl fun K hK => ?_;simp only [go_sem,↓reduceIte,reduceEqDiff]
  (refine hK _ _ ?_;clear hK)
  exact Qan (Qa9 rfl rfl rfl ⟨a2, cap2, by rw [hfin];exact hH2.sub (by simp), by rw [hfin]⟩)
 simp only [decide_eq_false_iff_not] at h
 obtain ⟨t, rfl⟩ : ∃ t, m = t + 1 := by
  cases m with
  | succ t => exact ⟨t, rfl⟩
  | zero =>
   have := Qlm (w := own) (by omega) (by omega) (fun x hx' => ⟨(hob x hx').1, (hob x hx').2.1⟩)
   omega
 rw [Qms, if_neg (by omega)] at hres
 have hH3 : Heap w2 [] w7 [Res.row 3 1 (some ⟨g, 0, none⟩) n cap (Qaq own)] := hH2.sub (by simp)
 clear hH2 h
 refine VR [1, 6, 45, 46, 47] rfl rfl fun K hK => ?_;simp only [go_sem,↓reduceIte,reduceEqDiff]
 (refine hK _ _ ?_;clear hK)
 refine Qad ?_
 refine Qam [1, 6, 45, 46, 47] (fun m e w' => ∃ (i : Nat), Is e [(1, .int .i64 most), (6, .slice (some ⟨g, 0, none⟩) n cap), (45, .slice (some ⟨g, 0, none⟩) n cap), (46, .int .i64 n), (47, .int .i64 i)] /\ Heap w2 [] w' [Res.row 3 1 (some ⟨g, 0, none⟩) n cap (Qaq ((own.take i).map (fun x => x / 2 + 1) ++ own.drop i))] /\ i <= n /\ m = n - i) n ?_ ?_
 ·
  simp only [go_sem,↓reduceIte,reduceEqDiff]
  exact ⟨0, rfl, by simpa using hH3, by omega, rfl⟩
 clear hH3
 rintro m e w8 ⟨i, rfl, hH, hi, rfl⟩
 refine VR [1, 6, 45, 46, 47, 48] rfl rfl fun K hK => ?_;simp only [go_sem,↓reduceIte,reduceEqDiff]
 (refine hK _ _ ?_;clear hK)
 (repeat refine Qai ?_)
 refine Qab rfl rfl (fun h => ?_) (fun h => ?_)
 ·
  simp only [decide_eq_true_eq] at h
  obtain ⟨hs1, hs2, hs3⟩ := Qw3 own (fun x => x / 2 + 1) (i := i) (by omega)
  have hxi := hob _ (Qbs 0 (l := own) (i := i) (by omega))
  have hcell := Qaa (hH.at 0 rfl) (Qb6 (l := (own.take i).map (fun x => x / 2 + 1) ++ own.drop i) (i := i) (by omega))
  rw [hs2] at hcell
  generalize own.getD i 0 = x at *
  refine Qaf ?_
  ((repeat refine Qai ?_);refine Qad ?_)
  refine VR [1, 6, 10, 11, 45, 46, 47] rfl rfl fun K hK => ?_;simp only [go_sem,↓reduceIte,reduceEqDiff]
  refine ⟨⟨by omega, by omega⟩, _, hcell, ?_⟩
  (refine hK _ _ ?_;clear hK)
  refine VR [1, 6, 45, 46, 47] rfl rfl fun K hK => ?_;simp only [go_sem,↓reduceIte,reduceEqDiff]
  (repeat first | refine And.intro (by omega) ?_ | refine ⟨⟨by omega, by omega⟩, ?_⟩)
  rw [show ((x : Nat) : Int) / 2 + 1 = ((x / 2 + 1 : Nat) : Int) by omega]
  refine Qae ?_;simp only [go_sem,↓reduceIte,reduceEqDiff];refine Qbd hH 0 (o := (i)) (vs := [.int .i64 (x / 2 + 1 : Nat)]) rfl (by first | exact (Qbp _ _ _).symm | rfl | simp [Qbp]) rfl (by kernel_rfl) (by first | omega | (simp;omega) | (simp [Qao, Qbm];omega) | (rw [Qar];simp;omega)) (by simp [Value.oneCell']) fun w6 hH2 => ?_;(try simp only [go_sem,↓reduceIte,reduceEqDiff])
  simp only [List.length_singleton, Qb1 (Qaq ((own.take i).map (fun x => x / 2 + 1) ++ own.drop i)) _ _ (show i < (Qaq ((own.take i).map (fun x => x / 2 + 1) ++ own.drop i)).length by rw [Qar, hs3];omega), Qce, List.set_cons_zero, hs1] at hH2
  (refine hK _ _ ?_;clear hK)
  refine Qav ?_
  refine VR [1, 6, 45, 46, 47] rfl rfl fun K hK => ?_;simp only [go_sem,↓reduceIte,reduceEqDiff]
  ((repeat refine And.intro (by omega) ?_);refine hK _ _ ?_;clear hK)
  refine Qah ?_
  simp only [go_sem,↓reduceIte,reduceEqDiff]
  exact ⟨n - (i + 1), by omega, i + 1, rfl, hH2, by omega, rfl⟩
 simp only [decide_eq_false_iff_not] at h
 obtain rfl : i = n := by omega
 rw [List.take_of_length_le (by omega), List.drop_of_length_le (by omega), List.append_nil] at hH
 refine Qap rfl ?_
 refine Qav ?_
 refine Qah ?_
 simp only [go_sem,↓reduceIte,reduceEqDiff]
 refine ⟨t, by omega, t, own.map fun x => x / 2 + 1, rfl, hH, by simp [hol], fun x hx' => ?_, hres, rfl⟩
 obtain ⟨y, hy, rfl⟩ := List.mem_map.1 hx'
 have := hob y hy
 exact ⟨by omega, Qwj this.2.1, by omega⟩
def Qb4 (hs : List (Option Addr × Nat)) (T : List (List Nat)) : List Value := List.zipWith (fun h t => .slice h.1 t.length h.2) hs T
theorem Qjj {hs : List (Option Addr × Nat)} {T : List (List Nat)} (h : hs.length = T.length) : (Qb4 hs T).length = T.length := by simp [Qb4, h]
theorem Qcy {hs : List (Option Addr × Nat)} {T : List (List Nat)} {i : Nat} {h : Option Addr × Nat} {t : List Nat} (h1 : hs[i]? = some h) (h2 : T[i]? = some t) : (Qb4 hs T)[i]? = some (.slice h.1 t.length h.2) := by
 simp [Qb4, List.getElem?_zipWith, h1, h2]
theorem Qvf (hs : List (Option Addr × Nat)) (T : List (List Nat)) : ∀ u ∈ Qb4 hs T, u.oneCell' = true := by
 intro u hu
 obtain ⟨i, hi⟩ := List.mem_iff_getElem?.1 hu
 rw [Qb4, List.getElem?_zipWith] at hi
 split at hi
 ·
  cases hi;rfl
 ·
  cases hi
theorem Qvg {hs : List (Option Addr × Nat)} {T : List (List Nat)} (i : Nat) (h : Option Addr × Nat) (t : List Nat) : (Qb4 hs T).set i (.slice h.1 t.length h.2) = Qb4 (hs.set i h) (T.set i t) := by
 unfold Qb4
 apply List.ext_getElem?
 intro j
 rw [List.getElem?_set, List.getElem?_zipWith, List.getElem?_zipWith, List.getElem?_set, List.getElem?_set]
 by_cases e : i = j
 ·
  subst e
  rw [if_pos rfl, if_pos rfl, if_pos rfl]
  simp only [List.length_zipWith]
  by_cases h1 : i < hs.length
  ·
   by_cases h2 : i < T.length
   ·
    rw [if_pos (by omega), if_pos h1, if_pos h2]
   ·
    rw [if_neg (by omega), if_pos h1, if_neg h2]
  ·
   rw [if_neg (by omega), if_neg h1]
 ·
  rw [if_neg e, if_neg e, if_neg e]
theorem Qsv {hs : List (Option Addr × Nat)} {T : List (List Nat)} (hl : hs.length = T.length) (h : Option Addr × Nat) (t : List Nat) : Qb4 hs T ++ [.slice h.1 t.length h.2] = Qb4 (hs ++ [h]) (T ++ [t]) := by
 unfold Qb4
 rw [List.zipWith_append hl];rfl
def PlanAt (w : World) (v : Value) (T : List (List Nat)) (P : List Nat) : Prop :=
 ∃ ta tc pa pc, ∃ hs : List (Option Addr × Nat), v = .agg #[.slice ta T.length tc, .slice pa P.length pc] /\ hs.length = T.length /\ RS w ta T.length 1 (Qb4 hs T) /\ RS w pa P.length 1 (Qaq P) /\
  ∀ (i : Nat) (h : Option Addr × Nat) (t : List Nat), hs[i]? = some h -> T[i]? = some t -> RS w h.1 t.length 1 (Qaq t)
theorem PlanAt.keep {w w' : World} {v : Value} {T : List (List Nat)} {P : List Nat} {G : List Res} (h : PlanAt w v T P) (hH : Heap w [] w' G) : PlanAt w' v T P := by
 obtain ⟨ta, tc, pa, pc, hs, h1, h2, h3, h4, h5⟩ := h
 exact ⟨ta, tc, pa, pc, hs, h1, h2, hH.rs' h3, hH.rs' h4, fun i h t a b => hH.rs' (h5 i h t a b)⟩
def Qau (ta : Option Addr) (nt tc : Nat) (pa : Option Addr) (np pc : Nat) : List Value := [.slice ta nt tc, .slice pa np pc]
theorem Qlu (l : List Nat) (n : Nat) (hm : Qf4 l n) (a : Option Addr) (lc : Nat) (w : World) (hr : RS w a l.length 1 (Qaq l)) :
  Does Tryz.prog 129 #[.slice a l.length lc, .int .i64 n] w fun v w' => w' = w /\ v = .bool true := by
 obtain ⟨h1, h2, h3, h4, h5⟩ := hm
 obtain ⟨p, rfl⟩ := Qcx hr (by omega)
 refine Qak (args := [.slice (some p) l.length lc, .int .i64 n]) 37 Tryz.func129 rfl rfl (of_decide_eq_true rfl) ?_
 simp only [Env.ofArgs]
 generalize hn : l.length = m at *
 refine VR [0, 1] rfl rfl fun K hK => ?_;simp only [go_sem,↓reduceIte,reduceEqDiff]
 (refine hK _ _ ?_;clear hK)
 refine VR [0, 1, 22] rfl rfl fun K hK => ?_;simp only [go_sem,↓reduceIte,reduceEqDiff]
 suffices out : ∀ b : Bool, (b = true ↔ False) -> K [(0, .slice (some p) m lc), (1, .int .i64 n), (22, .bool b)] w by (repeat' (first | exact out _ _ (by first | omega | (simp;done) | (simp;omega)) | exact out _ (by first | omega | (simp;done) | (simp;omega)) | refine ⟨fun _ => ?_, fun _ => ?_⟩ | refine And.intro (by omega) ?_))
 intro b hb
 (refine hK _ _ ?_;clear hK)
 refine Qab rfl rfl (fun h => (hb.1 h).elim) (fun h => Qaf ?_)
 clear hb h
 refine VR [1, 23, 24, 25] rfl rfl fun K hK => ?_;simp only [go_sem,↓reduceIte,reduceEqDiff]
 (refine hK _ _ ?_;clear hK)
 refine Qad ?_
 refine Qam [1, 23, 24, 25] (fun m' e w' => ∃ (i : Nat), Is e [(1, .int .i64 n), (23, .slice (some p) m lc), (24, .int .i64 m), (25, .int .i64 i)] /\ Is w' w /\ i <= m /\ m' = m - i) m ?_ ?_
 ·
  simp only [go_sem,↓reduceIte,reduceEqDiff]
  exact ⟨0, rfl, rfl, by omega, rfl⟩
 rintro m' e w' ⟨i, rfl, rfl, hi, rfl⟩
 refine VR [1, 23, 24, 25, 26] rfl rfl fun K hK => ?_;simp only [go_sem,↓reduceIte,reduceEqDiff]
 (refine hK _ _ ?_;clear hK)
 (repeat refine Qai ?_)
 refine Qab rfl rfl (fun h => ?_) (fun h => ?_)
 ·
  simp only [decide_eq_true_eq] at h
  have hcell := Qda hr (i := i) (by omega)
  have hx := h5 _ (Qbs 0 (l := l) (i := i) (by omega))
  generalize l.getD i 0 = x at *
  refine Qaf ?_
  ((repeat refine Qai ?_);refine Qad ?_)
  refine VR [1, 6, 23, 24, 25] rfl rfl fun K hK => ?_;simp only [go_sem,↓reduceIte,reduceEqDiff]
  refine ⟨⟨by omega, by omega⟩, _, hcell, ?_⟩
  (refine hK _ _ ?_;clear hK)
  refine VR [1, 23, 24, 25, 35] rfl rfl fun K hK => ?_;simp only [go_sem,↓reduceIte,reduceEqDiff]
  suffices out : ∀ b : Bool, (b = true ↔ False) -> K [(1, .int .i64 n), (23, .slice (some p) m lc), (24, .int .i64 m), (25, .int .i64 i), (35, .bool b)] w' by (repeat' (first | exact out _ _ (by first | omega | (simp;done) | (simp;omega)) | exact out _ (by first | omega | (simp;done) | (simp;omega)) | refine ⟨fun _ => ?_, fun _ => ?_⟩ | refine And.intro (by omega) ?_))
  intro b hb
  (refine hK _ _ ?_;clear hK)
  refine Qab rfl rfl (fun h => (hb.1 h).elim) (fun h => Qaf ?_)
  refine Qav ?_
  refine VR [1, 23, 24, 25] rfl rfl fun K hK => ?_;simp only [go_sem,↓reduceIte,reduceEqDiff]
  ((repeat refine And.intro (by omega) ?_);refine hK _ _ ?_;clear hK)
  refine Qah ?_
  simp only [go_sem,↓reduceIte,reduceEqDiff]
  exact ⟨m - (i + 1), by omega, i + 1, rfl, rfl, by omega, rfl⟩
 ·
  refine Qap rfl ?_
  refine VR [4] rfl rfl fun K hK => ?_;simp only [go_sem,↓reduceIte,reduceEqDiff]
  (refine hK _ _ ?_;clear hK)
  exact Qan (Qax rfl rfl ⟨rfl, rfl⟩)
theorem Qhf (m : Nat) (hm : m <= 1000000000) (w : World) : Does Tryz.prog 83 #[.int .i64 m] w fun v w' => w' = w /\ v = .int .i64 (Qca m : Nat) := by
 refine Qak (args := [.int .i64 m]) 7 Tryz.func83 rfl rfl (of_decide_eq_true rfl) ?_
 simp only [Env.ofArgs]
 refine VR [0] rfl rfl fun K hK => ?_;simp only [go_sem,↓reduceIte,reduceEqDiff]
 (refine hK _ _ ?_;clear hK)
 refine VR [2] rfl rfl fun K hK => ?_;simp only [go_sem,↓reduceIte,reduceEqDiff]
 (repeat first | refine And.intro (by omega) ?_ | refine ⟨⟨by omega, by omega⟩, ?_⟩)
 rw [show ((m : Int) + 50 - 1) / 50 = ((Qca m : Nat) : Int) by unfold Qca;omega]
 (refine hK _ _ ?_;clear hK)
 exact Qan (Qax rfl rfl ⟨rfl, rfl⟩)
theorem Qpe (l : List Nat) (k : Nat) (hk : 50 * k < l.length) (hl : l.length <= 1000000000) (p : Addr) (lc : Nat) (hlc : l.length <= lc) (w : World) :
  Does Tryz.prog 132 #[.slice (some p) l.length lc, .int .i64 k] w fun v w' => w' = w /\ v = .slice (some (p.add (50 * k))) (Qcw l k).length (lc - 50 * k) := by
 have hcl : (Qcw l k).length = min 50 (l.length - 50 * k) := by simp [Qcw]
 refine Qak (args := [.slice (some p) l.length lc, .int .i64 k]) 15 Tryz.func132 rfl rfl (of_decide_eq_true rfl) ?_
 simp only [Env.ofArgs]
 generalize hn : l.length = n at *
 refine VR [0, 1] rfl rfl fun K hK => ?_;simp only [go_sem,↓reduceIte,reduceEqDiff]
 (refine hK _ _ ?_;clear hK)
 refine VR [4] rfl rfl fun K hK => ?_;simp only [go_sem,↓reduceIte,reduceEqDiff]
 (repeat (first | refine And.intro (by omega) ?_ | refine ⟨I64.mk (by omega) (by omega), ?_⟩ | refine ⟨⟨by omega, by omega, by omega⟩, ?_⟩))
 rw [if_neg (by omega), show ((k : Int) * 50).toNat = 50 * k by omega, show (min (n : Int) (((k : Int) + 1) * 50)).toNat - 50 * k = (Qcw l k).length by rw [hcl];omega]
 (refine hK _ _ ?_;clear hK)
 exact Qan (Qax rfl rfl ⟨rfl, rfl⟩)
theorem Qw4 {w : World} {l : List Nat} {p : Addr} (hr : RS w (some p) l.length 1 (Qaq l)) (hp : p.spot = none) {k : Nat} (hk : 50 * k < l.length) : RS w (some (p.add (50 * k))) (Qcw l k).length 1 (Qaq (Qcw l k)) := by
 have h1 := hr.drop hp (50 * k) (by omega)
 rw [Nat.mul_one] at h1
 have h2 := h1.take (Qcw l k).length (by simp [Qcw];omega)
 rw [Nat.mul_one, Qpa, Qk6] at h2
 have e : (l.drop (50 * k)).take (Qcw l k).length = Qcw l k := by
  unfold Qcw
  rw [List.length_take, List.take_eq_take_iff]
  omega
 rwa [e] at h2
theorem Qvh (m : Nat) (h1 : 1 <= m) (hm : m <= 1000000000) (w : World) : Does Tryz.prog 130 #[.int .i64 m] w fun v w' => w' = w /\ v = .tuple #[.int .i64 (Qea m : Nat), .int .i64 0] := by
 refine Qak (args := [.int .i64 m]) 19 Tryz.func130 rfl rfl (of_decide_eq_true rfl) ?_
 simp only [Env.ofArgs]
 refine VR [0] rfl rfl fun K hK => ?_;simp only [go_sem,↓reduceIte,reduceEqDiff]
 (refine hK _ _ ?_;clear hK)
 refine VR [0, 7] rfl rfl fun K hK => ?_;simp only [go_sem,↓reduceIte,reduceEqDiff]
 (refine hK _ _ ?_;clear hK)
 refine Qab rfl rfl (fun h => by simp at h;omega) (fun h => Qaf ?_)
 refine VR [0, 8, 9] rfl rfl fun K hK => ?_;simp only [go_sem,↓reduceIte,reduceEqDiff]
 suffices hsuf : ∀ x : Array Value, x = (Qaq [200, 600, 1200, 2400]).toArray -> K [(0, .int .i64 m), (8, .agg x), (9, .int .i64 0)] w from hsuf _ (by kernel_rfl)
 rintro x rfl
 (refine hK _ _ ?_;clear hK)
 refine Qad ?_
 refine Qam [0, 8, 9] (fun m' e w' => ∃ (i : Nat), Is e [(0, .int .i64 m), (8, .agg (Qaq [200, 600, 1200, 2400]).toArray), (9, .int .i64 i)] /\ Is w' w /\ i <= 4 /\ (∀ j, j < i -> [200, 600, 1200, 2400].getD j 0 <= m) /\ m' = 4 - i) 4 ?_ ?_
 ·
  simp only [go_sem,↓reduceIte,reduceEqDiff]
  exact ⟨0, rfl, rfl, by omega, fun j hj => by omega, rfl⟩
 rintro m' e w' ⟨i, rfl, rfl, hi, hj, rfl⟩
 refine VR [0, 8, 9, 10] rfl rfl fun K hK => ?_;simp only [go_sem,↓reduceIte,reduceEqDiff]
 (refine hK _ _ ?_;clear hK)
 (repeat refine Qai ?_)
 refine Qab rfl rfl (fun h => ?_) (fun h => ?_)
 ·
  simp only [decide_eq_true_eq] at h
  have hvn : vNth (Qaq [200, 600, 1200, 2400]) i = fun K => K (.int .i64 ([200, 600, 1200, 2400].getD i 0 : Nat)) := by
   funext K
   exact Qu1 (Qb6 (by simp;omega))
  refine Qaf ?_
  ((repeat refine Qai ?_);refine Qad ?_)
  refine VR [0, 4, 5, 8, 9] rfl rfl fun K hK => ?_;simp only [go_sem,↓reduceIte,reduceEqDiff]
  rw [hvn]
  dsimp only
  refine ⟨⟨by omega, by omega⟩, ?_⟩
  (refine hK _ _ ?_;clear hK)
  refine VR [0, 4, 8, 9, 15] rfl rfl fun K hK => ?_;simp only [go_sem,↓reduceIte,reduceEqDiff]
  (refine hK _ _ ?_;clear hK)
  refine Qab rfl rfl (fun h => ?_) (fun h => Qaf ?_)
  ·
   simp only [decide_eq_true_eq] at h
   have ht : Qea m = i + 2 := by
    have h0 := hj 0
    have h1' := hj 1
    have h2 := hj 2
    match i, hi, h, h0, h1', h2 with
    | 0, _, h, _, _, _ => simp at h;unfold Qea;rw [if_pos (by omega)]
    | 1, _, h, h0, _, _ => simp at h h0;unfold Qea;rw [if_neg (by omega), if_pos (by omega)]
    | 2, _, h, h0, h1', _ => simp at h h0 h1';unfold Qea;rw [if_neg (by omega), if_neg (by omega), if_pos (by omega)]
    | 3, _, h, h0, h1', h2 => simp at h h0 h1' h2;unfold Qea;rw [if_neg (by omega), if_neg (by omega), if_neg (by omega), if_pos (by omega)]
    | 4, _, h, _, _, _ => exact absurd h (by simp)
   refine VR [2, 3] rfl rfl fun K hK => ?_;simp only [go_sem,↓reduceIte,reduceEqDiff]
   ((repeat refine And.intro (by omega) ?_);refine hK _ _ ?_;clear hK)
   exact Qan (Qa9 rfl rfl rfl ⟨rfl, by rw [ht];rfl⟩)
  simp only [decide_eq_false_iff_not] at h
  refine Qav ?_
  refine VR [0, 8, 9] rfl rfl fun K hK => ?_;simp only [go_sem,↓reduceIte,reduceEqDiff]
  ((repeat refine And.intro (by omega) ?_);refine hK _ _ ?_;clear hK)
  refine Qah ?_
  simp only [go_sem,↓reduceIte,reduceEqDiff]
  refine ⟨4 - (i + 1), by omega, i + 1, rfl, rfl, by omega, fun j hj2 => ?_, rfl⟩
  by_cases e : j = i
  ·
   rw [e];omega
  ·
   exact hj j (by omega)
 ·
  simp only [decide_eq_false_iff_not] at h
  have h0 := hj 0 (by omega)
  have h1' := hj 1 (by omega)
  have h2 := hj 2 (by omega)
  have h3 := hj 3 (by omega)
  simp at h0 h1' h2 h3
  have ht : Qea m = 6 := by unfold Qea;rw [if_neg (by omega), if_neg (by omega), if_neg (by omega), if_neg (by omega)]
  refine Qap rfl ?_
  refine VR [2, 3] rfl rfl fun K hK => ?_;simp only [go_sem,↓reduceIte,reduceEqDiff]
  (refine hK _ _ ?_;clear hK)
  exact Qan (Qa9 rfl rfl rfl ⟨rfl, by rw [ht];rfl⟩)
theorem Qlv (m : Nat) (h0 : 0 < m) (hm : m <= 1000000) (w : World) : Does Tryz.prog 80 #[.int .i64 m] w fun v w' => ∃ g, Heap w [] w' [Res.row 3 1 (some ⟨g, 0, none⟩) m m (Qaq (List.range m))] /\ v = .slice (some ⟨g, 0, none⟩) m m := by
 refine Qak (args := [.int .i64 m]) 18 Tryz.func80 rfl rfl (of_decide_eq_true rfl) ?_
 simp only [Env.ofArgs]
 refine VR [0] rfl rfl fun K hK => ?_;simp only [go_sem,↓reduceIte,reduceEqDiff]
 (refine hK _ _ ?_;clear hK)
 refine VR [3] rfl rfl fun K hK => ?_;simp only [go_sem,↓reduceIte,reduceEqDiff]
 refine Qbw Tryz.underlying36 zi3 ?_
 simp only [go_sem,↓reduceIte,reduceEqDiff]
 refine ⟨m, m, ⟨rfl, rfl, by omega, by omega, by omega⟩, ?_⟩
 have hH := (Heap.start w).row 3 (n := m) (cap := m) (sz := 1) (Qaq (List.replicate m 0)) [] (by simp [Qar]) (by simp [Qar]) (by omega) (by omega)
 rw [List.append_nil, Qcr] at hH
 generalize w.alloc (Obj.cells (List.replicate m (Value.int IntKind.i64 0)).toArray 3) = w1 at *
 generalize w.heap.size = go at *
 rw [<- Qcr] at hH
 (refine hK _ _ ?_;clear hK)
 refine VR [3, 8, 9] rfl rfl fun K hK => ?_;simp only [go_sem,↓reduceIte,reduceEqDiff]
 (refine hK _ _ ?_;clear hK)
 refine Qad ?_
 refine Qam [3, 8, 9] (fun m' e w' => ∃ (i : Nat), Is e [(3, .slice (some ⟨go, 0, none⟩) m m), (8, .int .i64 m), (9, .int .i64 i)] /\ Heap w [] w' [Res.row 3 1 (some ⟨go, 0, none⟩) m m (Qaq (List.range i ++ List.replicate (m - i) 0))] /\ i <= m /\ m' = m - i) m ?_ ?_
 ·
  simp only [go_sem,↓reduceIte,reduceEqDiff]
  exact ⟨0, rfl, by simpa using hH, by omega, rfl⟩
 clear hH
 rintro m' e w' ⟨i, rfl, hH, hi, rfl⟩
 refine VR [3, 8, 9, 10] rfl rfl fun K hK => ?_;simp only [go_sem,↓reduceIte,reduceEqDiff]
 (refine hK _ _ ?_;clear hK)
 (repeat refine Qai ?_)
 refine Qab rfl rfl (fun h => ?_) (fun h => ?_)
 ·
  simp only [decide_eq_true_eq] at h
  have hset : (List.range i ++ List.replicate (m - i) 0).set i i = List.range (i + 1) ++ List.replicate (m - (i + 1)) 0 := by
   obtain ⟨q, hq⟩ : ∃ q, m - i = q + 1 := ⟨m - i - 1, by omega⟩
   rw [hq, List.replicate_succ, List.set_append_right _ _ (by simp), List.length_range, Nat.sub_self, List.set_cons_zero, List.range_succ, List.append_assoc, show m - (i + 1) = q by omega]
   rfl
  have hlen : (List.range i ++ List.replicate (m - i) 0).length = m := by simp;omega
  refine Qaf ?_
  ((repeat refine Qai ?_);refine Qad ?_)
  refine VR [3, 4, 8, 9] rfl rfl fun K hK => ?_;simp only [go_sem,↓reduceIte,reduceEqDiff]
  (refine hK _ _ ?_;clear hK)
  refine VR [3, 8, 9] rfl rfl fun K hK => ?_;simp only [go_sem,↓reduceIte,reduceEqDiff]
  refine ⟨⟨by omega, by omega⟩, ?_⟩
  refine Qae ?_;simp only [go_sem,↓reduceIte,reduceEqDiff];refine Qbd hH 0 (o := (i)) (vs := [.int .i64 (i : Nat)]) rfl (by first | exact (Qbp _ _ _).symm | rfl | simp [Qbp]) rfl (by kernel_rfl) (by first | omega | (simp;omega) | (simp [Qao, Qbm];omega) | (rw [Qar];simp;omega)) (by simp [Value.oneCell']) fun w6 hH2 => ?_;(try simp only [go_sem,↓reduceIte,reduceEqDiff])
  simp only [List.length_singleton, Qb1 (Qaq (List.range i ++ List.replicate (m - i) 0)) _ _ (show i < (Qaq (List.range i ++ List.replicate (m - i) 0)).length by rw [Qar, hlen];omega), Qce, List.set_cons_zero, hset] at hH2
  (refine hK _ _ ?_;clear hK)
  refine Qav ?_
  refine VR [3, 8, 9] rfl rfl fun K hK => ?_;simp only [go_sem,↓reduceIte,reduceEqDiff]
  ((repeat refine And.intro (by omega) ?_);refine hK _ _ ?_;clear hK)
  refine Qah ?_
  simp only [go_sem,↓reduceIte,reduceEqDiff]
  exact ⟨m - (i + 1), by omega, i + 1, rfl, hH2, by omega, rfl⟩
 ·
  simp only [decide_eq_false_iff_not] at h
  obtain rfl : i = m := by omega
  rw [Nat.sub_self, List.replicate_zero, List.append_nil] at hH
  refine Qap rfl ?_
  refine VR [2] rfl rfl fun K hK => ?_;simp only [go_sem,↓reduceIte,reduceEqDiff]
  (refine hK _ _ ?_;clear hK)
  exact Qan (Qax rfl rfl ⟨go, hH, rfl⟩)
theorem Qlw (li : List Nat) (g cap at_ : Nat) (hat : at_ < li.length) (hl : li.length <= 1000000000000) (w0 w : World) (B : List Nat) (G : List Res) (hL : Heap w0 B w (Res.row 3 1 (some ⟨g, 0, none⟩) li.length cap (Qaq li) :: G)) :
  Does Tryz.prog 81 #[.slice (some ⟨g, 0, none⟩) li.length cap, .int .i64 at_] w
   fun v w' => Heap w0 B w' (Res.row 3 1 (some ⟨g, 0, none⟩) li.length cap (Qaq (Qfk li at_)) :: G) /\ v = .int .i64 (li.getD at_ 0 : Nat) := by
 refine Qak (args := [.slice (some ⟨g, 0, none⟩) li.length cap, .int .i64 at_]) 22 Tryz.func81 rfl rfl (of_decide_eq_true rfl) ?_
 simp only [Env.ofArgs]
 refine VR [0, 1] rfl rfl fun K hK => ?_;simp only [go_sem,↓reduceIte,reduceEqDiff]
 (refine hK _ _ ?_;clear hK)
 refine VR [0, 1, 5] rfl rfl fun K hK => ?_;simp only [go_sem,↓reduceIte,reduceEqDiff]
 (repeat (first | refine And.intro (by omega) ?_ | refine ⟨⟨by omega, by omega⟩, ?_⟩ | (refine ⟨_, (by first | exact Qac (hL.at 0 rfl) rfl | exact Qaa (hL.at 0 rfl) (bytesV_get (by omega)) | exact Qaa (hL.at 0 rfl) (Qaj (by omega)) | exact Qaa (hL.at 0 rfl) (Qb6 (by omega)) | exact Qac (hL.at 1 rfl) rfl | exact Qaa (hL.at 1 rfl) (bytesV_get (by omega)) | exact Qaa (hL.at 1 rfl) (Qaj (by omega)) | exact Qaa (hL.at 1 rfl) (Qb6 (by omega)) | exact Qac (hL.at 2 rfl) rfl | exact Qaa (hL.at 2 rfl) (bytesV_get (by omega)) | exact Qaa (hL.at 2 rfl) (Qaj (by omega)) | exact Qaa (hL.at 2 rfl) (Qb6 (by omega)) | exact Qac (hL.at 3 rfl) rfl | exact Qaa (hL.at 3 rfl) (bytesV_get (by omega)) | exact Qaa (hL.at 3 rfl) (Qaj (by omega)) | exact Qaa (hL.at 3 rfl) (Qb6 (by omega))), ?_⟩;(try simp only [go_sem,↓reduceIte,reduceEqDiff]))))
 (refine hK _ _ ?_;clear hK)
 (repeat refine Qai ?_);refine Qa8 [0, 5] 7 (by kernel_rfl) (by kernel_rfl) (by kernel_rfl) rfl fun K hK => ?_;simp only [go_sem,↓reduceIte,reduceEqDiff]
 obtain ⟨hx1, hx2, hx3, hx4⟩ := hL.at 0 rfl
 clear hx1 hx4
 refine ⟨I64.mk (by omega) (by omega), ⟨by omega, by omega, by omega⟩, ⟨by omega, by omega⟩, ?_⟩
 have hsrc : RS w (some ⟨g, 0, none⟩) at_ 1 (Qaq (li.take at_)) := by
  rw [<- Qk6]
  have h := (Qbo (hL.at 0 rfl)).take at_ (by omega)
  rwa [Nat.mul_one] at h
 suffices hall : ∀ w5, Heap w0 B w5 (Res.row 3 1 (some ⟨g, 0, none⟩) li.length cap (Qaq (li.take 1 ++ li.take at_ ++ li.drop (at_ + 1))) :: G) -> K [(0, .slice (some ⟨g, 0, none⟩) li.length cap), (5, .int .i64 (li.getD at_ 0 : Nat))] w5 by
  refine Qna ?_
  simp only [go_sem,↓reduceIte,reduceEqDiff]
  by_cases hc1 : cap = 1
  ·
   have h0 : at_ = 0 := by omega
   subst h0
   rw [if_pos (by rw [hc1];rfl)]
   refine Qic hL 0 rfl Tryz.underlying36 sz3 (off := 0) rfl ⟨rfl, hsrc, 3, Tryz.underlying36⟩ (Qf9 _) (by simp) fun w5 hu hH4 => ?_
   refine hall w5 ?_
   rw [show li.take 1 ++ li.take 0 ++ li.drop (0 + 1) = li by rw [List.take_zero, List.append_nil];exact List.take_append_drop 1 li]
   simpa using hH4
  ·
   rw [if_neg (by rw [show Int.toNat 1 = 1 from rfl];exact hc1)]
   simp only [Option.map_some]
   refine Qic hL 0 rfl Tryz.underlying36 sz3 (off := 1) rfl ⟨rfl, hsrc, 3, Tryz.underlying36⟩ (Qf9 _) (by rw [Qar, show Int.toNat 1 = 1 from rfl];omega) fun w5 hu hH4 => ?_
   refine hall w5 ?_
   have e : min at_ (at_ + 1 - Int.toNat 1) * 1 = at_ := by rw [show Int.toNat 1 = 1 from rfl];omega
   simp only [e, List.set_cons_zero] at hH4
   rw [Qer, Qer, <- Qk6, <- Qpa]
   have e5 : (Qaq (li.take at_)).take at_ = Qaq (li.take at_) := List.take_of_length_le (by rw [Qar, List.length_take];omega)
   rw [e5, show 1 + at_ = at_ + 1 by omega] at hH4
   exact hH4
 intro w5 hH
 (refine hK _ _ ?_;clear hK)
 have hlen : (li.take 1 ++ li.take at_ ++ li.drop (at_ + 1)).length = li.length := by simp;omega
 have hmv : (li.take 1 ++ li.take at_ ++ li.drop (at_ + 1)).set 0 (li.getD at_ 0) = Qfk li at_ := by
  cases li with
  | nil => simp at hat
  | cons x r => simp [Qfk]
 generalize li.take 1 ++ li.take at_ ++ li.drop (at_ + 1) = li2 at *
 refine VR [5] rfl rfl fun K hK => ?_;simp only [go_sem,↓reduceIte,reduceEqDiff]
 refine ⟨⟨by omega, by omega⟩, ?_⟩
 refine Qae ?_;simp only [go_sem,↓reduceIte,reduceEqDiff];refine Qbd hH 0 (o := (0)) (vs := [.int .i64 (li.getD at_ 0 : Nat)]) rfl (by first | exact (Qbp _ _ _).symm | rfl | simp [Qbp]) rfl (by kernel_rfl) (by first | omega | (simp;omega) | (simp [Qao, Qbm];omega) | (rw [Qar];simp;omega)) (by simp [Value.oneCell']) fun w6 hH2 => ?_;(try simp only [go_sem,↓reduceIte,reduceEqDiff])
 simp only [List.length_singleton, Qb1 (Qaq li2) _ _ (show 0 < (Qaq li2).length by rw [Qar];omega), Qce, List.set_cons_zero, hmv] at hH2
 (refine hK _ _ ?_;clear hK)
 refine VR [4] rfl rfl fun K hK => ?_;simp only [go_sem,↓reduceIte,reduceEqDiff]
 (refine hK _ _ ?_;clear hK)
 exact Qan (Qax rfl rfl ⟨hH2, rfl⟩)
theorem Qig (v : Value) (T : List (List Nat)) (P : List Nat) (hm : mayP T P) (w : World) (hp : PlanAt w v T P) : Does Tryz.prog 79 #[v] w fun x w' => Heap w [] w' [] /\ x = .bool true := by
 obtain ⟨ta, tc, pa, pc, hs, rfl, hsl, hrT, hrP, hrt⟩ := hp
 obtain ⟨m1, m2, m3, m4, m5, m6⟩ := hm
 obtain ⟨qt, rfl⟩ := Qcx hrT (by omega)
 obtain ⟨qp, rfl⟩ := Qcx hrP (by omega)
 have hen : #[Value.agg #[.slice (some qt) T.length tc, .slice (some qp) P.length pc]] = [Value.agg (Qau (some qt) T.length tc (some qp) P.length pc).toArray].toArray := rfl
 rw [hen]
 refine Qak 72 Tryz.func79 rfl rfl (of_decide_eq_true rfl) ?_
 simp only [Env.ofArgs]
 generalize hnt : T.length = nt at *
 generalize hnp : P.length = np at *
 refine VR [1] rfl rfl fun K hK => ?_;simp only [go_sem,↓reduceIte,reduceEqDiff]
 refine Qcg ?_
 simp only [go_sem,↓reduceIte,reduceEqDiff]
 have hH := (Heap.start w).box 65 (Qau (some qt) nt tc (some qp) np pc)
 generalize w.alloc (Obj.cells (Qau (some qt) nt tc (some qp) np pc).toArray 65) = w1 at *
 generalize w.heap.size = gp at *
 have c0 : w1.cell? ⟨gp, 0, none⟩ = some (.slice (some qt) nt tc) := Qac (hH.at 0 rfl) rfl
 have c1 : w1.cell? ⟨gp, 1, none⟩ = some (.slice (some qp) np pc) := Qac (hH.at 0 rfl) rfl
 (refine hK _ _ ?_;clear hK)
 refine VR [1, 28] rfl rfl fun K hK => ?_;simp only [go_sem,↓reduceIte,reduceEqDiff]
 suffices out : ∀ b : Bool, (b = true ↔ False) -> K [(1, .pointer (some ⟨gp, 0, none⟩)), (28, .bool b)] w1 by
  refine ⟨_, c0, ?_⟩
  simp only [go_sem,↓reduceIte,reduceEqDiff]
  refine ⟨fun _ => ⟨_, c0, ?_⟩, fun h2 => absurd h2 (by omega)⟩
  simp only [go_sem,↓reduceIte,reduceEqDiff]
  refine ⟨fun _ => ⟨_, c1, ?_⟩, fun h2 => absurd h2 (by omega)⟩
  simp only [go_sem,↓reduceIte,reduceEqDiff]
  refine ⟨fun _ => ⟨_, c1, ?_⟩, fun h2 => absurd h2 (by omega)⟩
  simp only [go_sem,↓reduceIte,reduceEqDiff]
  exact out _ (by simp;omega)
 intro b hb
 (refine hK _ _ ?_;clear hK)
 refine Qab rfl rfl (fun h => (hb.1 h).elim) (fun h => Qaf ?_)
 clear hb h
 have hT0 : T[0]? = some (T.getD 0 []) := by rw [List.getD_eq_getElem?_getD, List.getElem?_eq_getElem (by omega)];rfl
 refine VR [1, 30, 31, 32] rfl rfl fun K hK => ?_;simp only [go_sem,↓reduceIte,reduceEqDiff]
 refine ⟨_, c0, ?_⟩
 simp only [go_sem,↓reduceIte,reduceEqDiff]
 (refine hK _ _ ?_;clear hK)
 refine Qad ?_
 refine Qam [1, 30, 31, 32] (fun m e w' => ∃ (i : Nat), Is e [(1, .pointer (some ⟨gp, 0, none⟩)), (30, .slice (some qt) nt tc), (31, .int .i64 nt), (32, .int .i64 i)] /\ Is w' w1 /\ i <= nt /\ m = nt - i) nt ?_ ?_
 ·
  simp only [go_sem,↓reduceIte,reduceEqDiff]
  exact ⟨0, rfl, rfl, by omega, rfl⟩
 rintro m e w2 ⟨i, rfl, rfl, hi, rfl⟩
 refine VR [1, 30, 31, 32, 33] rfl rfl fun K hK => ?_;simp only [go_sem,↓reduceIte,reduceEqDiff]
 (refine hK _ _ ?_;clear hK)
 (repeat refine Qai ?_)
 refine Qab rfl rfl (fun h => ?_) (fun h => ?_)
 ·
  simp only [decide_eq_true_eq] at h
  have hTi : T[i]? = some (T.getD i []) := by rw [List.getD_eq_getElem?_getD, List.getElem?_eq_getElem (by omega)];rfl
  obtain ⟨hh, hhi⟩ : ∃ hh, hs[i]? = some hh := ⟨_, List.getElem?_eq_getElem (by omega)⟩
  obtain ⟨h0, hh0⟩ : ∃ h0, hs[0]? = some h0 := ⟨_, List.getElem?_eq_getElem (by omega)⟩
  have hrs := hH.rs' hrT
  have hci := hrs.2.2 qt rfl i _ (Qcy hhi hTi)
  have hc0 := hrs.2.2 qt rfl 0 _ (Qcy hh0 hT0)
  have hrt2 := hH.rs' (hrt i hh _ hhi hTi)
  obtain ⟨e1, e2, e3⟩ := m5 _ (List.mem_of_getElem? hTi)
  have hck := Qhd (T.getD i []) hh.1 hh.2 w2 hrt2
  rw [if_pos (Qme.2 e3)] at hck
  generalize T.getD i [] = t at *
  generalize T.getD 0 [] = t0 at *
  refine Qaf ?_
  ((repeat refine Qai ?_);refine Qad ?_)
  refine VR [1, 4, 30, 31, 32] rfl rfl fun K hK => ?_;simp only [go_sem,↓reduceIte,reduceEqDiff]
  refine ⟨⟨by omega, by omega⟩, _, hci, ?_⟩
  (refine hK _ _ ?_;clear hK)
  refine VR [1, 30, 31, 32, 53] rfl rfl fun K hK => ?_;simp only [go_sem,↓reduceIte,reduceEqDiff]
  refine ⟨_, c0, ?_⟩
  simp only [go_sem,↓reduceIte,reduceEqDiff]
  refine ⟨by omega, _, hc0, ?_⟩
  simp only [go_sem,↓reduceIte,reduceEqDiff]
  refine ⟨fun _ => ⟨fun _ => ?_, fun h2 => absurd h2 (by omega)⟩, fun h2 => absurd h2 (by omega)⟩
  refine Qag Tryz.call103 ?_;simp only [go_sem,↓reduceIte,reduceEqDiff];refine CallK.mk hck ?_
  rintro v w3 ⟨rfl, rfl⟩
  simp only [go_sem,↓reduceIte,reduceEqDiff]
  (refine hK _ _ ?_;clear hK)
  refine Qab rfl rfl (fun h => by simp at h) (fun h => Qaf ?_)
  refine Qav ?_
  refine VR [1, 30, 31, 32] rfl rfl fun K hK => ?_;simp only [go_sem,↓reduceIte,reduceEqDiff]
  ((repeat refine And.intro (by omega) ?_);refine hK _ _ ?_;clear hK)
  refine Qah ?_
  simp only [go_sem,↓reduceIte,reduceEqDiff]
  exact ⟨nt - (i + 1), by omega, i + 1, rfl, rfl, by omega, rfl⟩
 simp only [decide_eq_false_iff_not] at h
 refine Qap rfl ?_
 refine VR [1, 56, 57, 58] rfl rfl fun K hK => ?_;simp only [go_sem,↓reduceIte,reduceEqDiff]
 refine ⟨_, c1, ?_⟩
 simp only [go_sem,↓reduceIte,reduceEqDiff]
 (refine hK _ _ ?_;clear hK)
 refine Qad ?_
 refine Qam [1, 56, 57, 58] (fun m e w' => ∃ (i : Nat), Is e [(1, .pointer (some ⟨gp, 0, none⟩)), (56, .slice (some qp) np pc), (57, .int .i64 np), (58, .int .i64 i)] /\ Is w' w2 /\ i <= np /\ m = np - i) np ?_ ?_
 ·
  simp only [go_sem,↓reduceIte,reduceEqDiff]
  exact ⟨0, rfl, rfl, by omega, rfl⟩
 rintro m e w3 ⟨j, rfl, rfl, hj, rfl⟩
 refine VR [1, 56, 57, 58, 59] rfl rfl fun K hK => ?_;simp only [go_sem,↓reduceIte,reduceEqDiff]
 (refine hK _ _ ?_;clear hK)
 (repeat refine Qai ?_)
 refine Qab rfl rfl (fun h => ?_) (fun h => ?_)
 ·
  simp only [decide_eq_true_eq] at h
  have hcell := Qda (hH.rs' hrP) (i := j) (by omega)
  have hx := m6 _ (Qbs 0 (l := P) (i := j) (by omega))
  generalize P.getD j 0 = x at *
  refine Qaf ?_
  ((repeat refine Qai ?_);refine Qad ?_)
  refine VR [1, 6, 56, 57, 58] rfl rfl fun K hK => ?_;simp only [go_sem,↓reduceIte,reduceEqDiff]
  refine ⟨⟨by omega, by omega⟩, _, hcell, ?_⟩
  (refine hK _ _ ?_;clear hK)
  refine VR [1, 56, 57, 58, 70] rfl rfl fun K hK => ?_;simp only [go_sem,↓reduceIte,reduceEqDiff]
  refine ⟨fun _ => ⟨_, c0, ?_⟩, fun h2 => absurd h2 (by omega)⟩
  simp only [go_sem,↓reduceIte,reduceEqDiff]
  rw [decide_eq_false (show ¬ ((nt : Int) <= x) by omega)]
  (refine hK _ _ ?_;clear hK)
  refine Qab rfl rfl (fun h => by simp at h) (fun h => Qaf ?_)
  refine Qav ?_
  refine VR [1, 56, 57, 58] rfl rfl fun K hK => ?_;simp only [go_sem,↓reduceIte,reduceEqDiff]
  ((repeat refine And.intro (by omega) ?_);refine hK _ _ ?_;clear hK)
  refine Qah ?_
  simp only [go_sem,↓reduceIte,reduceEqDiff]
  exact ⟨np - (j + 1), by omega, j + 1, rfl, rfl, by omega, rfl⟩
 ·
  refine Qap rfl ?_
  refine VR [2] rfl rfl fun K hK => ?_;simp only [go_sem,↓reduceIte,reduceEqDiff]
  (refine hK _ _ ?_;clear hK)
  exact Qan (Qax rfl rfl ⟨hH.sub (by simp), rfl⟩)
theorem Qnk : ∀ (li : List Nat) (c i : Nat), i < li.idxOf c -> li.getD i 0 ≠ c
 | [], c, i, h => by simp at h
 | x :: li, c, i, h => by
  rw [List.idxOf_cons] at h
  by_cases e : x = c
  ·
   subst e;simp at h
  ·
   have : (x == c) = false := by simpa using e
   rw [this] at h
   simp only [cond_false] at h
   cases i with
   | zero => simpa using e
   | succ i =>
    have := Qnk li c i (by omega)
    simpa using this
theorem Qjk : ∀ (P li : List Nat), (∀ k ∈ P, k ∈ li) -> (Qds li P).length <= P.length * li.length
 | [], li, _ => by simp [Qds]
 | p :: P, li, h => by
  have h1 := List.idxOf_lt_length_iff.2 (h p (by simp))
  have h2 := Qjk P (Qfk li (li.idxOf p)) fun k hk => (Qin h1 k).2 (h k (by simp [hk]))
  rw [Qgu h1] at h2
  simp only [Qds, List.length_append, List.length_replicate, List.length_cons, Nat.succ_mul]
  omega
theorem Qsw (ls : List (List Bool)) (l : List Bool) : Qem ls ++ Qbg l = Qem (ls ++ [l]) := by simp [Qem]
theorem Qdc (l : List Bool) : ∀ u ∈ Qbg l, u.oneCell' = true := by
 intro u hu
 simp [Qbg] at hu
 rcases hu with rfl | rfl <;> rfl
theorem Qj3 (v : Value) (T : List (List Nat)) (P : List Nat) (hm : mayP T P) (w : World) (hp : PlanAt w v T P) : Does Tryz.prog 40 #[v] w fun x w' => Heap w [] w' [] /\ x = .tuple #[Qjh (Qbx T P), .int .i64 0] := by
 have hp0 := hp
 obtain ⟨ta, tc, pa, pc, hs, rfl, hsl, hrT, hrP, hrt⟩ := hp
 have hm0 := hm
 obtain ⟨m1, m2, m3, m4, m5, m6⟩ := hm
 obtain ⟨qt, rfl⟩ := Qcx hrT (by omega)
 obtain ⟨qp, rfl⟩ := Qcx hrP (by omega)
 have hen : #[Value.agg #[.slice (some qt) T.length tc, .slice (some qp) P.length pc]] = [Value.agg (Qau (some qt) T.length tc (some qp) P.length pc).toArray].toArray := rfl
 have hpb : Qbx T P = ([Qbh 3 T.length ++ (Qbh 15 P.length ++ Qds (List.range T.length) P)] ++ T.map Qcl).flatten := by
  simp [Qbx, List.flatMap, List.append_assoc]
 rw [hen, hpb]
 refine Qak 85 Tryz.func40 rfl rfl (of_decide_eq_true rfl) ?_
 simp only [Env.ofArgs]
 have hpl := Qjk P (List.range T.length) (fun k hk => by simpa using m6 k hk)
 have hpl2 : P.length * (List.range T.length).length <= 32767 * 6 := Nat.mul_le_mul m4 (by simpa using m2)
 generalize hnt : T.length = nt at *
 generalize hnp : P.length = np at *
 refine VR [1, 2] rfl rfl fun K hK => ?_;simp only [go_sem,↓reduceIte,reduceEqDiff]
 refine Qcg ?_
 simp only [go_sem,↓reduceIte,reduceEqDiff]
 have hH := (Heap.start w).box 65 (Qau (some qt) nt tc (some qp) np pc)
 generalize w.alloc (Obj.cells (Qau (some qt) nt tc (some qp) np pc).toArray 65) = w1 at *
 generalize w.heap.size = gp at *
 refine Qat (.agg #[.string ⟨#[]⟩, .int .i64 0]) (by kernel_rfl) ?_
 simp only [go_sem,↓reduceIte,reduceEqDiff]
 have hH1 := hH.box 24 [.string ⟨#[]⟩, .int .i64 0]
 generalize w1.alloc (Obj.cells [Value.string ⟨#[]⟩, .int .i64 0].toArray 24) = w2 at *
 generalize w1.heap.size = gr at *
 clear hH
 (refine hK _ _ ?_;clear hK)
 refine VR [1, 2, 16] rfl rfl fun K hK => ?_;simp only [go_sem,↓reduceIte,reduceEqDiff]
 refine ⟨Qau (some qt) nt tc (some qp) np pc, ⟨rfl, Qa1 (hH1.at 1 rfl)⟩, ?_⟩
 have hmc := Qig _ T P hm0 w2 (hp0.keep hH1)
 refine Qag Tryz.call79 ?_;simp only [go_sem,↓reduceIte,reduceEqDiff];refine CallK.mk hmc ?_
 rintro v w3 ⟨hHm, rfl⟩
 have hH2 := hH1.call0 hHm
 simp only [List.nil_append] at hH2
 clear hH1 hHm hmc
 simp only [go_sem,↓reduceIte,reduceEqDiff]
 (refine hK _ _ ?_;clear hK)
 refine Qab rfl rfl (fun h => by simp at h) (fun h => Qaf ?_)
 clear h
 refine VR [1, 2, 4] rfl rfl fun K hK => ?_;simp only [go_sem,↓reduceIte,reduceEqDiff]
 refine Qag Tryz.call35 ?_;simp only [go_sem,↓reduceIte,reduceEqDiff];refine CallK.mk (Qdq w3) ?_
 rintro v w4 ⟨gw, hHw, rfl⟩
 have hH3 := hH2.call0 hHw
 simp only [List.singleton_append] at hH3
 clear hH2 hHw
 (refine hK _ _ ?_;clear hK)
 refine VR [1, 2, 4] rfl rfl fun K hK => ?_;simp only [go_sem,↓reduceIte,reduceEqDiff]
 refine ⟨_, Qac (hH3.at 2 rfl) (show (Qau (some qt) nt tc (some qp) np pc)[0]? = some _ from rfl), ?_⟩
 simp only [go_sem,↓reduceIte,reduceEqDiff]
 rw [show ((nt : Int) % 18446744073709551616) = nt by omega]
 refine Qag Tryz.call36 ?_;simp only [go_sem,↓reduceIte,reduceEqDiff];refine CallK.mk (Qc4 gw none 0 [] nt 3 w4 (by omega) (by omega) (by simp) (hH3.focus 0 rfl)) ?_
 rintro v w5 ⟨a5, c5, hHp, rfl⟩
 have hH4 := hH3.call1 0 rfl hHp
 simp only [List.set_cons_zero, List.nil_append] at hH4
 clear hH3 hHp
 (refine hK _ _ ?_;clear hK)
 refine VR [1, 2, 4] rfl rfl fun K hK => ?_;simp only [go_sem,↓reduceIte,reduceEqDiff]
 refine ⟨_, Qac (hH4.at 2 rfl) (show (Qau (some qt) nt tc (some qp) np pc)[1]? = some _ from rfl), ?_⟩
 simp only [go_sem,↓reduceIte,reduceEqDiff]
 rw [show ((np : Int) % 18446744073709551616) = np by omega]
 refine Qag Tryz.call36 ?_;simp only [go_sem,↓reduceIte,reduceEqDiff];refine CallK.mk (Qc4 gw a5 c5 _ np 15 w5 (by omega) (by omega) (by rw [Qaw];omega) (hH4.focus 0 rfl)) ?_
 rintro v w6 ⟨a6, c6, hHp, rfl⟩
 have hH5 := hH4.call1 0 rfl hHp
 simp only [List.set_cons_zero, List.nil_append] at hH5
 clear hH4 hHp
 (refine hK _ _ ?_;clear hK)
 refine VR [1, 2, 4, 5] rfl rfl fun K hK => ?_;simp only [go_sem,↓reduceIte,reduceEqDiff]
 refine ⟨_, Qac (hH5.at 2 rfl) (show (Qau (some qt) nt tc (some qp) np pc)[0]? = some _ from rfl), ?_⟩
 simp only [go_sem,↓reduceIte,reduceEqDiff]
 refine Qag Tryz.call80 ?_;simp only [go_sem,↓reduceIte,reduceEqDiff];refine CallK.mk (Qlv nt (by omega) (by omega) w6) ?_
 rintro v w7 ⟨go, hHo, rfl⟩
 have hH6 := hH5.call0 hHo
 simp only [List.singleton_append] at hH6
 clear hH5 hHo
 (refine hK _ _ ?_;clear hK)
 refine VR [1, 2, 4, 5, 36, 37, 38] rfl rfl fun K hK => ?_;simp only [go_sem,↓reduceIte,reduceEqDiff]
 refine ⟨_, Qac (hH6.at 3 rfl) (show (Qau (some qt) nt tc (some qp) np pc)[1]? = some _ from rfl), ?_⟩
 simp only [go_sem,↓reduceIte,reduceEqDiff]
 (refine hK _ _ ?_;clear hK)
 generalize hFull : Qbh 3 nt ++ (Qbh 15 np ++ Qds (List.range nt) P) = Full at *
 have hFl : Full.length <= 300000 := by
  rw [<- hFull];simp only [List.length_append, Qaw];omega
 refine Qad ?_
 refine Qam [1, 2, 4, 5, 36, 37, 38] (fun m e w' => ∃ (i : Nat) (li : List Nat) (X : List Bool) (a : Option Addr) (c : Nat), Is e [(1, .pointer (some ⟨gp, 0, none⟩)), (2, .pointer (some ⟨gr, 0, none⟩)), (4, .pointer (some ⟨gw, 0, none⟩)), (5, .slice (some ⟨go, 0, none⟩) nt nt), (36, .slice (some qp) np pc), (37, .int .i64 np), (38, .int .i64 i)] /\ Heap w [] w' [Res.row 3 1 (some ⟨go, 0, none⟩) nt nt (Qaq li), wr gw a c X, Res.blk gr 24 [.string ⟨#[]⟩, .int .i64 0], Res.blk gp 65 (Qau (some qt) nt tc (some qp) np pc)] /\ li.length = nt /\ (∀ k, k < nt -> k ∈ li) /\ X ++ Qds li (P.drop i) = Full /\ i <= np /\ m = np - i) np ?_ ?_
 ·
  simp only [go_sem,↓reduceIte,reduceEqDiff]
  exact ⟨0, _, _, a6, c6, rfl, hH6, by simp, fun k hk => by simpa using hk, by rw [<- hFull, List.drop_zero, List.append_assoc], by omega, rfl⟩
 clear hH6
 rintro m e w8 ⟨i, li, X, a, c, rfl, hH, hlil, hli, hX, hi, rfl⟩
 refine VR [1, 2, 4, 5, 36, 37, 38, 39] rfl rfl fun K hK => ?_;simp only [go_sem,↓reduceIte,reduceEqDiff]
 (refine hK _ _ ?_;clear hK)
 (repeat refine Qai ?_)
 refine Qab rfl rfl (fun h => ?_) (fun h => ?_)
 ·
  simp only [decide_eq_true_eq] at h
  have hcell := Qda (hH.rs' hrP) (i := i) (by omega)
  have hx := m6 _ (Qbs 0 (l := P) (i := i) (by omega))
  have hdp : P.drop i = P.getD i 0 :: P.drop (i + 1) := drop_getD 0 (by omega)
  rw [hdp, Qds] at hX
  generalize P.getD i 0 = x at *
  have hxl := hli x hx
  have hxi := List.idxOf_lt_length_iff.2 hxl
  have hXl : X.length + li.idxOf x + 1 <= 300000 := by
   have := congrArg List.length hX
   simp only [List.length_append, List.length_replicate, List.length_cons] at this
   omega
  refine Qaf ?_
  ((repeat refine Qai ?_);refine Qad ?_)
  refine VR [1, 2, 4, 5, 7, 36, 37, 38] rfl rfl fun K hK => ?_;simp only [go_sem,↓reduceIte,reduceEqDiff]
  refine ⟨⟨by omega, by omega⟩, _, hcell, ?_⟩
  (refine hK _ _ ?_;clear hK)
  refine VR [1, 2, 4, 5, 7, 8, 36, 37, 38] rfl rfl fun K hK => ?_;simp only [go_sem,↓reduceIte,reduceEqDiff]
  (refine hK _ _ ?_;clear hK)
  ((repeat refine Qai ?_);refine Qad ?_)
  refine Qam [1, 2, 4, 5, 7, 8, 36, 37, 38] (fun m e w' => ∃ (at_ : Nat) (a : Option Addr) (c : Nat), Is e [(1, .pointer (some ⟨gp, 0, none⟩)), (2, .pointer (some ⟨gr, 0, none⟩)), (4, .pointer (some ⟨gw, 0, none⟩)), (5, .slice (some ⟨go, 0, none⟩) nt nt), (7, .int .i64 x), (8, .int .i64 at_), (36, .slice (some qp) np pc), (37, .int .i64 np), (38, .int .i64 i)] /\ Heap w [] w' [Res.row 3 1 (some ⟨go, 0, none⟩) nt nt (Qaq li), wr gw a c (X ++ List.replicate at_ true), Res.blk gr 24 [.string ⟨#[]⟩, .int .i64 0], Res.blk gp 65 (Qau (some qt) nt tc (some qp) np pc)] /\ at_ <= li.idxOf x /\ m = li.idxOf x - at_) (li.idxOf x) ?_ ?_
  ·
   simp only [go_sem,↓reduceIte,reduceEqDiff]
   exact ⟨0, a, c, rfl, by simpa using hH, by omega, rfl⟩
  clear hH hcell
  rintro m e w9 ⟨at_, a2, c2, rfl, hH, hat, rfl⟩
  have hca := Qaa (hH.at 0 rfl) (Qb6 (l := li) (i := at_) (by omega))
  refine VR [1, 2, 4, 5, 7, 8, 36, 37, 38, 47] rfl rfl fun K hK => ?_;simp only [go_sem,↓reduceIte,reduceEqDiff]
  refine ⟨⟨by omega, by omega⟩, _, hca, ?_⟩
  simp only [go_sem,↓reduceIte,reduceEqDiff]
  (refine hK _ _ ?_;clear hK)
  refine Qab rfl rfl (fun h => ?_) (fun h => ?_)
  ·
   simp only [decide_eq_true_eq] at h
   have hlt : at_ < li.idxOf x := by
    rcases Nat.lt_or_ge at_ (li.idxOf x) with h2 | h2
    ·
     exact h2
    ·
     have e : at_ = li.idxOf x := by omega
     rw [e, Qox hxl] at h
     omega
   refine Qaf ?_
   refine Qad ?_
   refine VR [1, 2, 4, 5, 7, 8, 36, 37, 38] rfl rfl fun K hK => ?_;simp only [go_sem,↓reduceIte,reduceEqDiff]
   ((repeat refine And.intro (by omega) ?_);refine hK _ _ ?_;clear hK)
   refine VR [1, 2, 4, 5, 7, 8, 36, 37, 38] rfl rfl fun K hK => ?_;simp only [go_sem,↓reduceIte,reduceEqDiff]
   refine Qag Tryz.call36 ?_;simp only [go_sem,↓reduceIte,reduceEqDiff];refine CallK.mk (Qc4 gw a2 c2 _ 1 1 w9 (by omega) (by omega) (by rw [List.length_append, List.length_replicate];omega) (hH.focus 1 rfl)) ?_
   rintro v w10 ⟨a3, c3, hHp, rfl⟩
   have e1 : Qbh 1 1 = [true] := rfl
   rw [e1, List.append_assoc, <- List.replicate_succ'] at hHp
   have hH2 := hH.call1 1 rfl hHp
   simp only [List.set_cons_succ, List.set_cons_zero, List.nil_append] at hH2
   (refine hK _ _ ?_;clear hK)
   refine Qav ?_
   refine Qah ?_
   simp only [go_sem,↓reduceIte,reduceEqDiff]
   exact ⟨li.idxOf x - (at_ + 1), by omega, at_ + 1, a3, c3, rfl, hH2, by omega, rfl⟩
  ·
   simp only [decide_eq_false_iff_not, Decidable.not_not] at h
   have hlt : at_ = li.idxOf x := by
    rcases Nat.lt_or_ge at_ (li.idxOf x) with h2 | h2
    ·
     exact absurd (by omega) (Qnk li x at_ h2)
    ·
     omega
   subst hlt
   refine Qap rfl ?_
   refine VR [1, 2, 4, 5, 8, 36, 37, 38] rfl rfl fun K hK => ?_;simp only [go_sem,↓reduceIte,reduceEqDiff]
   refine Qag Tryz.call36 ?_;simp only [go_sem,↓reduceIte,reduceEqDiff];refine CallK.mk (Qc4 gw a2 c2 _ 0 1 w9 (by omega) (by omega) (by rw [List.length_append, List.length_replicate];omega) (hH.focus 1 rfl)) ?_
   rintro v w10 ⟨a3, c3, hHp, rfl⟩
   have e1 : Qbh 1 0 = [false] := rfl
   rw [e1, List.append_assoc] at hHp
   have hH2 := hH.call1 1 rfl hHp
   simp only [List.set_cons_succ, List.set_cons_zero, List.nil_append] at hH2
   clear hH hHp
   (refine hK _ _ ?_;clear hK)
   refine VR [1, 2, 4, 5, 36, 37, 38] rfl rfl fun K hK => ?_;simp only [go_sem,↓reduceIte,reduceEqDiff]
   have hmc := Qlw li go nt (li.idxOf x) hxi (by omega) w w10 [] _ (by rw [hlil];exact hH2)
   rw [hlil] at hmc
   refine Qag Tryz.call81 ?_;simp only [go_sem,↓reduceIte,reduceEqDiff];refine CallK.mk hmc ?_
   rintro v w11 ⟨hH3, rfl⟩
   (refine hK _ _ ?_;clear hK)
   refine Qav ?_
   refine VR [1, 2, 4, 5, 36, 37, 38] rfl rfl fun K hK => ?_;simp only [go_sem,↓reduceIte,reduceEqDiff]
   ((repeat refine And.intro (by omega) ?_);refine hK _ _ ?_;clear hK)
   refine Qah ?_
   simp only [go_sem,↓reduceIte,reduceEqDiff]
   refine ⟨np - (i + 1), by omega, i + 1, Qfk li (li.idxOf x), _, a3, c3, rfl, hH3, by rw [Qgu hxi];exact hlil, fun k hk => (Qin hxi k).2 (hli k hk), ?_, by omega, rfl⟩
   rw [<- hX];simp
 simp only [decide_eq_false_iff_not] at h
 obtain rfl : i = np := by omega
 rw [List.drop_of_length_le (by omega), Qds, List.append_nil] at hX
 subst hX
 refine Qap rfl ?_
 refine VR [1, 2, 9] rfl rfl fun K hK => ?_;simp only [go_sem,↓reduceIte,reduceEqDiff]
 refine Qag Tryz.call37 ?_;simp only [go_sem,↓reduceIte,reduceEqDiff];refine CallK.mk (Qg2 gw a c _ w8 (hH.at 1 rfl)) ?_
 rintro v w9 ⟨rfl, rfl⟩
 refine Qag Tryz.call38 ?_;simp only [go_sem,↓reduceIte,reduceEqDiff];refine CallK.mk (Qir gw a c _ w9 (hH.at 1 rfl)) ?_
 rintro v w10 ⟨rfl, rfl⟩
 simp only [go_sem,↓reduceIte,reduceEqDiff]
 refine Qie hH 2 (Qbg X) (xs := [.tmp 62]) Tryz.underlying101 sz24 rfl rfl rfl (by omega) (by omega) ?_
 simp only [go_sem,↓reduceIte,reduceEqDiff]
 refine ⟨by simp [Qbg, Value.cells], by simp [Value.cells], fun ga w11 hH2 => ?_⟩
 have hH3 : Heap w [] w11 [Res.row 24 2 (some ⟨ga, 0, none⟩) 1 1 (Qem [X]), Res.blk gr 24 [.string ⟨#[]⟩, .int .i64 0], Res.blk gp 65 (Qau (some qt) nt tc (some qp) i pc)] := by
  have e : Qem [X] = Qbg X := by simp [Qem]
  rw [e]
  exact hH2.sub (.cons_cons _ (.cons _ (.cons _ (.refl _))))
 clear hH2 hH
 (refine hK _ _ ?_;clear hK)
 refine VR [2, 9, 65, 66, 67] rfl rfl fun K hK => ?_;simp only [go_sem,↓reduceIte,reduceEqDiff]
 refine ⟨_, Qac (hH3.at 2 rfl) (show (Qau (some qt) nt tc (some qp) i pc)[0]? = some _ from rfl), ?_⟩
 simp only [go_sem,↓reduceIte,reduceEqDiff]
 (refine hK _ _ ?_;clear hK)
 clear h hi
 refine Qad ?_
 refine Qam [2, 9, 65, 66, 67] (fun m e w' => ∃ (j : Nat) (a : Option Addr) (c : Nat), Is e [(2, .pointer (some ⟨gr, 0, none⟩)), (9, .slice a (j + 1) c), (65, .slice (some qt) nt tc), (66, .int .i64 nt), (67, .int .i64 j)] /\ Heap w [] w' [Res.row 24 2 a (j + 1) c (Qem ([X] ++ (T.take j).map Qcl)), Res.blk gr 24 [.string ⟨#[]⟩, .int .i64 0]] /\ j <= nt /\ m = nt - j) nt ?_ ?_
 ·
  simp only [go_sem,↓reduceIte,reduceEqDiff]
  exact ⟨0, _, 1, rfl, by simpa using hH3.sub (.cons_cons _ (.cons_cons _ (.cons _ (.refl _)))), by omega, rfl⟩
 clear hH3
 rintro m e w12 ⟨j, a4, c4, rfl, hH, hj, rfl⟩
 refine VR [2, 9, 65, 66, 67, 68] rfl rfl fun K hK => ?_;simp only [go_sem,↓reduceIte,reduceEqDiff]
 (refine hK _ _ ?_;clear hK)
 (repeat refine Qai ?_)
 refine Qab rfl rfl (fun h => ?_) (fun h => ?_)
 ·
  simp only [decide_eq_true_eq] at h
  have hTj : T[j]? = some (T.getD j []) := by rw [List.getD_eq_getElem?_getD, List.getElem?_eq_getElem (by omega)];rfl
  obtain ⟨hh, hhi⟩ : ∃ hh, hs[j]? = some hh := ⟨_, List.getElem?_eq_getElem (by omega)⟩
  have hci := (hH.rs' hrT).2.2 qt rfl j _ (Qcy hhi hTj)
  have hrt2 := hH.rs' (hrt j hh _ hhi hTj)
  obtain ⟨e1, e2, e3⟩ := m5 _ (List.mem_of_getElem? hTj)
  have htk : T.take (j + 1) = T.take j ++ [T.getD j []] := by rw [List.take_add_one, hTj];rfl
  have hds := Qof (T.getD j []) e3.1 e3.2.1 e3.2.2.1 hh.1 hh.2 w12 hrt2
  generalize T.getD j [] = t at *
  refine Qaf ?_
  ((repeat refine Qai ?_);refine Qad ?_)
  refine VR [2, 9, 11, 65, 66, 67] rfl rfl fun K hK => ?_;simp only [go_sem,↓reduceIte,reduceEqDiff]
  refine ⟨⟨by omega, by omega⟩, _, hci, ?_⟩
  (refine hK _ _ ?_;clear hK)
  refine VR [2, 9, 12, 65, 66, 67] rfl rfl fun K hK => ?_;simp only [go_sem,↓reduceIte,reduceEqDiff]
  refine Qag Tryz.call82 ?_;simp only [go_sem,↓reduceIte,reduceEqDiff];refine CallK.mk hds ?_
  rintro v w13 ⟨hHd, rfl⟩
  have hH2 := hH.call0 hHd
  simp only [List.nil_append] at hH2
  clear hH hHd
  refine Qat (.agg #[.string ⟨#[]⟩, .int .i64 0]) (by kernel_rfl) ?_
  simp only [go_sem,↓reduceIte,reduceEqDiff]
  have hH3 := hH2.box 24 [.string ⟨#[]⟩, .int .i64 0]
  generalize w13.alloc (Obj.cells [Value.string ⟨#[]⟩, .int .i64 0].toArray 24) = w14 at *
  generalize w13.heap.size = gb at *
  refine Qae ?_
  simp only [go_sem,↓reduceIte,reduceEqDiff]
  refine Qal hH3 0 (vs := Qbg (Qcl t)) rfl rfl (by kernel_rfl) (by simp [Qbg]) (Qdc _) fun w15 hH4 => ?_
  have hH5 : Heap w [] w15 [Res.blk gb 24 (Qbg (Qcl t)), Res.row 24 2 a4 (j + 1) c4 (Qem ([X] ++ (T.take j).map Qcl)), Res.blk gr 24 [.string ⟨#[]⟩, .int .i64 0]] := hH4
  clear hH2 hH3 hH4
  (refine hK _ _ ?_;clear hK)
  refine VR [2, 9, 65, 66, 67] rfl rfl fun K hK => ?_;simp only [go_sem,↓reduceIte,reduceEqDiff]
  refine ⟨Qbg (Qcl t), ⟨rfl, Qa1 (hH5.at 0 rfl)⟩, ?_⟩
  refine Qie hH5 2 (Qbg (Qcl t)) (xs := [.tmp 77]) Tryz.underlying101 sz24 rfl rfl rfl (by omega) (by omega) ?_
  simp only [go_sem,↓reduceIte,reduceEqDiff]
  refine ⟨by simp [Qbg, Value.cells], by simp [Qbg, Value.cells], fun g2 w16 hH6 => ?_⟩
  refine Qa6 ?_
  simp only [go_sem,↓reduceIte,reduceEqDiff]
  refine Qd8 (zs := #[.string ⟨#[]⟩, .int .i64 0]) (bytes := 24) hH6 2 rfl Tryz.underlying101 (by kernel_rfl) rfl ⟨rfl, Qbo (hH6.at 0 rfl), 24, Tryz.underlying101⟩ (Qdc _) (fun h => by omega) fun a' cap' w17 hc' hH7 => ?_
  simp only [List.set_cons_succ, List.set_cons_zero] at hH7
  rw [Qsw, List.append_assoc] at hH7
  (refine hK _ _ ?_;clear hK)
  refine Qav ?_
  refine VR [2, 9, 65, 66, 67] rfl rfl fun K hK => ?_;simp only [go_sem,↓reduceIte,reduceEqDiff]
  ((repeat refine And.intro (by omega) ?_);refine hK _ _ ?_;clear hK)
  refine Qah ?_
  simp only [go_sem,↓reduceIte,reduceEqDiff]
  refine ⟨nt - (j + 1), by omega, j + 1, a', cap', rfl, ?_, by omega, rfl⟩
  rw [htk, List.map_append]
  exact hH7.sub (.cons _ (.cons _ (.refl _)))
 simp only [decide_eq_false_iff_not] at h
 obtain rfl : j = nt := by omega
 rw [List.take_of_length_le (by omega)] at hH
 obtain ⟨ga2, rfl⟩ := Qfs (hH.at 0 rfl) (by omega)
 have hlen : ([X] ++ T.map Qcl).length = j + 1 := by simp [hnt]
 have hfl : ([X] ++ T.map Qcl).flatten.length <= 10000000000000 := by
  rw [List.flatten_append, List.length_append]
  have h1 : ∀ Q : List (List Nat), (∀ t ∈ Q, okL t) -> (Q.map Qcl).flatten.length <= Q.length * 20000 := fun Q => by
   induction Q with
   | nil => intro _;simp
   | cons t Q ih =>
    intro hQ
    have h2 := ih fun t ht => hQ t (by simp [ht])
    obtain ⟨o1, o2, o3, _⟩ := hQ t (by simp)
    have h3 := Qhe t (t.getD 0 0) (o3 _ (Qbs 0 (by omega))).2 fun x hx => (o3 x hx).2
    simp only [List.map_cons, List.flatten_cons, List.length_append, List.length_cons, Nat.succ_mul, Qcl, Qaw]
    omega
  have h4 := h1 T fun t ht => (m5 t ht).2.2
  simp only [List.flatten_singleton]
  omega
 have hjn := Qsl ([X] ++ T.map Qcl) ⟨ga2, 0, none⟩ rfl c4 w12 (by rw [hlen];exact Qbo (hH.at 0 rfl)) hfl (by omega)
 rw [hlen] at hjn
 generalize ([X] ++ T.map Qcl).flatten = R at *
 refine Qap rfl ?_
 refine VR [2, 3] rfl rfl fun K hK => ?_;simp only [go_sem,↓reduceIte,reduceEqDiff]
 refine Qag Tryz.call42 ?_;simp only [go_sem,↓reduceIte,reduceEqDiff];refine CallK.mk hjn ?_
 rintro v w13 ⟨hHj, rfl⟩
 have hH2 := hH.call0 hHj
 simp only [List.nil_append] at hH2
 refine Qae ?_
 simp only [go_sem,↓reduceIte,reduceEqDiff]
 refine Qal hH2 1 (vs := Qbg R) rfl rfl (by kernel_rfl) (by simp [Qbg]) (Qdc _) fun w14 hH3 => ?_
 have hH4 : Heap w [] w14 [Res.row 24 2 (some ⟨ga2, 0, none⟩) (j + 1) c4 (Qem ([X] ++ T.map Qcl)), Res.blk gr 24 (Qbg R)] := hH3
 (refine hK _ _ ?_;clear hK)
 refine Qan (Qeg rfl rfl rfl (Qbu (hH4.at 1 rfl) (by kernel_rfl) (by kernel_rfl) rfl ?_))
 exact ⟨hH4.sub (by simp), rfl⟩
def Qnl (hs : List (Option Addr × Nat)) (L : List (List Nat)) : List Res := List.zipWith (fun h l => Res.row 3 1 h.1 l.length h.2 (Qaq l)) hs L
theorem Qsx {hs : List (Option Addr × Nat)} {L : List (List Nat)} {i : Nat} {h : Option Addr × Nat} {l : List Nat} (h1 : hs[i]? = some h) (h2 : L[i]? = some l) : (Qnl hs L)[i]? = some (Res.row 3 1 h.1 l.length h.2 (Qaq l)) := by
 simp [Qnl, List.getElem?_zipWith, h1, h2]
theorem Qpf {hs : List (Option Addr × Nat)} {L : List (List Nat)} (hl : hs.length = L.length) (a : Option Addr) (c : Nat) (l : List Nat) : Qnl hs L ++ [Res.row 3 1 a l.length c (Qaq l)] = Qnl (hs ++ [(a, c)]) (L ++ [l]) := by
 unfold Qnl
 rw [List.zipWith_append hl];rfl
theorem Qk9 {α : Type} (L : List α) (z x : α) {n i : Nat} (hi : i < n) (hl : L.length = i) : (L ++ List.replicate (n - i) z).set i x = (L ++ [x]) ++ List.replicate (n - (i + 1)) z := by
 obtain ⟨q, hq⟩ : ∃ q, n - i = q + 1 := ⟨n - i - 1, by omega⟩
 rw [hq, List.replicate_succ, List.set_append_right _ _ (by omega), hl, Nat.sub_self, List.set_cons_zero, List.append_assoc, show n - (i + 1) = q by omega];rfl
theorem Qpg (n : Nat) : Qb4 (List.replicate n (none, 0)) (List.replicate n []) = List.replicate n (.slice none 0 0) := by
 unfold Qb4
 rw [List.zipWith_replicate];simp
theorem Qqi {α β : Type} (f : α -> β) {T : List α} {j : Nat} {t : α} (h : T[j]? = some t) : (T.take (j + 1)).map f = (T.take j).map f ++ [f t] := by
 rw [List.take_add_one, h, List.map_append];rfl
theorem Qlx (v : Value) (T : List (List Nat)) (P : List Nat) (hm : mayP T P) (list : List Nat) (hl1 : 1 <= list.length) (hls : ∀ s ∈ list, s < (T.getD 0 []).length) (hlg : Qca list.length <= P.length) (a : Option Addr) (lc : Nat) (w : World) (hp : PlanAt w v T P) (hr : RS w a list.length 1 (Qaq list)) :
  Does Tryz.prog 41 #[v, .slice a list.length lc] w fun x w' => Heap w [] w' [] /\ x = .tuple #[Qjh (Qf3 T P list 0), .int .i64 0] := by
 have hp0 := hp
 obtain ⟨ta, tc, pa, pc, hs, rfl, hsl, hrT, hrP, hrt⟩ := hp
 have hm0 := hm
 obtain ⟨m1, m2, m3, m4, m5, m6⟩ := hm
 have hT0 : T[0]? = some (T.getD 0 []) := by rw [List.getD_eq_getElem?_getD, List.getElem?_eq_getElem (by omega)];rfl
 have hn0 : 3 <= (T.getD 0 []).length /\ (T.getD 0 []).length <= 258 := by
  obtain ⟨e1, e2, e3⟩ := m5 _ (List.mem_of_getElem? hT0)
  exact ⟨e2, e3.2.1⟩
 have hml : list.length <= 1638350 := by unfold Qca at hlg;omega
 have hFl := Qj0 (T := T) (P := P) (c := 20) (fun t ht x hx => ((m5 t ht).2.2.2.2.1 x hx).2) list 0
 obtain ⟨qt, rfl⟩ := Qcx hrT (by omega)
 obtain ⟨qp, rfl⟩ := Qcx hrP (by omega)
 obtain ⟨ql, rfl⟩ := Qcx hr (by omega)
 have hen : #[Value.agg #[.slice (some qt) T.length tc, .slice (some qp) P.length pc], .slice (some ql) list.length lc] = [Value.agg (Qau (some qt) T.length tc (some qp) P.length pc).toArray, .slice (some ql) list.length lc].toArray := rfl
 rw [hen]
 refine Qak 106 Tryz.func41 rfl rfl (of_decide_eq_true rfl) ?_
 simp only [Env.ofArgs]
 have hgd := fun w => Qhf list.length (by omega) w
 generalize hnt : T.length = nt at *
 generalize hnp : P.length = np at *
 generalize hnl : list.length = nl at *
 generalize hn : (T.getD 0 []).length = n0 at *
 refine VR [1, 2, 4] rfl rfl fun K hK => ?_;simp only [go_sem,↓reduceIte,reduceEqDiff]
 refine Qcg ?_
 simp only [go_sem,↓reduceIte,reduceEqDiff]
 have hH := (Heap.start w).box 65 (Qau (some qt) nt tc (some qp) np pc)
 generalize w.alloc (Obj.cells (Qau (some qt) nt tc (some qp) np pc).toArray 65) = w1 at *
 generalize w.heap.size = gp at *
 refine Qat (.agg #[.string ⟨#[]⟩, .int .i64 0]) (by kernel_rfl) ?_
 simp only [go_sem,↓reduceIte,reduceEqDiff]
 have hH1 := hH.box 24 [.string ⟨#[]⟩, .int .i64 0]
 generalize w1.alloc (Obj.cells [Value.string ⟨#[]⟩, .int .i64 0].toArray 24) = w2 at *
 generalize w1.heap.size = gr at *
 clear hH
 (refine hK _ _ ?_;clear hK)
 have hmc := Qig _ T P hm0 w2 (hp0.keep hH1)
 have c0 : w2.cell? ⟨gp, 0, none⟩ = some (.slice (some qt) nt tc) := Qac (hH1.at 1 rfl) rfl
 have c1 : w2.cell? ⟨gp, 1, none⟩ = some (.slice (some qp) np pc) := Qac (hH1.at 1 rfl) rfl
 (repeat refine Qai ?_);refine Qdp _ (Ext.refl _) [1, 2, 4, 25] [(0, true), (1, false), (2, true), (3, true), (4, true), (5, true), (7, true), (8, true), (9, true), (6, false), (10, true), (11, true)] (by kernel_rfl) (by kernel_rfl) rfl (by simp only [Qay, List.filterMap_cons, List.filterMap_nil, List.getElem?_cons_succ, List.getElem?_cons_zero, Option.map_some];rfl) fun K hK => ?_;simp only [go_sem,↓reduceIte,reduceEqDiff]
 refine ⟨Qau (some qt) nt tc (some qp) np pc, ⟨rfl, Qa1 (hH1.at 1 rfl)⟩, ?_⟩
 refine Qag Tryz.call79 ?_;simp only [go_sem,↓reduceIte,reduceEqDiff];refine CallK.mk hmc ?_
 rintro v w3 ⟨hHm, rfl⟩
 have hH2 := hH1.call0 hHm
 simp only [List.nil_append] at hH2
 simp only [go_sem,↓reduceIte,reduceEqDiff]
 refine ⟨hHm.ext, ?_⟩
 refine ⟨fun _ => ⟨_, c1, ?_⟩, fun h2 => absurd h2 (by simp)⟩
 simp only [go_sem,↓reduceIte,reduceEqDiff]
 refine Qag Tryz.call83 ?_;simp only [go_sem,↓reduceIte,reduceEqDiff];refine CallK.mk (hgd w3) ?_
 rintro v w4 ⟨rfl, rfl⟩
 simp only [go_sem,↓reduceIte,reduceEqDiff]
 refine ⟨hHm.ext, ?_⟩
 rw [decide_eq_false (show ¬ ((np : Int) < (Qca nl : Nat)) by omega)]
 (refine hK _ _ ?_;clear hK)
 refine Qab rfl rfl (fun h => by simp at h) (fun h => Qaf ?_)
 clear h hH1 hHm hmc c0 c1
 generalize w4 = w3 at *
 refine VR [1, 2, 4, 27, 28, 29] rfl rfl fun K hK => ?_;simp only [go_sem,↓reduceIte,reduceEqDiff]
 (refine hK _ _ ?_;clear hK)
 refine Qad ?_
 refine Qam [1, 2, 4, 27, 28, 29] (fun m e w' => ∃ (i : Nat), Is e [(1, .slice (some ql) nl lc), (2, .pointer (some ⟨gp, 0, none⟩)), (4, .pointer (some ⟨gr, 0, none⟩)), (27, .slice (some ql) nl lc), (28, .int .i64 nl), (29, .int .i64 i)] /\ Is w' w3 /\ i <= nl /\ m = nl - i) nl ?_ ?_
 ·
  simp only [go_sem,↓reduceIte,reduceEqDiff]
  exact ⟨0, rfl, rfl, by omega, rfl⟩
 rintro m e w' ⟨i, rfl, rfl, hi, rfl⟩
 have c0 : w'.cell? ⟨gp, 0, none⟩ = some (.slice (some qt) nt tc) := Qac (hH2.at 1 rfl) rfl
 have c1 : w'.cell? ⟨gp, 1, none⟩ = some (.slice (some qp) np pc) := Qac (hH2.at 1 rfl) rfl
 obtain ⟨h0, hh0⟩ : ∃ h0, hs[0]? = some h0 := ⟨_, List.getElem?_eq_getElem (by omega)⟩
 have hc0 := (hH2.rs' hrT).2.2 qt rfl 0 _ (Qcy hh0 hT0)
 rw [hn] at hc0
 refine VR [1, 2, 4, 27, 28, 29, 30] rfl rfl fun K hK => ?_;simp only [go_sem,↓reduceIte,reduceEqDiff]
 (refine hK _ _ ?_;clear hK)
 (repeat refine Qai ?_)
 refine Qab rfl rfl (fun h => ?_) (fun h => ?_)
 ·
  simp only [decide_eq_true_eq] at h
  have hcell := Qda (hH2.rs' hr) (i := i) (by omega)
  have hx := hls _ (Qbs 0 (l := list) (i := i) (by omega))
  generalize list.getD i 0 = x at *
  refine Qaf ?_
  ((repeat refine Qai ?_);refine Qad ?_)
  refine VR [1, 2, 4, 7, 27, 28, 29] rfl rfl fun K hK => ?_;simp only [go_sem,↓reduceIte,reduceEqDiff]
  refine ⟨⟨by omega, by omega⟩, _, hcell, ?_⟩
  (refine hK _ _ ?_;clear hK)
  refine VR [1, 2, 4, 27, 28, 29, 43] rfl rfl fun K hK => ?_;simp only [go_sem,↓reduceIte,reduceEqDiff]
  refine ⟨fun _ => ⟨_, c0, ?_⟩, fun h2 => absurd h2 (by omega)⟩
  simp only [go_sem,↓reduceIte,reduceEqDiff]
  refine ⟨by omega, _, hc0, ?_⟩
  simp only [go_sem,↓reduceIte,reduceEqDiff]
  rw [decide_eq_false (show ¬ ((n0 : Int) <= x) by omega)]
  (refine hK _ _ ?_;clear hK)
  refine Qab rfl rfl (fun h => by simp at h) (fun h => Qaf ?_)
  refine Qav ?_
  refine VR [1, 2, 4, 27, 28, 29] rfl rfl fun K hK => ?_;simp only [go_sem,↓reduceIte,reduceEqDiff]
  ((repeat refine And.intro (by omega) ?_);refine hK _ _ ?_;clear hK)
  refine Qah ?_
  simp only [go_sem,↓reduceIte,reduceEqDiff]
  exact ⟨nl - (i + 1), by omega, i + 1, rfl, rfl, by omega, rfl⟩
 simp only [decide_eq_false_iff_not] at h
 clear h hi
 generalize w' = w3 at *
 refine Qap rfl ?_
 refine VR [1, 2, 4, 8] rfl rfl fun K hK => ?_;simp only [go_sem,↓reduceIte,reduceEqDiff]
 refine Qag Tryz.call35 ?_;simp only [go_sem,↓reduceIte,reduceEqDiff];refine CallK.mk (Qdq w3) ?_
 rintro v w4 ⟨gw, hHw, rfl⟩
 have hH3 := hH2.call0 hHw
 simp only [List.singleton_append] at hH3
 clear hHw
 (refine hK _ _ ?_;clear hK)
 refine VR [1, 2, 4, 8, 9] rfl rfl fun K hK => ?_;simp only [go_sem,↓reduceIte,reduceEqDiff]
 refine ⟨_, Qac (hH3.at 2 rfl) (show (Qau (some qt) nt tc (some qp) np pc)[0]? = some _ from rfl), ?_⟩
 simp only [go_sem,↓reduceIte,reduceEqDiff]
 refine Qbw Tryz.underlying63 zi36 ?_
 simp only [go_sem,↓reduceIte,reduceEqDiff]
 refine ⟨nt, nt, ⟨rfl, rfl, by omega, by omega, by omega⟩, ?_⟩
 have hH4 := hH3.row 36 (n := nt) (cap := nt) (sz := 1) (Qb4 (List.replicate nt (none, 0)) (List.replicate nt [])) [] (by rw [Qjj (by simp)];simp) (by rw [List.append_nil, Qjj (by simp)];simp) (by omega) (by omega)
 rw [List.append_nil, Qpg] at hH4
 generalize w4.alloc (Obj.cells (List.replicate nt (Value.slice none 0 0)).toArray 36) = w5 at *
 generalize w4.heap.size = gc at *
 rw [<- Qpg] at hH4
 clear hH3
 (refine hK _ _ ?_;clear hK)
 refine VR [1, 2, 4, 8, 9, 52, 53] rfl rfl fun K hK => ?_;simp only [go_sem,↓reduceIte,reduceEqDiff]
 (refine hK _ _ ?_;clear hK)
 refine Qad ?_
 refine Qam [1, 2, 4, 8, 9, 52, 53] (fun m e w' => ∃ (i : Nat) (us : List (Option Addr × Nat)), Is e [(1, .slice (some ql) nl lc), (2, .pointer (some ⟨gp, 0, none⟩)), (4, .pointer (some ⟨gr, 0, none⟩)), (8, .pointer (some ⟨gw, 0, none⟩)), (9, .slice (some ⟨gc, 0, none⟩) nt nt), (52, .int .i64 nt), (53, .int .i64 i)] /\ Heap w [] w' (Res.row 36 1 (some ⟨gc, 0, none⟩) nt nt (Qb4 (us ++ List.replicate (nt - i) (none, 0)) ((T.take i).map Qct ++ List.replicate (nt - i) [])) :: wr gw none 0 [] :: Res.blk gr 24 [.string ⟨#[]⟩, .int .i64 0] :: Res.blk gp 65 (Qau (some qt) nt tc (some qp) np pc) :: Qnl us ((T.take i).map Qct)) /\ us.length = i /\ i <= nt /\ m = nt - i) nt ?_ ?_
 ·
  simp only [go_sem,↓reduceIte,reduceEqDiff]
  exact ⟨0, [], rfl, by simpa [Qnl] using hH4, rfl, by omega, rfl⟩
 clear hH4 hH2 c0 c1 hc0
 rintro m e w6 ⟨i, us, rfl, hH, hus, hi, rfl⟩
 refine VR [1, 2, 4, 8, 9, 52, 53, 54] rfl rfl fun K hK => ?_;simp only [go_sem,↓reduceIte,reduceEqDiff]
 (refine hK _ _ ?_;clear hK)
 (repeat refine Qai ?_)
 refine Qab rfl rfl (fun h => ?_) (fun h => ?_)
 ·
  simp only [decide_eq_true_eq] at h
  have hTi : T[i]? = some (T.getD i []) := by rw [List.getD_eq_getElem?_getD, List.getElem?_eq_getElem (by omega)];rfl
  obtain ⟨hh, hhi⟩ : ∃ hh, hs[i]? = some hh := ⟨_, List.getElem?_eq_getElem (by omega)⟩
  have hci := (hH.rs' hrT).2.2 qt rfl i _ (Qcy hhi hTi)
  have hrt2 := hH.rs' (hrt i hh _ hhi hTi)
  obtain ⟨e1, e2, e3⟩ := m5 _ (List.mem_of_getElem? hTi)
  have htk := Qqi Qct hTi
  have hcd := Ql7 (T.getD i []) e3 hh.1 hh.2 w6 hrt2
  generalize T.getD i [] = t at *
  have hLl : ((T.take i).map Qct).length = i := by simp;omega
  have hAl : (Qb4 (us ++ List.replicate (nt - i) (none, 0)) ((T.take i).map Qct ++ List.replicate (nt - i) [])).length = nt := by
   rw [Qjj (by simp;omega)];simp;omega
  have c0 : w6.cell? ⟨gp, 0, none⟩ = some (.slice (some qt) nt tc) := Qac (hH.at 3 rfl) rfl
  refine Qaf ?_
  ((repeat refine Qai ?_);refine Qad ?_)
  refine VR [1, 2, 4, 8, 9, 10, 52, 53] rfl rfl fun K hK => ?_;simp only [go_sem,↓reduceIte,reduceEqDiff]
  (refine hK _ _ ?_;clear hK)
  refine VR [1, 2, 4, 8, 9, 52, 53] rfl rfl fun K hK => ?_;simp only [go_sem,↓reduceIte,reduceEqDiff]
  refine ⟨_, c0, ?_⟩
  simp only [go_sem,↓reduceIte,reduceEqDiff]
  refine ⟨⟨by omega, by omega⟩, _, hci, ?_⟩
  refine Qag Tryz.call84 ?_;simp only [go_sem,↓reduceIte,reduceEqDiff];refine CallK.mk hcd ?_
  rintro v w7 ⟨ac, cc, hHc, rfl⟩
  have hH2 := hH.call0 hHc
  simp only [List.singleton_append] at hH2
  clear hHc c0 hci
  refine ⟨⟨by omega, by omega⟩, ?_⟩
  have hset : (Qb4 (us ++ List.replicate (nt - i) (none, 0)) ((T.take i).map Qct ++ List.replicate (nt - i) [])).set i (.slice ac (Qct t).length cc) = Qb4 ((us ++ [(ac, cc)]) ++ List.replicate (nt - (i + 1)) (none, 0)) ((T.take (i + 1)).map Qct ++ List.replicate (nt - (i + 1)) []) := by
   rw [htk, <- Qk9 us (none, 0) (ac, cc) (by omega) hus, <- Qk9 _ [] (Qct t) (by omega) hLl]
   exact Qvg i (ac, cc) (Qct t)
  refine Qae ?_
  simp only [go_sem,↓reduceIte,reduceEqDiff]
  refine Qbd hH2 1 (o := i) (vs := [.slice ac (Qct t).length cc]) rfl (by simp [Qbp]) rfl (by kernel_rfl) (by simp only [List.length_singleton];omega) (by simp [Value.oneCell']) fun w8 hH3 => ?_
  simp only [List.length_singleton, Qb1 _ _ _ (show i < (Qb4 (us ++ List.replicate (nt - i) (none, 0)) ((T.take i).map Qct ++ List.replicate (nt - i) [])).length by omega), hset, List.set_cons_zero, List.set_cons_succ] at hH3
  have hH4 := hH3.perm (List.perm_append_singleton _ _).symm
  simp only [List.cons_append] at hH4
  rw [Qpf (by omega), <- htk] at hH4
  clear hH hH2 hH3
  (refine hK _ _ ?_;clear hK)
  refine Qav ?_
  refine VR [1, 2, 4, 8, 9, 52, 53] rfl rfl fun K hK => ?_;simp only [go_sem,↓reduceIte,reduceEqDiff]
  ((repeat refine And.intro (by omega) ?_);refine hK _ _ ?_;clear hK)
  refine Qah ?_
  simp only [go_sem,↓reduceIte,reduceEqDiff]
  exact ⟨nt - (i + 1), by omega, i + 1, us ++ [(ac, cc)], rfl, hH4, by simp [hus], by omega, rfl⟩
 simp only [decide_eq_false_iff_not] at h
 obtain rfl : i = nt := by omega
 clear h hi
 rw [Nat.sub_self, List.replicate_zero, List.replicate_zero, List.append_nil, List.append_nil, List.take_of_length_le (by omega)] at hH
 generalize i = nt at *
 refine Qap rfl ?_
 refine VR [2, 4, 8, 9, 69, 70, 71] rfl rfl fun K hK => ?_;simp only [go_sem,↓reduceIte,reduceEqDiff]
 (refine hK _ _ ?_;clear hK)
 generalize hFull : Qf3 T P list 0 = Full at *
 refine Qad ?_
 refine Qam [2, 4, 8, 9, 69, 70, 71] (fun m e w' => ∃ (i : Nat) (X : List Bool) (a : Option Addr) (c : Nat), Is e [(2, .pointer (some ⟨gp, 0, none⟩)), (4, .pointer (some ⟨gr, 0, none⟩)), (8, .pointer (some ⟨gw, 0, none⟩)), (9, .slice (some ⟨gc, 0, none⟩) nt nt), (69, .slice (some ql) nl lc), (70, .int .i64 nl), (71, .int .i64 i)] /\ Heap w [] w' (Res.row 36 1 (some ⟨gc, 0, none⟩) nt nt (Qb4 us (T.map Qct)) :: wr gw a c X :: Res.blk gr 24 [.string ⟨#[]⟩, .int .i64 0] :: Res.blk gp 65 (Qau (some qt) nt tc (some qp) np pc) :: Qnl us (T.map Qct)) /\ X ++ Qf3 T P (list.drop i) i = Full /\ i <= nl /\ m = nl - i) nl ?_ ?_
 ·
  simp only [go_sem,↓reduceIte,reduceEqDiff]
  exact ⟨0, [], none, 0, rfl, hH, by simpa using hFull, by omega, rfl⟩
 clear hH
 rintro m e w7 ⟨i, X, a, c, rfl, hH, hX, hi, rfl⟩
 refine VR [2, 4, 8, 9, 69, 70, 71, 72] rfl rfl fun K hK => ?_;simp only [go_sem,↓reduceIte,reduceEqDiff]
 (refine hK _ _ ?_;clear hK)
 (repeat refine Qai ?_)
 refine Qab rfl rfl (fun h => ?_) (fun h => ?_)
 ·
  simp only [decide_eq_true_eq] at h
  have hcell := Qda (hH.rs' hr) (i := i) (by omega)
  have hx := hls _ (Qbs 0 (l := list) (i := i) (by omega))
  have hdp : list.drop i = list.getD i 0 :: list.drop (i + 1) := drop_getD 0 (by omega)
  rw [hdp, Qf3] at hX
  generalize list.getD i 0 = x at *
  have hgi : i / 50 < np := by unfold Qca at hlg;omega
  have hcp := Qda (hH.rs' hrP) (i := i / 50) (by omega)
  have hpx := m6 _ (Qbs 0 (l := P) (i := i / 50) (by omega))
  generalize P.getD (i / 50) 0 = k at *
  have hTk : T[k]? = some (T.getD k []) := by rw [List.getD_eq_getElem?_getD, List.getElem?_eq_getElem (by omega)];rfl
  obtain ⟨hh, hhk⟩ : ∃ hh, hs[k]? = some hh := ⟨_, List.getElem?_eq_getElem (by omega)⟩
  obtain ⟨uu, huk⟩ : ∃ uu, us[k]? = some uu := ⟨_, List.getElem?_eq_getElem (by omega)⟩
  have hck := (hH.rs' hrT).2.2 qt rfl k _ (Qcy hhk hTk)
  have hrt2 := hH.rs' (hrt k hh _ hhk hTk)
  obtain ⟨e1, e2, e3⟩ := m5 _ (List.mem_of_getElem? hTk)
  have hCk : (T.map Qct)[k]? = some (Qct (T.getD k [])) := by rw [List.getElem?_map, hTk];rfl
  have hcc := Qaa (hH.at 0 rfl) (Qcy huk hCk)
  have hrc := Qbo (hH.at (k + 4) (show _ = some (Res.row 3 1 uu.1 (Qct (T.getD k [])).length uu.2 (Qaq (Qct (T.getD k [])))) from Qsx huk hCk))
  rw [Qk7] at hcc hrc
  generalize T.getD k [] = t at *
  have hcode := Qmd e3 (i := x) (by omega)
  have hok := Qrn e3 (i := x) (by omega)
  obtain ⟨rt, hrt0⟩ := Qcx hrt2 (by omega)
  obtain ⟨rc, hrc0⟩ := Qcx hrc (by omega)
  rw [hrt0] at hrt2 hck
  rw [hrc0] at hrc hcc
  have hct := Qda hrt2 (i := x) (by omega)
  have hcx := Qda hrc (i := x) (by rw [Qk7];omega)
  have hcg : (Qct t).getD x 0 = Qew t x := by unfold Qct;rw [Qh2 _ _ _ _ (by omega)]
  rw [hcg] at hcx
  have hXl : X.length + 20 <= 100000000 := by
   have := congrArg List.length hX
   simp only [List.length_append] at this
   omega
  have hw : Ql6 t x = Qbh (t.getD x 0) (Qew t x) := rfl
  rw [hw] at hX
  have hp2 : 2 ^ (t.getD x 0) <= 2 ^ 20 := Nat.pow_le_pow_right (by omega) hok.2
  have hp3 : 2 ^ (t.getD x 0) <= 1048576 := hp2
  generalize t.getD x 0 = b at *
  generalize Qew t x = cx at *
  have c0 : w7.cell? ⟨gp, 0, none⟩ = some (.slice (some qt) nt tc) := Qac (hH.at 3 rfl) rfl
  have c1 : w7.cell? ⟨gp, 1, none⟩ = some (.slice (some qp) np pc) := Qac (hH.at 3 rfl) rfl
  refine Qaf ?_
  ((repeat refine Qai ?_);refine Qad ?_)
  refine VR [2, 4, 8, 9, 11, 12, 69, 70, 71] rfl rfl fun K hK => ?_;simp only [go_sem,↓reduceIte,reduceEqDiff]
  refine ⟨⟨by omega, by omega⟩, _, hcell, ?_⟩
  (refine hK _ _ ?_;clear hK)
  refine VR [2, 4, 8, 9, 12, 13, 69, 70, 71] rfl rfl fun K hK => ?_;simp only [go_sem,↓reduceIte,reduceEqDiff]
  refine ⟨_, c1, ?_⟩
  simp only [go_sem,↓reduceIte,reduceEqDiff]
  rw [show ((i : Int) / 50) = ((i / 50 : Nat) : Int) by omega]
  (repeat first | refine And.intro (by omega) ?_ | refine ⟨⟨by omega, by omega⟩, ?_⟩)
  refine ⟨_, hcp, ?_⟩
  (refine hK _ _ ?_;clear hK)
  (repeat refine Qai ?_);refine Qa8 [2, 4, 8, 9, 69, 70, 71] 17 (by kernel_rfl) (by kernel_rfl) (by kernel_rfl) rfl fun K hK => ?_;simp only [go_sem,↓reduceIte,reduceEqDiff]
  refine ⟨⟨by omega, by omega⟩, _, hcc, ?_⟩
  simp only [go_sem,↓reduceIte,reduceEqDiff]
  refine ⟨⟨by omega, by omega⟩, _, hcx, ?_⟩
  simp only [go_sem,↓reduceIte,reduceEqDiff]
  refine ⟨_, c0, ?_⟩
  simp only [go_sem,↓reduceIte,reduceEqDiff]
  refine ⟨⟨by omega, by omega⟩, _, hck, ?_⟩
  simp only [go_sem,↓reduceIte,reduceEqDiff]
  refine ⟨⟨by omega, by omega⟩, _, hct, ?_⟩
  rw [show ((cx : Int) % 18446744073709551616) = cx by omega]
  refine Qag Tryz.call36 ?_;simp only [go_sem,↓reduceIte,reduceEqDiff];refine CallK.mk (Qc4 gw a c X cx b w7 (by omega) hcode.2.2 (by omega) (hH.focus 1 rfl)) ?_
  rintro v w8 ⟨a2, c2, hHp, rfl⟩
  have hH2 := hH.call1 1 rfl hHp
  simp only [List.set_cons_zero, List.set_cons_succ, List.nil_append] at hH2
  clear hH hHp hcc hcx c0 c1 hck hct hcp hrc hrt2 hcell
  (refine hK _ _ ?_;clear hK)
  refine Qav ?_
  refine VR [2, 4, 8, 9, 69, 70, 71] rfl rfl fun K hK => ?_;simp only [go_sem,↓reduceIte,reduceEqDiff]
  ((repeat refine And.intro (by omega) ?_);refine hK _ _ ?_;clear hK)
  refine Qah ?_
  simp only [go_sem,↓reduceIte,reduceEqDiff]
  exact ⟨nl - (i + 1), by omega, i + 1, _, a2, c2, rfl, hH2, by rw [List.append_assoc];exact hX, by omega, rfl⟩
 simp only [decide_eq_false_iff_not] at h
 obtain rfl : i = nl := by omega
 rw [List.drop_of_length_le (by omega), Qf3, List.append_nil] at hX
 subst hX
 refine Qap rfl ?_
 refine VR [4, 5] rfl rfl fun K hK => ?_;simp only [go_sem,↓reduceIte,reduceEqDiff]
 refine Qag Tryz.call37 ?_;simp only [go_sem,↓reduceIte,reduceEqDiff];refine CallK.mk (Qg2 gw a c _ w7 (hH.at 1 rfl)) ?_
 rintro v w9 ⟨rfl, rfl⟩
 refine Qag Tryz.call38 ?_;simp only [go_sem,↓reduceIte,reduceEqDiff];refine CallK.mk (Qir gw a c _ w9 (hH.at 1 rfl)) ?_
 rintro v w10 ⟨rfl, rfl⟩
 simp only [go_sem,↓reduceIte,reduceEqDiff]
 refine Qae ?_
 simp only [go_sem,↓reduceIte,reduceEqDiff]
 refine Qal hH 2 (vs := Qbg X) rfl rfl (by kernel_rfl) (by simp [Qbg]) (Qdc _) fun w11 hH3 => ?_
 simp only [List.set_cons_zero, List.set_cons_succ] at hH3
 (refine hK _ _ ?_;clear hK)
 refine Qan (Qeg rfl rfl rfl (Qbu (hH3.at 2 rfl) (by kernel_rfl) (by kernel_rfl) rfl ?_))
 exact ⟨hH3.sub (by simp), rfl⟩
theorem Qw5 (l : List Nat) : ∀ (r : List Bool) (n code : Nat) (p : Nat × Nat), Qgc l r n code = .ok p -> p.2 <= n + r.length
 | [], n, code, p, h => by simp [Qgc] at h
 | b :: r, n, code, p, h => by
  rw [Qgc] at h
  split at h
  ·
   cases h;simp
  ·
   split at h
   ·
    have := Qw5 l r _ _ p h
    simp;omega
   ·
    cases h
theorem Qsy (l : List Nat) : ∀ (r : List Bool) (n code : Nat) (e : Int), Qgc l r n code = .error e -> e ≠ 0
 | [], n, code, e, h => by simp [Qgc] at h;omega
 | b :: r, n, code, e, h => by
  rw [Qgc] at h
  split at h
  ·
   cases h
  ·
   split at h
   ·
    exact Qsy l r _ _ e h
   ·
    cases h;omega
theorem QEh {l : List Nat} {bits : List Bool} {at_ : Nat} {q : Nat × Nat} (ha : at_ <= bits.length) (h : Qhy l bits at_ = .ok q) : q.2 <= bits.length := by
 unfold Qhy at h
 split at h
 ·
  rename_i p hp
  cases h
  have := Qw5 l _ _ _ _ hp
  simp at this;simp;omega
 ·
  cases h
theorem QBh {l : List Nat} {bits : List Bool} {at_ : Nat} {e : Int} (h : Qhy l bits at_ = .error e) : e ≠ 0 := by
 unfold Qhy at h
 split at h
 ·
  cases h
 ·
  rename_i e' he
  cases h
  exact Qsy l _ _ _ _ he
theorem Qw6 {l : List Nat} {bits : List Bool} {fin : Nat} : ∀ (n at_ : Nat) (q : List Nat × Nat), at_ <= bits.length -> Qed l bits fin n at_ = .ok q -> q.2 <= bits.length /\ q.1.length <= n /\ (0 < n -> 0 < q.1.length)
 | 0, at_, q, ha, h => by simp [Qed] at h;subst h;simp;exact ha
 | n + 1, at_, q, ha, h => by
  rw [Qed] at h
  split at h
  ·
   cases h
  ·
   rename_i p hp
   have h1 := QEh ha hp
   split at h
   ·
    cases h;simp;exact h1
   ·
    split at h
    ·
     cases h
    ·
     rename_i q' hq
     cases h
     have := Qw6 n p.2 q' h1 hq
     simp;omega
theorem Qsz {l : List Nat} {bits : List Bool} {fin : Nat} : ∀ (n at_ : Nat) (e : Int), Qed l bits fin n at_ = .error e -> e ≠ 0
 | 0, at_, e, h => by simp [Qed] at h
 | n + 1, at_, e, h => by
  rw [Qed] at h
  split at h
  ·
   rename_i e' he
   cases h
   exact QBh he
  ·
   split at h
   ·
    cases h
   ·
    split at h
    ·
     rename_i e' he
     cases h
     exact Qsz n _ _ he
    ·
     cases h
theorem Qly {l : List Nat} (h : 0 < l.length) (fin : Nat) : l.getLast? = some fin ↔ l.getD (l.length - 1) 0 = fin := by
 rw [List.getLast?_eq_getElem?, List.getD_eq_getElem?_getD, List.getElem?_eq_getElem (by omega)]
 simp
theorem Qs0 (v : Value) (T : List (List Nat)) (P : List Nat) (hm : mayP T P) (s : List UInt8) (at_ : Nat) (hat : at_ <= 8 * s.length) (hs : s.length <= 100000000000000) (w : World) (hp : PlanAt w v T P) :
  Does Tryz.prog 48 #[v, Str s, .int .i64 at_] w (QA9 (Qgn T (Qas s) ((T.getD 0 []).length - 1) P at_) w) := by
 have hp0 := hp
 obtain ⟨ta, tc, pa, pc, hs0, rfl, hsl, hrT, hrP, hrt⟩ := hp
 have hm0 := hm
 obtain ⟨m1, m2, m3, m4, m5, m6⟩ := hm
 have hbl := Qbe s
 have hT0 : T[0]? = some (T.getD 0 []) := by rw [List.getD_eq_getElem?_getD, List.getElem?_eq_getElem (by omega)];rfl
 have hn0 : 3 <= (T.getD 0 []).length /\ (T.getD 0 []).length <= 258 := by
  obtain ⟨e1, e2, e3⟩ := m5 _ (List.mem_of_getElem? hT0)
  exact ⟨e2, e3.2.1⟩
 obtain ⟨qt, rfl⟩ := Qcx hrT (by omega)
 obtain ⟨qp, rfl⟩ := Qcx hrP (by omega)
 obtain ⟨h0, hh0⟩ : ∃ h0, hs0[0]? = some h0 := ⟨_, List.getElem?_eq_getElem (by omega)⟩
 have hc0 := hrT.2.2 qt rfl 0 _ (Qcy hh0 hT0)
 have hen : #[Value.agg #[.slice (some qt) T.length tc, .slice (some qp) P.length pc], Str s, .int .i64 at_] = [Value.agg (Qau (some qt) T.length tc (some qp) P.length pc).toArray, Str s, .int .i64 at_].toArray := rfl
 rw [hen]
 refine Qak 72 Tryz.func48 rfl rfl (of_decide_eq_true rfl) ?_
 simp only [Env.ofArgs]
 generalize hn : (T.getD 0 []).length = n0 at *
 generalize hres : Qgn T (Qas s) (n0 - 1) P at_ = res
 generalize hnt : T.length = nt at *
 generalize hnp : P.length = np at *
 refine VR [1, 2, 3] rfl rfl fun K hK => ?_;simp only [go_sem,↓reduceIte,reduceEqDiff]
 refine Qcg ?_
 simp only [go_sem,↓reduceIte,reduceEqDiff]
 have hH := (Heap.start w).box 65 (Qau (some qt) nt tc (some qp) np pc)
 generalize w.alloc (Obj.cells (Qau (some qt) nt tc (some qp) np pc).toArray 65) = w1 at *
 generalize w.heap.size = gp at *
 (refine hK _ _ ?_;clear hK)
 refine VR [1, 2, 3, 18] rfl rfl fun K hK => ?_;simp only [go_sem,↓reduceIte,reduceEqDiff]
 refine ⟨Qau (some qt) nt tc (some qp) np pc, ⟨rfl, Qa1 (hH.at 0 rfl)⟩, ?_⟩
 refine Qag Tryz.call79 ?_;simp only [go_sem,↓reduceIte,reduceEqDiff];refine CallK.mk (Qig _ T P hm0 w1 (hp0.keep hH)) ?_
 rintro v w2 ⟨hHm, rfl⟩
 have hH2 := hH.call0 hHm
 simp only [List.nil_append] at hH2
 clear hH hHm
 simp only [go_sem,↓reduceIte,reduceEqDiff]
 (refine hK _ _ ?_;clear hK)
 refine Qab rfl rfl (fun h => by simp at h) (fun h => Qaf ?_)
 clear h
 refine VR [1, 2, 3, 27] rfl rfl fun K hK => ?_;simp only [go_sem,↓reduceIte,reduceEqDiff]
 suffices out : ∀ b : Bool, (b = true ↔ False) -> K [(1, Str s), (2, .int .i64 at_), (3, .pointer (some ⟨gp, 0, none⟩)), (27, .bool b)] w2 by (repeat' (first | exact out _ _ (by first | omega | (simp;done) | (simp;omega)) | exact out _ (by first | omega | (simp;done) | (simp;omega)) | refine ⟨fun _ => ?_, fun _ => ?_⟩ | refine And.intro (by omega) ?_))
 intro b hb
 (refine hK _ _ ?_;clear hK)
 refine Qab rfl rfl (fun h => (hb.1 h).elim) (fun h => Qaf ?_)
 clear hb h
 have c0 : w2.cell? ⟨gp, 0, none⟩ = some (.slice (some qt) nt tc) := Qac (hH2.at 0 rfl) rfl
 have c1 : w2.cell? ⟨gp, 1, none⟩ = some (.slice (some qp) np pc) := Qac (hH2.at 0 rfl) rfl
 have hc2 := (hH2.rs' hrT).2.2 qt rfl 0 _ (Qcy hh0 hT0)
 rw [hn] at hc2
 refine VR [1, 2, 3, 9] rfl rfl fun K hK => ?_;simp only [go_sem,↓reduceIte,reduceEqDiff]
 refine ⟨_, c0, ?_⟩
 simp only [go_sem,↓reduceIte,reduceEqDiff]
 refine ⟨by omega, _, hc2, ?_⟩
 simp only [go_sem,↓reduceIte,reduceEqDiff]
 (repeat first | refine And.intro (by omega) ?_ | refine ⟨⟨by omega, by omega⟩, ?_⟩)
 rw [show ((n0 : Int) - 1) = ((n0 - 1 : Nat) : Int) by omega]
 (refine hK _ _ ?_;clear hK)
 refine VR [1, 2, 3, 9, 10] rfl rfl fun K hK => ?_;simp only [go_sem,↓reduceIte,reduceEqDiff]
 (refine hK _ _ ?_;clear hK)
 refine VR [1, 2, 3, 9, 10, 35, 36, 37] rfl rfl fun K hK => ?_;simp only [go_sem,↓reduceIte,reduceEqDiff]
 refine ⟨_, c1, ?_⟩
 simp only [go_sem,↓reduceIte,reduceEqDiff]
 (refine hK _ _ ?_;clear hK)
 clear c0 c1 hc2 hc0
 generalize hfin : n0 - 1 = fin at *
 refine Qad ?_
 refine Qam [1, 2, 3, 9, 10, 35, 36, 37] (fun m e w' => ∃ (i at2 cap : Nat) (D : List Nat) (a : Option Addr), Is e [(1, Str s), (2, .int .i64 at2), (3, .pointer (some ⟨gp, 0, none⟩)), (9, .int .i64 fin), (10, .slice a D.length cap), (35, .slice (some qp) np pc), (36, .int .i64 np), (37, .int .i64 i)] /\ Heap w [] w' [Res.row 3 1 a D.length cap (Qaq D), Res.blk gp 65 (Qau (some qt) nt tc (some qp) np pc)] /\ at2 <= 8 * s.length /\ D.length <= 50 * i /\ (match Qgn T (Qas s) fin (P.drop i) at2 with | .error e => .error e | .ok x => .ok (D ++ x.1, x.2)) = res /\ i <= np /\ m = np - i) np ?_ ?_
 ·
  simp only [go_sem,↓reduceIte,reduceEqDiff]
  refine ⟨0, at_, 0, [], none, rfl, hH2.nilRow 3 1, hat, by simp, ?_, by omega, rfl⟩
  rw [<- hres, List.drop_zero]
  cases Qgn T (Qas s) fin P at_ <;> rfl
 clear hH2 hres
 rintro m e w3 ⟨i, at2, cap, D, a, rfl, hH, hat2, hDl, hres, hi, rfl⟩
 refine VR [1, 2, 3, 9, 10, 35, 36, 37, 38] rfl rfl fun K hK => ?_;simp only [go_sem,↓reduceIte,reduceEqDiff]
 (refine hK _ _ ?_;clear hK)
 (repeat refine Qai ?_)
 refine Qab rfl rfl (fun h => ?_) (fun h => ?_)
 ·
  simp only [decide_eq_true_eq] at h
  have hcp := Qda (hH.rs' hrP) (i := i) (by omega)
  have hpx := m6 _ (Qbs 0 (l := P) (i := i) (by omega))
  have hdp : P.drop i = P.getD i 0 :: P.drop (i + 1) := drop_getD 0 (by omega)
  rw [hdp, Qgn] at hres
  generalize P.getD i 0 = k at *
  have hTk : T[k]? = some (T.getD k []) := by rw [List.getD_eq_getElem?_getD, List.getElem?_eq_getElem (by omega)];rfl
  obtain ⟨hh, hhk⟩ : ∃ hh, hs0[k]? = some hh := ⟨_, List.getElem?_eq_getElem (by omega)⟩
  have hck := (hH.rs' hrT).2.2 qt rfl k _ (Qcy hhk hTk)
  have hrt2 := hH.rs' (hrt k hh _ hhk hTk)
  obtain ⟨e1, e2, e3⟩ := m5 _ (List.mem_of_getElem? hTk)
  generalize T.getD k [] = t at *
  have hal := QEf t e3 s at2 50 fin hat2 hs (by omega) (by omega) hh.1 hh.2 w3 hrt2
  have hag := fun q => Qw6 (l := t) (bits := Qas s) (fin := fin) 50 at2 q (by omega)
  have hae := fun e => Qsz (l := t) (bits := Qas s) (fin := fin) 50 at2 e
  generalize Qed t (Qas s) fin 50 at2 = r at *
  have c0 : w3.cell? ⟨gp, 0, none⟩ = some (.slice (some qt) nt tc) := Qac (hH.at 1 rfl) rfl
  refine Qaf ?_
  ((repeat refine Qai ?_);refine Qad ?_)
  refine VR [1, 2, 3, 9, 10, 12, 35, 36, 37] rfl rfl fun K hK => ?_;simp only [go_sem,↓reduceIte,reduceEqDiff]
  refine ⟨⟨by omega, by omega⟩, _, hcp, ?_⟩
  (refine hK _ _ ?_;clear hK)
  refine VR [1, 3, 9, 10, 13, 14, 15, 35, 36, 37] rfl rfl fun K hK => ?_;simp only [go_sem,↓reduceIte,reduceEqDiff]
  refine ⟨_, c0, ?_⟩
  simp only [go_sem,↓reduceIte,reduceEqDiff]
  refine ⟨⟨by omega, by omega⟩, _, hck, ?_⟩
  refine Qag Tryz.call104 ?_;simp only [go_sem,↓reduceIte,reduceEqDiff];refine CallK.mk hal ?_
  intro v w4 hEx
  cases r with
  | error e =>
   obtain ⟨hHe, rfl⟩ := hEx
   subst hres
   have hH2 := hH.call0 hHe
   simp only [List.nil_append] at hH2
   (refine hK _ _ ?_;clear hK)
   refine VR [1, 3, 9, 10, 13, 14, 15, 35, 36, 37, 55] rfl rfl fun K hK => ?_;simp only [go_sem,↓reduceIte,reduceEqDiff]
   (refine hK _ _ ?_;clear hK)
   refine Qab rfl rfl (fun h => ?_) (fun h => ?_)
   ·
    refine VR [6, 7, 8] rfl rfl fun K hK => ?_;simp only [go_sem,↓reduceIte,reduceEqDiff]
    (refine hK _ _ ?_;clear hK)
    exact Qan (Qdy rfl rfl rfl rfl ⟨hH2.sub (by simp), rfl⟩)
   ·
    simp at h;exact absurd h (hae e rfl)
  | ok q =>
   obtain ⟨aq, cq, hHq, rfl⟩ := hEx
   obtain ⟨q1, q2, q3⟩ := hag q rfl
   replace q3 := q3 (by omega)
   simp only at hres
   have hH2 := hH.call0 hHq
   simp only [List.singleton_append] at hH2
   obtain ⟨gq, rfl⟩ := Qfs (hH2.at 0 rfl) q3
   clear hH hHq
   (refine hK _ _ ?_;clear hK)
   refine VR [1, 3, 9, 10, 13, 14, 15, 35, 36, 37, 55] rfl rfl fun K hK => ?_;simp only [go_sem,↓reduceIte,reduceEqDiff]
   (refine hK _ _ ?_;clear hK)
   refine Qab rfl rfl (fun h => by simp at h) (fun h => Qaf ?_)
   clear h
   refine VR [1, 3, 9, 10, 13, 14, 35, 36, 37] rfl rfl fun K hK => ?_;simp only [go_sem,↓reduceIte,reduceEqDiff]
   refine Qa6 ?_
   simp only [go_sem,↓reduceIte,reduceEqDiff]
   refine Qd8 (zs := #[.int .i64 0]) (bytes := 8) hH2 1 rfl Tryz.underlying36 (by kernel_rfl) rfl ⟨rfl, Qbo (hH2.at 0 rfl), 3, Tryz.underlying36⟩ (Qf9 _) (fun h => by omega) fun a' cap' w5 hc' hH3 => ?_
   simp only [List.set_cons_succ, List.set_cons_zero] at hH3
   rw [<- Qer, <- List.length_append] at hH3
   rw [<- List.length_append]
   (refine hK _ _ ?_;clear hK)
   refine VR [1, 2, 3, 9, 10, 13, 35, 36, 37] rfl rfl fun K hK => ?_;simp only [go_sem,↓reduceIte,reduceEqDiff]
   (refine hK _ _ ?_;clear hK)
   have hce := Qaa (hH3.at 0 rfl) (Qb6 (l := q.1) (i := q.1.length - 1) (by omega))
   refine VR [1, 2, 3, 9, 10, 35, 36, 37, 68] rfl rfl fun K hK => ?_;simp only [go_sem,↓reduceIte,reduceEqDiff]
   (repeat first | refine And.intro (by omega) ?_ | refine ⟨⟨by omega, by omega⟩, ?_⟩)
   refine ⟨_, hce, ?_⟩
   simp only [go_sem,↓reduceIte,reduceEqDiff]
   (refine hK _ _ ?_;clear hK)
   clear hce
   refine Qab rfl rfl (fun h => ?_) (fun h => Qaf ?_)
   ·
    simp only [decide_eq_true_eq] at h
    rw [if_pos ((Qly q3 fin).2 (by omega))] at hres
    subst hres
    refine VR [6, 7, 8] rfl rfl fun K hK => ?_;simp only [go_sem,↓reduceIte,reduceEqDiff]
    (refine hK _ _ ?_;clear hK)
    exact Qan (Qdy rfl rfl rfl rfl ⟨a', cap', hH3.sub (by simp), rfl⟩)
   simp only [decide_eq_false_iff_not] at h
   rw [if_neg (fun e => h (by have := (Qly q3 fin).1 e;omega))] at hres
   refine Qav ?_
   refine VR [1, 2, 3, 9, 10, 35, 36, 37] rfl rfl fun K hK => ?_;simp only [go_sem,↓reduceIte,reduceEqDiff]
   ((repeat refine And.intro (by omega) ?_);refine hK _ _ ?_;clear hK)
   refine Qah ?_
   simp only [go_sem,↓reduceIte,reduceEqDiff]
   refine ⟨np - (i + 1), by omega, i + 1, q.2, cap', D ++ q.1, a', rfl, hH3.sub (List.sublist_cons_self _ _), by omega, by simp;omega, ?_, by omega, rfl⟩
   rw [<- hres]
   cases Qgn T (Qas s) fin (P.drop (i + 1)) q.2 with
   | error e => rfl
   | ok y => simp
 simp only [decide_eq_false_iff_not] at h
 obtain rfl : i = np := by omega
 rw [List.drop_of_length_le (by omega), Qgn] at hres
 subst hres
 refine Qap rfl ?_
 refine VR [6, 7, 8] rfl rfl fun K hK => ?_;simp only [go_sem,↓reduceIte,reduceEqDiff]
 (refine hK _ _ ?_;clear hK)
 exact Qan (Qdy rfl rfl rfl rfl ⟨hH.sub (by simp), rfl⟩)
open Go Go.Eng Go.Shelf Go.Sort
section
variable {α : Type} [Inhabited α] {enc : α -> List Value} {k : Nat}
theorem Qs1 (hk : ∀ x, (enc x).length = k) (d : Array α) (j : Nat) (hj : j < d.size * k) : (Qdd enc d.toList)[j]? = some (flatK enc k d)[j]! := by
 have hk0 : 0 < k := by
  rcases Nat.eq_zero_or_pos k with h | h
  ·
   subst h;simp at hj
  ·
   exact h
 have h1 : j / k < d.size := (Nat.div_lt_iff_lt_mul hk0).2 hj
 have h2 : j % k < k := Nat.mod_lt _ hk0
 have h3 : d.toList[j / k]? = some d[j / k]! := by
  rw [List.getElem?_eq_getElem (by simpa using h1), getElem!_pos d _ h1];simp
 have h4 : (enc d[j / k]!)[j % k]? = some (enc d[j / k]!)[j % k]! := by
  rw [List.getElem?_eq_getElem (by rw [hk];exact h2), getElem!_pos (enc d[j / k]!) (j % k) (by rw [hk];exact h2)]
 have h5 := Qsj hk d.toList (j / k) _ h3 (j % k) _ h4
 rw [Nat.mul_comm, Nat.div_add_mod] at h5
 rw [h5, get_flatK enc k d j hj]
theorem Qqj (hk : ∀ x, (enc x).length = k) {T g cap : Nat} {d : Array α} {w : World} (h : (Res.row T k (some ⟨g, 0, none⟩) d.size cap (Qdd enc d.toList)).holds w) : HoldsK enc k w g 0 d := by
 intro j hj
 rw [size_flatK] at hj
 have hc := Qaa h (Qs1 hk d j hj)
 refine ⟨by rw [Nat.zero_add];exact hc, ?_⟩
 obtain ⟨h1, h2, h3, h4⟩ := h
 rcases h4 with ⟨h5, _⟩ | ⟨g', rest, fz, h5, hg, hl, hf⟩
 ·
  cases h5
 ·
  cases h5
  have hn := Nat.mul_le_mul_right k h2
  have := hf j (by omega)
  obtain ⟨lo, hi⟩ := fz
  simp only [World.frozen?, hg, Nat.zero_add]
  simpa using this
theorem Qvi (hk : ∀ x, (enc x).length = k) {T g cap : Nat} {d d' : Array α} {w : World} (h : (Res.row T k (some ⟨g, 0, none⟩) d.size cap (Qdd enc d.toList)).holds w) (hs : d'.size = d.size) (n m : Nat) (os : Array Obj) :
  ∃ w1, sortWorldK enc k (w.drewN n) g 0 m d' os = (w1.drewN n).drewN m /\ Heap w [g] w1 [Res.row T k (some ⟨g, 0, none⟩) d'.size cap (Qdd enc d'.toList)] := by
 obtain ⟨h1, h2, h3, h4⟩ := h
 rcases h4 with ⟨h5, _⟩ | ⟨g', rest, fz, h5, hg, hl, hf⟩
 ·
  cases h5
 ·
  cases h5
  refine ⟨Sort.grow (putRowK enc k w g 0 d') os, rfl, ?_⟩
  have hlt : g < w.heap.size := (Array.getElem?_eq_some_iff.1 hg).1
  have hsz : (putRowK enc k w g 0 d').heap.size = w.heap.size := by simp [putRowK, Sort.putRow, Sort.mapBlock]
  have hne : ∀ i, i < w.heap.size -> i ≠ g -> (Sort.grow (putRowK enc k w g 0 d') os).heap[i]? = w.heap[i]? := fun i hi hi2 => by
   rw [Sort.heap_grow_old _ _ (by omega)]
   simp only [putRowK, Sort.putRow, Sort.mapBlock, Array.getElem?_modify]
   rw [if_neg (fun e => hi2 e.symm)]
  have hcs : (Qdd enc d'.toList).length = d'.size * k := by rw [Qsh hk];simp
  have hold : (Qdd enc d.toList).length = d.size * k := h1
  have hdk : d'.size * k = d.size * k := by rw [hs]
  have hat : (Sort.grow (putRowK enc k w g 0 d') os).heap[g]? = some (.cells (Qdd enc d'.toList ++ rest).toArray T fz) := by
   rw [Sort.heap_grow_old _ _ (by omega)]
   simp only [putRowK, Sort.putRow, Sort.mapBlock, Array.getElem?_modify, if_true, hg, Option.map_some, Sort.onCells]
   congr 2
   apply Array.ext_getElem?
   intro j
   simp only [Sort.putCells, Array.getElem?_mapIdx, List.getElem?_toArray, size_flatK, Nat.zero_le, true_and, Nat.zero_add, Nat.sub_zero, id]
   by_cases hj : j < d'.size * k
   ·
    have e1 := Qs1 hk d' j hj
    rw [List.getElem?_append_left (by omega), List.getElem?_append_left (by omega), e1]
    rw [List.getElem?_eq_getElem (by rw [hold, <- hs];exact hj), Option.map_some, if_pos hj]
   ·
    rw [List.getElem?_append_right (by omega), List.getElem?_append_right (by omega), hcs, hold, hs]
    cases rest[j - d.size * k]? with
    | none => rfl
    | some x => simp only [Option.map_some];rw [if_neg (by omega)]
  refine ⟨⟨rfl, rfl, rfl, by rw [Sort.grow];simp [hsz], fun i hi hi2 => hne i hi (by simpa using hi2)⟩, ?_, ?_, by simp⟩
  ·
   intro r hr
   rw [List.mem_singleton.1 hr]
   refine ⟨hcs, by omega, h3, .inr ⟨g, rest, fz, rfl, hat, ?_, hf⟩⟩
   rw [List.length_append] at hl ⊢
   rw [hcs, hs, <- hold];exact hl
  ·
   intro r hr b hb
   rw [List.mem_singleton.1 hr] at hb
   simp [Res.row] at hb
   subst hb
   exact ⟨.inl (by simp), by rw [Sort.grow];simp [hsz];omega⟩
end
open Go.Shelf
def Qs2 : Go.Shelf.Ren := ⟨fun | 6 => 164 | 15 => 159 | 14 => 191 | 28 => 185 | 29 => 186 | 20 => 201 | 21 => 202 | 22 => 203 | 23 => 204 | 24 => 205 | 25 => 206 | 26 => 207 | 27 => 208 | 46 => 211 | 47 => 197 | 48 => 198 | 49 => 212 | 50 => 213 | 57 => 214 | n => n, fun | 22 => 198 | 24 => 200 | 25 => 202 | 3 => 3 | 39 => 97 | 0 => 0 | 53 => 31 | 55 => 71 | 4 => 4 | 46 => 216 | 45 => 215 | 50 => 220 | 5 => 5 | 9 => 9 | 66 => 228 | 70 => 232 | 76 => 240 | 77 => 114 | n => n, fun | n => n⟩
theorem QEi : Go.Proofs.SlLaysF0.n6 Tryz.prog Qs2 := {
 mixed := by kernel_rfl
 f6 := ⟨Tryz.f164.name, by decide, Tryz.func164.trans (congrArg some (by kernel_rfl))⟩
 f14 := ⟨Tryz.f191.name, by decide, Tryz.func191.trans (congrArg some (by kernel_rfl))⟩
 f15 := Tryz.func159.trans (congrArg some (by kernel_rfl))
 f20 := ⟨Tryz.f201.name, by decide, Tryz.func201.trans (congrArg some (by kernel_rfl))⟩
 f21 := ⟨Tryz.f202.name, by decide, Tryz.func202.trans (congrArg some (by kernel_rfl))⟩
 f22 := ⟨Tryz.f203.name, by decide, Tryz.func203.trans (congrArg some (by kernel_rfl))⟩
 f23 := ⟨Tryz.f204.name, by decide, Tryz.func204.trans (congrArg some (by kernel_rfl))⟩
 f24 := ⟨Tryz.f205.name, by decide, Tryz.func205.trans (congrArg some (by kernel_rfl))⟩
 f25 := ⟨Tryz.f206.name, by decide, Tryz.func206.trans (congrArg some (by kernel_rfl))⟩
 f26 := ⟨Tryz.f207.name, by decide, Tryz.func207.trans (congrArg some (by kernel_rfl))⟩
 f27 := ⟨Tryz.f208.name, by decide, Tryz.func208.trans (congrArg some (by kernel_rfl))⟩
 f28 := Tryz.func185.trans (congrArg some (by kernel_rfl))
 f29 := Tryz.func186.trans (congrArg some (by kernel_rfl))
 f46 := ⟨Tryz.f211.name, by decide, Tryz.func211.trans (congrArg some (by kernel_rfl))⟩
 f47 := Tryz.func197.trans (congrArg some (by kernel_rfl))
 f48 := Tryz.func198.trans (congrArg some (by kernel_rfl))
 f49 := ⟨Tryz.f212.name, by decide, Tryz.func212.trans (congrArg some (by kernel_rfl))⟩
 f50 := ⟨Tryz.f213.name, by decide, Tryz.func213.trans (congrArg some (by kernel_rfl))⟩
 f57 := ⟨Tryz.f214.name, by decide, Tryz.func214.trans (congrArg some (by kernel_rfl))⟩
 t0 := Tryz.underlying0
 a0 := Tryz.isAgg0
 z0 := Tryz.sizeOf0
 v0 := Tryz.zeroValue0
 t3 := Tryz.underlying3
 a3 := Tryz.isAgg3
 z3 := Tryz.sizeOf3
 v3 := Tryz.zeroValue3
 t4 := Tryz.underlying4
 a4 := Tryz.isAgg4
 z4 := Tryz.sizeOf4
 v4 := Tryz.zeroValue4
 t5 := Tryz.underlying5
 a5 := Tryz.isAgg5
 z5 := Tryz.sizeOf5
 v5 := Tryz.zeroValue5
 t9 := Tryz.underlying9
 a9 := Tryz.isAgg9
 z9 := Tryz.sizeOf9
 v9 := Tryz.zeroValue9
 t22 := Tryz.underlying198
 a22 := Tryz.isAgg198
 z22 := Tryz.sizeOf198
 v22 := Tryz.zeroValue198
 t25 := Tryz.underlying202
 a25 := Tryz.isAgg202
 z25 := Tryz.sizeOf202
 v25 := Tryz.zeroValue202
 t39 := Tryz.underlying97
 a39 := Tryz.isAgg97
 z39 := Tryz.sizeOf97
 v39 := Tryz.zeroValue97
 t45 := Tryz.underlying215
 a45 := Tryz.isAgg215
 z45 := Tryz.sizeOf215
 v45 := Tryz.zeroValue215
 t46 := Tryz.underlying216
 a46 := Tryz.isAgg216
 z46 := Tryz.sizeOf216
 v46 := Tryz.zeroValue216
 t50 := Tryz.underlying220
 a50 := Tryz.isAgg220
 z50 := Tryz.sizeOf220
 v50 := Tryz.zeroValue220
 t53 := Tryz.underlying31
 a53 := Tryz.isAgg31
 z53 := Tryz.sizeOf31
 v53 := Tryz.zeroValue31
 t55 := Tryz.underlying71
 a55 := Tryz.isAgg71
 z55 := Tryz.sizeOf71
 v55 := Tryz.zeroValue71
 t66 := Tryz.underlying228
 a66 := Tryz.isAgg228
 z66 := Tryz.sizeOf228
 v66 := Tryz.zeroValue228
 t70 := Tryz.underlying232
 a70 := Tryz.isAgg232
 z70 := Tryz.sizeOf232
 v70 := Tryz.zeroValue232
 t76 := Tryz.underlying240
 a76 := Tryz.isAgg240
 z76 := Tryz.sizeOf240
 v76 := Tryz.zeroValue240
 t77 := Tryz.underlying114
 a77 := Tryz.isAgg114
 z77 := Tryz.sizeOf114
 v77 := Tryz.zeroValue114 }
open Go Go.Eng
theorem Qnm (a b : Tr) (ha : TrOk a) (hb : TrOk b) (w : World) : Does Tryz.prog 165 #[.agg (Qbb a).toArray, .agg (Qbb b).toArray] w fun v w' => v = .int .i64 (cmpT a b) /\ w' = (w.alloc (Obj.cells (Qbb a).toArray 200)).alloc (Obj.cells (Qbb b).toArray 200) := by
 obtain ⟨ha1, ha2, ha3⟩ := ha
 obtain ⟨hb1, hb2, hb3⟩ := hb
 refine Qak (args := [.agg (Qbb a).toArray, .agg (Qbb b).toArray]) 23 Tryz.func165 rfl rfl (of_decide_eq_true rfl) ?_
 simp only [Env.ofArgs]
 refine VR [2, 3] rfl rfl fun K hK => ?_;simp only [go_sem,↓reduceIte,reduceEqDiff]
 refine Qcg ?_
 simp only [go_sem,↓reduceIte,reduceEqDiff]
 have hH := (Heap.start w).box 200 (Qbb a)
 generalize w.alloc (Obj.cells (Qbb a).toArray 200) = w1 at *
 generalize w.heap.size = ga at *
 refine Qcg ?_
 simp only [go_sem,↓reduceIte,reduceEqDiff]
 have hH2 := hH.box 200 (Qbb b)
 generalize w1.alloc (Obj.cells (Qbb b).toArray 200) = w2 at *
 generalize w1.heap.size = gb at *
 clear hH
 (refine hK _ _ ?_;clear hK)
 refine VR [2, 3, 7] rfl rfl fun K hK => ?_;simp only [go_sem,↓reduceIte,reduceEqDiff]
 refine ⟨Qbb a, ⟨rfl, Qa1 (hH2.at 1 rfl)⟩, ?_⟩
 refine ⟨Qbb b, ⟨rfl, Qa1 (hH2.at 0 rfl)⟩, ?_⟩
 rw [Qvc]
 (refine hK _ _ ?_;clear hK)
 refine Qab rfl rfl (fun h => ?_) (fun h => Qaf ?_)
 ·
  simp only [decide_eq_true_eq] at h
  subst h
  refine VR [4] rfl rfl fun K hK => ?_;simp only [go_sem,↓reduceIte,reduceEqDiff]
  (refine hK _ _ ?_;clear hK)
  exact Qan (Qax rfl rfl ⟨by simp [cmpT], rfl⟩)
 clear h
 have c1 : w2.cell? ⟨ga, 0, none⟩ = some (.int .i64 a.1) := Qac (hH2.at 1 rfl) rfl
 have c2 : w2.cell? ⟨ga, 1, none⟩ = some (.int .i64 a.2) := Qac (hH2.at 1 rfl) rfl
 have c3 : w2.cell? ⟨gb, 0, none⟩ = some (.int .i64 b.1) := Qac (hH2.at 0 rfl) rfl
 have c4 : w2.cell? ⟨gb, 1, none⟩ = some (.int .i64 b.2) := Qac (hH2.at 0 rfl) rfl
 refine VR [2, 3, 12] rfl rfl fun K hK => ?_;simp only [go_sem,↓reduceIte,reduceEqDiff]
 refine ⟨_, c1, _, c3, ?_⟩
 simp only [go_sem,↓reduceIte,reduceEqDiff]
 (refine hK _ _ ?_;clear hK)
 refine Qab rfl rfl (fun h => ?_) (fun h => Qaf ?_)
 ·
  simp only [decide_eq_true_eq] at h
  refine VR [4] rfl rfl fun K hK => ?_;simp only [go_sem,↓reduceIte,reduceEqDiff]
  refine ⟨_, c1, _, c3, ?_⟩
  simp only [go_sem,↓reduceIte,reduceEqDiff]
  refine ⟨I64.mk (by omega) (by omega), ?_⟩
  (refine hK _ _ ?_;clear hK)
  exact Qan (Qax rfl rfl ⟨by rw [cmpT, if_neg h], rfl⟩)
 simp only [decide_eq_false_iff_not, Decidable.not_not] at h
 refine VR [4] rfl rfl fun K hK => ?_;simp only [go_sem,↓reduceIte,reduceEqDiff]
 refine ⟨_, c2, _, c4, ?_⟩
 simp only [go_sem,↓reduceIte,reduceEqDiff]
 refine ⟨I64.mk (by omega) (by omega), ?_⟩
 (refine hK _ _ ?_;clear hK)
 exact Qan (Qax rfl rfl ⟨by rw [cmpT, if_pos h], rfl⟩)
abbrev TrS := { t : Tr // TrOk t }
instance : Inhabited TrS := ⟨⟨(0, 0), by unfold TrOk;omega⟩⟩
def encS (x : TrS) : List Value := Qbb x.1
def cmpS (x y : TrS) : Int := cmpT x.1 y.1
theorem Qvj (x y : Tr) : cmpT x y < 0 ↔ (x.1 < y.1 ∨ (x.1 = y.1 /\ x.2 < y.2)) := by
 unfold cmpT
 split <;> omega
theorem swoT : Sort.SWO (Go.Proofs.ltOf cmpS) where
 irrefl x := by simp [Go.Proofs.ltOf, cmpS, cmpT]
 trans x y z h1 h2 := by
  simp only [Go.Proofs.ltOf, cmpS, decide_eq_true_eq, Qvj] at *
  omega
 ntrans x y z h1 h2 := by
  simp only [Go.Proofs.ltOf, cmpS, decide_eq_false_iff_not, Qvj] at *
  omega
theorem Qyp (T : List Tr) (hT : T.length <= 1000000) (hok : ∀ t ∈ T, TrOk t) (g cap : Nat) (w0 w : World) (B : List Nat) (G : List Res) (hL : Heap w0 B w (trow g cap T :: G)) :
  Does Tryz.prog 164 #[.slice (some ⟨g, 0, none⟩) T.length cap, Qsr] w fun v w' => ∃ T' : List Tr, T'.Perm T /\ (T'.Pairwise fun a b => ¬ cmpT b a < 0) /\ Heap w0 B w' (trow g cap T' :: G) := by
 intro n
 obtain ⟨d, hd⟩ : ∃ d : Array TrS, d.toList.map (·.1) = T := by
  refine ⟨(T.pmap (fun t h => (⟨t, h⟩ : TrS)) hok).toArray, ?_⟩
  rw [List.toList_toArray, List.map_pmap]
  simp
 have hdl : d.size = T.length := by rw [<- hd];simp
 have henc : ∀ d : Array TrS, Qdd encS d.toList = Qet (d.toList.map (·.1)) := fun d => by
  unfold Qet Qdd
  rw [List.flatMap_map]
  rfl
 have hrow : (Res.row 200 2 (some ⟨g, 0, none⟩) d.size cap (Qdd encS d.toList)).holds w := by
  rw [henc d, hd, hdl];exact hL.at 0 rfl
 have hlt : g < w.heap.size := (hL.foot (trow g cap T) (by simp) g (by simp [trow, Res.row])).2
 have hcmp : Go.Proofs.CmpLays Tryz.prog 165 #[] encS 2 cmpS g 0 d.size (w.drewN n) := by
  intro m os dk hdk x y
  rw [Array.append_empty]
  have h := Qnm x.1 y.1 x.2 y.2 (Go.Proofs.sortWorldK encS 2 (w.drewN n) g 0 m dk os) 0
  rw [QJm] at h
  refine Calls.mono h ?_
  rintro e w' ⟨v, w1, q, rfl, rfl, rfl, rfl⟩
  refine ⟨rfl, q, #[Obj.cells (Qbb x.1).toArray 200, Obj.cells (Qbb y.1).toArray 200], ?_⟩
  rw [Sort.alloc_eq_grow, Sort.alloc_eq_grow, Sort.grow_grow]
  rfl
 have hcon := AnyQ.slices_SortFunc QEi 2 Tryz.isAgg200 Tryz.sizeOf200 encS (fun _ => rfl) (fun x => Qdb x.1) cmpS swoT 165 #[] g 0 cap d (w.drewN n) Tryz.call165 hcmp (Qqj (enc := encS) (k := 2) (fun _ => rfl) hrow) hlt (by omega)
 change Calls Tryz.prog 164 _ _ _ at hcon
 rw [hdl] at hcon
 refine hcon.mono ?_
 rintro e w' ⟨rfl, d', m, os, ⟨hp1, hp2, hp3⟩, hs, rfl⟩
 obtain ⟨w1, e1, hH⟩ := Qvi (enc := encS) (k := 2) (fun _ => rfl) hrow hp1 n m os
 have e2 : (w1.drewN n).drewN m = w1.drewN (n + m) := by simp [World.drewN, Nat.add_assoc]
 have hH2 := hL.call1 0 rfl hH
 simp only [List.set_cons_zero, List.nil_append] at hH2
 have hlen : (d'.toList.map (·.1)).length = d'.size := by simp
 have e3 : Res.row 200 2 (some ⟨g, 0, none⟩) d'.size cap (Qdd encS d'.toList) = trow g cap (d'.toList.map (·.1)) := by
  rw [trow, hlen, <- henc d']
 rw [e3] at hH2
 have hfull : ∀ x : Array TrS, (x.extract 0 x.size).toList = x.toList := fun x => by simp
 refine ⟨_, w1, n + m, rfl, by rw [e1, e2], d'.toList.map (·.1), ?_, ?_, hH2⟩
 ·
  rw [<- hd]
  have h1 := hp3
  rw [<- hdl, hfull d, <- hp1, hfull d'] at h1
  exact h1.map _
 ·
  rw [List.pairwise_map, List.pairwise_iff_getElem]
  intro i j hi hj hij
  have h1 := hs i j (by omega) hij (by rw [<- hdl, <- hp1];simpa using hj)
  have h1 := of_decide_eq_false h1
  simp only [cmpS] at h1
  have hi' : i < d'.size := by simpa using hi
  have hj' : j < d'.size := by simpa using hj
  rw [getElem!_pos d' i hi', getElem!_pos d' j hj'] at h1
  simpa using h1
theorem QEj {n k : Nat} (hn : 2 <= n) (h1 : 2 ^ k <= n) (h2 : n < 2 ^ (k + 1)) : Qe0 n = k := (Nat.log2_eq_iff (by omega)).2 ⟨h1, h2⟩
def negT (l : List Nat) (i : Nat) : Tr := (-((max (l.getD i 0) 1 : Nat) : Int), i)
theorem QBi (l : List Nat) (hl : 2 <= l.length) (hl2 : l.length <= 258) (hx : ∀ x ∈ l, x <= 1073741824) (pa : Option Addr) (lc : Nat) (w : World) (hr : RS w pa l.length 1 (Qaq l)) :
  Does Tryz.prog 134 #[.slice pa l.length lc] w fun v w' => ∃ a cap, Heap w [] w' [Res.row 3 1 a (Qfd l).length cap (Qaq (Qfd l))] /\ v = .tuple #[.slice a (Qfd l).length cap, .int .i64 0] := by
 have hc1 := Qne l hl hl2 hx pa lc w hr
 obtain ⟨p, rfl⟩ := Qcx hr (by omega)
 have hget : ∀ i, i < l.length -> l.getD i 0 <= 1073741824 := fun i hi => hx _ (Qbs 0 hi)
 refine Qak (args := [.slice (some p) l.length lc]) 73 Tryz.func134 rfl rfl (of_decide_eq_true rfl) ?_
 simp only [Env.ofArgs]
 generalize hn : l.length = n at *
 refine VR [0] rfl rfl fun K hK => ?_;simp only [go_sem,↓reduceIte,reduceEqDiff]
 (refine hK _ _ ?_;clear hK)
 refine VR [0, 14] rfl rfl fun K hK => ?_;simp only [go_sem,↓reduceIte,reduceEqDiff]
 refine Qag Tryz.call160 ?_;simp only [go_sem,↓reduceIte,reduceEqDiff];refine CallK.mk hc1 ?_
 rintro v w2 ⟨rfl, rfl⟩
 simp only [go_sem,↓reduceIte,reduceEqDiff]
 (refine hK _ _ ?_;clear hK)
 refine Qab rfl rfl (fun h => by simp at h) (fun h => Qaf ?_)
 clear h hc1
 refine VR [0, 4, 5] rfl rfl fun K hK => ?_;simp only [go_sem,↓reduceIte,reduceEqDiff]
 (refine hK _ _ ?_;clear hK)
 ((repeat refine Qai ?_);refine Qad ?_)
 refine Qam [0, 4, 5] (fun m e w' => ∃ (k : Nat), Is e [(0, .slice (some p) n lc), (4, .int .i64 n), (5, .int .i64 k)] /\ Is w' w2 /\ 1 <= k /\ k <= 8 /\ 2 ^ k <= n /\ m = 9 - k) 8 ?_ ?_
 ·
  simp only [go_sem,↓reduceIte,reduceEqDiff]
  exact ⟨1, rfl, rfl, by omega, by omega, by omega, rfl⟩
 rintro m e w' ⟨k, rfl, rfl, hk1, hk8, hkn, rfl⟩
 have hp2 : 2 ^ (k + 1) <= 2 ^ 9 := Nat.pow_le_pow_right (by omega) (by omega)
 have hp3 : 2 ^ (k + 1) <= 512 := hp2
 have hsh : shN IntKind.i64 ((k : Int) + 1) = k + 1 := Qo8 (by omega) (by simp [IntKind.bits];omega)
 have hp : (1 : Int) * 2 ^ (k + 1) = ((2 ^ (k + 1) : Nat) : Int) := by push_cast;exact Int.one_mul _
 refine VR [0, 4, 5, 21] rfl rfl fun K hK => ?_;simp only [go_sem,↓reduceIte,reduceEqDiff]
 rw [hsh, hp]
 clear hp hp2 hsh
 generalize hP2 : 2 ^ (k + 1) = P2 at *
 refine ⟨I64.mk (by omega) (by omega), by omega, I64.mk (by omega) (by omega), ?_⟩
 (refine hK _ _ ?_;clear hK)
 refine Qab rfl rfl (fun h => ?_) (fun h => ?_)
 ·
  simp only [decide_eq_true_eq] at h
  have hk9 : k + 1 <= 8 := by
   rcases Nat.lt_or_ge 8 (k + 1) with h3 | h3
   ·
    have : 2 ^ 9 <= 2 ^ (k + 1) := Nat.pow_le_pow_right (by omega) (by omega)
    rw [hP2] at this
    have e : (2 : Nat) ^ 9 = 512 := by decide
    omega
   ·
    exact h3
  refine Qaf ?_
  refine Qad ?_
  refine VR [0, 4, 5] rfl rfl fun K hK => ?_;simp only [go_sem,↓reduceIte,reduceEqDiff]
  ((repeat refine And.intro (by omega) ?_);refine hK _ _ ?_;clear hK)
  refine Qav ?_
  refine Qah ?_
  simp only [go_sem,↓reduceIte,reduceEqDiff]
  exact ⟨9 - (k + 1), by omega, k + 1, rfl, rfl, by omega, hk9, by rw [hP2];omega, rfl⟩
 simp only [decide_eq_false_iff_not] at h
 have hK := QEj (n := n) (k := k) (by omega) hkn (by rw [hP2];omega)
 refine Qap rfl ?_
 refine VR [0, 4, 5, 6] rfl rfl fun K hK => ?_;simp only [go_sem,↓reduceIte,reduceEqDiff]
 refine Qyi (zs := [.int .i64 0, .int .i64 0]) (k := 2) (bytes := 16) Tryz.underlying198 (by kernel_rfl) rfl (by omega) ?_
 simp only [go_sem,↓reduceIte,reduceEqDiff]
 refine ⟨n, n, ⟨rfl, rfl, by omega, by omega, by omega⟩, ?_⟩
 have ez : ∀ c, (List.replicate c [Value.int .i64 0, Value.int .i64 0]).flatten = Qet (List.replicate c (0, 0)) := fun c => by
  induction c with
  | zero => rfl
  | succ c ih => rw [List.replicate_succ, List.flatten_cons, ih, List.replicate_succ];rfl
 have hH0 := (Heap.start w').row 200 (n := n) (cap := n) (sz := 2) (Qet (List.replicate n (0, 0))) [] (by rw [Qis];simp) (by rw [List.append_nil, Qis];simp) (by omega) (by omega)
 rw [List.append_nil, <- ez] at hH0
 generalize w'.alloc (Obj.cells (List.replicate n [Value.int IntKind.i64 0, Value.int IntKind.i64 0]).flatten.toArray 200) = w3 at *
 generalize w'.heap.size = go at *
 rw [ez] at hH0
 (refine hK _ _ ?_;clear hK)
 refine VR [4, 5, 6, 26, 27, 28] rfl rfl fun K hK => ?_;simp only [go_sem,↓reduceIte,reduceEqDiff]
 (refine hK _ _ ?_;clear hK)
 refine Qad ?_
 refine Qam [4, 5, 6, 26, 27, 28] (fun m e w1 => ∃ (i : Nat), Is e [(4, .int .i64 n), (5, .int .i64 k), (6, .slice (some ⟨go, 0, none⟩) n n), (26, .slice (some p) n lc), (27, .int .i64 n), (28, .int .i64 i)] /\ Heap w' [] w1 [Res.row 200 2 (some ⟨go, 0, none⟩) n n (Qet ((List.range i).map (negT l) ++ List.replicate (n - i) (0, 0)))] /\ i <= n /\ m = n - i) n ?_ ?_
 ·
  simp only [go_sem,↓reduceIte,reduceEqDiff]
  exact ⟨0, rfl, by simpa using hH0, by omega, rfl⟩
 clear hH0
 rintro m e w4 ⟨i, rfl, hH, hi, rfl⟩
 refine VR [4, 5, 6, 26, 27, 28, 29] rfl rfl fun K hK => ?_;simp only [go_sem,↓reduceIte,reduceEqDiff]
 (refine hK _ _ ?_;clear hK)
 (repeat refine Qai ?_)
 refine Qab rfl rfl (fun h => ?_) (fun h => ?_)
 ·
  simp only [decide_eq_true_eq] at h
  have hcell := Qda (hH.rs' hr) (i := i) (by omega)
  have hgi := hget i (by omega)
  have hsn : (List.range (i + 1)).map (negT l) = (List.range i).map (negT l) ++ [negT l i] := by rw [List.range_succ, List.map_append];rfl
  have hml : ((List.range i).map (negT l)).length = i := by simp
  have hnt : negT l i = (-((max (l.getD i 0) 1 : Nat) : Int), i) := rfl
  generalize (List.range i).map (negT l) = L at *
  generalize l.getD i 0 = x at *
  generalize negT l i = y at *
  have hset : (L ++ List.replicate (n - i) (0, 0)).set i y = (L ++ [y]) ++ List.replicate (n - (i + 1)) (0, 0) := by
   obtain ⟨q, hq⟩ : ∃ q, n - i = q + 1 := ⟨n - i - 1, by omega⟩
   rw [hq, List.replicate_succ, List.set_append_right _ _ (by omega), hml, Nat.sub_self, List.set_cons_zero, List.append_assoc, show n - (i + 1) = q by omega]
   rfl
  have hlen : (L ++ List.replicate (n - i) ((0 : Int), (0 : Nat))).length = n := by simp;omega
  refine Qaf ?_
  ((repeat refine Qai ?_);refine Qad ?_)
  refine VR [4, 5, 6, 7, 8, 26, 27, 28] rfl rfl fun K hK => ?_;simp only [go_sem,↓reduceIte,reduceEqDiff]
  refine ⟨⟨by omega, by omega⟩, _, hcell, ?_⟩
  (refine hK _ _ ?_;clear hK)
  refine VR [4, 5, 6, 26, 27, 28] rfl rfl fun K hK => ?_;simp only [go_sem,↓reduceIte,reduceEqDiff]
  refine ⟨I64.mk (by omega) (by omega), ⟨by omega, by omega⟩, ?_⟩
  rw [show -(max ((x : Nat) : Int) 1) = y.1 by rw [hnt];simp only;omega, show ((i : Nat) : Int) = (y.2 : Int) by rw [hnt]]
  refine Qae ?_
  simp only [go_sem,↓reduceIte,reduceEqDiff]
  refine Qbd hH 0 (o := i * 2) (vs := Qbb y) rfl (by first | exact (Qbp _ _ _).symm | rw [Qbp, Nat.zero_add] | (rw [Qbp];simp;omega)) rfl (by kernel_rfl) (by rw [Qis, hlen];simp [Qbb];omega) (Qdb y) fun w6 hH6 => ?_
  have e6 := Qsk Qe5 (L ++ List.replicate (n - i) (0, 0)) i y (by omega)
  rw [hset] at e6
  have hH7 : Heap w' [] w6 [Res.row 200 2 (some ⟨go, 0, none⟩) n n (Qet ((L ++ [y]) ++ List.replicate (n - (i + 1)) (0, 0)))] := by
   rw [show Qet ((L ++ [y]) ++ List.replicate (n - (i + 1)) (0, 0)) = Qdd Qbb ((L ++ [y]) ++ List.replicate (n - (i + 1)) (0, 0)) from rfl, <- e6]
   exact hH6
  clear hH6 e6 hH hcell
  have hi2 : ((y.2 : Nat) : Int) = i := by rw [hnt]
  (refine hK _ _ ?_;clear hK)
  rw [hi2]
  refine Qav ?_
  refine VR [4, 5, 6, 26, 27, 28] rfl rfl fun K hK => ?_;simp only [go_sem,↓reduceIte,reduceEqDiff]
  ((repeat refine And.intro (by omega) ?_);refine hK _ _ ?_;clear hK)
  refine Qah ?_
  simp only [go_sem,↓reduceIte,reduceEqDiff]
  exact ⟨n - (i + 1), by omega, i + 1, rfl, by rw [hsn];exact hH7, by omega, rfl⟩
 simp only [decide_eq_false_iff_not] at h
 obtain rfl : i = n := by omega
 rw [Nat.sub_self, List.replicate_zero, List.append_nil] at hH
 have hTl : ((List.range i).map (negT l)).length = i := by simp
 have hTok : ∀ t ∈ (List.range i).map (negT l), TrOk t := fun t ht => by
  obtain ⟨j, hj, rfl⟩ := List.mem_map.1 ht
  have hj : j < i := by simpa using hj
  have := hget j hj
  unfold TrOk negT
  simp only
  omega
 have hH1 : Heap w' [] w4 [trow go i ((List.range i).map (negT l))] := by
  unfold trow
  rw [hTl];exact hH
 clear hH
 refine Qap rfl ?_
 have hcs := Qyp _ (by omega) hTok go i w' w4 [] [] hH1
 rw [hTl] at hcs
 refine VR [4, 5, 6] rfl rfl fun K hK => ?_;simp only [go_sem,↓reduceIte,reduceEqDiff]
 refine Qag Tryz.call164 ?_;simp only [go_sem,↓reduceIte,reduceEqDiff];refine CallK.mk hcs ?_
 rintro v w5 ⟨T, hTp, hTs, hH2⟩
 have hTlen : T.length = i := by rw [hTp.length_eq, hTl]
 have hTmem : ∀ t ∈ T, t = negT l t.2 /\ t.2 < i := fun t ht => by
  obtain ⟨j, hj, rfl⟩ := List.mem_map.1 (hTp.mem_iff.1 ht)
  exact ⟨rfl, by simpa [negT] using hj⟩
 have hσp : (T.map (·.2)).Perm (List.range l.length) := by
  have := hTp.map (·.2)
  rw [List.map_map] at this
  rw [hn]
  refine this.trans ?_
  have e : ((List.range i).map ((fun t : Tr => t.2) ∘ negT l)) = List.range i := by
   conv => rhs;rw [<- List.map_id (List.range i)]
   exact List.map_congr_left fun j _ => rfl
  rw [e]
 have hσs : (T.map (·.2)).Pairwise fun a b => Qez l a b = true := by
  have hnd : (T.map (·.2)).Nodup := hσp.nodup_iff.2 List.nodup_range
  rw [List.pairwise_map]
  have h2 := hTs.and (List.pairwise_map.1 hnd)
  have h3 : T.Pairwise fun a b => (a = negT l a.2) /\ (b = negT l b.2) := List.pairwise_iff_getElem.2 fun i j hi hj _ => ⟨(hTmem _ (List.getElem_mem hi)).1, (hTmem _ (List.getElem_mem hj)).1⟩
  refine (h2.and h3).imp ?_
  rintro a b ⟨⟨h4, h5⟩, h6, h7⟩
  rw [Qvj] at h4
  have e1 : a.1 = -((max (l.getD a.2 0) 1 : Nat) : Int) := congrArg Prod.fst h6
  have e2 : b.1 = -((max (l.getD b.2 0) 1 : Nat) : Int) := congrArg Prod.fst h7
  rw [Qfz]
  omega
 have hfr : ∀ q t, T[q]? = some t -> Qor l t.2 = q := fun q t ht => by
  obtain ⟨hq, e⟩ := List.getElem?_eq_some_iff.1 ht
  have := Qmv hσp hσs (p := q) (by simpa using hq)
  rw [List.getElem_map, e] at this
  exact this
 clear hcs hH1 hTs hTok hTl
 (refine hK _ _ ?_;clear hK)
 refine VR [4, 5, 6, 9] rfl rfl fun K hK => ?_;simp only [go_sem,↓reduceIte,reduceEqDiff]
 refine Qbw Tryz.underlying36 zi3 ?_
 simp only [go_sem,↓reduceIte,reduceEqDiff]
 refine ⟨i, i, ⟨rfl, rfl, by omega, by omega, by omega⟩, ?_⟩
 have hH3 := hH2.row 3 (n := i) (cap := i) (sz := 1) (Qaq (List.replicate i 0)) [] (by simp [Qar]) (by simp [Qar]) (by omega) (by omega)
 rw [List.append_nil, Qcr] at hH3
 generalize w5.alloc (Obj.cells (List.replicate i (Value.int IntKind.i64 0)).toArray 3) = w6 at *
 generalize w5.heap.size = gu at *
 rw [<- Qcr] at hH3
 clear hH2
 (refine hK _ _ ?_;clear hK)
 refine VR [4, 5, 9, 46, 47, 48] rfl rfl fun K hK => ?_;simp only [go_sem,↓reduceIte,reduceEqDiff]
 (refine hK _ _ ?_;clear hK)
 refine Qad ?_
 refine Qam [4, 5, 9, 46, 47, 48] (fun m e w1 => ∃ (q : Nat) (O : List Nat), Is e [(4, .int .i64 i), (5, .int .i64 k), (9, .slice (some ⟨gu, 0, none⟩) i i), (46, .slice (some ⟨go, 0, none⟩) i i), (47, .int .i64 i), (48, .int .i64 q)] /\ Heap w' [] w1 [Res.row 3 1 (some ⟨gu, 0, none⟩) i i (Qaq O), trow go i T] /\ O.length = i /\ (∀ j t, j < q -> T[j]? = some t -> O.getD t.2 0 = Ql5 i j) /\ q <= i /\ m = i - q) i ?_ ?_
 ·
  simp only [go_sem,↓reduceIte,reduceEqDiff]
  exact ⟨0, _, rfl, hH3, by simp, fun j t hj _ => by omega, by omega, rfl⟩
 clear hH3
 rintro m e w7 ⟨q, O, rfl, hH, hOl, hO, hq, rfl⟩
 refine VR [4, 5, 9, 46, 47, 48, 49] rfl rfl fun K hK => ?_;simp only [go_sem,↓reduceIte,reduceEqDiff]
 (refine hK _ _ ?_;clear hK)
 (repeat refine Qai ?_)
 refine Qab rfl rfl (fun h => ?_) (fun h => ?_)
 ·
  simp only [decide_eq_true_eq] at h
  have hqT : T[q]? = some T[q] := List.getElem?_eq_getElem (by omega)
  have htm := hTmem T[q] (List.getElem_mem _)
  have hfq := hfr q _ hqT
  have hrd := Qhc Qe5 (Qbo (hH.at 1 rfl)) rfl hqT
  rw [Qbp, Nat.zero_add] at hrd
  have hfl : Ql5 i q = if P2 - i <= q then k + 1 else k := by rw [Ql5, hK, hP2]
  generalize T[q] = t at *
  refine Qaf ?_
  ((repeat refine Qai ?_);refine Qad ?_)
  refine VR [4, 5, 9, 10, 11, 46, 47, 48] rfl rfl fun K hK => ?_;simp only [go_sem,↓reduceIte,reduceEqDiff]
  refine ⟨⟨by omega, by omega⟩, Qbb t, ⟨rfl, hrd⟩, ?_⟩
  refine Qat (.agg #[.int .i64 0, .int .i64 0]) (by kernel_rfl) ?_
  simp only [go_sem,↓reduceIte,reduceEqDiff]
  have hH4 := hH.box 200 [.int .i64 0, .int .i64 0]
  generalize w7.alloc (Obj.cells [Value.int .i64 0, .int .i64 0].toArray 200) = w8 at *
  generalize w7.heap.size = gt at *
  refine Qae ?_
  simp only [go_sem,↓reduceIte,reduceEqDiff]
  refine Qal hH4 0 (vs := Qbb t) rfl rfl (by kernel_rfl) (by simp [Qbb]) (Qdb _) fun w9 hH5 => ?_
  have hH5 : Heap w' [] w9 [Res.blk gt 200 (Qbb t), Res.row 3 1 (some ⟨gu, 0, none⟩) i i (Qaq O), trow go i T] := hH5
  (refine hK _ _ ?_;clear hK)
  clear hH hH4 hrd
  have ct : (Qbb t)[1]? = some (.int .i64 (t.2 : Nat)) := rfl
  have hO2 : ∀ x, ∀ j t', j < q + 1 -> T[j]? = some t' -> (O.set t.2 x).getD t'.2 0 = if j = q then x else Ql5 i j := fun x j t' hj ht' => by
   have h8 := hfr j t' ht'
   by_cases e : j = q
   ·
    subst e
    have e2 : t' = t := by rw [hqT] at ht';exact (Option.some.inj ht').symm
    rw [if_pos rfl, e2, Qcv (by omega)]
   ·
    rw [if_neg e, Qcn (fun e2 => e (by rw [<- h8, <- e2, hfq])), hO j t' (by omega) ht']
  refine VR [4, 5, 9, 10, 11, 46, 47, 48] rfl rfl fun K hK => ?_;simp only [go_sem,↓reduceIte,reduceEqDiff]
  refine ⟨_, Qac (hH5.at 0 rfl) ct, ?_⟩
  simp only [go_sem,↓reduceIte,reduceEqDiff]
  refine ⟨⟨by omega, by omega⟩, ?_⟩
  refine Qae ?_;simp only [go_sem,↓reduceIte,reduceEqDiff];refine Qbd hH5 1 (o := (t.2)) (vs := [.int .i64 (k : Nat)]) rfl (by first | exact (Qbp _ _ _).symm | rfl | simp [Qbp]) rfl (by kernel_rfl) (by first | omega | (simp;omega) | (simp [Qao, Qbm];omega) | (rw [Qar];simp;omega)) (by simp [Value.oneCell']) fun w6 hH6 => ?_;(try simp only [go_sem,↓reduceIte,reduceEqDiff])
  simp only [List.length_singleton, Qb1 (Qaq O) _ _ (show t.2 < (Qaq O).length by rw [Qar, hOl];omega), Qce, List.set_cons_zero, List.set_cons_succ] at hH6
  (refine hK _ _ ?_;clear hK)
  refine VR [4, 5, 9, 11, 46, 47, 48, 64] rfl rfl fun K hK => ?_;simp only [go_sem,↓reduceIte,reduceEqDiff]
  rw [Qo8 (i := (k : Int) + 1) (n := k + 1) (by omega) (by simp [IntKind.bits];omega), show (1 : Int) * 2 ^ (k + 1) = ((2 ^ (k + 1) : Nat) : Int) by push_cast;exact Int.one_mul _, hP2]
  (repeat first | refine And.intro (by omega) ?_ | refine ⟨⟨by omega, by omega⟩, ?_⟩)
  (refine hK _ _ ?_;clear hK)
  refine Qab rfl rfl (fun h => ?_) (fun h => Qaf ?_)
  ·
   simp only [decide_eq_true_eq] at h
   rw [if_pos (by omega)] at hfl
   refine VR [4, 5, 9, 46, 47, 48] rfl rfl fun K hK => ?_;simp only [go_sem,↓reduceIte,reduceEqDiff]
   refine ⟨_, Qac (hH6.at 0 rfl) ct, ?_⟩
   simp only [go_sem,↓reduceIte,reduceEqDiff]
   refine ⟨I64.mk (by omega) (by omega), ⟨by omega, by omega⟩, ?_⟩
   refine Qae ?_;simp only [go_sem,↓reduceIte,reduceEqDiff];refine Qbd hH6 1 (o := (t.2)) (vs := [.int .i64 (k + 1 : Nat)]) rfl (by first | exact (Qbp _ _ _).symm | rfl | simp [Qbp]) rfl (by kernel_rfl) (by first | omega | (simp;omega) | (simp [Qao, Qbm];omega) | (rw [Qar];simp;omega)) (by simp [Value.oneCell']) fun w6 hH7 => ?_;(try simp only [go_sem,↓reduceIte,reduceEqDiff])
   simp only [List.length_singleton, Qb1 (Qaq (O.set t.2 k)) _ _ (show t.2 < (Qaq (O.set t.2 k)).length by rw [Qar, List.length_set, hOl];omega), Qce, List.set_cons_zero, List.set_cons_succ, List.set_set] at hH7
   (refine hK _ _ ?_;clear hK)
   refine Qav ?_
   refine VR [4, 5, 9, 46, 47, 48] rfl rfl fun K hK => ?_;simp only [go_sem,↓reduceIte,reduceEqDiff]
   ((repeat refine And.intro (by omega) ?_);refine hK _ _ ?_;clear hK)
   refine Qah ?_
   simp only [go_sem,↓reduceIte,reduceEqDiff]
   refine ⟨i - (q + 1), by omega, q + 1, _, rfl, hH7.sub (List.sublist_cons_self _ _), by simp [hOl], fun j t' hj ht' => ?_, by omega, rfl⟩
   rw [hO2 (k + 1) j t' hj ht']
   split
   ·
    rename_i e;rw [e, hfl]
   ·
    rfl
  ·
   simp only [decide_eq_false_iff_not] at h
   rw [if_neg (by omega)] at hfl
   refine Qav ?_
   refine VR [4, 5, 9, 46, 47, 48] rfl rfl fun K hK => ?_;simp only [go_sem,↓reduceIte,reduceEqDiff]
   ((repeat refine And.intro (by omega) ?_);refine hK _ _ ?_;clear hK)
   refine Qah ?_
   simp only [go_sem,↓reduceIte,reduceEqDiff]
   refine ⟨i - (q + 1), by omega, q + 1, _, rfl, hH6.sub (List.sublist_cons_self _ _), by simp [hOl], fun j t' hj ht' => ?_, by omega, rfl⟩
   rw [hO2 k j t' hj ht']
   split
   ·
    rename_i e;rw [e, hfl]
   ·
    rfl
 ·
  simp only [decide_eq_false_iff_not] at h
  obtain rfl : q = i := by omega
  have hfin : O = Qfd l := by
   apply List.ext_getElem
   ·
    rw [hOl, Qfd, List.length_map, List.length_range, hn]
   ·
    intro j h1 h2
    have hj : j < l.length := by omega
    have hm : j ∈ T.map (·.2) := hσp.mem_iff.2 (by simpa using hj)
    obtain ⟨t, ht, e⟩ := List.mem_map.1 hm
    obtain ⟨p', hp', e2⟩ := List.getElem_of_mem ht
    have h3 : T[p']? = some t := by rw [List.getElem?_eq_getElem hp', e2]
    have h4 := hO p' t (by omega) h3
    have h5 := hfr p' t h3
    simp only [Qfd, List.getElem_map, List.getElem_range]
    have e5 : O.getD j 0 = Ql5 l.length (Qor l j) := by
     have e' : t.2 = j := e
     rw [hn, <- e', h5];exact h4
    rw [<- e5, List.getD_eq_getElem?_getD, List.getElem?_eq_getElem h1];rfl
  have hfl2 : (Qfd l).length = q := by rw [<- hfin];exact hOl
  refine Qap rfl ?_
  refine VR [2, 3] rfl rfl fun K hK => ?_;simp only [go_sem,↓reduceIte,reduceEqDiff]
  (refine hK _ _ ?_;clear hK)
  refine Qan (Qa9 rfl rfl rfl ⟨some ⟨gu, 0, none⟩, q, ?_, by rw [hfl2]⟩)
  rw [hfl2, <- hfin]
  exact hH.sub (by simp)
theorem Qnn {w : World} {v : Value} {T : List (List Nat)} {P : List Nat} {ta pa : Option Addr} {nt tc np pc : Nat} {hs : List (Option Addr × Nat)} (hv : v = .agg (Qau ta nt tc pa np pc).toArray) (hnt : T.length = nt) (hnp : P.length = np) (hl : hs.length = nt) (h1 : RS w ta nt 1 (Qb4 hs T)) (h2 : RS w pa np 1 (Qaq P))
  (h3 : ∀ (i : Nat) (h : Option Addr × Nat) (t : List Nat), hs[i]? = some h -> T[i]? = some t -> RS w h.1 t.length 1 (Qaq t)) : PlanAt w v T P := by
 subst hnt hnp
 exact ⟨ta, tc, pa, pc, hs, hv, hl, h1, h2, h3⟩
theorem Qb7 (ta : Option Addr) (nt tc : Nat) (pa : Option Addr) (np pc : Nat) : ∀ u ∈ Qau ta nt tc pa np pc, u.oneCell' = true := by
 intro u hu
 simp [Qau] at hu
 rcases hu with rfl | rfl <;> rfl
theorem Qyq (l : List Nat) (x n : Nat) (hx : x < n) : (List.range n).map (fun s => (l ++ [x]).count s) = ((List.range n).map fun s => l.count s).set x (l.count x + 1) := by
 apply List.ext_getElem?
 intro j
 rw [List.getElem?_map, List.getElem?_set, List.getElem?_map, List.length_map, List.length_range]
 by_cases e : x = j
 ·
  subst e
  rw [if_pos rfl, if_pos hx, List.getElem?_range hx]
  simp [List.count_append]
 ·
  rw [if_neg e]
  by_cases hj : j < n
  ·
   rw [List.getElem?_range hj]
   simp [List.count_append, List.count_singleton, e]
  ·
   rw [List.getElem?_eq_none (by simpa using hj)];rfl
theorem Qyr (l : List Nat) (n : Nat) : ((List.range n).map fun s => l.count s).length = n := by simp
theorem Qys (n : Nat) : (List.range n).map (fun s => ([] : List Nat).count s) = List.replicate n 0 := by
 apply List.ext_getElem?
 intro j
 rw [List.getElem?_map, List.getElem?_replicate]
 by_cases hj : j < n
 ·
  rw [List.getElem?_range hj, if_pos hj];rfl
 ·
  rw [List.getElem?_eq_none (by simpa using hj), if_neg hj];rfl
def QIw (G : List Res) (v : Value) (T : List (List Nat)) (P : List Nat) : Prop := ∀ w : World, (∀ r ∈ G, r.holds w) -> PlanAt w v T P
theorem Qqk (list : List Nat) (n : Nat) (hm : Qf4 list n) (a : Option Addr) (lc : Nat) (w : World) (hr : RS w a list.length 1 (Qaq list)) :
  Does Tryz.prog 77 #[.slice a list.length lc, .int .i64 n] w fun x w' => ∃ v G, Heap w [] w' G /\ QIw G v (Qb8 list n).1 (Qb8 list n).2 /\ x = .tuple #[v, .int .i64 0] := by
 have hml := Qlu list n hm a lc
 have hfl := Qud hm
 have hfq : Qfl list n = (List.range n).map fun s => list.count s := rfl
 obtain ⟨h1, h2, h3, h4, h5⟩ := hm
 have hg1 := (Qgw h3 h4)
 obtain ⟨p, rfl⟩ := Qcx hr (by omega)
 refine Qak (args := [.slice (some p) list.length lc, .int .i64 n]) 51 Tryz.func77 rfl rfl (of_decide_eq_true rfl) ?_
 simp only [Env.ofArgs]
 generalize hnl : list.length = nl at *
 refine VR [0, 1, 4] rfl rfl fun K hK => ?_;simp only [go_sem,↓reduceIte,reduceEqDiff]
 refine Qat (.agg #[.slice none 0 0, .slice none 0 0]) (by kernel_rfl) ?_
 simp only [go_sem,↓reduceIte,reduceEqDiff]
 have hH := (Heap.start w).box 65 (Qau none 0 0 none 0 0)
 have hpl : [Value.slice none 0 0, Value.slice none 0 0] = Qau none 0 0 none 0 0 := rfl
 rw [hpl]
 generalize w.alloc (Obj.cells (Qau none 0 0 none 0 0).toArray 65) = w1 at *
 generalize w.heap.size = gr at *
 (refine hK _ _ ?_;clear hK)
 refine VR [0, 1, 4, 16] rfl rfl fun K hK => ?_;simp only [go_sem,↓reduceIte,reduceEqDiff]
 refine Qag Tryz.call129 ?_;simp only [go_sem,↓reduceIte,reduceEqDiff];refine CallK.mk (hml w1 (hH.rs' hr)) ?_
 rintro v w2 ⟨rfl, rfl⟩
 simp only [go_sem,↓reduceIte,reduceEqDiff]
 (refine hK _ _ ?_;clear hK)
 refine Qab rfl rfl (fun h => by simp at h) (fun h => Qaf ?_)
 clear h
 refine VR [0, 4, 6] rfl rfl fun K hK => ?_;simp only [go_sem,↓reduceIte,reduceEqDiff]
 refine Qbw Tryz.underlying36 zi3 ?_
 simp only [go_sem,↓reduceIte,reduceEqDiff]
 refine ⟨n, n, ⟨rfl, rfl, by omega, by omega, by omega⟩, ?_⟩
 have hH2 := hH.row 3 (n := n) (cap := n) (sz := 1) (Qaq (List.replicate n 0)) [] (by simp [Qar]) (by simp [Qar]) (by omega) (by omega)
 rw [List.append_nil, Qcr] at hH2
 generalize w2.alloc (Obj.cells (List.replicate n (Value.int IntKind.i64 0)).toArray 3) = w3 at *
 generalize w2.heap.size = gu at *
 rw [<- Qcr] at hH2
 clear hH
 (refine hK _ _ ?_;clear hK)
 refine VR [0, 4, 6, 20, 21, 22] rfl rfl fun K hK => ?_;simp only [go_sem,↓reduceIte,reduceEqDiff]
 (refine hK _ _ ?_;clear hK)
 refine Qad ?_
 refine Qam [0, 4, 6, 20, 21, 22] (fun m e w' => ∃ (i : Nat), Is e [(0, .slice (some p) nl lc), (4, .pointer (some ⟨gr, 0, none⟩)), (6, .slice (some ⟨gu, 0, none⟩) n n), (20, .slice (some p) nl lc), (21, .int .i64 nl), (22, .int .i64 i)] /\ Heap w [] w' [Res.row 3 1 (some ⟨gu, 0, none⟩) n n (Qaq ((List.range n).map fun s => (list.take i).count s)), Res.blk gr 65 (Qau none 0 0 none 0 0)] /\ i <= nl /\ m = nl - i) nl ?_ ?_
 ·
  simp only [go_sem,↓reduceIte,reduceEqDiff]
  exact ⟨0, rfl, by rw [List.take_zero, Qys];exact hH2, by omega, rfl⟩
 clear hH2
 rintro m e w4 ⟨i, rfl, hH, hi, rfl⟩
 refine VR [0, 4, 6, 20, 21, 22, 23] rfl rfl fun K hK => ?_;simp only [go_sem,↓reduceIte,reduceEqDiff]
 (refine hK _ _ ?_;clear hK)
 (repeat refine Qai ?_)
 refine Qab rfl rfl (fun h => ?_) (fun h => ?_)
 ·
  simp only [decide_eq_true_eq] at h
  have hcell := Qda (hH.rs' hr) (i := i) (by omega)
  have hx := h5 _ (Qbs 0 (l := list) (i := i) (by omega))
  have htk : list.take (i + 1) = list.take i ++ [list.getD i 0] := Qd2 0 (by omega)
  have hsn := Qyq (list.take i) (list.getD i 0) n hx
  rw [<- htk] at hsn
  have hcl := Qyr (list.take i) n
  have hcg : ((List.range n).map fun s => (list.take i).count s).getD (list.getD i 0) 0 = (list.take i).count (list.getD i 0) := Qh2 _ _ _ _ hx
  have hcle : (list.take i).count (list.getD i 0) <= i := Nat.le_trans List.count_le_length (by rw [List.length_take];omega)
  generalize list.getD i 0 = x at *
  have hcu : w4.cell? ⟨gu, x, none⟩ = some (.int .i64 (((list.take i).count x : Nat) : Int)) := by
   rw [<- hcg];exact Qaa (hH.at 0 rfl) (Qb6 (by omega))
  generalize (list.take i).count x = c at *
  generalize ((List.range n).map fun s => (list.take i).count s) = C at *
  refine Qaf ?_
  ((repeat refine Qai ?_);refine Qad ?_)
  refine VR [0, 4, 6, 8, 20, 21, 22] rfl rfl fun K hK => ?_;simp only [go_sem,↓reduceIte,reduceEqDiff]
  refine ⟨⟨by omega, by omega⟩, _, hcell, ?_⟩
  (refine hK _ _ ?_;clear hK)
  refine VR [0, 4, 6, 20, 21, 22] rfl rfl fun K hK => ?_;simp only [go_sem,↓reduceIte,reduceEqDiff]
  refine ⟨⟨by omega, by omega⟩, _, hcu, ?_⟩
  simp only [go_sem,↓reduceIte,reduceEqDiff]
  refine ⟨I64.mk (by omega) (by omega), ⟨by omega, by omega⟩, ?_⟩
  refine Qae ?_;simp only [go_sem,↓reduceIte,reduceEqDiff];refine Qbd hH 0 (o := (x)) (vs := [.int .i64 (c + 1 : Nat)]) rfl (by first | exact (Qbp _ _ _).symm | rfl | simp [Qbp]) rfl (by kernel_rfl) (by first | omega | (simp;omega) | (simp [Qao, Qbm];omega) | (rw [Qar];simp;omega)) (by simp [Value.oneCell']) fun w6 hH3 => ?_;(try simp only [go_sem,↓reduceIte,reduceEqDiff])
  simp only [List.length_singleton, Qb1 (Qaq C) _ _ (show x < (Qaq C).length by rw [Qar];omega), Qce, List.set_cons_zero, <- hsn] at hH3
  (refine hK _ _ ?_;clear hK)
  refine Qav ?_
  refine VR [0, 4, 6, 20, 21, 22] rfl rfl fun K hK => ?_;simp only [go_sem,↓reduceIte,reduceEqDiff]
  ((repeat refine And.intro (by omega) ?_);refine hK _ _ ?_;clear hK)
  refine Qah ?_
  simp only [go_sem,↓reduceIte,reduceEqDiff]
  exact ⟨nl - (i + 1), by omega, i + 1, rfl, hH3, by omega, rfl⟩
 simp only [decide_eq_false_iff_not] at h
 obtain rfl : i = nl := by omega
 clear h hi
 rw [List.take_of_length_le (by omega), <- hfq] at hH
 have hql : (Qfl list n).length = n := by rw [hfq];simp
 have hqx : ∀ x ∈ Qfl list n, x <= 1073741824 := fun x hx => by
  obtain ⟨s, _, rfl⟩ := List.mem_map.1 hx
  have := List.count_le_length (l := list) (a := s)
  omega
 have hflp : Qb8 list n = ([Qfd (Qfl list n), Qfd (Qfl list n)], List.replicate (Qca i) 0) := by unfold Qb8;rw [hnl]
 rw [hflp]
 have hfd := QBi (Qfl list n) (by omega) (by omega) hqx (some ⟨gu, 0, none⟩) n
 rw [hql] at hfd
 clear hfq hqx
 generalize Qfl list n = Q at *
 generalize i = nl at *
 refine Qap rfl ?_
 refine VR [0, 4, 6, 9] rfl rfl fun K hK => ?_;simp only [go_sem,↓reduceIte,reduceEqDiff]
 refine Qag Tryz.call134 ?_;simp only [go_sem,↓reduceIte,reduceEqDiff];refine CallK.mk (hfd w4 (Qbo (hH.at 0 rfl))) ?_
 rintro v w5 ⟨aa, ca, hHa, rfl⟩
 have hH2 := hH.call0 hHa
 simp only [List.singleton_append] at hH2
 clear hH hHa
 (refine hK _ _ ?_;clear hK)
 refine VR [0, 4, 9, 11] rfl rfl fun K hK => ?_;simp only [go_sem,↓reduceIte,reduceEqDiff]
 refine Qag Tryz.call134 ?_;simp only [go_sem,↓reduceIte,reduceEqDiff];refine CallK.mk (hfd w5 (Qbo (hH2.at 1 rfl))) ?_
 rintro v w6 ⟨ab, cb, hHb, rfl⟩
 have hH3 := hH2.call0 hHb
 simp only [List.singleton_append] at hH3
 clear hH2 hHb hfd
 generalize hF : Qfd Q = F at *
 (refine hK _ _ ?_;clear hK)
 refine VR [4, 5] rfl rfl fun K hK => ?_;simp only [go_sem,↓reduceIte,reduceEqDiff]
 refine Qfn hH3 (Qb4 [(aa, ca), (ab, cb)] [F, F]) (xs := [.tmp 43, .tmp 44]) Tryz.underlying63 sz36 rfl rfl rfl (by omega) ?_
 simp only [go_sem,↓reduceIte,reduceEqDiff]
 refine ⟨rfl, by simp [Value.cells], fun gt w7 hH4 => ?_⟩
 refine Qag Tryz.call83 ?_;simp only [go_sem,↓reduceIte,reduceEqDiff];refine CallK.mk (Qhf nl (by omega) w7) ?_
 rintro v w8 ⟨rfl, rfl⟩
 generalize hgN : Qca nl = gN at *
 refine Qbw Tryz.underlying36 zi3 ?_
 simp only [go_sem,↓reduceIte,reduceEqDiff]
 refine ⟨gN, gN, ⟨rfl, rfl, by omega, by omega, by omega⟩, ?_⟩
 have hH5 := hH4.row 3 (n := gN) (cap := gN) (sz := 1) (Qaq (List.replicate gN 0)) [] (by simp [Qar]) (by simp [Qar]) (by omega) (by omega)
 rw [List.append_nil, Qcr] at hH5
 generalize w8.alloc (Obj.cells (List.replicate gN (Value.int IntKind.i64 0)).toArray 3) = w9 at *
 generalize w8.heap.size = gz at *
 rw [<- Qcr] at hH5
 clear hH3 hH4
 refine Qae ?_
 simp only [go_sem,↓reduceIte,reduceEqDiff]
 refine Qal hH5 5 (vs := Qau (some ⟨gt, 0, none⟩) 2 2 (some ⟨gz, 0, none⟩) gN gN) rfl rfl (by kernel_rfl) (by simp [Qau]) (Qb7 _ _ _ _ _ _) fun w10 hH6 => ?_
 simp only [List.set_cons_zero, List.set_cons_succ] at hH6
 (refine hK _ _ ?_;clear hK)
 refine Qan (Qeg rfl rfl rfl (Qbu (hH6.at 5 rfl) (by kernel_rfl) (by kernel_rfl) rfl ?_))
 refine ⟨_, _, hH6.sub (List.take_sublist 4 _), fun w' hh => Qnn rfl rfl (by simp) rfl (Qbo (hh _ (List.mem_of_getElem? (i := 1) rfl))) (Qbo (hh _ (List.mem_of_getElem? (i := 0) rfl))) (fun i h t h6 h7 => ?_), rfl⟩
 match i with
 | 0 => cases h6;cases h7;exact Qbo (hh _ (List.mem_of_getElem? (i := 3) rfl))
 | 1 => cases h6;cases h7;exact Qbo (hh _ (List.mem_of_getElem? (i := 2) rfl))
 | i + 2 => simp at h6
theorem Qj4 (v : Value) (T : List (List Nat)) (P : List Nat) (hm : mayP T P) (list : List Nat) (hl1 : 1 <= list.length) (hls : ∀ s ∈ list, s < (T.getD 0 []).length) (hlg : Qca list.length <= P.length) (hsz : Qh1 (T, P) list <= 1000000000000) (a : Option Addr) (lc : Nat) (w : World) (hp : PlanAt w v T P) (hr : RS w a list.length 1 (Qaq list)) :
  Does Tryz.prog 78 #[v, .slice a list.length lc] w fun x w' => Heap w [] w' [] /\ x = .tuple #[.int .i64 (Qh1 (T, P) list : Nat), .int .i64 0] := by
 have hpd := Qlx v T P hm list hl1 hls hlg a lc
 have hsd := Qj3 v T P hm
 have hsz' : Qh1 (T, P) list = (Qbx T P).length + (Qf3 T P list 0).length := rfl
 rw [hsz'] at hsz ⊢
 have hp0 := hp
 obtain ⟨ta, tc, pa, pc, hs, rfl, hsl, hrT, hrP, hrt⟩ := hp
 have hen : #[Value.agg #[.slice ta T.length tc, .slice pa P.length pc], .slice a list.length lc] = [Value.agg (Qau ta T.length tc pa P.length pc).toArray, .slice a list.length lc].toArray := rfl
 rw [hen]
 refine Qak 29 Tryz.func78 rfl rfl (of_decide_eq_true rfl) ?_
 simp only [Env.ofArgs]
 generalize list.length = nl at *
 generalize T.length = nt at *
 generalize P.length = np at *
 generalize Qf3 T P list 0 = X at *
 generalize Qbx T P = Y at *
 refine VR [1, 2] rfl rfl fun K hK => ?_;simp only [go_sem,↓reduceIte,reduceEqDiff]
 refine Qcg ?_
 simp only [go_sem,↓reduceIte,reduceEqDiff]
 have hH := (Heap.start w).box 65 (Qau ta nt tc pa np pc)
 generalize w.alloc (Obj.cells (Qau ta nt tc pa np pc).toArray 65) = w1 at *
 generalize w.heap.size = gp at *
 (refine hK _ _ ?_;clear hK)
 refine VR [2, 6, 7] rfl rfl fun K hK => ?_;simp only [go_sem,↓reduceIte,reduceEqDiff]
 refine ⟨Qau ta nt tc pa np pc, ⟨rfl, Qa1 (hH.at 0 rfl)⟩, ?_⟩
 refine Qag Tryz.call41 ?_;simp only [go_sem,↓reduceIte,reduceEqDiff];refine CallK.mk (hpd w1 (hp0.keep hH) (hH.rs' hr)) ?_
 rintro v w2 ⟨hHp, rfl⟩
 have hH2 := hH.call0 hHp
 simp only [List.nil_append] at hH2
 clear hH hHp
 refine Qat (.agg #[.string ⟨#[]⟩, .int .i64 0]) (by kernel_rfl) ?_
 simp only [go_sem,↓reduceIte,reduceEqDiff]
 have hH3 := hH2.box 24 [.string ⟨#[]⟩, .int .i64 0]
 generalize w2.alloc (Obj.cells [Value.string ⟨#[]⟩, .int .i64 0].toArray 24) = w3 at *
 generalize w2.heap.size = gb at *
 refine Qae ?_
 simp only [go_sem,↓reduceIte,reduceEqDiff]
 refine Qal hH3 0 (vs := Qbg X) rfl rfl (by kernel_rfl) (by simp [Qbg]) (Qdc _) fun w4 hH4 => ?_
 simp only [List.set_cons_zero] at hH4
 clear hH2 hH3
 (refine hK _ _ ?_;clear hK)
 refine VR [2, 6, 7, 17] rfl rfl fun K hK => ?_;simp only [go_sem,↓reduceIte,reduceEqDiff]
 (refine hK _ _ ?_;clear hK)
 refine Qab rfl rfl (fun h => by simp at h) (fun h => Qaf ?_)
 clear h
 refine VR [6, 8] rfl rfl fun K hK => ?_;simp only [go_sem,↓reduceIte,reduceEqDiff]
 refine ⟨Qau ta nt tc pa np pc, ⟨rfl, Qa1 (hH4.at 1 rfl)⟩, ?_⟩
 refine Qag Tryz.call40 ?_;simp only [go_sem,↓reduceIte,reduceEqDiff];refine CallK.mk (hsd w4 (hp0.keep hH4)) ?_
 rintro v w5 ⟨hHs, rfl⟩
 have hH5 := hH4.call0 hHs
 simp only [List.nil_append] at hH5
 clear hH4 hHs
 refine Qat (.agg #[.string ⟨#[]⟩, .int .i64 0]) (by kernel_rfl) ?_
 simp only [go_sem,↓reduceIte,reduceEqDiff]
 have hH6 := hH5.box 24 [.string ⟨#[]⟩, .int .i64 0]
 generalize w5.alloc (Obj.cells [Value.string ⟨#[]⟩, .int .i64 0].toArray 24) = w6 at *
 generalize w5.heap.size = ga at *
 refine Qae ?_
 simp only [go_sem,↓reduceIte,reduceEqDiff]
 refine Qal hH6 0 (vs := Qbg Y) rfl rfl (by kernel_rfl) (by simp [Qbg]) (Qdc _) fun w7 hH7 => ?_
 simp only [List.set_cons_zero] at hH7
 clear hH5 hH6
 (refine hK _ _ ?_;clear hK)
 refine VR [4, 5] rfl rfl fun K hK => ?_;simp only [go_sem,↓reduceIte,reduceEqDiff]
 refine ⟨_, Qac (hH7.at 0 rfl) (show (Qbg Y)[1]? = some _ from rfl), _, Qac (hH7.at 1 rfl) (show (Qbg X)[1]? = some _ from rfl), ?_⟩
 simp only [go_sem,↓reduceIte,reduceEqDiff]
 ((repeat refine And.intro (by omega) ?_);refine hK _ _ ?_;clear hK)
 exact Qan (Qa9 rfl rfl rfl ⟨hH7.sub (by simp), rfl⟩)
def cntU (list P : List Nat) (n m t : Nat) : List Nat := (List.range n).map fun s => (List.range m).countP fun i => list.getD i 0 == s && P.getD (i / 50) 0 == t
def Qfb (list P : List Nat) (many n m : Nat) : List (List Nat) := (List.range many).map (cntU list P n m)
theorem Qhg (list P : List Nat) (n m t : Nat) : (cntU list P n m t).length = n := by simp [cntU]
theorem QBj (list P : List Nat) (many n m : Nat) : (Qfb list P many n m).length = many := by simp [Qfb]
theorem QBk (list P : List Nat) (n t : Nat) : cntU list P n 0 t = List.replicate n 0 := by
 unfold cntU
 apply List.ext_getElem?
 intro j
 rw [List.getElem?_map, List.getElem?_replicate]
 by_cases hj : j < n
 ·
  rw [List.getElem?_range hj, if_pos hj];rfl
 ·
  rw [List.getElem?_eq_none (by simpa using hj), if_neg hj];rfl
theorem Qyt (list P : List Nat) (many n : Nat) : Qfb list P many n 0 = List.replicate many (List.replicate n 0) := by
 unfold Qfb
 apply List.ext_getElem?
 intro j
 rw [List.getElem?_map, List.getElem?_replicate]
 by_cases hj : j < many
 ·
  rw [List.getElem?_range hj, if_pos hj, Option.map_some, QBk]
 ·
  rw [List.getElem?_eq_none (by simpa using hj), if_neg hj];rfl
theorem QEk {list P : List Nat} {n m t s : Nat} (hs : s < n) : (cntU list P n m t).getD s 0 <= m := by
 rw [cntU, Qh2 _ _ _ _ hs]
 exact Nat.le_trans List.countP_le_length (by simp)
theorem QBl {list P : List Nat} {n m t : Nat} : ∀ x ∈ cntU list P n m t, x <= m := by
 intro x hx
 obtain ⟨s, _, rfl⟩ := List.mem_map.1 hx
 exact Nat.le_trans List.countP_le_length (by simp)
theorem Qs3 {list P : List Nat} {n m t : Nat} (hx : list.getD m 0 < n) : cntU list P n (m + 1) t = if P.getD (m / 50) 0 = t then (cntU list P n m t).set (list.getD m 0) ((cntU list P n m t).getD (list.getD m 0) 0 + 1) else cntU list P n m t := by
 apply List.ext_getElem?
 intro j
 by_cases hj : j < n
 ·
  have h1 : ∀ m, (cntU list P n m t)[j]? = some ((List.range m).countP fun i => list.getD i 0 == j && P.getD (i / 50) 0 == t) := fun m => by
   rw [cntU, List.getElem?_map, List.getElem?_range hj];rfl
  rw [h1, List.range_succ, List.countP_append, List.countP_singleton]
  by_cases ht : P.getD (m / 50) 0 = t
  ·
   rw [if_pos ht, List.getElem?_set]
   by_cases e : list.getD m 0 = j
   ·
    have hb : (list.getD m 0 == j && P.getD (m / 50) 0 == t) = true := by rw [e, ht];simp
    rw [if_pos hb, if_pos e, if_pos (by rw [Qhg];exact hx), e]
    congr 2
    rw [List.getD_eq_getElem?_getD, h1];rfl
   ·
    have hb : (list.getD m 0 == j && P.getD (m / 50) 0 == t) = false := by rw [show (list.getD m 0 == j) = false from beq_eq_false_iff_ne.2 e];rfl
    rw [hb, if_neg e, h1];rfl
  ·
   have hb : (list.getD m 0 == j && P.getD (m / 50) 0 == t) = false := by rw [show (P.getD (m / 50) 0 == t) = false from beq_eq_false_iff_ne.2 ht, Bool.and_false]
   rw [hb, if_neg ht, h1];rfl
 ·
  rw [List.getElem?_eq_none (by rw [Qhg];omega), List.getElem?_eq_none]
  split
  ·
   rw [List.length_set, Qhg];omega
  ·
   rw [Qhg];omega
theorem Qyu {list P : List Nat} {many n m b : Nat} (hx : list.getD m 0 < n) (hb : P.getD (m / 50) 0 = b) (hbm : b < many) : Qfb list P many n (m + 1) = (Qfb list P many n m).set b ((cntU list P n m b).set (list.getD m 0) ((cntU list P n m b).getD (list.getD m 0) 0 + 1)) := by
 apply List.ext_getElem?
 intro j
 rw [List.getElem?_set]
 unfold Qfb
 rw [List.getElem?_map, List.getElem?_map, List.length_map, List.length_range]
 by_cases e : b = j
 ·
  subst e
  rw [if_pos rfl, if_pos hbm, List.getElem?_range hbm, Option.map_some, Qs3 hx, if_pos hb]
 ·
  rw [if_neg e]
  by_cases hj : j < many
  ·
   rw [List.getElem?_range hj, Option.map_some, Option.map_some, Qs3 hx, if_neg (by omega)]
  ·
   rw [List.getElem?_eq_none (by simpa using hj)];rfl
theorem Qyv (list P : List Nat) (n t : Nat) : Qjf list P t n = cntU list P n list.length t := rfl
def Qa5 (hs : List (Option Addr × Nat)) (n : Nat) : List Value := hs.map fun h => .slice h.1 n h.2
def Qb9 (hs : List (Option Addr × Nat)) (n : Nat) (L : List (List Nat)) : List Res := List.zipWith (fun h l => Res.row 3 1 h.1 n h.2 (Qaq l)) hs L
theorem Qfg (hs : List (Option Addr × Nat)) (n : Nat) : (Qa5 hs n).length = hs.length := by simp [Qa5]
theorem Qhh {hs : List (Option Addr × Nat)} {i : Nat} {h : Option Addr × Nat} (n : Nat) (h1 : hs[i]? = some h) : (Qa5 hs n)[i]? = some (.slice h.1 n h.2) := by simp [Qa5, h1]
theorem Qvk (hs : List (Option Addr × Nat)) (n i : Nat) (a : Option Addr) (c : Nat) : (Qa5 hs n).set i (.slice a n c) = Qa5 (hs.set i (a, c)) n := by simp [Qa5, List.map_set]
theorem Qyw {hs : List (Option Addr × Nat)} {T : List (List Nat)} {n : Nat} (hl : hs.length = T.length) (h : ∀ t ∈ T, t.length = n) : Qb4 hs T = Qa5 hs n := by
 apply List.ext_getElem?
 intro i
 unfold Qb4 Qa5
 rw [List.getElem?_zipWith, List.getElem?_map]
 rcases Nat.lt_or_ge i T.length with h1 | h1
 ·
  rw [List.getElem?_eq_getElem h1, List.getElem?_eq_getElem (by omega)]
  simp only [Option.map_some]
  rw [h _ (List.getElem_mem h1)]
 ·
  rw [List.getElem?_eq_none h1, List.getElem?_eq_none (by omega)];rfl
theorem QBm {hs : List (Option Addr × Nat)} {n : Nat} {L : List (List Nat)} (hl : hs.length = L.length) : (Qb9 hs n L).length = L.length := by simp [Qb9, hl]
theorem Qno {hs : List (Option Addr × Nat)} {L : List (List Nat)} {i : Nat} {h : Option Addr × Nat} {l : List Nat} (n : Nat) (h1 : hs[i]? = some h) (h2 : L[i]? = some l) : (Qb9 hs n L)[i]? = some (Res.row 3 1 h.1 n h.2 (Qaq l)) := by
 simp [Qb9, List.getElem?_zipWith, h1, h2]
theorem Qla {hs : List (Option Addr × Nat)} {L : List (List Nat)} (n : Nat) (hl : hs.length = L.length) (a : Option Addr) (c : Nat) (l : List Nat) : Qb9 hs n L ++ [Res.row 3 1 a n c (Qaq l)] = Qb9 (hs ++ [(a, c)]) n (L ++ [l]) := by
 unfold Qb9
 rw [List.zipWith_append hl];rfl
theorem QBn {hs : List (Option Addr × Nat)} {L : List (List Nat)} {i n : Nat} {h : Option Addr × Nat} (h1 : hs[i]? = some h) (l : List Nat) : (Qb9 hs n L).set i (Res.row 3 1 h.1 n h.2 (Qaq l)) = Qb9 hs n (L.set i l) := by
 apply List.ext_getElem?
 intro j
 unfold Qb9
 rw [List.getElem?_set, List.getElem?_zipWith, List.getElem?_zipWith, List.getElem?_set, List.length_zipWith]
 by_cases e : i = j
 ·
  subst e
  have h2 := (List.getElem?_eq_some_iff.1 h1).1
  rw [if_pos rfl, if_pos rfl, h1]
  by_cases h3 : i < L.length
  ·
   rw [if_pos (by omega), if_pos h3]
  ·
   rw [if_neg (by omega), if_neg h3]
 ·
  rw [if_neg e, if_neg e]
theorem Heap.hole_row {w0 w : World} {B : List Nat} {G : List Res} {r : Res} (h : Heap w0 B w G) (i j : Nat) (hi : G[i]? = some r) {g T sz n cap k : Nat} {xs : List Value} {v : Value} (hj : G[j]? = some (Res.row T sz (some ⟨g, 0, none⟩) n cap xs)) (hij : i ≠ j) (hv : xs[k]? = some v) : (holes r.foot w).cell? ⟨g, k, none⟩ = some v := by
 refine Qo2 (Qaa (h.at j hj) hv) ?_
 obtain ⟨h1, e1⟩ := List.getElem?_eq_some_iff.1 hi
 obtain ⟨h2, e2⟩ := List.getElem?_eq_some_iff.1 hj
 have ha := List.pairwise_iff_getElem.1 h.apart
 rcases Nat.lt_or_ge i j with h3 | h3
 ·
  have h4 := ha i j h1 h2 h3
  rw [e1, e2] at h4
  exact fun hb => h4 g hb (by simp [Res.row])
 ·
  have h4 := ha j i h2 h1 (by omega)
  rw [e1, e2] at h4
  exact h4 g (by simp [Res.row])
theorem QBo (list tab : List Nat) (n k t : Nat) (hk : 50 * k < list.length) (hl : list.length <= 1638350) (hs : ∀ s ∈ list, s < n) (htl : tab.length = n) (htx : ∀ x ∈ tab, x <= 1000) (p : Addr) (hps : p.spot = none) (lc : Nat) (hlc : list.length <= lc) (gl gp gT many mc : Nat) (ht : t < many) (hmany : many <= 6) (ta : Option Addr) (tc : Nat) (w : World)
  (c1 : w.cell? ⟨gl, 0, none⟩ = some (.slice (some p) list.length lc)) (c2 : w.cell? ⟨gp, 0, none⟩ = some (.slice (some ⟨gT, 0, none⟩) many mc)) (c3 : w.cell? ⟨gT, t, none⟩ = some (.slice ta n tc)) (hr : RS w (some p) list.length 1 (Qaq list)) (hrt : RS w ta n 1 (Qaq tab)) :
  Does Tryz.prog 131 #[.int .i64 t, .int .i64 k, .pointer (some ⟨gl, 0, none⟩), .pointer (some ⟨gp, 0, none⟩)] w fun v w' => w' = w /\ v = .int .i64 (Qku tab (Qcw list k) : Nat) := by
 have hgd := Qpe list k hk (by omega) p lc hlc w
 have hrs := Qw4 hr hps hk
 have hcm : ∀ s ∈ Qcw list k, s < n := fun s h => hs s (List.mem_of_mem_drop (List.mem_of_mem_take h))
 have hcl : (Qcw list k).length <= 50 := by simp [Qcw];omega
 refine Qak (args := [.int .i64 t, .int .i64 k, .pointer (some ⟨gl, 0, none⟩), .pointer (some ⟨gp, 0, none⟩)]) 30 Tryz.func131 rfl rfl (of_decide_eq_true rfl) ?_
 simp only [Env.ofArgs]
 generalize hch : Qcw list k = ch at *
 generalize hnc : ch.length = nc at *
 generalize list.length = nl at *
 refine VR [0, 1, 2, 3] rfl rfl fun K hK => ?_;simp only [go_sem,↓reduceIte,reduceEqDiff]
 (refine hK _ _ ?_;clear hK)
 refine VR [0, 1, 2, 3, 7] rfl rfl fun K hK => ?_;simp only [go_sem,↓reduceIte,reduceEqDiff]
 (refine hK _ _ ?_;clear hK)
 refine VR [0, 3, 7, 12, 13, 14] rfl rfl fun K hK => ?_;simp only [go_sem,↓reduceIte,reduceEqDiff]
 refine ⟨_, c1, ?_⟩
 refine Qag Tryz.call132 ?_;simp only [go_sem,↓reduceIte,reduceEqDiff];refine CallK.mk hgd ?_
 rintro v w2 ⟨rfl, rfl⟩
 simp only [go_sem,↓reduceIte,reduceEqDiff]
 (refine hK _ _ ?_;clear hK)
 generalize hpk : p.add (50 * k) = pk at *
 refine Qad ?_
 refine Qam [0, 3, 7, 12, 13, 14] (fun m e w' => ∃ (i : Nat), Is e [(0, .int .i64 t), (3, .pointer (some ⟨gp, 0, none⟩)), (7, .int .i64 (Qku tab (ch.take i) : Nat)), (12, .slice (some pk) nc (lc - 50 * k)), (13, .int .i64 nc), (14, .int .i64 i)] /\ Is w' w2 /\ Qku tab (ch.take i) <= 1000 * i /\ i <= nc /\ m = nc - i) nc ?_ ?_
 ·
  simp only [go_sem,↓reduceIte,reduceEqDiff]
  exact ⟨0, rfl, rfl, by simp [Qku], by omega, rfl⟩
 rintro m e w' ⟨i, rfl, rfl, hcb, hi, rfl⟩
 refine VR [0, 3, 7, 12, 13, 14, 15] rfl rfl fun K hK => ?_;simp only [go_sem,↓reduceIte,reduceEqDiff]
 (refine hK _ _ ?_;clear hK)
 (repeat refine Qai ?_)
 refine Qab rfl rfl (fun h => ?_) (fun h => ?_)
 ·
  simp only [decide_eq_true_eq] at h
  have hcell := Qda hrs (i := i) (by omega)
  have hx := hcm _ (Qbs 0 (l := ch) (i := i) (by omega))
  have htk : ch.take (i + 1) = ch.take i ++ [ch.getD i 0] := Qd2 0 (by omega)
  have hcs : Qku tab (ch.take (i + 1)) = Qku tab (ch.take i) + tab.getD (ch.getD i 0) 0 := by rw [htk];simp [Qku]
  generalize ch.getD i 0 = x at *
  obtain ⟨q, rfl⟩ := Qcx hrt (by omega)
  have hct := Qda hrt (i := x) (by omega)
  have hcx := htx _ (Qbs 0 (l := tab) (i := x) (by omega))
  generalize tab.getD x 0 = c at *
  refine Qaf ?_
  ((repeat refine Qai ?_);refine Qad ?_)
  refine VR [0, 3, 7, 9, 12, 13, 14] rfl rfl fun K hK => ?_;simp only [go_sem,↓reduceIte,reduceEqDiff]
  refine ⟨⟨by omega, by omega⟩, _, hcell, ?_⟩
  (refine hK _ _ ?_;clear hK)
  refine VR [0, 3, 7, 12, 13, 14] rfl rfl fun K hK => ?_;simp only [go_sem,↓reduceIte,reduceEqDiff]
  refine ⟨_, c2, ?_⟩
  simp only [go_sem,↓reduceIte,reduceEqDiff]
  refine ⟨⟨by omega, by omega⟩, _, c3, ?_⟩
  simp only [go_sem,↓reduceIte,reduceEqDiff]
  refine ⟨⟨by omega, by omega⟩, _, hct, ?_⟩
  simp only [go_sem,↓reduceIte,reduceEqDiff]
  ((repeat refine And.intro (by omega) ?_);refine hK _ _ ?_;clear hK)
  refine Qav ?_
  refine VR [0, 3, 7, 12, 13, 14] rfl rfl fun K hK => ?_;simp only [go_sem,↓reduceIte,reduceEqDiff]
  ((repeat refine And.intro (by omega) ?_);refine hK _ _ ?_;clear hK)
  refine Qah ?_
  simp only [go_sem,↓reduceIte,reduceEqDiff]
  exact ⟨nc - (i + 1), by omega, i + 1, by rw [hcs];rfl, rfl, by omega, by omega, rfl⟩
 ·
  simp only [decide_eq_false_iff_not] at h
  obtain rfl : i = nc := by omega
  rw [List.take_of_length_le (by omega)]
  refine Qap rfl ?_
  refine VR [6] rfl rfl fun K hK => ?_;simp only [go_sem,↓reduceIte,reduceEqDiff]
  (refine hK _ _ ?_;clear hK)
  exact Qan (Qax rfl rfl ⟨rfl, rfl⟩)
end Go.Proofs.YtfphmlhgebpojaaGreat
namespace Go.Eng
open Go
def subC : List Nat -> Code -> Code
 | [], c => c
 | 0 :: p, .seq a _ => subC p a
 | _ :: p, .seq _ b => subC p b
 | _ :: p, .block _ c => subC p c
 | _ :: p, .loop c => subC p c
 | _ :: p, .scope c => subC p c
 | 0 :: p, .cond _ a _ => subC p a
 | _ :: p, .cond _ _ b => subC p b
 | _, c => c
def Qhp (p : List Nat) (fn : Func) : Code :=
 match fn.body with
 | some c => subC p c
 | none => .skip
theorem Qph {C : Ctx} {k : List It} {e : Env} {w : World} (ks : List Nat) (h : selK ks e fun e => VC C k e w) : VC C k e w :=
 fun a n ha => ((Qc9 ks e _).1 h) a n (ha.sel ks)
end Go.Eng
