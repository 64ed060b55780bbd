/- A program logic over the model, and what this program's functions do by it: part 4. No conditions: a library of lemmas. -/
import Derived.Test.YtfphmlhgebpojaaGreatK3
open Nat (reduceEqDiff)
set_option linter.unusedSimpArgs false
set_option linter.unusedVariables false
set_option maxRecDepth 100000
namespace Go.Proofs.YtfphmlhgebpojaaGreat
open Go Go.Eng
def decS : List UInt8 -> Nat -> List UInt8 -> List UInt8 × Int
 | out, same, [] => if same = 4 then ([], 30) else (out, 0)
 | out, same, c :: s =>
  if same = 4 then (if 262144 < out.length + c.toNat then ([], 3) else decS (out ++ List.replicate c.toNat (out.getLastD 0)) 0 s)
  else if out.length = 262144 then ([], 3) else decS (out ++ [c]) (if 0 < same /\ out.getLastD 0 = c then same + 1 else 1) s
def Tail (out : List UInt8) (k : Nat) : Prop := k <= out.length /\ ∀ j, j < k -> out[out.length - 1 - j]? = some (out.getLastD 0)
theorem Tail.zero (out : List UInt8) : Tail out 0 := ⟨Nat.zero_le _, fun j hj => by omega⟩
theorem Tail.one (out : List UInt8) (c : UInt8) : Tail (out ++ [c]) 1 := ⟨by simp, fun j hj => by rw [show j = 0 by omega];simp [List.getLastD_eq_getLast?]⟩
theorem Tail.succ {out : List UInt8} {k : Nat} {c : UInt8} (h : Tail out k) (hc : out.getLastD 0 = c) : Tail (out ++ [c]) (k + 1) := by
 refine ⟨by have := h.1;simp;omega, fun j hj => ?_⟩
 have e : (out ++ [c]).getLastD 0 = c := by simp [List.getLastD_eq_getLast?]
 rw [e]
 cases j with
 | zero => simp
 | succ j =>
  have h1 := h.2 j (by omega)
  have hk := h.1
  rw [List.getElem?_append_left (by simp;omega)]
  rw [show (out ++ [c]).length - 1 - (j + 1) = out.length - 1 - j by simp;omega, h1, hc]
theorem Tail.drop {out : List UInt8} {k : Nat} (h : Tail out k) : out.drop (out.length - k) = List.replicate k (out.getLastD 0) := by
 apply List.ext_getElem?
 intro j
 rw [List.getElem?_drop, List.getElem?_replicate]
 split
 ·
  rename_i hj
  have := h.2 (k - 1 - j) (by omega)
  have hk := h.1
  rw [show out.length - k + j = out.length - 1 - (k - 1 - j) by omega, this]
 ·
  rename_i hj
  have hk := h.1
  rw [List.getElem?_eq_none (by omega)]
theorem Qsu (out : List UInt8) (same : Nat) (c : UInt8) (s : List UInt8) : decS out same (c :: s) =
  if same = 4 then (if 262144 < out.length + c.toNat then ([], 3) else decS (out ++ List.replicate c.toNat (out.getLastD 0)) 0 s)
  else if out.length = 262144 then ([], 3) else decS (out ++ [c]) (if 0 < same /\ out.getLastD 0 = c then same + 1 else 1) s := rfl
def Qvr (w : World) (l : List UInt8) (m : Nat) (e : Env) (w' : World) : Prop :=
 ∃ (i same cap : Nat) (a : Option Addr) (out : List UInt8), Is e [(0, Str l), (4, .slice a out.length cap), (5, .int .i64 same), (6, .int .i64 i)] /\ Heap w [] w' [Res.row 5 1 a out.length cap (bytesV out)] /\ i <= l.length /\ out.length <= 262144 /\ same <= 4 /\ Tail out same /\ decS [] 0 l = decS out same (l.drop i) /\ m = l.length - i
theorem Qy2 (m c k : Nat) (b : UInt8) (hk : m + k <= c) (ms : List UInt8) (hm : ms.length = c) (hp : ms.take m = List.replicate m b) :
  (ms.take m ++ List.replicate k b ++ ms.drop (m + k)).length = c /\ (ms.take m ++ List.replicate k b ++ ms.drop (m + k)).take (m + k) = List.replicate (m + k) b := by
 refine ⟨by simp;omega, ?_⟩
 rw [hp, List.replicate_append_replicate, List.take_left' (by simp)]
theorem bytesV_take (l : List UInt8) (k : Nat) : (bytesV l).take k = bytesV (l.take k) := by simp [bytesV]
theorem bytesV_drop (l : List UInt8) (k : Nat) : (bytesV l).drop k = bytesV (l.drop k) := by simp [bytesV]
theorem bytesV_zero (n : Nat) : List.replicate n (Value.int .u8 0) = bytesV (List.replicate n 0) := by simp [bytesV]
theorem bytesV_get {l : List UInt8} {i : Nat} (h : i < l.length) : (bytesV l)[i]? = some (.int .u8 (l.getD i 0).toNat) := by
 simp [bytesV, List.getElem?_eq_getElem h, List.getD_eq_getElem?_getD]
theorem Quy (l : List UInt8) (w : World) (hs : l.length <= 140737488355328) :
  Does Tryz.prog 108 #[Str l] w fun v w' => Heap w [] w' [] /\ v = .tuple #[Str (decS [] 0 l).1, .int .i64 (decS [] 0 l).2] := by
 refine En [Str l] 78 Tryz.func108 ?_
 refine VS [0] ?_
 (repeat refine Qay ?_);refine Qjn ?_
 refine VQ [0, 4] fun K hK => ?_
 refine Qa6 (xs := []) Tryz.underlying43 sz5 rfl rfl rfl (by omega) ?_
 refine Qs ?_
 refine ⟨by simp, ?_⟩
 have hH := (Heap.start w).row 5 (n := 0) (cap := 0) (sz := 1) [] [] rfl rfl (by omega) (by omega)
 simp only [List.append_nil] at hH
 generalize w.alloc (Obj.cells (List.toArray []) 5) = w1 at hH ⊢
 generalize (some ⟨w.heap.size, 0, none⟩ : Option Addr) = a at hH ⊢
 apply hK;clear hK
 refine VS [0, 4, 5] ?_
 refine Qay (Qje ?_)
 refine VS [0, 4, 5, 6] ?_
 refine VB ?_
 refine Qae [0, 4, 5, 6] (Qvr w l) l.length ?_ ?_
 ·
  simp only [Qkw, Qg7, Qkx, Qg8, ↓reduceIte, reduceEqDiff]
  exact ⟨0, 0, 0, a, [], rfl, hH, by omega, by simp, by omega, Tail.zero _, rfl, rfl⟩
 clear hH
 rintro m e w2 ⟨i, same, cap, a, out, rfl, hH, h1, h2, h3, h4, h5, rfl⟩
 refine VS [0, 4, 5, 6, 13] ?_
 refine Qaa rfl rfl (fun hlt => ?_) (fun hge => ?_)
 ·
  simp only [decide_eq_true_eq] at hlt
  have hlt' : i < l.length := by omega
  have hdrop : l.drop i = l.getD i 0 :: l.drop (i + 1) := by
   rw [List.drop_eq_getElem_cons hlt', List.getD_eq_getElem?_getD, List.getElem?_eq_getElem hlt'];rfl
  rw [hdrop, Qsu] at h5
  have hc255 := (l.getD i 0).toNat_lt
  have fin : ∀ (same' : Nat) (cap' : Nat) (a' : Option Addr) (out' : List UInt8) (w3 : World) (k : List It), Heap w [] w3 [Res.row 5 1 a' out'.length cap' (bytesV out')] -> out'.length <= 262144 -> same' <= 4 -> Tail out' same' -> decS [] 0 l = decS out' same' (l.drop (i + 1)) ->
    selK [0, 4, 5, 6] [(0, Str l), (4, .slice a' out'.length cap'), (5, .int .i64 same'), (6, .int .i64 (↑i + 1))] fun e => ∃ m, m < l.length - i /\ Qvr w l m e w3 := by
   intro same' cap' a' out' w3 k g1 g2 g3 g4 g5
   simp only [Qkw, Qg7, Qkx, Qg8, ↓reduceIte, reduceEqDiff]
   exact ⟨l.length - (i + 1), by omega, i + 1, same', cap', a', out', rfl, g1, by omega, g2, g3, g4, g5, rfl⟩
  refine VC_skip ?_
  refine VB ?_
  by_cases hsame : same = 4
  ·
   subst hsame
   rw [if_pos rfl] at h5
   refine VS [0, 4, 5, 6, 17] ?_
   refine Qaa rfl rfl (fun _ => ?_) (fun h => absurd h (by simp))
   refine VQ [0, 4, 5, 6, 25] fun K hK => ?_
   refine ⟨by omega, I64.mk (by omega) (by omega), I64.mk (by omega) (by omega), ?_⟩
   apply hK;clear hK
   generalize hc : l.getD i 0 = c at h5 hc255 ⊢
   by_cases hbig : 262144 < out.length + c.toNat
   ·
    rw [if_pos hbig] at h5
    refine Qaa rfl rfl (fun _ => ?_) (fun h => ?_)
    ·
     refine VS [2, 3] ?_
     refine VC_ret (Qaj rfl rfl rfl ⟨hH.sub (by simp), ?_⟩)
     rw [h5]
    ·
     simp only [decide_eq_false_iff_not] at h;omega
   ·
    rw [if_neg hbig] at h5
    refine Qaa rfl rfl (fun h => ?_) (fun _ => ?_)
    ·
     simp only [decide_eq_true_eq] at h;omega
    refine VC_skip ?_
    have h4' := h4.1
    obtain ⟨g, rfl⟩ := Qfa (hH.at 0 rfl) (by omega)
    refine VQ [0, 4, 6, 7] fun K hK => ?_
    rw [hc]
    refine ⟨by omega, I64.mk (by omega) (by omega), ?_⟩
    refine Qdc Tryz.underlying43 zi5 ?_
    refine Qs ?_
    refine ⟨c.toNat, c.toNat, ⟨rfl, rfl, by omega, by omega, by omega⟩, ?_⟩
    have hH2 := hH.row 5 (n := c.toNat) (cap := c.toNat) (sz := 1) (List.replicate c.toNat (.int .u8 0)) [] (by simp) (by simp) (by omega) (by omega)
    rw [List.append_nil, bytesV_zero] at hH2
    rw [bytesV_zero]
    generalize w2.alloc (Obj.cells (bytesV (List.replicate c.toNat 0)).toArray 5) = w3 at hH2 ⊢
    generalize hg2 : w2.heap.size = g2 at hH2 ⊢
    apply hK;clear hK
    refine VS [0, 4, 6, 7, 8] ?_
    generalize hb : out.getLastD 0 = b at h5
    (repeat refine Qay ?_)
    refine Qe3 [0, 4, 6, 7] (fun e w' => Is e [(0, Str l), (4, .slice (some ⟨g, 0, none⟩) out.length cap), (6, .int .i64 i), (7, .slice (some ⟨g2, 0, none⟩) c.toNat c.toNat)] /\ Heap w [] w' [Res.row 5 1 (some ⟨g2, 0, none⟩) c.toNat c.toNat (bytesV (List.replicate c.toNat b)), Res.row 5 1 (some ⟨g, 0, none⟩) out.length cap (bytesV out)]) ?_ ?_
    ·
     refine Qaf ?_
     refine Qae [0, 4, 6, 7, 8] (fun m e w' => ∃ (n : Nat) (ms : List UInt8), Is e [(0, Str l), (4, .slice (some ⟨g, 0, none⟩) out.length cap), (6, .int .i64 i), (7, .slice (some ⟨g2, 0, none⟩) c.toNat c.toNat), (8, .int .i64 n)] /\ Heap w [] w' [Res.row 5 1 (some ⟨g2, 0, none⟩) c.toNat c.toNat (bytesV ms), Res.row 5 1 (some ⟨g, 0, none⟩) out.length cap (bytesV out)] /\ n <= c.toNat /\ ms.length = c.toNat /\ ms.take n = List.replicate n b /\ m = c.toNat - n) c.toNat ?_ ?_
     ·
      simp only [Qkw, Qg7, Qkx, Qg8, ↓reduceIte, reduceEqDiff]
      exact ⟨0, List.replicate c.toNat 0, rfl, hH2, by omega, by simp, rfl, rfl⟩
     rintro m e w4 ⟨n, ms, rfl, hH3, k1, k2, k3, rfl⟩
     refine VS [0, 4, 6, 7, 8, 34] ?_
     refine Qaa rfl rfl (fun hn => ?_) (fun hn => ?_)
     ·
      simp only [decide_eq_true_eq] at hn
      refine VC_skip ?_
      (repeat refine Qay ?_)
      refine Qaf (VC_skip (Qam ?_))
      have hcap := (Qna (hH3.at 1 rfl)).1
      refine VH (holes [g2] w4) (Ext.hole _ _) [0, 4, 6, 7, 8] [(0, true), (1, true), (2, true), (3, true), (4, true), (5, true), (6, true), (7, true), (8, true), (9, false), (10, false), (11, false)] fun K hK => ?_
      refine ⟨by omega, I64.mk (by omega) (by omega), by omega, ?_⟩
      refine Qhe ?_
      refine Qs ?_
      rw [if_neg (show ¬ c.toNat = n by omega), if_neg (show ¬ cap = out.length - 4 by omega)]
      simp only [Option.map_some]
      have hsrc := (Qaz (hH3.at 1 rfl)).drop rfl (out.length - 4) (by omega)
      rw [Nat.mul_one, bytesV_drop, Tail.drop h4, hb, show out.length - (out.length - 4) = 4 by omega] at hsrc
      rw [show out.length - (out.length - 4) = 4 by omega]
      refine Qek hH3 0 rfl Tryz.underlying43 sz5 (off := n) rfl ⟨rfl, hsrc, 5, Tryz.underlying43⟩ (Qej _) (by rw [Qc8, k2];omega) fun w5 hu hH4 => ?_
      refine Qs ?_
      have hkk : min 4 (c.toNat - n) <= c.toNat - n := Nat.min_le_right _ _
      have hkk0 : 0 < min 4 (c.toNat - n) := by omega
      have hk4 : min 4 (c.toNat - n) <= 4 := Nat.min_le_left _ _
      generalize min 4 (c.toNat - n) = kk at hH4 hkk hkk0 hk4 ⊢
      refine ⟨hu.extH, I64.mk (by omega) (by omega), ?_⟩
      apply hK;clear hK
      refine Qab ?_
      simp only [Qkw, Qg7, Qkx, Qg8, ↓reduceIte, reduceEqDiff]
      have hset : (bytesV ms).take n ++ (bytesV (List.replicate 4 b)).take (kk * 1) ++ (bytesV ms).drop (n + kk * 1) = bytesV (ms.take n ++ List.replicate kk b ++ ms.drop (n + kk)) := by
       rw [Nat.mul_one, bytesV_take, bytesV_take, bytesV_drop, List.take_replicate, Nat.min_eq_left hk4, Qbq, Qbq]
      rw [hset] at hH4
      obtain ⟨r1, r2⟩ := Qy2 n c.toNat kk b (by omega) ms k2 k3
      exact ⟨c.toNat - (n + kk), by omega, n + kk, _, rfl, hH4, by omega, r1, r2, rfl⟩
     ·
      simp only [decide_eq_false_iff_not] at hn
      refine Qag rfl ?_
      refine Qab ?_
      refine Qs ?_
      refine ⟨rfl, ?_⟩
      have hms : ms = List.replicate c.toNat b := by
       rw [<- List.take_of_length_le (show ms.length <= n by omega), k3];congr 1;omega
      rw [hms] at hH3
      exact hH3
    ·
     rintro e w4 ⟨rfl, hH3⟩
     refine VQ [0, 4, 6] fun K hK => ?_
     refine Qai ?_
     refine Qs ?_
     refine Qpv hH3 1 rfl Tryz.underlying43 zi5 (t := List.replicate c.toNat b) (by simp) (by simpa using Qaz (hH3.at 0 rfl)) (fun h => by simp;omega) fun a' cap' w5 hc' hH4 => ?_
     apply hK;clear hK
     refine VS [0, 4, 5, 6] ?_
     refine Qag rfl ?_
     refine VS [0, 4, 5, 6] ?_
     refine Qab ?_
     exact fin 0 cap' a' _ w5 [] (hH4.sub (by simp)) (by simp;omega) (by omega) (Tail.zero _) h5
  ·
   rw [if_neg hsame] at h5
   generalize hsm : (if 0 < same /\ out.getLastD 0 = l.getD i 0 then same + 1 else 1) = same' at h5
   have hsame' : same' <= 4 /\ Tail (out ++ [l.getD i 0]) same' := by
    rw [<- hsm]
    split
    ·
     rename_i h;exact ⟨by omega, Tail.succ h4 h.2⟩
    ·
     exact ⟨by omega, Tail.one _ _⟩
   refine VS [0, 4, 5, 6, 17] ?_
   refine Qaa rfl rfl (fun h => absurd h (by simp;omega)) (fun _ => ?_)
   refine VC_skip ?_
   refine Qay (Qe3 [0, 4, 5, 6] (fun e w' => Is e [(0, Str l), (4, .slice a out.length cap), (5, .int .i64 same'), (6, .int .i64 i)] /\ Is w' w2) ?_ ?_)
   ·
    have yes : 0 < same /\ out.getLastD 0 = l.getD i 0 -> VC ⟨Tryz.prog, Tryz.f108, fun v w' => Heap w [] w' [] /\ v = .tuple #[Str (decS [] 0 l).1, .int .i64 (decS [] 0 l).2], 78⟩ [] [] w2 -> True := fun _ _ => trivial
    clear yes
    by_cases hs0 : 0 < same
    ·
     have h4' := h4.1
     obtain ⟨g, rfl⟩ := Qfa (hH.at 0 rfl) (by omega)
     have hcell : w2.cell? ⟨g, out.length - 1, none⟩ = some (.int .u8 (out.getLastD 0).toNat) := by
      refine Qa0 (hH.at 0 rfl) ?_
      have h1' := h4.2 0 hs0
      simp only [bytesV, List.getElem?_map]
      rw [show out.length - 1 = out.length - 1 - 0 by omega, h1']
      rfl
     refine Vq [0, 4, 5, 6, 62] fun K hK => ?_
     refine ⟨fun _ => ⟨by omega, I64.mk (by omega) (by omega), by omega, _, hcell, ?_⟩, fun h => absurd (show (0 : Int) < same by omega) h⟩
     refine Qs ?_
     apply hK;clear hK
     refine VD (fun h => ?_) (fun h => ?_)
     ·
      have hl : out.getLastD 0 = l.getD i 0 := (UInt8.toNat_inj.1 (by omega))
      rw [if_pos ⟨hs0, hl⟩] at hsm
      subst hsm
      refine VS [0, 4, 5, 6] ?_
      refine Qab ?_
      refine Qs ?_
      exact ⟨rfl, rfl⟩
     ·
      have hl : ¬ out.getLastD 0 = l.getD i 0 := fun h' => h (by rw [h'])
      rw [if_neg (fun h => hl h.2)] at hsm
      subst hsm
      refine VS [0, 4, 5, 6] ?_
      refine Qab ?_
      refine Qs ?_
      exact ⟨rfl, rfl⟩
    ·
     have : same = 0 := by omega
     subst this
     rw [if_neg (by omega)] at hsm
     subst hsm
     refine Vq [0, 4, 5, 6, 62] fun K hK => ?_
     refine ⟨fun h => absurd h (by omega), fun _ => ?_⟩
     apply hK;clear hK
     refine Qaa rfl rfl (fun h => by cases h) (fun _ => ?_)
     refine VS [0, 4, 5, 6] ?_
     refine Qab ?_
     refine Qs ?_
     exact ⟨rfl, rfl⟩
   ·
    rintro e w3 ⟨rfl, rfl⟩
    refine VS [0, 4, 5, 6, 67] ?_
    by_cases hfull : out.length = 262144
    ·
     rw [if_pos hfull] at h5
     refine Qaa rfl rfl (fun _ => ?_) (fun h => absurd h (by simp;omega))
     refine VS [2, 3] ?_
     refine VC_ret (Qaj rfl rfl rfl ⟨hH.sub (by simp), ?_⟩)
     rw [h5]
    ·
     rw [if_neg hfull] at h5
     refine Qaa rfl rfl (fun h => absurd h (by simp;omega)) (fun _ => ?_)
     refine VC_skip ?_
     refine VQ [0, 4, 5, 6] fun K hK => ?_
     refine ⟨by omega, ?_⟩
     refine Qa6 (xs := [.tmp 71]) Tryz.underlying43 sz5 rfl rfl rfl (by omega) ?_
     refine Qs ?_
     refine ⟨by simp [Value.cells], ?_⟩
     refine Qai ?_
     refine Qs ?_
     refine Qc1 hH 0 (l.getD i 0) rfl Tryz.underlying43 zi5 rfl (fun h => by simp;omega) fun a' cap' w5 hc' hH4 => ?_
     apply hK;clear hK
     refine Qam ?_
     refine VS [0, 4, 5, 6] ?_
     refine Qab ?_
     exact fin same' cap' a' _ w5 [] hH4 (by simp;omega) hsame'.1 hsame'.2 h5
 ·
  simp only [decide_eq_false_iff_not] at hge
  rw [List.drop_of_length_le (by omega)] at h5
  refine Qag rfl ?_
  refine VS [4, 75, 5] ?_
  by_cases hsame : same = 4
  ·
   subst hsame
   refine Qaa rfl rfl (fun _ => ?_) (fun h => absurd h (by simp))
   refine VS [2, 3] ?_
   refine VC_ret (Qaj rfl rfl rfl ⟨hH.sub (by simp), ?_⟩)
   rw [h5];rfl
  ·
   refine Qaa rfl rfl (fun h => absurd h (by simp;omega)) (fun _ => ?_)
   refine VC_skip ?_
   refine VQ [2, 3] fun K hK => ?_
   refine ⟨out, hH.readsBytes 0 rfl, ?_⟩
   apply hK;clear hK
   refine VC_ret (Qaj rfl rfl rfl ⟨hH.sub (by simp), ?_⟩)
   rw [h5];simp [decS, hsame]
theorem Quz {l : List Nat} {n i : Nat} (h : i ∈ idxs l n) : i < l.length := (Qjy.1 h).1
theorem Qsv (l : List Nat) : ∀ (r : List Bool) (n code : Nat) (q : Nat × Nat), Qds l r n code = .ok q -> q.1 < l.length /\ n < q.2 /\ q.2 <= n + r.length := by
 intro r
 induction r with
 | nil => intro n code q h;simp [Qds] at h
 | cons b r ih =>
  intro n code q h
  rw [Qds] at h
  split at h
  ·
   rename_i hc
   cases h
   refine ⟨?_, by simp, by simp⟩
   have hlt : 2 * code + b.toNat - Qao l (n + 1) < (idxs l (n + 1)).length := by unfold cnt at hc;omega
   have := List.getElem_mem hlt
   rw [List.getD_eq_getElem?_getD, List.getElem?_eq_getElem hlt]
   exact Quz this
  ·
   split at h
   ·
    have := ih _ _ _ h
    simp only [List.length_cons]
    omega
   ·
    cases h
theorem Qqo (l : List Nat) : ∀ (r : List Bool) (n code : Nat) (e : Int), Qds l r n code = .error e -> e ≠ 0 := by
 intro r
 induction r with
 | nil => intro n code e h;simp [Qds] at h;omega
 | cons b r ih =>
  intro n code e h
  rw [Qds] at h
  split at h
  ·
   cases h
  ·
   split at h
   ·
    exact ih _ _ _ h
   ·
    cases h;decide
theorem Qmm {l : List Nat} {bits : List Bool} {at_ : Nat} {q : Nat × Nat} (h : Qdt l bits at_ = .ok q) : q.1 < l.length /\ at_ < q.2 /\ q.2 <= bits.length := by
 unfold Qdt at h
 split at h
 ·
  rename_i p hp
  cases h
  have := Qsv l _ _ _ _ hp
  rw [List.length_drop] at this
  simp only
  omega
 ·
  cases h
theorem Qjb {l : List Nat} {bits : List Bool} {at_ : Nat} {e : Int} (h : Qdt l bits at_ = .error e) : e ≠ 0 := by
 unfold Qdt at h
 split at h
 ·
  cases h
 ·
  rename_i e' hp;cases h;exact Qqo l _ _ _ _ hp
theorem Qmn {l : List Nat} {bits : List Bool} {fin : Nat} : ∀ (n at_ : Nat) (q : List Nat × Nat), at_ <= bits.length -> Qcp l bits fin n at_ = .ok q -> (∀ x ∈ q.1, x < l.length) /\ q.1.length <= n /\ q.2 <= bits.length /\ at_ <= q.2 := by
 intro n
 induction n with
 | zero => intro at_ q ha h;rw [Qcp] at h;cases h;simp [ha]
 | succ n ih =>
  intro at_ q ha h
  rw [Qcp] at h
  cases hn : Qdt l bits at_ with
  | error e => rw [hn] at h;cases h
  | ok p =>
   rw [hn] at h
   simp only at h
   obtain ⟨h1, h2, h3⟩ := Qmm hn
   split at h
   ·
    cases h
    refine ⟨by simpa using h1, by simp, h3, by simp only;omega⟩
   ·
    cases hr : Qcp l bits fin n p.2 with
    | error e => rw [hr] at h;cases h
    | ok q' =>
     rw [hr] at h
     cases h
     obtain ⟨g1, g2, g3, g4⟩ := ih _ _ h3 hr
     refine ⟨fun x hx => ?_, by simp only [List.length_cons];omega, g3, by simp only;omega⟩
     rcases List.mem_cons.1 hx with rfl | hx
     ·
      exact h1
     ·
      exact g1 x hx
theorem Qqp {l : List Nat} {bits : List Bool} {fin : Nat} : ∀ (n at_ : Nat) (e : Int), Qcp l bits fin n at_ = .error e -> e ≠ 0 := by
 intro n
 induction n with
 | zero => intro at_ e h;rw [Qcp] at h;cases h
 | succ n ih =>
  intro at_ e h
  rw [Qcp] at h
  cases hn : Qdt l bits at_ with
  | error e' => rw [hn] at h;cases h;exact Qjb hn
  | ok p =>
   rw [hn] at h
   simp only at h
   split at h
   ·
    cases h
   ·
    cases hr : Qcp l bits fin n p.2 with
    | error e' => rw [hr] at h;cases h;exact ih _ _ hr
    | ok q' => rw [hr] at h;cases h
theorem Qh6 {T : List (List Nat)} {bits : List Bool} {fin N : Nat} (hT : ∀ t, t < T.length -> (T.getD t []).length = N) : ∀ (P : List Nat) (at_ : Nat) (q : List Nat × Nat), (∀ k ∈ P, k < T.length) -> at_ <= bits.length -> Qcq T bits fin P at_ = .ok q ->
  (∀ x ∈ q.1, x < N) /\ q.1.length <= 50 * P.length /\ q.2 <= bits.length := by
 intro P
 induction P with
 | nil => intro at_ q _ _ h;rw [Qcq] at h;cases h
 | cons p P ih =>
  intro at_ q hP ha h
  rw [Qcq] at h
  have hp := hT p (hP p (by simp))
  cases hn : Qcp (T.getD p []) bits fin 50 at_ with
  | error e => rw [hn] at h;cases h
  | ok q1 =>
   rw [hn] at h
   simp only at h
   obtain ⟨h1, h2, h3, h4⟩ := Qmn _ _ _ ha hn
   rw [hp] at h1
   split at h
   ·
    cases h
    refine ⟨h1, by simp only [List.length_cons];omega, h3⟩
   ·
    cases hr : Qcq T bits fin P q1.2 with
    | error e => rw [hr] at h;cases h
    | ok q' =>
     rw [hr] at h
     cases h
     obtain ⟨g1, g2, g3⟩ := ih _ _ (fun k hk => hP k (by simp [hk])) h3 hr
     refine ⟨fun x hx => ?_, by simp only [List.length_cons, List.length_append];omega, g3⟩
     rcases List.mem_append.1 hx with hx | hx
     ·
      exact h1 x hx
     ·
      exact g1 x hx
theorem Qgm {T : List (List Nat)} {bits : List Bool} {fin : Nat} : ∀ (P : List Nat) (at_ : Nat) (e : Int), Qcq T bits fin P at_ = .error e -> e ≠ 0 := by
 intro P
 induction P with
 | nil => intro at_ e h;rw [Qcq] at h;cases h;decide
 | cons p P ih =>
  intro at_ e h
  rw [Qcq] at h
  cases hn : Qcp (T.getD p []) bits fin 50 at_ with
  | error e' => rw [hn] at h;cases h;exact Qqp _ _ _ hn
  | ok q1 =>
   rw [hn] at h
   simp only at h
   split at h
   ·
    cases h
   ·
    cases hr : Qcq T bits fin P q1.2 with
    | error e' => rw [hr] at h;cases h;exact ih _ _ hr
    | ok q' => rw [hr] at h;cases h
theorem Qy3 {n most : Int} (hn : n <= 256) : ∀ (r out : List Int) (wt : Nat), (out.length : Int) <= most -> (∀ x ∈ out, 0 <= x /\ x <= 256) -> ((zdec n most out wt r).1.length : Int) <= most /\ ∀ x ∈ (zdec n most out wt r).1, 0 <= x /\ x <= 256 := by
 intro r
 induction r with
 | nil => intro out wt h _;rw [zdec];simp;omega
 | cons s r ih =>
  intro out wt h ho
  rw [zdec]
  split
  ·
   simp;omega
  ·
   split
   ·
    split
    ·
     simp;omega
    ·
     refine ih _ _ ?_ ?_
     ·
      rename_i h1 h2 h3
      have h4 : 0 <= (s + 1) * (wt : Int) := Int.mul_nonneg (by omega) (by omega)
      rw [List.length_append, List.length_replicate]
      omega
     ·
      intro x hx
      rcases List.mem_append.1 hx with hx | hx
      ·
       exact ho x hx
      ·
       rw [List.mem_replicate] at hx;omega
   ·
    split
    ·
     cases r with
     | nil => exact ⟨h, ho⟩
     | cons x r => rw [zend];split <;> (simp;omega)
    ·
     split
     ·
      simp;omega
     ·
      refine ih _ _ (by rw [List.length_append, List.length_singleton];omega) fun x hx => ?_
      rcases List.mem_append.1 hx with hx | hx
      ·
       exact ho x hx
      ·
       simp at hx;omega
theorem Qjc {n most : Int} (l : List Int) : (Qbo n most l).1.length <= 262144 /\ ∀ x ∈ (Qbo n most l).1, 0 <= x /\ x <= 256 := by
 unfold Qbo
 split
 ·
  simp
 ·
  have := Qy3 (n := n) (most := most) (by omega) l [] 1 (by simp;omega) (by simp)
  exact ⟨by omega, this.2⟩
theorem Qf3 : ∀ (l : List Int) (li out : List UInt8), Qa4 li l = some out -> out.length = l.length := by
 intro l
 induction l with
 | nil => intro li out h;simp [Qa4] at h;subst h;rfl
 | cons x l ih =>
  intro li out h
  unfold Qa4 at h
  split at h
  ·
   simp only [Option.map_eq_some_iff] at h
   obtain ⟨o, ho, rfl⟩ := h
   simp [ih _ _ ho]
  ·
   cases h
theorem Qmo (u : List UInt8) (l : List Int) : (Qbs u l).1.length <= l.length := by
 unfold Qbs
 split
 ·
  split
  ·
   simp
  ·
   rename_i out h;exact Nat.le_of_eq (Qf3 _ _ _ h)
 ·
  simp
theorem Qqq (L : List UInt8) (P : List Nat) : ∀ (k row : Nat), (Qdr L P k row).length = k := by
 intro k
 induction k with
 | zero => intro row;rfl
 | succ k ih => intro row;simp [Qdr, ih]
theorem Qo7 (L : List UInt8) (row : Int) : (bckS L row).1.length <= 262144 := by
 unfold bckS
 split
 ·
  simp
 ·
  split
  ·
   simp
  ·
   simp only [Qqq];omega
theorem Qy4 : ∀ (l out : List UInt8) (k : Nat), out.length <= 262144 -> (decS out k l).1.length <= 262144 := by
 intro l
 induction l with
 | nil => intro out k h;rw [decS];split <;> simp <;> omega
 | cons c l ih =>
  intro out k h
  rw [decS]
  split
  ·
   split
   ·
    simp
   ·
    exact ih _ _ (by simp;omega)
  ·
   split
   ·
    simp
   ·
    exact ih _ _ (by simp;omega)
theorem Qmp (i : Nat) (row : List Bool) : (Qfy i row).length <= 16 := by
 unfold Qfy
 rw [List.length_map]
 have := List.length_filter_le (fun k => row.getD k false) (List.range 16)
 simpa using this
theorem Qy5 {bits : List Bool} : ∀ (r : List Bool) (i at_ : Nat) (q : List UInt8 × Nat), at_ <= bits.length -> stGo bits r i at_ = .ok q -> q.2 <= bits.length /\ q.1.length <= 16 * r.length := by
 intro r
 induction r with
 | nil => intro i at_ q ha h;rw [stGo] at h;cases h;simp [ha]
 | cons b r ih =>
  intro i at_ q ha h
  cases b with
  | false => rw [stGo] at h;have := ih _ _ _ ha h;simp only [List.length_cons];omega
  | true =>
   rw [stGo] at h
   split at h
   ·
    cases h
   ·
    cases hr : stGo bits r (i + 1) (at_ + 16) with
    | error e => rw [hr] at h;cases h
    | ok q' =>
     rw [hr] at h
     cases h
     have h1 := ih _ _ _ (by omega) hr
     have h2 := Qmp i ((bits.drop at_).take 16)
     simp only [List.length_cons, List.length_append]
     omega
theorem Qu0 {bits : List Bool} : ∀ (r : List Bool) (i at_ : Nat) (e : Int), stGo bits r i at_ = .error e -> e ≠ 0 := by
 intro r
 induction r with
 | nil => intro i at_ e h;rw [stGo] at h;cases h
 | cons b r ih =>
  intro i at_ e h
  cases b with
  | false => rw [stGo] at h;exact ih _ _ _ h
  | true =>
   rw [stGo] at h
   split at h
   ·
    cases h;decide
   ·
    cases hr : stGo bits r (i + 1) (at_ + 16) with
    | error e' => rw [hr] at h;cases h;exact ih _ _ _ hr
    | ok q' => rw [hr] at h;cases h
theorem Qfk {bits : List Bool} {at_ : Nat} {q : List UInt8 × Nat} (h : Qbi bits at_ = .ok q) : q.2 <= bits.length /\ 1 <= q.1.length /\ q.1.length <= 256 := by
 unfold Qbi at h
 split at h
 ·
  cases h
 ·
  cases hr : stGo bits ((bits.drop at_).take 16) 0 (at_ + 16) with
  | error e => rw [hr] at h;cases h
  | ok q' =>
   rw [hr] at h
   simp only at h
   split at h
   ·
    cases h
   ·
    rename_i hne
    cases h
    have h1 := Qy5 _ _ _ _ (by omega) hr
    have h2 : ((bits.drop at_).take 16).length <= 16 := by rw [List.length_take];omega
    have h3 : 0 < q.1.length := by
     cases hq : q.1 with
     | nil => exact absurd hq hne
     | cons a b => simp
    omega
theorem Qex {bits : List Bool} {at_ : Nat} {e : Int} (h : Qbi bits at_ = .error e) : e ≠ 0 := by
 unfold Qbi at h
 split at h
 ·
  cases h;decide
 ·
  cases hr : stGo bits ((bits.drop at_).take 16) 0 (at_ + 16) with
  | error e' => rw [hr] at h;cases h;exact Qu0 _ _ _ _ hr
  | ok q' =>
   rw [hr] at h
   simp only at h
   split at h
   ·
    cases h;decide
   ·
    cases h
set_option maxHeartbeats 4000000
theorem TabG.mono {G G' : List Res} {v : Value} {l : List Nat} (h : TabG G v l) (hs : ∀ r ∈ G, r ∈ G') : TabG G' v l := fun w hw => h w fun r hr => hw r (hs r hr)
theorem Qsw (v : Value) (T : List (List Nat)) (P : List Nat) (hm : mayP T P) (l : List Bool) (a : Option Addr) (c at_ : Nat) (hat : at_ <= l.length) (hl : l.length <= 1000000000000) (w : World) (hp : PlanAt w v T P) (hs : SL w a l.length c (Qal (bI l))) :
  Does Tryz.prog 53 #[v, .slice a l.length c, .int .i64 at_] w (Qi6 (Qcq T l ((T.getD 0 []).length - 1) P at_) w) := by
 rw [<- Qyu]
 have hp0 := hp
 obtain ⟨ta, tc, pa, pc, hs0, rfl, hsl, hrT, hrP, hrt⟩ := hp
 have hm0 := hm
 obtain ⟨m1, m2, m3, m4, m5, m6⟩ := hm
 have hT0 : T[0]? = some (T.getD 0 []) := by rw [List.getD_eq_getElem?_getD, List.getElem?_eq_getElem (by omega)];rfl
 have hn0 : 3 <= (T.getD 0 []).length /\ (T.getD 0 []).length <= 258 := by
  obtain ⟨e1, e2, e3⟩ := m5 _ (List.mem_of_getElem? hT0)
  exact ⟨e2, e3.2.1⟩
 obtain ⟨qt, rfl⟩ := Qbe hrT (by omega)
 obtain ⟨qp, rfl⟩ := Qbe hrP (by omega)
 obtain ⟨h0, hh0⟩ : ∃ h0, hs0[0]? = some h0 := ⟨_, List.getElem?_eq_getElem (by omega)⟩
 have hc0 := hrT.2.2 qt rfl 0 _ (Qbk hh0 hT0)
 have hen : #[Value.agg #[.slice (some qt) T.length tc, .slice (some qp) P.length pc], .slice a l.length c, .int .i64 at_] = [Value.agg (Qaq (some qt) T.length tc (some qp) P.length pc).toArray, .slice a l.length c, .int .i64 at_].toArray := rfl
 rw [hen]
 refine Qc7 85 Tryz.func53 rfl rfl (of_decide_eq_true rfl) ?_
 simp only [Env.ofArgs]
 generalize hn : (T.getD 0 []).length = n0 at *
 generalize hres : getF T l (n0 - 1) P (50 * P.length) 0 at_ = res
 generalize hnt : T.length = nt at *
 generalize hnp : P.length = np at *
 refine VQ [1, 2, 3] fun K hK => ?_
 refine Qc0 ?_
 refine Qs ?_
 have hH := (Heap.start w).box 65 (Qaq (some qt) nt tc (some qp) np pc)
 generalize w.alloc (Obj.cells (Qaq (some qt) nt tc (some qp) np pc).toArray 65) = w1 at *
 generalize w.heap.size = gp at *
 apply hK;clear hK
 refine VQ [1, 2, 3, 18] fun K hK => ?_
 refine ⟨Qaq (some qt) nt tc (some qp) np pc, ⟨rfl, Qcc (hH.at 0 rfl)⟩, ?_⟩
 (try refine Qs ?_)
 refine MemK_call Tryz.call112 ?_;refine Qs ?_;refine CallK.mk (Qoa _ T P hm0 w1 (hp0.keep hH)) ?_
 rintro v w2 ⟨hHm, rfl⟩
 have hH2 := hH.call0 hHm
 simp only [List.nil_append] at hH2
 clear hH hHm
 (try refine Qs ?_)
 (repeat refine Qo ?_);apply hK;clear hK
 refine Qaa rfl rfl (fun h => by simp at h) (fun h => VC_skip ?_)
 clear h
 refine VQ [1, 2, 3, 26] fun K hK => ?_
 suffices out : ∀ b : Bool, (b = true ↔ False) -> K [(1, .slice a l.length c), (2, .int .i64 at_), (3, .pointer (some ⟨gp, 0, none⟩)), (26, .bool b)] w2 by (repeat' (first | exact out _ _ (by first | omega | (simp;done) | (simp;omega)) | exact out _ (by first | omega | (simp;done) | (simp;omega)) | refine ⟨fun _ => ?_, fun _ => ?_⟩ | refine Qo ?_))
 intro b hb
 apply hK;clear hK
 refine Qaa rfl rfl (fun h => (hb.1 h).elim) (fun h => VC_skip ?_)
 clear hb h
 refine VS [1, 2, 3, 9] ?_
 refine VS [1, 2, 3, 9, 10] ?_
 refine Qaf ?_
 refine Qae [1, 2, 3, 9, 10] (fun m e w' => ∃ (i cap : Nat) (ao : Option Addr) (vs : List Value) (G : List Res), Is e [(1, .slice a l.length c), (2, .int .i64 at_), (3, .pointer (some ⟨gp, 0, none⟩)), (9, .slice ao i cap), (10, .int .i64 i)] /\ Heap w [] w' (Res.row 63 1 ao i cap vs :: Res.blk gp 65 (Qaq (some qt) nt tc (some qp) np pc) :: G) /\ vs.length = i /\ (∀ u ∈ vs, u.oneCell' = true) /\ (∀ (j : Nat) (u : Value) (t : List Nat), vs[j]? = some u -> T[j]? = some t -> TabG G u t) /\ i <= nt /\ m = nt - i) nt ?_ ?_
 ·
  refine Qs ?_
  exact ⟨0, 0, none, [], [], rfl, hH2.nilRow 63 1, rfl, by simp, by simp, by omega, rfl⟩
 clear hH2
 rintro m e w' ⟨i, cap, ao, vs, G, rfl, hH, hvl, hv1, hvT, hi, rfl⟩
 have c0 : w'.cell? ⟨gp, 0, none⟩ = some (.slice (some qt) nt tc) := Qah (hH.at 1 rfl) rfl
 refine VQ [1, 2, 3, 9, 10, 31] fun K hK => ?_
 refine ⟨_, c0, ?_⟩
 (try refine Qs ?_)
 (repeat refine Qo ?_);apply hK;clear hK
 refine VD (fun h => ?_) (fun h => ?_)
 ·
  have hTi : T[i]? = some (T.getD i []) := by rw [List.getD_eq_getElem?_getD, List.getElem?_eq_getElem (by omega)];rfl
  obtain ⟨hh, hhi⟩ : ∃ hh, hs0[i]? = some hh := ⟨_, List.getElem?_eq_getElem (by omega)⟩
  have hci := (hH.rs' hrT).2.2 qt rfl i _ (Qbk hhi hTi)
  obtain ⟨e1, e2, e3⟩ := m5 _ (List.mem_of_getElem? hTi)
  have htb := Qod (T.getD i []) e3 hh.1 hh.2 w' (hH.rs' (hrt i hh _ hhi hTi))
  generalize ht : T.getD i [] = t at *
  refine VC_skip ?_
  refine VB ?_
  refine VQ [1, 2, 3, 9, 10] fun K hK => ?_
  refine ⟨_, c0, ?_⟩
  (try refine Qs ?_)
  refine ⟨⟨by omega, by omega⟩, _, hci, ?_⟩
  (try refine Qs ?_)
  refine MemK_call Tryz.call113 ?_;refine Qs ?_;refine CallK.mk htb ?_
  rintro v w3 ⟨G', hHt, hTG⟩
  have hH2 := (hH.call0 hHt).perm (List.perm_middle.trans (List.Perm.cons _ List.perm_middle))
  obtain ⟨p, ct, hst, hvs, _⟩ := hTG w3 fun r hr => hHt.holds r hr
  clear hH hHt htb c0 hci
  subst hvs
  (try refine Qs ?_)
  refine Qbg hH2 [.slice (some p) t.length ct] (xs := [.tmp 40]) Tryz.underlying155 sz63 rfl rfl rfl (by omega) ?_
  refine Qs ?_
  refine ⟨trivial, by simp [Value.cells], fun gl w12 hH3 => ?_⟩
  (try refine Qs ?_)
  refine Qai ?_
  refine Qs ?_
  refine Qb8 (zs := #[.slice none 0 0]) (bytes := 24) hH3 1 rfl Tryz.underlying155 (by kernel_rfl) rfl ⟨rfl, Qaz (hH3.at 0 rfl), 63, Tryz.underlying155⟩ (by simp [Value.oneCell']) (fun h => by omega) fun a' cap' w13 hc' hH4 => ?_
  simp only [List.set_cons_succ, List.set_cons_zero] at hH4
  have hH5 := hH4.sub (List.sublist_cons_self _ _)
  clear hH2 hH3 hH4
  (try refine Qs ?_)
  apply hK;clear hK
  refine Qam ?_
  refine VS [1, 2, 3, 9, 10] ?_
  refine Qab ?_
  refine Qs ?_
  refine ⟨nt - (i + 1), by omega, i + 1, cap', a', vs ++ [.slice (some p) t.length ct], G' ++ G, rfl, hH5, by simp [hvl], ?_, ?_, by omega, rfl⟩
  ·
   intro u hu
   rcases List.mem_append.1 hu with hu | hu
   ·
    exact hv1 u hu
   ·
    simp at hu;subst hu;rfl
  ·
   intro j u t' hu ht'
   by_cases hj : j < i
   ·
    rw [List.getElem?_append_left (by omega)] at hu
    exact (hvT j u t' hu ht').mono fun r hr => List.mem_append_right _ hr
   ·
    have hji : j = i := by
     have := (List.getElem?_eq_some_iff.1 hu).1
     simp at this;omega
    subst hji
    rw [List.getElem?_append_right (by omega), hvl, Nat.sub_self] at hu
    cases hu
    rw [hTi] at ht'
    cases ht'
    exact hTG.mono fun r hr => List.mem_append_left _ hr
 obtain rfl : i = nt := by omega
 clear h hi c0
 refine Qag rfl ?_
 have hk := hH.nilRow 3 1
 clear hH
 generalize i = nt at *
 refine VS [1, 2, 3, 9, 11] ?_
 refine VS [1, 2, 3, 9, 11, 12] ?_
 refine Qaf ?_
 refine Qae [1, 2, 3, 9, 11, 12] (fun m e w' => ∃ (i p c1 : Nat) (a1 : Option Addr) (o : List Nat), Is e [(1, .slice a l.length c), (2, .int .i64 p), (3, .pointer (some ⟨gp, 0, none⟩)), (9, .slice ao nt cap), (11, .slice a1 o.length c1), (12, .int .i64 i)] /\ Heap w [] w' (Res.row 3 1 a1 o.length c1 (Qas o) :: Res.row 63 1 ao nt cap vs :: Res.blk gp 65 (Qaq (some qt) nt tc (some qp) np pc) :: G) /\ o.length = i /\ i <= 50 * np /\ p <= l.length /\ (match getF T l (n0 - 1) P (50 * np - i) i p with | .error e => .error e | .ok q => .ok (o ++ q.1, q.2)) = res /\ m = 50 * np - i) (50 * np) ?_ ?_
 ·
  refine Qs ?_
  refine ⟨0, at_, 0, none, [], rfl, hk, rfl, by omega, hat, ?_, rfl⟩
  rw [Nat.sub_zero, hres]
  cases res <;> rfl
 clear hk hres
 rintro m e w4 ⟨i, p, c1, a1, o, rfl, hH, hol, hi, hpl, hres, rfl⟩
 have c0 : w4.cell? ⟨gp, 0, none⟩ = some (.slice (some qt) nt tc) := Qah (hH.at 2 rfl) rfl
 have c1' : w4.cell? ⟨gp, 1, none⟩ = some (.slice (some qp) np pc) := Qah (hH.at 2 rfl) rfl
 refine VQ [1, 2, 3, 9, 11, 12, 48] fun K hK => ?_
 refine ⟨_, c1', ?_⟩
 (try refine Qs ?_)
 (repeat refine Qo ?_);apply hK;clear hK
 refine VD (fun h => ?_) (fun h => ?_)
 ·
  obtain ⟨k, hk⟩ : ∃ k, 50 * np - i = k + 1 := ⟨50 * np - i - 1, by omega⟩
  rw [hk, getF] at hres
  have hjn : i / 50 < np := by omega
  have hcp := Qea (hH.rs' hrP) (i := i / 50) (by omega)
  have hlt := m6 _ (Qbl 0 (l := P) (i := i / 50) (by omega))
  generalize P.getD (i / 50) 0 = x at *
  have hTx : T[x]? = some (T.getD x []) := by rw [List.getD_eq_getElem?_getD, List.getElem?_eq_getElem (by omega)];rfl
  obtain ⟨e1, e2, e3⟩ := m5 _ (List.mem_of_getElem? hTx)
  obtain ⟨u, hu⟩ : ∃ u, vs[x]? = some u := ⟨_, List.getElem?_eq_getElem (by omega)⟩
  have htab := hvT x u _ hu hTx w4 fun r hr => hH.holds r (by simp [hr])
  obtain ⟨po, rfl⟩ := Qbe (Qaz (hH.at 1 rfl)) (by omega)
  have hcu := (Qaz (hH.at 1 rfl)).2.2 po rfl x u hu
  have hnx := Qql (T.getD x []) e3 l p hpl hl u a c w4 htab ⟨hH.rs' hs.1, hs.2⟩
  have hnok := fun q => Qmm (l := T.getD x []) (bits := l) (at_ := p) (q := q)
  have hner := fun e => Qjb (l := T.getD x []) (bits := l) (at_ := p) (e := e)
  generalize Qdt (T.getD x []) l p = rn at *
  have hdi : (i : Int) / 50 = ((i / 50 : Nat) : Int) := by omega
  refine VC_skip ?_
  refine VB ?_
  refine VQ [1, 3, 9, 11, 12, 13, 14, 15] fun K hK => ?_
  refine ⟨_, c1', by omega, by decide, I64.mk (by omega) (by omega), ?_⟩
  rw [hdi]
  (try refine Qs ?_)
  refine ⟨⟨by omega, by omega⟩, _, hcp, ?_⟩
  (try refine Qs ?_)
  refine ⟨⟨by omega, by omega⟩, _, hcu, ?_⟩
  (try refine Qs ?_)
  refine MemK_call Tryz.call114 ?_;refine Qs ?_;refine CallK.mk hnx ?_
  rintro v w5 ⟨rfl, rfl⟩
  cases rn with
  | error e =>
   have hne := hner e rfl
   unfold exN
   subst hres
   (try refine Qs ?_)
   apply hK;clear hK
   refine VS [1, 3, 9, 11, 12, 13, 14, 15, 68] ?_
   refine Qaa rfl rfl (fun h => ?_) (fun h => by simp at h;exact absurd h hne)
   refine VS [6, 7, 8] ?_
   exact VC_ret (Qap rfl rfl rfl rfl ⟨hH.sub (by simp), rfl⟩)
  | ok q =>
   obtain ⟨q1, q2, q3⟩ := hnok q rfl
   obtain ⟨y, to⟩ := q
   simp only at q1 q2 q3 hres
   unfold exN
   (try refine Qs ?_)
   apply hK;clear hK
   refine VS [1, 3, 9, 11, 12, 13, 14, 15, 68] ?_
   refine Qaa rfl rfl (fun h => by simp at h) (fun h => VC_skip ?_)
   clear h
   refine VQ [1, 3, 9, 11, 12, 13, 14] fun K hK => ?_
   refine Qa6 (xs := [.tmp 71]) Tryz.underlying36 sz3 rfl rfl rfl (by omega) ?_;refine Qs ?_;refine ⟨by simp [Value.cells], ?_⟩
   refine Qai ?_;refine Qs ?_;refine Qd5 hH 0 (y) rfl Tryz.underlying36 zi3 (by first | rfl | (simp;done) | omega | (simp;omega)) (fun h => by (first | omega | (simp;done) | (simp;omega))) fun a' cap' w5 hc' hH2 => ?_;(try refine Qs ?_)
   apply hK;clear hK
   refine VS [1, 2, 3, 9, 11, 12, 13] ?_
   have c02 : w5.cell? ⟨gp, 0, none⟩ = some (.slice (some qt) nt tc) := Qah (hH2.at 2 rfl) rfl
   have hc02 := (hH2.rs' hrT).2.2 qt rfl 0 _ (Qbk hh0 hT0)
   rw [hn] at hc02
   refine VQ [1, 2, 3, 9, 11, 12, 82] fun K hK => ?_
   refine ⟨_, c02, ?_⟩
   (try refine Qs ?_)
   refine ⟨by omega, _, hc02, ?_⟩
   (try refine Qs ?_)
   (repeat refine Qo ?_);apply hK;clear hK
   refine VD (fun h => ?_) (fun h => VC_skip ?_)
   ·
    rw [if_pos (by omega)] at hres
    subst hres
    refine VS [6, 7, 8] ?_
    exact VC_ret (Qap rfl rfl rfl rfl ⟨_, _, hH2.sub (by simp), rfl⟩)
   rw [if_neg (by omega)] at hres
   refine Qam ?_
   refine VS [1, 2, 3, 9, 11, 12] ?_
   refine Qab ?_
   refine Qs ?_
   refine ⟨50 * np - (i + 1), by omega, i + 1, to, cap', a', o ++ [y], rfl, hH2, by simp;omega, by omega, by omega, ?_, rfl⟩
   rw [show 50 * np - (i + 1) = k by omega, <- hres]
   cases getF T l (n0 - 1) P k (i + 1) to <;> simp
 ·
  refine Qag rfl ?_
  rw [show 50 * np - i = 0 by omega, getF] at hres
  subst hres
  refine VS [6, 7, 8] ?_
  exact VC_ret (Qap rfl rfl rfl rfl ⟨hH.sub (by simp), rfl⟩)
set_option maxHeartbeats 2000000
theorem Qog (s : List UInt8) (b : UInt8) (hs : s.length <= 1000000000000) (w : World) : Does Tryz.prog 139 #[Str s, .int .u8 b.toNat] w fun v w' => w' = w /\ v = .int .i64 (s.idxOf b : Nat) := by
 refine En [Str s, .int .u8 b.toNat] 20 Tryz.func139 ?_
 refine VS [0, 1] ?_
 refine VS [0, 1, 5] ?_
 refine Qaf ?_
 refine Qae [0, 1, 5] (fun m e w' => ∃ (i : Nat), Is e [(0, Str s), (1, .int .u8 b.toNat), (5, .int .i64 i)] /\ Is w' w /\ s.idxOf b = i + (s.drop i).idxOf b /\ i <= s.length /\ m = s.length - i) s.length ?_ ?_
 ·
  refine Qs ?_
  exact ⟨0, rfl, rfl, by simp, by omega, rfl⟩
 rintro m e w' ⟨i, rfl, rfl, hx, hi, rfl⟩
 refine VS [0, 1, 5, 9] ?_
 refine VD (fun h => ?_) (fun h => ?_)
 ·
  have hi' : i < s.length := by omega
  refine VC_skip ?_
  refine VB ?_
  have hd := Qa1 (0 : UInt8) hi'
  rw [hd, List.idxOf_cons] at hx
  refine VS [0, 1, 5, 16] ?_
  refine Qaa rfl rfl (fun h2 => ?_) (fun h2 => VC_skip ?_)
  ·
   simp only [decide_eq_true_eq] at h2
   have he : s.getD i 0 = b := UInt8.toNat_inj.1 (by omega)
   simp only [he, beq_self_eq_true, cond_true] at hx
   refine VS [4] ?_
   refine VC_ret (VX_ret1 rfl rfl ⟨rfl, ?_⟩)
   rw [hx];rfl
  simp only [decide_eq_false_iff_not] at h2
  have he : ¬ s.getD i 0 = b := fun e => h2 (by rw [e])
  have hbf : (s.getD i 0 == b) = false := by simpa using he
  rw [hbf, cond_false] at hx
  refine Qam ?_
  refine VS [0, 1, 5] ?_
  refine Qab ?_
  refine Qs ?_
  exact ⟨s.length - (i + 1), by omega, i + 1, rfl, rfl, by omega, by omega, rfl⟩
 ·
  obtain rfl : i = s.length := by omega
  refine Qag rfl ?_
  rw [List.drop_length] at hx
  refine VS [4] ?_
  refine VC_ret (VX_ret1 rfl rfl ⟨rfl, ?_⟩)
  rw [hx];rfl
theorem Qsx (s : List UInt8) (b : Nat) (hb : b < 256) : (s.any fun c => c.toNat == b) = true ↔ s.idxOf (UInt8.ofNat b) < s.length := by
 rw [List.idxOf_lt_length_iff, List.any_eq_true]
 constructor
 ·
  rintro ⟨c, hc, e⟩
  simp only [beq_iff_eq] at e
  have : UInt8.ofNat b = c := by rw [<- e];exact UInt8.ofNat_toNat
  rw [this];exact hc
 ·
  intro h
  exact ⟨_, h, by simp [Nat.mod_eq_of_lt hb]⟩
theorem Qsy (s : List UInt8) (hs : s.length <= 1000000000000) (w : World) : Does Tryz.prog 90 #[Str s] w fun v w' => Heap w [] w' [] /\ v = Str (Qgh s) := by
 refine En [Str s] 23 Tryz.func90 ?_
 refine VS [0] ?_
 refine VS [0, 3] ?_
 refine VS [0, 3, 4] ?_
 refine Qaf ?_
 refine Qae [0, 3, 4] (fun m e w' => ∃ (b : Nat), Is e [(0, Str s), (3, Str (Qjz s b)), (4, .int .i64 b)] /\ Heap w [] w' [] /\ b <= 256 /\ m = 256 - b) 256 ?_ ?_
 ·
  refine Qs ?_
  exact ⟨0, rfl, Heap.start w, by omega, rfl⟩
 rintro m e w' ⟨b, rfl, hH, hb, rfl⟩
 refine VS [0, 3, 4, 6] ?_
 refine VD (fun h => ?_) (fun h => ?_)
 ·
  have hb' : b < 256 := by omega
  refine VC_skip ?_
  refine VB ?_
  have hbn : ((UInt8.ofNat b).toNat : Int) = b := by simp only [UInt8.toNat_ofNat', Nat.reducePow];omega
  have hul := Qrx s b
  have hus := Qqf s b
  refine VQ [0, 3, 4, 15] fun K hK => ?_
  rw [show (b : Int) % 256 = ((UInt8.ofNat b).toNat : Int) by omega]
  refine MemK_call Tryz.call139 ?_;refine Qs ?_;refine CallK.mk (Qog s (UInt8.ofNat b) hs w') ?_
  rintro v w2 ⟨rfl, rfl⟩
  (try refine Qs ?_)
  (repeat refine Qo ?_);apply hK;clear hK
  refine VD (fun h => ?_) (fun h => ?_)
  ·
   rw [if_pos ((Qsx s b hb').2 (by omega))] at hus
   refine VQ [0, 3, 4] fun K hK => ?_
   rw [show (b : Int) % 256 = ((UInt8.ofNat b).toNat : Int) by omega]
   refine Qbg hH (bytesV [UInt8.ofNat b]) (xs := [.tmp 18]) Tryz.underlying43 sz5 rfl rfl rfl (by omega) ?_;refine Qs ?_;refine ⟨rfl, by simp [Value.cells], fun g w4 hH2 => ?_⟩;(try refine Qs ?_)
   refine ⟨[UInt8.ofNat b], hH2.readsBytes 0 rfl, ?_⟩
   (try refine Qs ?_)
   refine ⟨by simp only [List.length_singleton];omega, ?_⟩
   apply hK;clear hK
   refine Qam ?_
   refine VS [0, 3, 4] ?_
   refine Qab ?_
   refine Qs ?_
   exact ⟨256 - (b + 1), by omega, b + 1, by rw [hus];rfl, hH2.sub (by simp), by omega, rfl⟩
  ·
   rw [if_neg (fun hh => h (by have := (Qsx s b hb').1 hh;omega)), List.append_nil] at hus
   refine VC_skip ?_
   refine Qam ?_
   refine VS [0, 3, 4] ?_
   refine Qab ?_
   refine Qs ?_
   exact ⟨256 - (b + 1), by omega, b + 1, by rw [hus];rfl, hH, by omega, rfl⟩
 ·
  obtain rfl : b = 256 := by omega
  refine Qag rfl ?_
  refine VS [2] ?_
  exact VC_ret (VX_ret1 rfl rfl ⟨hH, rfl⟩)
theorem Qqr (u : List UInt8) (hu : Qgh u = u) (hne : u ≠ []) (hs : u.length <= 1000000000000) (w : World) : Does Tryz.prog 116 #[Str u] w fun v w' => Heap w [] w' [] /\ v = .bool true := by
 refine En [Str u] 11 Tryz.func116 ?_
 refine VS [0] ?_
 refine VQ [2] fun K hK => ?_
 refine ⟨fun _ => ?_, fun h => absurd hne h⟩
 refine MemK_call Tryz.call90 ?_;refine Qs ?_;refine CallK.mk (Qsy u hs w) ?_
 rintro v w2 ⟨hH, rfl⟩
 rw [hu]
 (try refine Qs ?_)
 apply hK;clear hK
 exact VC_ret (VX_ret1 rfl rfl ⟨hH, by simp⟩)
theorem Qkk (li : List UInt8) (k : Nat) (hk : k < li.length) (hs : li.length <= 1000000000000) (w : World) : Does Tryz.prog 117 #[Str li, .int .i64 k] w fun v w' => w' = w /\ v = Str (Qeb li k) := by
 have e1 : (li.drop k).take 1 = [li.getD k 0] := by rw [Qa1 (0 : UInt8) hk];rfl
 refine En [Str li, .int .i64 k] 19 Tryz.func117 ?_
 refine VS [0, 1] ?_
 refine Vq [4] fun K hK => ?_
 rw [show k + 1 - k = 1 by omega, e1]
 refine ⟨I64.mk (by omega) (by omega), ⟨by omega, by omega, by omega⟩, ⟨by omega, by omega⟩, by simp;omega, I64.mk (by omega) (by omega), ⟨by omega, by omega⟩, by simp;omega, ?_⟩
 apply hK;clear hK
 exact VC_ret (VX_ret1 rfl rfl ⟨rfl, by simp [Qeb]⟩)
theorem Qoh (l : List Int) (u out : List UInt8) (hu : Qgh u = u) (hne : u ≠ []) (hs : u.length <= 256) (hl : l.length <= 1000000000) (hin : ∀ v ∈ l, 0 <= v /\ v < u.length) (hbk : Qa4 u l = some out) (a : Option Addr) (c : Nat) (w : World) (hr : RS w a l.length 1 (Qal l)) :
  Does Tryz.prog 55 #[.slice a l.length c, Str u] w fun v w' => Heap w [] w' [] /\ v = .tuple #[Str out, .int .i64 0] := by
 refine En [.slice a l.length c, Str u] 50 Tryz.func55 ?_
 generalize hn : l.length = n at *
 refine VS [0, 1] ?_
 refine VQ [0, 1, 11] fun K hK => ?_
 refine MemK_call Tryz.call116 ?_;refine Qs ?_;refine CallK.mk (Qqr u hu hne (by omega) w) ?_
 rintro v w2 ⟨hH, rfl⟩
 (try refine Qs ?_)
 (repeat refine Qo ?_);apply hK;clear hK
 refine Qaa rfl rfl (fun h => by simp at h) (fun h => VC_skip ?_)
 clear h
 refine VS [0, 1, 6] ?_
 refine VS [0, 6, 7] ?_
 refine VS [0, 6, 7, 8] ?_
 refine Qaf ?_
 refine Qae [0, 6, 7, 8] (fun m e w' => ∃ (i cap : Nat) (ao : Option Addr) (li o : List UInt8), Is e [(0, .slice a n c), (6, .slice ao o.length cap), (7, Str li), (8, .int .i64 i)] /\ Heap w [] w' [Res.row 5 1 ao o.length cap (bytesV o)] /\ i <= n /\ o.length = i /\ li.length = u.length /\ (Qa4 li (l.drop i)).map (o ++ ·) = some out /\ m = n - i) n ?_ ?_
 ·
  refine Qs ?_
  exact ⟨0, 0, none, u, [], rfl, hH.nilRow 5 1, by omega, rfl, rfl, by rw [List.drop_zero, hbk];rfl, rfl⟩
 clear hH
 rintro m e w' ⟨i, cap, ao, li, o, rfl, hH, hi, ho, hli, hres, rfl⟩
 refine VS [0, 6, 7, 8, 16] ?_
 refine VD (fun h => ?_) (fun h => ?_)
 ·
  have hi' : i < l.length := by omega
  obtain ⟨p, rfl⟩ := Qbe hr (by omega)
  have hcell := Qde (hH.rs' hr) hi'
  have hv := hin _ (Qbl 0 hi')
  have hd := Qa1 (0 : Int) hi'
  rw [hd] at hres
  obtain ⟨x, hx⟩ : ∃ x : Nat, l.getD i 0 = x := ⟨(l.getD i 0).toNat, by omega⟩
  rw [hx] at hcell hv hres
  have hxl : x < li.length := by omega
  rw [Qa4, if_pos ⟨by omega, by omega⟩, Int.toNat_natCast, Option.map_map] at hres
  refine VC_skip ?_
  refine VB ?_
  refine VQ [0, 6, 7, 8, 32] fun K hK => ?_
  refine ⟨⟨by omega, by omega⟩, _, hcell, ?_⟩
  (try refine Qs ?_)
  refine ⟨fun h3 => ?_, fun h3 => by omega⟩
  refine ⟨⟨by omega, by omega⟩, _, hcell, ?_⟩
  (try refine Qs ?_)
  rw [decide_eq_false (by omega)]
  apply hK;clear hK
  refine Qaa rfl rfl (fun h => by simp at h) (fun h => VC_skip ?_)
  clear h
  refine VQ [0, 6, 7, 8] fun K hK => ?_
  refine ⟨⟨by omega, by omega⟩, _, hcell, ?_⟩
  (try refine Qs ?_)
  refine Qp ?_
  refine Qa6 (xs := [.tmp 39]) Tryz.underlying43 sz5 rfl rfl rfl (by omega) ?_;refine Qs ?_;refine ⟨by simp [Value.cells], ?_⟩
  refine Qai ?_;refine Qs ?_;refine Qc1 hH 0 (li.getD x 0) rfl Tryz.underlying43 zi5 (by first | rfl | (simp;done) | omega) (fun h => by (first | omega | (simp;done) | (simp;omega))) fun a' cap' w5 hc' hH2 => ?_;(try refine Qs ?_)
  apply hK;clear hK
  refine VQ [0, 6, 7, 8] fun K hK => ?_
  refine ⟨⟨by omega, by omega⟩, _, Qde (hH2.rs' hr) hi', ?_⟩
  rw [hx]
  (try refine Qs ?_)
  refine MemK_call Tryz.call117 ?_;refine Qs ?_;refine CallK.mk (Qkk li x hxl (by omega) _) ?_
  rintro v w6 ⟨rfl, rfl⟩
  (try refine Qs ?_)
  apply hK;clear hK
  refine Qam ?_
  refine VS [0, 6, 7, 8] ?_
  refine Qab ?_
  refine Qs ?_
  refine ⟨n - (i + 1), by omega, i + 1, cap', a', Qeb li x, o ++ [li.getD x 0], rfl, hH2, by omega, by simp;omega, by rw [Qgi hxl];exact hli, ?_, rfl⟩
  rw [<- hres]
  cases Qa4 (Qeb li x) (l.drop (i + 1)) <;> simp
 ·
  obtain rfl : i = n := by omega
  rw [List.drop_of_length_le (by omega), Qa4] at hres
  simp at hres
  subst hres
  refine Qag rfl ?_
  refine VQ [4, 5] fun K hK => ?_
  refine ⟨o, hH.readsBytes 0 rfl, ?_⟩
  (try refine Qs ?_)
  (repeat refine Qo ?_);apply hK;clear hK
  exact VC_ret (Qaj rfl rfl rfl ⟨hH.sub (by simp), rfl⟩)
theorem Qkl (l : List Bool) (a : Option Addr) (c at_ : Nat) (hat : at_ <= l.length) (hl : l.length <= 1000000000000) (w : World) (hs : SL w a l.length c (Qal (bI l))) :
  Does Tryz.prog 51 #[.slice a l.length c, .int .i64 at_] w fun v w' => Heap w [] w' [] /\ v = exV (Qbi l at_) := by
 generalize hres : Qbi l at_ = res
 unfold Qbi at hres
 have hr := hs.1
 have hlc := hs.2.1
 refine En [.slice a l.length c, .int .i64 at_] 71 Tryz.func51 ?_
 refine VS [0, 1] ?_
 refine VQ [0, 1, 18] fun K hK => ?_
 suffices out : ∀ b : Bool, (b = true ↔ False) -> K [(0, .slice a l.length c), (1, .int .i64 at_), (18, .bool b)] w by (repeat' (first | exact out _ _ (by first | omega | (simp;done) | (simp;omega)) | exact out _ (by first | omega | (simp;done) | (simp;omega)) | refine ⟨fun _ => ?_, fun _ => ?_⟩ | refine Qo ?_))
 intro b hb
 apply hK;clear hK
 refine Qaa rfl rfl (fun h => (hb.1 h).elim) (fun h => VC_skip ?_)
 clear hb h
 refine VS [0, 1, 23] ?_
 refine VD (fun h => ?_) (fun h => VC_skip ?_)
 ·
  rw [if_pos (by omega)] at hres
  subst hres
  refine VS [4, 5, 6] ?_
  exact VC_ret (Qap rfl rfl rfl rfl ⟨Heap.start w, rfl⟩)
 rw [if_neg (by omega)] at hres
 have hcut := hs.cut at_ 16 (by omega)
 have e1 : ((Qal (bI l)).drop at_).take 16 = Qal (bI ((l.drop at_).take 16)) := by
  rw [<- Qjv, <- Qju];simp [Qal, List.map_take, List.map_drop]
 have e2 : ((l.drop at_).take 16).length = 16 := by rw [List.length_take, List.length_drop];omega
 rw [e1] at hcut
 refine VQ [0, 1, 7] fun K hK => ?_
 refine ⟨I64.mk (by omega) (by omega), ⟨by omega, by omega, by omega⟩, ?_⟩
 rw [show at_ + 16 - at_ = 16 by omega]
 generalize (if c = at_ then a else a.map fun x => x.add at_) = a2 at *
 generalize (l.drop at_).take 16 = R at *
 obtain ⟨pa, rfl⟩ := Qbe hr (by omega)
 obtain ⟨p2, rfl⟩ := Qbe hcut (by omega)
 generalize c - at_ = c2 at *
 apply hK;clear hK
 refine VS [0, 1, 7] ?_
 refine VS [0, 1, 7, 8] ?_
 refine VS [0, 1, 7, 8, 9] ?_
 refine Qaf ?_
 refine Qae [0, 1, 7, 8, 9] (fun m e w' => ∃ (i p : Nat) (o : List UInt8), Is e [(0, .slice (some pa) l.length c), (1, .int .i64 p), (7, .slice (some p2) 16 c2), (8, Str o), (9, .int .i64 i)] /\ Heap w [] w' [] /\ i <= 16 /\ p <= l.length /\ o.length <= 16 * i /\ (match stGo l (R.drop i) i p with | .error e => .error e | .ok q => if o ++ q.1 = [] then .error 60 else .ok (o ++ q.1, q.2)) = res /\ m = 16 - i) 16 ?_ ?_
 ·
  refine Qs ?_
  refine ⟨0, at_ + 16, [], by push_cast;rfl, Heap.start w, by omega, by omega, by simp, ?_, rfl⟩
  rw [List.drop_zero]
  simp only [List.nil_append]
  exact hres
 clear hres
 rintro m e w' ⟨i, p, o, rfl, hH, hi, hp, ho, hres, rfl⟩
 refine VS [0, 1, 7, 8, 9, 32] ?_
 refine VD (fun h => ?_) (fun h => ?_)
 ·
  have hiR : i < R.length := by omega
  have hcell := Qde (hH.rs' hcut) (show i < (bI R).length by rw [bI_len];exact hiR)
  rw [Qep hiR] at hcell
  have hd := Qa1 false hiR
  rw [hd] at hres
  generalize R.getD i false = b at *
  refine VC_skip ?_
  refine VB ?_
  refine VQ [0, 1, 7, 8, 9, 39] fun K hK => ?_
  refine ⟨⟨by omega, by omega⟩, _, hcell, ?_⟩
  (try refine Qs ?_)
  (repeat refine Qo ?_);apply hK;clear hK
  cases b with
  | false =>
   refine Qaa rfl rfl (fun h => ?_) (fun h => by simp at h)
   rw [stGo] at hres
   refine Qag rfl ?_
   refine VS [0, 1, 7, 8, 9] ?_
   refine Qab ?_
   refine Qs ?_
   exact ⟨16 - (i + 1), by omega, i + 1, p, o, rfl, hH, by omega, hp, by omega, hres, rfl⟩
  | true =>
   refine Qaa rfl rfl (fun h => by simp at h) (fun h => VC_skip ?_)
   rw [stGo] at hres
   refine VS [0, 1, 7, 8, 9, 44] ?_
   refine VD (fun h => ?_) (fun h => VC_skip ?_)
   ·
    rw [if_pos (by omega)] at hres
    subst hres
    refine VS [4, 5, 6] ?_
    exact VC_ret (Qap rfl rfl rfl rfl ⟨hH, rfl⟩)
   have hpl : p + 16 <= l.length := by omega
   rw [if_neg (by omega)] at hres
   have hrow : ∀ k, k < 16 -> ((l.drop p).take 16).getD k false = l.getD (p + k) false := fun k hk => by
    rw [List.getD_eq_getElem?_getD, List.getElem?_take, if_pos hk, List.getElem?_drop, <- List.getD_eq_getElem?_getD]
   have hrb : Qfy i ((l.drop p).take 16) = Qbf i ((l.drop p).take 16) 16 := rfl
   rw [hrb] at hres
   generalize (l.drop p).take 16 = row at *
   clear hcell h
   refine VS [0, 1, 7, 8, 9, 10] ?_
   refine Qaf ?_
   refine Qae [0, 1, 7, 8, 9, 10] (fun m e w' => ∃ (k : Nat), Is e [(0, .slice (some pa) l.length c), (1, .int .i64 p), (7, .slice (some p2) 16 c2), (8, Str (o ++ Qbf i row k)), (9, .int .i64 i), (10, .int .i64 k)] /\ Heap w [] w' [] /\ k <= 16 /\ m = 16 - k) 16 ?_ ?_
   ·
    refine Qs ?_
    exact ⟨0, by simp [Qbf, Is], hH, by omega, rfl⟩
   clear hH
   rintro m e w3 ⟨k, rfl, hH, hk, rfl⟩
   have hrl := Qd8 i row k
   have hrs := Qe9 i row k
   refine VS [0, 1, 7, 8, 9, 10, 46] ?_
   refine VD (fun h => ?_) (fun h => ?_)
   ·
    have hcell := Qde (hH.rs' hr) (show p + k < (bI l).length by rw [bI_len];omega)
    rw [Qep (by omega), <- hrow k (by omega)] at hcell
    generalize row.getD k false = b at *
    refine VC_skip ?_
    refine VB ?_
    refine VQ [0, 1, 7, 8, 9, 10, 55] fun K hK => ?_
    refine ⟨I64.mk (by omega) (by omega), ⟨by omega, by omega⟩, _, hcell, ?_⟩
    (try refine Qs ?_)
    (repeat refine Qo ?_);apply hK;clear hK
    cases b with
    | true =>
     refine Qaa rfl rfl (fun h => ?_) (fun h => by simp at h)
     have hbn : ((UInt8.ofNat (16 * i + k)).toNat : Int) = 16 * i + k := by simp only [UInt8.toNat_ofNat', Nat.reducePow];omega
     rw [if_pos rfl] at hrs
     refine VQ [0, 1, 7, 8, 9, 10] fun K hK => ?_
     refine ⟨I64.mk (by omega) (by omega), I64.mk (by omega) (by omega), ?_⟩
     rw [show (16 * (i : Int) + k) % 256 = ((UInt8.ofNat (16 * i + k)).toNat : Int) by omega]
     refine Qbg hH (bytesV [UInt8.ofNat (16 * i + k)]) (xs := [.tmp 61]) Tryz.underlying43 sz5 rfl rfl rfl (by omega) ?_;refine Qs ?_;refine ⟨rfl, by simp [Value.cells], fun g w4 hH2 => ?_⟩;(try refine Qs ?_)
     refine ⟨[UInt8.ofNat (16 * i + k)], hH2.readsBytes 0 rfl, ?_⟩
     (try refine Qs ?_)
     refine ⟨by simp only [List.length_singleton, List.length_append];omega, ?_⟩
     apply hK;clear hK
     refine Qam ?_
     refine VS [0, 1, 7, 8, 9, 10] ?_
     refine Qab ?_
     refine Qs ?_
     exact ⟨16 - (k + 1), by omega, k + 1, by rw [hrs, <- List.append_assoc];rfl, hH2.sub (by simp), by omega, rfl⟩
    | false =>
     refine Qaa rfl rfl (fun h => by simp at h) (fun h => VC_skip ?_)
     rw [if_neg (by simp), List.append_nil] at hrs
     refine Qam ?_
     refine VS [0, 1, 7, 8, 9, 10] ?_
     refine Qab ?_
     refine Qs ?_
     exact ⟨16 - (k + 1), by omega, k + 1, by rw [hrs];rfl, hH, by omega, rfl⟩
   ·
    obtain rfl : k = 16 := by omega
    refine Qag rfl ?_
    refine VS [0, 1, 7, 8, 9] ?_
    refine Qam ?_
    refine VS [0, 1, 7, 8, 9] ?_
    refine Qab ?_
    refine Qs ?_
    refine ⟨16 - (i + 1), by omega, i + 1, p + 16, o ++ Qbf i row 16, by push_cast;rfl, hH, by omega, by omega, by simp;omega, ?_, rfl⟩
    rw [<- hres]
    cases stGo l (R.drop (i + 1)) (i + 1) (p + 16) <;> simp
 ·
  obtain rfl : i = 16 := by omega
  rw [List.drop_of_length_le (by omega), stGo] at hres
  simp only [List.append_nil] at hres
  refine Qag rfl ?_
  refine VS [1, 8, 68] ?_
  refine VD (fun h => ?_) (fun h => VC_skip ?_)
  ·
   rw [if_pos h] at hres
   subst hres
   refine VS [4, 5, 6] ?_
   exact VC_ret (Qap rfl rfl rfl rfl ⟨hH, rfl⟩)
  rw [if_neg h] at hres
  subst hres
  refine VS [4, 5, 6] ?_
  exact VC_ret (Qap rfl rfl rfl rfl ⟨hH, rfl⟩)
theorem Qsz (n most : Int) (l : List Int) (la : Option Addr) (lc : Nat) (hn : I64 n) (hm : I64 most) (w : World) (hl : RS w la l.length 1 (Qal l)) (hs : l.length <= 2147483640) (hi : ∀ v ∈ l, I64 v) :
  Does Tryz.prog 105 #[.int .i64 n, .int .i64 most, .slice la l.length lc] w (IntsErr (Qbo n most l) w) := by
 obtain ⟨hn1, hn2⟩ := hn
 obtain ⟨hm1, hm2⟩ := hm
 refine En [.int .i64 n, .int .i64 most, .slice la l.length lc] 98 Tryz.func105 ?_
 refine VQi [0, 1, 2] fun K hK => ?_
 apply hK;clear hK
 refine VQi [0, 1, 2, 26] fun K hK => ?_
 suffices out : ∀ b : Bool, (b = true ↔ n < 1 ∨ 256 < n ∨ most < 0 ∨ 262144 < most) -> K [(0, .int .i64 n), (1, .int .i64 most), (2, .slice la l.length lc), (26, .bool b)] w by (repeat' (first | exact out _ _ (by first | omega | (simp;done) | (simp;omega)) | exact out _ (by first | omega | (simp;done) | (simp;omega)) | refine ⟨fun _ => ?_, fun _ => ?_⟩ | refine Qo ?_))
 intro b hb
 apply hK;clear hK
 refine Qaa rfl rfl (fun h => ?_) (fun h => VC_skip ?_)
 ·
  refine VQi [6, 7] fun K hK => ?_
  apply hK;clear hK
  refine VC_ret (Qaj rfl rfl rfl ?_)
  rw [Qbo, if_pos (hb.1 h)]
  exact IntsErr.nil (Heap.start w) 2
 have hg : ¬ (n < 1 ∨ 256 < n ∨ most < 0 ∨ 262144 < most) := fun h' => by rw [hb.2 h'] at h;cases h
 clear h hb
 rw [Qbo, if_neg hg]
 refine VQi [0, 1, 2, 8] fun K hK => ?_
 apply hK;clear hK
 refine VQi [0, 1, 2, 8, 9, 10] fun K hK => ?_
 apply hK;clear hK
 refine VQi [0, 1, 2, 8, 9, 10, 27, 28, 29] fun K hK => ?_
 apply hK;clear hK
 ((repeat refine Qay ?_);refine Qaf ?_)
 refine Qae [0, 1, 2, 8, 9, 10, 27, 28, 29] (fun m e w' => ∃ (i run wt cap : Nat) (a : Option Addr) (o : List Int), Is e [(0, .int .i64 n), (1, .int .i64 most), (2, .slice la l.length lc), (8, .slice a o.length cap), (9, .int .i64 run), (10, .int .i64 wt), (27, .slice la l.length lc), (28, .int .i64 l.length), (29, .int .i64 i)] /\ Heap w [] w' [Res.row 3 1 a o.length cap (Qal o)] /\ i <= l.length /\ (o.length : Int) + run <= most /\ wt <= 2 * most + 1 /\ 1 <= wt /\ zdec n most [] 1 l = zdec n most (o ++ List.replicate run 0) wt (l.drop i) /\ m = l.length - i) l.length ?_ ?_
 ·
  refine Qi ?_
  exact ⟨0, 0, 1, 0, none, [], rfl, Qd2, by omega, by simp;omega, by omega, by omega, rfl, rfl⟩
 rintro m e w2 ⟨i, run, wt, cap, a, o, rfl, hH, g1, g2, g3, g4, g5, rfl⟩
 refine VQi [0, 1, 2, 8, 9, 10, 27, 28, 29, 30] fun K hK => ?_
 apply hK;clear hK
 (repeat refine Qay ?_)
 refine VD (fun h => ?_) (fun h => ?_)
 ·
  refine VC_skip ?_
  ((repeat refine Qay ?_);refine Qaf ?_)
  obtain ⟨p, rfl⟩ := Qbe hl (by omega)
  have hc := Qde (hH.rs' hl) (show i < l.length by omega)
  have hr := hi _ (Qbl 0 (show i < l.length by omega))
  have hdr := Qa1 0 (show i < l.length by omega)
  generalize l.getD i 0 = s at *
  obtain ⟨hr1, hr2⟩ := hr
  rw [hdr] at g5
  refine VQi [0, 1, 2, 8, 9, 10, 11, 12, 27, 28, 29] fun K hK => ?_
  refine ⟨⟨by omega, by omega⟩, _, hc, ?_⟩
  apply hK;clear hK
  refine VQi [0, 1, 2, 8, 9, 10, 11, 12, 27, 28, 29, 41] fun K hK => ?_
  suffices out : ∀ c : Bool, (c = true ↔ s < 0 ∨ n + 1 < s) -> K [(0, .int .i64 n), (1, .int .i64 most), (2, .slice (some p) l.length lc), (8, .slice a o.length cap), (9, .int .i64 run), (10, .int .i64 wt), (11, .int .i64 i), (12, .int .i64 s), (27, .slice (some p) l.length lc), (28, .int .i64 l.length), (29, .int .i64 i), (41, .bool c)] w2 by (repeat' (first | exact out _ _ (by first | omega | (simp;done) | (simp;omega)) | exact out _ (by first | omega | (simp;done) | (simp;omega)) | refine ⟨fun _ => ?_, fun _ => ?_⟩ | refine Qo ?_))
  intro c hb
  apply hK;clear hK
  refine Qaa rfl rfl (fun h => ?_) (fun h => VC_skip ?_)
  ·
   refine VQi [6, 7] fun K hK => ?_
   apply hK;clear hK
   refine VC_ret (Qaj rfl rfl rfl ?_)
   have hg2 := hb.1 h
   rw [zdec, if_pos hg2] at g5
   rw [g5]
   exact IntsErr.nil (hH.sub (by simp)) 60
  have hg2 : ¬ (s < 0 ∨ n + 1 < s) := fun h' => by rw [hb.2 h'] at h;cases h
  clear h hb
  rw [zdec, if_neg hg2] at g5
  refine VQi [0, 1, 2, 8, 9, 10, 11, 12, 27, 28, 29, 43] fun K hK => ?_
  apply hK;clear hK
  refine VD (fun h => ?_) (fun h => ?_)
  ·
   rw [if_pos h, List.length_append, List.length_replicate] at g5
   obtain ⟨t, rfl⟩ : ∃ t : Nat, s = t := ⟨s.toNat, by omega⟩
   have ht : t = 0 ∨ t = 1 := by omega
   have hmul : ((t : Int) + 1) * wt <= 2 * wt /\ (wt : Int) <= ((t : Int) + 1) * wt := by
    rcases ht with rfl | rfl <;> simp <;> omega
   generalize hk : ((t : Int) + 1) * wt = k at *
   refine VQi [0, 1, 2, 8, 9, 10, 12, 27, 28, 29, 59] fun K hK => ?_
   rw [hk]
   suffices out : ∀ c : Bool, (c = true ↔ most - o.length - run < k) -> K [(0, .int .i64 n), (1, .int .i64 most), (2, .slice (some p) l.length lc), (8, .slice a o.length cap), (9, .int .i64 run), (10, .int .i64 wt), (12, .int .i64 t), (27, .slice (some p) l.length lc), (28, .int .i64 l.length), (29, .int .i64 i), (59, .bool c)] w2 by (repeat' (first | exact out _ _ (by first | omega | (simp;done) | (simp;omega)) | exact out _ (by first | omega | (simp;done) | (simp;omega)) | refine ⟨fun _ => ?_, fun _ => ?_⟩ | refine Qo ?_))
   intro c hb
   apply hK;clear hK
   refine Qaa rfl rfl (fun h => ?_) (fun h => VC_skip ?_)
   ·
    refine VQi [6, 7] fun K hK => ?_
    apply hK;clear hK
    refine VC_ret (Qaj rfl rfl rfl ?_)
    have := hb.1 h
    rw [if_pos (by omega)] at g5
    rw [g5]
    exact IntsErr.nil (hH.sub (by simp)) 3
   have hg3 : ¬ (most - o.length - run < k) := fun h' => by rw [hb.2 h'] at h;cases h
   clear h hb
   rw [if_neg (by omega)] at g5
   refine VQi [0, 1, 2, 8, 9, 10, 27, 28, 29] fun K hK => ?_
   rw [hk]
   (repeat refine Qo ?_);apply hK;clear hK
   refine VQi [0, 1, 2, 8, 9, 10, 27, 28, 29] fun K hK => ?_
   (repeat refine Qo ?_);apply hK;clear hK
   refine Qag rfl ?_
   refine VQi [0, 1, 2, 8, 9, 10, 27, 28, 29] fun K hK => ?_
   (repeat refine Qo ?_);apply hK;clear hK
   refine Qab ?_
   refine Qi ?_
   rw [List.append_assoc, List.replicate_append_replicate] at g5
   exact ⟨l.length - (i + 1), by omega, i + 1, run + k.toNat, 2 * wt, _, _, _, by simp [Is];omega, hH, by omega, by omega, by omega, by omega, g5, rfl⟩
  rw [if_neg h] at g5
  refine VC_skip ?_
  refine VQi [0, 1, 2, 8, 11, 12, 27, 28, 29] fun K hK => ?_
  refine Qai ?_
  refine Qi ?_
  have el : o.length + run = (o ++ List.replicate run 0).length := by simp
  refine Qgb hH 0 rfl rfl Tryz.underlying36 zi3 Tryz.underlying3 rfl (by omega) fun a' cap' w5 hc' hH4 => ?_
  rw [intsV_zero, <- Qdm, el] at hH4
  rw [el]
  apply hK;clear hK
  generalize ho2 : o ++ List.replicate run 0 = o2 at *
  refine VQi [0, 1, 2, 8, 9, 10, 11, 12, 27, 28, 29] fun K hK => ?_
  apply hK;clear hK
  refine VQi [0, 1, 2, 8, 9, 10, 11, 12, 27, 28, 29, 74] fun K hK => ?_
  (repeat refine Qo ?_);apply hK;clear hK
  refine Qaa rfl rfl (fun h' => ?_) (fun h' => ?_)
  ·
   simp only [decide_eq_true_eq] at h'
   rw [if_pos h'] at g5
   refine VQi [0, 2, 8, 11, 79] fun K hK => ?_
   (repeat refine Qo ?_);apply hK;clear hK
   refine Qaa rfl rfl (fun hx => ?_) (fun hx => ?_)
   ·
    simp only [decide_eq_true_eq] at hx
    have hc2 := Qde (hH4.rs' hl) (show i + 1 < l.length by omega)
    have hr := hi _ (Qbl 0 (show i + 1 < l.length by omega))
    have hdr2 := Qa1 0 (show i + 1 < l.length by omega)
    generalize l.getD (i + 1) 0 = x at *
    rw [hdr2, zend] at g5
    refine VQi [6, 7] fun K hK => ?_
    refine ⟨I64.mk (by omega) (by omega), ⟨by omega, by omega⟩, _, hc2, ?_⟩
    refine MemK_call Tryz.call151 ?_;refine Qi ?_;refine CallK.mk (Qof n x ⟨hn1, hn2⟩ (by omega) hr w5) ?_
    rintro v w6 ⟨rfl, rfl⟩
    apply hK;clear hK
    refine VC_ret (Qaj rfl rfl rfl ?_)
    rw [g5]
    split
    ·
     exact IntsErr.nil (hH4.sub (by simp)) 60
    ·
     exact IntsErr.nil (hH4.sub (by simp)) 70
   simp only [decide_eq_false_iff_not] at hx
   refine VC_skip ?_
   refine VQi [6, 7] fun K hK => ?_
   apply hK;clear hK
   refine VC_ret (Qaj rfl rfl rfl ?_)
   rw [List.drop_of_length_le (by omega), zend] at g5
   rw [g5]
   exact ⟨_, _, hH4, rfl⟩
  simp only [decide_eq_false_iff_not] at h'
  rw [if_neg h'] at g5
  refine VC_skip ?_
  refine VQi [0, 1, 2, 8, 9, 10, 12, 27, 28, 29, 91] fun K hK => ?_
  apply hK;clear hK
  refine VD (fun h => ?_) (fun h => ?_)
  ·
   refine VQi [6, 7] fun K hK => ?_
   apply hK;clear hK
   refine VC_ret (Qaj rfl rfl rfl ?_)
   rw [if_pos (by omega)] at g5
   rw [g5]
   exact IntsErr.nil (hH4.sub (by simp)) 3
  rw [if_neg (by omega)] at g5
  refine VC_skip ?_
  refine VQi [0, 1, 2, 8, 9, 10, 27, 28, 29] fun K hK => ?_
  (repeat first | refine Qo ?_ | refine ⟨⟨by omega, by omega⟩, ?_⟩)
  refine Qa6 (xs := [.tmp 94]) Tryz.underlying36 sz3 rfl rfl rfl (by omega) ?_;refine Qi ?_;refine ⟨by simp [Value.cells], ?_⟩
  refine Qai ?_;refine Qi ?_;refine Qgx hH4 0 rfl Tryz.underlying36 zi3 (fun h => by (first | omega | (simp;done) | (simp;omega))) fun a' cap' w5 hc' hH5 => ?_;(try refine Qi ?_)
  apply hK;clear hK
  refine Qam ?_
  refine VQi [0, 1, 2, 8, 9, 10, 27, 28, 29] fun K hK => ?_
  (repeat refine Qo ?_);apply hK;clear hK
  refine Qab ?_
  refine Qi ?_
  exact ⟨l.length - (i + 1), by omega, i + 1, 0, 1, _, _, _, rfl, hH5, by omega, by simp;omega, by omega, by omega, by simpa using g5, rfl⟩
 ·
  refine Qag rfl ?_
  rw [List.drop_of_length_le (by omega), zdec] at g5
  refine VQi [6, 7] fun K hK => ?_
  apply hK;clear hK
  refine VC_ret (Qaj rfl rfl rfl ?_)
  rw [g5]
  exact IntsErr.nil (hH.sub (by simp)) 70
set_option maxHeartbeats 2000000
def unpS (used : List UInt8) (list : List Nat) (row most : Int) : List UInt8 × Int :=
 if (Qbo used.length most (ni list)).2 ≠ 0 then ([], (Qbo used.length most (ni list)).2)
 else if (Qbs used (Qbo used.length most (ni list)).1).2 ≠ 0 then ([], (Qbs used (Qbo used.length most (ni list)).1).2)
 else if (bckS (Qbs used (Qbo used.length most (ni list)).1).1 row).2 ≠ 0 then ([], (bckS (Qbs used (Qbo used.length most (ni list)).1).1 row).2)
 else decS [] 0 (bckS (Qbs used (Qbo used.length most (ni list)).1).1 row).1
theorem Qkm (used : List UInt8) (list : List Nat) (row most : Int) (la : Option Addr) (lc : Nat) (hu : used.length <= 256) (hl : list.length <= 2147483640) (hx : ∀ x ∈ list, x <= 1000) (hr : I64 row) (hm : I64 most) (w : World) (hrs : RS w la list.length 1 (Qas list)) :
  Does Tryz.prog 49 #[Str used, .slice la list.length lc, .int .i64 row, .int .i64 most] w fun v w' => Heap w [] w' [] /\ v = .tuple #[Str (unpS used list row most).1, .int .i64 (unpS used list row most).2] := by
 have hnl : (ni list).length = list.length := by simp [ni]
 have hzd := Qsz used.length most (ni list) la lc (I64.mk (by omega) (by omega)) hm w (by rw [hnl, <- Qos];exact hrs) (by omega) (fun v hv => by
  simp only [ni, List.mem_map] at hv
  obtain ⟨x, hx2, rfl⟩ := hv
  have := hx x hx2
  exact I64.mk (by omega) (by omega))
 obtain ⟨z1, z2⟩ := Qjc (n := used.length) (most := most) (ni list)
 rw [hnl] at hzd
 have hS : unpS used list row most = unpS used list row most := rfl
 conv at hS => rhs;unfold unpS
 rw [hS]
 clear hS
 generalize Qbo used.length most (ni list) = Z at *
 have hsb := fun a c w h => Qlu Z.1 used a c (by omega) (by omega) (fun v hv => by have := z2 v hv;exact I64.mk (by omega) (by omega)) w h
 have s1 := Qmo used Z.1
 generalize Qbs used Z.1 = C at *
 have hbk := fun w => Qsr C.1 row hr (by omega) w
 have b1 := Qo7 C.1 row
 generalize bckS C.1 row = T at *
 have hdc := fun w => Quy T.1 w (by omega)
 generalize decS [] 0 T.1 = X at *
 refine En [Str used, .slice la list.length lc, .int .i64 row, .int .i64 most] 47 Tryz.func49 ?_
 refine VS [0, 1, 2, 3] ?_
 refine VQ [0, 2, 10, 11] fun K hK => ?_
 refine MemK_call Tryz.call105 ?_;refine Qs ?_;refine CallK.mk hzd ?_
 rintro v w2 ⟨ap, cp, hH, rfl⟩
 apply hK;clear hK
 refine VS [0, 2, 10, 11, 23] ?_
 refine VD (fun h => ?_) (fun h => ?_)
 ·
  refine VS [8, 9] ?_
  refine VC_ret (Qaj rfl rfl rfl ⟨hH.sub (by simp), ?_⟩)
  rw [if_pos h]
 rw [if_neg h]
 refine VC_skip ?_
 refine VQ [2, 11, 12] fun K hK => ?_
 refine MemK_call Tryz.call106 ?_;refine Qs ?_;refine CallK.mk (hsb _ _ w2 (Qaz (hH.at 0 rfl))) ?_
 rintro v w3 ⟨hHs, rfl⟩
 have hH2 := hH.call0 hHs
 clear hH hHs
 apply hK;clear hK
 refine VS [2, 11, 12, 32] ?_
 refine VD (fun h => ?_) (fun h => ?_)
 ·
  refine VS [8, 9] ?_
  refine VC_ret (Qaj rfl rfl rfl ⟨hH2.sub (by simp), ?_⟩)
  rw [if_pos h]
 rw [if_neg h]
 refine VC_skip ?_
 refine VQ [11, 13] fun K hK => ?_
 refine MemK_call Tryz.call107 ?_;refine Qs ?_;refine CallK.mk (hbk w3) ?_
 rintro v w4 ⟨hHs, rfl⟩
 have hH3 := hH2.call0 hHs
 clear hH2 hHs
 apply hK;clear hK
 refine VS [11, 13, 41] ?_
 refine VD (fun h => ?_) (fun h => ?_)
 ·
  refine VS [8, 9] ?_
  refine VC_ret (Qaj rfl rfl rfl ⟨hH3.sub (by simp), ?_⟩)
  rw [if_pos h]
 rw [if_neg h]
 refine VC_skip ?_
 refine VQ [8, 9] fun K hK => ?_
 refine MemK_call Tryz.call108 ?_;refine Qs ?_;refine CallK.mk (hdc w4) ?_
 rintro v w5 ⟨hHs, rfl⟩
 have hH4 := hH3.call0 hHs
 apply hK;clear hK
 exact VC_ret (Qaj rfl rfl rfl ⟨hH4.sub (by simp), rfl⟩)
abbrev Qs0 (e : Int) : Value := .iface 141 (.agg #[.int .i64 e])
abbrev Qmq (e : Int) : List PanicEntry := [{ v := Qs0 e, recovered := false }]
theorem Qf4 (b : Bool) (w : World) : DoesP Tryz.prog 99 #[.bool b] w (fun _ w' => w' = w /\ b = true) (fun c w' => w' = w /\ b = false /\ c = Qmq 120) := by
 refine Qfc (args := [.bool b]) 6 Tryz.func99 rfl rfl (of_decide_eq_true rfl) ?_
 simp only [Env.ofArgs]
 refine GS [3] ?_
 refine Qen rfl rfl (fun h => ?_) (fun h => ?_)
 ·
  (repeat with_reducible refine Qc2 ?_);refine Qcy [] [2] (by kernel_rfl) fun K hK => ?_;simp only [go_sem, List.take_succ_cons, List.take_zero, List.drop_succ_cons, List.drop_zero,↓reduceIte,reduceEqDiff]
  refine Qfd ?_
  refine Qs ?_
  exact ⟨⟨_, _, rfl⟩, Qve ⟨rfl, by simpa using h, rfl⟩⟩
 ·
  refine Qhh (Qrp (nil0 (Qvt rfl ⟨rfl, by simpa using h⟩)))
theorem Qc6 (g gs gr at_ n : Nat) (s : List UInt8) (w : World) (hn : n <= 64) (ha : at_ <= 8 * s.length) (hs : s.length <= 1000000000000000)
  (hL : Heap w (rd g gs s at_).foot w [rd g gs s at_]) (hc : w.cell? ⟨gr, 0, none⟩ = some (.pointer (some ⟨g, 0, none⟩))) :
  DoesP Tryz.prog 98 #[.int .i64 n, .pointer (some ⟨gr, 0, none⟩)] w
   (fun v w' => at_ + n <= 8 * s.length /\ Heap w (rd g gs s at_).foot w' [rd g gs s (at_ + n)] /\ v = .int .u64 (numB (((bytesB s).drop at_).take n)))
   (fun c w' => w' = w /\ 8 * s.length < at_ + n /\ c = Qmq 10) := by
 refine Qfc (args := [.int .i64 n, .pointer (some ⟨gr, 0, none⟩)]) 18 Tryz.func98 rfl rfl (of_decide_eq_true rfl) ?_
 simp only [Env.ofArgs]
 refine GS [0, 1] ?_
 refine GQ [4, 5] fun K hK => ?_
 refine ⟨_, hc, ?_⟩
 refine MemK_call Tryz.call87 ?_;refine Qs ?_;refine CallK.mk (Qcb g gs s at_ n w hn ha hs hL) ?_
 rintro v w2 (⟨h1, rfl, rfl⟩ | ⟨h1, hH, rfl⟩)
 ·
  skip
  apply hK;clear hK
  refine GS [4, 5, 13] ?_
  (repeat with_reducible refine Qc2 ?_)
  refine Qen rfl rfl (fun h => ?_) (fun h => by simp at h)
  (repeat with_reducible refine Qc2 ?_);refine Qcy [] [3] (by kernel_rfl) fun K hK => ?_;simp only [go_sem, List.take_succ_cons, List.take_zero, List.drop_succ_cons, List.drop_zero,↓reduceIte,reduceEqDiff]
  refine Qfd ?_
  refine Qs ?_
  exact ⟨⟨_, _, rfl⟩, Qve ⟨rfl, h1, rfl⟩⟩
 ·
  skip
  apply hK;clear hK
  refine GS [4, 5, 13] ?_
  (repeat with_reducible refine Qc2 ?_)
  refine Qen rfl rfl (fun h => by simp at h) (fun h => Qhh ?_)
  refine GS [3] ?_
  exact Qvd (ret0 (VX_ret1 rfl rfl ⟨h1, hH, rfl⟩))
set_option maxHeartbeats 2000000
abbrev pt (g : Nat) : Value := .pointer (some ⟨g, 0, none⟩)
abbrev Qgn (gA gB gC gD : Nat) (sum row tn e : Value) : Res := Res.bag [Res.blk gA 31 [sum], Res.blk gB 3 [row], Res.blk gC 3 [tn], Res.blk gD 25 [e]]
theorem Qip (gA gB gC gD : Nat) (w : World) : ∀ n, CallsDIn Fence.wide 0 Tryz.prog 97 #[pt gA, pt gB, pt gC, pt gD] .returning (w.drewN n) (fun e2 u2 w' => (∃ x, e2 = .returned x) /\ u2 = .returning /\ ∃ w1 m, w' = w1.drewN m /\ w1 = w) := by
 refine Qix (args := [pt gA, pt gB, pt gC, pt gD]) (v := .nilIface) (N := 20) Tryz.func97 rfl rfl rfl (by simp) (of_decide_eq_true rfl) (of_decide_eq_true rfl) (.inl ⟨rfl, rfl, rfl⟩) ?_
 simp only [Env.ofArgs]
 refine GQ [0, 1, 2, 3, 4, 9] fun K hK => ?_
 rw [QAs (P := Tryz.prog) (T := 20) (ms := #[]) rfl]
 apply hK;clear hK
 refine Qen rfl rfl (fun h => by simp at h) (fun h => Qhh (Qrp fun a n ha => ⟨.inl rfl, ha.defers, w, n, rfl, rfl⟩))
theorem Qmr (e : Int) (gA gB gC gD : Nat) (a b c d : Value) (w : World) (hB : Heap w (Qgn gA gB gC gD a b c d).foot w [Qgn gA gB gC gD a b c d]) :
  ∀ n, CallsDIn Fence.wide 0 Tryz.prog 97 #[pt gA, pt gB, pt gC, pt gD] (.panicking (Qmq e)) (w.drewN n) (fun e2 u2 w' => (∃ x, e2 = .returned x) /\ u2 = .panicking [{ v := Qs0 e, recovered := true }] /\
   ∃ w1 m, w' = w1.drewN m /\ Heap w (Qgn gA gB gC gD a b c d).foot w1 [Qgn gA gB gC gD (.int .u32 0) (.int .i64 0) (.int .i64 0) (.int .i64 e)]) := by
 refine Qix (args := [pt gA, pt gB, pt gC, pt gD]) (v := Qs0 e) (N := 20) Tryz.func97 rfl rfl rfl (by simp) (of_decide_eq_true rfl) (of_decide_eq_true rfl) (.inr ⟨rfl, rfl⟩) ?_
 simp only [Env.ofArgs]
 refine GQ [0, 1, 2, 3, 4, 9] fun K hK => ?_
 rw [QDc (P := Tryz.prog) (T := 20) (ms := #[]) rfl]
 apply hK;clear hK
 refine Qen rfl rfl (fun h => ?_) (fun h => by simp at h)
 refine GQ [0, 1, 2, 3, 4, 5, 6] fun K hK => ?_
 refine Qnp ?_
 refine Qs ?_
 refine ⟨_, rfl, by kernel_rfl, ?_⟩
 refine Qav (.agg #[.int .i64 0]) (by kernel_rfl) ?_
 refine Qs ?_
 have hH := hB.box 141 [.int .i64 0]
 generalize w.alloc (Obj.cells [Value.int IntKind.i64 0].toArray 141) = w1 at *
 generalize w.heap.size = g5 at *
 refine Qac ?_
 refine Qs ?_
 refine Qad hH 0 (vs := [.int .i64 e]) rfl rfl (by kernel_rfl) (by simp) (by simp [Value.oneCell']) fun w2 hH2 => ?_
 simp only [List.set_cons_zero, List.set_cons_succ] at hH2
 apply hK;clear hK
 clear hH
 (repeat with_reducible refine Qc2 ?_)
 refine GS [0, 1, 2, 3, 5, 16] ?_
 (repeat with_reducible refine Qc2 ?_)
 refine Qen rfl rfl (fun h => by simp at h) (fun h => Qhh ?_)
 have hH3 := hH2.perm (.swap _ _ _)
 have hF := (hH3.focus 0 rfl).unbag
 simp only [List.append_nil] at hF
 (repeat with_reducible refine Qc2 ?_);refine Qiw (holes (Qgn gA gB gC gD a b c d).foot w2) (Ext.hole _ _) [] [(0, true), (1, true), (2, false), (3, false), (4, false), (5, false)] (by kernel_rfl) (by kernel_rfl) (by kernel_rfl) (by simp only [Qau, List.filterMap_cons, List.filterMap_nil, List.getElem?_cons_succ, List.getElem?_cons_zero, Option.map_some];rfl) fun K hK => ?_;refine Qs ?_
 refine ⟨_, hH3.hole_at 0 1 rfl rfl (by omega) rfl, ?_⟩
 refine Qac ?_
 refine Qs ?_
 refine Qad hF 0 (vs := [.int .u32 0]) rfl rfl (by kernel_rfl) (by simp) (by simp [Value.oneCell']) fun w3 hF1 => ?_
 simp only [List.set_cons_zero, List.set_cons_succ] at hF1
 refine ⟨hF1.upd.extH, ?_⟩
 refine Qac ?_
 refine Qs ?_
 refine Qad hF1 1 (vs := [.int .i64 0]) rfl rfl (by kernel_rfl) (by simp) (by simp [Value.oneCell']) fun w4 hF2 => ?_
 simp only [List.set_cons_zero, List.set_cons_succ] at hF2
 refine ⟨hF2.upd.extH, ?_⟩
 refine Qac ?_
 refine Qs ?_
 refine Qad hF2 2 (vs := [.int .i64 0]) rfl rfl (by kernel_rfl) (by simp) (by simp [Value.oneCell']) fun w5 hF3 => ?_
 simp only [List.set_cons_zero, List.set_cons_succ] at hF3
 refine ⟨hF3.upd.extH, ?_⟩
 refine Qac ?_
 refine Qs ?_
 refine Qad hF3 3 (vs := [.int .i64 e]) rfl rfl (by kernel_rfl) (by simp) (by simp [Value.oneCell']) fun w6 hF4 => ?_
 simp only [List.set_cons_zero, List.set_cons_succ] at hF4
 refine ⟨hF4.upd.extH, ?_⟩
 apply hK;clear hK
 have hF5 := Heap.bag (G := []) [Res.blk gA 31 [.int .u32 0], Res.blk gB 3 [.int .i64 0], Res.blk gC 3 [.int .i64 0], Res.blk gD 25 [.int .i64 e]] (by simpa using hF4)
 have hH4 := hH3.call1 0 rfl hF5
 simp only [List.nil_append, List.set_cons_zero] at hH4
 exact Qrp fun a n ha => ⟨.inl rfl, ha.defers, w6, n, rfl, hH4.sub (.cons_cons _ (.cons _ (.refl _)))⟩
set_option maxHeartbeats 4000000
def hdS (l : List Bool) (a : Nat) : Nat × Nat × Nat × Nat :=
 if l.length < a + 48 then (0, 0, 0, 10)
 else if numB ((l.drop a).take 48) ≠ 54156738319193 then (0, 0, 0, 120)
 else if l.length < a + 80 then (0, 0, 0, 10)
 else if l.length < a + 81 then (0, 0, 0, 10)
 else if numB ((l.drop (a + 80)).take 1) ≠ 0 then (0, 0, 0, 120)
 else if l.length < a + 105 then (0, 0, 0, 10)
 else (numB ((l.drop (a + 48)).take 32), numB ((l.drop (a + 81)).take 24), a + 105, 0)
def hdV (x : Nat × Nat × Nat × Nat) : Value := .tuple #[.int .u32 x.1, .int .i64 x.2.1, .int .i64 x.2.2.1, .int .i64 x.2.2.2]
theorem Qu1 {C : Ctx} {e : Env} {w : World} {t u s r : Tmp} {T U S R : TypeId} {a b c d : Addr} (hr : C.fn.results = #[.cell t T, .cell u U, .cell s S, .cell r R]) (ht : e.find? t = some (.pointer (some a))) (hu : e.find? u = some (.pointer (some b))) (hs : e.find? s = some (.pointer (some c))) (hq : e.find? r = some (.pointer (some d)))
  (h : vLoad C.P T (.pointer (some a)) w fun v => vLoad C.P U (.pointer (some b)) w fun x => vLoad C.P S (.pointer (some c)) w fun y => vLoad C.P R (.pointer (some d)) w fun z => C.F (.tuple #[v, x, y, z]) w) : VX C [] .ret e w := by
 intro ac n ha
 obtain ⟨v, hv, r1⟩ := Qb4 h
 obtain ⟨x, hv, r2⟩ := Qb4 hv
 obtain ⟨y, hv, r3⟩ := Qb4 hv
 obtain ⟨z, hv, r4⟩ := Qb4 hv
 refine ⟨ha.defers, .tuple #[v, x, y, z], ?_, _, w, n, rfl, rfl, hv⟩
 have h1 := ha.at_ t _ ht
 rw [Array.getD_eq_getD_getElem?] at h1
 have h2 := ha.at_ u _ hu
 rw [Array.getD_eq_getD_getElem?] at h2
 have h3 := ha.at_ s _ hs
 rw [Array.getD_eq_getD_getElem?] at h3
 have h4 := ha.at_ r _ hq
 rw [Array.getD_eq_getD_getElem?] at h4
 have q1 := r1 (w.drewN n) (Ext.drewN w n)
 have q2 := r2 (w.drewN n) (Ext.drewN w n)
 have q3 := r3 (w.drewN n) (Ext.drewN w n)
 have q4 := r4 (w.drewN n) (Ext.drewN w n)
 simp [results, hr, h1, h2, h3, h4, asAddr, q1, q2, q3, q4]
theorem Qe1 {P : Program} {T : TypeId} {g T' : Nat} {v : Value} {w : World} {K : Value -> Prop} (h : (Res.blk g T' [v]).holds w) (hd : Qd1 (P.underlying T) = false) (hs : (P.underlying T).isSome = true) (hk : K v) : vLoad P T (.pointer (some ⟨g, 0, none⟩)) w K := by
 have hc : w.cell? ⟨g, 0, none⟩ = some v := Qah h rfl
 unfold vLoad
 cases hu : P.underlying T with
 | none => simp [hu] at hs
 | some d =>
  cases d <;> first
   | (exfalso;simp [Qd1, hu] at hd;done)
   | exact ⟨v, hc, hk⟩
theorem Qo8 {w w1 : World} {N g4 g5 g6 g7 : Nat} {v x y z : Value} {G : List Res} {F : Value -> World -> Prop} (hH : Heap w [] w1 (Qgn g4 g5 g6 g7 v x y z :: G)) (hF : F (.tuple #[v, x, y, z]) w1) :
  VX ⟨Tryz.prog, Tryz.f45, F, N⟩ [] .ret [(4, pt g4), (5, pt g5), (6, pt g6), (7, pt g7)] w1 := by
 have hU := hH.unbag
 refine Qu1 rfl rfl rfl rfl rfl ?_
 refine Qe1 (hU.at 0 rfl) (by kernel_rfl) (by kernel_rfl) ?_
 refine Qe1 (hU.at 1 rfl) (by kernel_rfl) (by kernel_rfl) ?_
 refine Qe1 (hU.at 2 rfl) (by kernel_rfl) (by kernel_rfl) ?_
 exact Qe1 (hU.at 3 rfl) (by kernel_rfl) (by kernel_rfl) hF
theorem Qdi {w w1 : World} {N g4 g5 g6 g7 : Nat} {v x y z : Value} {G : List Res} {F : Value -> World -> Prop} (e : Nat) (hH : Heap w [] w1 (Qgn g4 g5 g6 g7 v x y z :: G)) (hF : ∀ w', Heap w [] w' [] -> F (hdV (0, 0, 0, e)) w') :
  ∀ a n, FitsG N [{ target := .fn (.func 97) #[pt g4, pt g5, pt g6, pt g7], args := #[] }] [(4, pt g4), (5, pt g5), (6, pt g6), (7, pt g7)] a ->
   Qnm Tryz.prog Tryz.f45 F noPn (.panic (Qmq e)) a (w1.drewN n) := by
 refine Qln (args := #[]) (cs := #[pt g4, pt g5, pt g6, pt g7]) (u := .panicking (Qmq e)) (R := fun w2 => Heap w1 (Qgn g4 g5 g6 g7 v x y z).foot w2 [Qgn g4 g5 g6 g7 (.int .u32 0) (.int .i64 0) (.int .i64 0) (.int .i64 e)]) Tryz.call97 (by simp) rfl (fun n => ?_) fun w2 hR => ?_
 ·
  have h := Qmr e g4 g5 g6 g7 v x y z w1 (hH.focus 0 rfl) n
  obtain ⟨h1, h2⟩ := h
  refine ⟨h1, fun c cs hm hr => ?_⟩
  obtain ⟨e2, u2, w2, fr, ⟨hx, hu, hw⟩, rest⟩ := h2 c cs hm hr
  exact ⟨e2, u2, w2, fr, ⟨hx, by rw [hu];rfl, hw⟩, rest⟩
 ·
  have hH2 := hH.call1 0 rfl hR
  simp only [List.nil_append, List.set_cons_zero] at hH2
  exact Qo8 hH2 (hF _ (hH2.sub (List.nil_sublist _)))
theorem Qu2 {w w1 : World} {N g4 g5 g6 g7 : Nat} {v x y z : Value} {G : List Res} {F : Value -> World -> Prop} (hH : Heap w [] w1 (Qgn g4 g5 g6 g7 v x y z :: G)) (hF : F (.tuple #[v, x, y, z]) w1) :
  ∀ a n, FitsG N [{ target := .fn (.func 97) #[pt g4, pt g5, pt g6, pt g7], args := #[] }] [(4, pt g4), (5, pt g5), (6, pt g6), (7, pt g7)] a ->
   Qnm Tryz.prog Tryz.f45 F noPn .ret a (w1.drewN n) := by
 refine Qln (args := #[]) (cs := #[pt g4, pt g5, pt g6, pt g7]) (u := .returning) (R := fun w2 => w2 = w1) Tryz.call97 (by simp) rfl (fun n => ?_) fun w2 hR => ?_
 ·
  have h := Qip g4 g5 g6 g7 w1 n
  obtain ⟨h1, h2⟩ := h
  refine ⟨h1, fun c cs hm hr => ?_⟩
  obtain ⟨e2, u2, w2, fr, ⟨hx, hu, hw⟩, rest⟩ := h2 c cs hm hr
  exact ⟨e2, u2, w2, fr, ⟨hx, by rw [hu];rfl, hw⟩, rest⟩
 ·
  subst hR
  exact Qo8 hH hF
set_option maxHeartbeats 4000000
theorem Qh7 {P : Program} {w0 w : World} {B : List Nat} {G : List Res} (hH : Heap w0 B w G) (i : Nat) {g : Nat} {T T' : TypeId} {cs : List Value} {v : Value} {C : World -> Prop} (hi : G[i]? = some (Res.blk g T' cs)) (hv : v.cells = cs.toArray) (hsz : P.szo T = some cs.length) (h1 : ∀ u ∈ cs, u.oneCell' = true)
  (h : C w) : Qd9 P T (.pointer (some ⟨g, 0, none⟩)) v w C := by
 obtain ⟨fz, hg, hfz⟩ := hH.at i hi
 obtain ⟨hlt, hget⟩ := Array.getElem?_eq_some_iff.1 hg
 refine ⟨w, fun n => ?_, h⟩
 rw [run_storeVar_blk (o := 0) hv hsz hg hfz (by simp) h1 n]
 have hc : cs.take 0 ++ cs ++ cs.drop (0 + cs.length) = cs := by simp
 rw [hc]
 have : putBlk w g cs T' fz = w := by
  unfold putBlk
  have : w.heap.setIfInBounds g (.cells cs.toArray T' fz) = w.heap := by
   refine Array.ext_getElem? fun i => ?_
   rw [Array.getElem?_setIfInBounds]
   split
   ·
    rename_i hi2;subst hi2;exact hg.symm
   ·
    rfl
  rw [this]
 rw [this]
theorem Qiq (s : List UInt8) (at_ : Int) (w : World) (ha : I64 at_) (hs : s.length <= 1000000000000000) :
  Does Tryz.prog 45 #[Str s, .int .i64 at_] w fun v w' => Heap w [] w' [] /\ v = if at_ < 0 ∨ 8 * (s.length : Int) < at_ then hdV (0, 0, 0, 2) else hdV (hdS (bytesB s) at_.toNat) := by
 have hbl := bytesB_length s
 refine Qnn (args := [Str s, .int .i64 at_]) 40 Tryz.func45 rfl rfl (of_decide_eq_true rfl) ?_
 simp only [Env.ofArgs]
 refine GQ [0, 1, 4, 5, 6, 7] fun K hK => ?_
 refine Qav (.int .u32 0) (by kernel_rfl) ?_
 refine Qs ?_
 have hH := (Heap.start w).box 31 [.int .u32 0]
 generalize w.alloc (Obj.cells [Value.int IntKind.u32 0].toArray 31) = w1 at *
 generalize w.heap.size = g4 at *
 refine Qav (.int .i64 0) (by kernel_rfl) ?_
 refine Qs ?_
 have hH2 := hH.box 3 [.int .i64 0]
 generalize w1.alloc (Obj.cells [Value.int IntKind.i64 0].toArray 3) = w2 at *
 generalize w1.heap.size = g5 at *
 refine Qav (.int .i64 0) (by kernel_rfl) ?_
 refine Qs ?_
 have hH3 := hH2.box 3 [.int .i64 0]
 generalize w2.alloc (Obj.cells [Value.int IntKind.i64 0].toArray 3) = w3 at *
 generalize w2.heap.size = g6 at *
 refine Qav (.int .i64 0) (by kernel_rfl) ?_
 refine Qs ?_
 have hH4 := hH3.box 25 [.int .i64 0]
 generalize w3.alloc (Obj.cells [Value.int IntKind.i64 0].toArray 25) = w4 at *
 generalize w3.heap.size = g7 at *
 apply hK;clear hK
 have hHB : Heap w [] w4 [Qgn g4 g5 g6 g7 (.int .u32 0) (.int .i64 0) (.int .i64 0) (.int .i64 0)] := Heap.bag (G := []) _ (by
  refine hH4.perm ?_
  exact (List.reverse_perm [_, _, _, _]).symm)
 clear hH hH2 hH3 hH4
 (repeat with_reducible refine Qc2 ?_);refine Qp4 [0, 1, 4, 5, 6, 7] 1 rfl (by kernel_rfl) rfl fun K hK => ?_;simp only [go_sem, List.take_succ_cons, List.take_zero, List.drop_succ_cons, List.drop_zero,↓reduceIte,reduceEqDiff]
 refine ⟨_, _, _, rfl, ?_⟩
 refine hK _ _ _ ?_
 clear hK K
 refine GQ [4, 5, 6, 7, 8] fun K hK => ?_
 refine MemK_call Tryz.call86 ?_;refine Qs ?_;refine CallK.mk (Qbj s at_ w4 ha (by omega)) ?_
 rintro v w5 (⟨hbad, hHr, rfl⟩ | ⟨hgood, g, gs, hHr, rfl⟩)
 ·
  have hH5 := hHB.call0 hHr
  simp only [List.nil_append] at hH5
  clear hHB hHr
  refine Qav (.pointer none) (by kernel_rfl) ?_
  refine Qs ?_
  have hH6 := hH5.box 130 [.pointer none]
  generalize w5.alloc (Obj.cells [Value.pointer none].toArray 130) = w6 at *
  generalize w5.heap.size = g8 at *
  refine Qac ?_
  refine Qs ?_
  refine Qad hH6 0 (vs := [.pointer none]) rfl rfl (by kernel_rfl) (by simp) (by simp [Value.oneCell']) fun w7 hH7 => ?_
  simp only [List.set_cons_zero, List.set_cons_succ] at hH7
  apply hK;clear hK
  clear hH5 hH6
  refine GQ [4, 5, 6, 7, 8, 16] fun K hK => ?_
  refine ⟨_, Qah (hH7.at 0 rfl) rfl, ?_⟩
  refine Qs ?_
  try rw [Qon (P := Tryz.prog) (T := 130) rfl]
  apply hK;clear hK
  (repeat with_reducible refine Qc2 ?_)
  refine Qen rfl rfl (fun h => ?_) (fun h => by simp at h)
  (repeat with_reducible refine Qc2 ?_);refine Qcy [] [2] (by kernel_rfl) fun K hK => ?_;simp only [go_sem, List.take_succ_cons, List.take_zero, List.drop_succ_cons, List.drop_zero,↓reduceIte,reduceEqDiff]
  refine Qfd ?_
  refine Qs ?_
  refine ⟨⟨_, _, rfl⟩, fun a n hf => Qdi 2 (hH7.perm (.swap _ _ _)) ?_ a n (hf.sel [4, 5, 6, 7])⟩
  intro w' hw'
  rw [if_pos hbad]
  exact ⟨hw', rfl⟩
 obtain ⟨at_, rfl⟩ : ∃ n : Nat, at_ = n := ⟨at_.toNat, by omega⟩
 rw [if_neg hgood, Int.toNat_natCast] at *
 have hat : at_ <= 8 * s.length := by omega
 clear hgood ha
 have hH5 := hHB.call0 hHr
 simp only [List.cons_append, List.nil_append] at hH5
 clear hHB hHr
 refine Qav (.pointer none) (by kernel_rfl) ?_
 refine Qs ?_
 have hH6 := hH5.box 130 [.pointer none]
 generalize w5.alloc (Obj.cells [Value.pointer none].toArray 130) = w6 at *
 generalize w5.heap.size = g8 at *
 refine Qac ?_
 refine Qs ?_
 refine Qad hH6 0 (vs := [pt g]) rfl rfl (by kernel_rfl) (by simp) (by simp [Value.oneCell']) fun w7 hH7 => ?_
 simp only [List.set_cons_zero, List.set_cons_succ] at hH7
 apply hK;clear hK
 clear hH5 hH6
 refine GQ [4, 5, 6, 7, 8, 16] fun K hK => ?_
 refine ⟨_, Qah (hH7.at 0 rfl) rfl, ?_⟩
 refine Qs ?_
 try rw [Qon (P := Tryz.prog) (T := 130) rfl]
 apply hK;clear hK
 (repeat with_reducible refine Qc2 ?_)
 refine Qen rfl rfl (fun h => by simp at h) (fun h => Qhh ?_)
 refine GS [4, 5, 6, 7, 8, 9] ?_
 refine GS [4, 5, 6, 7, 8, 9, 10] ?_
 (repeat with_reducible refine Qc2 ?_);refine Qcy [4, 5, 6, 7, 8, 9, 10] [2, 1] (by kernel_rfl) fun K hK => ?_;simp only [go_sem, List.take_succ_cons, List.take_zero, List.drop_succ_cons, List.drop_zero,↓reduceIte,reduceEqDiff]
 refine Qcz ?_
 refine Qs ?_
 refine CallP.mk Tryz.call98 (Qc6 g gs g8 at_ 48 s w7 (by omega) hat hs (hH7.focus 1 rfl) (Qah (hH7.at 0 rfl) rfl)) ?_ ?_
 case' refine_2 =>
  rintro c w8 ⟨rfl, h1, rfl⟩ a n hf
  refine Qdi 10 (hH7.perm (List.reverse_perm [_, _, _]).symm) ?_ a n (hf.sel [4, 5, 6, 7])
  intro w' hw'
  have : hdS (bytesB s) at_ = (0, 0, 0, 10) := by rw [hdS, if_pos (by omega)]
  rw [this]
  exact ⟨hw', rfl⟩
 rintro v w8 ⟨h1, hHt, rfl⟩
 have hH8 := hH7.call1 1 rfl hHt
 simp only [List.nil_append, List.set_cons_zero, List.set_cons_succ] at hH8
 clear hH7 hHt
 generalize hm : numB (((bytesB s).drop at_).take 48) = mg at *
 simp only [go_sem, List.take_succ_cons, List.take_zero, List.drop_succ_cons, List.drop_zero,↓reduceIte,reduceEqDiff]
 refine Qcz ?_
 refine Qs ?_
 refine CallP.mk Tryz.call99 (Qf4 (decide ((mg : Int) = 54156738319193)) w8) ?_ ?_
 case' refine_2 =>
  rintro c w9 ⟨rfl, h2, rfl⟩ a n hf
  simp only [decide_eq_false_iff_not] at h2
  refine Qdi 120 (hH8.perm (List.reverse_perm [_, _, _]).symm) ?_ a n (hf.sel [4, 5, 6, 7])
  intro w' hw'
  have : hdS (bytesB s) at_ = (0, 0, 0, 120) := by rw [hdS, if_neg (by omega), if_pos (by rw [hm];omega)]
  rw [this]
  exact ⟨hw', rfl⟩
 rintro v w9 ⟨rfl, h2⟩
 simp only [decide_eq_true_eq] at h2
 obtain rfl : mg = 54156738319193 := by omega
 clear h2
 have hS : hdS (bytesB s) at_ = if (bytesB s).length < at_ + 80 then (0, 0, 0, 10)
   else if (bytesB s).length < at_ + 81 then (0, 0, 0, 10)
   else if numB (((bytesB s).drop (at_ + 80)).take 1) ≠ 0 then (0, 0, 0, 120)
   else if (bytesB s).length < at_ + 105 then (0, 0, 0, 10)
   else (numB (((bytesB s).drop (at_ + 48)).take 32), numB (((bytesB s).drop (at_ + 81)).take 24), at_ + 105, 0) := by
  rw [hdS, if_neg (by omega), if_neg (by rw [hm];omega)]
 apply hK;clear hK
 rw [hS]
 clear hS hm
 (repeat with_reducible refine Qc2 ?_);refine Qcy [4, 5, 6, 7, 8, 9, 10] [1] (by kernel_rfl) fun K hK => ?_;simp only [go_sem, List.take_succ_cons, List.take_zero, List.drop_succ_cons, List.drop_zero,↓reduceIte,reduceEqDiff]
 refine Qcz ?_
 refine Qs ?_
 refine CallP.mk Tryz.call98 (Qc6 g gs g8 (at_ + 48) 32 s w9 (by omega) (by omega) hs (hH8.focus 1 rfl) (Qah (hH8.at 0 rfl) rfl)) ?_ ?_
 case' refine_2 =>
  rintro c w8 ⟨rfl, h1, rfl⟩ a n hf
  refine Qdi 10 (hH8.perm (List.reverse_perm [_, _, _]).symm) ?_ a n (hf.sel [4, 5, 6, 7])
  intro w' hw'
  rw [if_pos (by omega)]
  exact ⟨hw', rfl⟩
 rintro v w10 ⟨h2, hHt, rfl⟩
 have hH9 := hH8.call1 1 rfl hHt
 simp only [List.nil_append, List.set_cons_zero, List.set_cons_succ] at hH9
 clear hH8 hHt
 have hlt := Qba (((bytesB s).drop (at_ + 48)).take 32)
 have hlt2 := Nat.pow_le_pow_right (show 0 < 2 by omega) (show (((bytesB s).drop (at_ + 48)).take 32).length <= 32 by rw [List.length_take];omega)
 generalize hsum : numB (((bytesB s).drop (at_ + 48)).take 32) = sum at *
 have hHA := hH9.perm (List.reverse_perm [_, _, _]).symm
 simp only [List.reverse_cons, List.reverse_nil, List.nil_append, List.cons_append] at hHA
 have hHA := hHA.unbag
 simp only [List.cons_append, List.nil_append] at hHA
 simp only [go_sem, List.take_succ_cons, List.take_zero, List.drop_succ_cons, List.drop_zero,↓reduceIte,reduceEqDiff]
 rw [show ((sum : Int) % 4294967296) = sum by omega]
 refine Qac ?_
 refine Qs ?_
 refine Qad hHA 0 (vs := [.int .u32 (sum : Nat)]) rfl rfl (by kernel_rfl) (by simp) (by simp [Value.oneCell']) fun w11 hHC => ?_
 simp only [List.set_cons_zero, List.set_cons_succ] at hHC
 apply hK;clear hK
 rw [if_neg (by omega)]
 have hHD : Heap w [] w11 (Qgn g4 g5 g6 g7 (.int .u32 sum) (.int .i64 0) (.int .i64 0) (.int .i64 0) :: rd g gs s (at_ + 48 + 32) :: [Res.blk g8 130 [pt g]]) := Heap.bag _ hHC
 clear hHC hHA hH9
 (repeat with_reducible refine Qc2 ?_);refine Qcy [4, 5, 6, 7, 8, 9] [2, 1] (by kernel_rfl) fun K hK => ?_;simp only [go_sem, List.take_succ_cons, List.take_zero, List.drop_succ_cons, List.drop_zero,↓reduceIte,reduceEqDiff]
 refine Qcz ?_
 refine Qs ?_
 refine CallP.mk Tryz.call98 (Qc6 g gs g8 (at_ + 48 + 32) 1 s w11 (by omega) (by omega) hs (hHD.focus 1 rfl) (Qah (hHD.at 2 rfl) rfl)) ?_ ?_
 case' refine_2 =>
  rintro c w8 ⟨rfl, h1, rfl⟩ a n hf
  refine Qdi 10 hHD ?_ a n (hf.sel [4, 5, 6, 7])
  intro w' hw'
  rw [if_pos (by omega)]
  exact ⟨hw', rfl⟩
 rintro v w12 ⟨h3, hHt, rfl⟩
 have hHE := hHD.call1 1 rfl hHt
 simp only [List.nil_append, List.set_cons_zero, List.set_cons_succ] at hHE
 clear hHD hHt
 rw [show at_ + 48 + 32 = at_ + 80 by omega] at hHE h3 ⊢
 generalize hbt : numB (((bytesB s).drop (at_ + 80)).take 1) = bt at *
 simp only [go_sem, List.take_succ_cons, List.take_zero, List.drop_succ_cons, List.drop_zero,↓reduceIte,reduceEqDiff]
 refine Qcz ?_
 refine Qs ?_
 refine CallP.mk Tryz.call99 (Qf4 (decide ((bt : Int) = 0)) w12) ?_ ?_
 case' refine_2 =>
  rintro c w9 ⟨rfl, h2, rfl⟩ a n hf
  simp only [decide_eq_false_iff_not] at h2
  refine Qdi 120 hHE ?_ a n (hf.sel [4, 5, 6, 7])
  intro w' hw'
  rw [if_neg (by omega), if_pos (by omega)]
  exact ⟨hw', rfl⟩
 rintro v w13 ⟨rfl, h4⟩
 simp only [decide_eq_true_eq] at h4
 obtain rfl : bt = 0 := by omega
 apply hK;clear hK
 rw [if_neg (by omega), if_neg (by simp)]
 (repeat with_reducible refine Qc2 ?_);refine Qcy [4, 5, 6, 7, 8] [1] (by kernel_rfl) fun K hK => ?_;simp only [go_sem, List.take_succ_cons, List.take_zero, List.drop_succ_cons, List.drop_zero,↓reduceIte,reduceEqDiff]
 refine Qcz ?_
 refine Qs ?_
 refine CallP.mk Tryz.call98 (Qc6 g gs g8 (at_ + 80 + 1) 24 s w13 (by omega) (by omega) hs (hHE.focus 1 rfl) (Qah (hHE.at 2 rfl) rfl)) ?_ ?_
 case' refine_2 =>
  rintro c w8 ⟨rfl, h1, rfl⟩ a n hf
  refine Qdi 10 hHE ?_ a n (hf.sel [4, 5, 6, 7])
  intro w' hw'
  rw [if_pos (by omega)]
  exact ⟨hw', rfl⟩
 rintro v w14 ⟨h5, hHt, rfl⟩
 have hHG := hHE.call1 1 rfl hHt
 simp only [List.nil_append, List.set_cons_zero, List.set_cons_succ] at hHG
 clear hHE hHt hbt h4
 rw [show at_ + 80 + 1 = at_ + 81 by omega] at hHG h5 ⊢
 have hlt3 := Qba (((bytesB s).drop (at_ + 81)).take 24)
 have hlt4 := Nat.pow_le_pow_right (show 0 < 2 by omega) (show (((bytesB s).drop (at_ + 81)).take 24).length <= 24 by rw [List.length_take];omega)
 generalize hrow : numB (((bytesB s).drop (at_ + 81)).take 24) = row at *
 have hHI := hHG.unbag
 simp only [List.cons_append, List.nil_append] at hHI
 simp only [go_sem, List.take_succ_cons, List.take_zero, List.drop_succ_cons, List.drop_zero,↓reduceIte,reduceEqDiff]
 refine ⟨I64.mk (by omega) (by omega), ?_⟩
 refine Qac ?_
 refine Qs ?_
 refine Qad hHI 1 (vs := [.int .i64 (row : Nat)]) rfl rfl (by kernel_rfl) (by simp) (by simp [Value.oneCell']) fun w15 hHJ => ?_
 simp only [List.set_cons_zero, List.set_cons_succ] at hHJ
 apply hK;clear hK
 rw [if_neg (by omega)]
 clear hHI hHG
 have hHM : Heap w [] w15 (Res.bag [Res.blk g7 25 [.int .i64 0], Res.blk g6 3 [.int .i64 0]] :: [Res.blk g4 31 [.int .u32 (sum : Nat)], Res.blk g5 3 [.int .i64 (row : Nat)], rd g gs s (at_ + 81 + 24), Res.blk g8 130 [pt g]]) :=
  Heap.bag [_, _] ((hHJ.front 2 rfl).front 3 rfl)
 clear hHJ
 have hF := (hHM.focus 0 rfl).unbag
 simp only [List.append_nil] at hF
 (repeat with_reducible refine Qc2 ?_);refine Qiw (holes (Res.bag [Res.blk g7 25 [.int .i64 0], Res.blk g6 3 [.int .i64 0]]).foot w15) (Ext.hole _ _) [4, 5, 6, 7] [(0, true), (1, true), (2, true), (3, false), (4, false), (5, false), (6, false), (7, false)] (by kernel_rfl) (by kernel_rfl) (by kernel_rfl) (by simp only [Qau, List.filterMap_cons, List.filterMap_nil, List.getElem?_cons_succ, List.getElem?_cons_zero, Option.map_some];rfl) fun K hK => ?_;refine Qs ?_
 refine ⟨_, hHM.hole_at 0 1 rfl rfl (by omega) rfl, ?_⟩
 refine ⟨_, hHM.hole_at 0 2 rfl rfl (by omega) rfl, ?_⟩
 refine ⟨_, hHM.hole_at 0 4 rfl rfl (by omega) rfl, ?_⟩
 refine MemK_call Tryz.call100 ?_;refine Qs ?_;refine CallK.mk (Qht g gs (at_ + 81 + 24) s w15 (hHM.at 3 rfl)) ?_
 rintro v w16 ⟨rfl, rfl⟩
 refine ⟨Ext.hole _ _, ?_⟩
 refine Qac ?_
 refine Qs ?_
 refine Qh7 hHM 1 (cs := [.int .u32 (sum : Nat)]) rfl rfl (by kernel_rfl) (by simp [Value.oneCell']) ?_
 refine ⟨Ext.hole _ _, ?_⟩
 refine Qac ?_
 refine Qs ?_
 refine Qh7 hHM 2 (cs := [.int .i64 (row : Nat)]) rfl rfl (by kernel_rfl) (by simp [Value.oneCell']) ?_
 refine ⟨Ext.hole _ _, ?_⟩
 refine Qac ?_
 refine Qs ?_
 refine Qad hF 1 (vs := [.int .i64 (at_ + 81 + 24 : Nat)]) rfl rfl (by kernel_rfl) (by simp) (by simp [Value.oneCell']) fun w17 hF1 => ?_
 simp only [List.set_cons_zero, List.set_cons_succ] at hF1
 refine ⟨hF1.upd.extH, ?_⟩
 refine Qac ?_
 refine Qs ?_
 refine Qad hF1 0 (vs := [.int .i64 0]) rfl rfl (by kernel_rfl) (by simp) (by simp [Value.oneCell']) fun w18 hF2 => ?_
 simp only [List.set_cons_zero, List.set_cons_succ] at hF2
 refine ⟨hF2.upd.extH, ?_⟩
 apply hK;clear hK
 have hF3 : Heap w16 (Res.bag [Res.blk g7 25 [.int .i64 0], Res.blk g6 3 [.int .i64 0]]).foot w18 [Res.bag [Res.blk g7 25 [.int .i64 0], Res.blk g6 3 [.int .i64 (at_ + 81 + 24 : Nat)]]] := Heap.bag [_, _] hF2
 have hHN := (hHM.call1 0 rfl hF3).unbag
 simp only [List.nil_append, List.set_cons_zero, List.cons_append] at hHN
 have hHO : Heap w [] w18 (Qgn g4 g5 g6 g7 (.int .u32 (sum : Nat)) (.int .i64 (row : Nat)) (.int .i64 (at_ + 81 + 24 : Nat)) (.int .i64 0) :: [rd g gs s (at_ + 81 + 24), Res.blk g8 130 [pt g]]) :=
  Heap.bag [_, _, _, _] ((((hHN.front 0 rfl).front 1 rfl).front 3 rfl).front 3 rfl)
 refine Qvd fun a n hf => Qu2 hHO ?_ a n hf
 refine ⟨hHO.sub (List.nil_sublist _), ?_⟩
 rw [show at_ + 81 + 24 = at_ + 105 by omega]
 rfl
set_option maxHeartbeats 4000000
def Qfl (bits : List Bool) (at_ : Nat) (most : Int) : Except Int (List UInt8 × Nat × Nat) :=
 if (hdS bits at_).2.2.2 ≠ 0 then .error (hdS bits at_).2.2.2 else
 match Qbi bits (hdS bits at_).2.2.1 with
 | .error e => .error e
 | .ok u => match Qbr bits u.2 (u.1.length + 2) with
  | .error e => .error e
  | .ok p => match Qcq p.1.1 bits ((p.1.1.getD 0 []).length - 1) p.1.2 p.2 with
   | .error e => .error e
   | .ok q =>
    if (unpS u.1 q.1 (hdS bits at_).2.1 most).2 ≠ 0 then .error (unpS u.1 q.1 (hdS bits at_).2.1 most).2
    else if crcBzip (unpS u.1 q.1 (hdS bits at_).2.1 most).1 ≠ (hdS bits at_).1 then .error 121
    else .ok ((unpS u.1 q.1 (hdS bits at_).2.1 most).1, (hdS bits at_).1, q.2)
def takeF (s : List UInt8) (at_ most : Int) : Except Int (List UInt8 × Nat × Nat) :=
 if most < 1 ∨ 262144 < most ∨ at_ < 0 ∨ 8 * (s.length : Int) < at_ then .error 2 else Qfl (bytesB s) at_.toNat most
def takeV (r : Except Int (List UInt8 × Nat × Nat)) : Value := match r with
 | .ok r => .tuple #[Str r.1, .int .u32 r.2.1, .int .i64 r.2.2, .int .i64 0]
 | .error e => .tuple #[Str [], .int .u32 0, .int .i64 0, .int .i64 e]
theorem Qs1 (l : List Bool) (a : Nat) : ((hdS l a).2.2.2 = 0 /\ a + 105 <= l.length /\ (hdS l a).2.2.1 = a + 105 /\ (hdS l a).1 < 4294967296 /\ (hdS l a).2.1 < 16777216) ∨ ((hdS l a).2.2.2 = 10 ∨ (hdS l a).2.2.2 = 120) := by
 unfold hdS
 have h1 := Qba ((l.drop (a + 48)).take 32)
 have h2 := Nat.pow_le_pow_right (show 0 < 2 by omega) (show ((l.drop (a + 48)).take 32).length <= 32 by rw [List.length_take];omega)
 have h3 := Qba ((l.drop (a + 81)).take 24)
 have h4 := Nat.pow_le_pow_right (show 0 < 2 by omega) (show ((l.drop (a + 81)).take 24).length <= 24 by rw [List.length_take];omega)
 repeat' split
 all_goals first
  | (exact .inr (.inl rfl))
  | (exact .inr (.inr rfl))
  | (refine .inl ⟨rfl, by omega, rfl, ?_, ?_⟩ <;> simp only <;> omega)
theorem Qu3 : ∀ (l out : List UInt8) (k : Nat), (decS out k l).2 = 0 ∨ (decS out k l).1 = [] := by
 intro l
 induction l with
 | nil => intro out k;rw [decS];split <;> simp
 | cons c l ih =>
  intro out k
  rw [decS]
  repeat' split
  all_goals first | (right;rfl) | exact ih _ _
theorem Qu4 (u : List UInt8) (l : List Nat) (row most : Int) : (unpS u l row most).2 = 0 ∨ (unpS u l row most).1 = [] := by
 unfold unpS
 repeat' split
 all_goals first | (right;rfl) | exact Qu3 _ _ _
theorem Qkn (u : List UInt8) (l : List Nat) (row most : Int) : (unpS u l row most).1.length <= 262144 := by
 unfold unpS
 repeat' split
 all_goals first | simp | exact Qy4 _ _ _ (by simp)
theorem blockTake_does (s : List UInt8) (at_ most : Int) (w : World) (ha : I64 at_) (hm : I64 most) (hs : s.length <= 100000000000000) :
  Does Tryz.prog 18 #[Str s, .int .i64 at_, .int .i64 most] w fun v w' => Heap w [] w' [] /\ v = takeV (takeF s at_ most) := by
 have hbl := bytesB_length s
 have hhd := fun w => Qiq s at_ w ha (by omega)
 refine En [Str s, .int .i64 at_, .int .i64 most] 90 Tryz.func18 ?_
 refine VS [0, 1, 2] ?_
 refine VQ [0, 1, 2, 22] fun K hK => ?_
 suffices out : ∀ b : Bool, (b = true ↔ most < 1 ∨ 262144 < most) -> K [(0, Str s), (1, .int .i64 at_), (2, .int .i64 most), (22, .bool b)] w by
  refine ⟨fun h => out _ (by simp at h ⊢;omega), fun h => out _ (by simp at h ⊢;omega)⟩
 intro b hb
 apply hK;clear hK
 refine Vi (fun h => ?_) (fun h => VC_skip ?_)
 ·
  have hb := hb.1 h
  refine VS [6, 7, 8, 9] ?_
  refine VC_ret (Qb0 rfl rfl rfl rfl rfl ⟨Heap.start w, ?_⟩)
  rw [takeF, if_pos (by omega)]
  rfl
 have hmo : ¬ (most < 1 ∨ 262144 < most) := fun hh => by rw [hb.2 hh] at h;cases h
 clear hb h
 refine VQ [0, 1, 2, 10, 11, 12] fun K hK => ?_
 refine MemK_call Tryz.call45 ?_;refine Qs ?_;refine CallK.mk (hhd w) ?_
 rintro v w2 ⟨hH, rfl⟩
 by_cases hat : at_ < 0 ∨ 8 * (s.length : Int) < at_
 ·
  rw [if_pos hat]
  unfold hdV
  refine Qs ?_
  apply hK;clear hK
  refine VS [0, 1, 2, 10, 11, 12, 32] ?_
  refine Qaa rfl rfl (fun h => ?_) (fun h => by simp at h)
  refine VS [6, 7, 8, 9] ?_
  refine VC_ret (Qb0 rfl rfl rfl rfl rfl ⟨hH, ?_⟩)
  rw [takeF, if_pos (by omega)]
  rfl
 rw [if_neg hat]
 have hF : takeF s at_ most = Qfl (bytesB s) at_.toNat most := by rw [takeF, if_neg (by omega)]
 rw [hF] at hK
 obtain ⟨at_, rfl⟩ : ∃ n : Nat, at_ = n := ⟨at_.toNat, by omega⟩
 rw [Int.toNat_natCast] at hK ⊢
 have hok := Qs1 (bytesB s) at_
 have hE : Qfl (bytesB s) at_ most = Qfl (bytesB s) at_ most := rfl
 conv at hE => rhs;unfold Qfl
 generalize Qfl (bytesB s) at_ most = res at *
 clear hF hat hhd
 generalize hdS (bytesB s) at_ = hd at *
 obtain ⟨sum, row, to, e⟩ := hd
 simp only at hok hE
 unfold hdV
 refine Qs ?_
 apply hK;clear hK
 refine VS [0, 1, 2, 10, 11, 12, 32] ?_
 refine VD (fun h => ?_) (fun h => ?_)
 ·
  refine VS [6, 7, 8, 9] ?_
  refine VC_ret (Qb0 rfl rfl rfl rfl rfl ⟨hH, ?_⟩)
  rw [hE, if_pos (by omega)]
  rfl
 obtain rfl : e = 0 := by omega
 rw [if_neg (by simp)] at hE
 obtain ⟨_, h1, rfl, h2, h3⟩ : (0 : Nat) = 0 /\ at_ + 105 <= (bytesB s).length /\ to = at_ + 105 /\ sum < 4294967296 /\ row < 16777216 := by
  rcases hok with hok | hok
  ·
   exact hok
  ·
   omega
 clear hok h
 refine VC_skip ?_
 have hst := fun w => Qmh s (at_ + 105) (by omega) (by omega) w
 generalize hbits : bytesB s = bits at *
 refine VQ [0, 1, 2, 10, 11, 12, 13] fun K hK => ?_
 refine MemK_call Tryz.call46 ?_;refine Qs ?_;refine CallK.mk (hst w2) ?_
 rintro v w3 ⟨hHs, rfl⟩
 have hH2 := hH.call0 hHs
 clear hH hHs hst
 cases hU : Qbi bits (at_ + 105) with
 | error e =>
  rw [hU] at hE
  have he := Qex hU
  unfold exV
  refine Qs ?_
  apply hK;clear hK
  refine VS [0, 1, 2, 10, 11, 12, 13, 42] ?_
  refine Qaa rfl rfl (fun h => ?_) (fun h => by simp at h;exact absurd h he)
  refine VS [6, 7, 8, 9] ?_
  refine VC_ret (Qb0 rfl rfl rfl rfl rfl ⟨hH2, ?_⟩)
  rw [hE]
  rfl
 | ok u =>
  rw [hU] at hE
  obtain ⟨u1, u2, u3⟩ := Qfk hU
  obtain ⟨u, at2⟩ := u
  simp only at hE u1 u2 u3
  unfold exV
  refine Qs ?_
  apply hK;clear hK
  refine VS [0, 1, 2, 10, 11, 12, 13, 42] ?_
  refine Qaa rfl rfl (fun h => by simp at h) (fun h => VC_skip ?_)
  have hpt := fun w => Qka s at2 (u.length + 2) (by omega) (by omega) (by omega) w
  rw [hbits] at hpt
  refine VQ [0, 1, 2, 10, 11, 12, 13, 14] fun K hK => ?_
  (repeat first | refine Qo ?_ | refine Qp ?_)
  rw [show ((u.length : Int) + 2) = ((u.length + 2 : Nat) : Int) by push_cast;rfl]
  refine MemK_call Tryz.call47 ?_;refine Qs ?_;refine CallK.mk (hpt w3) ?_
  cases hP : Qbr bits at2 (u.length + 2) with
  | error e =>
   rw [hP] at hE
   have he := Qew hP
   rintro v w4 ⟨hHs, rfl⟩
   have hH3 := hH2.call0 hHs
   simp only [List.append_nil] at hH3
   clear hH2 hHs
   refine Qav (.agg #[.slice none 0 0, .slice none 0 0]) (by kernel_rfl) ?_
   refine Qs ?_
   have hH4 := hH3.box 65 (Qaq none 0 0 none 0 0)
   have hpl : [Value.slice none 0 0, Value.slice none 0 0] = Qaq none 0 0 none 0 0 := rfl
   rw [hpl]
   generalize w4.alloc (Obj.cells (Qaq none 0 0 none 0 0).toArray 65) = w5 at *
   generalize w4.heap.size = gp at *
   refine Qac ?_
   refine Qs ?_
   refine Qad hH4 0 (vs := Qaq none 0 0 none 0 0) rfl rfl (by kernel_rfl) (by simp [Qaq]) (Qa2 _ _ _ _ _ _) fun w6 hH5 => ?_
   apply hK;clear hK
   refine VS [0, 1, 2, 10, 11, 12, 13, 14, 55] ?_
   refine Qaa rfl rfl (fun h => ?_) (fun h => by simp at h;exact absurd h he)
   refine VS [6, 7, 8, 9] ?_
   refine VC_ret (Qb0 rfl rfl rfl rfl rfl ⟨hH5.sub (by simp), ?_⟩)
   rw [hE]
   rfl
  | ok p =>
   rw [hP] at hE
   obtain ⟨m1, m2, m3⟩ := Qfi (by omega) hP
   obtain ⟨⟨T, P⟩, at3⟩ := p
   simp only at hE m1 m2 m3
   rintro v w4 ⟨pv, hHs, hpa, rfl⟩
   have hH3 := hH2.call0 hHs
   simp only [List.append_nil] at hH3
   clear hH2 hHs
   obtain ⟨ta, tc, pa, pc, us, rfl, _⟩ := id hpa
   have hpv : Value.agg #[.slice ta T.length tc, .slice pa P.length pc] = .agg (Qaq ta T.length tc pa P.length pc).toArray := rfl
   simp only at hpa
   rw [hpv] at hpa ⊢
   refine Qs ?_
   refine Qav (.agg #[.slice none 0 0, .slice none 0 0]) (by kernel_rfl) ?_
   refine Qs ?_
   have hHz := (Heap.start w4).box 65 (Qaq none 0 0 none 0 0)
   have hpl : [Value.slice none 0 0, Value.slice none 0 0] = Qaq none 0 0 none 0 0 := rfl
   rw [hpl]
   generalize w4.alloc (Obj.cells (Qaq none 0 0 none 0 0).toArray 65) = w5 at *
   generalize w4.heap.size = gp at *
   refine Qac ?_
   refine Qs ?_
   refine Qad hHz 0 (vs := Qaq ta T.length tc pa P.length pc) rfl rfl (by kernel_rfl) (by simp [Qaq]) (Qa2 _ _ _ _ _ _) fun w6 hHy => ?_
   have hHx : Heap w4 [] w6 [Res.blk gp 65 (Qaq ta T.length tc pa P.length pc)] := hHy
   have hH4 := hH3.call0 hHx
   simp only [List.singleton_append] at hH4
   have hpa2 := hpa.keep hHx
   clear hHz hHy hHx hH3 hpa
   apply hK;clear hK
   refine VS [0, 1, 2, 10, 11, 12, 13, 14, 55] ?_
   refine Qaa rfl rfl (fun h => by simp at h) (fun h => VC_skip ?_)
   have hgt := Ql6 _ T P m1 s at3 (by omega) (by omega) w6 hpa2
   rw [hbits] at hgt
   refine VQ [1, 2, 10, 11, 12, 13, 15] fun K hK => ?_
   refine ⟨Qaq ta T.length tc pa P.length pc, ⟨rfl, Qcc (hH4.at 0 rfl)⟩, ?_⟩
   refine MemK_call Tryz.call48 ?_;refine Qs ?_;refine CallK.mk hgt ?_
   cases hG : Qcq T bits ((T.getD 0 []).length - 1) P at3 with
   | error e =>
    rw [hG] at hE
    have he := Qgm _ _ _ hG
    rintro v w7 ⟨hHs, rfl⟩
    have hH5 := hH4.call0 hHs
    apply hK;clear hK
    refine VS [1, 2, 10, 11, 12, 13, 15, 66] ?_
    refine Qaa rfl rfl (fun h => ?_) (fun h => by simp at h;exact absurd h he)
    refine VS [6, 7, 8, 9] ?_
    refine VC_ret (Qb0 rfl rfl rfl rfl rfl ⟨hH5.sub (by simp), ?_⟩)
    rw [hE]
    rfl
   | ok q =>
    rw [hG] at hE
    obtain ⟨n1, n2, n3, n4, n5, n6⟩ := m1
    obtain ⟨g1, g2, g3⟩ := Qh6 (N := (T.getD 0 []).length) (fun t ht => (n5 _ (by rw [List.getD_eq_getElem?_getD, List.getElem?_eq_getElem ht];exact List.getElem_mem ht)).1) _ _ _ n6 (by omega) hG
    obtain ⟨q, at4⟩ := q
    simp only at hE g1 g2 g3
    rintro v w7 ⟨aq, cq, hHs, rfl⟩
    have hH5 := hH4.call0 hHs
    simp only [List.singleton_append] at hH5
    clear hH4 hHs hgt hpa2
    refine Qs ?_
    apply hK;clear hK
    refine VS [1, 2, 10, 11, 12, 13, 15, 66] ?_
    refine Qaa rfl rfl (fun h => by simp at h) (fun h => VC_skip ?_)
    have hup := fun w h => Qkm u q row most aq cq (by omega) (by omega) (fun x hx => by have := g1 x hx;omega) (I64.mk (by omega) (by omega)) hm w h
    have hue := Qu4 u q row most
    have hul := Qkn u q row most
    generalize unpS u q row most = X at *
    obtain ⟨txt, e⟩ := X
    simp only at hE hue hul hup
    refine VQ [1, 10, 12, 16] fun K hK => ?_
    refine MemK_call Tryz.call49 ?_;refine Qs ?_;refine CallK.mk (hup w7 (Qaz (hH5.at 0 rfl))) ?_
    rintro v w8 ⟨hHs, rfl⟩
    have hH6 := hH5.call0 hHs
    simp only [List.nil_append] at hH6
    clear hH5 hHs hup
    apply hK;clear hK
    refine VQ [1, 10, 12, 16, 83] fun K hK => ?_
    suffices out : ∀ b : Bool, ∀ w9, Heap w [] w9 [] -> (b = true ↔ e = 0 /\ crcBzip txt ≠ sum) -> K [(1, .int .i64 at4), (10, .int .u32 sum), (12, .int .i64 e), (16, Str txt), (83, .bool b)] w9 by
     refine ⟨fun h => ?_, fun h => out _ _ (hH6.sub (by simp)) (by simp at h ⊢;intro h';exact absurd h' h)⟩
     refine MemK_call Tryz.call21 ?_;refine Qs ?_;refine CallK.mk (bzip_does txt w8 (by omega)) ?_
     rintro v w9 ⟨hHs, rfl⟩
     have hH7 := hH6.call0 hHs
     refine Qs ?_
     exact out _ _ (hH7.sub (by simp)) (by simp [h];omega)
    intro b w9 hH7 hb
    apply hK;clear hK
    (repeat refine Qay ?_)
    refine Qe3 [1, 10, 12, 16] (fun e' w' => ∃ x : Int, Is e' [(1, .int .i64 at4), (10, .int .u32 sum), (12, .int .i64 x), (16, Str txt)] /\ Is w' w9 /\ x = if b = true then 121 else e) ?_ ?_
    ·
     refine Vi (fun h => ?_) (fun h => ?_)
     ·
      refine VS [1, 10, 12, 16] ?_
      refine Qab ?_
      refine Qs ?_
      exact ⟨121, rfl, rfl, by simp [h]⟩
     ·
      refine VC_skip (Qab ?_)
      refine Qs ?_
      exact ⟨e, rfl, rfl, by simp [h]⟩
    rintro e' w' ⟨x, rfl, rfl, hx⟩
    refine VS [1, 10, 12, 16, 85] ?_
    refine VD (fun h => ?_) (fun h => VC_skip ?_)
    ·
     refine VS [6, 7, 8, 9] ?_
     refine VC_ret (Qb0 rfl rfl rfl rfl rfl ⟨hH7, ?_⟩)
     rw [hE]
     by_cases hb2 : b = true
     ·
      have h2 := hb.1 hb2
      rw [if_pos hb2] at hx
      rw [if_neg (by simp [h2.1]), if_pos h2.2, hx]
      rfl
     ·
      rw [if_neg hb2] at hx
      rw [if_pos (by rw [<- hx];exact h), hx]
      rfl
    refine VS [6, 7, 8, 9] ?_
    refine VC_ret (Qb0 rfl rfl rfl rfl rfl ⟨hH7, ?_⟩)
    have hb2 : ¬ b = true := fun hb2 => by rw [if_pos hb2] at hx;omega
    rw [if_neg hb2] at hx
    have he0 : e = 0 := by omega
    rw [hE, if_neg (by simp [he0]), if_neg (fun hc => hb2 (hb.2 ⟨he0, hc⟩))]
    rfl
theorem Qqs (n most : Int) (l : List Int) (la : Option Addr) (lc : Nat) (hn : I64 n) (hm : I64 most) (w : World) (hl : RS w la l.length 1 (Qal l)) (hs : l.length <= 2147483640) (hi : ∀ v ∈ l, I64 v) :
  Does Tryz.prog 54 #[.int .i64 n, .int .i64 most, .slice la l.length lc] w (IntsErr (Qbo n most l) w) := by
 obtain ⟨hn1, hn2⟩ := hn
 obtain ⟨hm1, hm2⟩ := hm
 refine En [.int .i64 n, .int .i64 most, .slice la l.length lc] 81 Tryz.func54 ?_
 refine VS [0, 1, 2] ?_
 refine VQ [0, 1, 2, 28] fun K hK => ?_
 suffices out : ∀ b : Bool, (b = true ↔ n < 1 ∨ 256 < n ∨ most < 0 ∨ 262144 < most) -> K [(0, .int .i64 n), (1, .int .i64 most), (2, .slice la l.length lc), (28, .bool b)] w by (repeat' (first | exact out _ _ (by first | omega | (simp;done) | (simp;omega)) | exact out _ (by first | omega | (simp;done) | (simp;omega)) | refine ⟨fun _ => ?_, fun _ => ?_⟩ | refine Qo ?_))
 intro b hb
 apply hK;clear hK
 refine Vi (fun h => ?_) (fun h => VC_skip ?_)
 ·
  refine VS [6, 7] ?_
  refine VC_ret (Qaj rfl rfl rfl ?_)
  rw [Qbo, if_pos (hb.1 h)]
  exact IntsErr.nil (Heap.start w) 2
 have hg : ¬ (n < 1 ∨ 256 < n ∨ most < 0 ∨ 262144 < most) := fun h' => by rw [hb.2 h'] at h;cases h
 clear h hb
 rw [Qbo, if_neg hg]
 refine VS [0, 1, 2, 8] ?_
 refine VS [0, 1, 2, 8, 9] ?_
 refine VS [0, 1, 2, 8, 9, 10] ?_
 refine VS [0, 1, 2, 8, 9, 10, 11] ?_
 refine VB ?_
 refine Qae [0, 1, 2, 8, 9, 10, 11] (fun m e w' => ∃ (i wt cap : Nat) (a : Option Addr) (o : List Int) (b : Bool), Is e [(0, .int .i64 n), (1, .int .i64 most), (2, .slice la l.length lc), (8, .slice a o.length cap), (9, .int .i64 wt), (10, .bool b), (11, .int .i64 i)] /\ Heap w [] w' [Res.row 3 1 a o.length cap (Qal o)] /\ i <= l.length /\ (o.length : Int) <= most /\ wt <= 2 * most + 1 /\ 1 <= wt /\ zdec n most [] 1 l = (if b then zend n o (l.drop i) else zdec n most o wt (l.drop i)) /\ m = l.length - i) l.length ?_ ?_
 ·
  refine Qs ?_
  exact ⟨0, 1, 0, none, [], false, rfl, Qd2, by omega, by simp;omega, by omega, by omega, rfl, rfl⟩
 rintro m e w2 ⟨i, wt, cap, a, o, b, rfl, hH, g1, g2, g3, g4, g5, rfl⟩
 refine VS [0, 1, 2, 8, 9, 10, 11, 32] ?_
 refine VD (fun h => ?_) (fun h => ?_)
 ·
  refine VC_skip ?_
  refine VB ?_
  obtain ⟨p, rfl⟩ := Qbe hl (by omega)
  have hc := Qde (hH.rs' hl) (show i < l.length by omega)
  have hr := hi _ (Qbl 0 (show i < l.length by omega))
  have hdr := Qa1 0 (show i < l.length by omega)
  generalize l.getD i 0 = s at *
  obtain ⟨hr1, hr2⟩ := hr
  rw [hdr] at g5
  refine VQ [0, 1, 2, 8, 9, 10, 11, 12] fun K hK => ?_
  refine ⟨⟨by omega, by omega⟩, _, hc, ?_⟩
  (try refine Qs ?_)
  (repeat refine Qo ?_);apply hK;clear hK
  refine VQ [0, 1, 2, 8, 9, 10, 11, 12, 46] fun K hK => ?_
  suffices out : ∀ c : Bool, (c = true ↔ s < 0 ∨ n + 1 < s) -> K [(0, .int .i64 n), (1, .int .i64 most), (2, .slice (some p) l.length lc), (8, .slice a o.length cap), (9, .int .i64 wt), (10, .bool b), (11, .int .i64 i), (12, .int .i64 s), (46, .bool c)] w2 by (repeat' (first | exact out _ _ (by first | omega | (simp;done) | (simp;omega)) | exact out _ (by first | omega | (simp;done) | (simp;omega)) | refine ⟨fun _ => ?_, fun _ => ?_⟩ | refine Qo ?_))
  intro c hb
  apply hK;clear hK
  refine Vi (fun h => ?_) (fun h => VC_skip ?_)
  ·
   refine VS [6, 7] ?_
   refine VC_ret (Qaj rfl rfl rfl ?_)
   have hg2 := hb.1 h
   rw [zdec, zend, if_pos hg2, if_pos hg2, ite_self] at g5
   rw [g5]
   exact IntsErr.nil (hH.sub (by simp)) 60
  have hg2 : ¬ (s < 0 ∨ n + 1 < s) := fun h' => by rw [hb.2 h'] at h;cases h
  clear h hb
  rw [zdec, zend, if_neg hg2, if_neg hg2] at g5
  refine VS [0, 1, 2, 8, 9, 10, 11, 12, 47] ?_
  refine Vi (fun h => ?_) (fun h => ?_)
  ·
   subst h
   refine VS [6, 7] ?_
   refine VC_ret (Qaj rfl rfl rfl ?_)
   rw [if_pos rfl] at g5
   rw [g5]
   exact IntsErr.nil (hH.sub (by simp)) 70
  subst h
  rw [if_neg (by simp)] at g5
  refine VC_skip ?_
  refine VS [0, 1, 2, 8, 9, 10, 11, 12, 51] ?_
  refine VD (fun h => ?_) (fun h => ?_)
  ·
   refine VS [0, 1, 2, 8, 9, 10, 11] ?_
   refine Qag rfl ?_
   refine VS [0, 1, 2, 8, 9, 10, 11] ?_
   refine Qab ?_
   refine Qs ?_
   rw [if_neg (by omega), if_pos h] at g5
   exact ⟨l.length - (i + 1), by omega, i + 1, wt, _, _, _, true, rfl, hH, by omega, g2, g3, g4, g5, rfl⟩
  refine VC_skip ?_
  refine VS [0, 1, 2, 8, 9, 10, 11, 12, 53] ?_
  refine Qaa rfl rfl (fun h' => ?_) (fun h' => ?_)
  ·
   simp only [decide_eq_true_eq] at h'
   rw [if_neg (by omega), if_neg h] at g5
   refine VS [0, 1, 2, 8, 9, 10, 11, 12] ?_
   refine VS [0, 1, 2, 8, 9, 10, 11, 12, 57] ?_
   refine VD (fun h => ?_) (fun h => ?_)
   ·
    refine VS [6, 7] ?_
    refine VC_ret (Qaj rfl rfl rfl ?_)
    rw [if_pos (by omega)] at g5
    rw [g5]
    exact IntsErr.nil (hH.sub (by simp)) 3
   rw [if_neg (by omega)] at g5
   refine VC_skip ?_
   refine VQ [0, 1, 2, 8, 9, 10, 11] fun K hK => ?_
   (repeat first | refine Qo ?_ | refine Qp ?_)
   refine Qa6 (xs := [.tmp 60]) Tryz.underlying36 sz3 rfl rfl rfl (by omega) ?_;refine Qs ?_;refine ⟨by simp [Value.cells], ?_⟩
   refine Qai ?_;refine Qs ?_;refine Qgx hH 0 rfl Tryz.underlying36 zi3 (fun h => by (first | omega | (simp;done) | (simp;omega))) fun a' cap' w5 hc' hH4 => ?_;(try refine Qs ?_)
   apply hK;clear hK
   refine Qag rfl ?_
   refine VS [0, 1, 2, 8, 9, 10, 11] ?_
   refine Qab ?_
   refine Qs ?_
   exact ⟨l.length - (i + 1), by omega, i + 1, 1, _, _, _, false, rfl, hH4, by omega, by simp;omega, by omega, by omega, g5, rfl⟩
  simp only [decide_eq_false_iff_not] at h'
  rw [if_pos (by omega)] at g5
  refine VC_skip ?_
  obtain ⟨t, rfl⟩ : ∃ t : Nat, s = t := ⟨s.toNat, by omega⟩
  have ht : t = 0 ∨ t = 1 := by omega
  have hmul : ((t : Int) + 1) * wt <= 2 * wt /\ (wt : Int) <= ((t : Int) + 1) * wt := by
   rcases ht with rfl | rfl <;> simp <;> omega
  generalize hk : ((t : Int) + 1) * wt = k at *
  refine VQ [0, 1, 2, 9, 10, 11, 13, 14] fun K hK => ?_
  (repeat first | refine Qo ?_ | refine Qp ?_)
  rw [hk]
  (repeat first | refine Qo ?_ | refine Qp ?_)
  refine MemK_call Tryz.call115 ?_;refine Qs ?_;refine CallK.mk (Qmk o a cap k most w2 (by omega) (by omega) (by omega) (hH.focus 0 rfl)) ?_
  rintro v w3 (⟨hlt, rfl, rfl⟩ | ⟨hlt, a', cap', hL, rfl⟩)
  ·
   (try refine Qs ?_)
   apply hK;clear hK
   refine VS [0, 1, 2, 9, 10, 11, 13, 74] ?_
   refine Qaa rfl rfl (fun h => ?_) (fun h => by simp at h)
   refine VS [6, 7] ?_
   refine VC_ret (Qaj rfl rfl rfl ?_)
   rw [if_pos hlt] at g5
   rw [g5]
   exact IntsErr.nil (hH.sub (by simp)) 3
  ·
   (try refine Qs ?_)
   apply hK;clear hK
   have hH3 := hH.call1 0 rfl hL
   rw [if_neg hlt] at g5
   refine VS [0, 1, 2, 9, 10, 11, 13, 74] ?_
   refine Qaa rfl rfl (fun h => by simp at h) (fun h => VC_skip ?_)
   refine VS [0, 1, 2, 8, 9, 10, 11] ?_
   have hlen : ((o ++ List.replicate k.toNat 0).length : Int) = o.length + k := by simp;omega
   refine VS [0, 1, 2, 8, 9, 10, 11] ?_
   refine Qam ?_
   refine VS [0, 1, 2, 8, 9, 10, 11] ?_
   refine Qab ?_
   refine Qs ?_
   exact ⟨l.length - (i + 1), by omega, i + 1, 2 * wt, _, _, _, false, by simp [Is];omega, hH3, by omega, by omega, by omega, by omega, g5, rfl⟩
 ·
  refine Qag rfl ?_
  rw [List.drop_of_length_le (by omega), zdec, zend] at g5
  refine VS [8, 79] ?_
  cases b with
  | false =>
   refine Qaa rfl rfl (fun h => ?_) (fun h => by simp at h)
   refine VS [6, 7] ?_
   refine VC_ret (Qaj rfl rfl rfl ?_)
   rw [g5]
   exact IntsErr.nil (hH.sub (by simp)) 70
  | true =>
   refine Qaa rfl rfl (fun h => by simp at h) (fun h => VC_skip ?_)
   refine VS [6, 7] ?_
   refine VC_ret (Qaj rfl rfl rfl ?_)
   rw [g5]
   exact ⟨_, _, hH, rfl⟩
theorem Qh8 (out : List UInt8) (same : Nat) (c : UInt8) (s : List UInt8) (h : same ≠ 4) (hl : out.length < 262144) :
  decS out same (c :: s) = decS (out ++ [c]) (if 0 < same /\ out.getLastD 0 = c then same + 1 else 1) s := by
 rw [decS, if_neg h, if_neg (by omega)]
theorem Qe2 (out : List UInt8) (c : UInt8) : (out ++ [c]).getLastD 0 = c := by simp
theorem Qo9 (b : UInt8) (s : List UInt8) : ∀ (m j : Nat) (out : List UInt8), 1 <= j -> j + m <= 4 -> out.getLastD 0 = b -> out.length + m <= 262144 ->
  decS out j (List.replicate m b ++ s) = decS (out ++ List.replicate m b) (j + m) s
 | 0, j, out, _, _, _, _ => by simp
 | m + 1, j, out, h1, h2, h3, h4 => by
  rw [List.replicate_succ, List.cons_append, Qh8 _ _ _ _ (by omega) (by omega), if_pos ⟨by omega, h3⟩,
   Qo9 b s m (j + 1) (out ++ [b]) (by omega) (by omega) (Qe2 _ _) (by simp;omega), List.append_assoc]
  rw [show j + 1 + m = j + (m + 1) by omega]
  rfl
theorem Qy6 (b : UInt8) (s out : List UInt8) (m same : Nat) (h1 : 1 <= m) (h2 : m <= 4) (hs : same <= 3) (hb : 0 < same -> out.getLastD 0 ≠ b) (hl : out.length + m <= 262144) :
  decS out same (List.replicate m b ++ s) = decS (out ++ List.replicate m b) m s := by
 obtain ⟨m, rfl⟩ : ∃ k, m = k + 1 := ⟨m - 1, by omega⟩
 rw [List.replicate_succ, List.cons_append, Qh8 _ _ _ _ (by omega) (by omega), if_neg (fun h => hb h.1 h.2),
  Qo9 b s m 1 (out ++ [b]) (by omega) (by omega) (Qe2 _ _) (by simp;omega), List.append_assoc, Nat.add_comm 1 m]
 rfl
theorem Qms (b : UInt8) : ∀ (l : List UInt8) (n : Nat), n <= lead b l -> l.take n = List.replicate n b
 | [], n, h => by simp [lead] at h;subst h;rfl
 | c :: l, 0, _ => rfl
 | c :: l, n + 1, h => by
  simp only [lead] at h
  by_cases hc : c = b
  ·
   rw [if_pos hc] at h
   rw [List.take_succ_cons, Qms b l n (by omega), hc]
   rfl
  ·
   rw [if_neg hc] at h;omega
def Ahead (out : List UInt8) (same : Nat) (s : List UInt8) : Prop := same <= 3 /\ (0 < same -> same + lead (out.getLastD 0) s <= 3)
theorem Ahead.zero (out s : List UInt8) : Ahead out 0 s := ⟨by omega, fun h => by omega⟩
theorem Qs2 (out : List UInt8) (same : Nat) (b : UInt8) (s : List UInt8) (h : Ahead out same (b :: s)) (hk : lead b s <= 2) (hl : out.length < 262144) :
  ∃ same', decS out same (b :: s) = decS (out ++ [b]) same' s /\ Ahead (out ++ [b]) same' s := by
 refine ⟨_, Qh8 out same b s (by have := h.1;omega) hl, ?_⟩
 rw [Ahead, Qe2]
 split
 ·
  rename_i hh
  have := h.2 hh.1
  rw [hh.2, lead, if_pos rfl] at this
  exact ⟨by omega, fun _ => by omega⟩
 ·
  exact ⟨by omega, fun _ => by omega⟩
theorem Qko (out : List UInt8) (same : Nat) (b : UInt8) (s : List UInt8) (h : same ≠ 4) (hl : out.length = 262144) : decS out same (b :: s) = ([], 3) := by
 rw [decS, if_neg h, if_pos hl]
theorem Qf5 (b : UInt8) (s : List UInt8) : ∀ (m j : Nat) (out : List UInt8), j + m <= 4 -> (0 < j -> out.getLastD 0 = b) -> out.length <= 262144 -> 262144 < out.length + m ->
  decS out j (List.replicate m b ++ s) = ([], 3)
 | 0, j, out, _, _, _, h => by omega
 | m + 1, j, out, h1, h2, h3, h4 => by
  rw [List.replicate_succ, List.cons_append]
  by_cases hf : out.length = 262144
  ·
   exact Qko out j b _ (by omega) hf
  ·
   rw [Qh8 _ _ _ _ (by omega) (by omega)]
   refine Qf5 b s m _ (out ++ [b]) ?_ (fun _ => Qe2 _ _) (by simp;omega) (by simp;omega)
   split <;> omega
theorem Qkp (out : List UInt8) (same : Nat) (b : UInt8) (s : List UInt8) (h : Ahead out same (List.replicate 4 b ++ s)) (hl : out.length <= 262144) (hl2 : 262144 < out.length + 4) :
  decS out same (List.replicate 4 b ++ s) = ([], 3) := by
 rw [show List.replicate 4 b ++ s = b :: (List.replicate 3 b ++ s) from rfl]
 by_cases hf : out.length = 262144
 ·
  exact Qko out same b _ (by have := h.1;omega) hf
 ·
  rw [Qh8 _ _ _ _ (by have := h.1;omega) (by omega), if_neg]
  ·
   exact Qf5 b s 3 1 (out ++ [b]) (by omega) (fun _ => Qe2 _ _) (by simp;omega) (by simp;omega)
  ·
   intro hh
   have := h.2 hh.1
   rw [hh.2] at this
   simp [lead, List.replicate] at this
   omega
theorem Qu5 (out : List UInt8) (same : Nat) (b : UInt8) (s : List UInt8) (h : Ahead out same (List.replicate 4 b ++ s)) (hl : out.length + 4 <= 262144) :
  decS out same (List.replicate 4 b ++ s) = decS (out ++ List.replicate 4 b) 4 s := by
 refine Qy6 b s out 4 same (by omega) (by omega) h.1 (fun h1 h2 => ?_) hl
 have := h.2 h1
 rw [h2] at this
 simp [lead, List.replicate] at this
 omega
theorem Qs3 (out : List UInt8) (b : UInt8) : (out ++ List.replicate 4 b).getLastD 0 = b := by
 rw [show List.replicate 4 b = List.replicate 3 b ++ [b] from rfl, <- List.append_assoc, Qe2]
theorem Qs4 (out : List UInt8) (b c : UInt8) (s : List UInt8) : decS (out ++ List.replicate 4 b) 4 (c :: s) =
  if 262144 < out.length + 4 + c.toNat then ([], 3) else decS (out ++ List.replicate 4 b ++ List.replicate c.toNat b) 0 s := by
 rw [decS, if_pos rfl, Qs3]
 simp
theorem Qjd (b : UInt8) (l : List UInt8) : min 4 (Qml (b :: l)) = min 4 (lead b l + 1) := by
 simp only [Qml];omega
theorem Qy7 (l : List UInt8) (n : Nat) (hi : 0 < l.length) (h1 : 1 <= n) (h2 : n <= 4) (hs : Same l 0 n) (he : n = 4 ∨ l[0 + n]? ≠ l[0]?) : min 4 (Qml l) = n := by
 rcases he with he | he
 ·
  cases l with
  | nil => simp at hi
  | cons b l =>
   have : n - 1 <= lead b l := Qst b l (n - 1) (fun j hj => by
    have := hs (j + 1) (by omega)
    simpa using this)
   rw [Qjd]
   omega
 ·
  have := Qux l 0 n hi h1 (by omega) hs (.inr he)
  rw [List.drop_zero] at this
  omega
theorem Qs5 (l : List UInt8) (w : World) (hi : 0 < l.length) (hs : l.length <= 1000000000000000000) :
  Does Tryz.prog 119 #[Str l] w fun v w' => w' = w /\ v = .int .i64 (min 4 (Qml l) : Nat) := by
 refine En [Str l] 23 Tryz.func119 ?_
 refine VS [0] ?_
 refine VS [0, 3] ?_
 refine VB ?_
 refine Qae [0, 3] (fun m e w' => ∃ n : Nat, Is e [(0, Str l), (3, .int .i64 n)] /\ Is w' w /\ 1 <= n /\ n <= 4 /\ n <= l.length /\ Same l 0 n /\ m = 4 - n) 3 ?_ ?_
 ·
  refine Qs ?_
  exact ⟨1, rfl, rfl, by omega, by omega, by omega, fun j hj => by rw [show j = 0 by omega], rfl⟩
 rintro m e w' ⟨n, rfl, rfl, h1, h2, h2', h3, rfl⟩
 refine Vq [0, 3, 19] fun K hK => ?_
 have done : (n = 4 ∨ l[0 + n]? ≠ l[0]?) -> K [(0, Str l), (3, Value.int IntKind.i64 n), (19, Value.bool false)] := by
  intro hend
  apply hK;clear hK
  refine Qaa rfl rfl (fun h => by cases h) (fun _ => ?_)
  refine Qag rfl ?_
  refine VS [2] ?_
  refine VC_ret (VX_ret1 rfl rfl ⟨rfl, ?_⟩)
  rw [Qy7 l n hi h1 h2 h3 hend]
 refine ⟨fun k1 => ⟨fun k2 => ⟨by omega, by omega, ?_⟩, fun k2 => done (.inl (by omega))⟩, fun k1 => ?_⟩
 ·
  by_cases hc : l[0 + n]? = l[0]?
  ·
   (apply hK;clear hK)
   refine Vi (fun h => ?_) (fun h => ?_)
   ·
    refine VC_skip (Qaf ?_)
    refine VS [0, 3] ?_
    refine Qam (Qab ?_)
    refine Qs ?_
    refine ⟨4 - (n + 1), by omega, n + 1, rfl, rfl, by omega, by omega, by omega, ?_, rfl⟩
    intro j hj
    by_cases hjn : j = n
    ·
     rw [hjn];exact hc
    ·
     exact h3 j (by omega)
   ·
    exfalso
    simp only [decide_eq_false_iff_not] at h
    rw [show (0 : Int).toNat = 0 from rfl, Qh5 (by omega) hi] at h
    exact h (by simpa using hc)
  ·
   have e : decide ((((l.getD n 0).toNat : Nat) : Int) = (((l.getD (0 : Int).toNat 0).toNat : Nat) : Int)) = false := by
    rw [decide_eq_false_iff_not, show (0 : Int).toNat = 0 from rfl, Qh5 (by omega) hi]
    simpa using hc
   rw [e]
   exact done (.inr hc)
 ·
  exact done (.inr (by rw [List.getElem?_eq_none (by omega), List.getElem?_eq_getElem hi];simp))
def QFp (w : World) (l : List UInt8) (m : Nat) (e : Env) (w' : World) : Prop :=
 ∃ (s out : List UInt8) (same cap : Nat) (a : Option Addr), Is e [(0, Str s), (4, .slice a out.length cap)] /\ Heap w [] w' [Res.row 5 1 a out.length cap (bytesV out)] /\ s.length <= l.length /\ out.length <= 262144 /\ Ahead out same s /\ decS [] 0 l = decS out same s /\ m = s.length
theorem Qs6 (l : List UInt8) (w : World) (hs : l.length <= 140737488355328) :
  Does Tryz.prog 57 #[Str l] w fun v w' => Heap w [] w' [] /\ v = .tuple #[Str (decS [] 0 l).1, .int .i64 (decS [] 0 l).2] := by
 refine En [Str l] 58 Tryz.func57 ?_
 refine VS [0] ?_
 refine VS [0, 4] ?_
 refine VB ?_
 refine Qae [0, 4] (QFp w l) l.length ?_ ?_
 ·
  refine Qs ?_
  exact ⟨l, [], 0, 0, none, rfl, Heap.one (r := Res.row 5 1 none 0 0 []) (row_nil 5 1 w) (by intro b hb;cases hb), by omega, by simp, Ahead.zero _ _, rfl, rfl⟩
 rintro m e w2 ⟨s, out, same, cap, a, rfl, hH, h1, h2, h3, h4, rfl⟩
 refine VS [0, 4, 9] ?_
 refine Qaa rfl rfl (fun hlt => ?_) (fun hge => ?_)
 ·
  simp only [decide_eq_true_eq] at hlt
  refine VC_skip (Qaf ?_)
  obtain ⟨b, t, rfl⟩ : ∃ b t, s = b :: t := by
   cases s with
   | nil => simp at hlt
   | cons b t => exact ⟨b, t, rfl⟩
  refine VQ [0, 4, 5] fun K hK => ?_
  refine MemK_call Tryz.call119 ?_;refine Qs ?_;refine CallK.mk (Qs5 (b :: t) w2 (by simp) (by omega)) ?_
  rintro v w3 ⟨rfl, rfl⟩
  rw [Qjd]
  (try refine Qs ?_)
  apply hK;clear hK
  refine VS [0, 4, 13] ?_
  by_cases hk : lead b t <= 2
  ·
   refine Qaa rfl rfl (fun _ => ?_) (fun h => absurd h (by simp;omega))
   refine VS [0, 4, 16] ?_
   by_cases hf : out.length = 262144
   ·
    refine Qaa rfl rfl (fun _ => ?_) (fun h => absurd h (by simp;omega))
    refine VS [2, 3] ?_
    refine VC_ret (Qaj rfl rfl rfl ⟨hH.sub (by simp), ?_⟩)
    rw [h4, Qko _ _ _ _ (by have := h3.1;omega) hf]
   refine Qaa rfl rfl (fun h => absurd h (by simp;omega)) (fun _ => VC_skip ?_)
   obtain ⟨same', e1, e2⟩ := Qs2 out same b t h3 hk (by omega)
   refine VQ [0, 4] fun K hK => ?_
   refine Qp ?_
   rw [show (b :: t).getD (Int.toNat 0) 0 = b from rfl]
   refine Qa6 (xs := [.tmp 19]) Tryz.underlying43 sz5 rfl rfl rfl (by omega) ?_
   refine Qs ?_
   refine ⟨by simp [Value.cells], ?_⟩
   refine Qai ?_
   refine Qs ?_
   refine Qc1 hH 0 b rfl Tryz.underlying43 zi5 rfl (fun h => by simp;omega) fun a' cap' w5 hc' hH4 => ?_
   (try refine Qs ?_)
   apply hK;clear hK
   refine VS [0, 4] ?_
   refine Qag rfl (Qab ?_)
   refine Qs ?_
   exact ⟨t.length, by simp, t, out ++ [b], same', cap', a', rfl, hH4, by simp at h1;omega, by simp;omega, e2, h4.trans e1, rfl⟩
  ·
   refine Qaa rfl rfl (fun h => absurd h (by simp;omega)) (fun _ => VC_skip ?_)
   have hll := Qy1 b t
   have hrep := Qms b t 3 (by omega)
   obtain ⟨r, hr⟩ : ∃ r, b :: t = List.replicate 4 b ++ r := ⟨t.drop 3, by
    rw [show List.replicate 4 b = b :: List.replicate 3 b from rfl, <- hrep, List.cons_append, List.take_append_drop]⟩
   have hlen : (b :: t).length = 4 + r.length := by rw [hr];simp;omega
   generalize hs0 : b :: t = s at *
   have hget0 : s.getD 0 0 = b := by rw [hr];rfl
   clear hs0 hrep hll hk
   subst hr
   have ha1 := h3.1
   refine VS [0, 4, 27] ?_
   by_cases hf : 262144 < out.length + 4
   ·
    refine Qaa rfl rfl (fun _ => ?_) (fun h => absurd h (by simp;omega))
    refine VS [2, 3] ?_
    refine VC_ret (Qaj rfl rfl rfl ⟨hH.sub (by simp), ?_⟩)
    rw [h4, Qkp _ _ _ _ h3 h2 hf]
   refine Qaa rfl rfl (fun h => absurd h (by simp;omega)) (fun _ => VC_skip ?_)
   rw [Qu5 _ _ _ _ h3 (by omega)] at h4
   refine VQ [0, 4] fun K hK => ?_
   refine Qp ?_
   rw [show List.take (Int.toNat 4) (List.replicate 4 b ++ r) = List.replicate 4 b by rw [show (4 : Int).toNat = 4 from rfl, List.take_left' (by simp)]]
   refine Qai ?_
   refine Qs ?_
   refine Qjm hH 0 rfl Tryz.underlying43 zi5 Tryz.underlying9 (fun h => by simp;omega) fun a' cap' w5 hc' hH4 => ?_
   (try refine Qs ?_)
   apply hK;clear hK
   refine VS [0, 4, 34] ?_
   cases r with
   | nil =>
    refine Qaa rfl rfl (fun _ => ?_) (fun h => absurd h (by simp))
    refine VS [2, 3] ?_
    refine VC_ret (Qaj rfl rfl rfl ⟨hH4.sub (by simp), ?_⟩)
    rw [h4, decS, if_pos rfl]
   | cons c r =>
   refine Qaa rfl rfl (fun h => absurd h (by simp;omega)) (fun _ => VC_skip ?_)
   rw [Qs4] at h4
   have hget4 : (List.replicate 4 b ++ c :: r).getD 4 0 = c := by simp [List.replicate]
   have hl2 : (List.replicate 4 b ++ c :: r).length = 5 + r.length := by simp;omega
   have hc255 := c.toNat_lt
   have ho4 : (out ++ List.replicate 4 b).length = out.length + 4 := by simp
   refine VQ [0, 4, 41] fun K hK => ?_
   rw [show Int.toNat 4 = 4 from rfl, hget4]
   (repeat (first | refine Qp ?_ | refine ⟨by omega, ?_⟩ | refine ⟨I64.mk (by omega) (by omega), ?_⟩))
   apply hK;clear hK
   by_cases hbig : 262144 < out.length + 4 + c.toNat
   ·
    rw [if_pos hbig] at h4
    refine Qaa rfl rfl (fun _ => ?_) (fun h => absurd h (by simp;omega))
    refine VS [2, 3] ?_
    refine VC_ret (Qaj rfl rfl rfl ⟨hH4.sub (by simp), ?_⟩)
    rw [h4]
   rw [if_neg hbig] at h4
   refine Qaa rfl rfl (fun h => absurd h (by simp;omega)) (fun _ => VC_skip ?_)
   refine VS [0, 4, 6] ?_
   refine VB ?_
   generalize hs1 : List.replicate 4 b ++ c :: r = s at *
   have hdr : s.drop 5 = r := by rw [<- hs1];rfl
   clear hs1
   generalize hO : out ++ List.replicate 4 b = o at *
   refine Qae [0, 4, 6] (fun m e w' => ∃ (n cap : Nat) (a : Option Addr) (o' : List UInt8), Is e [(0, Str s), (4, .slice a o'.length cap), (6, .int .i64 n)] /\ Heap w [] w' [Res.row 5 1 a o'.length cap (bytesV o')] /\ n <= c.toNat /\ o' = o ++ List.replicate n b /\ m = c.toNat - n) c.toNat ?_ ?_
   ·
    refine Qs ?_
    exact ⟨0, cap', a', o, rfl, hH4, by omega, by simp, by omega⟩
   rintro m e w6 ⟨n, cap2, a2, o', rfl, hH6, k1, k2, rfl⟩
   have ho' : o'.length = out.length + 4 + n := by rw [k2];simp;omega
   refine VQ [0, 4, 6, 46] fun K hK => ?_
   rw [show Int.toNat 4 = 4 from rfl, hget4]
   (repeat (first | refine Qp ?_ | refine ⟨by omega, ?_⟩ | refine ⟨I64.mk (by omega) (by omega), ?_⟩))
   apply hK;clear hK
   refine Qaa rfl rfl (fun hn => ?_) (fun hn => ?_)
   ·
    simp only [decide_eq_true_eq] at hn
    refine VC_skip ?_
    refine VB ?_
    refine VQ [0, 4, 6] fun K hK => ?_
    rw [show Int.toNat 0 = 0 from rfl, hget0]
    refine Qp ?_
    refine Qa6 (xs := [.tmp 51]) Tryz.underlying43 sz5 rfl rfl rfl (by omega) ?_
    refine Qs ?_
    refine ⟨by simp [Value.cells], ?_⟩
    refine Qai ?_
    refine Qs ?_
    refine Qc1 hH6 0 b rfl Tryz.underlying43 zi5 rfl (fun h => by simp;omega) fun a3 cap3 w7 hc3 hH7 => ?_
    (try refine Qs ?_)
    apply hK;clear hK
    refine Qam ?_
    refine VS [0, 4, 6] ?_
    refine Qab ?_
    refine Qs ?_
    exact ⟨c.toNat - (n + 1), by omega, n + 1, cap3, a3, o' ++ [b], rfl, hH7, by omega, by rw [k2, List.append_assoc, <- List.replicate_succ'], rfl⟩
   ·
    simp only [decide_eq_false_iff_not] at hn
    refine Qag rfl ?_
    refine VQ [0, 4] fun K hK => ?_
    (repeat (first | refine Qp ?_ | refine ⟨by omega, ?_⟩ | refine ⟨I64.mk (by omega) (by omega), ?_⟩))
    apply hK;clear hK
    refine Qam (Qab ?_)
    refine Qs ?_
    have hn2 : n = c.toNat := by omega
    rw [show Int.toNat 5 = 5 from rfl, hdr]
    refine ⟨r.length, by omega, r, o', 0, cap2, a2, rfl, hH6, by omega, by omega, Ahead.zero _ _, ?_, rfl⟩
    rw [h4, k2, hn2]
 ·
  simp only [decide_eq_false_iff_not] at hge
  have : s = [] := List.eq_nil_of_length_eq_zero (by omega)
  subst this
  have ha1 := h3.1
  refine Qag rfl ?_
  refine VQ [2, 3] fun K hK => ?_
  refine ⟨out, hH.readsBytes 0 rfl, ?_⟩
  apply hK;clear hK
  refine VC_ret (Qaj rfl rfl rfl ⟨hH.sub (by simp), ?_⟩)
  rw [h4, decS, if_neg (by omega)]
def plU (L : List UInt8) (b i : Nat) : List Int := (((List.range b).flatMap fun b => (List.range L.length).filter fun i => (L.getD i 0).toNat == b) ++ (List.range i).filter fun i => (L.getD i 0).toNat == b).map fun i : Nat => (i : Int)
theorem Qu6 (L : List UInt8) (b : Nat) : plU L b L.length = plU L (b + 1) 0 := by
 unfold plU
 rw [List.range_succ, List.flatMap_append]
 simp
theorem Qu7 (L : List UInt8) (b i : Nat) : plU L b (i + 1) = plU L b i ++ if (L.getD i 0).toNat = b then [(i : Int)] else [] := by
 unfold plU
 rw [List.range_succ, List.filter_append, <- List.append_assoc, List.map_append]
 congr 1
 by_cases h : (L.getD i 0).toNat = b
 ·
  rw [if_pos h, List.filter_cons_of_pos (by rw [beq_iff_eq];exact h)];rfl
 ·
  rw [if_neg h, List.filter_cons_of_neg (by rw [beq_iff_eq];exact h)];rfl
theorem Qy8 (L : List UInt8) (b i : Nat) : (plU L b i).length = Qct L b + cntB L b i := by
 unfold plU
 rw [List.length_map, List.length_append, Qki, cntB]
theorem Qmt (L : List UInt8) (hL : L.length <= 262144) (w : World) : Does Tryz.prog 118 #[Str L] w
  fun v w' => ∃ a cap, Heap w [] w' [Res.row 3 1 a ((placesOf L).map fun i : Nat => (i : Int)).length cap (Qal ((placesOf L).map fun i : Nat => (i : Int)))] /\ v = .slice a ((placesOf L).map fun i : Nat => (i : Int)).length cap := by
 have hst : ∀ b, Qct L b <= b * 262144 := fun b => by
  induction b with
  | zero => simp [Qct]
  | succ b ih => have := Qh4 L b L.length;simp only [Qct];omega
 have hpu : plU L 256 0 = (placesOf L).map fun i : Nat => (i : Int) := by unfold plU placesOf;simp
 rw [<- hpu]
 refine En [Str L] 27 Tryz.func118 ?_
 refine VS [0] ?_
 refine VS [0, 3] ?_
 refine VS [0, 3, 4] ?_
 refine Qaf ?_
 refine Qae [0, 3, 4] (fun m e w' => ∃ (b cap : Nat) (a : Option Addr), Is e [(0, Str L), (3, .slice a (plU L b 0).length cap), (4, .int .i64 b)] /\ Heap w [] w' [Res.row 3 1 a (plU L b 0).length cap (Qal (plU L b 0))] /\ b <= 256 /\ m = 256 - b) 256 ?_ ?_
 ·
  refine Qs ?_
  exact ⟨0, 0, none, rfl, Qd2, by omega, rfl⟩
 rintro m e w1 ⟨b, cap, a, rfl, hH, hb, hm⟩
 refine VS [0, 3, 4, 7] ?_
 refine VD (fun h => ?_) (fun h => ?_)
 ·
  refine VC_skip ?_
  refine VB ?_
  refine VS [0, 3, 4, 5] ?_
  refine Qaf ?_
  refine Qae [0, 3, 4, 5] (fun m e w' => ∃ (i cap : Nat) (a : Option Addr), Is e [(0, Str L), (3, .slice a (plU L b i).length cap), (4, .int .i64 b), (5, .int .i64 i)] /\ Heap w [] w' [Res.row 3 1 a (plU L b i).length cap (Qal (plU L b i))] /\ i <= L.length /\ m = L.length - i) L.length ?_ ?_
  ·
   refine Qs ?_
   exact ⟨0, cap, a, rfl, hH, by omega, rfl⟩
  clear hH
  rintro m2 e w2 ⟨i, cap, a, rfl, hH, hi, hm2⟩
  refine VS [0, 3, 4, 5, 13] ?_
  refine VD (fun h => ?_) (fun h => ?_)
  ·
   have hsu := Qu7 L b i
   have hle := Qy8 L b i
   have h1 := hst b
   have h2 := Qh4 L b i
   have hc8 := (L.getD i 0).toNat_lt
   refine VC_skip ?_
   refine VB ?_
   refine VS [0, 3, 4, 5, 21] ?_
   refine VD (fun h => ?_) (fun h => ?_)
   ·
    rw [if_pos (by omega)] at hsu
    refine VQ [0, 3, 4, 5] fun K hK => ?_
    refine Qa6 (xs := [.tmp 23]) Tryz.underlying36 sz3 rfl rfl rfl (by omega) ?_;refine Qs ?_;refine ⟨by simp [Value.cells], ?_⟩
    refine Qai ?_;refine Qs ?_;refine Qgx hH 0 rfl Tryz.underlying36 zi3 (fun h => by (first | omega | (simp;done) | (simp;omega))) fun a' cap' w5 hc' hH2 => ?_;(try refine Qs ?_)
    rw [<- hsu] at hH2 ⊢
    apply hK;clear hK
    refine Qam ?_
    refine VS [0, 3, 4, 5] ?_
    refine Qab ?_
    refine Qs ?_
    exact ⟨L.length - (i + 1), by omega, i + 1, cap', a', rfl, hH2, by omega, rfl⟩
   ·
    rw [if_neg (by omega), List.append_nil] at hsu
    refine VC_skip ?_
    refine Qam ?_
    refine VS [0, 3, 4, 5] ?_
    refine Qab ?_
    refine Qs ?_
    exact ⟨L.length - (i + 1), by omega, i + 1, cap, a, by rw [hsu];rfl, by rw [hsu];exact hH, by omega, rfl⟩
  ·
   obtain rfl : i = L.length := by omega
   rw [Qu6] at hH ⊢
   refine Qag rfl ?_
   refine Qam ?_
   refine VS [0, 3, 4] ?_
   refine Qab ?_
   refine Qs ?_
   exact ⟨256 - (b + 1), by omega, b + 1, cap, a, rfl, hH, by omega, rfl⟩
 ·
  obtain rfl : b = 256 := by omega
  refine Qag rfl ?_
  refine VS [2] ?_
  exact VC_ret (VX_ret1 rfl rfl ⟨a, cap, hH, rfl⟩)
theorem Qqt (L : List UInt8) (row : Int) (hr : I64 row) (hL : L.length <= 1000000000000) (w : World) : Does Tryz.prog 56 #[Str L, .int .i64 row] w
  fun v w' => Heap w [] w' [] /\ v = .tuple #[Str (bckS L row).1, .int .i64 (bckS L row).2] := by
 refine En [Str L, .int .i64 row] 40 Tryz.func56 ?_
 refine VS [0, 1] ?_
 refine VS [0, 1, 11] ?_
 refine VD (fun h => ?_) (fun h => ?_)
 ·
  refine VS [4, 5] ?_
  exact VC_ret (Qaj rfl rfl rfl ⟨Heap.start w, by rw [bckS, if_pos (by omega)]⟩)
 have hle : L.length <= 262144 := by omega
 clear h
 refine VC_skip ?_
 refine VQ [0, 1, 19] fun K hK => ?_
 suffices out : ∀ b : Bool, (b = true ↔ (row < 0 ∨ (L.length : Int) <= row)) -> K [(0, Str L), (1, .int .i64 row), (19, .bool b)] w by (repeat' (first | exact out _ _ (by first | omega | (simp;done) | (simp;omega)) | exact out _ (by first | omega | (simp;done) | (simp;omega)) | refine ⟨fun _ => ?_, fun _ => ?_⟩ | refine Qo ?_))
 intro b hb
 apply hK;clear hK
 refine Vi (fun h => ?_) (fun h => ?_)
 ·
  refine VS [4, 5] ?_
  exact VC_ret (Qaj rfl rfl rfl ⟨Heap.start w, by rw [bckS, if_neg (by omega), if_pos (hb.1 h)]⟩)
 have hb2 : ¬ (row < 0 ∨ (L.length : Int) <= row) := fun h2 => by have := hb.2 h2;simp_all
 have hbs : bckS L row = (Qdr L (placesOf L) L.length row.toNat, 0) := by rw [bckS, if_neg (by omega), if_neg hb2]
 rw [hbs]
 obtain ⟨p0, rfl⟩ : ∃ p : Nat, row = p := ⟨row.toNat, by omega⟩
 rw [Int.toNat_natCast]
 have hp0 : p0 < L.length := by omega
 clear hb hb2 hbs h hr
 have hpl : (placesOf L).length = L.length := by rw [(Qa8 L).length_eq, List.length_range]
 have hpq : ∀ p, p < L.length -> (placesOf L).getD p 0 < L.length := fun p hp => by
  have h3 := (Qa8 L).mem_iff.1 (Qbl 0 (l := placesOf L) (i := p) (by omega))
  simpa using h3
 have hgi : ∀ p, p < L.length -> ((placesOf L).map fun i : Nat => (i : Int)).getD p 0 = (((placesOf L).getD p 0 : Nat) : Int) := fun p hp => by
  simp only [List.getD_eq_getElem?_getD, List.getElem?_map]
  rw [List.getElem?_eq_getElem (by omega)];simp
 refine VC_skip ?_
 refine VQ [0, 1, 6] fun K hK => ?_
 have hc := Qmt L hle w
 rw [List.length_map, hpl] at hc
 refine MemK_call Tryz.call118 ?_;refine Qs ?_;refine CallK.mk hc ?_
 clear hc
 rintro v w1 ⟨a, cap, hH, rfl⟩
 generalize placesOf L = P at *
 (try refine Qs ?_)
 apply hK;clear hK
 refine VS [0, 1, 6, 7] ?_
 refine VS [0, 6, 7, 8] ?_
 refine VB ?_
 have hH0 := hH.nilRow 5 1
 generalize hn : L.length = n at *
 obtain ⟨ga, rfl⟩ := Qfa (hH.at 0 rfl) (by omega)
 refine Qae [0, 6, 7, 8] (fun m e w' => ∃ (q c2 : Nat) (a2 : Option Addr) (o : List UInt8), Is e [(0, Str L), (6, .slice (some ⟨ga, 0, none⟩) n cap), (7, .slice a2 o.length c2), (8, .int .i64 q)] /\ Heap w [] w' [Res.row 5 1 a2 o.length c2 (bytesV o), Res.row 3 1 (some ⟨ga, 0, none⟩) n cap (Qal (P.map fun i : Nat => (i : Int)))] /\ q < n /\ o.length <= n /\ o ++ Qdr L P (n - o.length) q = Qdr L P n p0 /\ m = n - o.length) n ?_ ?_
 ·
  refine Qs ?_
  exact ⟨p0, 0, none, [], rfl, hH0, by omega, by simp, by simp, rfl⟩
 clear hH hH0
 rintro m e w2 ⟨q, c2, a2, o, rfl, hH, hq, ho, hgo, hm⟩
 refine VQ [0, 6, 7, 8, 27] fun K hK => ?_
 rw [hn]
 (repeat refine Qo ?_);apply hK;clear hK
 refine VD (fun h => ?_) (fun h => ?_)
 ·
  have h1 := hgi q hq
  have h2 := hpq q hq
  obtain ⟨j, hj⟩ : ∃ j, n - o.length = j + 1 := ⟨n - o.length - 1, by omega⟩
  rw [hj, Qdr] at hgo
  generalize P.getD q 0 = q2 at *
  refine VC_skip ?_
  refine Qaf ?_
  refine VQ [0, 6, 7, 8] fun K hK => ?_
  refine ⟨⟨by omega, by omega⟩, _, Qa0 (hH.at 1 rfl) (Qbd (by simp;omega)), ?_⟩
  rw [h1]
  (try refine Qs ?_)
  apply hK;clear hK
  refine VQ [0, 6, 7, 8] fun K hK => ?_
  rw [hn]
  refine Qp ?_
  refine Qa6 (xs := [.tmp 35]) Tryz.underlying43 sz5 rfl rfl rfl (by omega) ?_;refine Qs ?_;refine ⟨by simp [Value.cells], ?_⟩
  refine Qai ?_;refine Qs ?_;refine Qc1 hH 0 (L.getD q2 0) rfl Tryz.underlying43 zi5 (by first | rfl | (simp;done) | omega) (fun h => by (first | omega | (simp;done) | (simp;omega))) fun a' cap' w5 hc' hH2 => ?_;(try refine Qs ?_)
  apply hK;clear hK
  refine Qam ?_
  refine Qab ?_
  refine Qs ?_
  refine ⟨j, by omega, q2, cap', a', o ++ [L.getD q2 0], rfl, hH2, by omega, by simp;omega, ?_, by simp;omega⟩
  rw [show n - (o ++ [L.getD q2 0]).length = j by simp;omega, <- hgo]
  simp
 ·
  rw [show n - o.length = 0 by omega, Qdr, List.append_nil] at hgo
  rw [<- hgo]
  refine Qag rfl ?_
  refine VQ [4, 5] fun K hK => ?_
  refine ⟨o, hH.readsBytes 0 rfl, ?_⟩
  (try refine Qs ?_)
  apply hK;clear hK
  exact VC_ret (Qaj rfl rfl rfl ⟨hH.sub (by simp), rfl⟩)
set_option maxHeartbeats 4000000
theorem Qy9 {n most : Int} (hn : 1 <= n) : ∀ (r out : List Int) (wt : Nat), (∀ x ∈ out, 0 <= x /\ x < n) -> ∀ x ∈ (zdec n most out wt r).1, 0 <= x /\ x < n := by
 intro r
 induction r with
 | nil => intro out wt _;rw [zdec];simp
 | cons s r ih =>
  intro out wt ho
  rw [zdec]
  split
  ·
   simp
  ·
   split
   ·
    split
    ·
     simp
    ·
     refine ih _ _ ?_
     intro x hx
     rcases List.mem_append.1 hx with hx | hx
     ·
      exact ho x hx
     ·
      rw [List.mem_replicate] at hx;omega
   ·
    split
    ·
     cases r with
     | nil => exact ho
     | cons x r => rw [zend];split <;> simp
    ·
     split
     ·
      simp
     ·
      refine ih _ _ fun x hx => ?_
      rcases List.mem_append.1 hx with hx | hx
      ·
       exact ho x hx
      ·
       simp at hx;omega
theorem Qqu {n most : Int} (l : List Int) : ∀ x ∈ (Qbo n most l).1, 0 <= x /\ x < n := by
 unfold Qbo
 split
 ·
  simp
 ·
  exact Qy9 (by omega) l [] 1 (by simp)
theorem Qmu (l : List Bool) (a : Option Addr) (c at_ : Nat) (hat : at_ <= l.length) (hl : l.length <= 1000000000000) (w : World) (hs : SL w a l.length c (Qal (bI l))) :
  Does Tryz.prog 50 #[.slice a l.length c, .int .i64 at_] w fun v w' => w' = w /\ ∃ s r : Nat, v = .tuple #[.int .u32 s, .int .i64 r, .int .i64 (hdS l at_).2.2.2] /\ ((hdS l at_).2.2.2 = 0 -> s = (hdS l at_).1 /\ r = (hdS l at_).2.1) := by
 generalize hres : hdS l at_ = res
 unfold hdS at hres
 refine En [.slice a l.length c, .int .i64 at_] 57 Tryz.func50 ?_
 refine VS [0, 1] ?_
 refine VQ [0, 1, 7, 8] fun K hK => ?_
 refine MemK_call Tryz.call71 ?_;refine Qs ?_;refine CallK.mk (Qca l a c at_ 48 (by omega) hat hl w hs) ?_
 rintro v w2 ⟨rfl, rfl⟩
 by_cases h1 : l.length < at_ + 48
 ·
  rw [Qby h1]
  rw [if_pos h1] at hres
  subst hres
  (try refine Qs ?_)
  apply hK;clear hK
  refine VS [0, 1, 7, 8, 19] ?_
  refine Qaa rfl rfl (fun h => ?_) (fun h => by simp at h)
  refine VS [4, 5, 6] ?_
  exact VC_ret (Qap rfl rfl rfl rfl ⟨rfl, 0, 0, rfl, fun h => by simp at h⟩)
 rw [Qbn (by omega)]
 rw [if_neg h1] at hres
 have hm := Qba ((l.drop at_).take 48)
 have hf : ((l.drop at_).take 48).length = 48 := by simp;omega
 rw [hf] at hm
 generalize numB ((l.drop at_).take 48) = x1 at *
 (try refine Qs ?_)
 apply hK;clear hK
 refine VS [0, 1, 7, 8, 19] ?_
 refine Qaa rfl rfl (fun h => by simp at h) (fun h => VC_skip ?_)
 clear h
 refine VS [0, 1, 22] ?_
 refine VD (fun h => ?_) (fun h => VC_skip ?_)
 ·
  rw [if_pos (by omega)] at hres
  subst hres
  refine VS [4, 5, 6] ?_
  exact VC_ret (Qap rfl rfl rfl rfl ⟨rfl, 0, 0, rfl, fun h => by simp at h⟩)
 rw [if_neg (by omega)] at hres
 clear h hm hf
 have ht2 := Qca l a c (at_ + 48) 32 (by omega) (by omega) hl w2 hs
 refine VQ [0, 1, 8, 9] fun K hK => ?_
 (repeat first | refine Qo ?_ | refine Qp ?_)
 rw [show ((at_ : Int) + 48) = ((at_ + 48 : Nat) : Int) by push_cast;rfl]
 refine MemK_call Tryz.call71 ?_;refine Qs ?_;refine CallK.mk ht2 ?_
 rintro v w3 ⟨rfl, rfl⟩
 by_cases h2 : l.length < at_ + 80
 ·
  rw [Qby (by omega)]
  rw [if_pos h2] at hres
  subst hres
  (try refine Qs ?_)
  apply hK;clear hK
  refine VS [0, 1, 8, 9, 31] ?_
  refine Qaa rfl rfl (fun h => ?_) (fun h => by simp at h)
  refine VS [4, 5, 6] ?_
  exact VC_ret (Qap rfl rfl rfl rfl ⟨rfl, 0, 0, rfl, fun h => by simp at h⟩)
 rw [Qbn (by omega)]
 rw [if_neg h2] at hres
 have hm := Qba ((l.drop (at_ + 48)).take 32)
 have hf : ((l.drop (at_ + 48)).take 32).length = 32 := by simp;omega
 rw [hf] at hm
 generalize numB ((l.drop (at_ + 48)).take 32) = x2 at *
 (try refine Qs ?_)
 apply hK;clear hK
 refine VS [0, 1, 8, 9, 31] ?_
 refine Qaa rfl rfl (fun h => by simp at h) (fun h => VC_skip ?_)
 clear h ht2
 have ht3 := Qca l a c (at_ + 80) 1 (by omega) (by omega) hl w3 hs
 refine VQ [0, 1, 8, 9, 10] fun K hK => ?_
 (repeat first | refine Qo ?_ | refine Qp ?_)
 rw [show ((at_ : Int) + 80) = ((at_ + 80 : Nat) : Int) by push_cast;rfl]
 refine MemK_call Tryz.call71 ?_;refine Qs ?_;refine CallK.mk ht3 ?_
 rintro v w4 ⟨rfl, rfl⟩
 by_cases h3 : l.length < at_ + 81
 ·
  rw [Qby (by omega)]
  rw [if_pos h3] at hres
  subst hres
  (try refine Qs ?_)
  apply hK;clear hK
  refine VS [0, 1, 8, 9, 10, 41] ?_
  refine Qaa rfl rfl (fun h => ?_) (fun h => by simp at h)
  refine VS [4, 5, 6] ?_
  exact VC_ret (Qap rfl rfl rfl rfl ⟨rfl, 0, 0, rfl, fun h => by simp at h⟩)
 rw [Qbn (by omega)]
 rw [if_neg h3] at hres
 have hm3 := Qba ((l.drop (at_ + 80)).take 1)
 have hf3 : ((l.drop (at_ + 80)).take 1).length = 1 := by simp;omega
 rw [hf3] at hm3
 generalize numB ((l.drop (at_ + 80)).take 1) = x3 at *
 (try refine Qs ?_)
 apply hK;clear hK
 refine VS [0, 1, 8, 9, 10, 41] ?_
 refine Qaa rfl rfl (fun h => by simp at h) (fun h => VC_skip ?_)
 clear h ht3
 refine VS [0, 1, 9, 44] ?_
 refine VD (fun h => ?_) (fun h => VC_skip ?_)
 ·
  rw [if_pos (by omega)] at hres
  subst hres
  refine VS [4, 5, 6] ?_
  exact VC_ret (Qap rfl rfl rfl rfl ⟨rfl, 0, 0, rfl, fun h => by simp at h⟩)
 rw [if_neg (by omega)] at hres
 clear h
 have ht4 := Qca l a c (at_ + 81) 24 (by omega) (by omega) hl w4 hs
 refine VQ [8, 9, 11] fun K hK => ?_
 (repeat first | refine Qo ?_ | refine Qp ?_)
 rw [show ((at_ : Int) + 81) = ((at_ + 81 : Nat) : Int) by push_cast;rfl]
 refine MemK_call Tryz.call71 ?_;refine Qs ?_;refine CallK.mk ht4 ?_
 rintro v w5 ⟨rfl, rfl⟩
 have hx2 : (x2 : Int) % 4294967296 = x2 := by omega
 by_cases h4 : l.length < at_ + 105
 ·
  rw [Qby (by omega)]
  rw [if_pos h4] at hres
  subst hres
  (try refine Qs ?_)
  apply hK;clear hK
  refine VQ [4, 5, 6] fun K hK => ?_
  (repeat first | refine Qo ?_ | refine Qp ?_)
  rw [hx2]
  (repeat refine Qo ?_);apply hK;clear hK
  exact VC_ret (Qap rfl rfl rfl rfl ⟨rfl, x2, 0, rfl, fun h => by simp at h⟩)
 rw [Qbn (by omega)]
 rw [if_neg h4] at hres
 have hm4 := Qba ((l.drop (at_ + 81)).take 24)
 have hf4 : ((l.drop (at_ + 81)).take 24).length = 24 := by simp;omega
 rw [hf4] at hm4
 generalize numB ((l.drop (at_ + 81)).take 24) = x4 at *
 subst hres
 (try refine Qs ?_)
 apply hK;clear hK
 refine VQ [4, 5, 6] fun K hK => ?_
 (repeat first | refine Qo ?_ | refine Qp ?_)
 rw [hx2]
 (repeat refine Qo ?_);apply hK;clear hK
 exact VC_ret (Qap rfl rfl rfl rfl ⟨rfl, x2, x4, rfl, fun h => ⟨rfl, rfl⟩⟩)
set_option maxHeartbeats 4000000
theorem Qkq {u out : List UInt8} {l : List Int} (h : Qgh u = u) (hne : u ≠ []) (hb : Qa4 u l = some out) : Qbs u l = (out, 0) := by
 have hm : Qhu u = true := by rw [<- h];exact Qn3 hne
 rw [Qbs, if_pos hm, hb]
theorem dblockTake_does (s : List UInt8) (a : Option Addr) (c : Nat) (at_ most : Int) (ha : I64 at_) (hm : I64 most) (hs : s.length <= 100000000000) (w : World) (hS : SL w a (bytesB s).length c (Qal (bI (bytesB s)))) :
  Does Tryz.prog 19 #[.slice a (bytesB s).length c, .int .i64 at_, .int .i64 most] w fun v w' => Heap w [] w' [] /\ v = takeV (takeF s at_ most) := by
 have hbl := bytesB_length s
 have hF : takeF s at_ most = if most < 1 ∨ 262144 < most ∨ at_ < 0 ∨ 8 * (s.length : Int) < at_ then .error 2 else Qfl (bytesB s) at_.toNat most := rfl
 rw [hF]
 rw [show 8 * (s.length : Int) = ((bytesB s).length : Nat) by omega]
 have hl12 : (bytesB s).length <= 1000000000000 := by omega
 clear hF hbl
 generalize bytesB s = l at *
 refine En [.slice a l.length c, .int .i64 at_, .int .i64 most] 123 Tryz.func19 ?_
 refine VS [0, 1, 2] ?_
 refine VQ [0, 1, 2, 36] fun K hK => ?_
 suffices out : ∀ b : Bool, (b = true ↔ most < 1 ∨ 262144 < most ∨ at_ < 0 ∨ (l.length : Int) < at_) -> K [(0, .slice a l.length c), (1, .int .i64 at_), (2, .int .i64 most), (36, .bool b)] w by (repeat' (first | exact out _ _ (by first | omega | (simp;done) | (simp;omega)) | exact out _ (by first | omega | (simp;done) | (simp;omega)) | refine ⟨fun _ => ?_, fun _ => ?_⟩ | refine Qo ?_))
 intro b hb
 apply hK;clear hK
 refine Vi (fun h => ?_) (fun h => VC_skip ?_)
 ·
  rw [if_pos (hb.1 h)]
  refine VS [6, 7, 8, 9] ?_
  exact VC_ret (Qb0 rfl rfl rfl rfl rfl ⟨Heap.start w, rfl⟩)
 have hg : ¬ (most < 1 ∨ 262144 < most ∨ at_ < 0 ∨ (l.length : Int) < at_) := fun hh => by rw [hb.2 hh] at h;cases h
 rw [if_neg hg]
 clear hb h
 obtain ⟨at_, rfl⟩ : ∃ n : Nat, at_ = n := ⟨at_.toNat, by omega⟩
 rw [Int.toNat_natCast]
 have hat : at_ <= l.length := by omega
 have hE : Qfl l at_ most = Qfl l at_ most := rfl
 conv at hE => rhs;unfold Qfl
 generalize Qfl l at_ most = res at *
 have hhd := Qmu l a c at_ hat hl12 w hS
 have hok := Qs1 l at_
 generalize hdS l at_ = hd at *
 obtain ⟨sum, row, to, e⟩ := hd
 simp only at hok hE hhd
 refine VQ [0, 1, 2, 10, 11, 12] fun K hK => ?_
 refine MemK_call Tryz.call50 ?_;refine Qs ?_;refine CallK.mk hhd ?_
 rintro v w2 ⟨rfl, s2, r2, rfl, hsr⟩
 by_cases he : e = 0
 ·
  subst he
  obtain ⟨rfl, rfl⟩ := hsr rfl
  obtain ⟨_, h1, rfl, h2, h3⟩ : (0 : Nat) = 0 /\ at_ + 105 <= l.length /\ to = at_ + 105 /\ s2 < 4294967296 /\ r2 < 16777216 := by
   rcases hok with hok | hok
   ·
    exact hok
   ·
    omega
  clear hok hsr hhd
  rw [if_neg (by simp)] at hE
  (try refine Qs ?_)
  apply hK;clear hK
  refine VS [0, 1, 2, 10, 11, 12, 45] ?_
  refine Qaa rfl rfl (fun h => by simp at h) (fun h => VC_skip ?_)
  clear h
  have hst := Qkl l a c (at_ + 105) (by omega) hl12 w2 hS
  refine VQ [0, 1, 2, 10, 11, 12, 13] fun K hK => ?_
  (repeat first | refine Qo ?_ | refine Qp ?_)
  rw [show ((at_ : Int) + 105) = ((at_ + 105 : Nat) : Int) by push_cast;rfl]
  refine MemK_call Tryz.call51 ?_;refine Qs ?_;refine CallK.mk hst ?_
  rintro v w3 ⟨hH, rfl⟩
  cases hU : Qbi l (at_ + 105) with
  | error e =>
   rw [hU] at hE
   have he := Qex hU
   unfold exV
   (try refine Qs ?_)
   apply hK;clear hK
   refine VS [0, 1, 2, 10, 11, 12, 13, 56] ?_
   refine Qaa rfl rfl (fun h => ?_) (fun h => by simp at h;exact absurd h he)
   refine VS [6, 7, 8, 9] ?_
   exact VC_ret (Qb0 rfl rfl rfl rfl rfl ⟨hH, by rw [hE];rfl⟩)
  | ok u =>
  rw [hU] at hE
  obtain ⟨u1, u2, u3⟩ := Qfk hU
  obtain ⟨us1, us2⟩ := Qj1 hU
  obtain ⟨u, at2⟩ := u
  simp only at hE u1 u2 u3 us1 us2
  unfold exV
  (try refine Qs ?_)
  apply hK;clear hK
  refine VS [0, 1, 2, 10, 11, 12, 13, 56] ?_
  refine Qaa rfl rfl (fun h => by simp at h) (fun h => VC_skip ?_)
  clear h
  have hpt := Qin l a c at2 (u.length + 2) (by omega) hl12 (by omega) w3 ⟨hH.rs' hS.1, hS.2⟩
  refine VQ [0, 1, 2, 10, 11, 12, 13, 14] fun K hK => ?_
  (repeat first | refine Qo ?_ | refine Qp ?_)
  rw [show ((u.length : Int) + 2) = ((u.length + 2 : Nat) : Int) by push_cast;rfl]
  refine MemK_call Tryz.call52 ?_;refine Qs ?_;refine CallK.mk hpt ?_
  cases hP : Qbr l at2 (u.length + 2) with
  | error e =>
   rw [hP] at hE
   have he := Qew hP
   rintro v w4 ⟨hHs, rfl⟩
   have hH3 := hH.call0 hHs
   simp only [List.append_nil] at hH3
   clear hH hHs
   (try refine Qs ?_)
   refine Qav (.agg #[.slice none 0 0, .slice none 0 0]) (by kernel_rfl) ?_
   refine Qs ?_
   have hH4 := hH3.box 65 (Qaq none 0 0 none 0 0)
   have hpl : [Value.slice none 0 0, Value.slice none 0 0] = Qaq none 0 0 none 0 0 := rfl
   rw [hpl]
   generalize w4.alloc (Obj.cells (Qaq none 0 0 none 0 0).toArray 65) = w5 at *
   generalize w4.heap.size = gp at *
   refine Qac ?_
   refine Qs ?_
   refine Qad hH4 0 (vs := Qaq none 0 0 none 0 0) rfl rfl (by kernel_rfl) (by simp [Qaq]) (Qa2 _ _ _ _ _ _) fun w6 hH5 => ?_
   (try refine Qs ?_)
   apply hK;clear hK
   refine VS [0, 1, 2, 10, 11, 12, 13, 14, 69] ?_
   refine Qaa rfl rfl (fun h => ?_) (fun h => by simp at h;exact absurd h he)
   refine VS [6, 7, 8, 9] ?_
   exact VC_ret (Qb0 rfl rfl rfl rfl rfl ⟨hH5.sub (by simp), by rw [hE];rfl⟩)
  | ok p =>
  rw [hP] at hE
  obtain ⟨m1, m2, m3⟩ := Qfi (by omega) hP
  obtain ⟨⟨T, P⟩, at3⟩ := p
  simp only at hE m1 m2 m3
  rintro v w4 ⟨pv, hHs, hpa, rfl⟩
  have hH3 := hH.call0 hHs
  simp only [List.append_nil] at hH3
  clear hH hHs
  obtain ⟨ta, tc, pa, pc, us, rfl, _⟩ := id hpa
  have hpv : Value.agg #[.slice ta T.length tc, .slice pa P.length pc] = .agg (Qaq ta T.length tc pa P.length pc).toArray := rfl
  simp only at hpa
  rw [hpv] at hpa ⊢
  (try refine Qs ?_)
  refine Qav (.agg #[.slice none 0 0, .slice none 0 0]) (by kernel_rfl) ?_
  refine Qs ?_
  have hHz := (Heap.start w4).box 65 (Qaq none 0 0 none 0 0)
  have hpl : [Value.slice none 0 0, Value.slice none 0 0] = Qaq none 0 0 none 0 0 := rfl
  rw [hpl]
  generalize w4.alloc (Obj.cells (Qaq none 0 0 none 0 0).toArray 65) = w5 at *
  generalize w4.heap.size = gp at *
  refine Qac ?_
  refine Qs ?_
  refine Qad hHz 0 (vs := Qaq ta T.length tc pa P.length pc) rfl rfl (by kernel_rfl) (by simp [Qaq]) (Qa2 _ _ _ _ _ _) fun w6 hHy => ?_
  have hHx : Heap w4 [] w6 [Res.blk gp 65 (Qaq ta T.length tc pa P.length pc)] := hHy
  have hH4 := hH3.call0 hHx
  simp only [List.singleton_append] at hH4
  have hpa2 := hpa.keep hHx
  clear hHz hHy hHx hH3 hpa
  (try refine Qs ?_)
  apply hK;clear hK
  refine VS [0, 1, 2, 10, 11, 12, 13, 14, 69] ?_
  refine Qaa rfl rfl (fun h => by simp at h) (fun h => VC_skip ?_)
  clear h
  have hgt := Qsw _ T P m1 l a c at3 (by omega) hl12 w6 hpa2 ⟨hH4.rs' hS.1, hS.2⟩
  refine VQ [1, 2, 10, 11, 12, 13, 15] fun K hK => ?_
  refine ⟨Qaq ta T.length tc pa P.length pc, ⟨rfl, Qcc (hH4.at 0 rfl)⟩, ?_⟩
  (try refine Qs ?_)
  refine MemK_call Tryz.call53 ?_;refine Qs ?_;refine CallK.mk hgt ?_
  cases hG : Qcq T l ((T.getD 0 []).length - 1) P at3 with
  | error e =>
   rw [hG] at hE
   have he := Qgm _ _ _ hG
   rintro v w7 ⟨hHs, rfl⟩
   have hH5 := hH4.call0 hHs
   (try refine Qs ?_)
   apply hK;clear hK
   refine VS [1, 2, 10, 11, 12, 13, 15, 80] ?_
   refine Qaa rfl rfl (fun h => ?_) (fun h => by simp at h;exact absurd h he)
   refine VS [6, 7, 8, 9] ?_
   exact VC_ret (Qb0 rfl rfl rfl rfl rfl ⟨hH5.sub (by simp), by rw [hE];rfl⟩)
  | ok q =>
  rw [hG] at hE
  obtain ⟨n1, n2, n3, n4, n5, n6⟩ := m1
  obtain ⟨g1, g2, g3⟩ := Qh6 (N := (T.getD 0 []).length) (fun t ht => (n5 _ (by rw [List.getD_eq_getElem?_getD, List.getElem?_eq_getElem ht];exact List.getElem_mem ht)).1) _ _ _ n6 (by omega) hG
  obtain ⟨q, at4⟩ := q
  simp only at hE g1 g2 g3
  rintro v w7 ⟨aq, cq, hHs, rfl⟩
  have hH5 := hH4.call0 hHs
  simp only [List.singleton_append] at hH5
  clear hH4 hHs hgt hpa2
  (try refine Qs ?_)
  apply hK;clear hK
  refine VS [1, 2, 10, 11, 12, 13, 15, 80] ?_
  refine Qaa rfl rfl (fun h => by simp at h) (fun h => VC_skip ?_)
  clear h
  have hnl : (ni q).length = q.length := by simp [ni]
  have hzd := Qqs u.length most (ni q) aq cq (I64.mk (by omega) (by omega)) hm w7 (by rw [hnl, <- Qos];exact Qaz (hH5.at 0 rfl)) (by omega) (fun v hv => by
   simp only [ni, List.mem_map] at hv
   obtain ⟨x, hx2, rfl⟩ := hv
   have := g1 x hx2
   exact I64.mk (by omega) (by omega))
  rw [hnl] at hzd
  obtain ⟨z1, z2⟩ := Qjc (n := u.length) (most := most) (ni q)
  have z3 := Qqu (n := u.length) (most := most) (ni q)
  have hul := Qkn u q r2 most
  unfold unpS at hE hul
  generalize Qbo u.length most (ni q) = Z at *
  obtain ⟨places, ze⟩ := Z
  simp only at hE z1 z2 z3 hul
  refine VQ [1, 10, 11, 12, 13, 16] fun K hK => ?_
  refine MemK_call Tryz.call54 ?_;refine Qs ?_;refine CallK.mk hzd ?_
  rintro v w8 ⟨ap, cp, hHs, rfl⟩
  have hH6 := hH5.call0 hHs
  simp only [List.singleton_append] at hH6
  clear hH5 hHs hzd
  (try refine Qs ?_)
  apply hK;clear hK
  refine VS [1, 10, 11, 12, 13, 16, 91] ?_
  refine VD (fun h => ?_) (fun h => VC_skip ?_)
  ·
   rw [if_pos h, if_pos h] at hE
   refine VS [6, 7, 8, 9] ?_
   exact VC_ret (Qb0 rfl rfl rfl rfl rfl ⟨hH6.sub (by simp), by rw [hE];rfl⟩)
  rw [if_neg h] at hE hul
  clear h
  obtain ⟨Qmi, hcol⟩ := Qly places u z3
  have hcl := Qf3 _ _ _ hcol
  rw [Qkq us1 us2 hcol] at hE hul
  simp only [ne_eq, not_true_eq_false, if_false] at hE hul
  have hbk := Qoh places u Qmi us1 us2 (by omega) (by omega) z3 hcol ap cp w8 (Qaz (hH6.at 0 rfl))
  refine VQ [1, 10, 11, 17] fun K hK => ?_
  refine MemK_call Tryz.call55 ?_;refine Qs ?_;refine CallK.mk hbk ?_
  rintro v w9 ⟨hHs, rfl⟩
  have hH7 := hH6.call0 hHs
  simp only [List.nil_append] at hH7
  clear hH6 hHs hbk
  (try refine Qs ?_)
  apply hK;clear hK
  have hbw := Qqt Qmi r2 (I64.mk (by omega) (by omega)) (by omega) w9
  have b1 := Qo7 Qmi r2
  generalize bckS Qmi r2 = T2 at *
  obtain ⟨t2, te⟩ := T2
  simp only at hE hbw b1 hul
  refine VQ [1, 10, 12, 19] fun K hK => ?_
  refine MemK_call Tryz.call56 ?_;refine Qs ?_;refine CallK.mk hbw ?_
  rintro v w10 ⟨hHs, rfl⟩
  have hH8 := hH7.call0 hHs
  simp only [List.nil_append] at hH8
  clear hH7 hHs hbw
  (try refine Qs ?_)
  apply hK;clear hK
  refine VS [1, 10, 12, 19, 106] ?_
  refine VD (fun h => ?_) (fun h => VC_skip ?_)
  ·
   rw [if_pos h, if_pos h] at hE
   refine VS [6, 7, 8, 9] ?_
   exact VC_ret (Qb0 rfl rfl rfl rfl rfl ⟨hH8.sub (by simp), by rw [hE];rfl⟩)
  rw [if_neg h] at hE hul
  clear h
  have hdc := Qs6 t2 w10 (by omega)
  generalize decS [] 0 t2 = X at *
  obtain ⟨txt, xe⟩ := X
  simp only at hE hdc hul
  refine VQ [1, 10, 12, 20] fun K hK => ?_
  refine MemK_call Tryz.call57 ?_;refine Qs ?_;refine CallK.mk hdc ?_
  rintro v w11 ⟨hHs, rfl⟩
  have hH9 := hH8.call0 hHs
  simp only [List.nil_append] at hH9
  clear hH8 hHs hdc
  (try refine Qs ?_)
  apply hK;clear hK
  refine VS [1, 10, 12, 20, 114] ?_
  refine VD (fun h => ?_) (fun h => VC_skip ?_)
  ·
   rw [if_pos h] at hE
   refine VS [6, 7, 8, 9] ?_
   exact VC_ret (Qb0 rfl rfl rfl rfl rfl ⟨hH9.sub (by simp), by rw [hE];rfl⟩)
  rw [if_neg h] at hE
  clear h
  refine VQ [1, 10, 20, 119] fun K hK => ?_
  refine MemK_call Tryz.call58 ?_;refine Qs ?_;refine CallK.mk (Qqk txt w11 (by omega)) ?_
  rintro v w12 ⟨hHs, rfl⟩
  have hH10 := hH9.call0 hHs
  simp only [List.nil_append] at hH10
  clear hH9 hHs
  (try refine Qs ?_)
  (repeat refine Qo ?_);apply hK;clear hK
  refine VD (fun h => ?_) (fun h => VC_skip ?_)
  ·
   rw [if_pos (by omega)] at hE
   refine VS [6, 7, 8, 9] ?_
   exact VC_ret (Qb0 rfl rfl rfl rfl rfl ⟨hH10.sub (by simp), by rw [hE];rfl⟩)
  rw [if_neg (by omega)] at hE
  refine VS [6, 7, 8, 9] ?_
  exact VC_ret (Qb0 rfl rfl rfl rfl rfl ⟨hH10.sub (by simp), by rw [hE];rfl⟩)
 ·
  rw [if_pos (by exact_mod_cast he)] at hE
  (try refine Qs ?_)
  apply hK;clear hK
  refine VS [0, 1, 2, 10, 11, 12, 45] ?_
  refine Qaa rfl rfl (fun h => ?_) (fun h => by simp at h;omega)
  refine VS [6, 7, 8, 9] ?_
  exact VC_ret (Qb0 rfl rfl rfl rfl rfl ⟨Heap.start w2, by rw [hE];rfl⟩)
set_option maxHeartbeats 4000000
theorem Qs7 (n : Int) (w : World) (hn : 0 <= n /\ n <= 9) :
  Does Tryz.prog 61 #[.int .i64 n] w fun v w' => w' = w /\ v = .int .i64 (min (n * 100000) 262144) := by
 refine En [.int .i64 n] 6 Tryz.func61 ?_
 refine VS [0] ?_
 refine VS [2] ?_
 exact VC_ret (VX_ret1 rfl rfl ⟨rfl, rfl⟩)
def badT (i : Nat) (c : UInt8) : Prop := (i < 3 /\ c.toNat ≠ (([66, 90, 104] : List UInt8).getD i 0).toNat) ∨ (i = 3 /\ (c.toNat < 49 ∨ 57 < c.toNat))
instance (i : Nat) (c : UInt8) : Decidable (badT i c) := by unfold badT;infer_instance
def hdT (s : List UInt8) (a : Nat) : Nat -> Nat -> Nat × Nat
 | _, 0 => ((s.getD (a + 3) 0).toNat - 48, 0)
 | i, k + 1 => if s.length <= a + i then (0, 10) else if badT i (s.getD (a + i) 0) then (0, 130) else hdT s a (i + 1) k
theorem Qs8 (s : List UInt8) (a : Nat) (w : World) (ha : a <= s.length) (hs : s.length <= 100000000000000) :
  Does Tryz.prog 68 #[Str s, .int .i64 a] w fun v w' => w' = w /\ v = .tuple #[.int .i64 (hdT s a 0 4).1, .int .i64 (hdT s a 0 4).2] := by
 generalize hres : hdT s a 0 4 = res
 refine En [Str s, .int .i64 a] 49 Tryz.func68 ?_
 refine VS [0, 1] ?_
 refine VS [0, 1, 8] ?_
 refine Qaf ?_
 refine Qae [0, 1, 8] (fun m e w' => ∃ (i : Nat), Is e [(0, Str s), (1, .int .i64 a), (8, .int .i64 i)] /\ Is w' w /\ i <= 4 /\ hdT s a i (4 - i) = res /\ (0 < i -> a + i <= s.length) /\ (i = 4 -> 49 <= (s.getD (a + 3) 0).toNat /\ (s.getD (a + 3) 0).toNat <= 57) /\ m = 4 - i) 4 ?_ ?_
 ·
  refine Qs ?_
  exact ⟨0, rfl, rfl, by omega, hres, by omega, by omega, rfl⟩
 rintro m e w' ⟨i, rfl, rfl, hi, hr, hle, hlv, rfl⟩
 refine VS [0, 1, 8, 9] ?_
 (repeat refine Qay ?_)
 refine VD (fun h => ?_) (fun h => ?_)
 ·
  refine VC_skip ?_
  refine VB ?_
  obtain ⟨j, hj⟩ : ∃ j, 4 - i = j + 1 := ⟨3 - i, by omega⟩
  rw [hj, hdT] at hr
  refine VS [0, 1, 6, 8] ?_
  refine VS [0, 1, 6, 8, 16] ?_
  refine VD (fun h => ?_) (fun h => VC_skip ?_)
  ·
   rw [if_pos (by omega)] at hr
   subst hr
   refine VS [4, 5] ?_
   exact VC_ret (Qaj rfl rfl rfl ⟨rfl, rfl⟩)
  rw [if_neg (by omega)] at hr
  refine VS [0, 1, 6, 7, 8] ?_
  generalize hc : s.getD (a + i) 0 = c at *
  refine VQ [0, 1, 8, 41] fun K hK => ?_
  suffices out : ∀ b : Bool, (b = true ↔ badT i c) -> K [(0, Str s), (1, .int .i64 a), (8, .int .i64 i), (41, .bool b)] w' by
   unfold badT at out
   generalize hz : (([66, 90, 104] : List UInt8).getD i 0).toNat = z at *
   refine ⟨fun h => ⟨⟨by omega, by simp only [List.length_cons, List.length_nil];omega⟩, fun h2 => ⟨fun h3 => by omega, fun _ => out _ (iff_of_false (by simp) (by omega))⟩, fun h2 => out _ (iff_of_true rfl (by omega))⟩, fun h => ⟨fun h3 => ⟨fun h4 => out _ ?_, fun h4 => out _ (iff_of_true rfl (by omega))⟩, fun h3 => out _ (iff_of_false (by simp) (by omega))⟩⟩
   rw [decide_eq_true_eq]
   omega
  intro b hb
  apply hK;clear hK
  refine Vi (fun h => ?_) (fun h => VC_skip ?_)
  ·
   rw [if_pos (hb.1 h)] at hr
   subst hr
   refine VS [4, 5] ?_
   exact VC_ret (Qaj rfl rfl rfl ⟨rfl, rfl⟩)
  have hnb : ¬ badT i c := fun h' => by rw [hb.2 h'] at h;cases h
  rw [if_neg hnb] at hr
  refine Qam ?_
  refine VS [0, 1, 8] ?_
  refine Qab ?_
  refine Qs ?_
  refine ⟨4 - (i + 1), by omega, i + 1, rfl, rfl, by omega, ?_, by omega, ?_, rfl⟩
  ·
   rw [show 4 - (i + 1) = j by omega];exact hr
  ·
   intro h4
   obtain rfl : i = 3 := by omega
   rw [hc]
   unfold badT at hnb
   omega
 obtain rfl : i = 4 := by omega
 have h1 := hle (by omega)
 have h2 := hlv rfl
 rw [show 4 - 4 = 0 from rfl, hdT] at hr
 subst hr
 refine Qag rfl ?_
 refine VS [4, 5] ?_
 rw [show (((s.getD (a + 3) 0).toNat : Int) - 48) % 256 = (((s.getD (a + 3) 0).toNat - 48 : Nat) : Int) by omega]
 exact VC_ret (Qaj rfl rfl rfl ⟨rfl, rfl⟩)
theorem Qh9 (s : List UInt8) (a n : Nat) (w : World) (ha : a <= 8 * s.length) (hs : s.length <= 100000000000000) (hn : n <= 60) :
  Does Tryz.prog 69 #[Str s, .int .i64 a, .int .i64 n] w fun v w' => Heap w [] w' [] /\
   v = if 8 * s.length < a + n then .tuple #[.int .u64 0, .int .i64 10] else .tuple #[.int .u64 (numB (((bytesB s).drop a).take n)), .int .i64 0] := by
 refine En [Str s, .int .i64 a, .int .i64 n] 17 Tryz.func69 ?_
 refine VS [0, 1, 2] ?_
 refine VQ [2, 8] fun K hK => ?_
 refine MemK_call Tryz.call86 ?_;refine Qs ?_;refine CallK.mk (Qbj s a w (I64.mk (by omega) (by omega)) (by omega)) ?_
 rintro v w2 (⟨hbad, _⟩ | ⟨_, gr, gs, hH, rfl⟩)
 ·
  omega
 rw [Int.toNat_natCast] at hH
 (try refine Qs ?_)
 apply hK;clear hK
 refine VQ [6, 7] fun K hK => ?_
 refine MemK_call Tryz.call87 ?_;refine Qs ?_;refine CallK.mk (Qcb gr gs s a n w2 (by omega) (by omega) (by omega) (hH.focus 0 rfl)) ?_
 rintro v w3 (⟨h1, rfl, rfl⟩ | ⟨h1, hH2, rfl⟩)
 ·
  (try refine Qs ?_)
  apply hK;clear hK
  exact VC_ret (Qaj rfl rfl rfl ⟨hH.sub (by simp), by rw [if_pos h1];rfl⟩)
 have hH3 := hH.call1 0 rfl hH2
 (try refine Qs ?_)
 apply hK;clear hK
 exact VC_ret (Qaj rfl rfl rfl ⟨hH3.sub (by simp), by rw [if_neg (by omega)];rfl⟩)
def goT (s : List UInt8) (room : Int) : Nat -> Nat -> List UInt8 -> List Nat -> Except Int (List UInt8 × Nat)
 | 0, _, _, _ => .error 10
 | f + 1, bit, out, sums =>
  if 8 * s.length < bit + 48 then .error 10
  else if numB (((bytesB s).drop bit).take 48) = 25779555029136 then
   if 8 * s.length < bit + 48 + 32 then .error 10
   else if numB (((bytesB s).drop (bit + 48)).take 32) ≠ Qa9 sums then .error 121
   else .ok (out, (bit + 87) / 8)
  else if numB (((bytesB s).drop bit).take 48) = 54156738319193 then
   match takeF s bit room with
   | .error e => .error e
   | .ok r => if 262144 < out.length + r.1.length then .error 3 else goT s room f r.2.2 (out ++ r.1) (sums ++ [r.2.1])
  else .error 130
def takeT (s : List UInt8) (a : Int) : Except Int (List UInt8 × Nat) :=
 if a < 0 ∨ (s.length : Int) < a then .error 2
 else if (hdT s a.toNat 0 4).2 ≠ 0 then .error (hdT s a.toNat 0 4).2
 else goT s (min ((hdT s a.toNat 0 4).1 * 100000) 262144) (8 * s.length + 1) (8 * (a.toNat + 4)) [] []
def takeTV (r : Except Int (List UInt8 × Nat)) : Value := match r with
 | .ok r => .tuple #[Str r.1, .int .i64 r.2, .int .i64 0]
 | .error e => .tuple #[Str [], .int .i64 0, .int .i64 e]
theorem Qza {bits : List Bool} : ∀ (r : List Bool) (i at_ : Nat) (q : List UInt8 × Nat), stGo bits r i at_ = .ok q -> at_ <= q.2 := by
 intro r
 induction r with
 | nil => intro i at_ q h;rw [stGo] at h;cases h;exact Nat.le_refl _
 | cons b r ih =>
  intro i at_ q h
  cases b with
  | false => rw [stGo] at h;exact ih _ _ _ h
  | true =>
   rw [stGo] at h
   split at h
   ·
    cases h
   ·
    cases hr : stGo bits r (i + 1) (at_ + 16) with
    | error e => rw [hr] at h;cases h
    | ok q' =>
     rw [hr] at h
     cases h
     have := ih _ _ _ hr
     show at_ <= q'.2
     omega
theorem Qoj {bits : List Bool} {at_ : Nat} {q : List UInt8 × Nat} (h : Qbi bits at_ = .ok q) : at_ <= q.2 := by
 unfold Qbi at h
 split at h
 ·
  cases h
 ·
  cases hr : stGo bits ((bits.drop at_).take 16) 0 (at_ + 16) with
  | error e => rw [hr] at h;cases h
  | ok q' =>
   rw [hr] at h
   simp only at h
   split at h
   ·
    cases h
   ·
    cases h
    have := Qza _ _ _ _ hr
    omega
theorem Qzb {bits : List Bool} {many : Nat} : ∀ (k : Nat) (li : List Nat) (at_ : Nat) (q : List Nat × Nat), ptGo bits many li k at_ = .ok q -> at_ <= q.2 := by
 intro k
 induction k with
 | zero => intro li at_ q h;rw [ptGo] at h;cases h;exact Nat.le_refl _
 | succ k ih =>
  intro li at_ q h
  rw [ptGo] at h
  split at h
  ·
   cases h
  ·
   split at h
   ·
    cases h
   ·
    rename_i q' hr
    cases h
    have := ih _ _ _ hr
    show at_ <= q'.2
    omega
theorem Qkr {bits : List Bool} {at_ n : Nat} {q : List Nat × Nat} (h : Qa3 bits at_ n = .ok q) : at_ <= q.2 := by
 unfold Qa3 at h
 split at h
 ·
  cases h
 ·
  have := (Qj6 _ _ _ _ _ _ (Nat.le_refl _) h).2.2
  omega
theorem Qzc {bits : List Bool} {n : Nat} : ∀ (k at_ : Nat) (q : List (List Nat) × Nat), ttGo bits n k at_ = .ok q -> at_ <= q.2 := by
 intro k
 induction k with
 | zero => intro at_ q h;rw [ttGo] at h;cases h;exact Nat.le_refl _
 | succ k ih =>
  intro at_ q h
  rw [ttGo] at h
  split at h
  ·
   cases h
  ·
   rename_i q1 h1
   split at h
   ·
    cases h
   ·
    split at h
    ·
     cases h
    ·
     rename_i q' hr
     cases h
     have := ih _ _ hr
     have := Qkr h1
     show at_ <= q'.2
     omega
theorem Qok {bits : List Bool} {at_ n : Nat} {q : (List (List Nat) × List Nat) × Nat} (h : Qbr bits at_ n = .ok q) : at_ <= q.2 := by
 unfold Qbr at h
 split at h
 ·
  cases h
 split at h
 ·
  cases h
 split at h
 ·
  cases h
 split at h
 ·
  cases h
 split at h
 ·
  cases h
 ·
  rename_i q1 h1
  split at h
  ·
   cases h
  ·
   rename_i q' hr
   cases h
   have := Qzb _ _ _ _ h1
   have := Qzc _ _ _ hr
   show at_ <= q'.2
   omega
theorem Qu8 {T : List (List Nat)} {bits : List Bool} {fin : Nat} : ∀ (P : List Nat) (at_ : Nat) (q : List Nat × Nat), at_ <= bits.length -> Qcq T bits fin P at_ = .ok q -> at_ <= q.2 := by
 intro P
 induction P with
 | nil => intro at_ q _ h;rw [Qcq] at h;cases h
 | cons p P ih =>
  intro at_ q ha h
  rw [Qcq] at h
  split at h
  ·
   cases h
  ·
   rename_i q1 h1
   obtain ⟨_, _, h3, h4⟩ := Qmn _ _ _ ha h1
   split at h
   ·
    cases h;exact h4
   ·
    split at h
    ·
     cases h
    ·
     rename_i q' hr
     cases h
     have := ih _ _ h3 hr
     show at_ <= q'.2
     omega
theorem Qu9 {bits : List Bool} {at_ : Nat} {most : Int} {r : List UInt8 × Nat × Nat} (h : Qfl bits at_ most = .ok r) :
  at_ + 105 <= r.2.2 /\ r.2.2 <= bits.length /\ r.1.length <= 262144 /\ r.2.1 < 4294967296 := by
 unfold Qfl at h
 split at h
 ·
  cases h
 rename_i h0
 obtain ⟨_, b1, b2, b3, _⟩ := (Qs1 bits at_).resolve_right (fun hh => h0 (by omega))
 rw [b2] at h
 split at h
 ·
  cases h
 rename_i u hu
 split at h
 ·
  cases h
 rename_i p hp
 split at h
 ·
  cases h
 rename_i q hq
 split at h
 ·
  cases h
 split at h
 ·
  cases h
 cases h
 obtain ⟨u1, u2, u3⟩ := Qfk hu
 obtain ⟨m1, m2, m3⟩ := Qfi (by omega) hp
 obtain ⟨n1, n2, n3, n4, n5, n6⟩ := m1
 obtain ⟨g1, g2, g3⟩ := Qh6 (N := (p.1.1.getD 0 []).length) (fun t ht => (n5 _ (by rw [List.getD_eq_getElem?_getD, List.getElem?_eq_getElem ht];exact List.getElem_mem ht)).1) _ _ _ n6 (by omega) hq
 have e1 := Qoj hu
 have e2 := Qok hp
 have e3 := Qu8 _ _ _ (by omega) hq
 exact ⟨by show at_ + 105 <= q.2;omega, g3, Qkn _ _ _ _, b3⟩
theorem Qs9 {bits : List Bool} {at_ : Nat} {most : Int} {e : Int} (h : Qfl bits at_ most = .error e) : e ≠ 0 := by
 unfold Qfl at h
 split at h
 ·
  rename_i h0;cases h;exact_mod_cast h0
 split at h
 ·
  rename_i hu;cases h;exact Qex hu
 split at h
 ·
  rename_i hp;cases h;exact Qew hp
 split at h
 ·
  rename_i hq;cases h;exact Qgm _ _ _ hq
 split at h
 ·
  rename_i h0;cases h;exact h0
 split at h
 ·
  cases h;decide
 cases h
theorem Qks {s : List UInt8} {at_ : Nat} {most : Int} {r : List UInt8 × Nat × Nat} (h : takeF s at_ most = .ok r) :
  at_ + 105 <= r.2.2 /\ r.2.2 <= 8 * s.length /\ r.1.length <= 262144 /\ r.2.1 < 4294967296 := by
 unfold takeF at h
 split at h
 ·
  cases h
 ·
  rw [Int.toNat_natCast] at h
  have := Qu9 h
  rwa [bytesB_length] at this
theorem Qia {s : List UInt8} {at_ : Nat} {most : Int} {e : Int} (h : takeF s at_ most = .error e) : e ≠ 0 := by
 unfold takeF at h
 split at h
 ·
  cases h;decide
 ·
  exact Qs9 h
set_option maxHeartbeats 4000000
theorem Qvs {s : List UInt8} {a : Nat} : (hdT s a 0 4).2 = 0 -> 1 <= (hdT s a 0 4).1 /\ (hdT s a 0 4).1 <= 9 /\ a + 4 <= s.length := by
 simp only [hdT, Nat.zero_add, Nat.reduceAdd]
 repeat' split
 all_goals intro h
 all_goals first | (simp at h;done) | skip
 rename_i h1 h2
 unfold badT at h2
 refine ⟨?_, ?_, ?_⟩ <;> omega
theorem streamTake_does (s : List UInt8) (a : Int) (w : World) (ha : I64 a) (hs : s.length <= 1000000000000) :
  Does Tryz.prog 26 #[Str s, .int .i64 a] w fun v w' => Heap w [] w' [] /\ v = takeTV (takeT s a) := by
 have hbl := bytesB_length s
 generalize hres : takeT s a = res
 unfold takeT at hres
 refine En [Str s, .int .i64 a] 109 Tryz.func26 ?_
 refine VS [0, 1] ?_
 refine Qjn ?_
 refine VQ [0, 1, 26] fun K hK => ?_
 suffices out : ∀ b : Bool, (b = true ↔ a < 0 ∨ (s.length : Int) < a) -> K [(0, Str s), (1, .int .i64 a), (26, .bool b)] w by
  (repeat' (first | exact out _ _ (by first | omega | (simp;done) | (simp;omega)) | exact out _ (by first | omega | (simp;done) | (simp;omega)) | refine ⟨fun _ => ?_, fun _ => ?_⟩ | refine Qo ?_))
 intro b hb
 apply hK;clear hK
 refine Vi (fun h => ?_) (fun h => VC_skip ?_)
 ·
  rw [if_pos (hb.1 h)] at hres
  subst hres
  refine VS [4, 5, 6] ?_
  exact VC_ret (Qap rfl rfl rfl rfl ⟨Heap.start w, rfl⟩)
 have hg : ¬ (a < 0 ∨ (s.length : Int) < a) := fun hh => by rw [hb.2 hh] at h;cases h
 rw [if_neg hg] at hres
 clear hb h
 obtain ⟨a, rfl⟩ : ∃ n : Nat, a = n := ⟨a.toNat, by omega⟩
 rw [Int.toNat_natCast] at hres
 have hhd := fun w => Qs8 s a w (by omega) (by omega)
 have hok := Qvs (s := s) (a := a)
 generalize hdT s a 0 4 = hd at *
 obtain ⟨lev, e⟩ := hd
 simp only at hres hhd hok
 refine VQ [0, 1, 7, 8] fun K hK => ?_
 refine MemK_call Tryz.call68 ?_;refine Qs ?_;refine CallK.mk (hhd w) ?_
 rintro v w1 ⟨rfl, rfl⟩
 (try refine Qs ?_)
 apply hK;clear hK
 refine VS [0, 1, 7, 8, 34] ?_
 refine VD (fun h => ?_) (fun h => VC_skip ?_)
 ·
  rw [if_pos (by omega)] at hres
  subst hres
  refine VS [4, 5, 6] ?_
  exact VC_ret (Qap rfl rfl rfl rfl ⟨Heap.start w1, rfl⟩)
 obtain rfl : e = 0 := by omega
 rw [if_neg (by simp)] at hres
 obtain ⟨l1, l2, l3⟩ := hok rfl
 clear hok hhd h hg
 refine VS [0, 1, 7, 9] ?_
 refine VS [0, 1, 7, 9, 10] ?_
 refine VS [0, 7, 9, 10, 11] ?_
 (repeat refine Qay ?_)
 refine Qje ?_
 refine VB ?_
 refine Qae [0, 7, 9, 10, 11] (fun m e w' => ∃ (bit f c1 c2 : Nat) (out : List UInt8) (sums : List Nat) (a1 a2 : Option Addr), Is e [(0, Str s), (7, .int .i64 lev), (9, .slice a1 out.length c1), (10, .slice a2 sums.length c2), (11, .int .i64 bit)] /\ Heap w1 [] w' [Res.row 5 1 a1 out.length c1 (bytesV out), Res.row 31 1 a2 sums.length c2 (u32V sums)] /\
  goT s (min (lev * 100000) 262144) f bit out sums = res /\ bit <= 8 * s.length /\ 8 * s.length + 1 <= f + bit /\ out.length <= 262144 /\ sums.length <= bit /\ (∀ x ∈ sums, x < 4294967296) /\ m = 8 * s.length - bit) (8 * s.length - 8 * (a + 4)) ?_ ?_
 ·
  refine Qs ?_
  exact ⟨8 * (a + 4), _, 0, 0, [], [], none, none, by push_cast;rfl, ((Heap.start w1).nilRow 31 1).nilRow 5 1, hres, by omega, by omega, by simp, by simp, by simp, rfl⟩
 clear hres
 rintro m e w' ⟨bit, f, c1, c2, out, sums, a1, a2, rfl, hH, hres, hb1, hb2, ho, hsl, h32, rfl⟩
 obtain ⟨f, rfl⟩ : ∃ k, f = k + 1 := ⟨f - 1, by omega⟩
 rw [goT] at hres
 refine VB ?_
 refine VQ [0, 7, 9, 10, 11, 12, 13] fun K hK => ?_
 refine MemK_call Tryz.call69 ?_;refine Qs ?_;refine CallK.mk (Qh9 s bit 48 w' hb1 (by omega) (by omega)) ?_
 rintro v w2 ⟨hH2, rfl⟩
 have hH3 := hH.call0 hH2
 simp only [List.nil_append] at hH3
 clear hH hH2
 by_cases hsh : 8 * s.length < bit + 48
 ·
  rw [if_pos hsh] at hres ⊢
  subst hres
  (try refine Qs ?_)
  apply hK;clear hK
  refine VS [0, 7, 9, 10, 11, 12, 13, 46] ?_
  refine Qaa rfl rfl (fun h => ?_) (fun h => by simp at h)
  refine VS [4, 5, 6] ?_
  exact VC_ret (Qap rfl rfl rfl rfl ⟨hH3.sub (by simp), rfl⟩)
 rw [if_neg hsh] at hres ⊢
 generalize hv : numB (((bytesB s).drop bit).take 48) = v at *
 have hv48 : v < 2 ^ 48 := by
  rw [<- hv]
  exact Nat.lt_of_lt_of_le (Qba _) (Nat.pow_le_pow_right (by omega) (by rw [List.length_take];omega))
 (try refine Qs ?_)
 apply hK;clear hK
 refine VS [0, 7, 9, 10, 11, 12, 13, 46] ?_
 refine Qaa rfl rfl (fun h => by simp at h) (fun h => VC_skip ?_)
 clear h
 refine VS [0, 7, 9, 10, 11, 48] ?_
 refine VB ?_
 refine VS [0, 7, 9, 10, 11, 48, 49] ?_
 refine VD (fun h => ?_) (fun h => ?_)
 ·
  obtain rfl : v = 25779555029136 := by omega
  rw [if_pos rfl] at hres
  refine Qag rfl ?_
  refine VQ [8, 9, 10, 11, 18] fun K hK => ?_
  (repeat first | refine Qo ?_ | refine Qp ?_)
  rw [show ((bit : Int) + 48) = ((bit + 48 : Nat) : Int) by push_cast;rfl]
  refine MemK_call Tryz.call69 ?_;refine Qs ?_;refine CallK.mk (Qh9 s (bit + 48) 32 w2 (by omega) (by omega) (by omega)) ?_
  rintro v w3 ⟨hHn, rfl⟩
  have hH4 := hH3.call0 hHn
  simp only [List.nil_append] at hH4
  clear hH3 hHn
  by_cases hsh2 : 8 * s.length < bit + 48 + 32
  ·
   rw [if_pos hsh2] at hres ⊢
   subst hres
   (try refine Qs ?_)
   apply hK;clear hK
   refine VQ [8, 9, 11, 99] fun K hK => ?_
   refine ⟨fun h => by simp at h, fun _ => ?_⟩
   apply hK;clear hK
   refine Qaa rfl rfl (fun h => by simp at h) (fun h => VC_skip ?_)
   clear h
   refine VS [8, 9, 11, 101] ?_
   refine Qaa rfl rfl (fun h => ?_) (fun h => by simp at h)
   refine VS [4, 5, 6] ?_
   exact VC_ret (Qap rfl rfl rfl rfl ⟨hH4.sub (by simp), rfl⟩)
  rw [if_neg hsh2] at hres ⊢
  generalize hv2 : numB (((bytesB s).drop (bit + 48)).take 32) = v2 at *
  have hv32 : v2 < 2 ^ 32 := by
   rw [<- hv2]
   exact Nat.lt_of_lt_of_le (Qba _) (Nat.pow_le_pow_right (by omega) (by rw [List.length_take];omega))
  have hcl := Qdq sums h32
  (try refine Qs ?_)
  apply hK;clear hK
  refine VQ [8, 9, 11, 99] fun K hK => ?_
  suffices out : ∀ b : Bool, (b = true ↔ v2 ≠ Qa9 sums) -> K [(8, .int .i64 0), (9, .slice a1 out.length c1), (11, .int .i64 bit), (99, .bool b)] w3 by
   refine ⟨fun _ => ?_, fun h => by simp at h⟩
   refine MemK_call Tryz.call63 ?_;refine Qs ?_;refine CallK.mk (Qmd sums a2 c2 w3 (Qaz (hH4.at 1 rfl)) h32 (by omega)) ?_
   rintro v w4 ⟨rfl, rfl⟩
   (try refine Qs ?_)
   exact out _ (by simp;omega)
  intro b hb
  apply hK;clear hK
  by_cases hs2 : v2 ≠ Qa9 sums
  ·
   rw [if_pos hs2] at hres
   subst hres
   refine Qaa rfl rfl (fun h => ?_) (fun h => by rw [hb.2 hs2] at h;cases h)
   refine VS [8, 9, 11] ?_
   refine VS [8, 9, 11, 101] ?_
   refine Qaa rfl rfl (fun h => ?_) (fun h => by simp at h)
   refine VS [4, 5, 6] ?_
   exact VC_ret (Qap rfl rfl rfl rfl ⟨hH4.sub (by simp), rfl⟩)
  ·
   rw [if_neg hs2] at hres
   subst hres
   refine Qaa rfl rfl (fun h => absurd (hb.1 h) hs2) (fun h => VC_skip ?_)
   refine VS [8, 9, 11, 101] ?_
   refine Qaa rfl rfl (fun h => by simp at h) (fun h => VC_skip ?_)
   refine VQ [4, 5, 6] fun K hK => ?_
   refine ⟨out, hH4.readsBytes 0 rfl, ?_⟩
   (try refine Qs ?_)
   (repeat refine Qo ?_);apply hK;clear hK
   exact VC_ret (Qap rfl rfl rfl rfl ⟨hH4.sub (by simp), by simp only [takeTV];congr 5⟩)
 rw [if_neg (by omega)] at hres
 refine VS [0, 7, 9, 10, 11, 51] ?_
 refine VD (fun h => ?_) (fun h => ?_)
 ·
  rw [if_pos (by omega)] at hres
  clear hv hv48
  generalize htk : takeF s bit (min (lev * 100000) 262144) = tk at *
  refine VQ [0, 7, 9, 10, 14, 15, 16, 17] fun K hK => ?_
  refine MemK_call Tryz.call61 ?_;refine Qs ?_;refine CallK.mk (Qs7 lev w2 (by omega)) ?_
  rintro v w3 ⟨rfl, rfl⟩
  (try refine Qs ?_)
  refine MemK_call Tryz.call18 ?_;refine Qs ?_;refine CallK.mk (blockTake_does s bit (min (lev * 100000) 262144) w3 (I64.mk (by omega) (by omega)) (I64.mk (by omega) (by omega)) (by omega)) ?_
  rintro v w4 ⟨hHt, rfl⟩
  have hH4 := hH3.call0 hHt
  simp only [List.nil_append] at hH4
  clear hH3 hHt
  rw [htk]
  cases tk with
  | error e =>
   have he := Qia htk
   simp only at hres
   subst hres
   unfold takeV
   (try refine Qs ?_)
   apply hK;clear hK
   refine VQ [0, 7, 9, 10, 14, 15, 16, 17, 72] fun K hK => ?_
   suffices out : K [(0, Str s), (7, .int .i64 lev), (9, .slice a1 out.length c1), (10, .slice a2 sums.length c2), (14, Str []), (15, .int .u32 0), (16, .int .i64 0), (17, .int .i64 e), (72, .bool false)] w4 by
    refine ⟨fun h => by omega, fun _ => out⟩
   apply hK;clear hK
   refine Qaa rfl rfl (fun h => by cases h) (fun h => VC_skip ?_)
   refine VS [0, 7, 9, 10, 14, 15, 16, 17, 74] ?_
   refine Qaa rfl rfl (fun h => ?_) (fun h => by simp at h;omega)
   refine VS [4, 5, 6] ?_
   exact VC_ret (Qap rfl rfl rfl rfl ⟨hH4.sub (by simp), rfl⟩)
  | ok r =>
   obtain ⟨t, sum, to⟩ := r
   obtain ⟨k1, k2, k3, k4⟩ := Qks htk
   simp only at hres k1 k2 k3 k4
   unfold takeV
   (try refine Qs ?_)
   apply hK;clear hK
   refine VQ [0, 7, 9, 10, 14, 15, 16, 17, 72] fun K hK => ?_
   suffices out : ∀ b : Bool, (b = true ↔ 262144 < out.length + t.length) -> K [(0, Str s), (7, .int .i64 lev), (9, .slice a1 out.length c1), (10, .slice a2 sums.length c2), (14, Str t), (15, .int .u32 sum), (16, .int .i64 to), (17, .int .i64 0), (72, .bool b)] w4 by
    refine ⟨fun _ => ?_, fun h => by simp at h⟩
    refine ⟨I64.mk (by omega) (by omega), ?_⟩
    exact out _ (by simp;omega)
   intro b hb
   apply hK;clear hK
   by_cases hbig : 262144 < out.length + t.length
   ·
    rw [if_pos hbig] at hres
    subst hres
    refine Qaa rfl rfl (fun h => ?_) (fun h => by rw [hb.2 hbig] at h;cases h)
    refine VS [0, 7, 9, 10, 14, 15, 16, 17] ?_
    refine VS [0, 7, 9, 10, 14, 15, 16, 17, 74] ?_
    refine Qaa rfl rfl (fun h => ?_) (fun h => by simp at h)
    refine VS [4, 5, 6] ?_
    exact VC_ret (Qap rfl rfl rfl rfl ⟨hH4.sub (by simp), rfl⟩)
   rw [if_neg hbig] at hres
   refine Qaa rfl rfl (fun h => absurd (hb.1 h) hbig) (fun h => VC_skip ?_)
   clear hb h
   refine VS [0, 7, 9, 10, 14, 15, 16, 17, 74] ?_
   refine Qaa rfl rfl (fun h => by simp at h) (fun h => VC_skip ?_)
   clear h
   refine VQ [0, 7, 9, 10, 11] fun K hK => ?_
   refine Qai ?_
   refine Qs ?_
   refine Qjm hH4 0 rfl Tryz.underlying43 zi5 Tryz.underlying9 (fun h => by simp;omega) fun a' cap' w5 hc' hH5 => ?_
   simp only [List.set_cons_zero] at hH5
   (try refine Qs ?_)
   refine Qbg hH5 (u32V [sum]) (xs := [.tmp 80]) Tryz.underlying102 sz31 rfl rfl rfl (by omega) ?_;refine Qs ?_;refine ⟨rfl, by simp [Value.cells], fun g w4 hH6 => ?_⟩;(try refine Qs ?_)
   refine Qai ?_
   refine Qs ?_
   refine Qb8 (zs := #[.int .u32 0]) (bytes := 4) hH6 2 rfl Tryz.underlying102 (by kernel_rfl) rfl ⟨rfl, Qaz (hH6.at 0 rfl), 31, Tryz.underlying102⟩ (by simp [u32V];rfl) (fun h => by omega) fun a'' cap'' w6 hc'' hH7 => ?_
   simp only [List.set_cons_succ, List.set_cons_zero] at hH7
   (try refine Qs ?_)
   apply hK;clear hK
   refine Qam ?_
   refine Qam ?_
   refine Qab ?_
   refine Qs ?_
   refine ⟨8 * s.length - to, by omega, to, f, cap', cap'', out ++ t, sums ++ [sum], a', a'', ?_, ?_, hres, by omega, by omega, by simp;omega, by simp;omega, ?_, rfl⟩
   ·
    simp [Is]
   ·
    have := hH7.sub (List.sublist_cons_self _ _)
    simpa [u32V] using this
   ·
    intro x hx
    rcases List.mem_append.1 hx with hx | hx
    ·
     exact h32 x hx
    ·
     simp at hx;omega
 ·
  rw [if_neg (by omega)] at hres
  subst hres
  refine VS [4, 5, 6] ?_
  exact VC_ret (Qap rfl rfl rfl rfl ⟨hH3.sub (by simp), rfl⟩)
set_option maxHeartbeats 4000000
theorem QB3 {s : List UInt8} {room : Int} : ∀ (f bit : Nat) (out : List UInt8) (sums : List Nat) (r : List UInt8 × Nat), out.length <= 262144 -> goT s room f bit out sums = .ok r ->
  bit + 80 <= 8 * r.2 /\ r.2 <= s.length /\ r.1.length <= 262144 := by
 intro f
 induction f with
 | zero => intro bit out sums r _ h;cases h
 | succ f ih =>
  intro bit out sums r ho h
  rw [goT] at h
  split at h
  ·
   cases h
  split at h
  ·
   split at h
   ·
    cases h
   split at h
   ·
    cases h
   cases h
   refine ⟨?_, ?_, ho⟩ <;> simp only <;> omega
  split at h
  ·
   split at h
   ·
    cases h
   rename_i r' hr
   split at h
   ·
    cases h
   have := Qks hr
   have := ih _ _ _ _ (by simp;omega) h
   omega
  ·
   cases h
theorem Qzd {s : List UInt8} {room : Int} : ∀ (f bit : Nat) (out : List UInt8) (sums : List Nat) (e : Int), goT s room f bit out sums = .error e -> e ≠ 0 := by
 intro f
 induction f with
 | zero => intro bit out sums e h;cases h;decide
 | succ f ih =>
  intro bit out sums e h
  rw [goT] at h
  split at h
  ·
   cases h;decide
  split at h
  ·
   split at h
   ·
    cases h;decide
   split at h
   ·
    cases h;decide
   cases h
  split at h
  ·
   split at h
   ·
    rename_i hr;cases h;exact Qia hr
   split at h
   ·
    cases h;decide
   exact ih _ _ _ _ h
  ·
   cases h;decide
theorem Qpa {s : List UInt8} {a : Nat} {r : List UInt8 × Nat} (h : takeT s a = .ok r) : a + 14 <= r.2 /\ r.2 <= s.length /\ r.1.length <= 262144 := by
 unfold takeT at h
 split at h
 ·
  cases h
 split at h
 ·
  cases h
 have := QB3 _ _ _ _ _ (by simp) h
 rw [Int.toNat_natCast] at this
 omega
theorem Qmv {s : List UInt8} {a e : Int} (h : takeT s a = .error e) : e ≠ 0 := by
 unfold takeT at h
 split at h
 ·
  cases h;decide
 split at h
 ·
  rename_i h0;cases h;exact_mod_cast h0
 exact Qzd _ _ _ _ _ h
def goU (s : List UInt8) : Nat -> Nat -> List UInt8 -> Except Int (List UInt8)
 | 0, _, _ => .error 10
 | f + 1, a, out => match takeT s a with
  | .error e => .error e
  | .ok r => if 262144 < out.length + r.1.length then .error 3 else if r.2 = s.length then .ok (out ++ r.1) else goU s f r.2 (out ++ r.1)
def unpackT (s : List UInt8) : Except Int (List UInt8) := goU s (s.length + 1) 0 []
def unpackV (r : Except Int (List UInt8)) : Value := match r with
 | .ok r => .tuple #[Str r, .int .i64 0]
 | .error e => .tuple #[Str [], .int .i64 e]
theorem unpackT_does (s : List UInt8) (w : World) (hs : s.length <= 1000000000000) :
  Does Tryz.prog 28 #[Str s] w fun v w' => Heap w [] w' [] /\ v = unpackV (unpackT s) := by
 generalize hres : unpackT s = res
 unfold unpackT at hres
 refine En [Str s] 39 Tryz.func28 ?_
 refine VS [0] ?_
 refine VS [0, 4] ?_
 refine VS [0, 4, 5] ?_
 refine VB ?_
 refine Qae [0, 4, 5] (fun m e w' => ∃ (a f c : Nat) (out : List UInt8) (a1 : Option Addr), Is e [(0, Str s), (4, .slice a1 out.length c), (5, .int .i64 a)] /\ Heap w [] w' [Res.row 5 1 a1 out.length c (bytesV out)] /\ goU s f a out = res /\ a <= s.length /\ s.length + 1 <= f + a /\ out.length <= 262144 /\ m = s.length - a) s.length ?_ ?_
 ·
  refine Qs ?_
  exact ⟨0, _, 0, [], none, rfl, (Heap.start w).nilRow 5 1, hres, by omega, by omega, by simp, rfl⟩
 clear hres
 rintro m e w' ⟨a, f, c, out, a1, rfl, hH, hres, ha, hf, ho, rfl⟩
 obtain ⟨f, rfl⟩ : ∃ k, f = k + 1 := ⟨f - 1, by omega⟩
 rw [goU] at hres
 refine Qaf ?_
 generalize htk : takeT s a = tk at *
 refine VQ [0, 4, 6, 7, 8] fun K hK => ?_
 refine MemK_call Tryz.call26 ?_;refine Qs ?_;refine CallK.mk (streamTake_does s a w' (I64.mk (by omega) (by omega)) hs) ?_
 rintro v w2 ⟨hHt, rfl⟩
 have hH2 := hH.call0 hHt
 simp only [List.nil_append] at hH2
 clear hH hHt
 rw [htk]
 cases tk with
 | error e =>
  have he := Qmv htk
  simp only at hres
  subst hres
  unfold takeTV
  (try refine Qs ?_)
  apply hK;clear hK
  refine VQ [0, 4, 6, 7, 8, 25] fun K hK => ?_
  suffices out : K [(0, Str s), (4, .slice a1 out.length c), (6, Str []), (7, .int .i64 0), (8, .int .i64 e), (25, .bool false)] w2 by
   refine ⟨fun h => by omega, fun _ => out⟩
  apply hK;clear hK
  refine Qaa rfl rfl (fun h => by cases h) (fun h => VC_skip ?_)
  refine VS [0, 4, 6, 7, 8, 27] ?_
  refine Qaa rfl rfl (fun h => ?_) (fun h => by simp at h;omega)
  refine VS [2, 3] ?_
  exact VC_ret (Qaj rfl rfl rfl ⟨hH2.sub (by simp), rfl⟩)
 | ok r =>
  obtain ⟨t, to⟩ := r
  obtain ⟨k1, k2, k3⟩ := Qpa htk
  simp only at hres k1 k2 k3
  unfold takeTV
  (try refine Qs ?_)
  apply hK;clear hK
  refine VQ [0, 4, 6, 7, 8, 25] fun K hK => ?_
  suffices out : ∀ b : Bool, (b = true ↔ 262144 < out.length + t.length) -> K [(0, Str s), (4, .slice a1 out.length c), (6, Str t), (7, .int .i64 to), (8, .int .i64 0), (25, .bool b)] w2 by
   refine ⟨fun _ => ?_, fun h => by simp at h⟩
   refine ⟨I64.mk (by omega) (by omega), ?_⟩
   exact out _ (by simp;omega)
  intro b hb
  apply hK;clear hK
  by_cases hbig : 262144 < out.length + t.length
  ·
   rw [if_pos hbig] at hres
   subst hres
   refine Qaa rfl rfl (fun h => ?_) (fun h => by rw [hb.2 hbig] at h;cases h)
   refine VS [0, 4, 6, 7, 8] ?_
   refine VS [0, 4, 6, 7, 8, 27] ?_
   refine Qaa rfl rfl (fun h => ?_) (fun h => by simp at h)
   refine VS [2, 3] ?_
   exact VC_ret (Qaj rfl rfl rfl ⟨hH2.sub (by simp), rfl⟩)
  rw [if_neg hbig] at hres
  refine Qaa rfl rfl (fun h => absurd (hb.1 h) hbig) (fun h => VC_skip ?_)
  clear hb h
  refine VS [0, 4, 6, 7, 8, 27] ?_
  refine Qaa rfl rfl (fun h => by simp at h) (fun h => VC_skip ?_)
  clear h
  refine VQ [0, 4, 7] fun K hK => ?_
  refine Qai ?_
  refine Qs ?_
  refine Qjm hH2 0 rfl Tryz.underlying43 zi5 Tryz.underlying9 (fun h => by simp;omega) fun a' cap' w5 hc' hH3 => ?_
  simp only [List.set_cons_zero] at hH3
  (try refine Qs ?_)
  apply hK;clear hK
  refine VS [0, 4, 5] ?_
  refine VS [0, 4, 5, 36] ?_
  refine VD (fun h => ?_) (fun h => VC_skip ?_)
  ·
   rw [if_pos (by omega)] at hres
   subst hres
   refine VQ [2, 3] fun K hK => ?_
   refine ⟨out ++ t, hH3.readsBytes 0 rfl, ?_⟩
   (try refine Qs ?_)
   (repeat refine Qo ?_);apply hK;clear hK
   exact VC_ret (Qaj rfl rfl rfl ⟨hH3.sub (by simp), rfl⟩)
  rw [if_neg (by omega)] at hres
  refine Qam ?_
  refine Qab ?_
  refine Qs ?_
  exact ⟨s.length - to, by omega, to, f, cap', out ++ t, a', rfl, hH3, hres, by omega, by omega, by simp;omega, rfl⟩
set_option maxHeartbeats 4000000
theorem Qmw (n : Int) (w : World) (hn : 0 <= n /\ n <= 9) : Does Tryz.prog 64 #[.int .i64 n] w fun v w' => w' = w /\ v = .int .i64 (min (n * 100000) 262144) := by
 refine En [.int .i64 n] 8 Tryz.func64 ?_
 refine VS [0] ?_
 refine VS [0, 5] ?_
 refine VD (fun h => ?_) (fun h => VC_skip ?_)
 ·
  refine VS [2] ?_
  refine VC_ret (VX_ret1 rfl rfl ⟨rfl, ?_⟩)
  rw [Int.min_eq_right (by omega)]
 ·
  refine VS [2] ?_
  refine VC_ret (VX_ret1 rfl rfl ⟨rfl, ?_⟩)
  rw [Int.min_eq_left (by omega)]
theorem Qpb (s : List UInt8) (a : Nat) (ha : a <= s.length) : ∀ (k i : Nat), hdT (s.drop a) 0 i k = hdT s a i k
 | 0, i => by
  rw [hdT, hdT]
  have : (s.drop a).getD (0 + 3) 0 = s.getD (a + 3) 0 := by simp [List.getD_eq_getElem?_getD, List.getElem?_drop]
  rw [this]
 | k + 1, i => by
  rw [hdT, hdT, Qpb s a ha k (i + 1)]
  have e : (s.drop a).getD (0 + i) 0 = s.getD (a + i) 0 := by simp [List.getD_eq_getElem?_getD, List.getElem?_drop]
  rw [e, List.length_drop]
  by_cases h : s.length <= a + i
  ·
   rw [if_pos h, if_pos (by omega)]
  ·
   rw [if_neg h, if_neg (by omega)]
theorem Qmx (s : List UInt8) (w : World) (hs : s.length <= 100000000000000) :
  Does Tryz.prog 70 #[Str s] w fun v w' => w' = w /\ v = .tuple #[.int .i64 (hdT s 0 0 4).1, .int .i64 (hdT s 0 0 4).2] := by
 generalize hres : hdT s 0 0 4 = res
 refine En [Str s] 36 Tryz.func70 ?_
 refine VS [0] ?_
 refine VS [0, 4] ?_
 refine VS [0, 4, 5] ?_
 refine Qaf ?_
 refine Qae [0, 4, 5] (fun m e w' => ∃ (i : Nat), Is e [(0, Str s), (4, Str [66, 90, 104]), (5, .int .i64 i)] /\ Is w' w /\ i <= 3 /\ hdT s 0 i (4 - i) = res /\ i <= s.length /\ m = 3 - i) 3 ?_ ?_
 ·
  refine Qs ?_
  exact ⟨0, rfl, rfl, by omega, hres, by omega, rfl⟩
 clear hres
 rintro m e w' ⟨i, rfl, rfl, hi, hr, hle, rfl⟩
 refine VS [0, 4, 5, 7] ?_
 refine VD (fun h => ?_) (fun h => ?_)
 ·
  obtain ⟨j, hj⟩ : ∃ j, 4 - i = j + 1 := ⟨3 - i, by omega⟩
  rw [hj, hdT] at hr
  simp only [Nat.zero_add] at hr
  refine VC_skip ?_
  refine VB ?_
  refine VS [0, 4, 5, 13] ?_
  refine VD (fun h => ?_) (fun h => VC_skip ?_)
  ·
   rw [if_pos (by omega)] at hr
   subst hr
   refine VS [2, 3] ?_
   exact VC_ret (Qaj rfl rfl rfl ⟨rfl, rfl⟩)
  rw [if_neg (by omega)] at hr
  generalize hc : s.getD i 0 = c at *
  refine Vq [0, 4, 5, 20] fun K hK => ?_
  rw [hc]
  generalize hz : (([66, 90, 104] : List UInt8).getD i 0).toNat = z at *
  refine ⟨⟨by omega, by omega⟩, ⟨by omega, by simp only [List.length_cons, List.length_nil];omega⟩, ?_⟩
  apply hK;clear hK
  have hbad : badT i c ↔ ¬ ((c.toNat : Int) = z) := by unfold badT;rw [hz];omega
  refine VD (fun h => ?_) (fun h => VC_skip ?_)
  ·
   rw [if_pos (hbad.2 h)] at hr
   subst hr
   refine VS [2, 3] ?_
   exact VC_ret (Qaj rfl rfl rfl ⟨rfl, rfl⟩)
  rw [if_neg (fun hh => h (hbad.1 hh))] at hr
  refine Qam ?_
  refine VS [0, 4, 5] ?_
  refine Qab ?_
  refine Qs ?_
  exact ⟨3 - (i + 1), by omega, i + 1, rfl, rfl, by omega, by rw [show 4 - (i + 1) = j by omega];exact hr, by omega, rfl⟩
 ·
  obtain rfl : i = 3 := by omega
  rw [show 4 - 3 = 0 + 1 from rfl, hdT, hdT] at hr
  simp only [Nat.zero_add] at hr
  refine Qag rfl ?_
  clear h
  refine VS [0, 23] ?_
  refine VD (fun h => ?_) (fun h => VC_skip ?_)
  ·
   rw [if_pos (by omega)] at hr
   subst hr
   refine VS [2, 3] ?_
   exact VC_ret (Qaj rfl rfl rfl ⟨rfl, rfl⟩)
  rw [if_neg (by omega)] at hr
  have hi3 : Int.toNat 3 = 3 := rfl
  generalize hc : s.getD 3 0 = c at *
  refine VQ [0, 31] fun K hK => ?_
  suffices out : ∀ b : Bool, (b = true ↔ badT 3 c) -> K [(0, Str s), (31, .bool b)] w' by
   unfold badT at out
   rw [hi3, hc]
   refine ⟨⟨by omega, by omega⟩, fun h3 => ?_, fun h3 => out _ (by simp at h3 ⊢;omega)⟩
   refine ⟨⟨by omega, by omega⟩, out _ (by simp at h3 ⊢;omega)⟩
  intro b hb
  apply hK;clear hK
  refine Vi (fun h => ?_) (fun h => VC_skip ?_)
  ·
   rw [if_pos (hb.1 h)] at hr
   subst hr
   refine VS [2, 3] ?_
   exact VC_ret (Qaj rfl rfl rfl ⟨rfl, rfl⟩)
  have hnb : ¬ badT 3 c := fun h' => by rw [hb.2 h'] at h;cases h
  rw [if_neg hnb] at hr
  unfold badT at hnb
  subst hr
  refine VQ [2, 3] fun K hK => ?_
  rw [hi3, hc]
  (repeat first | refine Qo ?_ | refine Qp ?_)
  rw [show ((c.toNat : Int) - 48) % 256 = ((c.toNat - 48 : Nat) : Int) by omega]
  (repeat refine Qo ?_);apply hK;clear hK
  exact VC_ret (Qaj rfl rfl rfl ⟨rfl, rfl⟩)
theorem row_SL {T n cap : Nat} {a : Option Addr} {xs : List Value} {w : World} (h : (Res.row T 1 a n cap xs).holds w) : SL w a n cap xs := by
 refine ⟨Qaz h, (Qna h).1, fun ad e => ?_⟩
 obtain ⟨_, _, _, h4⟩ := h
 rcases h4 with ⟨h5, _, _⟩ | ⟨g, _, _, h5, _⟩
 ·
  rw [h5] at e;cases e
 ·
  rw [h5] at e;cases e;rfl
set_option maxHeartbeats 4000000
theorem dtake13_does (s : List UInt8) (a : Int) (w : World) (ha : I64 a) (hs : s.length <= 100000000000) :
  Does Tryz.prog 27 #[Str s, .int .i64 a] w fun v w' => Heap w [] w' [] /\ v = takeTV (takeT s a) := by
 have hbl := bytesB_length s
 generalize hres : takeT s a = res
 unfold takeT at hres
 refine En [Str s, .int .i64 a] 114 Tryz.func27 ?_
 refine VS [0, 1] ?_
 refine VQ [0, 1, 27] fun K hK => ?_
 suffices out : ∀ b : Bool, (b = true ↔ a < 0 ∨ (s.length : Int) < a) -> K [(0, Str s), (1, .int .i64 a), (27, .bool b)] w by
  (repeat' (first | exact out _ _ (by first | omega | (simp;done) | (simp;omega)) | exact out _ (by first | omega | (simp;done) | (simp;omega)) | refine ⟨fun _ => ?_, fun _ => ?_⟩ | refine Qo ?_))
 intro b hb
 apply hK;clear hK
 refine Vi (fun h => ?_) (fun h => VC_skip ?_)
 ·
  rw [if_pos (hb.1 h)] at hres
  subst hres
  refine VS [4, 5, 6] ?_
  exact VC_ret (Qap rfl rfl rfl rfl ⟨Heap.start w, rfl⟩)
 have hg : ¬ (a < 0 ∨ (s.length : Int) < a) := fun hh => by rw [hb.2 hh] at h;cases h
 rw [if_neg hg] at hres
 clear hb h
 obtain ⟨a, rfl⟩ : ∃ n : Nat, a = n := ⟨a.toNat, by omega⟩
 rw [Int.toNat_natCast] at hres
 have hhd := fun w => Qmx (s.drop a) w (by rw [List.length_drop];omega)
 rw [Qpb s a (by omega)] at hhd
 have hok := Qvs (s := s) (a := a)
 generalize hdT s a 0 4 = hd at *
 obtain ⟨lev, e⟩ := hd
 simp only at hres hhd hok
 refine VQ [0, 1, 7, 8] fun K hK => ?_
 refine Qp ?_
 (try refine Qs ?_)
 refine MemK_call Tryz.call70 ?_;refine Qs ?_;refine CallK.mk (hhd w) ?_
 rintro v w1 ⟨rfl, rfl⟩
 (try refine Qs ?_)
 apply hK;clear hK
 refine VS [0, 1, 7, 8, 36] ?_
 refine VD (fun h => ?_) (fun h => VC_skip ?_)
 ·
  rw [if_pos (by omega)] at hres
  subst hres
  refine VS [4, 5, 6] ?_
  exact VC_ret (Qap rfl rfl rfl rfl ⟨Heap.start w1, rfl⟩)
 obtain rfl : e = 0 := by omega
 rw [if_neg (by simp)] at hres
 obtain ⟨l1, l2, l3⟩ := hok rfl
 clear hok hhd h hg
 refine VQ [1, 7, 9] fun K hK => ?_
 refine MemK_call Tryz.call20 ?_;refine Qs ?_;refine CallK.mk (dof_does s hs w1) ?_
 rintro v w2 ⟨al, cl, hHl, rfl⟩
 rw [bI_len] at hHl ⊢
 have hl12 : (bytesB s).length <= 1000000000000 := by omega
 (try refine Qs ?_)
 apply hK;clear hK
 refine VQ [7, 9, 10] fun K hK => ?_
 (repeat first | refine Qo ?_ | refine Qp ?_)
 apply hK;clear hK
 refine VS [7, 9, 10, 11] ?_
 refine VS [7, 9, 10, 11, 12] ?_
 refine VS [7, 9, 10, 11, 12, 13] ?_
 refine Qe3 [9, 10, 11, 12] (fun e w' => ∃ (bit c2 : Nat) (a2 : Option Addr) (out : List UInt8) (sums : List Nat), Is e [(9, .slice al (bytesB s).length cl), (10, .int .i64 bit), (11, Str out), (12, .slice a2 sums.length c2)] /\ Heap w1 [] w' [Res.row 31 1 a2 sums.length c2 (u32V sums), Res.row 3 1 al (bytesB s).length cl (Qal (bI (bytesB s)))] /\ bit + 48 <= 8 * s.length /\ (if 8 * s.length < bit + 48 + 32 then Except.error 10 else if numB (((bytesB s).drop (bit + 48)).take 32) ≠ Qa9 sums then Except.error 121 else Except.ok (out, (bit + 87) / 8)) = res /\ sums.length <= bit /\ (∀ x ∈ sums, x < 4294967296)) ?_ ?_
 ·
  refine Qaf ?_
  refine Qae [7, 9, 10, 11, 12, 13] (fun m e w' => ∃ (n bit f c2 : Nat) (out : List UInt8) (sums : List Nat) (a2 : Option Addr), Is e [(7, .int .i64 lev), (9, .slice al (bytesB s).length cl), (10, .int .i64 bit), (11, Str out), (12, .slice a2 sums.length c2), (13, .int .i64 n)] /\ Heap w1 [] w' [Res.row 31 1 a2 sums.length c2 (u32V sums), Res.row 3 1 al (bytesB s).length cl (Qal (bI (bytesB s)))] /\
   goT s (min (lev * 100000) 262144) f bit out sums = res /\ bit <= 8 * s.length /\ 8 * s.length + 1 <= f + bit /\ out.length <= 262144 /\ sums.length <= bit /\ n < bit /\ (∀ x ∈ sums, x < 4294967296) /\ m = 8 * s.length - bit) (8 * s.length - (8 * a + 32)) ?_ ?_
  ·
   refine Qs ?_
   exact ⟨0, 8 * a + 32, _, 0, [], [], none, by push_cast;rfl, hHl.nilRow 31 1, by rw [show 8 * a + 32 = 8 * (a + 4) by omega];exact hres, by omega, by omega, by simp, by simp, by omega, by simp, rfl⟩
  clear hres hHl
  rintro m e w' ⟨n, bit, f, c2, out, sums, a2, rfl, hH, hres, hb1, hb2, ho, hsl, hnb, h32, rfl⟩
  obtain ⟨f, rfl⟩ : ∃ k, f = k + 1 := ⟨f - 1, by omega⟩
  rw [goT] at hres
  refine VS [7, 9, 10, 11, 12, 13, 46] ?_
  refine Qaa rfl rfl (fun h => ?_) (fun h => by simp only [decide_eq_false_iff_not] at h;omega)
  clear h
  refine VC_skip ?_
  refine VB ?_
  refine VQ [7, 9, 10, 11, 12, 13, 14, 15] fun K hK => ?_
  refine MemK_call Tryz.call71 ?_;refine Qs ?_;refine CallK.mk (Qca (bytesB s) al cl bit 48 (by omega) (by omega) hl12 w' (row_SL (hH.at 1 rfl))) ?_
  rintro v w3 ⟨rfl, rfl⟩
  by_cases hsh : 8 * s.length < bit + 48
  ·
   rw [Qby (by omega)]
   rw [if_pos hsh] at hres
   subst hres
   (try refine Qs ?_)
   apply hK;clear hK
   refine VS [7, 9, 10, 11, 12, 13, 14, 15, 56] ?_
   refine Qaa rfl rfl (fun h => ?_) (fun h => by simp at h)
   refine VS [4, 5, 6] ?_
   exact VC_ret (Qap rfl rfl rfl rfl ⟨hH.sub (by simp), rfl⟩)
  rw [Qbn (by omega)]
  rw [if_neg hsh] at hres
  have hv48 : numB (((bytesB s).drop bit).take 48) < 2 ^ 48 := Nat.lt_of_lt_of_le (Qba _) (Nat.pow_le_pow_right (by omega) (by rw [List.length_take];omega))
  generalize numB (((bytesB s).drop bit).take 48) = v at *
  (try refine Qs ?_)
  apply hK;clear hK
  refine VS [7, 9, 10, 11, 12, 13, 14, 15, 56] ?_
  refine Qaa rfl rfl (fun h => by simp at h) (fun h => VC_skip ?_)
  clear h
  refine VS [7, 9, 10, 11, 12, 13, 14, 59] ?_
  refine VD (fun h => ?_) (fun h => VC_skip ?_)
  ·
   obtain rfl : v = 25779555029136 := by omega
   rw [if_pos rfl] at hres
   refine Qag rfl ?_
   refine Qab ?_
   refine Qs ?_
   exact ⟨bit, c2, a2, out, sums, rfl, hH, by omega, hres, hsl, h32⟩
  rw [if_neg (by omega)] at hres
  clear h
  refine VS [7, 9, 10, 11, 12, 13, 61] ?_
  refine VD (fun h => ?_) (fun h => VC_skip ?_)
  ·
   rw [if_neg (by omega)] at hres
   subst hres
   refine VS [4, 5, 6] ?_
   exact VC_ret (Qap rfl rfl rfl rfl ⟨hH.sub (by simp), rfl⟩)
  rw [if_pos (by omega)] at hres
  clear h hv48
  generalize htk : takeF s bit (min (lev * 100000) 262144) = tk at *
  refine VQ [7, 9, 11, 12, 13, 15, 16, 17, 18] fun K hK => ?_
  refine MemK_call Tryz.call64 ?_;refine Qs ?_;refine CallK.mk (Qmw lev w3 (by omega)) ?_
  rintro v w4 ⟨rfl, rfl⟩
  (try refine Qs ?_)
  refine MemK_call Tryz.call19 ?_;refine Qs ?_;refine CallK.mk (dblockTake_does s al cl bit (min (lev * 100000) 262144) (I64.mk (by omega) (by omega)) (I64.mk (by omega) (by omega)) hs w4 (row_SL (hH.at 1 rfl))) ?_
  rintro v w5 ⟨hHt, rfl⟩
  have hH4 := hH.call0 hHt
  simp only [List.nil_append] at hH4
  clear hH hHt
  rw [htk]
  cases tk with
  | error e =>
   have he := Qia htk
   simp only at hres
   subst hres
   unfold takeV
   (try refine Qs ?_)
   apply hK;clear hK
   refine VS [7, 9, 11, 12, 13, 15, 16, 17, 18, 73] ?_
   refine Qaa rfl rfl (fun h => ?_) (fun h => by simp at h;exact absurd h he)
   refine VS [4, 5, 6] ?_
   exact VC_ret (Qap rfl rfl rfl rfl ⟨hH4.sub (by simp), rfl⟩)
  | ok r =>
  obtain ⟨t, sum, to⟩ := r
  obtain ⟨k1, k2, k3, k4⟩ := Qks htk
  simp only at hres k1 k2 k3 k4
  unfold takeV
  (try refine Qs ?_)
  apply hK;clear hK
  refine VS [7, 9, 11, 12, 13, 15, 16, 17, 18, 73] ?_
  refine Qaa rfl rfl (fun h => by simp at h) (fun h => VC_skip ?_)
  clear h
  refine VS [7, 9, 11, 12, 13, 16, 17, 18, 80] ?_
  refine VD (fun h => ?_) (fun h => VC_skip ?_)
  ·
   rw [if_pos (by omega)] at hres
   subst hres
   refine VS [4, 5, 6] ?_
   exact VC_ret (Qap rfl rfl rfl rfl ⟨hH4.sub (by simp), rfl⟩)
  rw [if_neg (by omega)] at hres
  refine VQ [7, 9, 11, 12, 13, 17, 18] fun K hK => ?_
  (repeat first | refine Qo ?_ | refine Qp ?_)
  apply hK;clear hK
  refine VQ [7, 9, 11, 12, 13, 18] fun K hK => ?_
  refine Qbg hH4 (u32V [sum]) (xs := [.tmp 85]) Tryz.underlying102 sz31 rfl rfl rfl (by omega) ?_;refine Qs ?_;refine ⟨rfl, by simp [Value.cells], fun g w4 hH6 => ?_⟩;(try refine Qs ?_)
  refine Qai ?_
  refine Qs ?_
  refine Qb8 (zs := #[.int .u32 0]) (bytes := 4) hH6 1 rfl Tryz.underlying102 (by kernel_rfl) rfl ⟨rfl, Qaz (hH6.at 0 rfl), 31, Tryz.underlying102⟩ (by simp [u32V];rfl) (fun h => by omega) fun a'' cap'' w6 hc'' hH7 => ?_
  simp only [List.set_cons_succ, List.set_cons_zero] at hH7
  have hH8 := hH7.sub (List.sublist_cons_self _ _)
  clear hH4 hH6 hH7
  (try refine Qs ?_)
  apply hK;clear hK
  refine VS [7, 9, 10, 11, 12, 13] ?_
  refine Qam ?_
  refine VS [7, 9, 10, 11, 12, 13] ?_
  refine Qab ?_
  refine Qs ?_
  refine ⟨8 * s.length - to, by omega, n + 1, to, f, cap'', out ++ t, sums ++ [sum], a'', ?_, ?_, hres, by omega, by omega, by simp;omega, by simp;omega, by omega, ?_, rfl⟩
  ·
   simp [Is]
  ·
   simpa [u32V] using hH8
  ·
   intro x hx
   rcases List.mem_append.1 hx with hx | hx
   ·
    exact h32 x hx
   ·
    simp at hx;omega
 clear hres hHl
 rintro e w' ⟨bit, c2, a2, out, sums, rfl, hH, hbit, hres, hsl, h32⟩
 have ht2 := Qca (bytesB s) al cl (bit + 48) 32 (by omega) (by omega) hl12 w' (row_SL (hH.at 1 rfl))
 refine VQ [8, 10, 11, 12, 19] fun K hK => ?_
 (repeat first | refine Qo ?_ | refine Qp ?_)
 rw [show ((bit : Int) + 48) = ((bit + 48 : Nat) : Int) by push_cast;rfl]
 refine MemK_call Tryz.call71 ?_;refine Qs ?_;refine CallK.mk ht2 ?_
 rintro v w3 ⟨rfl, rfl⟩
 by_cases hsh : 8 * s.length < bit + 48 + 32
 ·
  rw [Qby (by omega)]
  rw [if_pos hsh] at hres
  subst hres
  (try refine Qs ?_)
  apply hK;clear hK
  refine VS [8, 10, 11, 12, 19, 97] ?_
  refine Qaa rfl rfl (fun h => ?_) (fun h => by simp at h)
  refine VS [4, 5, 6] ?_
  exact VC_ret (Qap rfl rfl rfl rfl ⟨hH.sub (by simp), rfl⟩)
 rw [Qbn (by omega)]
 rw [if_neg hsh] at hres
 have hv32 : numB (((bytesB s).drop (bit + 48)).take 32) < 2 ^ 32 := Nat.lt_of_lt_of_le (Qba _) (Nat.pow_le_pow_right (by omega) (by rw [List.length_take];omega))
 generalize numB (((bytesB s).drop (bit + 48)).take 32) = v at *
 (try refine Qs ?_)
 apply hK;clear hK
 refine VS [8, 10, 11, 12, 19, 97] ?_
 refine Qaa rfl rfl (fun h => by simp at h) (fun h => VC_skip ?_)
 clear h
 have hcs := Qke sums a2 c2 w3 (Qaz (hH.at 0 rfl)) h32 (by omega)
 have hclt := Qdq sums h32
 generalize Qa9 sums = cs at *
 refine VQ [10, 11, 103] fun K hK => ?_
 refine MemK_call Tryz.call67 ?_;refine Qs ?_;refine CallK.mk hcs ?_
 rintro v w4 ⟨rfl, rfl⟩
 (try refine Qs ?_)
 rw [show (v : Int) % 4294967296 = v by omega]
 apply hK;clear hK
 refine VD (fun h => ?_) (fun h => VC_skip ?_)
 ·
  rw [if_pos (by omega)] at hres
  subst hres
  refine VS [4, 5, 6] ?_
  exact VC_ret (Qap rfl rfl rfl rfl ⟨hH.sub (by simp), rfl⟩)
 rw [if_neg (by omega)] at hres
 subst hres
 clear h
 refine VQ [10, 11] fun K hK => ?_
 (repeat first | refine Qo ?_ | refine Qp ?_)
 apply hK;clear hK
 refine VB ?_
 refine Qae [10, 11] (fun m e w' => ∃ (k : Nat), Is e [(10, .int .i64 k), (11, Str out)] /\ Is w' w4 /\ (k + 7) / 8 = (bit + 87) / 8 /\ k <= 1000000000000 /\ m = (8 - k % 8) % 8) ((8 - (bit + 80) % 8) % 8) ?_ ?_
 ·
  refine Qs ?_
  exact ⟨bit + 80, by push_cast;rfl, rfl, by omega, by omega, rfl⟩
 rintro m e w5 ⟨k, rfl, rfl, hk, hk2, rfl⟩
 refine VS [10, 11, 108] ?_
 refine VD (fun h => ?_) (fun h => ?_)
 ·
  refine VC_skip ?_
  refine Qaf ?_
  refine VS [10, 11] ?_
  refine Qam ?_
  refine Qab ?_
  refine Qs ?_
  exact ⟨(8 - (k + 1) % 8) % 8, by omega, k + 1, by push_cast;rfl, rfl, by omega, by omega, rfl⟩
 ·
  refine Qag rfl ?_
  refine VQ [4, 5, 6] fun K hK => ?_
  (repeat first | refine Qo ?_ | refine Qp ?_)
  rw [show (k : Int) / 8 = (((bit + 87) / 8 : Nat) : Int) by omega]
  (repeat refine Qo ?_);apply hK;clear hK
  exact VC_ret (Qap rfl rfl rfl rfl ⟨hH.sub (by simp), rfl⟩)
theorem dunpack13_does (s : List UInt8) (w : World) (hs : s.length <= 100000000000) :
  Does Tryz.prog 29 #[Str s] w fun v w' => Heap w [] w' [] /\ v = unpackV (unpackT s) := by
 generalize hres : unpackT s = res
 unfold unpackT at hres
 refine En [Str s] 41 Tryz.func29 ?_
 refine VS [0] ?_
 refine VS [0, 4] ?_
 refine VS [0, 4, 5] ?_
 refine VS [0, 4, 5, 6] ?_
 refine Qaf ?_
 refine Qae [0, 4, 5, 6] (fun m e w' => ∃ (a f n : Nat) (out : List UInt8), Is e [(0, Str s), (4, Str out), (5, .int .i64 a), (6, .int .i64 n)] /\ Heap w [] w' [] /\ (if n = 0 ∨ a < s.length then goU s f a out else .ok out) = res /\ a <= s.length /\ n <= a /\ s.length + 1 <= f + a /\ out.length <= 262144 /\ m = (if n = 0 then 1 else 0) + (s.length - a)) (s.length + 1) ?_ ?_
 ·
  refine Qs ?_
  exact ⟨0, s.length + 1, 0, [], rfl, Heap.start w, by rw [if_pos (.inl rfl)];exact hres, by omega, by omega, by omega, by simp, by simp;omega⟩
 clear hres
 rintro m e w' ⟨a, f, n, out, rfl, hH, hres, ha, hna, hf, ho, rfl⟩
 refine VQ [0, 4, 5, 6, 17] fun K hK => ?_
 suffices out_ : ∀ b : Bool, (b = true ↔ n = 0 ∨ a < s.length) -> K [(0, Str s), (4, Str out), (5, .int .i64 a), (6, .int .i64 n), (17, .bool b)] w' by
  refine ⟨fun h3 => out_ _ (by simp at h3 ⊢;omega), fun h3 => out_ _ (by simp at h3 ⊢;omega)⟩
 intro b hb
 apply hK;clear hK
 refine Vi (fun h => ?_) (fun h => ?_)
 ·
  have hb1 := hb.1 h
  rw [if_pos hb1] at hres
  obtain ⟨f, rfl⟩ : ∃ k, f = k + 1 := ⟨f - 1, by omega⟩
  rw [goU] at hres
  clear hb h
  refine VC_skip ?_
  refine VB ?_
  generalize htk : takeT s a = tk at *
  refine VQ [0, 4, 6, 7, 8, 9] fun K hK => ?_
  refine MemK_call Tryz.call27 ?_;refine Qs ?_;refine CallK.mk (dtake13_does s a w' (I64.mk (by omega) (by omega)) hs) ?_
  rintro v w2 ⟨hHt, rfl⟩
  have hH2 := hH.call0 hHt
  simp only [List.nil_append] at hH2
  clear hH hHt
  rw [htk]
  cases tk with
  | error e =>
   have he := Qmv htk
   simp only at hres
   subst hres
   unfold takeTV
   (try refine Qs ?_)
   apply hK;clear hK
   refine VS [0, 4, 6, 7, 8, 9, 28] ?_
   refine Qaa rfl rfl (fun h => ?_) (fun h => by simp at h;exact absurd h he)
   refine VS [2, 3] ?_
   exact VC_ret (Qaj rfl rfl rfl ⟨hH2, rfl⟩)
  | ok r =>
  obtain ⟨t, to⟩ := r
  obtain ⟨k1, k2, k3⟩ := Qpa htk
  simp only at hres k1 k2 k3
  unfold takeTV
  (try refine Qs ?_)
  apply hK;clear hK
  refine VS [0, 4, 6, 7, 8, 9, 28] ?_
  refine Qaa rfl rfl (fun h => by simp at h) (fun h => VC_skip ?_)
  clear h
  refine VS [0, 4, 6, 7, 8, 35] ?_
  refine VD (fun h => ?_) (fun h => VC_skip ?_)
  ·
   rw [if_pos (by omega)] at hres
   subst hres
   refine VS [2, 3] ?_
   exact VC_ret (Qaj rfl rfl rfl ⟨hH2, rfl⟩)
  rw [if_neg (by omega)] at hres
  refine VQ [0, 4, 6, 8] fun K hK => ?_
  (repeat first | refine Qo ?_ | refine Qp ?_)
  apply hK;clear hK
  refine VS [0, 4, 5, 6] ?_
  refine Qam ?_
  refine VS [0, 4, 5, 6] ?_
  refine Qab ?_
  refine Qs ?_
  refine ⟨0 + (s.length - to), by split <;> omega, to, f, n + 1, out ++ t, rfl, hH2, ?_, by omega, by omega, by omega, by simp;omega, by rw [if_neg (by omega)]⟩
  by_cases hto : to = s.length
  ·
   rw [if_neg (by omega)]
   rw [if_pos hto] at hres
   exact hres
  ·
   rw [if_pos (.inr (by omega))]
   rw [if_neg hto] at hres
   exact hres
 ·
  have hnb : ¬ (n = 0 ∨ a < s.length) := fun hh => by rw [hb.2 hh] at h;cases h
  rw [if_neg hnb] at hres
  subst hres
  refine Qag rfl ?_
  refine VS [2, 3] ?_
  exact VC_ret (Qaj rfl rfl rfl ⟨hH, rfl⟩)
end Go.Proofs.YtfphmlhgebpojaaGreat
