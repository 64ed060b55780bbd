/- A program logic over the model, and what this program's functions do by it: part 5. No conditions: a library of lemmas. -/
import Derived.Test.YtfphmlhgebpojaaGreatS4
open Nat (reduceEqDiff)
set_option linter.unusedSimpArgs false
set_option linter.unusedVariables false
set_option maxRecDepth 100000
namespace Go.Proofs.YtfphmlhgebpojaaGreat
open Go Go.Eng
abbrev Qv1 (a : Addr) (n cap : Nat) (by_ : Nat) : Value := .agg #[.slice (some a) n cap, .int .i64 by_]
theorem Qmm (rk : List Int) (a : Addr) (cap by_ i : Nat) (hn : rk.length <= 1000000000) (hby : by_ <= 10000000000) (hi : i < rk.length) (w : World) (hr : RS w (some a) rk.length 1 (Qbm rk)) :
  Does Tryz.prog 126 #[Qv1 a rk.length cap by_, .int .i64 i] w fun v w' => Heap w [] w' [] /\ v = .tuple #[.int .i64 (rk.getD i 0), .int .i64 (rk.getD ((i + by_) % rk.length) 0)] := by
 refine Qak (args := [Qv1 a rk.length cap by_, .int .i64 i]) 23 Tryz.func126 rfl rfl (of_decide_eq_true rfl) ?_
 simp only [Env.ofArgs]
 refine VR [1, 2] rfl rfl fun K hK => ?_;simp only [go_sem,↓reduceIte,reduceEqDiff]
 refine Qcg ?_
 simp only [go_sem,↓reduceIte,reduceEqDiff]
 have hH := (Heap.start w).box 166 [.slice (some a) rk.length cap, .int .i64 by_]
 generalize w.alloc (Obj.cells [Value.slice (some a) rk.length cap, .int .i64 by_].toArray 166) = w1 at *
 generalize w.heap.size = g at *
 have hr1 := hH.rs' hr
 (refine hK _ _ ?_;clear hK)
 (repeat refine Qai ?_);refine Qcq [4, 5] (by kernel_rfl) (by kernel_rfl) rfl fun K hK => ?_;simp only [go_sem,↓reduceIte,reduceEqDiff]
 (repeat (first | refine And.intro (by omega) ?_ | refine ⟨⟨by omega, by omega⟩, ?_⟩ | (refine ⟨_, (by first | exact Qac (hH.at 0 rfl) rfl | exact Qaa (hH.at 0 rfl) (bytesV_get (by omega)) | exact Qaa (hH.at 0 rfl) (Qaj (by omega)) | exact Qac (hH.at 1 rfl) rfl | exact Qaa (hH.at 1 rfl) (bytesV_get (by omega)) | exact Qaa (hH.at 1 rfl) (Qaj (by omega)) | exact Qac (hH.at 2 rfl) rfl | exact Qaa (hH.at 2 rfl) (bytesV_get (by omega)) | exact Qaa (hH.at 2 rfl) (Qaj (by omega)) | exact Qac (hH.at 3 rfl) rfl | exact Qaa (hH.at 3 rfl) (bytesV_get (by omega)) | exact Qaa (hH.at 3 rfl) (Qaj (by omega))), ?_⟩;(try simp only [go_sem,↓reduceIte,reduceEqDiff]))))
 refine ⟨_, Qnd hr1 hi, ?_⟩
 (repeat (first | refine And.intro (by omega) ?_ | refine ⟨⟨by omega, by omega⟩, ?_⟩ | (refine ⟨_, (by first | exact Qac (hH.at 0 rfl) rfl | exact Qaa (hH.at 0 rfl) (bytesV_get (by omega)) | exact Qaa (hH.at 0 rfl) (Qaj (by omega)) | exact Qac (hH.at 1 rfl) rfl | exact Qaa (hH.at 1 rfl) (bytesV_get (by omega)) | exact Qaa (hH.at 1 rfl) (Qaj (by omega)) | exact Qac (hH.at 2 rfl) rfl | exact Qaa (hH.at 2 rfl) (bytesV_get (by omega)) | exact Qaa (hH.at 2 rfl) (Qaj (by omega)) | exact Qac (hH.at 3 rfl) rfl | exact Qaa (hH.at 3 rfl) (bytesV_get (by omega)) | exact Qaa (hH.at 3 rfl) (Qaj (by omega))), ?_⟩;(try simp only [go_sem,↓reduceIte,reduceEqDiff]))))
 have hm : (i + by_) % rk.length < rk.length := Nat.mod_lt _ (by omega)
 rw [show ((i : Int) + by_) % rk.length = (((i + by_) % rk.length : Nat) : Int) by push_cast;rfl]
 generalize (i + by_) % rk.length = j at *
 refine And.intro (by omega) ⟨_, Qnd hr1 (i := j) hm, ?_⟩
 (refine hK _ ?_;clear hK)
 refine Qan (Qa9 rfl rfl rfl ?_)
 exact ⟨hH.sub (by simp), rfl⟩
def keyA (rk : List Int) (x : Int) : Int := rk.getD x.toNat 0
def keyB (rk : List Int) (by_ : Nat) (x : Int) : Int := rk.getD ((x.toNat + by_) % rk.length) 0
def cmpR (rk : List Int) (by_ : Nat) (x y : Int) : Int :=
 if keyA rk x ≠ keyA rk y then keyA rk x - keyA rk y else if keyB rk by_ x ≠ keyB rk by_ y then keyB rk by_ x - keyB rk by_ y else x - y
def inR (rk : List Int) (x : Int) : Prop := 0 <= x /\ x < rk.length
def Qkc (rk : List Int) : Prop := ∀ r ∈ rk, 0 <= r /\ r <= 1000000000
theorem Qih {rk : List Int} (h : Qkc rk) (i : Nat) : 0 <= rk.getD i 0 /\ rk.getD i 0 <= 1000000000 := by
 by_cases hi : i < rk.length
 ·
  rw [List.getD_eq_getElem?_getD, List.getElem?_eq_getElem hi];exact h _ (List.getElem_mem hi)
 ·
  rw [List.getD_eq_getElem?_getD, List.getElem?_eq_none (by omega)];simp
theorem QEu {rk : List Int} (h : Qkc rk) (hn : rk.length <= 1000000000) (by_ : Nat) (x y : Int) (hx : inR rk x) (hy : inR rk y) : -1000000000 <= cmpR rk by_ x y /\ cmpR rk by_ x y <= 1000000000 := by
 obtain ⟨h1, h2⟩ := hx
 obtain ⟨h3, h4⟩ := hy
 unfold cmpR keyA keyB
 have a1 := Qih h x.toNat
 have a2 := Qih h y.toNat
 have a3 := Qih h ((x.toNat + by_) % rk.length)
 have a4 := Qih h ((y.toNat + by_) % rk.length)
 split
 ·
  omega
 ·
  split <;> omega
theorem Qte (rk : List Int) (hrk : Qkc rk) (a : Addr) (cap by_ i j : Nat) (hn : rk.length <= 1000000000) (hby : by_ <= 10000000000) (hi : i < rk.length) (hj : j < rk.length) (w : World) (hr : RS w (some a) rk.length 1 (Qbm rk)) :
  Does Tryz.prog 128 #[Qv1 a rk.length cap by_, .int .i64 i, .int .i64 j] w fun v w' => Heap w [] w' [] /\ v = .int .i64 (cmpR rk by_ i j) := by
 have a1 := Qih hrk i
 have a2 := Qih hrk j
 have a3 := Qih hrk ((i + by_) % rk.length)
 have a4 := Qih hrk ((j + by_) % rk.length)
 have hcm : cmpR rk by_ i j = if rk.getD i 0 ≠ rk.getD j 0 then rk.getD i 0 - rk.getD j 0 else if rk.getD ((i + by_) % rk.length) 0 ≠ rk.getD ((j + by_) % rk.length) 0 then rk.getD ((i + by_) % rk.length) 0 - rk.getD ((j + by_) % rk.length) 0 else (i : Int) - j := by
  simp only [cmpR, keyA, keyB, Int.toNat_natCast]
  rfl
 have hk1 := fun w hr => Qmm rk a cap by_ i hn hby hi w hr
 have hk2 := fun w hr => Qmm rk a cap by_ j hn hby hj w hr
 generalize rk.getD i 0 = ka at *
 generalize rk.getD j 0 = kb at *
 generalize rk.getD ((i + by_) % rk.length) 0 = kc at *
 generalize rk.getD ((j + by_) % rk.length) 0 = kd at *
 rw [hcm]
 clear hcm
 refine Qak (args := [Qv1 a rk.length cap by_, .int .i64 i, .int .i64 j]) 40 Tryz.func128 rfl rfl (of_decide_eq_true rfl) ?_
 simp only [Env.ofArgs]
 refine VR [1, 2, 3] rfl rfl fun K hK => ?_;simp only [go_sem,↓reduceIte,reduceEqDiff]
 refine Qcg ?_
 simp only [go_sem,↓reduceIte,reduceEqDiff]
 have hH := (Heap.start w).box 166 [.slice (some a) rk.length cap, .int .i64 by_]
 generalize w.alloc (Obj.cells [Value.slice (some a) rk.length cap, .int .i64 by_].toArray 166) = w1 at *
 generalize w.heap.size = g at *
 have hr1 := hH.rs' hr
 (refine hK _ _ ?_;clear hK)
 refine VR [1, 2, 3, 7, 8] rfl rfl fun K hK => ?_;simp only [go_sem,↓reduceIte,reduceEqDiff]
 refine ⟨[.slice (some a) rk.length cap, .int .i64 by_], ⟨rfl, Qa1 (hH.at 0 rfl)⟩, ?_⟩
 refine Qag Tryz.call126 ?_;simp only [go_sem,↓reduceIte,reduceEqDiff];refine CallK.mk (hk1 w1 hr1) ?_
 rintro v w2 ⟨hH2, rfl⟩
 have hH3 := hH.call0 hH2
 simp only [List.nil_append] at hH3
 have hr2 := hH3.rs' hr
 (refine hK _ _ ?_;clear hK)
 refine VR [1, 2, 7, 8, 9, 10] rfl rfl fun K hK => ?_;simp only [go_sem,↓reduceIte,reduceEqDiff]
 refine ⟨[.slice (some a) rk.length cap, .int .i64 by_], ⟨rfl, Qa1 (hH3.at 0 rfl)⟩, ?_⟩
 refine Qag Tryz.call126 ?_;simp only [go_sem,↓reduceIte,reduceEqDiff];refine CallK.mk (hk2 w2 hr2) ?_
 rintro v w3 ⟨hH4, rfl⟩
 have hH5 := hH3.call0 hH4
 simp only [List.nil_append] at hH5
 have hH6 : Heap w [] w3 [] := hH5.sub (by simp)
 (refine hK _ _ ?_;clear hK)
 ((repeat refine Qai ?_);refine Qad ?_)
 try simp only [List.getElem_toArray, List.getElem_cons_zero, List.getElem_cons_succ]
 refine VR [1, 2, 7, 8, 9, 10, 23] rfl rfl fun K hK => ?_;simp only [go_sem,↓reduceIte,reduceEqDiff]
 (refine hK _ _ ?_;clear hK)
 refine Qab rfl rfl (fun h => ?_) (fun h => ?_)
 ·
  simp only [decide_eq_true_eq] at h
  refine VR [6] rfl rfl fun K hK => ?_;simp only [go_sem,↓reduceIte,reduceEqDiff]
  ((repeat refine And.intro (by omega) ?_);refine hK _ _ ?_;clear hK)
  exact Qan (Qax rfl rfl ⟨hH6, by rw [if_pos h]⟩)
 simp only [decide_eq_false_iff_not] at h
 rw [if_neg h]
 refine VR [1, 2, 8, 10, 30] rfl rfl fun K hK => ?_;simp only [go_sem,↓reduceIte,reduceEqDiff]
 (refine hK _ _ ?_;clear hK)
 refine Qab rfl rfl (fun h => ?_) (fun h => ?_)
 ·
  simp only [decide_eq_true_eq] at h
  refine VR [6] rfl rfl fun K hK => ?_;simp only [go_sem,↓reduceIte,reduceEqDiff]
  ((repeat refine And.intro (by omega) ?_);refine hK _ _ ?_;clear hK)
  exact Qan (Qax rfl rfl ⟨hH6, by rw [if_pos h]⟩)
 simp only [decide_eq_false_iff_not] at h
 rw [if_neg h]
 refine Qaf ?_
 refine Qav ?_
 refine VR [6] rfl rfl fun K hK => ?_;simp only [go_sem,↓reduceIte,reduceEqDiff]
 ((repeat refine And.intro (by omega) ?_);refine hK _ _ ?_;clear hK)
 exact Qan (Qax rfl rfl ⟨hH6, rfl⟩)
theorem Qw9 (rk : List Int) (hrk : Qkc rk) (gr : Nat) (cap by_ : Nat) (hn : rk.length <= 1000000000) (hby : by_ <= 10000000000) :
  Cmp (.func (.func 128) #[Qv1 ⟨gr, 0, none⟩ rk.length cap by_] #[]) (cmpR rk by_) (inR rk) (Res.row 3 1 (some ⟨gr, 0, none⟩) rk.length cap (Qbm rk)) where
 i64 := fun x y hx hy => by have := QEu hrk hn by_ x y hx hy;omega
 run := fun w x y hR hx hy => by
  obtain ⟨i, rfl⟩ : ∃ i : Nat, x = i := ⟨x.toNat, by have := hx.1;omega⟩
  obtain ⟨j, rfl⟩ : ∃ j : Nat, y = j := ⟨y.toNat, by have := hy.1;omega⟩
  exact FnK.mk Tryz.call128 (Qte rk hrk ⟨gr, 0, none⟩ cap by_ i j hn hby (by have := hx.2;omega) (by have := hy.2;omega) w (Qbo hR)) fun v w' h => h
theorem Qjq (rk : List Int) (by_ : Nat) (x y : Int) : cmpR rk by_ x y < 0 ↔ keyA rk x < keyA rk y ∨ (keyA rk x = keyA rk y /\ (keyB rk by_ x < keyB rk by_ y ∨ (keyB rk by_ x = keyB rk by_ y /\ x < y))) := by
 unfold cmpR
 split
 ·
  omega
 ·
  split <;> omega
theorem Qxa (rk : List Int) (by_ : Nat) : Sort.SWO (ltOf (cmpR rk by_)) := by
 constructor
 ·
  intro x
  simp [ltOf, cmpR]
 ·
  intro x y z h1 h2
  have h3 := Qjq rk by_ x y
  have h4 := Qjq rk by_ y z
  have h5 := Qjq rk by_ x z
  simp only [ltOf] at *
  have h1 := of_decide_eq_true h1
  have h2 := of_decide_eq_true h2
  exact decide_eq_true (by omega)
 ·
  intro x y z h1 h2
  have h3 := Qjq rk by_ x y
  have h4 := Qjq rk by_ y z
  have h5 := Qjq rk by_ x z
  simp only [ltOf] at *
  have h1 := of_decide_eq_false h1
  have h2 := of_decide_eq_false h2
  exact decide_eq_false (by omega)
def leB : List UInt8 -> List UInt8 -> Bool
 | [], _ => true
 | _ :: _, [] => false
 | a :: l, b :: m => if a = b then leB l m else decide (a.toNat < b.toNat)
theorem Qkd : ∀ l, leB l l = true
 | [] => rfl
 | a :: l => by simp [leB, Qkd l]
theorem Qmn : ∀ l m, leB l m = true -> leB m l = true -> l = m
 | [], [], _, _ => rfl
 | [], _ :: _, _, h => by simp [leB] at h
 | _ :: _, [], h, _ => by simp [leB] at h
 | a :: l, b :: m, h1, h2 => by
  simp only [leB] at h1 h2
  by_cases h : a = b
  ·
   subst h;simp at h1 h2;rw [Qmn l m h1 h2]
  ·
   simp [h, Ne.symm h] at h1 h2;omega
theorem Qxb : ∀ (l m : List UInt8) (c : UInt8), l.length = m.length -> leB (l ++ [c]) (m ++ [c]) = true -> leB l m = true
 | [], _, _, _, _ => rfl
 | _ :: _, [], _, h, _ => by simp at h
 | a :: l, b :: m, c, hl, h => by
  simp only [List.cons_append, leB] at h ⊢
  by_cases hab : a = b
  ·
   subst hab;simp at h ⊢;exact Qxb l m c (by simpa using hl) h
  ·
   simp [hab] at h ⊢;exact h
def rot (s : List UInt8) (i : Nat) : List UInt8 := s.drop i ++ s.take i
theorem Qy0 (s : List UInt8) (i : Nat) : (rot s i).length = s.length := by simp [rot];omega
theorem QEv (s : List UInt8) : rot s 0 = s := by simp [rot]
def rotl : List UInt8 -> List UInt8
 | [] => []
 | a :: l => l ++ [a]
theorem Qqx (s : List UInt8) (i : Nat) (h : i < s.length) : rot s (i + 1) = rotl (rot s i) := by
 have e : s.drop i = s[i] :: s.drop (i + 1) := List.drop_eq_getElem_cons h
 rw [rot, rot, e, List.cons_append, rotl, List.append_assoc]
 congr 1
 rw [List.take_add_one, List.getElem?_eq_getElem h];rfl
theorem QEw (s : List UInt8) : rot s s.length = s := by simp [rot]
theorem Qxc (s : List UInt8) (i : Nat) (h : i < s.length) : (rot s i).head? = some (s.getD i 0) := by
 rw [rot, List.drop_eq_getElem_cons h, List.getD_eq_getElem?_getD, List.getElem?_eq_getElem h];rfl
structure Ordered (s : List UInt8) (σ : List Nat) : Prop where
 perm : σ.Perm (List.range s.length)
 sorted : σ.Pairwise fun i j => leB (rot s i) (rot s j) = true /\ (rot s i = rot s j -> i < j)
theorem Ordered.unique {s : List UInt8} {σ τ : List Nat} (h : Ordered s σ) (k : Ordered s τ) : σ = τ := by
 refine List.Perm.eq_of_pairwise (le := fun i j => leB (rot s i) (rot s j) = true /\ (rot s i = rot s j -> i < j)) (fun a b _ _ h1 h2 => ?_) h.sorted k.sorted (h.perm.trans k.perm.symm)
 have e := Qmn _ _ h1.1 h2.1
 have := h1.2 e
 have := h2.2 e.symm
 omega
def ahead (n i : Nat) : Nat := if i = 0 then n - 1 else i - 1
theorem QBz (s : List UInt8) (i : Nat) (h : i < s.length) : rot s i = rotl (rot s (ahead s.length i)) := by
 unfold ahead
 by_cases h0 : i = 0
 ·
  subst h0
  rw [if_pos rfl, <- Qqx s (s.length - 1) (by omega), show s.length - 1 + 1 = s.length by omega, QEw, QEv]
 ·
  rw [if_neg h0, <- Qqx s (i - 1) (by omega), show i - 1 + 1 = i by omega]
def Qbt (s : List UInt8) (σ : List Nat) : List UInt8 := σ.map fun i => s.getD (ahead s.length i) 0
def Qbi (L : List UInt8) : List Nat := (List.range 256).flatMap fun b => (List.range L.length).filter fun i => (L.getD i 0).toNat == b
theorem Qch (L : List UInt8) : (Qbi L).Perm (List.range L.length) := by
 unfold Qbi
 generalize hn : List.range L.length = xs
 clear hn
 induction xs with
 | nil => simp
 | cons x xs ih =>
  have h1 : ∀ (bs : List Nat), bs.Nodup -> (L.getD x 0).toNat ∈ bs ->
    (bs.flatMap fun b => (x :: xs).filter fun i => (L.getD i 0).toNat == b).Perm (x :: bs.flatMap fun b => xs.filter fun i => (L.getD i 0).toNat == b) := by
   intro bs
   induction bs with
   | nil => intro _ h;simp at h
   | cons b bs ihb =>
    intro hnd hm
    rw [List.nodup_cons] at hnd
    simp only [List.flatMap_cons]
    by_cases hb : (L.getD x 0).toNat = b
    ·
     have hno : ∀ b' ∈ bs, ((x :: xs).filter fun i => (L.getD i 0).toNat == b') = xs.filter fun i => (L.getD i 0).toNat == b' := by
      intro b' hb'
      rw [List.filter_cons_of_neg]
      simp only [beq_iff_eq]
      intro h;exact hnd.1 (by rw [<- hb, h];exact hb')
     rw [List.filter_cons_of_pos (by simpa using hb)]
     have e : (bs.flatMap fun b' => (x :: xs).filter fun i => (L.getD i 0).toNat == b') = bs.flatMap fun b' => xs.filter fun i => (L.getD i 0).toNat == b' := by
      have : ∀ (l : List Nat), (∀ b' ∈ l, ((x :: xs).filter fun i => (L.getD i 0).toNat == b') = xs.filter fun i => (L.getD i 0).toNat == b') -> (l.flatMap fun b' => (x :: xs).filter fun i => (L.getD i 0).toNat == b') = l.flatMap fun b' => xs.filter fun i => (L.getD i 0).toNat == b' := by
       intro l
       induction l with
       | nil => intro _;rfl
       | cons c l ihl => intro h;rw [List.flatMap_cons, List.flatMap_cons, h c (by simp), ihl fun b' hb' => h b' (by simp [hb'])]
      exact this bs hno
     rw [e];exact List.Perm.refl _
    ·
     rw [List.filter_cons_of_neg (by simpa using hb)]
     have hm' : (L.getD x 0).toNat ∈ bs := by
      rcases List.mem_cons.1 hm with h | h
      ·
       exact absurd h hb
      ·
       exact h
     refine (List.Perm.append_left _ (ihb hnd.2 hm')).trans ?_
     exact List.perm_middle
  refine (h1 _ List.nodup_range (List.mem_range.2 (UInt8.toNat_lt _))).trans (ih.cons x)
theorem Qnv (L : List UInt8) : (Qbi L).Pairwise fun i j => (L.getD i 0).toNat < (L.getD j 0).toNat ∨ ((L.getD i 0).toNat = (L.getD j 0).toNat /\ i < j) := by
 unfold Qbi
 rw [List.pairwise_flatMap]
 refine ⟨fun b _ => ?_, ?_⟩
 ·
  have hr : (List.range L.length).Pairwise (· < ·) := List.pairwise_lt_range
  have := hr.filter fun i => (L.getD i 0).toNat == b
  refine this.imp_of_mem fun {i j} hi hj h => ?_
  rw [List.mem_filter] at hi hj
  simp only [beq_iff_eq] at hi hj
  exact .inr ⟨by rw [hi.2, hj.2], h⟩
 ·
  refine (List.pairwise_lt_range (n := 256)).imp fun {b c} h i hi j hj => ?_
  rw [List.mem_filter] at hi hj
  simp only [beq_iff_eq] at hi hj
  exact .inl (by rw [hi.2, hj.2];exact h)
def Qgk (L : List UInt8) (pl : List Nat) : Nat -> Nat -> List UInt8
 | 0, _ => []
 | n + 1, p => L.getD (pl.getD p 0) 0 :: Qgk L pl n (pl.getD p 0)
theorem QI2 (a : UInt8) (l : List UInt8) : rotl (a :: l) = l ++ [a] := rfl
section
variable {s : List UInt8} {σ : List Nat}
theorem QI3 (h : Ordered s σ) {j : Nat} (hj : j < s.length) : (Qbt s σ).getD j 0 = s.getD (ahead s.length (σ.getD j 0)) 0 := by
 have hl : σ.length = s.length := by rw [h.perm.length_eq, List.length_range]
 simp only [Qbt, List.getD_eq_getElem?_getD, List.getElem?_map]
 rw [List.getElem?_eq_getElem (by omega)]
 simp
theorem QL4 (h : Ordered s σ) {j : Nat} (hj : j < s.length) : σ.getD j 0 < s.length := by
 have hl : σ.length = s.length := by rw [h.perm.length_eq, List.length_range]
 have : σ.getD j 0 ∈ σ := by
  rw [List.getD_eq_getElem?_getD, List.getElem?_eq_getElem (by omega)];simp
 have := (h.perm.mem_iff).1 this
 simpa using this
theorem Qxd {n i : Nat} (h : i < n) : ahead n i < n := by unfold ahead;split <;> omega
theorem Qqy (h : Ordered s σ) {j : Nat} (hj : j < s.length) : ∃ l, rot s (σ.getD j 0) = l ++ [(Qbt s σ).getD j 0] /\ rot s (ahead s.length (σ.getD j 0)) = (Qbt s σ).getD j 0 :: l := by
 have h1 := QL4 h hj
 have h2 := QBz s _ h1
 have h3 := Qxc s _ (Qxd h1)
 cases hr : rot s (ahead s.length (σ.getD j 0)) with
 | nil => rw [hr] at h3;simp at h3
 | cons a l =>
  rw [hr] at h2 h3
  simp only [List.head?_cons, Option.some.injEq] at h3
  rw [QI3 h hj, <- h3]
  exact ⟨l, h2, rfl⟩
theorem Qy1 (n : Nat) : ((List.range n).map (ahead n)).Perm (List.range n) := by
 refine (List.perm_ext_iff_of_nodup ?_ List.nodup_range).2 fun a => ?_
 ·
  refine List.Pairwise.map _ ?_ (List.pairwise_lt_range.imp_of_mem (S := fun a b => a < b /\ b < n) fun {a b} ha hb h => ⟨h, by simpa using hb⟩)
  intro a b h
  unfold ahead
  split <;> split <;> omega
 ·
  simp only [List.mem_map, List.mem_range]
  constructor
  ·
   rintro ⟨i, hi, rfl⟩;exact Qxd hi
  ·
   intro ha
   by_cases h : a = n - 1
   ·
    exact ⟨0, by omega, by unfold ahead;rw [if_pos rfl];omega⟩
   ·
    exact ⟨a + 1, by omega, by unfold ahead;rw [if_neg (by omega)];omega⟩
theorem QEx (σ : List Nat) : (List.range σ.length).map (fun j => σ.getD j 0) = σ := by
 apply List.ext_getElem?
 intro j
 rw [List.getElem?_map]
 by_cases h : j < σ.length
 ·
  rw [List.getElem?_eq_getElem (by simpa using h)]
  simp [List.getD_eq_getElem?_getD, h]
 ·
  rw [List.getElem?_eq_none (by simpa using h), List.getElem?_eq_none (by omega)];rfl
theorem QB0 (h : Ordered s σ) : σ.map (rot s) = (Qbi (Qbt s σ)).map fun j => rot s (ahead s.length (σ.getD j 0)) := by
 have hl : σ.length = s.length := by rw [h.perm.length_eq, List.length_range]
 have hcl : (Qbt s σ).length = s.length := by simp [Qbt, hl]
 have hpp := Qch (Qbt s σ)
 rw [hcl] at hpp
 have hmem : ∀ j ∈ Qbi (Qbt s σ), j < s.length := fun j hj => by simpa using (hpp.mem_iff).1 hj
 refine List.Perm.eq_of_pairwise (le := fun l m => leB l m = true) (fun a b _ _ h1 h2 => Qmn a b h1 h2) ?_ ?_ ?_
 ·
  exact List.Pairwise.map _ (fun a b h => h) (h.sorted.imp fun h => h.1)
 ·
  refine List.Pairwise.map _ ?_ ((Qnv (Qbt s σ)).imp_of_mem (S := fun i j => ((((Qbt s σ).getD i 0).toNat < ((Qbt s σ).getD j 0).toNat ∨ (((Qbt s σ).getD i 0).toNat = ((Qbt s σ).getD j 0).toNat /\ i < j)) /\ i < s.length) /\ j < s.length) fun hi hj h => ⟨⟨h, hmem _ hi⟩, hmem _ hj⟩)
  rintro i j ⟨⟨hij, hi⟩, hj⟩
  obtain ⟨l, e1, e2⟩ := Qqy h hi
  obtain ⟨m, f1, f2⟩ := Qqy h hj
  rw [e2, f2]
  simp only [leB]
  rcases hij with hlt | ⟨he, hlt⟩
  ·
   have : (Qbt s σ).getD i 0 ≠ (Qbt s σ).getD j 0 := fun h' => by rw [h'] at hlt;omega
   simp only [this, if_false];simpa using hlt
  ·
   have he' : (Qbt s σ).getD i 0 = (Qbt s σ).getD j 0 := UInt8.toNat_inj.1 he
   rw [if_pos he']
   have hs := List.pairwise_iff_getElem.1 h.sorted i j (by omega) (by omega) hlt
   have g1 : σ[i]'(by omega) = σ.getD i 0 := by rw [List.getD_eq_getElem?_getD, List.getElem?_eq_getElem (by omega)];rfl
   have g2 : σ[j]'(by omega) = σ.getD j 0 := by rw [List.getD_eq_getElem?_getD, List.getElem?_eq_getElem (by omega)];rfl
   rw [g1, g2, e1, f1, he'] at hs
   refine Qxb l m _ ?_ hs.1
   have a1 := congrArg List.length e1
   have a2 := congrArg List.length f1
   simp [Qy0] at a1 a2
   omega
 ·
  have p1 : (σ.map (rot s)).Perm ((List.range s.length).map (rot s)) := h.perm.map _
  have p2 : ((Qbi (Qbt s σ)).map fun j => rot s (ahead s.length (σ.getD j 0))).Perm ((List.range s.length).map fun j => rot s (ahead s.length (σ.getD j 0))) := hpp.map _
  refine p1.trans (List.Perm.trans ?_ p2.symm)
  have e1 : ((List.range s.length).map fun j => rot s (ahead s.length (σ.getD j 0))) = (σ.map (ahead s.length)).map (rot s) := by
   rw [<- hl]
   conv => rhs;rw [<- QEx σ]
   simp [List.map_map, Function.comp_def, hl]
  rw [e1]
  exact (((h.perm.map (ahead s.length)).trans (Qy1 s.length)).symm).map _
theorem QB1 (h : Ordered s σ) : ∀ (n p i : Nat), p < s.length -> i < s.length -> rot s (σ.getD p 0) = rot s i -> i + n <= s.length ->
  Qgk (Qbt s σ) (Qbi (Qbt s σ)) n p = (s.drop i).take n
 | 0, _, _, _, _, _, _ => by simp [Qgk]
 | n + 1, p, i, hp, hi, hr, hn => by
  have hl : σ.length = s.length := by rw [h.perm.length_eq, List.length_range]
  have hcl : (Qbt s σ).length = s.length := by simp [Qbt, hl]
  have hpp := Qch (Qbt s σ)
  rw [hcl] at hpp
  have hpl : (Qbi (Qbt s σ)).length = s.length := by rw [hpp.length_eq, List.length_range]
  generalize hq : (Qbi (Qbt s σ)).getD p 0 = q
  have hqlt : q < s.length := by
   have : q ∈ Qbi (Qbt s σ) := by
    rw [<- hq, List.getD_eq_getElem?_getD, List.getElem?_eq_getElem (by omega)];simp
   simpa using (hpp.mem_iff).1 this
  have hb := congrArg (fun l => l[p]?) (QB0 h)
  simp only [List.getElem?_map] at hb
  rw [List.getElem?_eq_getElem (by omega), List.getElem?_eq_getElem (by omega)] at hb
  simp only [Option.map_some, Option.some.injEq] at hb
  have g1 : σ[p]'(by omega) = σ.getD p 0 := by rw [List.getD_eq_getElem?_getD, List.getElem?_eq_getElem (by omega)];rfl
  have g2 : (Qbi (Qbt s σ))[p]'(by omega) = q := by rw [<- hq, List.getD_eq_getElem?_getD, List.getElem?_eq_getElem (by omega)];rfl
  rw [g1, g2, hr] at hb
  obtain ⟨l, e1, e2⟩ := Qqy h hqlt
  rw [e2] at hb
  have hd := Qxc s i hi
  rw [hb] at hd
  simp only [List.head?_cons, Option.some.injEq] at hd
  have hnext : rot s (σ.getD q 0) = rotl (rot s i) := by rw [hb, QI2, e1]
  rw [Qgk, hq, hd, List.drop_eq_getElem_cons hi, List.take_succ_cons]
  have e3 : s.getD i 0 = s[i] := by rw [List.getD_eq_getElem?_getD, List.getElem?_eq_getElem hi];rfl
  rw [e3]
  congr 1
  by_cases hlast : i + 1 = s.length
  ·
   have : n = 0 := by omega
   subst this;simp [Qgk]
  ·
   exact QB1 h n q (i + 1) hqlt (by omega) (by rw [hnext, Qqx s i hi]) (by omega)
theorem QEy (h : Ordered s σ) (hs : s ≠ []) : Qgk (Qbt s σ) (Qbi (Qbt s σ)) s.length (σ.idxOf 0) = s := by
 have hl : σ.length = s.length := by rw [h.perm.length_eq, List.length_range]
 have hn : 0 < s.length := List.length_pos_iff.2 hs
 have hm : 0 ∈ σ := (h.perm.mem_iff).2 (by simpa using hn)
 have hr : σ.idxOf 0 < σ.length := List.idxOf_lt_length_iff.2 hm
 have hg : σ.getD (σ.idxOf 0) 0 = 0 := by
  rw [List.getD_eq_getElem?_getD, List.getElem?_eq_getElem hr]
  simp
 have := QB1 h s.length (σ.idxOf 0) 0 (by omega) hn (by rw [hg]) (by omega)
 simpa using this
end
def pre (s : List UInt8) (m i : Nat) : List UInt8 := (List.range m).map fun t => s.getD ((i + t) % s.length) 0
theorem Qix (s : List UInt8) (m i : Nat) : (pre s m i).length = m := by simp [pre]
theorem Qqz (s : List UInt8) (a b i : Nat) : pre s (a + b) i = pre s a i ++ pre s b ((i + a) % s.length) := by
 simp only [pre, List.range_add, List.map_append, List.map_map]
 congr 1
 apply List.map_congr_left
 intro t _
 simp only [Function.comp]
 congr 1
 rw [Nat.mod_add_mod, Nat.add_assoc]
theorem Qle : ∀ {a c : List UInt8} (b d : List UInt8), a.length = c.length -> leB (a ++ b) (c ++ d) = if a = c then leB b d else leB a c
 | [], [], _, _, _ => by simp
 | [], _ :: _, _, _, h => by simp at h
 | _ :: _, [], _, _, h => by simp at h
 | x :: a, y :: c, b, d, h => by
  have ih := Qle (a := a) (c := c) b d (by simpa using h)
  by_cases hxy : x = y
  ·
   subst hxy
   simp only [List.cons_append, leB, if_true, ih, List.cons.injEq, true_and]
  ·
   simp [leB, hxy]
theorem Qq0 (s : List UInt8) (i : Nat) (hi : i < s.length) : pre s s.length i = rot s i := by
 apply List.ext_getElem
 ·
  simp [pre, rot];omega
 ·
  intro t h1 h2
  simp only [pre, List.length_map, List.length_range] at h1
  simp only [pre, rot, List.getElem_map, List.getElem_range, List.getElem_append, List.length_drop, List.getElem_drop, List.getElem_take]
  split
  ·
   rename_i h
   rw [Nat.mod_eq_of_lt (by omega), List.getD_eq_getElem?_getD, List.getElem?_eq_getElem (by omega), Option.getD_some]
  ·
   rename_i h
   have e : (i + t) % s.length = t - (s.length - i) := by
    rw [Nat.mod_eq_sub_mod (by omega), Nat.mod_eq_of_lt (by omega)];omega
   rw [e, List.getD_eq_getElem?_getD, List.getElem?_eq_getElem (by omega), Option.getD_some]
theorem Qy2 (s : List UInt8) (m i j : Nat) (hi : i < s.length) (hj : j < s.length) (h : rot s i = rot s j) : pre s m i = pre s m j := by
 rw [<- Qq0 s i hi, <- Qq0 s j hj] at h
 unfold pre at h ⊢
 apply List.map_congr_left
 intro t _
 have ht : t % s.length < s.length := Nat.mod_lt _ (by omega)
 have h1 := (List.map_inj_left.1 h) (t % s.length) (by simpa using ht)
 rwa [Nat.add_mod_mod, Nat.add_mod_mod] at h1
def Ranks (s : List UInt8) (rk : List Int) (m : Nat) : Prop := rk.length = s.length /\ ∀ i j, i < s.length -> j < s.length -> (rk.getD i 0 <= rk.getD j 0 ↔ leB (pre s m i) (pre s m j) = true)
def leK (rk : List Int) (by_ : Nat) (x y : Int) : Prop := keyA rk x < keyA rk y ∨ (keyA rk x = keyA rk y /\ keyB rk by_ x <= keyB rk by_ y)
def LeK (s : List UInt8) (rk : List Int) (by_ m : Nat) : Prop := rk.length = s.length /\ ∀ i j : Nat, i < s.length -> j < s.length -> (leK rk by_ i j ↔ leB (pre s m i) (pre s m j) = true)
theorem Ranks.eq {s : List UInt8} {rk : List Int} {m : Nat} (h : Ranks s rk m) {i j : Nat} (hi : i < s.length) (hj : j < s.length) : rk.getD i 0 = rk.getD j 0 ↔ pre s m i = pre s m j := by
 constructor
 ·
  intro e
  exact Qmn _ _ ((h.2 i j hi hj).1 (by omega)) ((h.2 j i hj hi).1 (by omega))
 ·
  intro e
  have h1 := (h.2 i j hi hj).2 (by rw [e];exact Qkd _)
  have h2 := (h.2 j i hj hi).2 (by rw [e];exact Qkd _)
  omega
theorem LeK.first {s : List UInt8} {rk : List Int} (h : Ranks s rk 1) : LeK s rk 0 1 := by
 refine ⟨h.1, fun i j hi hj => ?_⟩
 have hn := h.1
 rw [<- h.2 i j hi hj]
 simp only [leK, keyA, keyB, Int.toNat_natCast, Nat.add_zero, hn, Nat.mod_eq_of_lt hi, Nat.mod_eq_of_lt hj]
 omega
theorem LeK.double {s : List UInt8} {rk : List Int} {c : Nat} (h : Ranks s rk c) : LeK s rk c (c + c) := by
 refine ⟨h.1, fun i j hi hj => ?_⟩
 have hn := h.1
 have h0 : 0 < s.length := by omega
 rw [Qqz, Qqz, Qle _ _ (by rw [Qix, Qix])]
 have hi2 : (i + c) % s.length < s.length := Nat.mod_lt _ h0
 have hj2 : (j + c) % s.length < s.length := Nat.mod_lt _ h0
 have e1 := h.eq hi hj
 have e2 := h.2 i j hi hj
 have e3 := h.2 _ _ hi2 hj2
 simp only [leK, keyA, keyB, Int.toNat_natCast, hn]
 split
 ·
  rename_i hp
  rw [<- e3]
  have := e1.2 hp
  omega
 ·
  rename_i hp
  rw [<- e2]
  have : ¬ rk.getD i 0 = rk.getD j 0 := fun h' => hp (e1.1 h')
  omega
def kEq (rk : List Int) (by_ : Nat) (x y : Int) : Bool := decide (keyA rk x = keyA rk y) && decide (keyB rk by_ x = keyB rk by_ y)
def rsum (rk : List Int) (by_ : Nat) (L : List Int) : Nat -> Nat
 | 0 => 0
 | k + 1 => rsum rk by_ L k + if kEq rk by_ (L.getD k 0) (L.getD (k + 1) 0) then 0 else 1
theorem Qv2 (rk : List Int) (by_ : Nat) (L : List Int) : ∀ k, rsum rk by_ L k <= k
 | 0 => by simp [rsum]
 | k + 1 => by have := Qv2 rk by_ L k;simp only [rsum];split <;> omega
theorem Qnw (rk : List Int) (by_ : Nat) (L : List Int) {p q : Nat} (h : p <= q) : rsum rk by_ L p <= rsum rk by_ L q := by
 induction q with
 | zero =>
  obtain rfl : p = 0 := by omega
  exact Nat.le_refl _
 | succ q ih =>
  by_cases hp : p = q + 1
  ·
   rw [hp];exact Nat.le_refl _
  ·
   have := ih (by omega);simp only [rsum];omega
def QEz (rk : List Int) (by_ : Nat) (L : List Int) : Prop := ∀ p q, p <= q -> q < L.length -> leK rk by_ (L.getD p 0) (L.getD q 0)
theorem QI4 {rk : List Int} {by_ : Nat} {L : List Int} (hL : QEz rk by_ L) {p q : Nat} (h : p <= q) (hq : q < L.length) : rsum rk by_ L p = rsum rk by_ L q ↔ kEq rk by_ (L.getD p 0) (L.getD q 0) = true := by
 induction q with
 | zero =>
  obtain rfl : p = 0 := by omega
  simp [kEq]
 | succ q ih =>
  by_cases hp : p = q + 1
  ·
   subst hp;simp [kEq]
  ·
   have ih := ih (by omega) (by omega)
   have hm := Qnw rk by_ L (show p <= q by omega)
   have h1 := hL p q (by omega) (by omega)
   have h2 := hL q (q + 1) (by omega) hq
   simp only [rsum]
   simp only [kEq, Bool.and_eq_true, decide_eq_true_eq, leK] at *
   split
   ·
    rename_i h3
    simp only [Nat.add_zero]
    rw [ih]
    omega
   ·
    rename_i h3
    constructor
    ·
     intro h4;omega
    ·
     intro h4;exfalso;apply h3;omega
theorem Qy4 {rk : List Int} {by_ : Nat} {L : List Int} (hL : QEz rk by_ L) {p q : Nat} (hp : p < L.length) (hq : q < L.length) : rsum rk by_ L p <= rsum rk by_ L q ↔ leK rk by_ (L.getD p 0) (L.getD q 0) := by
 by_cases h : p <= q
 ·
  exact ⟨fun _ => hL p q h hq, fun _ => Qnw rk by_ L h⟩
 ·
  have h1 := hL q p (by omega) hp
  have h2 := Qnw rk by_ L (show q <= p by omega)
  have h3 := QI4 hL (show q <= p by omega) hp
  simp only [kEq, Bool.and_eq_true, decide_eq_true_eq, leK] at *
  constructor
  ·
   intro h4;have := h3.1 (by omega);omega
  ·
   intro h4;have := h3.2 (by omega);omega
def Qev (n : Nat) : List Int := (List.range n).map fun i : Nat => (i : Int)
theorem QFm {rk : List Int} {by_ : Nat} {x y : Int} (h : ltOf (cmpR rk by_) y x = false) : leK rk by_ x y /\ (kEq rk by_ x y = true -> x <= y) := by
 have h1 := Qjq rk by_ y x
 have h2 : ¬ cmpR rk by_ y x < 0 := of_decide_eq_false h
 simp only [leK, kEq, Bool.and_eq_true, decide_eq_true_eq]
 constructor
 ·
  omega
 ·
  omega
theorem QE0 {rk : List Int} {by_ : Nat} {L : List Int} (h : L.Pairwise fun x y => ltOf (cmpR rk by_) y x = false) : QEz rk by_ L := by
 intro p q hpq hq
 by_cases e : p = q
 ·
  subst e;right;exact ⟨rfl, Int.le_refl _⟩
 ·
  have := (List.pairwise_iff_getElem.1 h) p q (by omega) hq (by omega)
  rw [List.getD_eq_getElem?_getD, List.getElem?_eq_getElem (by omega), List.getD_eq_getElem?_getD, List.getElem?_eq_getElem hq]
  exact (QFm this).1
theorem Qv3 {L : List Int} {n : Nat} (h : L.Perm (Qev n)) {i : Nat} (hi : i < n) : ∃ p, p < L.length /\ L.getD p 0 = i := by
 have hm : (i : Int) ∈ L := h.mem_iff.2 (by simp only [Qev, List.mem_map, List.mem_range];exact ⟨i, hi, rfl⟩)
 obtain ⟨p, hp, he⟩ := List.getElem_of_mem hm
 exact ⟨p, hp, by rw [List.getD_eq_getElem?_getD, List.getElem?_eq_getElem hp];exact he⟩
theorem Qv4 {L : List Int} {n : Nat} (h : L.Perm (Qev n)) {p : Nat} (hp : p < L.length) : 0 <= L.getD p 0 /\ L.getD p 0 < n := by
 have hm : L.getD p 0 ∈ L := by rw [List.getD_eq_getElem?_getD, List.getElem?_eq_getElem hp];exact List.getElem_mem hp
 have := h.mem_iff.1 hm
 simp only [Qev, List.mem_map, List.mem_range] at this
 obtain ⟨i, hi, he⟩ := this
 omega
theorem Qxe {L : List Int} {n : Nat} (h : L.Perm (Qev n)) : L.length = n := by rw [h.length_eq];simp [Qev]
theorem Qpj {L : List Int} {n : Nat} (h : L.Perm (Qev n)) : L.Nodup := by
 rw [h.nodup_iff, Qev, List.Nodup, List.pairwise_map]
 exact (List.nodup_range (n := n)).imp fun {a b} hab h => hab (by omega)
theorem QE1 {L : List Int} {n : Nat} (h : L.Perm (Qev n)) {p q : Nat} (hp : p < L.length) (hq : q < L.length) (e : L.getD p 0 = L.getD q 0) : p = q := by
 have hnd := Qpj h
 rw [List.getD_eq_getElem?_getD, List.getElem?_eq_getElem hp, List.getD_eq_getElem?_getD, List.getElem?_eq_getElem hq] at e
 exact (List.getElem_inj hnd).1 e
theorem Qy5 {s : List UInt8} {rk nx L : List Int} {by_ m : Nat} (hk : LeK s rk by_ m) (hp : L.Perm (Qev s.length)) (hs : QEz rk by_ L) (hl : nx.length = s.length) (hn : ∀ p, p < s.length -> nx.getD (L.getD p 0).toNat 0 = rsum rk by_ L p) : Ranks s nx m := by
 refine ⟨hl, fun i j hi hj => ?_⟩
 have hL := Qxe hp
 obtain ⟨p, hp1, hp2⟩ := Qv3 hp hi
 obtain ⟨q, hq1, hq2⟩ := Qv3 hp hj
 have e1 := hn p (by omega)
 have e2 := hn q (by omega)
 rw [hp2, Int.toNat_natCast] at e1
 rw [hq2, Int.toNat_natCast] at e2
 have h1 := Qy4 hs hp1 hq1
 rw [hp2, hq2] at h1
 rw [e1, e2, <- hk.2 i j hi hj, <- h1]
 omega
theorem Qv5 {s : List UInt8} {rk nx L : List Int} {by_ : Nat} (hp : L.Perm (Qev s.length)) (hl : nx.length = s.length) (hb : s.length <= 1000000000) (hn : ∀ p, p < s.length -> nx.getD (L.getD p 0).toNat 0 = rsum rk by_ L p) : Qkc nx := by
 intro r hr
 obtain ⟨i, hi, rfl⟩ := List.getElem_of_mem hr
 have hL := Qxe hp
 obtain ⟨p, hp1, hp2⟩ := Qv3 hp (show i < s.length by omega)
 have e1 := hn p (by omega)
 have e2 := Qv2 rk by_ L p
 rw [hp2, Int.toNat_natCast, List.getD_eq_getElem?_getD, List.getElem?_eq_getElem hi, Option.getD_some] at e1
 omega
theorem Qv6 {s : List UInt8} {rk L : List Int} {by_ m : Nat} (hk : LeK s rk by_ m) (hm : s.length <= m) (hp : L.Perm (Qev s.length)) (hs : L.Pairwise fun x y => ltOf (cmpR rk by_) y x = false) : Ordered s (L.map Int.toNat) := by
 constructor
 ·
  have := hp.map Int.toNat
  rwa [Qev, List.map_map, show (Int.toNat ∘ fun i : Nat => (i : Int)) = id from funext fun i => Int.toNat_natCast i, List.map_id] at this
 ·
  rw [List.pairwise_map]
  refine (List.pairwise_and_iff.2 ⟨hs, Qpj hp⟩).imp_of_mem fun {x y} hx hy h => ?_
  obtain ⟨h, hne⟩ := h
  have hx := hp.mem_iff.1 hx
  have hy := hp.mem_iff.1 hy
  simp only [Qev, List.mem_map, List.mem_range] at hx hy
  obtain ⟨i, hi, rfl⟩ := hx
  obtain ⟨j, hj, rfl⟩ := hy
  simp only [Int.toNat_natCast]
  obtain ⟨h1, h2⟩ := QFm h
  have h3 := (hk.2 i j hi hj).1 h1
  constructor
  ·
   obtain ⟨c, rfl⟩ : ∃ c, m = s.length + c := ⟨m - s.length, by omega⟩
   rw [Qqz, Qqz, Qle _ _ (by rw [Qix, Qix]), Qq0 s i hi, Qq0 s j hj] at h3
   split at h3
   ·
    rename_i e;rw [e];exact Qkd _
   ·
    exact h3
  ·
   intro e
   have e2 := Qy2 s m i j hi hj e
   have h4 := (hk.2 j i hj hi).2 (by rw [e2];exact Qkd _)
   have h5 : kEq rk by_ i j = true := by
    simp only [leK, kEq, Bool.and_eq_true, decide_eq_true_eq] at *
    omega
   have h6 := h2 h5
   have h7 : i ≠ j := fun h => hne (by rw [h])
   omega
theorem Qdw (d : Array Int) (p : Nat) : d.toList.getD p 0 = d[p]! := by
 simp only [List.getD_eq_getElem?_getD, getElem!_def, Array.getElem?_toList]
 cases d[p]? <;> rfl
theorem Qhl (d : Array Int) {i : Nat} (v : Int) (j : Nat) (hi : i < d.size) : (d.setIfInBounds i v)[j]! = if j = i then v else d[j]! := by
 simp only [getElem!_def, Array.getElem?_setIfInBounds]
 by_cases h : i = j
 ·
  subst h;simp [hi]
 ·
  simp [h, Ne.symm h]
theorem Qtf (n k : Nat) : (Array.replicate n (0 : Int))[k]! = 0 := by
 simp only [getElem!_def, Array.getElem?_replicate]
 split <;> rename_i h
 ·
  split at h <;> simp_all
 ·
  rfl
theorem QB2 {w0 w : World} {B : List Nat} {G : List Res} (hH : Heap w0 B w G) (n : Nat) (hn : n <= 1000000000000) : Heap w0 B (w.alloc (.cells (List.replicate n (Value.int .i64 0)).toArray 3)) (arr w.heap.size n (Array.replicate n 0) :: G) := by
 have h := hH.row 3 (n := n) (cap := n) (sz := 1) (List.replicate n (.int .i64 0)) [] (by simp) (by simp) (by omega) (by omega)
 rw [List.append_nil] at h
 rw [arr, Array.size_replicate, Array.toList_replicate, <- intsV_zero]
 exact h
abbrev Qom (g cap : Nat) (rk : List Int) : Res := Res.row 3 1 (some ⟨g, 0, none⟩) rk.length cap (Qbm rk)
abbrev ptr (g : Nat) : Value := .pointer (some ⟨g, 0, none⟩)
theorem Qy6 (rk : List Int) (gr cr by_ go co gn gs : Nat) (d : Array Int) (hrk : Qkc rk) (hby : by_ <= 10000000000) (hn : d.size <= 1000000000) (hn0 : 0 < d.size) (hl : rk.length = d.size) (hp : d.toList.Perm (Qev d.size)) (w0 w : World) (B : List Nat) (G : List Res)
  (hL : Heap w0 B w (arr go co d :: Qom gr cr rk :: Res.blk gn 3 [.int .i64 d.size] :: Res.blk gs 36 [sl go co d] :: G)) :
  Does Tryz.prog 125 #[Qv1 ⟨gr, 0, none⟩ rk.length cr by_, ptr gn, ptr gs] w
   fun v w' => ∃ (gx : Nat) (nx : Array Int), nx.size = d.size /\ (∀ p, p < d.size -> nx[(d[p]!).toNat]! = rsum rk by_ d.toList p) /\ Heap w0 B w' (Qom gx d.size nx.toList :: arr go co d :: Qom gr cr rk :: Res.blk gn 3 [.int .i64 d.size] :: Res.blk gs 36 [sl go co d] :: G) /\ v = sl gx d.size nx := by
 have hin : ∀ p, p < d.size -> 0 <= d[p]! /\ d[p]! < d.size := fun p h => by
  have := Qv4 hp (p := p) (by simpa using h)
  rwa [Qdw] at this
 have hinj : ∀ p q, p < d.size -> q < d.size -> d[p]! = d[q]! -> p = q := fun p q h1 h2 e => by
  refine QE1 hp (p := p) (q := q) (by simpa using h1) (by simpa using h2) ?_
  rw [Qdw, Qdw, e]
 refine Qak (args := [Qv1 ⟨gr, 0, none⟩ rk.length cr by_, ptr gn, ptr gs]) 69 Tryz.func125 rfl rfl (of_decide_eq_true rfl) ?_
 simp only [Env.ofArgs]
 refine VR [1, 2, 3] rfl rfl fun K hK => ?_;simp only [go_sem,↓reduceIte,reduceEqDiff]
 refine Qcg ?_
 simp only [go_sem,↓reduceIte,reduceEqDiff]
 have hH := hL.box 166 [.slice (some ⟨gr, 0, none⟩) rk.length cr, .int .i64 by_]
 generalize w.alloc (Obj.cells [Value.slice (some ⟨gr, 0, none⟩) rk.length cr, .int .i64 by_].toArray 166) = w1 at *
 generalize w.heap.size = gb at *
 (refine hK _ _ ?_;clear hK)
 refine VR [1, 2, 3, 5] rfl rfl fun K hK => ?_;simp only [go_sem,↓reduceIte,reduceEqDiff]
 refine ⟨_, Qac (hH.at 3 rfl) rfl, ?_⟩
 refine Qbw Tryz.underlying36 zi3 ?_
 simp only [go_sem,↓reduceIte,reduceEqDiff]
 refine ⟨d.size, d.size, ⟨rfl, rfl, by omega, by omega, by omega⟩, ?_⟩
 have hH1 := QB2 hH d.size (by omega)
 generalize w1.alloc (Obj.cells (List.replicate d.size (Value.int .i64 0)).toArray 3) = w2 at *
 generalize w1.heap.size = gx at *
 (refine hK _ _ ?_;clear hK)
 refine VR [1, 2, 3, 5, 6] rfl rfl fun K hK => ?_;simp only [go_sem,↓reduceIte,reduceEqDiff]
 (refine hK _ _ ?_;clear hK)
 refine Qad ?_
 refine Qam [1, 2, 3, 5, 6] (fun m e w' => ∃ (k : Nat) (nx : Array Int), Is e [(1, ptr gn), (2, ptr gs), (3, ptr gb), (5, .slice (some ⟨gx, 0, none⟩) d.size d.size), (6, .int .i64 k)] /\ Heap w0 B w' (arr gx d.size nx :: Res.blk gb 166 [.slice (some ⟨gr, 0, none⟩) rk.length cr, .int .i64 by_] :: arr go co d :: Qom gr cr rk :: Res.blk gn 3 [.int .i64 d.size] :: Res.blk gs 36 [sl go co d] :: G) /\ nx.size = d.size /\ 1 <= k /\ k <= d.size /\ (∀ p, p < k -> nx[(d[p]!).toNat]! = rsum rk by_ d.toList p) /\ m = d.size - k) (d.size - 1) ?_ ?_
 ·
  simp only [go_sem,↓reduceIte,reduceEqDiff]
  refine ⟨1, Array.replicate d.size 0, rfl, hH1, by simp, by omega, by omega, fun p hp => ?_, rfl⟩
  obtain rfl : p = 0 := by omega
  rw [Qtf];rfl
 clear hH hH1
 rintro m e w3 ⟨k, nx, rfl, hH, hs, hk1, hk2, hnx, hm⟩
 refine VR [1, 2, 3, 5, 6, 15] rfl rfl fun K hK => ?_;simp only [go_sem,↓reduceIte,reduceEqDiff]
 refine ⟨_, Qac (hH.at 4 rfl) rfl, ?_⟩
 simp only [go_sem,↓reduceIte,reduceEqDiff]
 (refine hK _ _ ?_;clear hK)
 refine Qab rfl rfl (fun h => ?_) (fun h => ?_)
 ·
  simp only [decide_eq_true_eq] at h
  refine Qaf ?_
  ((repeat refine Qai ?_);refine Qad ?_)
  obtain ⟨i1, hi1⟩ : ∃ i1 : Nat, d[k - 1]! = i1 := ⟨(d[k - 1]!).toNat, by have := hin (k - 1) (by omega);omega⟩
  obtain ⟨i2, hi2⟩ : ∃ i2 : Nat, d[k]! = i2 := ⟨(d[k]!).toNat, by have := hin k (by omega);omega⟩
  have hb1 := hin (k - 1) (by omega)
  have hb2 := hin k (by omega)
  have hne : i1 ≠ i2 := fun e => by have := hinj (k - 1) k (by omega) (by omega) (by rw [hi1, hi2, e]);omega
  have hrs : rsum rk by_ d.toList k = rsum rk by_ d.toList (k - 1) + if kEq rk by_ i1 i2 then 0 else 1 := by
   obtain ⟨j, rfl⟩ : ∃ j, k = j + 1 := ⟨k - 1, by omega⟩
   rw [Nat.add_sub_cancel] at *
   rw [rsum, Qdw, Qdw, hi1, hi2]
  have hkeq : kEq rk by_ i1 i2 = (decide (rk.getD i1 0 = rk.getD i2 0) && decide (rk.getD ((i1 + by_) % rk.length) 0 = rk.getD ((i2 + by_) % rk.length) 0)) := by
   simp only [kEq, keyA, keyB, Int.toNat_natCast]
   rfl
  (repeat refine Qai ?_);refine Qdp _ (Ext.refl _) [1, 2, 3, 5, 6, 7, 8] [(0, true), (1, true), (2, true), (3, true), (4, true), (5, true), (6, false), (7, true), (8, true), (9, true), (10, true), (11, true)] (by kernel_rfl) (by kernel_rfl) rfl (by simp only [Qay, List.filterMap_cons, List.filterMap_nil, List.getElem?_cons_succ, List.getElem?_cons_zero, Option.map_some];rfl) fun K hK => ?_;simp only [go_sem,↓reduceIte,reduceEqDiff]
  refine ⟨[.slice (some ⟨gr, 0, none⟩) rk.length cr, .int .i64 by_], ⟨rfl, Qa1 (hH.at 1 rfl)⟩, _, Qac (hH.at 5 rfl) rfl, I64.mk (by omega) (by omega), ?_⟩
  simp only [go_sem,↓reduceIte,reduceEqDiff]
  refine ⟨⟨by omega, by omega⟩, _, Qa0 (hH.at 2 rfl) (by omega), ?_⟩
  rw [hi1]
  refine Qag Tryz.call126 ?_;simp only [go_sem,↓reduceIte,reduceEqDiff];refine CallK.mk (Qmm rk ⟨gr, 0, none⟩ cr by_ i1 (by omega) hby (by omega) w3 (Qbo (hH.at 3 rfl))) ?_
  rintro v w4 ⟨hH2, rfl⟩
  have hH3 := hH.call0 hH2
  simp only [List.nil_append] at hH3
  clear hH
  refine ⟨hH2.ext, ?_⟩
  (refine hK _ _ ?_;clear hK)
  simp only [List.getElem_toArray, List.getElem_cons_zero, List.getElem_cons_succ]
  clear hH2
  (repeat refine Qai ?_);refine Qdp _ (Ext.refl _) [1, 2, 3, 5, 6, 7, 8, 9, 10] [(0, true), (1, true), (2, true), (3, true), (4, true), (5, false), (6, true), (7, true), (8, true), (9, true), (10, true)] (by kernel_rfl) (by kernel_rfl) rfl (by simp only [Qay, List.filterMap_cons, List.filterMap_nil, List.getElem?_cons_succ, List.getElem?_cons_zero, Option.map_some];rfl) fun K hK => ?_;simp only [go_sem,↓reduceIte,reduceEqDiff]
  refine ⟨[.slice (some ⟨gr, 0, none⟩) rk.length cr, .int .i64 by_], ⟨rfl, Qa1 (hH3.at 1 rfl)⟩, _, Qac (hH3.at 5 rfl) rfl, ?_⟩
  simp only [go_sem,↓reduceIte,reduceEqDiff]
  refine ⟨⟨by omega, by omega⟩, _, Qa0 (hH3.at 2 rfl) (by omega), ?_⟩
  rw [hi2]
  refine Qag Tryz.call126 ?_;simp only [go_sem,↓reduceIte,reduceEqDiff];refine CallK.mk (Qmm rk ⟨gr, 0, none⟩ cr by_ i2 (by omega) hby (by omega) w4 (Qbo (hH3.at 3 rfl))) ?_
  rintro v w5 ⟨hH4, rfl⟩
  have hH := hH3.call0 hH4
  simp only [List.nil_append] at hH
  clear hH3
  refine ⟨hH4.ext, ?_⟩
  (refine hK _ _ ?_;clear hK)
  simp only [List.getElem_toArray, List.getElem_cons_zero, List.getElem_cons_succ]
  clear hH4
  generalize rk.getD i1 0 = ka at *
  generalize rk.getD i2 0 = kb at *
  generalize rk.getD ((i1 + by_) % rk.length) 0 = kc at *
  generalize rk.getD ((i2 + by_) % rk.length) 0 = kd at *
  (repeat refine Qai ?_);refine Qa8 [1, 2, 3, 5, 6, 7, 8, 9, 10] 14 (by kernel_rfl) (by kernel_rfl) (by kernel_rfl) rfl fun K hK => ?_;simp only [go_sem,↓reduceIte,reduceEqDiff]
  refine ⟨_, Qac (hH.at 5 rfl) rfl, ?_⟩
  simp only [go_sem,↓reduceIte,reduceEqDiff]
  refine ⟨⟨by omega, by omega⟩, _, Qa0 (hH.at 2 rfl) (by omega), _, Qac (hH.at 5 rfl) rfl, I64.mk (by omega) (by omega), ?_⟩
  simp only [go_sem,↓reduceIte,reduceEqDiff]
  refine ⟨⟨by omega, by omega⟩, _, Qa0 (hH.at 2 rfl) (by omega), ?_⟩
  rw [hi1, hi2]
  simp only [go_sem,↓reduceIte,reduceEqDiff]
  refine ⟨⟨by omega, by omega⟩, _, Qa0 (hH.at 0 rfl) (by omega), ⟨by omega, by omega⟩, ?_⟩
  refine Qae ?_;simp only [go_sem,↓reduceIte,reduceEqDiff];refine Qa2 hH 0 (o := (i2)) rfl (by first | rfl | (simp;done) | (congr 1;omega)) (by first | omega | (simp;omega)) fun w6 hS1 => ?_;simp only [List.set_cons_zero] at hS1;(try simp only [go_sem,↓reduceIte,reduceEqDiff])
  have hr1 := hnx (k - 1) (by omega)
  rw [hi1, Int.toNat_natCast] at hr1
  have hr2 := Qv2 rk by_ d.toList (k - 1)
  have hs1 : (nx.setIfInBounds i2 nx[i1]!).size = d.size := by simp [hs]
  have hnx1 : ∀ p, p < k -> (nx.setIfInBounds i2 nx[i1]!)[(d[p]!).toNat]! = rsum rk by_ d.toList p := fun p hp2 => by
   rw [Qhl _ _ _ (by omega), if_neg, hnx p hp2]
   intro e
   have h1 := hin p (by omega)
   have := hinj p k (by omega) (by omega) (by omega)
   omega
  have hk0 : (nx.setIfInBounds i2 nx[i1]!)[i2]! = rsum rk by_ d.toList (k - 1) := by rw [Qhl _ _ _ (by omega), if_pos rfl, hr1]
  clear hnx hr1 hH hs
  generalize nx.setIfInBounds i2 nx[i1]! = nx1 at *
  (refine hK _ _ ?_;clear hK)
  refine VR [1, 2, 3, 5, 6, 58] rfl rfl fun K hK => ?_;simp only [go_sem,↓reduceIte,reduceEqDiff]
  suffices hall : ∀ bb : Bool, kEq rk by_ i1 i2 = !bb -> K [(1, ptr gn), (2, ptr gs), (3, ptr gb), (5, .slice (some ⟨gx, 0, none⟩) d.size d.size), (6, .int .i64 k), (58, .bool bb)] w6 by
   refine ⟨fun h => hall _ ?_, fun h => hall _ ?_⟩
   ·
    rw [hkeq];simp only [Decidable.not_not] at h;simp [h]
   ·
    rw [hkeq];simp [h]
  intro bb hbb
  rw [hbb] at hrs
  clear hbb hkeq
  (refine hK _ _ ?_;clear hK)
  refine Qab rfl rfl (fun h => ?_) (fun h => ?_)
  ·
   subst h
   simp only [Bool.not_true, Bool.false_eq_true, if_false] at hrs
   refine VR [1, 2, 3, 5, 6] rfl rfl fun K hK => ?_;simp only [go_sem,↓reduceIte,reduceEqDiff]
   refine ⟨_, Qac (hS1.at 5 rfl) rfl, ?_⟩
   simp only [go_sem,↓reduceIte,reduceEqDiff]
   refine ⟨⟨by omega, by omega⟩, _, Qa0 (hS1.at 2 rfl) (by omega), ?_⟩
   rw [hi2]
   simp only [go_sem,↓reduceIte,reduceEqDiff]
   refine ⟨⟨by omega, by omega⟩, _, Qa0 (hS1.at 0 rfl) (by omega), ?_⟩
   rw [hk0]
   simp only [go_sem,↓reduceIte,reduceEqDiff]
   refine ⟨I64.mk (by omega) (by omega), ⟨by omega, by omega⟩, ?_⟩
   refine Qae ?_;simp only [go_sem,↓reduceIte,reduceEqDiff];refine Qa2 hS1 0 (o := (i2)) rfl (by first | rfl | (simp;done) | (congr 1;omega)) (by first | omega | (simp;omega)) fun w6 hS2 => ?_;simp only [List.set_cons_zero] at hS2;(try simp only [go_sem,↓reduceIte,reduceEqDiff])
   (refine hK _ _ ?_;clear hK)
   refine Qav ?_
   refine VR [1, 2, 3, 5, 6] rfl rfl fun K hK => ?_;simp only [go_sem,↓reduceIte,reduceEqDiff]
   ((repeat refine And.intro (by omega) ?_);refine hK _ _ ?_;clear hK)
   refine Qah ?_
   simp only [go_sem,↓reduceIte,reduceEqDiff]
   refine ⟨d.size - (k + 1), by omega, k + 1, _, rfl, hS2, by simp [hs1], by omega, by omega, fun p hp2 => ?_, rfl⟩
   rw [Qhl _ _ _ (by omega)]
   by_cases hpk : p = k
   ·
    subst hpk
    rw [hi2, Int.toNat_natCast, if_pos rfl, hrs]
    omega
   ·
    rw [if_neg, hnx1 p (by omega)]
    intro e
    have h1 := hin p (by omega)
    have := hinj p k (by omega) (by omega) (by omega)
    omega
  ·
   subst h
   simp only [Bool.not_false, if_true, Nat.add_zero] at hrs
   refine Qaf ?_
   refine Qav ?_
   refine VR [1, 2, 3, 5, 6] rfl rfl fun K hK => ?_;simp only [go_sem,↓reduceIte,reduceEqDiff]
   ((repeat refine And.intro (by omega) ?_);refine hK _ _ ?_;clear hK)
   refine Qah ?_
   simp only [go_sem,↓reduceIte,reduceEqDiff]
   refine ⟨d.size - (k + 1), by omega, k + 1, nx1, rfl, hS1, hs1, by omega, by omega, fun p hp2 => ?_, rfl⟩
   by_cases hpk : p = k
   ·
    subst hpk
    rw [hi2, Int.toNat_natCast, hk0, hrs]
   ·
    exact hnx1 p (by omega)
 ·
  simp only [decide_eq_false_iff_not] at h
  obtain rfl : k = d.size := by omega
  refine Qap rfl ?_
  refine VR [4] rfl rfl fun K hK => ?_;simp only [go_sem,↓reduceIte,reduceEqDiff]
  (refine hK _ _ ?_;clear hK)
  refine Qan (Qax rfl rfl ?_)
  refine ⟨gx, nx, hs, hnx, ?_, by rw [sl, hs]⟩
  have h5 : Heap w0 B w3 (arr gx d.size nx :: arr go co d :: Qom gr cr rk :: Res.blk gn 3 [.int .i64 d.size] :: Res.blk gs 36 [sl go co d] :: G) := hH.sub (by simp)
  rw [arr, hs] at h5
  rw [Qom, show nx.toList.length = d.size by simpa using hs]
  exact h5
abbrev zarr (g n : Nat) : Res := arr g n (Array.replicate n 0)
abbrev zsl (g n : Nat) : Value := .slice (some ⟨g, 0, none⟩) n n
theorem QB3 {P : Program} {N : Nat} {ops : List Oper} {w0 : World} {e : Env} {w : World} {K : Env -> World -> Prop} : vcH P N ops w0 [] e w K = K e w := rfl
set_option maxHeartbeats 4000000 in
theorem Qy7 (l : List UInt8) (hl : l.length <= 100000000) (w : World) : Does Tryz.prog 72 #[Str l] w
  fun v w' => ∃ (go : Nat) (σ : List Nat), Ordered l σ /\ Heap w [] w' [Res.row 3 1 (some ⟨go, 0, none⟩) l.length l.length (Qbm (σ.map fun i : Nat => (i : Int)))] /\ v = .slice (some ⟨go, 0, none⟩) l.length l.length := by
 refine Qak (args := [Str l]) 57 Tryz.func72 rfl rfl (of_decide_eq_true rfl) ?_
 simp only [Env.ofArgs]
 generalize hn : l.length = n at *
 refine VR [0] rfl rfl fun K hK => ?_;simp only [go_sem,↓reduceIte,reduceEqDiff]
 (refine hK _ _ ?_;clear hK)
 refine VR [0, 3] rfl rfl fun K hK => ?_;simp only [go_sem,↓reduceIte,reduceEqDiff]
 refine Qat (.int .i64 0) (by kernel_rfl) ?_
 simp only [go_sem,↓reduceIte,reduceEqDiff]
 have hH0 := (Heap.start w).box 3 [.int .i64 0]
 generalize w.alloc (Obj.cells [Value.int .i64 0].toArray 3) = w1 at *
 generalize w.heap.size = gn at *
 rw [hn]
 refine Qae ?_;simp only [go_sem,↓reduceIte,reduceEqDiff];refine Qal hH0 0 (vs := [.int .i64 n]) rfl rfl (by kernel_rfl) (by first | decide | (simp;done) | (simp;omega)) (by simp [Value.oneCell']) fun w6 hH => ?_;(try simp only [go_sem,↓reduceIte,reduceEqDiff])
 (refine hK _ _ ?_;clear hK)
 clear hH0
 generalize w6 = w1 at *
 (repeat refine Qai ?_);refine Qhb w1 (Ext.refl _) [0, 3, 4, 5] (.three [(0, true), (2, true)] 1 3 4 (.two [] 3 4 (.seq [(4, false), (5, false), (6, true)]) (.two [] 3 5 (.seq [(5, false), (6, true)]) (.seq [(3, false), (6, true)]))) (.two [] 1 4 (.seq [(4, false), (5, false), (6, true)]) (.seq [(1, false), (5, false), (6, true)])) (.two [] 1 3 (.two [] 3 5 (.seq [(5, false), (6, true)]) (.seq [(3, false), (6, true)])) (.seq [(1, false), (5, false), (6, true)]))) (by kernel_rfl) (by kernel_rfl) rfl fun K hK => ?_
 suffices out : ∀ go gf gs w2, Heap w1 [] w2 [zarr go n, zarr gf n, Res.blk gs 36 [zsl go n]] -> K [(0, Str l), (3, ptr gn), (4, ptr gs), (5, zsl gf n)] w2 by
  simp only [vcT3, Qay, List.filterMap_cons, List.filterMap_nil, List.getElem?_cons_succ, List.getElem?_cons_zero, Option.map_some];simp only [go_sem,↓reduceIte,reduceEqDiff]
  refine ⟨_, Qac (hH.at 0 rfl) rfl, _, Qac (hH.at 0 rfl) rfl, ?_⟩
  have hX := Heap.start w1
  repeat' (first
   | (refine Qbw Tryz.underlying36 zi3 ?_;simp only [go_sem,↓reduceIte,reduceEqDiff];refine ⟨n, n, ⟨rfl, rfl, by omega, by omega, by omega⟩, ?_⟩;have hX := QB2 hX n (by omega);skip;refine ⟨hX.ext, ?_⟩;skip)
   | (refine Qat (.slice none 0 0) (by kernel_rfl) ?_;simp only [go_sem,↓reduceIte,reduceEqDiff];have hX := hX.box 36 [.slice none 0 0];skip;refine ⟨hX.ext, ?_⟩;skip)
   | (refine Qae ?_;simp only [go_sem,↓reduceIte,reduceEqDiff];first
     | (refine Qal hX 0 (vs := [_]) rfl rfl (by kernel_rfl) (by first | decide | (simp;done)) (by simp [Value.oneCell']) fun w6 hX => ?_;simp only [List.set_cons_zero, List.set_cons_succ] at hX;skip;refine ⟨hX.ext, ?_⟩;skip)
     | (refine Qal hX 1 (vs := [_]) rfl rfl (by kernel_rfl) (by first | decide | (simp;done)) (by simp [Value.oneCell']) fun w6 hX => ?_;simp only [List.set_cons_zero, List.set_cons_succ] at hX;skip;refine ⟨hX.ext, ?_⟩;skip)
     | (refine Qal hX 2 (vs := [_]) rfl rfl (by kernel_rfl) (by first | decide | (simp;done)) (by simp [Value.oneCell']) fun w6 hX => ?_;simp only [List.set_cons_zero, List.set_cons_succ] at hX;skip;refine ⟨hX.ext, ?_⟩;skip))
   | (simp only [QB3];skip)
   | refine And.intro ?_ ?_)
  all_goals first
   | exact out _ _ _ _ hX
   | exact out _ _ _ _ (hX.front 1 rfl)
   | exact out _ _ _ _ (hX.front 2 rfl)
   | exact out _ _ _ _ ((hX.front 1 rfl).front 2 rfl)
   | exact out _ _ _ _ ((hX.front 2 rfl).front 2 rfl)
   | exact out _ _ _ _ ((hX.front 2 rfl).front 1 rfl)
 intro go gf gs w2 hX
 have hH2 := hH.call0 hX
 simp only [List.set_cons_zero, List.cons_append, List.nil_append] at hH2
 have hG : Heap w [] w2 [zarr go n, zarr gf n, Res.blk gs 36 [zsl go n], Res.blk gn 3 [.int .i64 n]] := hH2
 clear hX hH hH2
 (refine hK _ _ ?_;clear hK)
 refine VR [0, 3, 4, 5, 16, 17] rfl rfl fun K hK => ?_;simp only [go_sem,↓reduceIte,reduceEqDiff]
 refine ⟨_, Qac (hG.at 3 rfl) rfl, ?_⟩
 (refine hK _ _ ?_;clear hK)
 refine Qad ?_
 refine Qam [0, 3, 4, 5, 16, 17] (fun m e w' => ∃ (i : Nat) (D F : Array Int), Is e [(0, Str l), (3, ptr gn), (4, ptr gs), (5, zsl gf n), (16, .int .i64 n), (17, .int .i64 i)] /\ Heap w [] w' [arr go n D, arr gf n F, Res.blk gs 36 [zsl go n], Res.blk gn 3 [.int .i64 n]] /\ D.size = n /\ F.size = n /\ i <= n /\ (∀ p, p < i -> D[p]! = p /\ F[p]! = (l.getD p 0).toNat) /\ m = n - i) n ?_ ?_
 ·
  simp only [go_sem,↓reduceIte,reduceEqDiff]
  exact ⟨0, _, _, rfl, hG, by simp, by simp, by omega, fun p hp => by omega, rfl⟩
 clear hG
 rintro m e w3 ⟨i, D, F, rfl, hH, hD, hF, hi, hDF, hm⟩
 refine VR [0, 3, 4, 5, 16, 17, 18] rfl rfl fun K hK => ?_;simp only [go_sem,↓reduceIte,reduceEqDiff]
 (refine hK _ _ ?_;clear hK)
 (repeat refine Qai ?_)
 refine Qab rfl rfl (fun h => ?_) (fun h => ?_)
 ·
  simp only [decide_eq_true_eq] at h
  refine Qaf ?_
  ((repeat refine Qai ?_);refine Qad ?_)
  refine VR [0, 3, 4, 5, 6, 16, 17] rfl rfl fun K hK => ?_;simp only [go_sem,↓reduceIte,reduceEqDiff]
  (refine hK _ _ ?_;clear hK)
  (repeat refine Qai ?_);refine Qbz [0, 3, 4, 5, 16, 17] [(1, 0), (2, 0), (3, 0), (4, 0), (5, 0), (6, 0), (7, 0), (8, 0), (0, 1), (9, 0), (10, 2), (11, 0), (12, 2)] (by kernel_rfl) (by kernel_rfl) (by kernel_rfl) (by simp only [Qay, List.map_cons, List.map_nil, beq_self_eq_true, Nat.reduceBEq, List.filterMap_cons, List.filterMap_nil, List.getElem?_cons_succ, List.getElem?_cons_zero, Option.map_some];rfl) fun K hK => ?_;simp only [go_sem,↓reduceIte,reduceEqDiff]
  rw [hn]
  have hb := (l.getD i 0).toNat_lt
  refine ⟨⟨by omega, by omega⟩, I64.mk (by omega) (by omega), _, Qac (hH.at 2 rfl) rfl, ?_⟩
  simp only [go_sem,↓reduceIte,reduceEqDiff]
  refine And.intro (by omega) ?_
  refine Qae ?_;simp only [go_sem,↓reduceIte,reduceEqDiff];refine Qa2 hH 0 (o := (i)) rfl (by first | rfl | (simp;done) | (congr 1;omega)) (by first | omega | (simp;omega)) fun w6 hS1 => ?_;simp only [List.set_cons_zero] at hS1;(try simp only [go_sem,↓reduceIte,reduceEqDiff])
  refine And.intro (by omega) ?_
  refine Qae ?_
  simp only [go_sem,↓reduceIte,reduceEqDiff]
  refine Qa2 hS1 1 (o := i) rfl rfl (by omega) fun w7 hS2 => ?_
  simp only [List.set_cons_succ, List.set_cons_zero] at hS2
  (refine hK _ _ ?_;clear hK)
  refine Qav ?_
  refine VR [0, 3, 4, 5, 16, 17] rfl rfl fun K hK => ?_;simp only [go_sem,↓reduceIte,reduceEqDiff]
  ((repeat refine And.intro (by omega) ?_);refine hK _ _ ?_;clear hK)
  refine Qah ?_
  simp only [go_sem,↓reduceIte,reduceEqDiff]
  refine ⟨n - (i + 1), by omega, i + 1, _, _, rfl, hS2, by simp [hD], by simp [hF], by omega, fun p hp => ?_, rfl⟩
  rw [Qhl _ _ _ (by omega), Qhl _ _ _ (by omega)]
  by_cases hpi : p = i
  ·
   subst hpi;simp
  ·
   rw [if_neg hpi, if_neg hpi];exact hDF p (by omega)
 ·
  simp only [decide_eq_false_iff_not] at h
  obtain rfl : i = n := by omega
  refine Qap rfl ?_
  have hDl : D.toList = Qev i := by
   apply List.ext_getElem
   ·
    simp [Qev, hD]
   ·
    intro p h1 h2
    have h3 := (hDF p (by simpa [hD] using h1)).1
    rw [Qe7 (by simpa using h1)] at h3
    rw [h3];simp [Qev]
  have hFl : ∀ p, p < i -> F.toList.getD p 0 = (l.getD p 0).toNat := fun p hp => by rw [Qdw];exact (hDF p hp).2
  have hFn : F.toList.length = l.length := by rw [hn];simpa using hF
  clear hDF
  refine VR [3, 4, 5, 33] rfl rfl fun K hK => ?_;simp only [go_sem,↓reduceIte,reduceEqDiff]
  refine ⟨_, Qac (hH.at 3 rfl) rfl, ?_⟩
  simp only [go_sem,↓reduceIte,reduceEqDiff]
  (refine hK _ _ ?_;clear hK)
  refine Qab rfl rfl (fun h => ?_) (fun h => ?_)
  ·
   simp only [decide_eq_true_eq] at h
   obtain rfl : i = 0 := by omega
   obtain rfl : l = [] := List.eq_nil_of_length_eq_zero hn
   refine VR [2] rfl rfl fun K hK => ?_;simp only [go_sem,↓reduceIte,reduceEqDiff]
   refine ⟨_, Qac (hH.at 2 rfl) rfl, ?_⟩
   (refine hK _ _ ?_;clear hK)
   refine Qan (Qax rfl rfl ?_)
   refine ⟨go, [], ⟨by simp, .nil⟩, ?_, rfl⟩
   have h5 : Heap w [] w3 [arr go 0 D] := hH.sub (by simp)
   rw [arr, hD, hDl] at h5
   exact h5
  simp only [decide_eq_false_iff_not] at h
  have hn0 : 0 < i := by omega
  generalize i = n at *
  refine Qaf ?_
  refine VR [3, 4, 5, 7] rfl rfl fun K hK => ?_;simp only [go_sem,↓reduceIte,reduceEqDiff]
  (refine hK _ _ ?_;clear hK)
  have hrk0 : Ranks l F.toList 1 := by
   refine ⟨hFn, fun p q hp hq => ?_⟩
   rw [hFl p (by omega), hFl q (by omega)]
   have h1 : ∀ r, r < l.length -> pre l 1 r = [l.getD r 0] := fun r hr => by simp [pre, List.range_succ, Nat.mod_eq_of_lt hr]
   rw [h1 p hp, h1 q hq]
   simp only [leB]
   by_cases e : l.getD p 0 = l.getD q 0
   ·
    rw [if_pos e, e];simp
   ·
    rw [if_neg e, decide_eq_true_eq]
    have : (l.getD p 0).toNat ≠ (l.getD q 0).toNat := fun h' => e (UInt8.toNat_inj.1 h')
    omega
  have hok0 : Qkc F.toList := by
   intro r hr
   obtain ⟨p, hp, rfl⟩ := List.getElem_of_mem hr
   have h1 := hFl p (by rw [hFn, hn] at hp;exact hp)
   rw [List.getD_eq_getElem?_getD, List.getElem?_eq_getElem hp, Option.getD_some] at h1
   have := (l.getD p 0).toNat_lt
   omega
  refine VR [3, 4, 7, 8] rfl rfl fun K hK => ?_;simp only [go_sem,↓reduceIte,reduceEqDiff]
  refine Qat (.agg #[.slice none 0 0, .int .i64 0]) (by kernel_rfl) ?_
  simp only [go_sem,↓reduceIte,reduceEqDiff]
  have hH1 := hH.box 166 [.slice none 0 0, .int .i64 0]
  generalize w3.alloc (Obj.cells [Value.slice none 0 0, .int .i64 0].toArray 166) = w4 at *
  generalize w3.heap.size = gr at *
  refine Qae ?_;simp only [go_sem,↓reduceIte,reduceEqDiff];refine Qal hH1 0 (vs := [.slice (some ⟨gf, 0, none⟩) n n, .int .i64 0]) rfl rfl (by kernel_rfl) (by first | decide | (simp;done) | (simp;omega)) (by simp [Value.oneCell']) fun w6 hH2 => ?_;(try simp only [go_sem,↓reduceIte,reduceEqDiff])
  have hH3 : Heap w [] w6 (arr go n D :: Qom gf n F.toList :: Res.blk gn 3 [.int .i64 n] :: Res.blk gs 36 [zsl go n] :: [Res.blk gr 166 [.slice (some ⟨gf, 0, none⟩) F.toList.length n, .int .i64 (0 : Nat)]]) := by
   rw [show F.toList.length = n by rw [hFn, hn]]
   have h7 := (((hH2.front 3 rfl).front 4 rfl).front 4 rfl).front 4 rfl
   rw [Qom, show F.toList.length = n by rw [hFn, hn]]
   simp only [arr, hF, List.eraseIdx_cons_succ, List.eraseIdx_cons_zero] at h7
   simp only [arr]
   exact h7
  clear hH hH1 hH2
  (refine hK _ _ ?_;clear hK)
  refine VR [3, 4, 7, 8, 9] rfl rfl fun K hK => ?_;simp only [go_sem,↓reduceIte,reduceEqDiff]
  (refine hK _ _ ?_;clear hK)
  refine Qad ?_
  refine Qam [3, 4, 7, 8, 9] (fun m e w' => ∃ (b by_ gk ck : Nat) (rk : List Int) (D : Array Int), Is e [(3, ptr gn), (4, ptr gs), (7, .func (.func 125) #[] #[ptr gn, ptr gs]), (8, ptr gr), (9, .int .i64 b)] /\ Heap w [] w' (arr go n D :: Qom gk ck rk :: Res.blk gn 3 [.int .i64 n] :: Res.blk gs 36 [zsl go n] :: [Res.blk gr 166 [.slice (some ⟨gk, 0, none⟩) rk.length ck, .int .i64 by_]]) /\ D.size = n /\ D.toList.Perm (Qev n) /\ LeK l rk by_ b /\ Qkc rk /\ rk.length = n /\ 1 <= b /\ b <= 2 * n /\ by_ <= b /\ m = 2 * n - b) (2 * n - 1) ?_ ?_
  ·
   simp only [go_sem,↓reduceIte,reduceEqDiff]
   exact ⟨1, 0, gf, n, F.toList, D, rfl, hH3, hD, by rw [hDl], LeK.first hrk0, hok0, by rw [hFn, hn], by omega, by omega, by omega, rfl⟩
  clear hH3 hrk0 hok0 hFl hFn hDl hD hF
  rintro m e w4 ⟨b, by_, gk, ck, rk, D1, rfl, hH, hD1, hp1, hk1, hok1, hrl1, hb1, hb2, hby, hm⟩
  ((repeat refine Qai ?_);refine Qad ?_)
  have hQ1 : AllQ (inR rk) D1 := fun k hk => by
   have h1 := Qv4 hp1 (p := k) (by simpa using hk)
   rw [Qdw] at h1
   exact ⟨h1.1, by rw [hrl1];exact h1.2⟩
  refine VR [3, 4, 7, 8, 9] rfl rfl fun K hK => ?_;simp only [go_sem,↓reduceIte,reduceEqDiff]
  refine ⟨_, Qac (hH.at 3 rfl) rfl, [.slice (some ⟨gk, 0, none⟩) rk.length ck, .int .i64 by_], ⟨rfl, Qa1 (hH.at 4 rfl)⟩, ?_⟩
  have hc := Qkb (Qw9 rk hok1 gk ck by_ (by omega) (by omega)) (Qxa rk by_) go n D1 (by omega) hQ1 w w4 [] _ hH
  rw [sl, hD1] at hc
  refine Qag Tryz.call127 ?_;simp only [go_sem,↓reduceIte,reduceEqDiff];refine CallK.mk hc ?_
  clear hc hH
  rintro v w5 ⟨D2, hsrt, hD2, hQ2, hH, rfl⟩
  have hp2 := hsrt.1.trans hp1
  have hrow := QE0 hsrt.2
  (refine hK _ _ ?_;clear hK)
  refine VR [3, 4, 7, 8, 9] rfl rfl fun K hK => ?_;simp only [go_sem,↓reduceIte,reduceEqDiff]
  refine ⟨[.slice (some ⟨gk, 0, none⟩) rk.length ck, .int .i64 by_], ⟨rfl, Qa1 (hH.at 4 rfl)⟩, ?_⟩
  have hc := Qy6 rk gk ck by_ go n gn gs D2 hok1 (by omega) (by omega) (by omega) (by omega) (by rw [hD2];exact hp2) w w5 [] _ (by rw [sl, hD2];exact hH)
  rw [hD2] at hc
  refine Qbf ?_
  simp only [go_sem,↓reduceIte,reduceEqDiff]
  refine FnK.mk Tryz.call125 hc ?_
  clear hc hH
  rintro v w6 ⟨gx, nx, hnx, hrs, hH, rfl⟩
  have hrk2 : Ranks l nx.toList b := Qy5 hk1 (by rw [hn];exact hp2) hrow (by rw [hn];simpa using hnx) fun p hp => by
   rw [Qdw, Qdw];exact hrs p (by omega)
  have hok2 : Qkc nx.toList := Qv5 (s := l) (rk := rk) (by_ := by_) (L := D2.toList) (by rw [hn];exact hp2) (by rw [hn];simpa using hnx) (by omega) fun p hp => by
   rw [Qdw, Qdw];exact hrs p (by omega)
  have hnl : nx.toList.length = n := by simpa using hnx
  simp only [sl, hnx, hD2] at hH ⊢
  simp only [go_sem,↓reduceIte,reduceEqDiff]
  refine Qae ?_;simp only [go_sem,↓reduceIte,reduceEqDiff];refine Qal hH 5 (vs := [.slice (some ⟨gx, 0, none⟩) n n, .int .i64 b]) rfl rfl (by kernel_rfl) (by first | decide | (simp;done) | (simp;omega)) (by simp [Value.oneCell']) fun w6 hH2 => ?_;(try simp only [go_sem,↓reduceIte,reduceEqDiff])
  simp only [List.set_cons_succ, List.set_cons_zero] at hH2
  have hH3 : Heap w [] w6 (arr go n D2 :: Qom gx n nx.toList :: Res.blk gn 3 [.int .i64 n] :: Res.blk gs 36 [zsl go n] :: [Res.blk gr 166 [.slice (some ⟨gx, 0, none⟩) nx.toList.length n, .int .i64 b]]) := by
   rw [show nx.toList.length = n from hnl]
   exact (hH2.front 1 rfl).sub (by simp)
  clear hH hH2
  (refine hK _ _ ?_;clear hK)
  have hk2 : LeK l nx.toList b (b + b) := LeK.double hrk2
  refine VR [3, 4, 7, 8, 9, 51] rfl rfl fun K hK => ?_;simp only [go_sem,↓reduceIte,reduceEqDiff]
  refine ⟨_, Qac (hH3.at 2 rfl) rfl, ?_⟩
  simp only [go_sem,↓reduceIte,reduceEqDiff]
  (refine hK _ _ ?_;clear hK)
  refine Qab rfl rfl (fun h => ?_) (fun h => ?_)
  ·
   simp only [decide_eq_true_eq] at h
   have hQ3 : AllQ (inR nx.toList) D2 := fun k hk => by
    have h1 := Qv4 hp2 (p := k) (by simpa using hk)
    rw [Qdw] at h1
    exact ⟨h1.1, by rw [hnl];exact h1.2⟩
   refine VR [4] rfl rfl fun K hK => ?_;simp only [go_sem,↓reduceIte,reduceEqDiff]
   refine ⟨_, Qac (hH3.at 3 rfl) rfl, [.slice (some ⟨gx, 0, none⟩) nx.toList.length n, .int .i64 b], ⟨rfl, Qa1 (hH3.at 4 rfl)⟩, ?_⟩
   have hc := Qkb (Qw9 nx.toList hok2 gx n b (by omega) (by omega)) (Qxa nx.toList b) go n D2 (by omega) hQ3 w w6 [] _ hH3
   rw [sl, hD2] at hc
   refine Qag Tryz.call127 ?_;simp only [go_sem,↓reduceIte,reduceEqDiff];refine CallK.mk hc ?_
   clear hc hH3
   rintro v w7 ⟨D3, hsrt3, hD3, hQ3', hH, rfl⟩
   have hp3 := hsrt3.1.trans hp2
   (refine hK _ _ ?_;clear hK)
   refine VR [2] rfl rfl fun K hK => ?_;simp only [go_sem,↓reduceIte,reduceEqDiff]
   refine ⟨_, Qac (hH.at 3 rfl) rfl, ?_⟩
   (refine hK _ _ ?_;clear hK)
   refine Qan (Qax rfl rfl ?_)
   have ho := Qv6 hk2 (by omega) (by rw [hn];exact hp3) hsrt3.2
   refine ⟨go, D3.toList.map Int.toNat, ho, ?_, rfl⟩
   have e : (D3.toList.map Int.toNat).map (fun i : Nat => (i : Int)) = D3.toList := by
    rw [List.map_map]
    conv => rhs;rw [<- List.map_id D3.toList]
    apply List.map_congr_left
    intro x hx
    have := hp3.mem_iff.1 hx
    simp only [Qev, List.mem_map, List.mem_range] at this
    obtain ⟨i, _, rfl⟩ := this
    simp
   rw [e]
   have h5 : Heap w [] w7 [arr go n D3] := hH.sub (by simp)
   rw [arr, show D3.size = n by omega] at h5
   exact h5
  simp only [decide_eq_false_iff_not] at h
  refine Qaf ?_
  refine Qav ?_
  refine VR [3, 4, 7, 8, 9] rfl rfl fun K hK => ?_;simp only [go_sem,↓reduceIte,reduceEqDiff]
  ((repeat refine And.intro (by omega) ?_);refine hK _ _ ?_;clear hK)
  refine Qah ?_
  simp only [go_sem,↓reduceIte,reduceEqDiff]
  refine ⟨2 * n - (b + b), by omega, b + b, b, gx, n, nx.toList, D2, by rw [show ((b : Int) * 2) = ((b + b : Nat) : Int) by omega];rfl, hH3, by omega, hp2, hk2, hok2, hnl, by omega, by omega, by omega, rfl⟩
def QB4 (l : List UInt8) (v : Value) : Prop :=
 if l = [] then v = .tuple #[Str [], .int .i64 0, .int .i64 2]
 else if 262144 < l.length then v = .tuple #[Str [], .int .i64 0, .int .i64 3]
 else ∃ σ, Ordered l σ /\ v = .tuple #[Str (Qbt l σ), .int .i64 (σ.idxOf 0 : Nat), .int .i64 0]
theorem Qtg (l : List UInt8) (hl : l.length <= 1000000000000) (w : World) : Does Tryz.prog 30 #[Str l] w fun v w' => Heap w [] w' [] /\ QB4 l v := by
 refine Qak (args := [Str l]) 41 Tryz.func30 rfl rfl (of_decide_eq_true rfl) ?_
 simp only [Env.ofArgs]
 refine VR [0] rfl rfl fun K hK => ?_;simp only [go_sem,↓reduceIte,reduceEqDiff]
 (refine hK _ _ ?_;clear hK)
 refine VR [0, 10] rfl rfl fun K hK => ?_;simp only [go_sem,↓reduceIte,reduceEqDiff]
 (refine hK _ _ ?_;clear hK)
 refine Qab rfl rfl (fun h => ?_) (fun h => ?_)
 ·
  simp only [decide_eq_true_eq] at h
  refine VR [2, 3, 4] rfl rfl fun K hK => ?_;simp only [go_sem,↓reduceIte,reduceEqDiff]
  (refine hK _ _ ?_;clear hK)
  exact Qan (Qdy rfl rfl rfl rfl ⟨Heap.start w, by rw [QB4, if_pos h]⟩)
 simp only [decide_eq_false_iff_not] at h
 have hne := h
 refine Qaf ?_
 refine VR [0, 13] rfl rfl fun K hK => ?_;simp only [go_sem,↓reduceIte,reduceEqDiff]
 (refine hK _ _ ?_;clear hK)
 refine Qab rfl rfl (fun h => ?_) (fun h => ?_)
 ·
  simp only [decide_eq_true_eq] at h
  refine VR [2, 3, 4] rfl rfl fun K hK => ?_;simp only [go_sem,↓reduceIte,reduceEqDiff]
  (refine hK _ _ ?_;clear hK)
  exact Qan (Qdy rfl rfl rfl rfl ⟨Heap.start w, by rw [QB4, if_neg hne, if_pos (by omega)]⟩)
 simp only [decide_eq_false_iff_not] at h
 have hle : l.length <= 262144 := by omega
 have hn0 : 0 < l.length := List.length_pos_iff.2 hne
 clear h
 generalize hn : l.length = n at *
 refine Qaf ?_
 refine VR [0, 5, 6] rfl rfl fun K hK => ?_;simp only [go_sem,↓reduceIte,reduceEqDiff]
 rw [hn]
 refine Qbw Tryz.underlying43 zi5 ?_
 simp only [go_sem,↓reduceIte,reduceEqDiff]
 refine ⟨n, n, ⟨rfl, rfl, by omega, by omega, by omega⟩, ?_⟩
 have hH0 := (Heap.start w).row 5 (n := n) (cap := n) (sz := 1) (List.replicate n (.int .u8 0)) [] (by simp) (by simp) (by omega) (by omega)
 rw [List.append_nil, show List.replicate n (Value.int .u8 0) = Qao (List.replicate n 0) by simp [Qao]] at hH0
 rw [show List.replicate n (Value.int .u8 0) = Qao (List.replicate n 0) by simp [Qao]]
 generalize w.alloc (Obj.cells (Qao (List.replicate n 0)).toArray 5) = w1 at *
 generalize w.heap.size = gb at *
 (refine hK _ _ ?_;clear hK)
 refine VR [0, 5, 6, 18, 19, 20] rfl rfl fun K hK => ?_;simp only [go_sem,↓reduceIte,reduceEqDiff]
 have hc := Qy7 l (by omega) w1
 rw [hn] at hc
 refine Qag Tryz.call72 ?_;simp only [go_sem,↓reduceIte,reduceEqDiff];refine CallK.mk hc ?_
 clear hc
 rintro v w2 ⟨go, σ, hσ, hX, rfl⟩
 have hH1 := hH0.call0 hX
 simp only [List.cons_append, List.nil_append] at hH1
 have hσl : σ.length = n := by rw [hσ.perm.length_eq, List.length_range, hn]
 have hσb : ∀ p, p < n -> σ.getD p 0 < n := fun p hp => by
  have h1 : σ.getD p 0 ∈ σ := Qbs 0 (by omega)
  have := hσ.perm.mem_iff.1 h1
  rw [List.mem_range, hn] at this
  exact this
 have hnd : σ.Nodup := by rw [hσ.perm.nodup_iff];exact List.nodup_range
 have h0σ : 0 ∈ σ := hσ.perm.mem_iff.2 (by rw [List.mem_range];omega)
 have hcl : (Qbt l σ).length = n := by simp [Qbt, hσl]
 have hcg : ∀ p, p < n -> (Qbt l σ).getD p 0 = l.getD (ahead n (σ.getD p 0)) 0 := fun p hp => by
  simp only [Qbt, List.getD_eq_getElem?_getD, List.getElem?_map, hn]
  rw [List.getElem?_eq_getElem (by omega)]
  simp
 simp only [go_sem,↓reduceIte,reduceEqDiff]
 (refine hK _ _ ?_;clear hK)
 refine Qad ?_
 refine Qam [0, 5, 6, 18, 19, 20] (fun m e w' => ∃ (k r : Nat) (o : List UInt8), Is e [(0, Str l), (5, .slice (some ⟨gb, 0, none⟩) n n), (6, .int .i64 r), (18, .slice (some ⟨go, 0, none⟩) n n), (19, .int .i64 n), (20, .int .i64 k)] /\ Heap w [] w' [Res.row 3 1 (some ⟨go, 0, none⟩) n n (Qbm (σ.map fun i : Nat => (i : Int))), Res.row 5 1 (some ⟨gb, 0, none⟩) n n (Qao o)] /\ o.length = n /\ k <= n /\ o.take k = (Qbt l σ).take k /\ (0 ∈ σ.take k -> r = σ.idxOf 0) /\ m = n - k) n ?_ ?_
 ·
  simp only [go_sem,↓reduceIte,reduceEqDiff]
  exact ⟨0, 0, _, rfl, hH1, by simp, by omega, by simp, by simp, rfl⟩
 clear hH0 hX hH1
 rintro m e w3 ⟨k, r, o, rfl, hH, hol, hk, ho, hr, hm⟩
 refine VR [0, 5, 6, 18, 19, 20, 21] rfl rfl fun K hK => ?_;simp only [go_sem,↓reduceIte,reduceEqDiff]
 (refine hK _ _ ?_;clear hK)
 (repeat refine Qai ?_)
 refine Qab rfl rfl (fun h => ?_) (fun h => ?_)
 ·
  simp only [decide_eq_true_eq] at h
  have hkn : k < n := by omega
  have hsk := hσb k hkn
  have hgk : (σ.map fun i : Nat => (i : Int)).getD k 0 = ((σ.getD k 0 : Nat) : Int) := by
   simp only [List.getD_eq_getElem?_getD, List.getElem?_map]
   rw [List.getElem?_eq_getElem (by omega)];simp
  refine Qaf ?_
  ((repeat refine Qai ?_);refine Qad ?_)
  refine VR [0, 5, 6, 7, 8, 18, 19, 20] rfl rfl fun K hK => ?_;simp only [go_sem,↓reduceIte,reduceEqDiff]
  refine And.intro ⟨by omega, by omega⟩ ⟨_, Qaa (hH.at 0 rfl) (Qaj (by simp;omega)), ?_⟩
  rw [hgk]
  (refine hK _ _ ?_;clear hK)
  refine VR [0, 5, 6, 7, 8, 18, 19, 20, 26] rfl rfl fun K hK => ?_;simp only [go_sem,↓reduceIte,reduceEqDiff]
  (refine hK _ _ ?_;clear hK)
  have htk : σ.take (k + 1) = σ.take k ++ [σ.getD k 0] := by
   rw [List.take_add_one, List.getElem?_eq_getElem (by omega), List.getD_eq_getElem?_getD, List.getElem?_eq_getElem (by omega)];rfl
  refine Qdf [0, 5, 6, 7, 8, 18, 19, 20] (fun e w' => ∃ (r' : Nat), Is e [(0, Str l), (5, .slice (some ⟨gb, 0, none⟩) n n), (6, .int .i64 r'), (7, .int .i64 k), (8, .int .i64 (ahead n (σ.getD k 0) + 1 : Nat)), (18, .slice (some ⟨go, 0, none⟩) n n), (19, .int .i64 n), (20, .int .i64 k)] /\ Is w' w3 /\ (0 ∈ σ.take (k + 1) -> r' = σ.idxOf 0)) ?_ ?_
  ·
   refine Qab rfl rfl (fun h => ?_) (fun h => ?_)
   ·
    simp only [decide_eq_true_eq] at h
    have hz : σ.getD k 0 = 0 := by omega
    refine VR [0, 5, 6, 7, 18, 19, 20] rfl rfl fun K hK => ?_;simp only [go_sem,↓reduceIte,reduceEqDiff]
    (refine hK _ _ ?_;clear hK)
    refine VR [0, 5, 6, 7, 8, 18, 19, 20] rfl rfl fun K hK => ?_;simp only [go_sem,↓reduceIte,reduceEqDiff]
    rw [hn]
    (refine hK _ _ ?_;clear hK)
    refine Qah ?_
    simp only [go_sem,↓reduceIte,reduceEqDiff]
    refine ⟨k, by rw [hz, show ahead n 0 + 1 = n by unfold ahead;rw [if_pos rfl];omega];rfl, rfl, fun _ => ?_⟩
    have h1 := hnd.idxOf_getElem k (by omega)
    rw [List.getD_eq_getElem?_getD, List.getElem?_eq_getElem (by omega), Option.getD_some] at hz
    rw [hz] at h1
    exact h1.symm
   ·
    simp only [decide_eq_false_iff_not] at h
    have hz : σ.getD k 0 ≠ 0 := by omega
    refine Qaf ?_
    refine Qah ?_
    simp only [go_sem,↓reduceIte,reduceEqDiff]
    refine ⟨r, by rw [show ahead n (σ.getD k 0) + 1 = σ.getD k 0 by unfold ahead;rw [if_neg hz];omega];rfl, rfl, fun h2 => hr ?_⟩
    rw [htk, List.mem_append] at h2
    rcases h2 with h2 | h2
    ·
     exact h2
    ·
     exact absurd (List.mem_singleton.1 h2).symm hz
  rintro e w4 ⟨r', rfl, rfl, hr'⟩
  have hah : ahead n (σ.getD k 0) < n := by unfold ahead;split <;> omega
  have hcgk := hcg k hkn
  generalize ahead n (σ.getD k 0) = at_ at *
  refine VR [0, 5, 6, 18, 19, 20] rfl rfl fun K hK => ?_;simp only [go_sem,↓reduceIte,reduceEqDiff]
  rw [hn, show ((at_ + 1 : Nat) : Int) - 1 = (at_ : Int) by omega]
  rw [Nat.add_sub_cancel]
  refine ⟨I64.mk (by omega) (by omega), ⟨by omega, by omega⟩, ⟨by omega, by omega⟩, ?_⟩
  refine Qae ?_;simp only [go_sem,↓reduceIte,reduceEqDiff];refine Qbd hH 1 (o := (k)) (vs := [.int .u8 (l.getD at_ 0).toNat]) rfl (by first | exact (Qbp _ _ _).symm | rfl | simp [Qbp]) rfl (by kernel_rfl) (by first | omega | (simp;omega) | (simp [Qao, Qbm];omega) | (rw [natsV_len];simp;omega)) (by simp [Value.oneCell']) fun w6 hH2 => ?_;(try simp only [go_sem,↓reduceIte,reduceEqDiff])
  simp only [List.length_singleton, Qb1 (Qao o) _ _ (show k < (Qao o).length by rw [Qeq];omega), Qg1, List.set_cons_zero, List.set_cons_succ] at hH2
  (refine hK _ _ ?_;clear hK)
  refine Qav ?_
  refine VR [0, 5, 6, 18, 19, 20] rfl rfl fun K hK => ?_;simp only [go_sem,↓reduceIte,reduceEqDiff]
  ((repeat refine And.intro (by omega) ?_);refine hK _ _ ?_;clear hK)
  refine Qah ?_
  simp only [go_sem,↓reduceIte,reduceEqDiff]
  refine ⟨n - (k + 1), by omega, k + 1, r', o.set k (l.getD at_ 0), rfl, hH2, by simp [hol], by omega, ?_, hr', rfl⟩
  have e1 : (o.set k (l.getD at_ 0)).take (k + 1) = o.take k ++ [l.getD at_ 0] := by
   rw [List.take_add_one, List.getElem?_set_self (by omega), List.take_set_of_le (by omega)];rfl
  have e2 : (Qbt l σ).take (k + 1) = (Qbt l σ).take k ++ [(Qbt l σ).getD k 0] := by
   rw [List.take_add_one, List.getElem?_eq_getElem (by omega), List.getD_eq_getElem?_getD, List.getElem?_eq_getElem (by omega)];rfl
  rw [e1, e2, ho, hcgk]
 ·
  simp only [decide_eq_false_iff_not] at h
  obtain rfl : k = n := by omega
  refine Qap rfl ?_
  rw [List.take_of_length_le (by omega), List.take_of_length_le (by omega)] at ho
  subst ho
  have hr2 := hr (by rw [List.take_of_length_le (by omega)];exact h0σ)
  subst hr2
  refine VR [2, 3, 4] rfl rfl fun K hK => ?_;simp only [go_sem,↓reduceIte,reduceEqDiff]
  refine ⟨Qbt l σ, Qe4 (by rw [<- hcl] at hH ⊢;exact Qbo (hH.at 1 rfl)), ?_⟩
  (refine hK _ _ ?_;clear hK)
  refine Qan (Qdy rfl rfl rfl rfl ?_)
  refine ⟨hH.sub (by simp), ?_⟩
  rw [QB4, if_neg hne, if_neg (by omega)]
  exact ⟨σ, hσ, rfl⟩
def ascB : List UInt8 -> Bool
 | [] => true
 | [_] => true
 | a :: b :: r => decide (a.toNat < b.toNat) && ascB (b :: r)
def Ql1 (l : List UInt8) : Bool := ascB l && !l.isEmpty
theorem Qjr (l : List UInt8) (hl : l.length <= 1000000000000) (w : World) : Does Tryz.prog 73 #[Str l] w fun v w' => w' = w /\ v = .bool (Ql1 l) := by
 refine Qak (args := [Str l]) 20 Tryz.func73 rfl rfl (of_decide_eq_true rfl) ?_
 simp only [Env.ofArgs]
 refine VR [0] rfl rfl fun K hK => ?_;simp only [go_sem,↓reduceIte,reduceEqDiff]
 (refine hK _ _ ?_;clear hK)
 refine VR [0, 3] rfl rfl fun K hK => ?_;simp only [go_sem,↓reduceIte,reduceEqDiff]
 (refine hK _ _ ?_;clear hK)
 refine Qad ?_
 refine Qam [0, 3] (fun m e w' => ∃ (i : Nat), Is e [(0, Str l), (3, .int .i64 i)] /\ Is w' w /\ 1 <= i /\ i <= max l.length 1 /\ ascB (l.drop (i - 1)) = ascB l /\ m = l.length - i) (l.length - 1) ?_ ?_
 ·
  simp only [go_sem,↓reduceIte,reduceEqDiff]
  exact ⟨1, rfl, rfl, by omega, by omega, rfl, rfl⟩
 rintro m e w' ⟨i, rfl, rfl, hi1, hi2, ha, hm⟩
 refine VR [0, 3, 7] rfl rfl fun K hK => ?_;simp only [go_sem,↓reduceIte,reduceEqDiff]
 (refine hK _ _ ?_;clear hK)
 refine Qab rfl rfl (fun h => ?_) (fun h => ?_)
 ·
  simp only [decide_eq_true_eq] at h
  have e1 : l.drop (i - 1) = l.getD (i - 1) 0 :: l.getD i 0 :: l.drop (i + 1) := by
   rw [drop_getD 0 (l := l) (i := i - 1) (by omega), show i - 1 + 1 = i by omega, drop_getD 0 (l := l) (i := i) (by omega)]
  have e2 : l.drop i = l.getD i 0 :: l.drop (i + 1) := drop_getD 0 (by omega)
  rw [e1, ascB, <- e2] at ha
  refine Qaf ?_
  ((repeat refine Qai ?_);refine Qad ?_)
  (repeat refine Qai ?_);refine Qcq [0, 3, 17] (by kernel_rfl) (by kernel_rfl) rfl fun K hK => ?_;simp only [go_sem,↓reduceIte,reduceEqDiff]
  (repeat first | refine And.intro (by omega) ?_ | refine ⟨⟨by omega, by omega⟩, ?_⟩)
  (refine hK _ ?_;clear hK)
  refine Qab rfl rfl (fun h => ?_) (fun h => ?_)
  ·
   simp only [decide_eq_true_eq] at h
   refine VR [2] rfl rfl fun K hK => ?_;simp only [go_sem,↓reduceIte,reduceEqDiff]
   (refine hK _ _ ?_;clear hK)
   refine Qan (Qax rfl rfl ⟨rfl, ?_⟩)
   rw [decide_eq_false (by omega), Bool.false_and] at ha
   rw [Ql1, <- ha, Bool.false_and]
  simp only [decide_eq_false_iff_not] at h
  rw [decide_eq_true (by omega), Bool.true_and] at ha
  refine Qaf ?_
  refine Qav ?_
  refine VR [0, 3] rfl rfl fun K hK => ?_;simp only [go_sem,↓reduceIte,reduceEqDiff]
  ((repeat refine And.intro (by omega) ?_);refine hK _ _ ?_;clear hK)
  refine Qah ?_
  simp only [go_sem,↓reduceIte,reduceEqDiff]
  exact ⟨l.length - (i + 1), by omega, i + 1, rfl, rfl, by omega, by omega, by rw [Nat.add_sub_cancel];exact ha, rfl⟩
 ·
  simp only [decide_eq_false_iff_not] at h
  refine Qap rfl ?_
  refine VR [2] rfl rfl fun K hK => ?_;simp only [go_sem,↓reduceIte,reduceEqDiff]
  (refine hK _ _ ?_;clear hK)
  refine Qan (Qax rfl rfl ⟨rfl, ?_⟩)
  have e1 : ascB (l.drop (i - 1)) = true := by
   have hlen : (l.drop (i - 1)).length <= 1 := by rw [List.length_drop];omega
   generalize l.drop (i - 1) = d at *
   match d, hlen with
   | [], _ => rfl
   | [_], _ => rfl
   | _ :: _ :: _, h => simp at h
  rw [Ql1, <- ha, e1]
  cases l <;> rfl
def Qhq (li : List UInt8) (at_ : Nat) : List UInt8 := li.getD at_ 0 :: (li.take at_ ++ li.drop (at_ + 1))
theorem Qpk (li : List UInt8) (g cap at_ : Nat) (hat : at_ < li.length) (hl : li.length <= 1000000000000) (w0 w : World) (B : List Nat) (G : List Res) (hL : Heap w0 B w (Res.row 5 1 (some ⟨g, 0, none⟩) li.length cap (Qao li) :: G)) :
  Does Tryz.prog 74 #[.slice (some ⟨g, 0, none⟩) li.length cap, .int .i64 at_] w
   fun v w' => Heap w0 B w' (Res.row 5 1 (some ⟨g, 0, none⟩) li.length cap (Qao (Qhq li at_)) :: G) /\ v = .int .u8 (li.getD at_ 0).toNat := by
 refine Qak (args := [.slice (some ⟨g, 0, none⟩) li.length cap, .int .i64 at_]) 22 Tryz.func74 rfl rfl (of_decide_eq_true rfl) ?_
 simp only [Env.ofArgs]
 refine VR [0, 1] rfl rfl fun K hK => ?_;simp only [go_sem,↓reduceIte,reduceEqDiff]
 (refine hK _ _ ?_;clear hK)
 refine VR [0, 1, 5] rfl rfl fun K hK => ?_;simp only [go_sem,↓reduceIte,reduceEqDiff]
 (repeat (first | refine And.intro (by omega) ?_ | refine ⟨⟨by omega, by omega⟩, ?_⟩ | (refine ⟨_, (by first | exact Qac (hL.at 0 rfl) rfl | exact Qaa (hL.at 0 rfl) (bytesV_get (by omega)) | exact Qaa (hL.at 0 rfl) (Qaj (by omega)) | exact Qac (hL.at 1 rfl) rfl | exact Qaa (hL.at 1 rfl) (bytesV_get (by omega)) | exact Qaa (hL.at 1 rfl) (Qaj (by omega)) | exact Qac (hL.at 2 rfl) rfl | exact Qaa (hL.at 2 rfl) (bytesV_get (by omega)) | exact Qaa (hL.at 2 rfl) (Qaj (by omega)) | exact Qac (hL.at 3 rfl) rfl | exact Qaa (hL.at 3 rfl) (bytesV_get (by omega)) | exact Qaa (hL.at 3 rfl) (Qaj (by omega))), ?_⟩;(try simp only [go_sem,↓reduceIte,reduceEqDiff]))))
 (refine hK _ _ ?_;clear hK)
 (repeat refine Qai ?_);refine Qa8 [0, 5] 7 (by kernel_rfl) (by kernel_rfl) (by kernel_rfl) rfl fun K hK => ?_;simp only [go_sem,↓reduceIte,reduceEqDiff]
 obtain ⟨hx1, hx2, hx3, hx4⟩ := hL.at 0 rfl
 clear hx1 hx4
 refine ⟨I64.mk (by omega) (by omega), ⟨by omega, by omega, by omega⟩, ⟨by omega, by omega⟩, ?_⟩
 have hsrc : RS w (some ⟨g, 0, none⟩) at_ 1 (Qao (li.take at_)) := by
  rw [<- bytesV_take]
  have h := (Qbo (hL.at 0 rfl)).take at_ (by omega)
  rwa [Nat.mul_one] at h
 suffices hall : ∀ w5, Heap w0 B w5 (Res.row 5 1 (some ⟨g, 0, none⟩) li.length cap (Qao (li.take 1 ++ li.take at_ ++ li.drop (at_ + 1))) :: G) -> K [(0, .slice (some ⟨g, 0, none⟩) li.length cap), (5, .int .u8 (li.getD at_ 0).toNat)] w5 by
  refine Qna ?_
  simp only [go_sem,↓reduceIte,reduceEqDiff]
  by_cases hc1 : cap = 1
  ·
   have h0 : at_ = 0 := by omega
   subst h0
   rw [if_pos (by rw [hc1];rfl)]
   refine Qic hL 0 rfl Tryz.underlying43 sz5 (off := 0) rfl ⟨rfl, hsrc, 5, Tryz.underlying43⟩ (Qia _) (by simp) fun w5 hu hH4 => ?_
   refine hall w5 ?_
   rw [show li.take 1 ++ li.take 0 ++ li.drop (0 + 1) = li by rw [List.take_zero, List.append_nil];exact List.take_append_drop 1 li]
   simpa using hH4
  ·
   rw [if_neg (by rw [show Int.toNat 1 = 1 from rfl];exact hc1)]
   simp only [Option.map_some]
   refine Qic hL 0 rfl Tryz.underlying43 sz5 (off := 1) rfl ⟨rfl, hsrc, 5, Tryz.underlying43⟩ (Qia _) (by rw [Qeq, show Int.toNat 1 = 1 from rfl];omega) fun w5 hu hH4 => ?_
   refine hall w5 ?_
   have e : min at_ (at_ + 1 - Int.toNat 1) * 1 = at_ := by rw [show Int.toNat 1 = 1 from rfl];omega
   simp only [e, List.set_cons_zero] at hH4
   rw [Qdg, Qdg, <- bytesV_take, <- bytesV_drop]
   have e5 : (Qao (li.take at_)).take at_ = Qao (li.take at_) := List.take_of_length_le (by rw [Qeq, List.length_take];omega)
   rw [e5, show 1 + at_ = at_ + 1 by omega] at hH4
   exact hH4
 intro w5 hH
 (refine hK _ _ ?_;clear hK)
 have hlen : (li.take 1 ++ li.take at_ ++ li.drop (at_ + 1)).length = li.length := by simp;omega
 have hmv : (li.take 1 ++ li.take at_ ++ li.drop (at_ + 1)).set 0 (li.getD at_ 0) = Qhq li at_ := by
  cases li with
  | nil => simp at hat
  | cons x r => simp [Qhq]
 generalize li.take 1 ++ li.take at_ ++ li.drop (at_ + 1) = li2 at *
 refine VR [5] rfl rfl fun K hK => ?_;simp only [go_sem,↓reduceIte,reduceEqDiff]
 refine ⟨⟨by omega, by omega⟩, ?_⟩
 refine Qae ?_;simp only [go_sem,↓reduceIte,reduceEqDiff];refine Qbd hH 0 (o := (0)) (vs := [.int .u8 (li.getD at_ 0).toNat]) rfl (by first | exact (Qbp _ _ _).symm | rfl | simp [Qbp]) rfl (by kernel_rfl) (by first | omega | (simp;omega) | (simp [Qao, Qbm];omega) | (rw [natsV_len];simp;omega)) (by simp [Value.oneCell']) fun w6 hH2 => ?_;(try simp only [go_sem,↓reduceIte,reduceEqDiff])
 simp only [List.length_singleton, Qb1 (Qao li2) _ _ (show 0 < (Qao li2).length by rw [Qeq];omega), Qg1, List.set_cons_zero, hmv] at hH2
 (refine hK _ _ ?_;clear hK)
 refine VR [4] rfl rfl fun K hK => ?_;simp only [go_sem,↓reduceIte,reduceEqDiff]
 (refine hK _ _ ?_;clear hK)
 exact Qan (Qax rfl rfl ⟨hH2, rfl⟩)
def Qd4 : List UInt8 -> List UInt8 -> Option (List Int)
 | _, [] => some []
 | li, c :: r => if c ∈ li then (Qd4 (Qhq li (li.idxOf c)) r).map ((li.idxOf c : Int) :: ·) else none
theorem Qlf {li : List UInt8} {at_ : Nat} (h : at_ < li.length) : (Qhq li at_).length = li.length := by simp [Qhq];omega
def Qlg (sym l : List UInt8) (w : World) (v : Value) (w' : World) : Prop :=
 if Ql1 sym = true then match Qd4 sym l with
  | none => Heap w [] w' [] /\ v = .tuple #[.slice none 0 0, .int .i64 60]
  | some out => ∃ a cap, Heap w [] w' [Res.row 3 1 a out.length cap (Qbm out)] /\ v = .tuple #[.slice a out.length cap, .int .i64 0]
 else Heap w [] w' [] /\ v = .tuple #[.slice none 0 0, .int .i64 2]
theorem Qy8 (l sym : List UInt8) (hl : l.length <= 1000000000000) (hs : sym.length <= 1000000000000) (w : World) : Does Tryz.prog 32 #[Str l, Str sym] w fun v w' => Qlg sym l w v w' := by
 refine Qak (args := [Str l, Str sym]) 52 Tryz.func32 rfl rfl (of_decide_eq_true rfl) ?_
 simp only [Env.ofArgs]
 refine VR [0, 1] rfl rfl fun K hK => ?_;simp only [go_sem,↓reduceIte,reduceEqDiff]
 (refine hK _ _ ?_;clear hK)
 refine VR [0, 1, 12] rfl rfl fun K hK => ?_;simp only [go_sem,↓reduceIte,reduceEqDiff]
 refine Qag Tryz.call73 ?_;simp only [go_sem,↓reduceIte,reduceEqDiff];refine CallK.mk (Qjr sym hs w) ?_
 rintro v w2 ⟨rfl, rfl⟩
 simp only [go_sem,↓reduceIte,reduceEqDiff]
 (refine hK _ _ ?_;clear hK)
 refine Qab rfl rfl (fun h => ?_) (fun h => ?_)
 ·
  simp at h
  refine VR [4, 5] rfl rfl fun K hK => ?_;simp only [go_sem,↓reduceIte,reduceEqDiff]
  (refine hK _ _ ?_;clear hK)
  exact Qan (Qa9 rfl rfl rfl (by show Qlg _ _ _ _ _;unfold Qlg;rw [if_neg (by simp [h])];exact ⟨Heap.start _, rfl⟩))
 simp at h
 have hfo : ∀ v w', Qlg sym l w2 v w' = match Qd4 sym l with
  | none => Heap w2 [] w' [] /\ v = .tuple #[.slice none 0 0, .int .i64 60]
  | some out => ∃ a cap, Heap w2 [] w' [Res.row 3 1 a out.length cap (Qbm out)] /\ v = .tuple #[.slice a out.length cap, .int .i64 0] := fun v w' => by unfold Qlg;rw [if_pos h]
 simp only [hfo]
 clear hfo h
 generalize hfr : Qd4 sym l = res at *
 refine Qaf ?_
 refine VR [0, 6] rfl rfl fun K hK => ?_;simp only [go_sem,↓reduceIte,reduceEqDiff]
 refine Qk1 ?_
 simp only [go_sem,↓reduceIte,reduceEqDiff]
 refine Qk2 (Heap.start w2) Tryz.underlying9 Tryz.underlying43 Tryz.underlying5 (by omega) fun gl cl w3 hH => ?_
 (refine hK _ _ ?_;clear hK)
 refine VR [0, 6, 7] rfl rfl fun K hK => ?_;simp only [go_sem,↓reduceIte,reduceEqDiff]
 refine Qbw Tryz.underlying36 zi3 ?_
 simp only [go_sem,↓reduceIte,reduceEqDiff]
 refine ⟨0, l.length, ⟨rfl, rfl, by omega, by omega, by omega⟩, ?_⟩
 have hH1 := hH.row 3 (n := 0) (cap := l.length) (sz := 1) [] (List.replicate l.length (.int .i64 0)) (by simp) (by simp) (by omega) (by omega)
 simp only [List.nil_append] at hH1
 generalize w3.alloc (Obj.cells (List.replicate l.length (Value.int IntKind.i64 0)).toArray 3) = w4 at *
 generalize w3.heap.size = go at *
 (refine hK _ _ ?_;clear hK)
 generalize hn : l.length = n at *
 refine VR [0, 6, 7, 19, 20] rfl rfl fun K hK => ?_;simp only [go_sem,↓reduceIte,reduceEqDiff]
 (refine hK _ _ ?_;clear hK)
 rw [hn]
 have hsl : sym.length <= 1000000000000 := hs
 generalize hm0 : sym.length = sl_ at *
 refine Qad ?_
 refine Qam [0, 6, 7, 19, 20] (fun m e w' => ∃ (k cap : Nat) (a : Option Addr) (li : List UInt8) (out : List Int), Is e [(0, Str l), (6, .slice (some ⟨gl, 0, none⟩) sl_ cl), (7, .slice a out.length cap), (19, .int .i64 n), (20, .int .i64 k)] /\ Heap w2 [] w' [Res.row 3 1 a out.length cap (Qbm out), Res.row 5 1 (some ⟨gl, 0, none⟩) sl_ cl (Qao li)] /\ li.length = sl_ /\ k <= n /\ out.length = k /\ res = (Qd4 li (l.drop k)).map (out ++ ·) /\ m = n - k) n ?_ ?_
 ·
  simp only [go_sem,↓reduceIte,reduceEqDiff]
  exact ⟨0, n, _, sym, [], rfl, hH1, hm0, by omega, rfl, by rw [List.drop_zero, hfr];simp, rfl⟩
 clear hH hH1 hfr
 rintro m e w5 ⟨k, cap, a, li, out, rfl, hH, hli, hk, hol, hres, hm⟩
 refine VR [0, 6, 7, 19, 20, 21] rfl rfl fun K hK => ?_;simp only [go_sem,↓reduceIte,reduceEqDiff]
 (refine hK _ _ ?_;clear hK)
 (repeat refine Qai ?_)
 refine Qab rfl rfl (fun h => ?_) (fun h => ?_)
 ·
  simp only [decide_eq_true_eq] at h
  have hdk : l.drop k = l.getD k 0 :: l.drop (k + 1) := drop_getD 0 (by omega)
  rw [hdk, Qd4] at hres
  refine Qaf ?_
  ((repeat refine Qai ?_);refine Qad ?_)
  refine VR [0, 6, 7, 8, 19, 20] rfl rfl fun K hK => ?_;simp only [go_sem,↓reduceIte,reduceEqDiff]
  (refine hK _ _ ?_;clear hK)
  refine VR [0, 6, 7, 8, 9, 19, 20] rfl rfl fun K hK => ?_;simp only [go_sem,↓reduceIte,reduceEqDiff]
  (refine hK _ _ ?_;clear hK)
  ((repeat refine Qai ?_);refine Qad ?_)
  refine Qam [0, 6, 7, 8, 9, 19, 20] (fun m e w' => ∃ (at_ : Nat), Is e [(0, Str l), (6, .slice (some ⟨gl, 0, none⟩) sl_ cl), (7, .slice a out.length cap), (8, .int .i64 k), (9, .int .i64 at_), (19, .int .i64 n), (20, .int .i64 k)] /\ Is w' w5 /\ at_ <= sl_ /\ l.getD k 0 ∉ li.take at_ /\ m = sl_ - at_) sl_ ?_ ?_
  ·
   simp only [go_sem,↓reduceIte,reduceEqDiff]
   exact ⟨0, rfl, rfl, by omega, by simp, rfl⟩
  rintro m2 e w6 ⟨at_, rfl, rfl, hat, hnot, hm2⟩
  (repeat refine Qai ?_);refine Qcq [0, 6, 7, 8, 9, 19, 20, 36] (by kernel_rfl) (by kernel_rfl) rfl fun K hK => ?_;simp only [go_sem,↓reduceIte,reduceEqDiff]
  suffices hall : ∀ bb : Bool, (bb = true ↔ (at_ < sl_ /\ li.getD at_ 0 ≠ l.getD k 0)) -> K [(0, Str l), (6, .slice (some ⟨gl, 0, none⟩) sl_ cl), (7, .slice a out.length cap), (8, .int .i64 k), (9, .int .i64 at_), (19, .int .i64 n), (20, .int .i64 k), (36, .bool bb)] by
   refine ⟨fun hg => ?_, fun hg => hall _ (by simp;omega)⟩
   refine ⟨⟨by omega, by omega⟩, _, Qaa (hH.at 1 rfl) (bytesV_get (by omega)), ⟨by omega, by omega⟩, ?_⟩
   simp only [go_sem,↓reduceIte,reduceEqDiff]
   refine hall _ ?_
   have : (li.getD at_ 0).toNat = (l.getD k 0).toNat ↔ li.getD at_ 0 = l.getD k 0 := UInt8.toNat_inj
   generalize li.getD at_ 0 = c1 at *
   generalize l.getD k 0 = c2 at *
   by_cases e : c1 = c2
   ·
    subst e;simp
   ·
    have h3 : c1.toNat ≠ c2.toNat := fun h => e (this.1 h)
    exact ⟨fun _ => ⟨by omega, e⟩, fun _ => decide_eq_true (by omega)⟩
  intro bb hbb
  (refine hK _ ?_;clear hK)
  refine Qab rfl rfl (fun h => ?_) (fun h => ?_)
  ·
   obtain ⟨h1, h2⟩ := hbb.1 h
   refine Qaf ?_
   refine Qad ?_
   refine VR [0, 6, 7, 8, 9, 19, 20] rfl rfl fun K hK => ?_;simp only [go_sem,↓reduceIte,reduceEqDiff]
   ((repeat refine And.intro (by omega) ?_);refine hK _ _ ?_;clear hK)
   refine Qav ?_
   refine Qah ?_
   simp only [go_sem,↓reduceIte,reduceEqDiff]
   refine ⟨sl_ - (at_ + 1), by omega, at_ + 1, rfl, rfl, by omega, ?_, rfl⟩
   rw [List.take_add_one, List.getElem?_eq_getElem (by omega), List.mem_append]
   rintro (h3 | h3)
   ·
    exact hnot h3
   ·
    have h4 : l.getD k 0 = li[at_] := by simpa using h3
    apply h2
    rw [h4, List.getD_eq_getElem?_getD, List.getElem?_eq_getElem (by omega)]
    rfl
  ·
   refine Qap rfl ?_
   have hstop : at_ = sl_ ∨ li.getD at_ 0 = l.getD k 0 := by
    by_cases h1 : at_ < sl_
    ·
     right
     by_cases h2 : li.getD at_ 0 = l.getD k 0
     ·
      exact h2
     ·
      have := hbb.2 ⟨h1, h2⟩
      simp_all
    ·
     left;omega
   clear hbb h
   refine VR [0, 6, 7, 9, 19, 20, 42] rfl rfl fun K hK => ?_;simp only [go_sem,↓reduceIte,reduceEqDiff]
   (refine hK _ _ ?_;clear hK)
   refine Qab rfl rfl (fun h => ?_) (fun h => ?_)
   ·
    simp only [decide_eq_true_eq] at h
    obtain rfl : at_ = sl_ := by omega
    rw [List.take_of_length_le (by omega)] at hnot
    rw [if_neg hnot] at hres
    subst hres
    refine VR [4, 5] rfl rfl fun K hK => ?_;simp only [go_sem,↓reduceIte,reduceEqDiff]
    (refine hK _ _ ?_;clear hK)
    exact Qan (Qa9 rfl rfl rfl ⟨hH.sub (by simp), rfl⟩)
   simp only [decide_eq_false_iff_not] at h
   have hat2 : at_ < sl_ := by omega
   have heq : li.getD at_ 0 = l.getD k 0 := by rcases hstop with h1 | h1;omega;exact h1
   have hidx : li.idxOf (l.getD k 0) = at_ := by
    have e := List.take_append_drop at_ li
    rw [drop_getD 0 (l := li) (i := at_) (by omega), heq] at e
    have h3 : (li.take at_ ++ l.getD k 0 :: li.drop (at_ + 1)).idxOf (l.getD k 0) = at_ := by
     rw [List.idxOf_append, if_neg hnot, List.idxOf_cons_self, List.length_take];omega
    rwa [e] at h3
   have hmem : l.getD k 0 ∈ li := by rw [<- heq];exact Qbs 0 (by omega)
   rw [if_pos hmem, hidx] at hres
   refine Qaf ?_
   refine VR [0, 6, 7, 9, 19, 20] rfl rfl fun K hK => ?_;simp only [go_sem,↓reduceIte,reduceEqDiff]
   have hc := Qpk li gl cl at_ (by omega) (by omega) w2 w6 [] _ (by rw [hli];exact hH.front 1 rfl)
   rw [hli] at hc
   refine Qag Tryz.call74 ?_;simp only [go_sem,↓reduceIte,reduceEqDiff];refine CallK.mk hc ?_
   clear hc
   rintro v w7 ⟨hH2, rfl⟩
   have hH3 := hH2.front 1 rfl
   simp only [List.eraseIdx_cons_succ, List.eraseIdx_cons_zero] at hH3
   (refine hK _ _ ?_;clear hK)
   refine VR [0, 6, 7, 19, 20] rfl rfl fun K hK => ?_;simp only [go_sem,↓reduceIte,reduceEqDiff]
   refine Qc3 (xs := [.tmp 47]) Tryz.underlying36 sz3 rfl rfl rfl (by omega) ?_;simp only [go_sem,↓reduceIte,reduceEqDiff];refine ⟨by simp [Value.cells], ?_⟩
   refine Qa6 ?_;simp only [go_sem,↓reduceIte,reduceEqDiff];refine Qj2 hH3 0 rfl Tryz.underlying36 zi3 (fun h => by (first | omega | (simp;done) | (simp;omega))) fun a' cap' w5 hc' hH4 => ?_;(try simp only [go_sem,↓reduceIte,reduceEqDiff])
   (refine hK _ _ ?_;clear hK)
   refine Qav ?_
   refine VR [0, 6, 7, 19, 20] rfl rfl fun K hK => ?_;simp only [go_sem,↓reduceIte,reduceEqDiff]
   ((repeat refine And.intro (by omega) ?_);refine hK _ _ ?_;clear hK)
   refine Qah ?_
   simp only [go_sem,↓reduceIte,reduceEqDiff]
   refine ⟨n - (k + 1), by omega, k + 1, cap', a', Qhq li at_, out ++ [(at_ : Int)], rfl, hH4, by rw [Qlf (by omega)];exact hli, by omega, by simp [hol], ?_, rfl⟩
   rw [hres, Option.map_map]
   congr 1
   funext x
   simp
 ·
  simp only [decide_eq_false_iff_not] at h
  obtain rfl : k = n := by omega
  rw [List.drop_eq_nil_of_le (by omega), Qd4] at hres
  simp only [Option.map_some, List.append_nil] at hres
  subst hres
  refine Qap rfl ?_
  refine VR [4, 5] rfl rfl fun K hK => ?_;simp only [go_sem,↓reduceIte,reduceEqDiff]
  (refine hK _ _ ?_;clear hK)
  exact Qan (Qa9 rfl rfl rfl ⟨a, cap, hH.sub (by simp), rfl⟩)
def Qgl (l : List Bool) : List Value := l.map Value.bool
theorem Qpl (l : List Bool) : (Qgl l).length = l.length := by simp [Qgl]
theorem Qy9 {l : List Bool} {i : Nat} (h : i < l.length) : (Qgl l)[i]? = some (.bool (l.getD i false)) := by
 simp [Qgl, List.getElem?_eq_getElem h, List.getD_eq_getElem?_getD]
theorem Qza (l : List Bool) (i : Nat) (v : Bool) : (Qgl l).set i (.bool v) = Qgl (l.set i v) := by simp [Qgl, List.map_set]
def Qjs (l : List UInt8) (n : Nat) : List UInt8 := ((List.range n).filter fun b => l.any fun c => c.toNat == b).map UInt8.ofNat
def Qbk (l : List UInt8) : List UInt8 := Qjs l 256
theorem Qzb (l : List UInt8) (n : Nat) : Qjs l (n + 1) = Qjs l n ++ if (l.any fun c => c.toNat == n) then [UInt8.ofNat n] else [] := by
 unfold Qjs
 rw [List.range_succ, List.filter_append, List.map_append]
 congr 1
 by_cases h : (l.any fun c => c.toNat == n) = true
 ·
  rw [if_pos h, List.filter_cons_of_pos (p := fun b => l.any fun c => c.toNat == b) h];rfl
 ·
  rw [if_neg h, List.filter_cons_of_neg (p := fun b => l.any fun c => c.toNat == b) h];rfl
theorem QB5 (l : List UInt8) (n : Nat) : (Qjs l n).length <= n := by
 unfold Qjs
 rw [List.length_map]
 exact Nat.le_trans (List.length_filter_le _ _) (by simp)
theorem QI5 (l : List UInt8) (hl : l.length <= 1000000000000) (w : World) : Does Tryz.prog 31 #[Str l] w fun v w' => Heap w [] w' [] /\ v = Str (Qbk l) := by
 refine Qak (args := [Str l]) 32 Tryz.func31 rfl rfl (of_decide_eq_true rfl) ?_
 simp only [Env.ofArgs]
 refine VR [0] rfl rfl fun K hK => ?_;simp only [go_sem,↓reduceIte,reduceEqDiff]
 (refine hK _ _ ?_;clear hK)
 refine VR [0, 3] rfl rfl fun K hK => ?_;simp only [go_sem,↓reduceIte,reduceEqDiff]
 refine Qat (.agg (Qgl (List.replicate 256 false)).toArray) (by kernel_rfl) ?_
 simp only [go_sem,↓reduceIte,reduceEqDiff]
 have hH0 := (Heap.start w).box 118 (Qgl (List.replicate 256 false))
 generalize w.alloc (Obj.cells (Qgl (List.replicate 256 false)).toArray 118) = w1 at *
 generalize w.heap.size = gu at *
 (refine hK _ _ ?_;clear hK)
 refine VR [0, 3, 8, 9] rfl rfl fun K hK => ?_;simp only [go_sem,↓reduceIte,reduceEqDiff]
 (refine hK _ _ ?_;clear hK)
 generalize hn : l.length = n at *
 refine Qad ?_
 refine Qam [0, 3, 8, 9] (fun m e w' => ∃ (k : Nat) (bl : List Bool), Is e [(0, Str l), (3, .pointer (some ⟨gu, 0, none⟩)), (8, .int .i64 n), (9, .int .i64 k)] /\ Heap w [] w' [Res.blk gu 118 (Qgl bl)] /\ bl.length = 256 /\ k <= n /\ (∀ b, b < 256 -> bl.getD b false = (l.take k).any fun c => c.toNat == b) /\ m = n - k) n ?_ ?_
 ·
  simp only [go_sem,↓reduceIte,reduceEqDiff]
  exact ⟨0, _, rfl, hH0, by simp, by omega, fun b hb => by rw [List.getD_eq_getElem?_getD, List.getElem?_replicate, if_pos hb];rfl, rfl⟩
 clear hH0
 rintro m e w2 ⟨k, bl, rfl, hH, hbl, hk, hb, hm⟩
 refine VR [0, 3, 8, 9, 10] rfl rfl fun K hK => ?_;simp only [go_sem,↓reduceIte,reduceEqDiff]
 (refine hK _ _ ?_;clear hK)
 (repeat refine Qai ?_)
 refine Qab rfl rfl (fun h => ?_) (fun h => ?_)
 ·
  simp only [decide_eq_true_eq] at h
  have hbk := (l.getD k 0).toNat_lt
  have htk : l.take (k + 1) = l.take k ++ [l.getD k 0] := by
   rw [List.take_add_one, List.getElem?_eq_getElem (by omega), List.getD_eq_getElem?_getD, List.getElem?_eq_getElem (by omega)];rfl
  refine Qaf ?_
  ((repeat refine Qai ?_);refine Qad ?_)
  refine VR [0, 3, 4, 8, 9] rfl rfl fun K hK => ?_;simp only [go_sem,↓reduceIte,reduceEqDiff]
  (refine hK _ _ ?_;clear hK)
  refine VR [0, 3, 8, 9] rfl rfl fun K hK => ?_;simp only [go_sem,↓reduceIte,reduceEqDiff]
  rw [hn]
  refine ⟨⟨by omega, by omega⟩, ⟨by omega, by omega⟩, ?_⟩
  refine Qae ?_
  simp only [go_sem,↓reduceIte,reduceEqDiff]
  refine Qal hH 0 (o := (l.getD k 0).toNat) (vs := [.bool true]) rfl rfl (by kernel_rfl) (by rw [Qpl, List.length_singleton];omega) (by simp [Value.oneCell']) fun w6 hH2 => ?_
  simp only [List.length_singleton, Qb1 (Qgl bl) _ _ (show (l.getD k 0).toNat < (Qgl bl).length by rw [Qpl];omega), Qza, List.set_cons_zero] at hH2
  (refine hK _ _ ?_;clear hK)
  refine Qav ?_
  refine VR [0, 3, 8, 9] rfl rfl fun K hK => ?_;simp only [go_sem,↓reduceIte,reduceEqDiff]
  ((repeat refine And.intro (by omega) ?_);refine hK _ _ ?_;clear hK)
  refine Qah ?_
  simp only [go_sem,↓reduceIte,reduceEqDiff]
  refine ⟨n - (k + 1), by omega, k + 1, _, rfl, hH2, by simp [hbl], by omega, fun b hb2 => ?_, rfl⟩
  rw [htk, List.any_append, <- hb b hb2]
  generalize l.getD k 0 = c at *
  simp only [List.getD_eq_getElem?_getD, List.getElem?_set]
  by_cases e : c.toNat = b
  ·
   rw [if_pos e, if_pos (by omega)];simp [e]
  ·
   rw [if_neg e];simp [e]
 ·
  simp only [decide_eq_false_iff_not] at h
  obtain rfl : k = n := by omega
  rw [List.take_of_length_le (by omega)] at hb
  refine Qap rfl ?_
  refine VR [3, 5] rfl rfl fun K hK => ?_;simp only [go_sem,↓reduceIte,reduceEqDiff]
  refine Qfn hH (Qao []) (xs := []) Tryz.underlying43 sz5 rfl rfl rfl (by omega) ?_;simp only [go_sem,↓reduceIte,reduceEqDiff];refine ⟨rfl, by simp [Value.cells], fun g w4 hH2 => ?_⟩;(try simp only [go_sem,↓reduceIte,reduceEqDiff])
  (refine hK _ _ ?_;clear hK)
  refine VR [3, 5, 18] rfl rfl fun K hK => ?_;simp only [go_sem,↓reduceIte,reduceEqDiff]
  (refine hK _ _ ?_;clear hK)
  refine Qad ?_
  refine Qam [3, 5, 18] (fun m e w' => ∃ (b cap : Nat) (a : Option Addr), Is e [(3, .pointer (some ⟨gu, 0, none⟩)), (5, .slice a (Qjs l b).length cap), (18, .int .i64 b)] /\ Heap w [] w' [Res.row 5 1 a (Qjs l b).length cap (Qao (Qjs l b)), Res.blk gu 118 (Qgl bl)] /\ b <= 256 /\ m = 256 - b) 256 ?_ ?_
  ·
   simp only [go_sem,↓reduceIte,reduceEqDiff]
   exact ⟨0, _, _, rfl, hH2, by omega, rfl⟩
  clear hH hH2
  rintro m e w5 ⟨b, cap, a, rfl, hH, hb2, hm⟩
  refine VR [3, 5, 18, 19] rfl rfl fun K hK => ?_;simp only [go_sem,↓reduceIte,reduceEqDiff]
  (refine hK _ _ ?_;clear hK)
  (repeat refine Qai ?_)
  refine Qab rfl rfl (fun h => ?_) (fun h => ?_)
  ·
   simp only [decide_eq_true_eq] at h
   have hus := Qzb l b
   have hul := QB5 l b
   have hbb := hb b (by omega)
   refine Qaf ?_
   ((repeat refine Qai ?_);refine Qad ?_)
   refine VR [3, 5, 6, 18] rfl rfl fun K hK => ?_;simp only [go_sem,↓reduceIte,reduceEqDiff]
   (refine hK _ _ ?_;clear hK)
   refine VR [3, 5, 6, 18, 23] rfl rfl fun K hK => ?_;simp only [go_sem,↓reduceIte,reduceEqDiff]
   refine ⟨⟨by omega, by omega⟩, _, Qac (hH.at 1 rfl) (Qy9 (by omega)), ?_⟩
   rw [hbb]
   (refine hK _ _ ?_;clear hK)
   generalize (l.any fun c => c.toNat == b) = bb at *
   refine Qab rfl rfl (fun h => ?_) (fun h => ?_)
   ·
    subst h
    rw [if_pos rfl] at hus
    refine VR [3, 5, 18] rfl rfl fun K hK => ?_;simp only [go_sem,↓reduceIte,reduceEqDiff]
    rw [show ((b : Int) % 256) = ((UInt8.ofNat b).toNat : Int) by rw [UInt8.toNat_ofNat'];omega]
    have hlen : (Qjs l (b + 1)).length = (Qjs l b).length + 1 := by rw [hus];simp
    refine Qc3 (xs := [.tmp 26]) Tryz.underlying43 sz5 rfl rfl rfl (by omega) ?_;simp only [go_sem,↓reduceIte,reduceEqDiff];refine ⟨by simp [Value.cells], ?_⟩
    refine Qa6 ?_;simp only [go_sem,↓reduceIte,reduceEqDiff];refine Qg0 hH 0 (UInt8.ofNat b) rfl Tryz.underlying43 zi5 (by first | rfl | (simp;done) | omega) (fun h => by (first | omega | (simp;done) | (simp;omega))) fun a' cap' w5 hc' hH2 => ?_;(try simp only [go_sem,↓reduceIte,reduceEqDiff])
    rw [<- hus] at hH2 ⊢
    (refine hK _ _ ?_;clear hK)
    refine Qav ?_
    refine VR [3, 5, 18] rfl rfl fun K hK => ?_;simp only [go_sem,↓reduceIte,reduceEqDiff]
    ((repeat refine And.intro (by omega) ?_);refine hK _ _ ?_;clear hK)
    refine Qah ?_
    simp only [go_sem,↓reduceIte,reduceEqDiff]
    exact ⟨256 - (b + 1), by omega, b + 1, cap', a', rfl, hH2, by omega, rfl⟩
   ·
    subst h
    rw [if_neg (by simp), List.append_nil] at hus
    refine Qaf ?_
    refine Qav ?_
    refine VR [3, 5, 18] rfl rfl fun K hK => ?_;simp only [go_sem,↓reduceIte,reduceEqDiff]
    ((repeat refine And.intro (by omega) ?_);refine hK _ _ ?_;clear hK)
    refine Qah ?_
    simp only [go_sem,↓reduceIte,reduceEqDiff]
    exact ⟨256 - (b + 1), by omega, b + 1, cap, a, by rw [hus];rfl, by rw [hus];exact hH, by omega, rfl⟩
  ·
   simp only [decide_eq_false_iff_not] at h
   obtain rfl : b = 256 := by omega
   refine Qap rfl ?_
   refine VR [2] rfl rfl fun K hK => ?_;simp only [go_sem,↓reduceIte,reduceEqDiff]
   refine ⟨Qbk l, hH.readsBytes 0 rfl, ?_⟩
   (refine hK _ _ ?_;clear hK)
   exact Qan (Qax rfl rfl ⟨hH.sub (by simp), rfl⟩)
def Qdl : List UInt8 -> List Int -> Option (List UInt8)
 | _, [] => some []
 | li, v :: r => if 0 <= v /\ v < li.length then (Qdl (Qhq li v.toNat) r).map (li.getD v.toNat 0 :: ·) else none
def Qdi (sym : List UInt8) (l : List Int) : List UInt8 × Int :=
 if Ql1 sym = true then match Qdl sym l with
  | none => ([], 60)
  | some out => (out, 0)
 else ([], 2)
theorem Qth (l : List Int) (sym : List UInt8) (la : Option Addr) (lc : Nat) (hl : l.length <= 1000000000000) (hs : sym.length <= 1000000000000) (hi : ∀ v ∈ l, I64 v) (w : World) (hr : RS w la l.length 1 (Qbm l)) :
  Does Tryz.prog 106 #[.slice la l.length lc, Str sym] w fun v w' => Heap w [] w' [] /\ v = .tuple #[Str (Qdi sym l).1, .int .i64 (Qdi sym l).2] := by
 refine Qak (args := [.slice la l.length lc, Str sym]) 41 Tryz.func106 rfl rfl (of_decide_eq_true rfl) ?_
 simp only [Env.ofArgs]
 refine VR [0, 1] rfl rfl fun K hK => ?_;simp only [go_sem,↓reduceIte,reduceEqDiff]
 (refine hK _ _ ?_;clear hK)
 refine VR [0, 1, 12] rfl rfl fun K hK => ?_;simp only [go_sem,↓reduceIte,reduceEqDiff]
 refine Qag Tryz.call73 ?_;simp only [go_sem,↓reduceIte,reduceEqDiff];refine CallK.mk (Qjr sym hs w) ?_
 rintro v w2 ⟨rfl, rfl⟩
 simp only [go_sem,↓reduceIte,reduceEqDiff]
 (refine hK _ _ ?_;clear hK)
 refine Qab rfl rfl (fun h => ?_) (fun h => ?_)
 ·
  simp at h
  refine VR [4, 5] rfl rfl fun K hK => ?_;simp only [go_sem,↓reduceIte,reduceEqDiff]
  (refine hK _ _ ?_;clear hK)
  exact Qan (Qa9 rfl rfl rfl ⟨Heap.start _, by rw [Qdi, if_neg (by simp [h])]⟩)
 simp at h
 have hbs : Qdi sym l = match Qdl sym l with
  | none => ([], 60)
  | some out => (out, 0) := by rw [Qdi, if_pos h]
 rw [hbs]
 clear hbs h
 generalize hfr : Qdl sym l = res
 refine Qaf ?_
 refine VR [0, 6] rfl rfl fun K hK => ?_;simp only [go_sem,↓reduceIte,reduceEqDiff]
 refine Qk1 ?_
 simp only [go_sem,↓reduceIte,reduceEqDiff]
 refine Qk2 (Heap.start w2) Tryz.underlying9 Tryz.underlying43 Tryz.underlying5 (by omega) fun gl cl w3 hH => ?_
 (refine hK _ _ ?_;clear hK)
 refine VR [0, 6, 7] rfl rfl fun K hK => ?_;simp only [go_sem,↓reduceIte,reduceEqDiff]
 refine Qbw Tryz.underlying43 zi5 ?_
 simp only [go_sem,↓reduceIte,reduceEqDiff]
 refine ⟨0, l.length, ⟨rfl, rfl, by omega, by omega, by omega⟩, ?_⟩
 have hH1 := hH.row 5 (n := 0) (cap := l.length) (sz := 1) [] (List.replicate l.length (.int .u8 0)) (by simp) (by simp) (by omega) (by omega)
 simp only [List.nil_append] at hH1
 generalize w3.alloc (Obj.cells (List.replicate l.length (Value.int IntKind.u8 0)).toArray 5) = w4 at *
 generalize w3.heap.size = go at *
 (refine hK _ _ ?_;clear hK)
 generalize hn : l.length = n at *
 refine VR [6, 7, 18, 19, 20] rfl rfl fun K hK => ?_;simp only [go_sem,↓reduceIte,reduceEqDiff]
 (refine hK _ _ ?_;clear hK)
 have hsl : sym.length <= 1000000000000 := hs
 generalize hm0 : sym.length = sl_ at *
 refine Qad ?_
 refine Qam [6, 7, 18, 19, 20] (fun m e w' => ∃ (k cap : Nat) (a : Option Addr) (li out : List UInt8), Is e [(6, .slice (some ⟨gl, 0, none⟩) sl_ cl), (7, .slice a out.length cap), (18, .slice la n lc), (19, .int .i64 n), (20, .int .i64 k)] /\ Heap w2 [] w' [Res.row 5 1 a out.length cap (Qao out), Res.row 5 1 (some ⟨gl, 0, none⟩) sl_ cl (Qao li)] /\ li.length = sl_ /\ k <= n /\ out.length = k /\ res = (Qdl li (l.drop k)).map (out ++ ·) /\ m = n - k) n ?_ ?_
 ·
  simp only [go_sem,↓reduceIte,reduceEqDiff]
  exact ⟨0, n, _, sym, [], rfl, hH1, hm0, by omega, rfl, by rw [List.drop_zero, hfr];simp, rfl⟩
 clear hH hH1 hfr
 rintro m e w5 ⟨k, cap, a, li, out, rfl, hH, hli, hk, hol, hres, hm⟩
 refine VR [6, 7, 18, 19, 20, 21] rfl rfl fun K hK => ?_;simp only [go_sem,↓reduceIte,reduceEqDiff]
 (refine hK _ _ ?_;clear hK)
 (repeat refine Qai ?_)
 refine Qab rfl rfl (fun h => ?_) (fun h => ?_)
 ·
  simp only [decide_eq_true_eq] at h
  have hdk : l.drop k = l.getD k 0 :: l.drop (k + 1) := drop_getD 0 (by omega)
  rw [hdk, Qdl] at hres
  have hr5 := hH.rs' hr
  obtain ⟨pa, rfl⟩ := Qcx hr (by omega)
  have hi64 := hi _ (Qbs 0 (l := l) (i := k) (by omega))
  have hcell := Qnd hr5 (i := k) (by omega)
  generalize l.getD k 0 = v at *
  refine Qaf ?_
  ((repeat refine Qai ?_);refine Qad ?_)
  refine VR [6, 7, 9, 18, 19, 20] rfl rfl fun K hK => ?_;simp only [go_sem,↓reduceIte,reduceEqDiff]
  refine ⟨⟨by omega, by omega⟩, _, hcell, ?_⟩
  (refine hK _ _ ?_;clear hK)
  refine VR [6, 7, 9, 18, 19, 20, 31] rfl rfl fun K hK => ?_;simp only [go_sem,↓reduceIte,reduceEqDiff]
  suffices hall : ∀ bb : Bool, (bb = true ↔ (v < 0 ∨ (sl_ : Int) <= v)) -> K [(6, .slice (some ⟨gl, 0, none⟩) sl_ cl), (7, .slice a out.length cap), (9, .int .i64 v), (18, .slice (some pa) n lc), (19, .int .i64 n), (20, .int .i64 k), (31, .bool bb)] w5 by (repeat' (first | exact hall _ _ (by first | omega | (simp;done) | (simp;omega)) | exact hall _ (by first | omega | (simp;done) | (simp;omega)) | refine ⟨fun _ => ?_, fun _ => ?_⟩ | refine And.intro (by omega) ?_))
  intro bb hbb
  (refine hK _ _ ?_;clear hK)
  refine Qab rfl rfl (fun h => ?_) (fun h => ?_)
  ·
   have h2 := hbb.1 h
   rw [if_neg (by omega)] at hres
   subst hres
   refine VR [4, 5] rfl rfl fun K hK => ?_;simp only [go_sem,↓reduceIte,reduceEqDiff]
   (refine hK _ _ ?_;clear hK)
   exact Qan (Qa9 rfl rfl rfl ⟨hH.sub (by simp), rfl⟩)
  have h2 : ¬ (v < 0 ∨ (sl_ : Int) <= v) := fun h3 => by have := hbb.2 h3;simp_all
  rw [if_pos (by omega)] at hres
  obtain ⟨at_, rfl⟩ : ∃ p : Nat, v = p := ⟨v.toNat, by omega⟩
  rw [Int.toNat_natCast] at hres
  clear hbb h
  refine Qaf ?_
  refine VR [6, 7, 18, 19, 20] rfl rfl fun K hK => ?_;simp only [go_sem,↓reduceIte,reduceEqDiff]
  have hc := Qpk li gl cl at_ (by omega) (by omega) w2 w5 [] _ (by rw [hli];exact hH.front 1 rfl)
  rw [hli] at hc
  refine Qag Tryz.call74 ?_;simp only [go_sem,↓reduceIte,reduceEqDiff];refine CallK.mk hc ?_
  clear hc
  rintro v w7 ⟨hH2, rfl⟩
  have hH3 := hH2.front 1 rfl
  simp only [List.eraseIdx_cons_succ, List.eraseIdx_cons_zero] at hH3
  refine Qc3 (xs := [.tmp 35]) Tryz.underlying43 sz5 rfl rfl rfl (by omega) ?_;simp only [go_sem,↓reduceIte,reduceEqDiff];refine ⟨by simp [Value.cells], ?_⟩
  refine Qa6 ?_;simp only [go_sem,↓reduceIte,reduceEqDiff];refine Qg0 hH3 0 (li.getD at_ 0) rfl Tryz.underlying43 zi5 (by first | rfl | (simp;done) | omega) (fun h => by (first | omega | (simp;done) | (simp;omega))) fun a' cap' w5 hc' hH4 => ?_;(try simp only [go_sem,↓reduceIte,reduceEqDiff])
  (refine hK _ _ ?_;clear hK)
  refine Qav ?_
  refine VR [6, 7, 18, 19, 20] rfl rfl fun K hK => ?_;simp only [go_sem,↓reduceIte,reduceEqDiff]
  ((repeat refine And.intro (by omega) ?_);refine hK _ _ ?_;clear hK)
  refine Qah ?_
  simp only [go_sem,↓reduceIte,reduceEqDiff]
  refine ⟨n - (k + 1), by omega, k + 1, cap', a', Qhq li at_, out ++ [li.getD at_ 0], rfl, hH4, by rw [Qlf (by omega)];exact hli, by omega, by simp [hol], ?_, rfl⟩
  rw [hres, Option.map_map]
  congr 1
  funext x
  simp
 ·
  simp only [decide_eq_false_iff_not] at h
  obtain rfl : k = n := by omega
  rw [List.drop_eq_nil_of_le (by omega), Qdl] at hres
  simp only [Option.map_some, List.append_nil] at hres
  subst hres
  refine Qap rfl ?_
  refine VR [4, 5] rfl rfl fun K hK => ?_;simp only [go_sem,↓reduceIte,reduceEqDiff]
  refine ⟨out, hH.readsBytes 0 rfl, ?_⟩
  (refine hK _ _ ?_;clear hK)
  exact Qan (Qa9 rfl rfl rfl ⟨hH.sub (by simp), rfl⟩)
theorem Qzc {li : List UInt8} {c : UInt8} (h : c ∈ li) : li.getD (li.idxOf c) 0 = c := by
 have h1 := List.idxOf_lt_length_iff.2 h
 rw [List.getD_eq_getElem?_getD, List.getElem?_eq_getElem h1, Option.getD_some]
 exact List.getElem_idxOf h1
theorem Qpm : ∀ (l li : List UInt8) (out : List Int), Qd4 li l = some out -> Qdl li out = some l
 | [], li, out, h => by
  simp only [Qd4, Option.some.injEq] at h
  subst h;rfl
 | c :: r, li, out, h => by
  rw [Qd4] at h
  split at h
  ·
   rename_i hc
   have h1 := List.idxOf_lt_length_iff.2 hc
   rw [Option.map_eq_some_iff] at h
   obtain ⟨out', h2, rfl⟩ := h
   rw [Qdl, if_pos (by omega), Int.toNat_natCast, Qpm r _ out' h2, Qzc hc]
   rfl
  ·
   cases h
theorem Qnx : ∀ (l li : List UInt8) (out : List Int), Qd4 li l = some out -> out.length = l.length /\ ∀ v ∈ out, 0 <= v /\ v < li.length
 | [], li, out, h => by
  simp only [Qd4, Option.some.injEq] at h
  subst h;simp
 | c :: r, li, out, h => by
  rw [Qd4] at h
  split at h
  ·
   rename_i hc
   have h1 := List.idxOf_lt_length_iff.2 hc
   rw [Option.map_eq_some_iff] at h
   obtain ⟨out', h2, rfl⟩ := h
   obtain ⟨h3, h4⟩ := Qnx r _ out' h2
   rw [Qlf h1] at h4
   refine ⟨by simp [h3], fun v hv => ?_⟩
   rcases List.mem_cons.1 hv with rfl | hv
   ·
    omega
   ·
    exact h4 v hv
  ·
   cases h
theorem Qzd {li : List UInt8} {at_ : Nat} (h : at_ < li.length) (c : UInt8) : c ∈ Qhq li at_ ↔ c ∈ li := by
 have e : li = li.take at_ ++ li.getD at_ 0 :: li.drop (at_ + 1) := by
  rw [<- Go.Eng.drop_getD 0 h, List.take_append_drop]
 unfold Qhq
 conv => rhs;rw [e]
 simp only [List.mem_cons, List.mem_append]
 constructor
 ·
  rintro (h | h | h)
  ·
   exact .inr (.inl h)
  ·
   exact .inl h
  ·
   exact .inr (.inr h)
 ·
  rintro (h | h | h)
  ·
   exact .inr (.inl h)
  ·
   exact .inl h
  ·
   exact .inr (.inr h)
theorem Qpn : ∀ (l li : List UInt8), (∀ c ∈ l, c ∈ li) -> ∃ out, Qd4 li l = some out
 | [], li, _ => ⟨[], rfl⟩
 | c :: r, li, h => by
  have hc := h c (by simp)
  have h1 := List.idxOf_lt_length_iff.2 hc
  obtain ⟨out, ho⟩ := Qpn r (Qhq li (li.idxOf c)) fun d hd => (Qzd h1 d).2 (h d (by simp [hd]))
  exact ⟨_, by rw [Qd4, if_pos hc, ho];rfl⟩
theorem Qg3 {l : List UInt8} {c : UInt8} : c ∈ Qbk l ↔ c ∈ l := by
 simp only [Qbk, Qjs, List.mem_map, List.mem_filter, List.mem_range, List.any_eq_true, beq_iff_eq]
 constructor
 ·
  rintro ⟨b, ⟨hb, d, hd, rfl⟩, rfl⟩
  simpa using hd
 ·
  intro h
  exact ⟨c.toNat, ⟨c.toNat_lt, c, h, rfl⟩, by simp⟩
theorem QFn : ∀ (l : List Nat), l.Pairwise (· < ·) -> (∀ b ∈ l, b < 256) -> ascB (l.map UInt8.ofNat) = true
 | [], _, _ => rfl
 | [_], _, _ => rfl
 | a :: b :: r, h, hb => by
  have h1 := List.pairwise_cons.1 h
  have ha := hb a (by simp)
  have hb1 := hb b (by simp)
  have h2 := h1.1 b (by simp)
  simp only [List.map_cons, ascB, Bool.and_eq_true, decide_eq_true_eq]
  refine ⟨by simp only [UInt8.toNat_ofNat'];omega, ?_⟩
  have := QFn (b :: r) h1.2 fun x hx => hb x (by simp [hx])
  simpa using this
theorem Qjt {l : List UInt8} (h : l ≠ []) : Ql1 (Qbk l) = true := by
 have h1 : ascB (Qbk l) = true := QFn _ (List.Pairwise.filter _ List.pairwise_lt_range) fun b hb => by simp at hb;exact hb.1
 have h2 : Qbk l ≠ [] := fun e => by
  cases l with
  | nil => exact h rfl
  | cons c r => have := (Qg3 (l := c :: r) (c := c)).2 (by simp);rw [e] at this;cases this
 rw [Ql1, h1]
 cases hu : Qbk l with
 | nil => exact absurd hu h2
 | cons => rfl
def memB (u : List UInt8) (b : Nat) : Bool := u.any fun c => c.toNat == b
def Qb2 (u : List UInt8) (i : Nat) : Bool := (List.range 16).any fun k => memB u (16 * i + k)
def rowS (u : List UInt8) (i : Nat) : List Bool := (List.range 16).map fun k => memB u (16 * i + k)
def Qfx (u : List UInt8) : List Bool := (List.range 16).map (Qb2 u) ++ (List.range 16).flatMap fun i => if Qb2 u i then rowS u i else []
def Qgm (i : Nat) (row : List Bool) : List UInt8 := ((List.range 16).filter fun k => row.getD k false).map fun k => UInt8.ofNat (16 * i + k)
def stGo (bits : List Bool) : List Bool -> Nat -> Nat -> Except Int (List UInt8 × Nat)
 | [], _, at_ => .ok ([], at_)
 | false :: r, i, at_ => stGo bits r (i + 1) at_
 | true :: r, i, at_ => if bits.length < at_ + 16 then .error 10 else match stGo bits r (i + 1) (at_ + 16) with
  | .error e => .error e
  | .ok q => .ok (Qgm i ((bits.drop at_).take 16) ++ q.1, q.2)
def Qe8 (bits : List Bool) (at_ : Nat) : Except Int (List UInt8 × Nat) :=
 if bits.length < at_ + 16 then .error 10 else match stGo bits ((bits.drop at_).take 16) 0 (at_ + 16) with
 | .error e => .error e
 | .ok q => if q.1 = [] then .error 60 else .ok q
theorem Qq1 (u : List UInt8) (i : Nat) : (rowS u i).length = 16 := by simp [rowS]
theorem Ql2 (u : List UInt8) (i : Nat) : Qgm i (rowS u i) = (((List.range 16).map fun k => 16 * i + k).filter (memB u)).map UInt8.ofNat := by
 unfold Qgm
 rw [List.filter_map, List.map_map]
 have : (List.range 16).filter (fun k => (rowS u i).getD k false) = (List.range 16).filter (memB u ∘ fun k => 16 * i + k) := by
  refine List.filter_congr fun k hk => ?_
  have hk : k < 16 := by simpa using hk
  simp [rowS, List.getD_eq_getElem?_getD, List.getElem?_range hk]
 rw [this];rfl
theorem Qq2 {u : List UInt8} {i : Nat} (h : Qb2 u i = false) : Qgm i (rowS u i) = [] := by
 rw [Ql2, List.map_eq_nil_iff, List.filter_eq_nil_iff]
 intro b hb
 obtain ⟨k, hk, rfl⟩ := List.mem_map.1 hb
 unfold Qb2 at h
 rw [List.any_eq_false] at h
 exact h k hk
theorem QI6 (u : List UInt8) : ∀ (n i : Nat) {bits : List Bool} {at_ : Nat} {r : List Bool}, bits.drop at_ = ((List.range' i n).flatMap fun i => if Qb2 u i then rowS u i else []) ++ r ->
  stGo bits ((List.range' i n).map (Qb2 u)) i at_ = .ok ((List.range' i n).flatMap (fun i => Qgm i (rowS u i)), at_ + ((List.range' i n).flatMap fun i => if Qb2 u i then rowS u i else []).length)
 | 0, i, bits, at_, r, _ => rfl
 | n + 1, i, bits, at_, r, hb => by
  rw [List.range'_succ] at hb ⊢
  simp only [List.map_cons, List.flatMap_cons, List.append_assoc] at hb ⊢
  cases h : Qb2 u i with
  | false =>
   rw [h] at hb
   simp only [Bool.false_eq_true, if_false, List.nil_append] at hb ⊢
   rw [stGo, QI6 u n (i + 1) hb, Qq2 h]
   simp
  | true =>
   rw [h] at hb
   simp only [if_true] at hb ⊢
   have hl := Qq1 u i
   have hlen : bits.length - at_ = (rowS u i).length + (((List.range' (i + 1) n).flatMap fun i => if Qb2 u i then rowS u i else []) ++ r).length := by rw [<- List.length_drop, hb, List.length_append]
   have ht : (bits.drop at_).take 16 = rowS u i := by
    rw [hb, List.take_append_of_le_length (by omega), List.take_of_length_le (by omega)]
   have hd := Qbl hb
   rw [hl] at hd
   rw [stGo, if_neg (by omega), QI6 u n (i + 1) hd, ht]
   simp [hl];omega
theorem QB6 (u : List UInt8) : (List.range 16).flatMap (fun i => Qgm i (rowS u i)) = ((List.range 256).filter (memB u)).map UInt8.ofNat := by
 have e : List.range 256 = (List.range 16).flatMap fun i => (List.range 16).map fun k => 16 * i + k := by decide
 rw [e, List.filter_flatMap, List.map_flatMap]
 simp only [Ql2]
theorem QB7 (l : List UInt8) (b : Nat) (hb : b < 256) : memB (Qbk l) b = l.any fun c => c.toNat == b := by
 unfold memB
 rw [Bool.eq_iff_iff, List.any_eq_true, List.any_eq_true]
 constructor
 ·
  rintro ⟨c, hc, h⟩;exact ⟨c, Qg3.1 hc, h⟩
 ·
  rintro ⟨c, hc, h⟩;exact ⟨c, Qg3.2 hc, h⟩
theorem Qze (l : List UInt8) : ((List.range 256).filter (memB (Qbk l))).map UInt8.ofNat = Qbk l := by
 conv => rhs;unfold Qbk Qjs
 congr 1
 refine List.filter_congr fun b hb => ?_
 rw [QB7 l b (by simpa using hb)]
theorem Qti (u : List UInt8) : (Qfx u).length <= 272 := by
 have h : ∀ m, ((List.range m).flatMap fun i => if Qb2 u i then rowS u i else []).length <= 16 * m := fun m => by
  induction m with
  | zero => simp
  | succ m ih =>
   rw [List.range_succ, List.flatMap_append, List.length_append]
   have : ((if Qb2 u m = true then rowS u m else []) : List Bool).length <= 16 := by split <;> simp [Qq1]
   simp only [List.flatMap_cons, List.flatMap_nil, List.append_nil]
   omega
 have := h 16
 unfold Qfx
 simp only [List.length_append, List.length_map, List.length_range]
 omega
theorem QE2 {l : List UInt8} (hl : l ≠ []) {bits : List Bool} {at_ : Nat} {r : List Bool} (hb : bits.drop at_ = Qfx (Qbk l) ++ r) : Qe8 bits at_ = .ok (Qbk l, at_ + (Qfx (Qbk l)).length) := by
 generalize hu : Qbk l = u at *
 rw [Qfx, List.append_assoc] at hb
 have h16 : ((List.range 16).map (Qb2 u)).length = 16 := by simp
 have hlen : bits.length - at_ = ((List.range 16).map (Qb2 u)).length + (((List.range 16).flatMap fun i => if Qb2 u i then rowS u i else []) ++ r).length := by rw [<- List.length_drop, hb, List.length_append]
 have ht : (bits.drop at_).take 16 = (List.range 16).map (Qb2 u) := by
  rw [hb, List.take_append_of_le_length (by omega), List.take_of_length_le (by omega)]
 have hd := Qbl hb
 rw [h16] at hd
 have hne : u ≠ [] := fun e => by
  cases l with
  | nil => exact hl rfl
  | cons c r => have := (Qg3 (l := c :: r) (c := c)).2 (by simp);rw [hu, e] at this;cases this
 rw [Qe8, if_neg (by omega), ht]
 have := QI6 u 16 0 (bits := bits) (at_ := at_ + 16) (r := r) (by rw [<- List.range_eq_range'];exact hd)
 rw [<- List.range_eq_range'] at this
 rw [this, QB6, <- hu, Qze]
 simp only
 rw [if_neg (by rw [hu];exact hne)]
 simp [Qfx];omega
theorem Qxf {l : List Bool} {n i : Nat} (hl : l.length = n) (hi : i < n) : (numB l / 2 ^ (n - 1 - i)) % 2 = (l.getD i false).toNat := by
 rw [Qjd]
 have h := Qhx n (numB l) i hi
 rw [<- hl, Qim, hl] at h
 rw [List.getD_eq_getElem?_getD, h];rfl
theorem Qtj {l : List Bool} (hl : l.length = 16) : numB l < 65536 := by have := Qe1 l;rw [hl] at this;exact this
def exV (r : Except Int (List UInt8 × Nat)) : Value := match r with
 | .ok q => .tuple #[Str q.1, .int .i64 q.2, .int .i64 0]
 | .error e => .tuple #[Str [], .int .i64 0, .int .i64 e]
def Qd5 (i : Nat) (row : List Bool) (n : Nat) : List UInt8 := ((List.range n).filter fun k => row.getD k false).map fun k => UInt8.ofNat (16 * i + k)
theorem Qon (i : Nat) (row : List Bool) (n : Nat) : Qd5 i row (n + 1) = Qd5 i row n ++ if row.getD n false = true then [UInt8.ofNat (16 * i + n)] else [] := by
 unfold Qd5
 rw [List.range_succ, List.filter_append, List.map_append]
 congr 1
 by_cases h : row.getD n false = true
 ·
  rw [if_pos h, List.filter_cons_of_pos (p := fun k => row.getD k false) h];rfl
 ·
  rw [if_neg h, List.filter_cons_of_neg (p := fun k => row.getD k false) h];rfl
theorem Qke (i : Nat) (row : List Bool) (n : Nat) : (Qd5 i row n).length <= n := by
 unfold Qd5;rw [List.length_map];exact Nat.le_trans (List.length_filter_le _ _) (by simp)
theorem Qtk (s : List UInt8) (at_ : Nat) (ha : at_ <= 8 * s.length) (hs : s.length <= 100000000000000) (w : World) :
  Does Tryz.prog 46 #[Str s, .int .i64 at_] w fun v w' => Heap w [] w' [] /\ v = exV (Qe8 (Qas s) at_) := by
 have hbl := Qbe s
 generalize hbits : Qas s = bits at *
 generalize hres : Qe8 bits at_ = res
 unfold Qe8 at hres
 refine Qak (args := [Str s, .int .i64 at_]) 74 Tryz.func46 rfl rfl (of_decide_eq_true rfl) ?_
 simp only [Env.ofArgs]
 refine VR [0, 1] rfl rfl fun K hK => ?_;simp only [go_sem,↓reduceIte,reduceEqDiff]
 (refine hK _ _ ?_;clear hK)
 refine VR [7] rfl rfl fun K hK => ?_;simp only [go_sem,↓reduceIte,reduceEqDiff]
 refine Qag Tryz.call86 ?_;simp only [go_sem,↓reduceIte,reduceEqDiff];refine CallK.mk (Qdr s at_ w (I64.mk (by omega) (by omega)) (by omega)) ?_
 rintro v w2 (⟨hbad, _⟩ | ⟨_, gr, gs, hH, rfl⟩)
 ·
  omega
 rw [Int.toNat_natCast] at hH
 (refine hK _ _ ?_;clear hK)
 refine VR [7, 19] rfl rfl fun K hK => ?_;simp only [go_sem,↓reduceIte,reduceEqDiff]
 (refine hK _ _ ?_;clear hK)
 refine Qab rfl rfl (fun h => by cases h) (fun h => Qaf ?_)
 refine VR [7, 8, 9] rfl rfl fun K hK => ?_;simp only [go_sem,↓reduceIte,reduceEqDiff]
 refine Qag Tryz.call87 ?_;simp only [go_sem,↓reduceIte,reduceEqDiff];refine CallK.mk (Qes gr gs s at_ 16 w2 (by omega) (by omega) (by omega) (hH.focus 0 rfl)) ?_
 rintro v w3 (⟨h1, rfl, rfl⟩ | ⟨h1, hH2, rfl⟩)
 ·
  rw [if_pos (by omega)] at hres
  subst hres
  (refine hK _ _ ?_;clear hK)
  refine VR [7, 8, 9, 26] rfl rfl fun K hK => ?_;simp only [go_sem,↓reduceIte,reduceEqDiff]
  (refine hK _ _ ?_;clear hK)
  refine Qab rfl rfl (fun h => ?_) (fun h => by cases h)
  refine VR [4, 5, 6] rfl rfl fun K hK => ?_;simp only [go_sem,↓reduceIte,reduceEqDiff]
  (refine hK _ _ ?_;clear hK)
  exact Qan (Qdy rfl rfl rfl rfl ⟨hH.sub (by simp), rfl⟩)
 rw [if_neg (by omega)] at hres
 have hH3 := hH.call1 0 rfl hH2
 clear hH2 hH
 rw [hbits]
 have hfl : ((bits.drop at_).take 16).length = 16 := by rw [List.length_take, List.length_drop];omega
 generalize (bits.drop at_).take 16 = fl at *
 have hfl2 := Qtj hfl
 (refine hK _ _ ?_;clear hK)
 refine VR [7, 8, 9, 26] rfl rfl fun K hK => ?_;simp only [go_sem,↓reduceIte,reduceEqDiff]
 (refine hK _ _ ?_;clear hK)
 refine Qab rfl rfl (fun h => by cases h) (fun h => Qaf ?_)
 refine VR [7, 8, 10] rfl rfl fun K hK => ?_;simp only [go_sem,↓reduceIte,reduceEqDiff]
 refine Qfn hH3 (Qao []) (xs := []) Tryz.underlying43 sz5 rfl rfl rfl (by omega) ?_;simp only [go_sem,↓reduceIte,reduceEqDiff];refine ⟨rfl, by simp [Value.cells], fun g w4 hH4 => ?_⟩;(try simp only [go_sem,↓reduceIte,reduceEqDiff])
 (refine hK _ _ ?_;clear hK)
 refine VR [7, 8, 10, 29] rfl rfl fun K hK => ?_;simp only [go_sem,↓reduceIte,reduceEqDiff]
 (refine hK _ _ ?_;clear hK)
 refine Qad ?_
 refine Qam [7, 8, 10, 29] (fun m e w' => ∃ (i cap p : Nat) (a : Option Addr) (out : List UInt8), Is e [(7, .pointer (some ⟨gr, 0, none⟩)), (8, .int .u64 (numB fl)), (10, .slice a out.length cap), (29, .int .i64 i)] /\ Heap w [] w' [Res.row 5 1 a out.length cap (Qao out), rd gr gs s p] /\ i <= 16 /\ p <= 8 * s.length /\ out.length <= 16 * i /\ (match stGo bits (fl.drop i) i p with | .error e => .error e | .ok q => if out ++ q.1 = [] then .error 60 else .ok (out ++ q.1, q.2)) = res /\ m = 16 - i) 16 ?_ ?_
 ·
  simp only [go_sem,↓reduceIte,reduceEqDiff]
  refine ⟨0, _, at_ + 16, _, [], rfl, hH4, by omega, by omega, by simp, ?_, rfl⟩
  rw [List.drop_zero, <- hres]
  cases stGo bits fl 0 (at_ + 16) <;> rfl
 clear hH3 hH4 hres
 rintro m e w' ⟨i, cap, p, a, out, rfl, hH, hi, hp, hol, hres, rfl⟩
 refine VR [7, 8, 10, 29, 30] rfl rfl fun K hK => ?_;simp only [go_sem,↓reduceIte,reduceEqDiff]
 (refine hK _ _ ?_;clear hK)
 (repeat refine Qai ?_)
 refine Qab rfl rfl (fun h => ?_) (fun h => ?_)
 ·
  simp only [decide_eq_true_eq] at h
  have hdi : fl.drop i = fl.getD i false :: fl.drop (i + 1) := drop_getD false (by omega)
  rw [hdi] at hres
  have hbit := Qxf hfl (i := i) (by omega)
  refine Qaf ?_
  ((repeat refine Qai ?_);refine Qad ?_)
  refine VR [7, 8, 10, 11, 29] rfl rfl fun K hK => ?_;simp only [go_sem,↓reduceIte,reduceEqDiff]
  (refine hK _ _ ?_;clear hK)
  have hsh : shN IntKind.u64 ((15 - (i : Int)) % 18446744073709551616) = 16 - 1 - i := Qyd (by omega) (by simp [IntKind.bits];omega) (by decide)
  refine VR [7, 8, 10, 11, 29, 38] rfl rfl fun K hK => ?_;simp only [go_sem,↓reduceIte,reduceEqDiff]
  rw [hsh, Qgh]
  have hle := Nat.div_le_self (numB fl) (2 ^ (16 - 1 - i))
  generalize numB fl / 2 ^ (16 - 1 - i) = q at *
  (repeat first | refine And.intro (by omega) ?_ | refine ⟨⟨by omega, by omega⟩, ?_⟩)
  rw [show Int.toNat 1 = 1 from rfl, Int.toNat_natCast, Nat.and_one_is_mod, hbit]
  (refine hK _ _ ?_;clear hK)
  cases hfi : fl.getD i false with
  | false =>
   rw [hfi, stGo] at hres
   refine Qab rfl rfl (fun h => ?_) (fun h => by simp [hfi] at h)
   refine Qap rfl ?_
   refine VR [7, 8, 10, 29] rfl rfl fun K hK => ?_;simp only [go_sem,↓reduceIte,reduceEqDiff]
   ((repeat refine And.intro (by omega) ?_);refine hK _ _ ?_;clear hK)
   refine Qah ?_
   simp only [go_sem,↓reduceIte,reduceEqDiff]
   exact ⟨16 - (i + 1), by omega, i + 1, cap, p, a, out, rfl, hH, by omega, hp, by omega, hres, rfl⟩
  | true =>
   rw [hfi, stGo] at hres
   refine Qab rfl rfl (fun h => by simp [hfi] at h) (fun h => Qaf ?_)
   refine VR [7, 8, 10, 11, 12, 13, 29] rfl rfl fun K hK => ?_;simp only [go_sem,↓reduceIte,reduceEqDiff]
   refine Qag Tryz.call87 ?_;simp only [go_sem,↓reduceIte,reduceEqDiff];refine CallK.mk (Qes gr gs s p 16 w' (by omega) (by omega) (by omega) (hH.focus 1 rfl)) ?_
   rintro v w3 (⟨h1, rfl, rfl⟩ | ⟨h1, hH2, rfl⟩)
   ·
    rw [if_pos (by omega)] at hres
    subst hres
    (refine hK _ _ ?_;clear hK)
    refine VR [7, 8, 10, 11, 12, 13, 29, 45] rfl rfl fun K hK => ?_;simp only [go_sem,↓reduceIte,reduceEqDiff]
    (refine hK _ _ ?_;clear hK)
    refine Qab rfl rfl (fun h => ?_) (fun h => by cases h)
    refine VR [4, 5, 6] rfl rfl fun K hK => ?_;simp only [go_sem,↓reduceIte,reduceEqDiff]
    (refine hK _ _ ?_;clear hK)
    exact Qan (Qdy rfl rfl rfl rfl ⟨hH.sub (by simp), rfl⟩)
   rw [if_neg (by omega)] at hres
   have hH3 := hH.call1 1 rfl hH2
   simp only [List.set_cons_succ, List.set_cons_zero, List.nil_append] at hH3
   clear hH2 hH
   rw [hbits]
   have hrow : ((bits.drop p).take 16).length = 16 := by rw [List.length_take, List.length_drop];omega
   generalize (bits.drop p).take 16 = row at *
   have hrow2 := Qtj hrow
   (refine hK _ _ ?_;clear hK)
   refine VR [7, 8, 10, 11, 12, 13, 29, 45] rfl rfl fun K hK => ?_;simp only [go_sem,↓reduceIte,reduceEqDiff]
   (refine hK _ _ ?_;clear hK)
   refine Qab rfl rfl (fun h => by cases h) (fun h => Qaf ?_)
   refine VR [7, 8, 10, 11, 12, 29, 47] rfl rfl fun K hK => ?_;simp only [go_sem,↓reduceIte,reduceEqDiff]
   (refine hK _ _ ?_;clear hK)
   refine Qad ?_
   refine Qam [7, 8, 10, 11, 12, 29, 47] (fun m e w' => ∃ (k cap : Nat) (a : Option Addr), Is e [(7, .pointer (some ⟨gr, 0, none⟩)), (8, .int .u64 (numB fl)), (10, .slice a (out ++ Qd5 i row k).length cap), (11, .int .i64 i), (12, .int .u64 (numB row)), (29, .int .i64 i), (47, .int .i64 k)] /\ Heap w [] w' [Res.row 5 1 a (out ++ Qd5 i row k).length cap (Qao (out ++ Qd5 i row k)), rd gr gs s (p + 16)] /\ k <= 16 /\ m = 16 - k) 16 ?_ ?_
   ·
    simp only [go_sem,↓reduceIte,reduceEqDiff]
    have e0 : out ++ Qd5 i row 0 = out := by simp [Qd5]
    refine ⟨0, cap, a, by rw [e0];rfl, by rw [e0];exact hH3, by omega, rfl⟩
   clear hH3
   rintro m e w4 ⟨k, cap, a, rfl, hH, hk, rfl⟩
   refine VR [7, 8, 10, 11, 12, 29, 47, 48] rfl rfl fun K hK => ?_;simp only [go_sem,↓reduceIte,reduceEqDiff]
   (refine hK _ _ ?_;clear hK)
   (repeat refine Qai ?_)
   refine Qab rfl rfl (fun h => ?_) (fun h => ?_)
   ·
    simp only [decide_eq_true_eq] at h
    have hbk := Qxf hrow (i := k) (by omega)
    have hsucc := Qon i row k
    have hlen := Qke i row k
    refine Qaf ?_
    ((repeat refine Qai ?_);refine Qad ?_)
    refine VR [7, 8, 10, 11, 12, 14, 29, 47] rfl rfl fun K hK => ?_;simp only [go_sem,↓reduceIte,reduceEqDiff]
    (refine hK _ _ ?_;clear hK)
    have hsh2 : shN IntKind.u64 ((15 - (k : Int)) % 18446744073709551616) = 16 - 1 - k := Qyd (by omega) (by simp [IntKind.bits];omega) (by decide)
    refine VR [7, 8, 10, 11, 12, 14, 29, 47, 56] rfl rfl fun K hK => ?_;simp only [go_sem,↓reduceIte,reduceEqDiff]
    rw [hsh2, Qgh]
    have hle2 := Nat.div_le_self (numB row) (2 ^ (16 - 1 - k))
    generalize numB row / 2 ^ (16 - 1 - k) = q2 at *
    (repeat first | refine And.intro (by omega) ?_ | refine ⟨⟨by omega, by omega⟩, ?_⟩)
    rw [show Int.toNat 1 = 1 from rfl, Int.toNat_natCast, Nat.and_one_is_mod, hbk]
    (refine hK _ _ ?_;clear hK)
    cases hrk : row.getD k false with
    | true =>
     rw [hrk, if_pos rfl] at hsucc
     refine Qab rfl rfl (fun h => ?_) (fun h => by simp [hrk] at h)
     refine VR [7, 8, 10, 11, 12, 29, 47] rfl rfl fun K hK => ?_;simp only [go_sem,↓reduceIte,reduceEqDiff]
     (repeat first | refine And.intro (by omega) ?_ | refine ⟨⟨by omega, by omega⟩, ?_⟩)
     rw [show ((16 * (i : Int) + k) % 256) = ((UInt8.ofNat (16 * i + k)).toNat : Int) by rw [UInt8.toNat_ofNat'];omega]
     refine Qc3 (xs := [.tmp 62]) Tryz.underlying43 sz5 rfl rfl rfl (by omega) ?_;simp only [go_sem,↓reduceIte,reduceEqDiff];refine ⟨by simp [Value.cells], ?_⟩
     refine Qa6 ?_;simp only [go_sem,↓reduceIte,reduceEqDiff];refine Qg0 hH 0 (UInt8.ofNat (16 * i + k)) rfl Tryz.underlying43 zi5 (by first | rfl | (simp;done) | omega) (fun h => by (first | omega | (simp;done) | (simp;omega))) fun a' cap' w5 hc' hH4 => ?_;(try simp only [go_sem,↓reduceIte,reduceEqDiff])
     rw [List.append_assoc, <- hsucc] at hH4 ⊢
     (refine hK _ _ ?_;clear hK)
     refine Qav ?_
     refine VR [7, 8, 10, 11, 12, 29, 47] rfl rfl fun K hK => ?_;simp only [go_sem,↓reduceIte,reduceEqDiff]
     ((repeat refine And.intro (by omega) ?_);refine hK _ _ ?_;clear hK)
     refine Qah ?_
     simp only [go_sem,↓reduceIte,reduceEqDiff]
     exact ⟨16 - (k + 1), by omega, k + 1, cap', a', rfl, hH4, by omega, rfl⟩
    | false =>
     rw [hrk, if_neg (by simp), List.append_nil] at hsucc
     refine Qab rfl rfl (fun h => by simp [hrk] at h) (fun h => Qaf ?_)
     refine Qav ?_
     refine VR [7, 8, 10, 11, 12, 29, 47] rfl rfl fun K hK => ?_;simp only [go_sem,↓reduceIte,reduceEqDiff]
     ((repeat refine And.intro (by omega) ?_);refine hK _ _ ?_;clear hK)
     refine Qah ?_
     simp only [go_sem,↓reduceIte,reduceEqDiff]
     exact ⟨16 - (k + 1), by omega, k + 1, cap, a, by rw [hsucc];rfl, by rw [hsucc];exact hH, by omega, rfl⟩
   ·
    simp only [decide_eq_false_iff_not] at h
    obtain rfl : k = 16 := by omega
    have hlen := Qke i row 16
    refine Qap rfl ?_
    refine Qav ?_
    refine VR [7, 8, 10, 29] rfl rfl fun K hK => ?_;simp only [go_sem,↓reduceIte,reduceEqDiff]
    ((repeat refine And.intro (by omega) ?_);refine hK _ _ ?_;clear hK)
    refine Qah ?_
    simp only [go_sem,↓reduceIte,reduceEqDiff]
    refine ⟨16 - (i + 1), by omega, i + 1, cap, p + 16, a, out ++ Qd5 i row 16, rfl, hH, by omega, by omega, by simp;omega, ?_, rfl⟩
    rw [<- hres]
    cases stGo bits (fl.drop (i + 1)) (i + 1) (p + 16) with
    | error e => rfl
    | ok q => simp only [List.append_assoc];rfl
 ·
  simp only [decide_eq_false_iff_not] at h
  obtain rfl : i = 16 := by omega
  rw [List.drop_eq_nil_of_le (by omega), stGo] at hres
  simp only [List.append_nil] at hres
  refine Qap rfl ?_
  refine VR [7, 10, 69] rfl rfl fun K hK => ?_;simp only [go_sem,↓reduceIte,reduceEqDiff]
  (refine hK _ _ ?_;clear hK)
  refine Qab rfl rfl (fun h => ?_) (fun h => Qaf ?_)
  ·
   simp only [decide_eq_true_eq] at h
   rw [if_pos (List.eq_nil_of_length_eq_zero (by omega))] at hres
   subst hres
   refine VR [4, 5, 6] rfl rfl fun K hK => ?_;simp only [go_sem,↓reduceIte,reduceEqDiff]
   (refine hK _ _ ?_;clear hK)
   exact Qan (Qdy rfl rfl rfl rfl ⟨hH.sub (by simp), rfl⟩)
  simp only [decide_eq_false_iff_not] at h
  rw [if_neg (fun e => h (by rw [e];rfl))] at hres
  subst hres
  (repeat refine Qai ?_);refine Qcq [4, 5, 6] (by kernel_rfl) (by kernel_rfl) rfl fun K hK => ?_;simp only [go_sem,↓reduceIte,reduceEqDiff]
  refine ⟨out, hH.readsBytes 0 rfl, ?_⟩
  refine Qus Tryz.call100 ?_;simp only [go_sem,↓reduceIte,reduceEqDiff];refine QCallK.mk (Qnf gr gs p s w' (hH.at 1 rfl)) ?_
  (refine hK _ ?_;clear hK)
  exact Qan (Qdy rfl rfl rfl rfl ⟨hH.sub (by simp), rfl⟩)
def Qc1 (f : Nat -> Bool) : List Bool := (List.range 16).map f
theorem Qf2 (f : Nat -> Bool) : (Qc1 f).length = 16 := by simp [Qc1]
theorem Qlh (f : Nat -> Bool) {k : Nat} (h : k < 16) : (Qc1 f)[k]? = some (f k) := by simp [Qc1, List.getElem?_range h]
theorem Qpo (f : Nat -> Bool) {k : Nat} (h : k < 16) : (numB (Qc1 f)).testBit (15 - k) = f k := by
 have h1 := Qhx 16 (numB (Qc1 f)) k h
 have h2 := Qim (Qc1 f)
 rw [Qf2] at h2
 rw [h2, Qlh f h] at h1
 simpa using h1.symm
theorem Qpp (f : Nat -> Bool) : Qbh 16 (numB (Qc1 f)) = Qc1 f := by
 have h2 := Qim (Qc1 f)
 rwa [Qf2] at h2
theorem Qkf (f : Nat -> Bool) : numB (Qc1 f) < 65536 := by have := Qe1 (Qc1 f);rw [Qf2] at this;exact this
theorem Qxg {f g : Nat -> Bool} {j : Nat} (hj : j < 16) (h : ∀ k, k < 16 -> g k = (f k || decide (k = j))) : numB (Qc1 f) ||| 2 ^ (15 - j) = numB (Qc1 g) := by
 have hlt : numB (Qc1 f) ||| 2 ^ (15 - j) < 65536 := Nat.or_lt_two_pow (n := 16) (Qkf f) (Nat.pow_lt_pow_right (by omega) (by omega))
 have e : Qbh 16 (numB (Qc1 f) ||| 2 ^ (15 - j)) = Qc1 g := by
  apply List.ext_getElem?
  intro k
  rcases Nat.lt_or_ge k 16 with hk | hk
  ·
   rw [Qhx 16 _ k hk, Qlh g hk, show 16 - 1 - k = 15 - k by omega, Nat.testBit_or, Qpo f hk, Nat.testBit_two_pow, h k hk]
   congr 2
   exact decide_eq_decide.2 (by omega)
  ·
   rw [List.getElem?_eq_none (by rw [Qaw];exact hk), List.getElem?_eq_none (by rw [Qf2];exact hk)]
 rw [<- e, Qd7, Nat.mod_eq_of_lt hlt]
theorem Qpq (f : Nat -> Bool) : numB (Qc1 f) = 0 ↔ ∀ k, k < 16 -> f k = false := by
 constructor
 ·
  intro h k hk
  have := Qpo f hk
  rw [h, Nat.zero_testBit] at this
  exact this.symm
 ·
  intro h
  have : Qc1 f = List.replicate 16 false := by
   apply List.ext_getElem?
   intro k
   rcases Nat.lt_or_ge k 16 with hk | hk
   ·
    rw [Qlh f hk, h k hk, List.getElem?_replicate, if_pos hk]
   ·
    rw [List.getElem?_eq_none (by rw [Qf2];exact hk), List.getElem?_eq_none (by simpa using hk)]
  rw [this, <- Qkt, Qd7]
theorem QL5 {n : Nat} (h : n <= 2 ^ 15) : ((n : Int)) % 18446744073709551616 = n := by
 have : n <= 32768 := h
 omega
def rowN (u : List UInt8) (i : Nat) : Nat := numB (Qc1 fun k => memB u (16 * i + k))
theorem Qtl (u : List UInt8) (i : Nat) : rowN u i = 0 ↔ Qb2 u i = false := by
 unfold rowN Qb2
 rw [Qpq, List.any_eq_false]
 simp
theorem QB8 (u : List UInt8) (c : UInt8) (i : Nat) : rowN (u ++ [c]) i = if i = c.toNat / 16 then rowN u i ||| 2 ^ (15 - c.toNat % 16) else rowN u i := by
 have hm : ∀ b, memB (u ++ [c]) b = (memB u b || decide (b = c.toNat)) := fun b => by
  simp only [memB, List.any_append, List.any_cons, List.any_nil, Bool.or_false]
  congr 1
  by_cases e : b = c.toNat
  ·
   subst e;simp
  ·
   rw [decide_eq_false e, beq_eq_false_iff_ne];exact Ne.symm e
 split
 ·
  rename_i h
  symm
  unfold rowN
  refine Qxg (by omega) fun k hk => ?_
  rw [hm]
  congr 1
  exact decide_eq_decide.2 (by omega)
 ·
  rename_i h
  unfold rowN Qc1
  congr 1
  refine List.map_congr_left fun k hk => ?_
  have hk : k < 16 := by simpa using hk
  rw [hm, decide_eq_false (by omega), Bool.or_false]
theorem Qtm (u : List UInt8) (hu : Ql1 u = true) (hl : u.length <= 1000000) (w : World) :
  Does Tryz.prog 39 #[Str u] w fun v w' => Heap w [] w' [] /\ v = .tuple #[Qjh (Qfx u), .int .i64 0] := by
 refine Qak (args := [Str u]) 69 Tryz.func39 rfl rfl (of_decide_eq_true rfl) ?_
 simp only [Env.ofArgs]
 refine VR [0, 2] rfl rfl fun K hK => ?_;simp only [go_sem,↓reduceIte,reduceEqDiff]
 refine Qat (.agg #[.string ⟨#[]⟩, .int .i64 0]) (by kernel_rfl) ?_
 simp only [go_sem,↓reduceIte,reduceEqDiff]
 have hH := (Heap.start w).box 24 [.string ⟨#[]⟩, .int .i64 0]
 generalize w.alloc (Obj.cells [Value.string ⟨#[]⟩, .int .i64 0].toArray 24) = w1 at *
 generalize w.heap.size = gr at *
 (refine hK _ _ ?_;clear hK)
 refine VR [0, 2, 14] rfl rfl fun K hK => ?_;simp only [go_sem,↓reduceIte,reduceEqDiff]
 refine Qag Tryz.call73 ?_;simp only [go_sem,↓reduceIte,reduceEqDiff];refine CallK.mk (Qjr u (by omega) w1) ?_
 rintro v w2 ⟨rfl, rfl⟩
 rw [hu]
 simp only [go_sem,↓reduceIte,reduceEqDiff]
 (refine hK _ _ ?_;clear hK)
 refine Qab rfl rfl (fun h => by simp at h) (fun h => Qaf ?_)
 refine VR [0, 2, 4] rfl rfl fun K hK => ?_;simp only [go_sem,↓reduceIte,reduceEqDiff]
 refine Qat (.agg (u64V (List.replicate 16 0)).toArray) (by kernel_rfl) ?_
 simp only [go_sem,↓reduceIte,reduceEqDiff]
 have hH1 := hH.box 124 (u64V (List.replicate 16 0))
 generalize w2.alloc (Obj.cells (u64V (List.replicate 16 0)).toArray 124) = w3 at *
 generalize w2.heap.size = gt at *
 clear hH
 (refine hK _ _ ?_;clear hK)
 generalize hn : u.length = n at *
 refine VR [0, 2, 4, 17, 18] rfl rfl fun K hK => ?_;simp only [go_sem,↓reduceIte,reduceEqDiff]
 rw [hn]
 (refine hK _ _ ?_;clear hK)
 refine Qad ?_
 refine Qam [0, 2, 4, 17, 18] (fun m e w' => ∃ (k : Nat) (R : List Nat), Is e [(0, Str u), (2, .pointer (some ⟨gr, 0, none⟩)), (4, .pointer (some ⟨gt, 0, none⟩)), (17, .int .i64 n), (18, .int .i64 k)] /\ Heap w [] w' [Res.blk gt 124 (u64V R), Res.blk gr 24 [.string ⟨#[]⟩, .int .i64 0]] /\ R.length = 16 /\ (∀ i, i < 16 -> R.getD i 0 = rowN (u.take k) i) /\ k <= n /\ m = n - k) n ?_ ?_
 ·
  simp only [go_sem,↓reduceIte,reduceEqDiff]
  refine ⟨0, _, rfl, hH1, by simp, fun i hi => ?_, by omega, rfl⟩
  rw [List.getD_eq_getElem?_getD, List.getElem?_replicate, if_pos hi, List.take_zero]
  exact ((Qtl [] i).2 (by simp [Qb2, memB])).symm
 clear hH1
 rintro m e w4 ⟨k, R, rfl, hH, hR, hRk, hk, rfl⟩
 refine VR [0, 2, 4, 17, 18, 19] rfl rfl fun K hK => ?_;simp only [go_sem,↓reduceIte,reduceEqDiff]
 (refine hK _ _ ?_;clear hK)
 (repeat refine Qai ?_)
 refine Qab rfl rfl (fun h => ?_) (fun h => ?_)
 ·
  simp only [decide_eq_true_eq] at h
  have htk := Qd2 0 (l := u) (i := k) (by omega)
  have hc := (u.getD k 0).toNat_lt
  refine Qaf ?_
  ((repeat refine Qai ?_);refine Qad ?_)
  refine VR [0, 2, 4, 5, 17, 18] rfl rfl fun K hK => ?_;simp only [go_sem,↓reduceIte,reduceEqDiff]
  (refine hK _ _ ?_;clear hK)
  have hr1 := hRk ((u.getD k 0).toNat / 16) (by omega)
  have hrl := Qkf fun j => memB (u.take k) (16 * ((u.getD k 0).toNat / 16) + j)
  have hsn := QB8 (u.take k) (u.getD k 0)
  rw [<- htk] at hsn
  generalize hcc : (u.getD k 0).toNat = c at *
  (repeat refine Qai ?_);refine Qa8 [0, 2, 4, 17, 18] 14 (by kernel_rfl) (by kernel_rfl) (by kernel_rfl) rfl fun K hK => ?_;simp only [go_sem,↓reduceIte,reduceEqDiff]
  rw [hn, hcc]
  have hand : c &&& 15 = c % 16 := Nat.and_two_pow_sub_one_eq_mod c 4
  have hshr : shN IntKind.u8 4 = 4 := by decide
  have hdiv : (c : Int) / 2 ^ 4 = ((c / 16 : Nat) : Int) := by push_cast;rfl
  rw [hshr, hdiv]
  have hsh : shN IntKind.u64 ((15 - ((c % 16 : Nat) : Int)) % 256) = 15 - c % 16 := Qo8 (by omega) (by simp [IntKind.bits];omega)
  have hp2 : 2 ^ (15 - c % 16) <= 2 ^ 15 := Nat.pow_le_pow_right (by omega) (by omega)
  have hp : ((1 : Int) * 2 ^ (15 - c % 16)) % 18446744073709551616 = ((2 ^ (15 - c % 16) : Nat) : Int) := by
   rw [show (1 : Int) * 2 ^ (15 - c % 16) = ((2 ^ (15 - c % 16) : Nat) : Int) by push_cast;exact Int.one_mul _]
   exact QL5 hp2
  rw [show Int.toNat 15 = 15 from rfl, hand, hsh, hp, Int.toNat_natCast]
  have hx : R.getD (c / 16) 0 < 65536 := by rw [hr1];exact hrl
  refine ⟨⟨by omega, by omega⟩, by omega, ⟨by omega, by omega⟩, _, Qac (hH.at 0 rfl) (Qqd (by omega)), ⟨by omega, by omega⟩, ⟨by omega, by omega⟩, ⟨by omega, by omega⟩, by omega, ?_⟩
  simp only [go_sem,↓reduceIte,reduceEqDiff]
  have hi15 : 2 ^ (15 - c % 16) <= 32768 := hp2
  generalize 2 ^ (15 - c % 16) = pw at *
  refine ⟨⟨by omega, by omega⟩, ⟨by omega, by omega⟩, ⟨by omega, by omega⟩, ?_⟩
  refine Qae ?_
  simp only [go_sem,↓reduceIte,reduceEqDiff]
  refine Qal hH 0 (o := c / 16) (vs := [.int .u64 ((R.getD (c / 16) 0 ||| pw : Nat) : Int)]) rfl rfl (by kernel_rfl) (by rw [Qmi, List.length_singleton];omega) (by simp [Value.oneCell']) fun w6 hH2 => ?_
  simp only [List.length_singleton, Qb1 (u64V R) _ _ (show c / 16 < (u64V R).length by rw [Qmi];omega), QD6, List.set_cons_zero] at hH2
  (refine hK _ _ ?_;clear hK)
  refine Qav ?_
  refine VR [0, 2, 4, 17, 18] rfl rfl fun K hK => ?_;simp only [go_sem,↓reduceIte,reduceEqDiff]
  ((repeat refine And.intro (by omega) ?_);refine hK _ _ ?_;clear hK)
  refine Qah ?_
  simp only [go_sem,↓reduceIte,reduceEqDiff]
  refine ⟨n - (k + 1), by omega, k + 1, _, rfl, hH2, by simp [hR], fun i hi => ?_, by omega, rfl⟩
  rw [hsn i, <- hRk i hi]
  simp only [List.getD_eq_getElem?_getD, List.getElem?_set]
  by_cases e : c / 16 = i
  ·
   rw [if_pos e, if_pos (by omega), if_pos e.symm, <- e];rfl
  ·
   rw [if_neg e, if_neg (Ne.symm e)]
 simp only [decide_eq_false_iff_not] at h
 obtain rfl : k = n := by omega
 refine Qap rfl ?_
 rw [List.take_of_length_le (by omega)] at hRk
 generalize k = n at *
 refine VR [2, 4, 6, 7] rfl rfl fun K hK => ?_;simp only [go_sem,↓reduceIte,reduceEqDiff]
 refine Qag Tryz.call35 ?_;simp only [go_sem,↓reduceIte,reduceEqDiff];refine CallK.mk (Qdq w4) ?_
 rintro v w5 ⟨gw, hH2, rfl⟩
 have hH3 := hH.call0 hH2
 clear hH hH2
 (refine hK _ _ ?_;clear hK)
 refine VR [2, 4, 6, 7, 37, 38] rfl rfl fun K hK => ?_;simp only [go_sem,↓reduceIte,reduceEqDiff]
 refine ⟨u64V R, ⟨by rw [Qmi, hR], Qa1 (hH3.at 1 rfl)⟩, ?_⟩
 (refine hK _ _ ?_;clear hK)
 have hflag : ∀ i, i < 16 -> (R.getD i 0 = 0 ↔ Qb2 u i = false) := fun i hi => by rw [hRk i hi, Qtl]
 refine Qad ?_
 refine Qam [2, 4, 6, 7, 37, 38] (fun m e w' => ∃ (i : Nat), Is e [(2, .pointer (some ⟨gr, 0, none⟩)), (4, .pointer (some ⟨gt, 0, none⟩)), (6, .pointer (some ⟨gw, 0, none⟩)), (7, .int .u64 (numB (Qc1 fun j => decide (j < i) && Qb2 u j) : Nat)), (37, .agg (u64V R).toArray), (38, .int .i64 i)] /\ Is w' w5 /\ i <= 16 /\ m = 16 - i) 16 ?_ ?_
 ·
  simp only [go_sem,↓reduceIte,reduceEqDiff]
  have e0 : numB (Qc1 fun j => decide (j < 0) && Qb2 u j) = 0 := (Qpq _).2 fun k _ => by simp
  exact ⟨0, by rw [e0];rfl, rfl, by omega, rfl⟩
 rintro m e w6 ⟨i, rfl, rfl, hi, rfl⟩
 refine VR [2, 4, 6, 7, 37, 38, 39] rfl rfl fun K hK => ?_;simp only [go_sem,↓reduceIte,reduceEqDiff]
 (refine hK _ _ ?_;clear hK)
 (repeat refine Qai ?_)
 refine Qab rfl rfl (fun h => ?_) (fun h => ?_)
 ·
  simp only [decide_eq_true_eq] at h
  have hvn : vNth (u64V R) i = fun K => K (.int .u64 (R.getD i 0 : Nat)) := by
   funext K
   exact Qu1 (Qqd (by omega))
  have hfl := hflag i (by omega)
  refine Qaf ?_
  ((repeat refine Qai ?_);refine Qad ?_)
  refine VR [2, 4, 6, 7, 8, 9, 37, 38] rfl rfl fun K hK => ?_;simp only [go_sem,↓reduceIte,reduceEqDiff]
  rw [hvn]
  dsimp only
  refine ⟨⟨by omega, by omega⟩, ?_⟩
  (refine hK _ _ ?_;clear hK)
  refine VR [2, 4, 6, 7, 8, 37, 38, 43] rfl rfl fun K hK => ?_;simp only [go_sem,↓reduceIte,reduceEqDiff]
  (refine hK _ _ ?_;clear hK)
  refine Qab rfl rfl (fun h => ?_) (fun h => ?_)
  ·
   simp only [decide_eq_true_eq] at h
   have hrt : Qb2 u i = true := by
    cases hb : Qb2 u i with
    | true => rfl
    | false => have := hfl.2 hb;omega
   have hor := Qxg (f := fun j => decide (j < i) && Qb2 u j) (g := fun j => decide (j < i + 1) && Qb2 u j) (j := i) (by omega) (fun k hk => by
    by_cases e : k = i
    ·
     subst e;simp [hrt]
    ·
     rw [decide_eq_false e, Bool.or_false]
     congr 1
     exact decide_eq_decide.2 (by omega))
   have hlt := Qkf fun j => decide (j < i) && Qb2 u j
   generalize numB (Qc1 fun j => decide (j < i) && Qb2 u j) = q at *
   have hsh : shN IntKind.u64 ((15 - (i : Int)) % 18446744073709551616) = 15 - i := Qyd (by omega) (by simp [IntKind.bits];omega) (by decide)
   have hp2 : 2 ^ (15 - i) <= 2 ^ 15 := Nat.pow_le_pow_right (by omega) (by omega)
   have hp : ((1 : Int) * 2 ^ (15 - i)) % 18446744073709551616 = ((2 ^ (15 - i) : Nat) : Int) := by
    rw [show (1 : Int) * 2 ^ (15 - i) = ((2 ^ (15 - i) : Nat) : Int) by push_cast;exact Int.one_mul _]
    exact QL5 hp2
   refine VR [2, 4, 6, 7, 37, 38] rfl rfl fun K hK => ?_;simp only [go_sem,↓reduceIte,reduceEqDiff]
   rw [hsh, hp]
   have hi15 : 2 ^ (15 - i) <= 32768 := hp2
   generalize 2 ^ (15 - i) = pw at *
   (repeat first | refine And.intro (by omega) ?_ | refine ⟨⟨by omega, by omega⟩, ?_⟩)
   simp only [go_sem,↓reduceIte,reduceEqDiff]
   rw [hor]
   (refine hK _ _ ?_;clear hK)
   refine Qav ?_
   refine VR [2, 4, 6, 7, 37, 38] rfl rfl fun K hK => ?_;simp only [go_sem,↓reduceIte,reduceEqDiff]
   ((repeat refine And.intro (by omega) ?_);refine hK _ _ ?_;clear hK)
   refine Qah ?_
   simp only [go_sem,↓reduceIte,reduceEqDiff]
   exact ⟨16 - (i + 1), by omega, i + 1, rfl, rfl, by omega, rfl⟩
  ·
   simp only [decide_eq_false_iff_not] at h
   have hrf : Qb2 u i = false := hfl.1 (by omega)
   have he : (fun j => decide (j < i + 1) && Qb2 u j) = fun j => decide (j < i) && Qb2 u j := by
    funext k
    by_cases e : k = i
    ·
     subst e;simp [hrf]
    ·
     congr 1
     exact decide_eq_decide.2 (by omega)
   refine Qaf ?_
   refine Qav ?_
   refine VR [2, 4, 6, 7, 37, 38] rfl rfl fun K hK => ?_;simp only [go_sem,↓reduceIte,reduceEqDiff]
   ((repeat refine And.intro (by omega) ?_);refine hK _ _ ?_;clear hK)
   refine Qah ?_
   simp only [go_sem,↓reduceIte,reduceEqDiff]
   exact ⟨16 - (i + 1), by omega, i + 1, by rw [he];rfl, rfl, by omega, rfl⟩
 simp only [decide_eq_false_iff_not] at h
 obtain rfl : i = 16 := by omega
 have hall : numB (Qc1 fun j => decide (j < 16) && Qb2 u j) = numB (Qc1 (Qb2 u)) := by
  congr 1
 rw [hall]
 refine Qap rfl ?_
 refine VR [2, 4, 6] rfl rfl fun K hK => ?_;simp only [go_sem,↓reduceIte,reduceEqDiff]
 refine Qag Tryz.call36 ?_;simp only [go_sem,↓reduceIte,reduceEqDiff];refine CallK.mk (Qc4 gw none 0 [] _ 16 w6 (by omega) (Qkf _) (by simp) (hH3.focus 0 rfl)) ?_
 rintro v w7 ⟨a2, c2, hHw, rfl⟩
 rw [List.nil_append, Qpp] at hHw
 have hH4 := hH3.call1 0 rfl hHw
 simp only [List.set_cons_zero, List.nil_append] at hH4
 clear hH3 hHw
 (refine hK _ _ ?_;clear hK)
 refine VR [2, 6, 54, 55] rfl rfl fun K hK => ?_;simp only [go_sem,↓reduceIte,reduceEqDiff]
 refine ⟨u64V R, ⟨by rw [Qmi, hR], Qa1 (hH4.at 1 rfl)⟩, ?_⟩
 (refine hK _ _ ?_;clear hK)
 refine Qad ?_
 refine Qam [2, 6, 54, 55] (fun m e w' => ∃ (i : Nat) (a : Option Addr) (c : Nat), Is e [(2, .pointer (some ⟨gr, 0, none⟩)), (6, .pointer (some ⟨gw, 0, none⟩)), (54, .agg (u64V R).toArray), (55, .int .i64 i)] /\ Heap w [] w' [wr gw a c (Qc1 (Qb2 u) ++ (List.range i).flatMap fun i => if Qb2 u i then rowS u i else []), Res.blk gt 124 (u64V R), Res.blk gr 24 [.string ⟨#[]⟩, .int .i64 0]] /\ i <= 16 /\ ((List.range i).flatMap fun i => if Qb2 u i then rowS u i else []).length <= 16 * i /\ m = 16 - i) 16 ?_ ?_
 ·
  simp only [go_sem,↓reduceIte,reduceEqDiff]
  exact ⟨0, a2, c2, rfl, by simpa using hH4, by omega, by simp, rfl⟩
 clear hH4
 rintro m e w8 ⟨i, a, c, rfl, hH, hi, hlen, rfl⟩
 refine VR [2, 6, 54, 55, 56] rfl rfl fun K hK => ?_;simp only [go_sem,↓reduceIte,reduceEqDiff]
 (refine hK _ _ ?_;clear hK)
 (repeat refine Qai ?_)
 refine Qab rfl rfl (fun h => ?_) (fun h => ?_)
 ·
  simp only [decide_eq_true_eq] at h
  have hvn : vNth (u64V R) i = fun K => K (.int .u64 (R.getD i 0 : Nat)) := by
   funext K
   exact Qu1 (Qqd (by omega))
  have hfl := hflag i (by omega)
  have hRi := hRk i (by omega)
  have hs1 : ((List.range (i + 1)).flatMap fun i => if Qb2 u i then rowS u i else []) = ((List.range i).flatMap fun i => if Qb2 u i then rowS u i else []) ++ (if Qb2 u i then rowS u i else []) := by
   rw [List.range_succ, List.flatMap_append];simp
  have hrl := Qq1 u i
  generalize ((List.range i).flatMap fun i => if Qb2 u i then rowS u i else []) = acc at *
  refine Qaf ?_
  ((repeat refine Qai ?_);refine Qad ?_)
  refine VR [2, 6, 11, 54, 55] rfl rfl fun K hK => ?_;simp only [go_sem,↓reduceIte,reduceEqDiff]
  rw [hvn]
  dsimp only
  refine ⟨⟨by omega, by omega⟩, ?_⟩
  (refine hK _ _ ?_;clear hK)
  refine VR [2, 6, 11, 54, 55, 59] rfl rfl fun K hK => ?_;simp only [go_sem,↓reduceIte,reduceEqDiff]
  (refine hK _ _ ?_;clear hK)
  refine Qab rfl rfl (fun h => ?_) (fun h => ?_)
  ·
   simp only [decide_eq_true_eq] at h
   have hrt : Qb2 u i = true := by
    cases hb : Qb2 u i with
    | true => rfl
    | false => have := hfl.2 hb;omega
   rw [hrt, if_pos rfl] at hs1
   refine VR [2, 6, 54, 55] rfl rfl fun K hK => ?_;simp only [go_sem,↓reduceIte,reduceEqDiff]
   rw [hRi]
   refine Qag Tryz.call36 ?_;simp only [go_sem,↓reduceIte,reduceEqDiff];refine CallK.mk (Qc4 gw a c (Qc1 (Qb2 u) ++ acc) (rowN u i) 16 w8 (by omega) (Qkf _) (by rw [List.length_append, Qf2];omega) (hH.focus 0 rfl)) ?_
   rintro v w9 ⟨a3, c3, hHw, rfl⟩
   have hH2 := hH.call1 0 rfl hHw
   rw [rowN, Qpp, List.append_assoc] at hH2
   simp only [List.set_cons_zero, List.nil_append] at hH2
   (refine hK _ _ ?_;clear hK)
   refine Qav ?_
   refine VR [2, 6, 54, 55] rfl rfl fun K hK => ?_;simp only [go_sem,↓reduceIte,reduceEqDiff]
   ((repeat refine And.intro (by omega) ?_);refine hK _ _ ?_;clear hK)
   refine Qah ?_
   simp only [go_sem,↓reduceIte,reduceEqDiff]
   exact ⟨16 - (i + 1), by omega, i + 1, a3, c3, rfl, by rw [hs1];exact hH2, by omega, by rw [hs1, List.length_append];omega, rfl⟩
  ·
   simp only [decide_eq_false_iff_not] at h
   have hrf : Qb2 u i = false := hfl.1 (by omega)
   rw [hrf, if_neg (by simp), List.append_nil] at hs1
   refine Qaf ?_
   refine Qav ?_
   refine VR [2, 6, 54, 55] rfl rfl fun K hK => ?_;simp only [go_sem,↓reduceIte,reduceEqDiff]
   ((repeat refine And.intro (by omega) ?_);refine hK _ _ ?_;clear hK)
   refine Qah ?_
   simp only [go_sem,↓reduceIte,reduceEqDiff]
   exact ⟨16 - (i + 1), by omega, i + 1, a, c, rfl, by rw [hs1];exact hH, by omega, by rw [hs1];omega, rfl⟩
 simp only [decide_eq_false_iff_not] at h
 obtain rfl : i = 16 := by omega
 refine Qap rfl ?_
 have hH : Heap w [] w8 [wr gw a c (Qfx u), Res.blk gt 124 (u64V R), Res.blk gr 24 [.string ⟨#[]⟩, .int .i64 0]] := hH
 refine VR [2, 3] rfl rfl fun K hK => ?_;simp only [go_sem,↓reduceIte,reduceEqDiff]
 refine Qag Tryz.call37 ?_;simp only [go_sem,↓reduceIte,reduceEqDiff];refine CallK.mk (Qg2 gw a c _ w8 (hH.at 0 rfl)) ?_
 rintro v w9 ⟨rfl, rfl⟩
 refine Qag Tryz.call38 ?_;simp only [go_sem,↓reduceIte,reduceEqDiff];refine CallK.mk (Qir gw a c _ w9 (hH.at 0 rfl)) ?_
 rintro v w10 ⟨rfl, rfl⟩
 simp only [go_sem,↓reduceIte,reduceEqDiff]
 refine Qae ?_
 simp only [go_sem,↓reduceIte,reduceEqDiff]
 refine Qal hH 2 (vs := Qbg (Qfx u)) rfl rfl (by kernel_rfl) (by simp [Qbg]) (by simp [Qbg, Value.oneCell']) fun w11 hH2 => ?_
 have hH2 : Heap w [] w11 [wr gw a c (Qfx u), Res.blk gt 124 (u64V R), Res.blk gr 24 (Qbg (Qfx u))] := hH2
 (refine hK _ _ ?_;clear hK)
 refine Qan (Qeg rfl rfl rfl (Qbu (hH2.at 2 rfl) (by kernel_rfl) (by kernel_rfl) rfl ?_))
 exact ⟨hH2.sub (by simp), rfl⟩
def sh1 (r : Nat) : Nat := if 2147483648 <= r then (r * 2 % 4294967296) ^^^ 79764919 else r * 2 % 4294967296
def shK : Nat -> Nat -> Nat
 | 0, r => r
 | k + 1, r => sh1 (shK k r)
def tab (i : Nat) : Nat := shK 8 (i * 16777216)
def Qny (r : Nat) (b : UInt8) : Nat := (r * 256 % 4294967296) ^^^ tab (r / 16777216 ^^^ b.toNat)
def Qgq (r : Nat) (s : List UInt8) : Nat := s.foldl Qny r
def Qd6 (s : List UInt8) : Nat := 4294967295 - Qgq 4294967295 s
def u32V (l : List Nat) : List Value := l.map fun (n : Nat) => Value.int .u32 (n : Int)
theorem Qkg (l : List Nat) : (u32V l).length = l.length := by simp [u32V]
theorem QE3 {l : List Nat} {i : Nat} (h : i < l.length) : (u32V l)[i]? = some (.int .u32 ((l.getD i 0 : Nat) : Int)) := by
 simp [u32V, List.getElem?_eq_getElem h, List.getD_eq_getElem?_getD]
theorem QL6 {r : Nat} (h : r < 4294967296) : sh1 r < 4294967296 := by
 unfold sh1
 split
 ·
  exact Nat.xor_lt_two_pow (n := 32) (Nat.mod_lt _ (by decide)) (by decide)
 ·
  exact Nat.mod_lt _ (by decide)
theorem QB9 {r : Nat} (h : r < 4294967296) : ∀ k, shK k r < 4294967296
 | 0 => h
 | k + 1 => QL6 (QB9 h k)
theorem QFo (i : Nat) (h : i < 256) : tab i < 4294967296 := by
 unfold tab
 exact QB9 (by omega) 8
theorem Qzf {r : Nat} (h : r < 4294967296) (b : UInt8) : Qny r b < 4294967296 := by
 unfold Qny
 refine Nat.xor_lt_two_pow (n := 32) (Nat.mod_lt _ (by decide)) (QFo _ ?_)
 have := b.toNat_lt
 exact Nat.xor_lt_two_pow (n := 8) (by omega) (by omega)
theorem Qiy (s : List UInt8) : ∀ {r : Nat}, r < 4294967296 -> Qgq r s < 4294967296 := by
 induction s with
 | nil => intro r h;exact h
 | cons b s ih => intro r h;exact ih (Qzf h b)
theorem Qtn (r : Nat) (s : List UInt8) (b : UInt8) : Qgq r (s ++ [b]) = Qny (Qgq r s) b := by simp [Qgq]
def tabs : List Nat := (List.range 256).map tab
theorem Qmo : tabs.length = 256 := by
 unfold tabs
 rw [List.length_map, List.length_range]
theorem QE4 {i : Nat} (h : i < 256) : tabs.getD i 0 = tab i := by
 unfold tabs
 rw [List.getD_eq_getElem?_getD, List.getElem?_map, List.getElem?_range h, Option.map_some, Option.getD_some]
theorem QI7 {r : Nat} (h : r < 4294967296) : r &&& 2147483648 = if 2147483648 <= r then 2147483648 else 0 := by
 rw [show (2147483648 : Nat) = 2 ^ 31 from rfl]
 apply Nat.eq_of_testBit_eq
 intro j
 rw [Nat.testBit_and, Nat.testBit_two_pow]
 by_cases hj : 31 = j
 ·
  subst hj
  rw [Nat.testBit_eq_decide_div_mod_eq]
  by_cases h1 : 2 ^ 31 <= r
  ·
   have : r / 2 ^ 31 % 2 = 1 := by omega
   rw [if_pos h1, this, Nat.testBit_two_pow];rfl
  ·
   have : r / 2 ^ 31 % 2 = 0 := by omega
   rw [if_neg h1, this];simp
 ·
  simp only [hj, decide_false, Bool.and_false]
  split
  ·
   rw [Nat.testBit_two_pow];simp [hj]
  ·
   simp
theorem Qzg (w : World) : Does Tryz.prog 121 #[] w fun v w' => Heap w [] w' [] /\ v = .agg (u32V tabs).toArray := by
 refine Qak (args := []) 26 Tryz.func121 rfl rfl (of_decide_eq_true rfl) ?_
 simp only [Env.ofArgs]
 refine VR [0] rfl rfl fun K hK => ?_;simp only [go_sem,↓reduceIte,reduceEqDiff]
 refine Qat (.agg (u32V (List.replicate 256 0)).toArray) (by kernel_rfl) ?_
 have hH := (Heap.start w).box 162 (u32V (List.replicate 256 0))
 have ecells : (Value.agg (u32V (List.replicate 256 0)).toArray).cells = (u32V (List.replicate 256 0)).toArray := rfl
 rw [ecells]
 generalize w.alloc (Obj.cells (u32V (List.replicate 256 0)).toArray 162) = w1 at *
 generalize w.heap.size = g0 at *
 simp only [go_sem,↓reduceIte,reduceEqDiff]
 (refine hK _ _ ?_;clear hK)
 refine VR [0, 1] rfl rfl fun K hK => ?_;simp only [go_sem,↓reduceIte,reduceEqDiff]
 refine Qat (.agg (u32V (List.replicate 256 0)).toArray) (by kernel_rfl) ?_
 have hH2 := hH.box 162 (u32V (List.replicate 256 0))
 rw [ecells]
 generalize w1.alloc (Obj.cells (u32V (List.replicate 256 0)).toArray 162) = w2 at *
 generalize w1.heap.size = g1 at *
 simp only [go_sem,↓reduceIte,reduceEqDiff]
 (refine hK _ _ ?_;clear hK)
 clear ecells hH
 refine VR [0, 1, 4] rfl rfl fun K hK => ?_;simp only [go_sem,↓reduceIte,reduceEqDiff]
 (refine hK _ _ ?_;clear hK)
 ((repeat refine Qai ?_);refine Qad ?_)
 refine Qam [0, 1, 4] (fun m e w' => ∃ (i : Nat), Is e [(0, .pointer (some ⟨g0, 0, none⟩)), (1, .pointer (some ⟨g1, 0, none⟩)), (4, .int .i64 i)] /\ Heap w [] w' [Res.blk g1 162 (u32V ((List.range i).map tab ++ List.replicate (256 - i) 0)), Res.blk g0 162 (u32V (List.replicate 256 0))] /\ i <= 256 /\ m = 256 - i) 256 ?_ ?_
 ·
  simp only [go_sem,↓reduceIte,reduceEqDiff]
  exact ⟨0, rfl, hH2, by omega, rfl⟩
 clear hH2
 rintro m e w' ⟨i, rfl, hH, hi, rfl⟩
 refine VR [0, 1, 4, 5] rfl rfl fun K hK => ?_;simp only [go_sem,↓reduceIte,reduceEqDiff]
 (refine hK _ _ ?_;clear hK)
 (repeat refine Qai ?_)
 refine Qab rfl rfl (fun h => ?_) (fun h => ?_)
 ·
  simp only [decide_eq_true_eq] at h
  refine Qaf ?_
  ((repeat refine Qai ?_);refine Qad ?_)
  refine VR [0, 1, 2, 4] rfl rfl fun K hK => ?_;simp only [go_sem,↓reduceIte,reduceEqDiff]
  (refine hK _ _ ?_;clear hK)
  have e24 : (i : Int) % 4294967296 * 2 ^ shN IntKind.u32 24 % 4294967296 = ((shK 0 (i * 16777216) : Nat) : Int) := by
   rw [show shN IntKind.u32 24 = 24 from rfl, shK];omega
  refine VR [0, 1, 2, 3, 4] rfl rfl fun K hK => ?_;simp only [go_sem,↓reduceIte,reduceEqDiff]
  rw [e24]
  ((repeat refine And.intro (by omega) ?_);refine hK _ _ ?_;clear hK)
  refine VR [0, 1, 2, 3, 4, 10] rfl rfl fun K hK => ?_;simp only [go_sem,↓reduceIte,reduceEqDiff]
  (refine hK _ _ ?_;clear hK)
  ((repeat refine Qai ?_);refine Qad ?_)
  refine Qam [0, 1, 2, 3, 4, 10] (fun m e w2 => ∃ (k : Nat), Is e [(0, .pointer (some ⟨g0, 0, none⟩)), (1, .pointer (some ⟨g1, 0, none⟩)), (2, .int .i64 i), (3, .int .u32 (shK k (i * 16777216) : Nat)), (4, .int .i64 i), (10, .int .i64 k)] /\ Is w2 w' /\ k <= 8 /\ m = 8 - k) 8 ?_ ?_
  ·
   simp only [go_sem,↓reduceIte,reduceEqDiff]
   exact ⟨0, rfl, rfl, by omega, rfl⟩
  rintro m e w2 ⟨k, rfl, rfl, hk, rfl⟩
  refine VR [0, 1, 2, 3, 4, 10, 11] rfl rfl fun K hK => ?_;simp only [go_sem,↓reduceIte,reduceEqDiff]
  (refine hK _ _ ?_;clear hK)
  (repeat refine Qai ?_)
  refine Qab rfl rfl (fun h => ?_) (fun h => ?_)
  ·
   simp only [decide_eq_true_eq] at h
   refine Qaf ?_
   ((repeat refine Qai ?_);refine Qad ?_)
   have hr := QB9 (r := i * 16777216) (by omega) k
   have hsh : shK (k + 1) (i * 16777216) = sh1 (shK k (i * 16777216)) := rfl
   generalize shK k (i * 16777216) = r at *
   have hand := QI7 hr
   refine VR [0, 1, 2, 3, 4, 10, 14] rfl rfl fun K hK => ?_;simp only [go_sem,↓reduceIte,reduceEqDiff]
   refine ⟨⟨by omega, by omega⟩, ⟨by omega, by omega⟩, ?_⟩
   rw [show Int.toNat 2147483648 = 2147483648 from rfl, hand]
   (refine hK _ _ ?_;clear hK)
   have fin : ∀ q : Nat, q = sh1 r -> selK [0, 1, 2, 3, 4, 10] [(0, .pointer (some ⟨g0, 0, none⟩)), (1, .pointer (some ⟨g1, 0, none⟩)), (2, .int .i64 i), (3, .int .u32 q), (4, .int .i64 i), (10, .int .i64 (k + 1))] fun e => ∃ m, m < 8 - k /\ ∃ (k : Nat), Is e [(0, .pointer (some ⟨g0, 0, none⟩)), (1, .pointer (some ⟨g1, 0, none⟩)), (2, .int .i64 i), (3, .int .u32 (shK k (i * 16777216) : Nat)), (4, .int .i64 i), (10, .int .i64 k)] /\ Is w2 w2 /\ k <= 8 /\ m = 8 - k := by
    intro q hq
    simp only [go_sem,↓reduceIte,reduceEqDiff]
    exact ⟨8 - (k + 1), by omega, k + 1, by rw [hsh, hq];rfl, rfl, by omega, rfl⟩
   by_cases hbig : 2147483648 <= r
   ·
    refine Qab rfl rfl (fun h => ?_) (fun h => by simp [hbig] at h)
    refine VR [0, 1, 2, 3, 4, 10] rfl rfl fun K hK => ?_;simp only [go_sem,↓reduceIte,reduceEqDiff]
    have e1 : (r : Int) * 2 ^ shN IntKind.u32 1 % 4294967296 = ((r * 2 % 4294967296 : Nat) : Int) := by
     rw [show shN IntKind.u32 1 = 1 from rfl];omega
    rw [e1]
    refine ⟨by omega, ⟨by omega, by omega⟩, ⟨by omega, by omega⟩, ?_⟩
    (refine hK _ _ ?_;clear hK)
    refine Qav ?_
    refine VR [0, 1, 2, 3, 4, 10] rfl rfl fun K hK => ?_;simp only [go_sem,↓reduceIte,reduceEqDiff]
    ((repeat refine And.intro (by omega) ?_);refine hK _ _ ?_;clear hK)
    refine Qah ?_
    refine fin _ ?_
    rw [sh1, if_pos hbig];rfl
   ·
    refine Qab rfl rfl (fun h => by simp [hbig] at h) (fun h => ?_)
    refine VR [0, 1, 2, 3, 4, 10] rfl rfl fun K hK => ?_;simp only [go_sem,↓reduceIte,reduceEqDiff]
    have e1 : (r : Int) * 2 ^ shN IntKind.u32 1 % 4294967296 = ((r * 2 % 4294967296 : Nat) : Int) := by
     rw [show shN IntKind.u32 1 = 1 from rfl];omega
    rw [e1]
    ((repeat refine And.intro (by omega) ?_);refine hK _ _ ?_;clear hK)
    refine Qav ?_
    refine VR [0, 1, 2, 3, 4, 10] rfl rfl fun K hK => ?_;simp only [go_sem,↓reduceIte,reduceEqDiff]
    ((repeat refine And.intro (by omega) ?_);refine hK _ _ ?_;clear hK)
    refine Qah ?_
    refine fin _ ?_
    rw [sh1, if_neg hbig]
  ·
   simp only [decide_eq_false_iff_not] at h
   refine Qap rfl ?_
   have hk8 : k = 8 := by omega
   subst hk8
   refine VR [0, 1, 4] rfl rfl fun K hK => ?_;simp only [go_sem,↓reduceIte,reduceEqDiff]
   (repeat first | refine And.intro (by omega) ?_ | refine ⟨⟨by omega, by omega⟩, ?_⟩)
   refine Qae ?_
   simp only [go_sem,↓reduceIte,reduceEqDiff]
   refine Qal hH 0 (vs := [.int .u32 (tab i : Nat)]) rfl rfl (by kernel_rfl) (by rw [Qkg];simp;omega) (by simp [Value.oneCell']) fun w6 hH2 => ?_
   have hset : (u32V ((List.range i).map tab ++ List.replicate (256 - i) 0)).take i ++ [Value.int .u32 (tab i : Nat)] ++ (u32V ((List.range i).map tab ++ List.replicate (256 - i) 0)).drop (i + 1) = u32V ((List.range (i + 1)).map tab ++ List.replicate (256 - (i + 1)) 0) := by
    rw [Qb1 _ _ _ (by rw [Qkg];simp;omega)]
    rw [List.range_succ, List.map_append, show 256 - i = (256 - (i + 1)) + 1 by omega, List.replicate_succ]
    simp [u32V, List.set_append_right]
   simp only [List.length_singleton] at hH2
   rw [hset] at hH2
   (refine hK _ _ ?_;clear hK)
   refine Qav ?_
   refine VR [0, 1, 4] rfl rfl fun K hK => ?_;simp only [go_sem,↓reduceIte,reduceEqDiff]
   ((repeat refine And.intro (by omega) ?_);refine hK _ _ ?_;clear hK)
   refine Qah ?_
   simp only [go_sem,↓reduceIte,reduceEqDiff]
   exact ⟨256 - (i + 1), by omega, i + 1, rfl, hH2, by omega, rfl⟩
 ·
  simp only [decide_eq_false_iff_not] at h
  refine Qap rfl ?_
  have hi : i = 256 := by omega
  subst hi
  have e : (List.range 256).map tab ++ List.replicate (256 - 256) 0 = tabs := by simp [tabs]
  rw [e] at hH
  refine VR [0] rfl rfl fun K hK => ?_;simp only [go_sem,↓reduceIte,reduceEqDiff]
  refine ⟨u32V tabs, ⟨by rw [Qkg, Qmo], Qa1 (hH.at 0 rfl)⟩, ?_⟩
  refine Qae ?_
  simp only [go_sem,↓reduceIte,reduceEqDiff]
  have hlen : (u32V tabs).length = 256 := by rw [Qkg, Qmo]
  have hlen0 : (u32V (List.replicate 256 0)).length = 256 := by simp [u32V]
  refine Qal hH 1 (vs := u32V tabs) rfl rfl (by rw [hlen];kernel_rfl) (by rw [hlen, hlen0];omega) (by intro u hu;obtain ⟨n, _, rfl⟩ := List.mem_map.1 hu;rfl) fun w6 hH2 => ?_
  have e2 : (u32V (List.replicate 256 0)).take 0 ++ u32V tabs ++ (u32V (List.replicate 256 0)).drop (0 + (u32V tabs).length) = u32V tabs := by
   rw [List.take_zero, List.nil_append, List.drop_of_length_le (by rw [hlen, hlen0];omega), List.append_nil]
  rw [e2] at hH2
  (refine hK _ _ ?_;clear hK)
  refine Qan (Qqa rfl rfl (Qbu (hH2.at 1 rfl) (by kernel_rfl) (by kernel_rfl) hlen ?_))
  exact ⟨hH2.sub (by simp), rfl⟩
theorem QL7 {α : Sort _} (a : α) : Is a a := rfl
theorem QCa (r : Nat) (s : List UInt8) (w : World) (hr : r < 4294967296) (hs : s.length <= 1000000000000000000) :
  Does Tryz.prog 59 #[.int .u32 r, Str s] w fun v w' => Heap w [] w' [] /\ v = .int .u32 (Qgq r s : Nat) := by
 refine Qak (args := [.int .u32 r, Str s]) 27 Tryz.func59 rfl rfl (of_decide_eq_true rfl) ?_
 simp only [Env.ofArgs]
 refine VR [0, 1] rfl rfl fun K hK => ?_;simp only [go_sem,↓reduceIte,reduceEqDiff]
 (refine hK _ _ ?_;clear hK)
 refine VR [0, 1, 5] rfl rfl fun K hK => ?_;simp only [go_sem,↓reduceIte,reduceEqDiff]
 refine Qag Tryz.call121 ?_;simp only [go_sem,↓reduceIte,reduceEqDiff];refine CallK.mk (Qzg w) ?_
 rintro v w1 ⟨hH, rfl⟩
 refine Qat (.agg (u32V (List.replicate 256 0)).toArray) (by kernel_rfl) ?_
 have hH2 := hH.box 162 (u32V (List.replicate 256 0))
 have ecells : (Value.agg (u32V (List.replicate 256 0)).toArray).cells = (u32V (List.replicate 256 0)).toArray := rfl
 rw [ecells]
 generalize w1.alloc (Obj.cells (u32V (List.replicate 256 0)).toArray 162) = w2 at *
 generalize w1.heap.size = g at *
 simp only [go_sem,↓reduceIte,reduceEqDiff]
 refine Qae ?_
 simp only [go_sem,↓reduceIte,reduceEqDiff]
 have hlen : (u32V tabs).length = 256 := by rw [Qkg, Qmo]
 have hlen0 : (u32V (List.replicate 256 0)).length = 256 := by simp [u32V]
 refine Qal hH2 0 (vs := u32V tabs) rfl rfl (by rw [hlen];kernel_rfl) (by rw [hlen, hlen0];omega) (by intro u hu;obtain ⟨n, _, rfl⟩ := List.mem_map.1 hu;rfl) fun w6 hH3 => ?_
 have e2 : (u32V (List.replicate 256 0)).take 0 ++ u32V tabs ++ (u32V (List.replicate 256 0)).drop (0 + (u32V tabs).length) = u32V tabs := by
  rw [List.take_zero, List.nil_append, List.drop_of_length_le (by rw [hlen, hlen0];omega), List.append_nil]
 rw [e2] at hH3
 have hH4 : Heap w [] w6 [Res.blk g 162 (u32V tabs)] := hH3
 clear hH3 hH2 hH ecells
 (refine hK _ _ ?_;clear hK)
 refine VR [0, 1, 5, 9, 10] rfl rfl fun K hK => ?_;simp only [go_sem,↓reduceIte,reduceEqDiff]
 (refine hK _ _ ?_;clear hK)
 ((repeat refine Qai ?_);refine Qad ?_)
 refine Qam [0, 1, 5, 9, 10] (fun m e w' => ∃ (i : Nat), Is e [(0, .int .u32 (Qgq r (s.take i) : Nat)), (1, Str s), (5, .pointer (some ⟨g, 0, none⟩)), (9, .int .i64 s.length), (10, .int .i64 i)] /\ Is w' w6 /\ i <= s.length /\ m = s.length - i) s.length ?_ ?_
 ·
  simp only [go_sem,↓reduceIte,reduceEqDiff]
  exact ⟨0, rfl, rfl, by omega, rfl⟩
 rintro m e w' ⟨i, rfl, rfl, hi, rfl⟩
 refine VR [0, 1, 5, 9, 10, 11] rfl rfl fun K hK => ?_;simp only [go_sem,↓reduceIte,reduceEqDiff]
 (refine hK _ _ ?_;clear hK)
 (repeat refine Qai ?_)
 refine Qab rfl rfl (fun h => ?_) (fun h => ?_)
 ·
  simp only [decide_eq_true_eq] at h
  refine Qaf ?_
  ((repeat refine Qai ?_);refine Qad ?_)
  refine VR [0, 1, 5, 6, 9, 10] rfl rfl fun K hK => ?_;simp only [go_sem,↓reduceIte,reduceEqDiff]
  (refine hK _ _ ?_;clear hK)
  have hq := Qiy (s.take i) hr
  have htk := Qd2 (0 : UInt8) (l := s) (i := i) (by omega)
  have hnext := Qtn r (s.take i) (s.getD i 0)
  rw [<- htk, Qny] at hnext
  have hb := (s.getD i 0).toNat_lt
  have hx : (Qgq r (s.take i) / 16777216) ^^^ (s.getD i 0).toNat < 256 := Nat.xor_lt_two_pow (n := 8) (by omega) (by omega)
  have htl := QFo _ hx
  have htg := QE4 hx
  generalize Qgq r (s.take i) = q at *
  have e1 : (q : Int) / 2 ^ shN IntKind.u32 24 % 256 = ((q / 16777216 : Nat) : Int) := by
   rw [show shN IntKind.u32 24 = 24 from rfl];omega
  have e3 : (q : Int) * 2 ^ shN IntKind.u32 8 % 4294967296 = ((q * 256 % 4294967296 : Nat) : Int) := by
   rw [show shN IntKind.u32 8 = 8 from rfl];omega
  refine VR [0, 1, 5, 9, 10] rfl rfl fun K hK => ?_;simp only [go_sem,↓reduceIte,reduceEqDiff]
  rw [e1, e3]
  (repeat first | refine And.intro (by omega) ?_ | refine ⟨⟨by omega, by omega⟩, ?_⟩)
  (try simp only [Int.toNat_natCast])
  (repeat first | refine And.intro (by omega) ?_ | refine ⟨⟨by omega, by omega⟩, ?_⟩)
  refine ⟨_, Qac (hH4.at 0 rfl) (QE3 (by rw [Qmo];exact hx)), ?_⟩
  simp only [go_sem,↓reduceIte,reduceEqDiff]
  rw [htg]
  clear htg hx
  generalize tab (q / 16777216 ^^^ (s.getD i 0).toNat) = tb at *
  (repeat first | refine And.intro (by omega) ?_ | refine ⟨⟨by omega, by omega⟩, ?_⟩)
  (try simp only [Int.toNat_natCast])
  (refine hK _ _ ?_;clear hK)
  refine Qav ?_
  refine VR [0, 1, 5, 9, 10] rfl rfl fun K hK => ?_;simp only [go_sem,↓reduceIte,reduceEqDiff]
  ((repeat refine And.intro (by omega) ?_);refine hK _ _ ?_;clear hK)
  refine Qah ?_
  simp only [go_sem,↓reduceIte,reduceEqDiff]
  exact ⟨s.length - (i + 1), by omega, i + 1, by rw [hnext];exact QL7 _, rfl, by omega, rfl⟩
 ·
  simp only [decide_eq_false_iff_not] at h
  refine Qap rfl ?_
  refine VR [4] rfl rfl fun K hK => ?_;simp only [go_sem,↓reduceIte,reduceEqDiff]
  (refine hK _ _ ?_;clear hK)
  rw [List.take_of_length_le (by omega)]
  exact Qan (Qax rfl rfl ⟨hH4.sub (by simp), rfl⟩)
theorem Qto (s : List UInt8) (w : World) (hs : s.length <= 1000000000000000000) : Does Tryz.prog 21 #[Str s] w fun v w' => Heap w [] w' [] /\ v = .int .u32 (Qd6 s : Nat) := by
 have hlt := Qiy s (r := 4294967295) (by omega)
 refine Qak (args := [Str s]) 6 Tryz.func21 rfl rfl (of_decide_eq_true rfl) ?_
 simp only [Env.ofArgs]
 refine VR [0] rfl rfl fun K hK => ?_;simp only [go_sem,↓reduceIte,reduceEqDiff]
 (refine hK _ _ ?_;clear hK)
 refine VR [2] rfl rfl fun K hK => ?_;simp only [go_sem,↓reduceIte,reduceEqDiff]
 refine Qag Tryz.call59 ?_;simp only [go_sem,↓reduceIte,reduceEqDiff];refine CallK.mk (QCa 4294967295 s w (by omega) hs) ?_
 rintro v w1 ⟨hH, rfl⟩
 simp only [go_sem,↓reduceIte,reduceEqDiff]
 refine ⟨⟨by omega, by omega⟩, ?_⟩
 have e : 4294967295 - ((Qgq 4294967295 s : Nat) : Int) = ((Qd6 s : Nat) : Int) := by unfold Qd6;omega
 rw [e]
 (refine hK _ _ ?_;clear hK)
 exact Qan (Qax rfl rfl ⟨hH, rfl⟩)
def toN (l : List Int) : List Nat := l.map Int.toNat
theorem QCb {l : List Int} (h : ∀ v ∈ l, 0 <= v) : Qbm l = Qaq (toN l) := by
 unfold Qbm Qaq toN
 rw [List.map_map]
 apply List.map_congr_left
 intro v hv
 have := h v hv
 simp only [Function.comp]
 congr 1;omega
theorem QI8 (l : List Int) : (toN l).length = l.length := by simp [toN]
theorem Qnz : ∀ (f k : Nat), k <= f -> ∀ x ∈ dig k, 0 <= x /\ x <= 1
 | _, 0, _, x, hx => by simp [Qhi] at hx
 | 0, k + 1, h, x, hx => by omega
 | f + 1, k + 1, h, x, hx => by
  rw [Qml] at hx
  rcases List.mem_cons.1 hx with rfl | hx
  ·
   omega
  ·
   exact Qnz f (k / 2) (by omega) x hx
theorem QCc {n : Int} (hn : 1 <= n) : ∀ (l out : List Int) (z : Nat), (∀ v ∈ l, 0 <= v /\ v < n) -> (∀ x ∈ out, 0 <= x /\ x < n + 2) -> (zgo n out z l).2 = 0 /\ (∀ x ∈ (zgo n out z l).1, 0 <= x /\ x < n + 2) /\ (zgo n out z l).1.length <= out.length + z + l.length + 1 /\ 1 <= (zgo n out z l).1.length
 | [], out, z, _, ho => by
  have h1 := Qnz z z (Nat.le_refl _)
  have h2 := Qit z z (Nat.le_refl _)
  refine ⟨rfl, fun x hx => ?_, by simp [zgo];omega, by simp [zgo];omega⟩
  simp only [zgo, List.mem_append, List.mem_singleton] at hx
  rcases hx with (hx | hx) | rfl
  ·
   exact ho x hx
  ·
   have := h1 x hx;omega
  ·
   omega
 | v :: r, out, z, hl, ho => by
  have hv := hl v (by simp)
  rw [zgo]
  split
  ·
   obtain ⟨a, b, c, d⟩ := QCc hn r out (z + 1) (fun v hv => hl v (by simp [hv])) ho
   exact ⟨a, b, by simp;omega, d⟩
  ·
   rw [if_neg (by omega)]
   have h1 := Qnz z z (Nat.le_refl _)
   have h2 := Qit z z (Nat.le_refl _)
   obtain ⟨a, b, c, d⟩ := QCc hn r (out ++ dig z ++ [v + 1]) 0 (fun v hv => hl v (by simp [hv])) (fun x hx => by
    simp only [List.mem_append, List.mem_singleton] at hx
    rcases hx with (hx | hx) | rfl
    ·
     exact ho x hx
    ·
     have := h1 x hx;omega
    ·
     omega)
   refine ⟨a, b, ?_, d⟩
   simp at c ⊢;omega
theorem QCd {n : Int} (hn : 1 <= n) (hn2 : n <= 256) {l : List Int} (hl : ∀ v ∈ l, 0 <= v /\ v < n) : (zenc n l).2 = 0 /\ (∀ x ∈ (zenc n l).1, 0 <= x /\ x < n + 2) /\ (zenc n l).1.length <= l.length + 1 /\ 1 <= (zenc n l).1.length := by
 unfold zenc
 rw [if_neg (by omega)]
 have := QCc hn l [] 0 hl (by simp)
 simpa using this
def Qdu (t : List UInt8) (σ : List Nat) : List Int := (Qd4 (Qbk t) (Qbt t σ)).getD []
def Qc2 (t : List UInt8) (σ : List Nat) : List Nat := toN (zenc ((Qbk t).length : Nat) (Qdu t σ)).1
def Qtp (s : List UInt8) (row : Nat) : List Bool := Qbh 48 54156738319193 ++ Qbh 32 (Qd6 s) ++ Qbh 1 0 ++ Qbh 24 row
def Qcf (t : List UInt8) (σ : List Nat) : List (List Nat) × List Nat := Qfw (Qc2 t σ) ((Qbk t).length + 2)
def Qcu (s : List UInt8) (σ : List Nat) : List Bool := [Qtp s (σ.idxOf 0), Qfx (Qbk (enc s)), Qbx (Qcf (enc s) σ).1 (Qcf (enc s) σ).2, Qf3 (Qcf (enc s) σ).1 (Qcf (enc s) σ).2 (Qc2 (enc s) σ) 0].flatten
theorem Qhm {t : List UInt8} (ht : t ≠ []) : 1 <= (Qbk t).length /\ (Qbk t).length <= 256 := by
 have h := Qjt ht
 constructor
 ·
  cases h2 : Qbk t with
  | nil =>
   obtain ⟨c, r, rfl⟩ : ∃ c r, t = c :: r := by cases t with
    | nil => exact absurd rfl ht
    | cons c r => exact ⟨c, r, rfl⟩
   have : c ∈ Qbk (c :: r) := Qg3.2 (by simp)
   rw [h2] at this
   simp at this
  | cons => simp
 ·
  have hU : ∀ m, (Qjs t m).length <= m := fun m => by
   unfold Qjs
   rw [List.length_map]
   exact Nat.le_trans (List.length_filter_le _ _) (by simp)
  exact hU 256
theorem Qzh {t : List UInt8} {σ : List Nat} (ho : Ordered t σ) : ∀ c ∈ Qbt t σ, c ∈ t := by
 intro c hc
 obtain ⟨i, hi, rfl⟩ := List.mem_map.1 hc
 have hi2 : i < t.length := by simpa using ho.perm.mem_iff.1 hi
 have : ahead t.length i < t.length := by unfold ahead;split <;> omega
 rw [List.getD_eq_getElem?_getD, List.getElem?_eq_getElem this]
 exact List.getElem_mem this
theorem Qli {t : List UInt8} {σ : List Nat} (ho : Ordered t σ) : (Qbt t σ).length = t.length := by
 simp [Qbt, ho.perm.length_eq]
theorem Qkh {t : List UInt8} {σ : List Nat} (ho : Ordered t σ) : Qd4 (Qbk t) (Qbt t σ) = some (Qdu t σ) /\ (Qdu t σ).length = t.length /\ ∀ v ∈ Qdu t σ, 0 <= v /\ v < (Qbk t).length := by
 obtain ⟨out, h⟩ := Qpn (Qbt t σ) (Qbk t) (fun c hc => Qg3.2 (Qzh ho c hc))
 have e : Qdu t σ = out := by unfold Qdu;rw [h];rfl
 obtain ⟨h1, h2⟩ := Qnx _ _ _ h
 rw [e]
 exact ⟨h, by rw [h1, Qli ho], h2⟩
theorem Qq3 {t : List UInt8} {σ : List Nat} (ho : Ordered t σ) (ht : t ≠ []) : (zenc ((Qbk t).length : Nat) (Qdu t σ)).2 = 0 /\ Qbm (zenc ((Qbk t).length : Nat) (Qdu t σ)).1 = Qaq (Qc2 t σ) /\ (Qc2 t σ).length = (zenc ((Qbk t).length : Nat) (Qdu t σ)).1.length /\ (Qc2 t σ).length <= t.length + 1 /\ 1 <= (Qc2 t σ).length /\ ∀ s ∈ Qc2 t σ, s < (Qbk t).length + 2 := by
 obtain ⟨u1, u2⟩ := Qhm ht
 obtain ⟨p1, p2, p3⟩ := Qkh ho
 obtain ⟨z1, z2, z3, z4⟩ := QCd (n := ((Qbk t).length : Nat)) (by omega) (by omega) p3
 have hl : (Qc2 t σ).length = (zenc ((Qbk t).length : Nat) (Qdu t σ)).1.length := QI8 _
 refine ⟨z1, QCb fun v hv => (z2 v hv).1, hl, by omega, by omega, fun s hs => ?_⟩
 obtain ⟨x, hx, rfl⟩ := List.mem_map.1 hs
 have := z2 x hx
 omega
theorem Qq4 {t : List UInt8} {σ : List Nat} (ho : Ordered t σ) (ht : t ≠ []) (hl : t.length <= 262144) : Qf4 (Qc2 t σ) ((Qbk t).length + 2) := by
 obtain ⟨u1, u2⟩ := Qhm ht
 obtain ⟨_, _, _, h4, h5, h6⟩ := Qq3 ho ht
 exact ⟨by omega, by omega, h5, by omega, h6⟩
theorem Qmp (s : List UInt8) (row : Nat) : (Qtp s row).length = 105 := by simp [Qtp, Qaw]
theorem Qtq {s : List UInt8} {σ : List Nat} (ho : Ordered (enc s) σ) (hs : s ≠ []) (hl : s.length <= 20000) : (Qcu s σ).length <= 12 * s.length + 4000 := by
 have he : enc s ≠ [] := by
  intro e
  obtain ⟨c, r, rfl⟩ : ∃ c r, s = c :: r := by cases s with
   | nil => exact absurd rfl hs
   | cons c r => exact ⟨c, r, rfl⟩
  have h1 := Qiv (c :: r) (by simp)
  have h2 := Qfq (c :: r) (by simp)
  have h3 := (Qiu (c :: r)).1
  have h4 := Qdh (Qe6 (c :: r)) (c :: r) h3
  rw [e] at h1
  have h5 := congrArg List.length h1
  simp only [List.length_append, List.length_nil] at h5
  split at h4 <;> omega
 have hel := Qiw s
 obtain ⟨u1, u2⟩ := Qhm he
 have hlen := (Qq3 ho he).2.2.2.1
 have hb := Qrr (Qq4 ho he (by omega))
 have hn := Qti (Qbk (enc s))
 have hh := Qmp s (σ.idxOf 0)
 unfold Qcu
 unfold Qh1 at hb
 change (Qbx (Qcf (enc s) σ).1 (Qcf (enc s) σ).2).length + (Qf3 (Qcf (enc s) σ).1 (Qcf (enc s) σ).2 (Qc2 (enc s) σ) 0).length <= _ at hb
 simp only [List.flatten_cons, List.flatten_nil, List.append_nil, List.length_append]
 unfold Qca at hb
 omega
set_option maxHeartbeats 8000000
abbrev QCe : Value := .agg #[.string ⟨#[]⟩, .int .i64 0]
def Ql3 (s : List UInt8) (v : Value) : Prop :=
 if s = [] then v = .tuple #[QCe, .int .i64 2]
 else if 262144 < (enc s).length then v = .tuple #[QCe, .int .i64 3]
 else ∃ σ, Ordered (enc s) σ /\ v = .tuple #[Qjh (Qcu s σ), .int .i64 0]
theorem QL8 {s : List UInt8} (hs : s ≠ []) : enc s ≠ [] := by
 intro e
 obtain ⟨c, r, rfl⟩ : ∃ c r, s = c :: r := by cases s with
  | nil => exact absurd rfl hs
  | cons c r => exact ⟨c, r, rfl⟩
 have h1 := Qiv (c :: r) (by simp)
 have h2 := Qfq (c :: r) (by simp)
 have h3 := (Qiu (c :: r)).1
 have h4 := Qdh (Qe6 (c :: r)) (c :: r) h3
 rw [e] at h1
 have h5 := congrArg List.length h1
 simp only [List.length_append, List.length_nil] at h5
 split at h4 <;> omega
theorem Qzi (s : List UInt8) : Qd6 s < 4294967296 := by
 have := Qiy s (r := 4294967295) (by omega)
 unfold Qd6
 first | omega | exact Nat.xor_lt_two_pow (n := 32) this (by omega)
theorem Qi8 (s : List UInt8) (hs : s.length <= 100000000) (w : World) : Does Tryz.prog 16 #[Str s] w fun v w' => Heap w [] w' [] /\ Ql3 s v := by
 have hel := Qiw s
 have hcrc := Qzi s
 refine Qak (args := [Str s]) 117 Tryz.func16 rfl rfl (of_decide_eq_true rfl) ?_
 simp only [Env.ofArgs]
 refine VR [0, 2] rfl rfl fun K hK => ?_;simp only [go_sem,↓reduceIte,reduceEqDiff]
 refine Qat (.agg #[.string ⟨#[]⟩, .int .i64 0]) (by kernel_rfl) ?_
 simp only [go_sem,↓reduceIte,reduceEqDiff]
 have hH := (Heap.start w).box 24 [.string ⟨#[]⟩, .int .i64 0]
 generalize w.alloc (Obj.cells [Value.string ⟨#[]⟩, .int .i64 0].toArray 24) = w1 at *
 generalize w.heap.size = gr at *
 (refine hK _ _ ?_;clear hK)
 refine VR [0, 2, 21] rfl rfl fun K hK => ?_;simp only [go_sem,↓reduceIte,reduceEqDiff]
 (refine hK _ _ ?_;clear hK)
 refine Qab rfl rfl (fun h => ?_) (fun h => Qaf ?_)
 ·
  simp only [decide_eq_true_eq] at h
  refine VR [2, 3] rfl rfl fun K hK => ?_;simp only [go_sem,↓reduceIte,reduceEqDiff]
  refine Qae ?_
  simp only [go_sem,↓reduceIte,reduceEqDiff]
  refine Qal hH 0 (vs := [.string ⟨#[]⟩, .int .i64 0]) rfl rfl (by kernel_rfl) (by simp) (by simp [Value.oneCell']) fun w4 hH3 => ?_
  simp only [List.set_cons_zero, List.set_cons_succ] at hH3
  (refine hK _ _ ?_;clear hK)
  refine Qan (Qeg rfl rfl rfl (Qbu (hH3.at 0 rfl) (by kernel_rfl) (by kernel_rfl) rfl ?_))
  refine ⟨hH3.sub (by simp), ?_⟩
  rw [Ql3, if_pos h]
  rfl
 simp only [decide_eq_false_iff_not] at h
 have hne := QL8 h
 have hMk : ∀ v, (if 262144 < (enc s).length then v = .tuple #[QCe, .int .i64 3] else ∃ σ, Ordered (enc s) σ /\ v = .tuple #[Qjh (Qcu s σ), .int .i64 0]) -> Ql3 s v := fun v hv => by rw [Ql3, if_neg h];exact hv
 refine VR [0, 2, 4] rfl rfl fun K hK => ?_;simp only [go_sem,↓reduceIte,reduceEqDiff]
 refine Qag Tryz.call22 ?_;simp only [go_sem,↓reduceIte,reduceEqDiff];refine CallK.mk (QEq s w1 (by omega)) ?_
 rintro v w2 ⟨hHe, rfl⟩
 have hH2 := hH.call0 hHe
 simp only [List.nil_append] at hH2
 clear hH hHe
 (refine hK _ _ ?_;clear hK)
 generalize ht : enc s = t at *
 refine VR [0, 2, 4, 27] rfl rfl fun K hK => ?_;simp only [go_sem,↓reduceIte,reduceEqDiff]
 (refine hK _ _ ?_;clear hK)
 refine Qab rfl rfl (fun h => ?_) (fun h => Qaf ?_)
 ·
  simp only [decide_eq_true_eq] at h
  refine VR [2, 3] rfl rfl fun K hK => ?_;simp only [go_sem,↓reduceIte,reduceEqDiff]
  refine Qae ?_
  simp only [go_sem,↓reduceIte,reduceEqDiff]
  refine Qal hH2 0 (vs := [.string ⟨#[]⟩, .int .i64 0]) rfl rfl (by kernel_rfl) (by simp) (by simp [Value.oneCell']) fun w4 hH3 => ?_
  simp only [List.set_cons_zero, List.set_cons_succ] at hH3
  (refine hK _ _ ?_;clear hK)
  refine Qan (Qeg rfl rfl rfl (Qbu (hH3.at 0 rfl) (by kernel_rfl) (by kernel_rfl) rfl ?_))
  refine ⟨hH3.sub (by simp), hMk _ ?_⟩
  rw [if_pos (by omega)]
  rfl
 simp only [decide_eq_false_iff_not] at h
 have htl : t.length <= 262144 := by omega
 replace hMk : ∀ v, (∃ σ, Ordered t σ /\ v = .tuple #[Qjh (Qcu s σ), .int .i64 0]) -> Ql3 s v := fun v hv => hMk v (by rw [if_neg (by omega)];exact hv)
 refine VR [0, 2, 4, 5, 6, 7] rfl rfl fun K hK => ?_;simp only [go_sem,↓reduceIte,reduceEqDiff]
 refine Qag Tryz.call30 ?_;simp only [go_sem,↓reduceIte,reduceEqDiff];refine CallK.mk (Qtg t (by omega) w2) ?_
 rintro v w3 ⟨hHf, hf⟩
 rw [QB4, if_neg hne, if_neg (by omega)] at hf
 obtain ⟨σ, ho, rfl⟩ := hf
 have hH3 := hH2.call0 hHf
 simp only [List.nil_append] at hH3
 clear hH2 hHf
 (refine hK _ _ ?_;clear hK)
 refine VR [0, 2, 4, 5, 6, 7, 36] rfl rfl fun K hK => ?_;simp only [go_sem,↓reduceIte,reduceEqDiff]
 (refine hK _ _ ?_;clear hK)
 refine Qab rfl rfl (fun h => by simp at h) (fun h => Qaf ?_)
 clear h
 refine VR [0, 2, 5, 6, 8] rfl rfl fun K hK => ?_;simp only [go_sem,↓reduceIte,reduceEqDiff]
 refine Qag Tryz.call31 ?_;simp only [go_sem,↓reduceIte,reduceEqDiff];refine CallK.mk (QI5 t (by omega) w3) ?_
 rintro v w4 ⟨hHo, rfl⟩
 have hH4 := hH3.call0 hHo
 simp only [List.nil_append] at hH4
 clear hH3 hHo
 (refine hK _ _ ?_;clear hK)
 obtain ⟨u1, u2⟩ := Qhm hne
 have hcl := Qli ho
 obtain ⟨p1, p2, p3⟩ := Qkh ho
 obtain ⟨z1, z2, z3, z4, z5, z6⟩ := Qq3 ho hne
 have hmay := Qq4 ho hne htl
 have hmu := Qjt hne
 have hfr := Qy8 (Qbt t σ) (Qbk t) (by omega) (by omega) w4
 unfold Qlg at hfr
 simp only [hmu, p1, if_true] at hfr
 refine VR [0, 2, 6, 7, 8, 9] rfl rfl fun K hK => ?_;simp only [go_sem,↓reduceIte,reduceEqDiff]
 refine Qag Tryz.call32 ?_;simp only [go_sem,↓reduceIte,reduceEqDiff];refine CallK.mk hfr ?_
 rintro v w5 ⟨ap, cp, hHp, rfl⟩
 have hH5 := hH4.call0 hHp
 simp only [List.singleton_append] at hH5
 clear hH4 hHp hfr
 (refine hK _ _ ?_;clear hK)
 refine VR [0, 2, 6, 7, 8, 9, 48] rfl rfl fun K hK => ?_;simp only [go_sem,↓reduceIte,reduceEqDiff]
 (refine hK _ _ ?_;clear hK)
 refine Qab rfl rfl (fun h => by simp at h) (fun h => Qaf ?_)
 clear h
 have hzd := QBt ((Qbk t).length : Nat) (Qdu t σ) ap cp (I64.mk (by omega) (by omega)) w5 (Qbo (hH5.at 0 rfl)) (by omega) (fun v hv => by have := p3 v hv;exact I64.mk (by omega) (by omega))
 unfold IntsErr at hzd
 rw [z1, z2, <- z3] at hzd
 refine VR [0, 2, 6, 7, 8, 10] rfl rfl fun K hK => ?_;simp only [go_sem,↓reduceIte,reduceEqDiff]
 refine Qag Tryz.call33 ?_;simp only [go_sem,↓reduceIte,reduceEqDiff];refine CallK.mk hzd ?_
 rintro v w6 ⟨al, cl, hHl, rfl⟩
 have hH6 := hH5.call0 hHl
 simp only [List.singleton_append] at hH6
 have hH7 := hH6.sub (.cons_cons _ (.cons _ (.refl _)))
 clear hH5 hHl hzd hH6
 (refine hK _ _ ?_;clear hK)
 refine VR [0, 2, 6, 7, 8, 10, 59] rfl rfl fun K hK => ?_;simp only [go_sem,↓reduceIte,reduceEqDiff]
 (refine hK _ _ ?_;clear hK)
 refine Qab rfl rfl (fun h => by simp at h) (fun h => Qaf ?_)
 clear h
 have hbk : ∀ σ', Ordered t σ' -> Qjh (Qcu s σ') = Qjh (Qcu s σ') := fun _ _ => rfl
 obtain ⟨gl, rfl⟩ := Qfs (hH7.at 0 rfl) (by omega)
 have hcap : (Qc2 t σ).length <= cl := (hH7.at 0 rfl).2.1
 have hbd := QBs (Qc2 t σ) ((Qbk t).length + 2) hmay ⟨gl, 0, none⟩ rfl cl hcap w6 (Qbo (hH7.at 0 rfl))
 obtain ⟨b1, b2⟩ := Qwr hmay
 have b3 := Qm2 (Qc2 t σ) ((Qbk t).length + 2)
 have b4 := Qrr hmay
 have hplan : Qcf t σ = Qfw (Qc2 t σ) ((Qbk t).length + 2) := rfl
 have hbs : Qcu s σ = [Qtp s (σ.idxOf 0), Qfx (Qbk t), Qbx (Qfw (Qc2 t σ) ((Qbk t).length + 2)).1 (Qfw (Qc2 t σ) ((Qbk t).length + 2)).2, Qf3 (Qfw (Qc2 t σ) ((Qbk t).length + 2)).1 (Qfw (Qc2 t σ) ((Qbk t).length + 2)).2 (Qc2 t σ) 0].flatten := by
  unfold Qcu;rw [ht, hplan]
 have hMk2 : Ql3 s (.tuple #[Qjh (Qcu s σ), .int .i64 0]) := hMk _ ⟨σ, ho, rfl⟩
 rw [hbs] at hMk2
 have hnl := Qti (Qbk t)
 have hhl := Qmp s (σ.idxOf 0)
 have hrow : σ.idxOf 0 <= 262144 := by
  have h1 := List.idxOf_le_length (l := σ) (a := 0)
  have h2 := ho.perm.length_eq
  simp at h2
  omega
 unfold Qh1 at b4
 have hput := fun v => Qlx v (Qfw (Qc2 t σ) ((Qbk t).length + 2)).1 (Qfw (Qc2 t σ) ((Qbk t).length + 2)).2 b1 (Qc2 t σ) (by omega) (by rw [b2];exact z6) (by omega) (some ⟨gl, 0, none⟩) cl
 have hsho := fun v => Qj3 v (Qfw (Qc2 t σ) ((Qbk t).length + 2)).1 (Qfw (Qc2 t σ) ((Qbk t).length + 2)).2 b1
 generalize hHead : Qtp s (σ.idxOf 0) = Head at *
 have hHead2 : Qbh 48 54156738319193 ++ Qbh 32 (Qd6 s) ++ Qbh 1 0 ++ Qbh 24 (σ.idxOf 0) = Head := hHead
 clear hHead hMk hbs hplan b2 b3 p1 p2 p3 ho hcl
 generalize Qfw (Qc2 t σ) ((Qbk t).length + 2) = B at *
 obtain ⟨BT, BP⟩ := B
 simp only at hput hsho hMk2 b4
 generalize Qc2 t σ = L at *
 generalize σ.idxOf 0 = row at *
 generalize hce : Qd6 s = crc at *
 refine VR [0, 2, 6, 7, 8, 10, 11] rfl rfl fun K hK => ?_;simp only [go_sem,↓reduceIte,reduceEqDiff]
 (repeat first | refine And.intro (by omega) ?_ | refine ⟨⟨by omega, by omega⟩, ?_⟩)
 rw [show (((Qbk t).length : Int) + 2) = (((Qbk t).length + 2 : Nat) : Int) by push_cast;rfl]
 refine Qag Tryz.call34 ?_;simp only [go_sem,↓reduceIte,reduceEqDiff];refine CallK.mk hbd ?_
 rintro v w7 ⟨pv, GP, hHb, hpg, rfl⟩
 have hH8 := (hH7.call0 hHb).perm List.perm_append_comm
 simp only [List.cons_append, List.nil_append] at hH8
 obtain ⟨ta, tc, pa, pc, us, rfl, _⟩ := hpg w7 hHb.holds
 have hpv : Value.agg #[.slice ta BT.length tc, .slice pa BP.length pc] = .agg (Qau ta BT.length tc pa BP.length pc).toArray := rfl
 rw [hpv] at hpg ⊢
 clear hH7 hHb
 refine Qat (.agg #[.slice none 0 0, .slice none 0 0]) (by kernel_rfl) ?_
 simp only [go_sem,↓reduceIte,reduceEqDiff]
 have hH9 := hH8.box 65 (Qau none 0 0 none 0 0)
 have hpl : [Value.slice none 0 0, Value.slice none 0 0] = Qau none 0 0 none 0 0 := rfl
 rw [hpl]
 generalize w7.alloc (Obj.cells (Qau none 0 0 none 0 0).toArray 65) = w8 at *
 generalize w7.heap.size = gp at *
 refine Qae ?_
 simp only [go_sem,↓reduceIte,reduceEqDiff]
 refine Qal hH9 0 (vs := Qau ta BT.length tc pa BP.length pc) rfl rfl (by kernel_rfl) (by simp [Qau]) (Qb7 _ _ _ _ _ _) fun w9 hH10 => ?_
 have hH11 : Heap w [] w9 (Res.blk gp 65 (Qau ta BT.length tc pa BP.length pc) :: Res.row 3 1 (some ⟨gl, 0, none⟩) L.length cl (Qaq L) :: Res.blk gr 24 [.string ⟨#[]⟩, .int .i64 0] :: GP) := hH10
 clear hH8 hH9 hH10
 (refine hK _ _ ?_;clear hK)
 refine VR [0, 2, 6, 7, 8, 10, 11, 71] rfl rfl fun K hK => ?_;simp only [go_sem,↓reduceIte,reduceEqDiff]
 (refine hK _ _ ?_;clear hK)
 refine Qab rfl rfl (fun h => by simp at h) (fun h => Qaf ?_)
 clear h
 refine VR [0, 2, 6, 8, 10, 11, 12] rfl rfl fun K hK => ?_;simp only [go_sem,↓reduceIte,reduceEqDiff]
 refine Qag Tryz.call35 ?_;simp only [go_sem,↓reduceIte,reduceEqDiff];refine CallK.mk (Qdq w9) ?_
 rintro v w10 ⟨gw, hHw, rfl⟩
 have hH := hH11.call0 hHw
 simp only [List.singleton_append] at hH
 clear hH11 hHw
 (refine hK _ _ ?_;clear hK)
 refine VR [0, 2, 6, 8, 10, 11, 12] rfl rfl fun K hK => ?_;simp only [go_sem,↓reduceIte,reduceEqDiff]
 refine Qag Tryz.call36 ?_;simp only [go_sem,↓reduceIte,reduceEqDiff];refine CallK.mk (Qc4 gw none 0 [] 54156738319193 48 w10 (by omega) (by omega) (by simp) (hH.focus 0 rfl)) ?_
 rintro v w11 ⟨a1, c1, hHq, rfl⟩
 have hH2 := hH.call1 0 rfl hHq
 simp only [List.set_cons_zero, List.nil_append] at hH2
 clear hH hHq
 (refine hK _ _ ?_;clear hK)
 refine VR [2, 6, 8, 10, 11, 12] rfl rfl fun K hK => ?_;simp only [go_sem,↓reduceIte,reduceEqDiff]
 refine Qag Tryz.call21 ?_;simp only [go_sem,↓reduceIte,reduceEqDiff];refine CallK.mk (Qto s w11 (by omega)) ?_
 rintro v w12 ⟨hHc, rfl⟩
 have hH3 := hH2.call0 hHc
 simp only [List.nil_append] at hH3
 clear hH2 hHc
 simp only [go_sem,↓reduceIte,reduceEqDiff]
 rw [hce, show ((crc : Int) % 18446744073709551616) = crc by omega]
 refine Qag Tryz.call36 ?_;simp only [go_sem,↓reduceIte,reduceEqDiff];refine CallK.mk (Qc4 gw a1 c1 _ crc 32 w12 (by omega) (by omega) (by simp [Qaw]) (hH3.focus 0 rfl)) ?_
 rintro v w13 ⟨a2, c2, hHq, rfl⟩
 have hH4 := hH3.call1 0 rfl hHq
 simp only [List.set_cons_zero, List.nil_append] at hH4
 clear hH3 hHq
 (refine hK _ _ ?_;clear hK)
 refine VR [2, 6, 8, 10, 11, 12] rfl rfl fun K hK => ?_;simp only [go_sem,↓reduceIte,reduceEqDiff]
 refine Qag Tryz.call36 ?_;simp only [go_sem,↓reduceIte,reduceEqDiff];refine CallK.mk (Qc4 gw a2 c2 _ 0 1 w13 (by omega) (by omega) (by simp [Qaw]) (hH4.focus 0 rfl)) ?_
 rintro v w14 ⟨a3, c3, hHq, rfl⟩
 have hH5 := hH4.call1 0 rfl hHq
 simp only [List.set_cons_zero, List.nil_append] at hH5
 clear hH4 hHq
 (refine hK _ _ ?_;clear hK)
 refine VR [2, 8, 10, 11, 12] rfl rfl fun K hK => ?_;simp only [go_sem,↓reduceIte,reduceEqDiff]
 rw [show ((row : Int) % 18446744073709551616) = row by omega]
 refine Qag Tryz.call36 ?_;simp only [go_sem,↓reduceIte,reduceEqDiff];refine CallK.mk (Qc4 gw a3 c3 _ row 24 w14 (by omega) (by omega) (by simp [Qaw]) (hH5.focus 0 rfl)) ?_
 rintro v w15 ⟨a4, c4, hHq, rfl⟩
 have hH6 := hH5.call1 0 rfl hHq
 simp only [List.set_cons_zero, List.nil_append] at hH6
 rw [show Qbh 48 54156738319193 ++ Qbh 32 crc ++ Qbh 1 0 ++ Qbh 24 row = Head from hHead2] at hH6
 clear hH5 hHq
 (refine hK _ _ ?_;clear hK)
 refine VR [2, 8, 10, 11, 13] rfl rfl fun K hK => ?_;simp only [go_sem,↓reduceIte,reduceEqDiff]
 refine Qag Tryz.call37 ?_;simp only [go_sem,↓reduceIte,reduceEqDiff];refine CallK.mk (Qg2 gw a4 c4 _ w15 (hH6.at 0 rfl)) ?_
 rintro v w16 ⟨rfl, rfl⟩
 refine Qag Tryz.call38 ?_;simp only [go_sem,↓reduceIte,reduceEqDiff];refine CallK.mk (Qir gw a4 c4 _ w16 (hH6.at 0 rfl)) ?_
 rintro v w17 ⟨rfl, rfl⟩
 simp only [go_sem,↓reduceIte,reduceEqDiff]
 refine Qat (.agg #[.string ⟨#[]⟩, .int .i64 0]) (by kernel_rfl) ?_
 simp only [go_sem,↓reduceIte,reduceEqDiff]
 have hH7 := (hH6.sub (List.sublist_cons_self _ _)).box 24 [.string ⟨#[]⟩, .int .i64 0]
 generalize w17.alloc (Obj.cells [Value.string ⟨#[]⟩, .int .i64 0].toArray 24) = w18 at *
 generalize w17.heap.size = gh at *
 refine Qae ?_
 simp only [go_sem,↓reduceIte,reduceEqDiff]
 refine Qal hH7 0 (vs := Qbg Head) rfl rfl (by kernel_rfl) (by simp [Qbg]) (Qdc _) fun w19 hH8 => ?_
 have hH9 : Heap w [] w19 (Res.blk gh 24 (Qbg Head) :: Res.blk gp 65 (Qau ta BT.length tc pa BP.length pc) :: Res.row 3 1 (some ⟨gl, 0, none⟩) L.length cl (Qaq L) :: Res.blk gr 24 [.string ⟨#[]⟩, .int .i64 0] :: GP) := hH8
 clear hH6 hH7 hH8
 (refine hK _ _ ?_;clear hK)
 generalize hNm : Qfx (Qbk t) = Nm at *
 have hsy := Qtm (Qbk t) hmu (by omega) w19
 rw [hNm] at hsy
 refine VR [2, 10, 11, 13, 14] rfl rfl fun K hK => ?_;simp only [go_sem,↓reduceIte,reduceEqDiff]
 refine Qag Tryz.call39 ?_;simp only [go_sem,↓reduceIte,reduceEqDiff];refine CallK.mk hsy ?_
 rintro v w20 ⟨hHn, rfl⟩
 have hH2 := hH9.call0 hHn
 simp only [List.nil_append] at hH2
 clear hH9 hHn
 refine Qat (.agg #[.string ⟨#[]⟩, .int .i64 0]) (by kernel_rfl) ?_
 simp only [go_sem,↓reduceIte,reduceEqDiff]
 have hH3 := hH2.box 24 [.string ⟨#[]⟩, .int .i64 0]
 generalize w20.alloc (Obj.cells [Value.string ⟨#[]⟩, .int .i64 0].toArray 24) = w21 at *
 generalize w20.heap.size = gn at *
 refine Qae ?_
 simp only [go_sem,↓reduceIte,reduceEqDiff]
 refine Qal hH3 0 (vs := Qbg Nm) rfl rfl (by kernel_rfl) (by simp [Qbg]) (Qdc _) fun w22 hH4 => ?_
 have hH5 : Heap w [] w22 (Res.blk gn 24 (Qbg Nm) :: Res.blk gh 24 (Qbg Head) :: Res.blk gp 65 (Qau ta BT.length tc pa BP.length pc) :: Res.row 3 1 (some ⟨gl, 0, none⟩) L.length cl (Qaq L) :: Res.blk gr 24 [.string ⟨#[]⟩, .int .i64 0] :: GP) := hH4
 clear hH2 hH3 hH4
 (refine hK _ _ ?_;clear hK)
 generalize hPb : Qbx BT BP = Pb at *
 generalize hPu : Qf3 BT BP L 0 = Pu at *
 have hfl : [Head, Nm, Pb, Pu].flatten.length <= 10000000000000 := by
  simp only [List.flatten_cons, List.flatten_nil, List.append_nil, List.length_append]
  unfold Qca at b4
  omega
 refine VR [2, 10, 11, 13, 14, 16] rfl rfl fun K hK => ?_;simp only [go_sem,↓reduceIte,reduceEqDiff]
 refine ⟨Qau ta BT.length tc pa BP.length pc, ⟨rfl, Qa1 (hH5.at 2 rfl)⟩, ?_⟩
 refine Qag Tryz.call40 ?_;simp only [go_sem,↓reduceIte,reduceEqDiff];refine CallK.mk (hsho _ w22 (hpg w22 (fun r hr => hH5.holds r (by simp [hr])))) ?_
 rintro v w23 ⟨hHs, rfl⟩
 have hH6 := hH5.call0 hHs
 simp only [List.nil_append] at hH6
 clear hH5 hHs
 refine Qat (.agg #[.string ⟨#[]⟩, .int .i64 0]) (by kernel_rfl) ?_
 simp only [go_sem,↓reduceIte,reduceEqDiff]
 have hH7 := hH6.box 24 [.string ⟨#[]⟩, .int .i64 0]
 generalize w23.alloc (Obj.cells [Value.string ⟨#[]⟩, .int .i64 0].toArray 24) = w24 at *
 generalize w23.heap.size = gt at *
 refine Qae ?_
 simp only [go_sem,↓reduceIte,reduceEqDiff]
 refine Qal hH7 0 (vs := Qbg Pb) rfl rfl (by kernel_rfl) (by simp [Qbg]) (Qdc _) fun w25 hH8 => ?_
 have hH9 : Heap w [] w25 (Res.blk gt 24 (Qbg Pb) :: Res.blk gn 24 (Qbg Nm) :: Res.blk gh 24 (Qbg Head) :: Res.blk gp 65 (Qau ta BT.length tc pa BP.length pc) :: Res.row 3 1 (some ⟨gl, 0, none⟩) L.length cl (Qaq L) :: Res.blk gr 24 [.string ⟨#[]⟩, .int .i64 0] :: GP) := hH8
 clear hH6 hH7 hH8
 (refine hK _ _ ?_;clear hK)
 refine VR [2, 13, 14, 16, 18] rfl rfl fun K hK => ?_;simp only [go_sem,↓reduceIte,reduceEqDiff]
 refine ⟨Qau ta BT.length tc pa BP.length pc, ⟨rfl, Qa1 (hH9.at 3 rfl)⟩, ?_⟩
 refine Qag Tryz.call41 ?_;simp only [go_sem,↓reduceIte,reduceEqDiff];refine CallK.mk (hput _ w25 (hpg w25 (fun r hr => hH9.holds r (by simp [hr]))) (Qbo (hH9.at 4 rfl))) ?_
 rintro v w26 ⟨hHs, rfl⟩
 have hH6 := hH9.call0 hHs
 simp only [List.nil_append] at hH6
 clear hH9 hHs
 refine Qat (.agg #[.string ⟨#[]⟩, .int .i64 0]) (by kernel_rfl) ?_
 simp only [go_sem,↓reduceIte,reduceEqDiff]
 have hH7 := hH6.box 24 [.string ⟨#[]⟩, .int .i64 0]
 generalize w26.alloc (Obj.cells [Value.string ⟨#[]⟩, .int .i64 0].toArray 24) = w27 at *
 generalize w26.heap.size = gc at *
 refine Qae ?_
 simp only [go_sem,↓reduceIte,reduceEqDiff]
 refine Qal hH7 0 (vs := Qbg Pu) rfl rfl (by kernel_rfl) (by simp [Qbg]) (Qdc _) fun w28 hH8 => ?_
 have hH9 : Heap w [] w28 (Res.blk gc 24 (Qbg Pu) :: Res.blk gt 24 (Qbg Pb) :: Res.blk gn 24 (Qbg Nm) :: Res.blk gh 24 (Qbg Head) :: Res.blk gp 65 (Qau ta BT.length tc pa BP.length pc) :: Res.row 3 1 (some ⟨gl, 0, none⟩) L.length cl (Qaq L) :: Res.blk gr 24 [.string ⟨#[]⟩, .int .i64 0] :: GP) := hH8
 clear hH6 hH7 hH8
 (refine hK _ _ ?_;clear hK)
 refine VR [2, 3] rfl rfl fun K hK => ?_;simp only [go_sem,↓reduceIte,reduceEqDiff]
 refine ⟨Qbg Head, ⟨rfl, Qa1 (hH9.at 3 rfl)⟩, ?_⟩
 refine ⟨Qbg Nm, ⟨rfl, Qa1 (hH9.at 2 rfl)⟩, ?_⟩
 refine ⟨Qbg Pb, ⟨rfl, Qa1 (hH9.at 1 rfl)⟩, ?_⟩
 refine ⟨Qbg Pu, ⟨rfl, Qa1 (hH9.at 0 rfl)⟩, ?_⟩
 refine Qie hH9 2 (Qem [Head, Nm, Pb, Pu]) (xs := [.tmp 109, .tmp 110, .tmp 111, .tmp 112]) Tryz.underlying101 sz24 rfl rfl rfl (by omega) (by omega) ?_
 simp only [go_sem,↓reduceIte,reduceEqDiff]
 refine ⟨by simp [Qem, Qbg, Value.cells], by simp [Qbg, Value.cells], fun ga w29 hH10 => ?_⟩
 refine Qag Tryz.call42 ?_;simp only [go_sem,↓reduceIte,reduceEqDiff];refine CallK.mk (Qsl [Head, Nm, Pb, Pu] ⟨ga, 0, none⟩ rfl 4 w29 (Qbo (hH10.at 0 rfl)) hfl (by simp)) ?_
 rintro v w30 ⟨hHj, rfl⟩
 have hH11 := hH10.call0 hHj
 simp only [List.nil_append] at hH11
 clear hH10 hHj hH9
 generalize [Head, Nm, Pb, Pu].flatten = R at *
 refine Qae ?_
 simp only [go_sem,↓reduceIte,reduceEqDiff]
 refine Qal hH11 7 (vs := Qbg R) rfl rfl (by kernel_rfl) (by simp [Qbg]) (Qdc _) fun w31 hH12 => ?_
 simp only [List.set_cons_zero, List.set_cons_succ] at hH12
 (refine hK _ _ ?_;clear hK)
 refine Qan (Qeg rfl rfl rfl (Qbu (hH12.at 7 rfl) (by kernel_rfl) (by kernel_rfl) rfl ?_))
 exact ⟨hH12.sub (by simp), hMk2⟩
def cntB (L : List UInt8) (b k : Nat) : Nat := ((List.range k).filter fun i => (L.getD i 0).toNat == b).length
def Qga (L : List UInt8) : Nat -> Nat
 | 0 => 0
 | b + 1 => Qga L b + cntB L b L.length
def posB (L : List UInt8) (i : Nat) : Nat := Qga L (L.getD i 0).toNat + cntB L (L.getD i 0).toNat i
theorem Qtr (L : List UInt8) (b k : Nat) : cntB L b (k + 1) = cntB L b k + if (L.getD k 0).toNat = b then 1 else 0 := by
 unfold cntB
 rw [List.range_succ, List.filter_append, List.length_append]
 by_cases h : (L.getD k 0).toNat = b
 ·
  rw [List.filter_cons_of_pos (by rw [beq_iff_eq];exact h), if_pos h];rfl
 ·
  rw [List.filter_cons_of_neg (by rw [beq_iff_eq];exact h), if_neg h];rfl
theorem Qv7 (L : List UInt8) (b k : Nat) : cntB L b k <= k := by
 unfold cntB
 exact Nat.le_trans (List.length_filter_le _ _) (by simp)
theorem Qxh (L : List UInt8) (b : Nat) : ((List.range b).flatMap fun b => (List.range L.length).filter fun i => (L.getD i 0).toNat == b).length = Qga L b := by
 induction b with
 | zero => rfl
 | succ b ih => rw [List.range_succ, List.flatMap_append, List.length_append, ih];simp [Qga, cntB]
theorem Qe9 (L : List UInt8) (i : Nat) (hi : i < L.length) : (Qbi L)[posB L i]? = some i := by
 have hb := (L.getD i 0).toNat_lt
 obtain ⟨k, hk⟩ : ∃ k, 256 = (L.getD i 0).toNat + (k + 1) := ⟨256 - (L.getD i 0).toNat - 1, by omega⟩
 obtain ⟨j, hj⟩ : ∃ j, L.length = i + (j + 1) := ⟨L.length - i - 1, by omega⟩
 generalize hbb : (L.getD i 0).toNat = b at *
 have e : Qbi L = ((List.range b).flatMap fun b => (List.range L.length).filter fun i => (L.getD i 0).toNat == b) ++ (((List.range i).filter fun i => (L.getD i 0).toNat == b) ++ (i :: ((((List.range j).map Nat.succ).map (i + ·)).filter fun i => (L.getD i 0).toNat == b))) ++ ((((List.range k).map Nat.succ).map (b + ·)).flatMap fun b => (List.range L.length).filter fun i => (L.getD i 0).toNat == b) := by
  have e1 : List.range 256 = List.range b ++ (b :: ((List.range k).map Nat.succ).map (b + ·)) := by
   rw [hk, List.range_add, List.range_succ_eq_map];simp
  have e2 : List.range L.length = List.range i ++ (i :: ((List.range j).map Nat.succ).map (i + ·)) := by
   rw [hj, List.range_add, List.range_succ_eq_map];simp
  have e3 : ((List.range L.length).filter fun i => (L.getD i 0).toNat == b) = ((List.range i).filter fun i => (L.getD i 0).toNat == b) ++ (i :: ((((List.range j).map Nat.succ).map (i + ·)).filter fun i => (L.getD i 0).toNat == b)) := by
   rw [e2, List.filter_append, List.filter_cons_of_pos (by rw [beq_iff_eq];exact hbb)]
  unfold Qbi
  rw [e1, List.flatMap_append, List.flatMap_cons, e3, <- List.append_assoc]
 have hp : posB L i = Qga L b + cntB L b i := by rw [posB, hbb]
 rw [e, hp, List.append_assoc, List.getElem?_append_right (by rw [Qxh];omega), Qxh, Nat.add_sub_cancel_left, List.append_assoc, List.getElem?_append_right (by rw [cntB];exact Nat.le_refl _)]
 rw [show cntB L b i - ((List.range i).filter fun i => (L.getD i 0).toNat == b).length = 0 by rw [cntB];omega]
 rfl
theorem QCf (L : List UInt8) (i : Nat) (hi : i < L.length) : posB L i < L.length := by
 have h := Qe9 L i hi
 have hl : (Qbi L).length = L.length := by rw [(Qch L).length_eq, List.length_range]
 have := (List.getElem?_eq_some_iff.1 h).1
 omega
theorem QE5 (L : List UInt8) {i j : Nat} (hi : i < L.length) (hj : j < L.length) (h : posB L i = posB L j) : i = j := by
 have h1 := Qe9 L i hi
 rw [h, Qe9 L j hj] at h1
 exact (Option.some.inj h1).symm
theorem QCg (L : List UInt8) (P : List Nat) (hl : P.length = L.length) (h : ∀ i, i < L.length -> P.getD (posB L i) 0 = i) : P = Qbi L := by
 have hpl : (Qbi L).length = L.length := by rw [(Qch L).length_eq, List.length_range]
 have hnd : (Qbi L).Nodup := by rw [(Qch L).nodup_iff];exact List.nodup_range
 apply List.ext_getElem (by omega)
 intro p h1 h2
 have hm : (Qbi L)[p] < L.length := by
  have := (Qch L).mem_iff.1 (List.getElem_mem h2)
  simpa using this
 generalize hj : (Qbi L)[p] = j at *
 have h3 := Qe9 L j hm
 obtain ⟨h4, h5⟩ := List.getElem?_eq_some_iff.1 h3
 have h6 : posB L j = p := (List.getElem_inj hnd).1 (by rw [h5, hj])
 have h7 := h j hm
 rw [h6, List.getD_eq_getElem?_getD, List.getElem?_eq_getElem h1, Option.getD_some] at h7
 exact h7
def tbl (g : Nat) (F : Array Int) : Res := Res.blk g 188 (Qbm F.toList)
theorem Qq5 {g : Nat} {F : Array Int} {w : World} (h : (tbl g F).holds w) {k : Nat} (hk : k < F.size) : w.cell? ⟨g, k, none⟩ = some (.int .i64 F[k]!) := by
 refine Qac h ?_
 rw [Qaj (by simpa using hk), Qdw]
theorem Qlj {w0 w : World} {B : List Nat} {G : List Res} (hH : Heap w0 B w G) (i : Nat) {g o : Nat} {F : Array Int} {x : Int} {C : World -> Prop} (hi : G[i]? = some (tbl g F)) (ho : o < F.size)
  (h : ∀ w', Heap w0 B w' (G.set i (tbl g (F.setIfInBounds o x))) -> C w') : Qho Tryz.prog 3 (.pointer (some ⟨g, o, none⟩)) (.int .i64 x) w C := by
 refine Qal hH i (o := o) (vs := [.int .i64 x]) hi rfl (by kernel_rfl) (by rw [Qh9];simp;omega) (by simp [Value.oneCell']) fun w' hw => h w' ?_
 have e : (Qbm F.toList).take o ++ [.int .i64 x] ++ (Qbm F.toList).drop (o + [Value.int .i64 x].length) = Qbm (F.setIfInBounds o x).toList := by
  rw [List.length_singleton, Qb1 (Qbm F.toList) _ _ (by rw [Qh9];simpa using ho), Qsf, Array.toList_setIfInBounds]
 rw [e] at hw
 exact hw
theorem QCh : ∀ {l : List Value} {i : Nat} {v : Value} {K : Value -> Prop}, l[i]? = some v -> vNth l i K = K v
 | [], _, _, _, h => by simp at h
 | x :: l, 0, v, K, h => by simp at h;subst h;rfl
 | x :: l, i + 1, v, K, h => by rw [vNth];exact QCh (by simpa using h)
theorem Qzj (D : Array Int) (gp cp gc p : Nat) (hp : p < D.size) (hD : D.size <= 1000000000000) (w0 w : World) (B : List Nat) (G : List Res) (hL : Heap w0 B w (arr gp cp D :: Res.blk gc 36 [sl gp cp D] :: G)) :
  Does Tryz.prog 152 #[.int .i64 p, ptr gc] w fun v w' => w' = w /\ v = .int .i64 D[p]! := by
 refine Qak (args := [.int .i64 p, ptr gc]) 8 Tryz.func152 rfl rfl (of_decide_eq_true rfl) ?_
 simp only [Env.ofArgs]
 refine VR [0, 1] rfl rfl fun K hK => ?_;simp -implicitDefEqProofs only [go_sem,↓reduceIte,reduceEqDiff]
 (refine hK _ _ ?_;clear hK)
 refine VR [3] rfl rfl fun K hK => ?_;simp -implicitDefEqProofs only [go_sem,↓reduceIte,reduceEqDiff]
 refine ⟨_, Qac (hL.at 1 rfl) rfl, ?_⟩
 simp -implicitDefEqProofs only [go_sem,↓reduceIte,reduceEqDiff]
 refine ⟨⟨by omega, by omega⟩, _, Qa0 (hL.at 0 rfl) hp, ?_⟩
 (refine hK _ _ ?_;clear hK)
 exact Qan (Qax rfl rfl ⟨rfl, rfl⟩)
abbrev QL9 (gc : Nat) : Value := .func (.func 152) #[] #[ptr gc]
abbrev wblk (gw gc p : Nat) : Res := Res.blk gw 190 [QL9 gc, .int .i64 p]
theorem QCi (D : Array Int) (gp cp gc gw p q : Nat) (hp : p < D.size) (hq : D[p]! = q) (hD : D.size <= 1000000000000) (w0 w : World) (B : List Nat) (G : List Res) (hL : Heap w0 B w (arr gp cp D :: Res.blk gc 36 [sl gp cp D] :: wblk gw gc p :: G)) :
  Does Tryz.prog 153 #[ptr gw] w fun v w' => Heap w0 B w' (arr gp cp D :: Res.blk gc 36 [sl gp cp D] :: wblk gw gc q :: G) /\ v = .int .i64 q := by
 refine Qak (args := [ptr gw]) 19 Tryz.func153 rfl rfl (of_decide_eq_true rfl) ?_
 simp only [Env.ofArgs]
 refine VR [0] rfl rfl fun K hK => ?_;simp -implicitDefEqProofs only [go_sem,↓reduceIte,reduceEqDiff]
 (refine hK _ _ ?_;clear hK)
 (repeat refine Qai ?_);refine Qbz [0] [(0, 0), (1, 0), (2, 0), (3, 0), (5, 0), (6, 0), (7, 0), (4, 1), (8, 1), (9, 2), (10, 0), (11, 0), (12, 2)] (by kernel_rfl) (by kernel_rfl) (by kernel_rfl) (by simp only [Qay, List.map_cons, List.map_nil, beq_self_eq_true, Nat.reduceBEq, List.filterMap_cons, List.filterMap_nil, List.getElem?_cons_succ, List.getElem?_cons_zero, Option.map_some];rfl) fun K hK => ?_;simp -implicitDefEqProofs only [go_sem,↓reduceIte,reduceEqDiff]
 refine ⟨_, Qac (hL.at 2 rfl) rfl, _, Qac (hL.at 2 rfl) rfl, ?_⟩
 refine Qbf ?_
 simp -implicitDefEqProofs only [go_sem,↓reduceIte,reduceEqDiff]
 refine FnK.mk Tryz.call152 (Qzj D gp cp gc p hp hD w0 w B _ hL) ?_
 rintro v w2 ⟨rfl, rfl⟩
 rw [hq]
 refine Qae ?_;simp -implicitDefEqProofs only [go_sem,↓reduceIte,reduceEqDiff];refine Qal hL 2 (vs := [.int .i64 q]) rfl rfl (by kernel_rfl) (by first | decide | (simp;done) | (simp;omega)) (by simp [Value.oneCell']) fun w6 hH2 => ?_;(try simp -implicitDefEqProofs only [go_sem,↓reduceIte,reduceEqDiff])
 (refine hK _ _ ?_;clear hK)
 refine VR [2] rfl rfl fun K hK => ?_;simp -implicitDefEqProofs only [go_sem,↓reduceIte,reduceEqDiff]
 refine ⟨_, Qac (hH2.at 2 rfl) rfl, ?_⟩
 (refine hK _ _ ?_;clear hK)
 exact Qan (Qax rfl rfl ⟨hH2, rfl⟩)
def bckS (L : List UInt8) (row : Int) : List UInt8 × Int :=
 if 262144 < L.length then ([], 3) else if row < 0 ∨ (L.length : Int) <= row then ([], 50) else (Qgk L (Qbi L) L.length row.toNat, 0)
theorem QCj (L : List UInt8) (row : Int) (hr : I64 row) (hL : L.length <= 1000000000000) (w : World) : Does Tryz.prog 107 #[Str L, .int .i64 row] w
  fun v w' => Heap w [] w' [] /\ v = .tuple #[Str (bckS L row).1, .int .i64 (bckS L row).2] := by
 refine Qak (args := [Str L, .int .i64 row]) 96 Tryz.func107 rfl rfl (of_decide_eq_true rfl) ?_
 simp only [Env.ofArgs]
 refine VR [0, 1] rfl rfl fun K hK => ?_;simp -implicitDefEqProofs only [go_sem,↓reduceIte,reduceEqDiff]
 (refine hK _ _ ?_;clear hK)
 refine VR [0, 1, 18] rfl rfl fun K hK => ?_;simp -implicitDefEqProofs only [go_sem,↓reduceIte,reduceEqDiff]
 (refine hK _ _ ?_;clear hK)
 refine Qab rfl rfl (fun h => ?_) (fun h => ?_)
 ·
  simp only [decide_eq_true_eq] at h
  refine VR [4, 5] rfl rfl fun K hK => ?_;simp -implicitDefEqProofs only [go_sem,↓reduceIte,reduceEqDiff]
  (refine hK _ _ ?_;clear hK)
  exact Qan (Qa9 rfl rfl rfl ⟨Heap.start w, by rw [bckS, if_pos (by omega)]⟩)
 simp only [decide_eq_false_iff_not] at h
 have hle : L.length <= 262144 := by omega
 clear h
 refine Qaf ?_
 refine VR [0, 1, 26] rfl rfl fun K hK => ?_;simp -implicitDefEqProofs only [go_sem,↓reduceIte,reduceEqDiff]
 suffices out : ∀ b : Bool, (b = true ↔ (row < 0 ∨ (L.length : Int) <= row)) -> K [(0, Str L), (1, .int .i64 row), (26, .bool b)] w by (repeat' (first | exact out _ _ (by first | omega | (simp;done) | (simp;omega)) | exact out _ (by first | omega | (simp;done) | (simp;omega)) | refine ⟨fun _ => ?_, fun _ => ?_⟩ | refine And.intro (by omega) ?_))
 intro b hb
 (refine hK _ _ ?_;clear hK)
 refine Qab rfl rfl (fun h => ?_) (fun h => ?_)
 ·
  refine VR [4, 5] rfl rfl fun K hK => ?_;simp -implicitDefEqProofs only [go_sem,↓reduceIte,reduceEqDiff]
  (refine hK _ _ ?_;clear hK)
  exact Qan (Qa9 rfl rfl rfl ⟨Heap.start w, by rw [bckS, if_neg (by omega), if_pos (hb.1 h)]⟩)
 have hb2 : ¬ (row < 0 ∨ (L.length : Int) <= row) := fun h2 => by have := hb.2 h2;simp_all
 have hbs : bckS L row = (Qgk L (Qbi L) L.length row.toNat, 0) := by rw [bckS, if_neg (by omega), if_neg hb2]
 rw [hbs]
 obtain ⟨p0, rfl⟩ : ∃ p : Nat, row = p := ⟨row.toNat, by omega⟩
 rw [Int.toNat_natCast]
 have hp0 : p0 < L.length := by omega
 clear hb hb2 hbs h hr
 refine Qaf ?_
 generalize hn : L.length = n at *
 refine VR [0, 1, 6] rfl rfl fun K hK => ?_;simp -implicitDefEqProofs only [go_sem,↓reduceIte,reduceEqDiff]
 refine Qat (.agg (Qbm (List.replicate 256 0)).toArray) (by kernel_rfl) ?_
 simp -implicitDefEqProofs only [go_sem,↓reduceIte,reduceEqDiff]
 have hH0 : Heap w [] (w.alloc (Obj.cells (Qbm (List.replicate 256 0)).toArray 188)) [tbl w.heap.size (Array.replicate 256 0)] := by
  have h := (Heap.start w).box 188 (Qbm (List.replicate 256 0))
  rw [tbl, Array.toList_replicate]
  exact h
 generalize w.alloc (Obj.cells (Qbm (List.replicate 256 0)).toArray 188) = w1 at *
 generalize w.heap.size = gf at *
 have hb8 : ∀ k, (L.getD k 0).toNat < 256 := fun k => (L.getD k 0).toNat_lt
 have hst : ∀ b, Qga L b <= b * 262144 := fun b => by
  induction b with
  | zero => simp [Qga]
  | succ b ih => have := Qv7 L b L.length;simp only [Qga];omega
 (refine hK _ _ ?_;clear hK)
 refine VR [0, 1, 6, 28, 29] rfl rfl fun K hK => ?_;simp -implicitDefEqProofs only [go_sem,↓reduceIte,reduceEqDiff]
 (refine hK _ _ ?_;clear hK)
 rw [hn]
 refine Qad ?_
 refine Qam [0, 1, 6, 28, 29] (fun m e w' => ∃ (k : Nat) (F : Array Int), Is e [(0, Str L), (1, .int .i64 p0), (6, ptr gf), (28, .int .i64 n), (29, .int .i64 k)] /\ Heap w [] w' [tbl gf F] /\ F.size = 256 /\ k <= n /\ (∀ b, b < 256 -> F[b]! = cntB L b k) /\ m = n - k) n ?_ ?_
 ·
  simp -implicitDefEqProofs only [go_sem,↓reduceIte,reduceEqDiff]
  exact ⟨0, _, rfl, hH0, by simp, by omega, fun b _ => by rw [Qtf];rfl, rfl⟩
 clear hH0
 rintro m e w2 ⟨k, F, rfl, hH, hF, hk, hFk, hm⟩
 refine VR [0, 1, 6, 28, 29, 30] rfl rfl fun K hK => ?_;simp -implicitDefEqProofs only [go_sem,↓reduceIte,reduceEqDiff]
 (refine hK _ _ ?_;clear hK)
 (repeat refine Qai ?_)
 refine Qab rfl rfl (fun h => ?_) (fun h => ?_)
 ·
  simp only [decide_eq_true_eq] at h
  refine Qaf ?_
  ((repeat refine Qai ?_);refine Qad ?_)
  refine VR [0, 1, 6, 7, 28, 29] rfl rfl fun K hK => ?_;simp -implicitDefEqProofs only [go_sem,↓reduceIte,reduceEqDiff]
  (refine hK _ _ ?_;clear hK)
  have hb := hb8 k
  have hc := hFk _ hb
  have hcl := Qv7 L (L.getD k 0).toNat k
  have hcs := fun b => Qtr L b k
  generalize hbk : (L.getD k 0).toNat = bk at *
  refine VR [0, 1, 6, 28, 29] rfl rfl fun K hK => ?_;simp -implicitDefEqProofs only [go_sem,↓reduceIte,reduceEqDiff]
  rw [hn, hbk]
  refine ⟨⟨by omega, by omega⟩, ⟨by omega, by omega⟩, _, Qq5 (hH.at 0 rfl) (by omega), ?_⟩
  rw [hc]
  simp -implicitDefEqProofs only [go_sem,↓reduceIte,reduceEqDiff]
  refine ⟨I64.mk (by omega) (by omega), ⟨by omega, by omega⟩, ?_⟩
  refine Qae ?_
  simp -implicitDefEqProofs only [go_sem,↓reduceIte,reduceEqDiff]
  refine Qlj hH 0 (o := bk) rfl (by omega) fun w6 hH2 => ?_
  simp only [List.set_cons_zero] at hH2
  (refine hK _ _ ?_;clear hK)
  refine Qav ?_
  refine VR [0, 1, 6, 28, 29] rfl rfl fun K hK => ?_;simp -implicitDefEqProofs only [go_sem,↓reduceIte,reduceEqDiff]
  ((repeat refine And.intro (by omega) ?_);refine hK _ _ ?_;clear hK)
  refine Qah ?_
  simp -implicitDefEqProofs only [go_sem,↓reduceIte,reduceEqDiff]
  refine ⟨n - (k + 1), by omega, k + 1, _, rfl, hH2, by simp [hF], by omega, fun b hb2 => ?_, rfl⟩
  rw [Qhl _ _ _ (by omega), hcs b]
  by_cases e : b = bk
  ·
   subst e;simp
  ·
   rw [if_neg e, if_neg (Ne.symm e), hFk b hb2];simp
 simp only [decide_eq_false_iff_not] at h
 obtain rfl : k = n := by omega
 refine Qap rfl ?_
 generalize k = n at *
 refine VR [0, 1, 6, 8] rfl rfl fun K hK => ?_;simp -implicitDefEqProofs only [go_sem,↓reduceIte,reduceEqDiff]
 (refine hK _ _ ?_;clear hK)
 refine VR [0, 1, 6, 8, 40, 41] rfl rfl fun K hK => ?_;simp -implicitDefEqProofs only [go_sem,↓reduceIte,reduceEqDiff]
 refine ⟨Qbm F.toList, ⟨by rw [Qh9];simpa using hF, Qa1 (hH.at 0 rfl)⟩, ?_⟩
 (refine hK _ _ ?_;clear hK)
 refine Qad ?_
 refine Qam [0, 1, 6, 8, 40, 41] (fun m e w' => ∃ (b : Nat) (F' : Array Int), Is e [(0, Str L), (1, .int .i64 p0), (6, ptr gf), (8, .int .i64 (Qga L b)), (40, .agg (Qbm F.toList).toArray), (41, .int .i64 b)] /\ Heap w [] w' [tbl gf F'] /\ F'.size = 256 /\ b <= 256 /\ (∀ c, c < b -> F'[c]! = Qga L c) /\ m = 256 - b) 256 ?_ ?_
 ·
  simp -implicitDefEqProofs only [go_sem,↓reduceIte,reduceEqDiff]
  exact ⟨0, F, rfl, hH, hF, by omega, fun c hc => by omega, rfl⟩
 clear hH
 rintro m e w3 ⟨b, F1, rfl, hH, hF1, hb, hFb, hm⟩
 refine VR [0, 1, 6, 8, 40, 41, 42] rfl rfl fun K hK => ?_;simp -implicitDefEqProofs only [go_sem,↓reduceIte,reduceEqDiff]
 (refine hK _ _ ?_;clear hK)
 (repeat refine Qai ?_)
 refine Qab rfl rfl (fun h => ?_) (fun h => ?_)
 ·
  simp only [decide_eq_true_eq] at h
  have hc := hFk b (by omega)
  have hcl := Qv7 L b n
  have hsb := hst b
  have hsb1 := hst (b + 1)
  refine Qaf ?_
  ((repeat refine Qai ?_);refine Qad ?_)
  refine VR [0, 1, 6, 8, 9, 10, 40, 41] rfl rfl fun K hK => ?_;simp -implicitDefEqProofs only [go_sem,↓reduceIte,reduceEqDiff]
  have hvn : vNth (Qbm F.toList) b = fun K => K (.int .i64 F[b]!) := by
   funext K
   exact QCh (by rw [Qaj (by simp;omega), Qdw])
  rw [hvn]
  dsimp only
  rw [hc]
  refine ⟨⟨by omega, by omega⟩, ?_⟩
  (refine hK _ _ ?_;clear hK)
  refine VR [0, 1, 6, 8, 10, 40, 41] rfl rfl fun K hK => ?_;simp -implicitDefEqProofs only [go_sem,↓reduceIte,reduceEqDiff]
  refine ⟨⟨by omega, by omega⟩, ?_⟩
  refine Qae ?_
  simp -implicitDefEqProofs only [go_sem,↓reduceIte,reduceEqDiff]
  refine Qlj hH 0 (o := b) rfl (by omega) fun w6 hH2 => ?_
  simp only [List.set_cons_zero] at hH2
  (refine hK _ _ ?_;clear hK)
  refine VR [0, 1, 6, 8, 40, 41] rfl rfl fun K hK => ?_;simp -implicitDefEqProofs only [go_sem,↓reduceIte,reduceEqDiff]
  ((repeat refine And.intro (by omega) ?_);refine hK _ _ ?_;clear hK)
  refine Qav ?_
  refine VR [0, 1, 6, 8, 40, 41] rfl rfl fun K hK => ?_;simp -implicitDefEqProofs only [go_sem,↓reduceIte,reduceEqDiff]
  ((repeat refine And.intro (by omega) ?_);refine hK _ _ ?_;clear hK)
  refine Qah ?_
  simp -implicitDefEqProofs only [go_sem,↓reduceIte,reduceEqDiff]
  refine ⟨256 - (b + 1), by omega, b + 1, _, by rw [show ((Qga L b : Int) + (cntB L b n : Nat)) = ((Qga L (b + 1) : Nat) : Int) by rw [Qga, hn];omega];rfl, hH2, by simp [hF1], by omega, fun c hc => ?_, rfl⟩
  rw [Qhl _ _ _ (by omega)]
  by_cases e : c = b
  ·
   subst e;simp
  ·
   rw [if_neg e];exact hFb c (by omega)
 simp only [decide_eq_false_iff_not] at h
 obtain rfl : b = 256 := by omega
 refine Qap rfl ?_
 clear hFk hF
 refine VR [0, 1, 6, 11] rfl rfl fun K hK => ?_;simp -implicitDefEqProofs only [go_sem,↓reduceIte,reduceEqDiff]
 rw [hn]
 refine Qbw Tryz.underlying36 zi3 ?_
 simp -implicitDefEqProofs only [go_sem,↓reduceIte,reduceEqDiff]
 refine ⟨n, n, ⟨rfl, rfl, by omega, by omega, by omega⟩, ?_⟩
 have hH1 := QB2 hH n (by omega)
 generalize w3.alloc (Obj.cells (List.replicate n (Value.int .i64 0)).toArray 3) = w4 at *
 generalize w3.heap.size = gp at *
 refine Qat (.slice none 0 0) (by kernel_rfl) ?_
 simp -implicitDefEqProofs only [go_sem,↓reduceIte,reduceEqDiff]
 have hH2 := hH1.box 36 [.slice none 0 0]
 generalize w4.alloc (Obj.cells [Value.slice none 0 0].toArray 36) = w5 at *
 generalize w4.heap.size = gc at *
 refine Qae ?_;simp -implicitDefEqProofs only [go_sem,↓reduceIte,reduceEqDiff];refine Qal hH2 0 (vs := [.slice (some ⟨gp, 0, none⟩) n n]) rfl rfl (by kernel_rfl) (by first | decide | (simp;done) | (simp;omega)) (by simp [Value.oneCell']) fun w6 hH3 => ?_;(try simp -implicitDefEqProofs only [go_sem,↓reduceIte,reduceEqDiff])
 have hH4 : Heap w [] w6 [arr gp n (Array.replicate n 0), Res.blk gc 36 [zsl gp n], tbl gf F1] := hH3.front 1 rfl
 clear hH hH1 hH2 hH3
 (refine hK _ _ ?_;clear hK)
 refine VR [0, 1, 6, 11, 56, 57] rfl rfl fun K hK => ?_;simp -implicitDefEqProofs only [go_sem,↓reduceIte,reduceEqDiff]
 (refine hK _ _ ?_;clear hK)
 rw [hn]
 refine Qad ?_
 refine Qam [0, 1, 6, 11, 56, 57] (fun m e w' => ∃ (k : Nat) (F D : Array Int), Is e [(0, Str L), (1, .int .i64 p0), (6, ptr gf), (11, ptr gc), (56, .int .i64 n), (57, .int .i64 k)] /\ Heap w [] w' [arr gp n D, Res.blk gc 36 [zsl gp n], tbl gf F] /\ F.size = 256 /\ D.size = n /\ k <= n /\ (∀ b, b < 256 -> F[b]! = (Qga L b + cntB L b k : Nat)) /\ (∀ j, j < k -> D[posB L j]! = j) /\ m = n - k) n ?_ ?_
 ·
  simp -implicitDefEqProofs only [go_sem,↓reduceIte,reduceEqDiff]
  exact ⟨0, F1, _, rfl, hH4, hF1, by simp, by omega, fun b hb => by rw [hFb b hb];rfl, fun j hj => by omega, rfl⟩
 clear hH4 hF1 hFb
 rintro m e w7 ⟨k, F, D, rfl, hH, hF, hD, hk, hFk, hDk, hm⟩
 refine VR [0, 1, 6, 11, 56, 57, 58] rfl rfl fun K hK => ?_;simp -implicitDefEqProofs only [go_sem,↓reduceIte,reduceEqDiff]
 (refine hK _ _ ?_;clear hK)
 (repeat refine Qai ?_)
 refine Qab rfl rfl (fun h => ?_) (fun h => ?_)
 ·
  simp only [decide_eq_true_eq] at h
  refine Qaf ?_
  ((repeat refine Qai ?_);refine Qad ?_)
  refine VR [0, 1, 6, 11, 12, 56, 57] rfl rfl fun K hK => ?_;simp -implicitDefEqProofs only [go_sem,↓reduceIte,reduceEqDiff]
  (refine hK _ _ ?_;clear hK)
  have hb := hb8 k
  have hc := hFk _ hb
  have hpl := QCf L k (by omega)
  have hcs := fun b => Qtr L b k
  have hps : Qga L (L.getD k 0).toNat + cntB L (L.getD k 0).toNat k = posB L k := rfl
  rw [hps] at hc
  generalize hbk : (L.getD k 0).toNat = bk at *
  (repeat refine Qai ?_);refine Qa8 [0, 1, 6, 11, 12, 56, 57] 8 (by kernel_rfl) (by kernel_rfl) (by kernel_rfl) rfl fun K hK => ?_;simp -implicitDefEqProofs only [go_sem,↓reduceIte,reduceEqDiff]
  refine ⟨_, Qac (hH.at 1 rfl) rfl, ⟨by omega, by omega⟩, ?_⟩
  rw [hbk]
  refine ⟨⟨by omega, by omega⟩, _, Qq5 (hH.at 2 rfl) (by omega), ?_⟩
  rw [hc]
  simp -implicitDefEqProofs only [go_sem,↓reduceIte,reduceEqDiff]
  refine ⟨⟨by omega, by omega⟩, ?_⟩
  refine Qae ?_;simp -implicitDefEqProofs only [go_sem,↓reduceIte,reduceEqDiff];refine Qa2 hH 0 (o := (posB L k)) rfl (by first | rfl | (simp;done) | (congr 1;omega)) (by first | omega | (simp;omega)) fun w6 hH1 => ?_;simp only [List.set_cons_zero] at hH1;(try simp -implicitDefEqProofs only [go_sem,↓reduceIte,reduceEqDiff])
  (refine hK _ _ ?_;clear hK)
  refine VR [0, 1, 6, 11, 56, 57] rfl rfl fun K hK => ?_;simp -implicitDefEqProofs only [go_sem,↓reduceIte,reduceEqDiff]
  rw [hbk]
  refine ⟨⟨by omega, by omega⟩, ⟨by omega, by omega⟩, _, Qq5 (hH1.at 2 rfl) (by omega), ?_⟩
  rw [hc]
  simp -implicitDefEqProofs only [go_sem,↓reduceIte,reduceEqDiff]
  refine ⟨I64.mk (by omega) (by omega), ⟨by omega, by omega⟩, ?_⟩
  refine Qae ?_
  simp -implicitDefEqProofs only [go_sem,↓reduceIte,reduceEqDiff]
  refine Qlj hH1 2 (o := bk) rfl (by omega) fun w8 hH2 => ?_
  simp only [List.set_cons_zero, List.set_cons_succ] at hH2
  (refine hK _ _ ?_;clear hK)
  refine Qav ?_
  refine VR [0, 1, 6, 11, 56, 57] rfl rfl fun K hK => ?_;simp -implicitDefEqProofs only [go_sem,↓reduceIte,reduceEqDiff]
  ((repeat refine And.intro (by omega) ?_);refine hK _ _ ?_;clear hK)
  refine Qah ?_
  simp -implicitDefEqProofs only [go_sem,↓reduceIte,reduceEqDiff]
  refine ⟨n - (k + 1), by omega, k + 1, _, _, rfl, hH2, by simp [hF], by simp [hD], by omega, fun c hc2 => ?_, fun j hj => ?_, rfl⟩
  ·
   rw [Qhl _ _ _ (by omega), hcs c]
   by_cases e : c = bk
   ·
    subst e;rw [if_pos rfl, if_pos rfl];omega
   ·
    rw [if_neg e, if_neg (Ne.symm e), hFk c hc2];simp
  ·
   rw [Qhl _ _ _ (by omega)]
   by_cases e : j = k
   ·
    subst e;simp
   ·
    rw [if_neg (fun h2 => e (QE5 L (by omega) (by omega) h2))];exact hDk j (by omega)
 simp only [decide_eq_false_iff_not] at h
 obtain rfl : k = n := by omega
 refine Qap rfl ?_
 generalize k = n at *
 have hPl : D.toList.map Int.toNat = Qbi L := QCg L _ (by rw [hn];simpa using hD) fun i hi => by
  have h1 := hDk i (by omega)
  have h2 := QCf L i hi
  rw [Qe7 (by omega)] at h1
  rw [List.getD_eq_getElem?_getD, List.getElem?_map, List.getElem?_eq_getElem (by simp;omega)]
  simp only [Option.map_some, Option.getD_some, h1, Int.toNat_natCast]
 have hDp : ∀ p, p < n -> D[p]! = (((Qbi L).getD p 0 : Nat) : Int) /\ (Qbi L).getD p 0 < n := fun p hp => by
  have hm2 : (Qbi L).getD p 0 ∈ Qbi L := Qbs 0 (by rw [(Qch L).length_eq, List.length_range];omega)
  have h3 := (Qch L).mem_iff.1 hm2
  rw [List.mem_range] at h3
  refine ⟨?_, by omega⟩
  have h4 : posB L ((Qbi L).getD p 0) = p := by
   have hpl2 : (Qbi L).length = L.length := by rw [(Qch L).length_eq, List.length_range]
   have hnd : (Qbi L).Nodup := by rw [(Qch L).nodup_iff];exact List.nodup_range
   obtain ⟨h5, h6⟩ := List.getElem?_eq_some_iff.1 (Qe9 L _ h3)
   refine (List.getElem_inj hnd (h₀ := h5) (h₁ := by omega)).1 ?_
   rw [h6, List.getD_eq_getElem?_getD, List.getElem?_eq_getElem (by omega)];rfl
  have h5 := hDk ((Qbi L).getD p 0) (by omega)
  rwa [h4] at h5
 clear hDk hFk hPl
 generalize hP : Qbi L = P at *
 refine VR [0, 13] rfl rfl fun K hK => ?_;simp -implicitDefEqProofs only [go_sem,↓reduceIte,reduceEqDiff]
 refine Qat (.agg #[.nilFunc, .int .i64 0]) (by kernel_rfl) ?_
 simp -implicitDefEqProofs only [go_sem,↓reduceIte,reduceEqDiff]
 have hH1 := hH.box 190 [.nilFunc, .int .i64 0]
 generalize w7.alloc (Obj.cells [Value.nilFunc, .int .i64 0].toArray 190) = w8 at *
 generalize w7.heap.size = gw at *
 refine Qae ?_;simp -implicitDefEqProofs only [go_sem,↓reduceIte,reduceEqDiff];refine Qal hH1 0 (vs := [QL9 gc, .int .i64 p0]) rfl rfl (by kernel_rfl) (by first | decide | (simp;done) | (simp;omega)) (by simp [Value.oneCell']) fun w6 hH2 => ?_;(try simp -implicitDefEqProofs only [go_sem,↓reduceIte,reduceEqDiff])
 have hH3 : Heap w [] w6 [arr gp n D, Res.blk gc 36 [zsl gp n], wblk gw gc p0] := ((hH2.front 1 rfl).front 2 rfl |>.front 1 rfl).sub (by simp)
 (refine hK _ _ ?_;clear hK)
 clear hH hH1 hH2
 generalize w6 = w9 at *
 refine VR [0, 13, 14] rfl rfl fun K hK => ?_;simp -implicitDefEqProofs only [go_sem,↓reduceIte,reduceEqDiff]
 rw [hn]
 refine Qbw Tryz.underlying43 zi5 ?_
 simp -implicitDefEqProofs only [go_sem,↓reduceIte,reduceEqDiff]
 refine ⟨n, n, ⟨rfl, rfl, by omega, by omega, by omega⟩, ?_⟩
 have hH1 := hH3.row 5 (n := n) (cap := n) (sz := 1) (List.replicate n (.int .u8 0)) [] (by simp) (by simp) (by omega) (by omega)
 rw [List.append_nil, show List.replicate n (Value.int .u8 0) = Qao (List.replicate n 0) by simp [Qao]] at hH1
 rw [show List.replicate n (Value.int .u8 0) = Qao (List.replicate n 0) by simp [Qao]]
 generalize w9.alloc (Obj.cells (Qao (List.replicate n 0)).toArray 5) = w10 at *
 generalize w9.heap.size = gb at *
 have hH2 : Heap w [] w10 [arr gp n D, Res.blk gc 36 [zsl gp n], wblk gw gc p0, Res.row 5 1 (some ⟨gb, 0, none⟩) n n (Qao (List.replicate n 0))] := ((hH1.front 3 rfl).front 3 rfl).front 3 rfl
 clear hH1 hH3
 (refine hK _ _ ?_;clear hK)
 refine VR [0, 13, 14, 83, 84] rfl rfl fun K hK => ?_;simp -implicitDefEqProofs only [go_sem,↓reduceIte,reduceEqDiff]
 (refine hK _ _ ?_;clear hK)
 refine Qad ?_
 refine Qam [0, 13, 14, 83, 84] (fun m e w' => ∃ (k q : Nat) (o : List UInt8), Is e [(0, Str L), (13, ptr gw), (14, .slice (some ⟨gb, 0, none⟩) n n), (83, .int .i64 n), (84, .int .i64 k)] /\ Heap w [] w' [arr gp n D, Res.blk gc 36 [zsl gp n], wblk gw gc q, Res.row 5 1 (some ⟨gb, 0, none⟩) n n (Qao o)] /\ o.length = n /\ q < n /\ k <= n /\ o.take k ++ Qgk L P (n - k) q = Qgk L P n p0 /\ m = n - k) n ?_ ?_
 ·
  simp -implicitDefEqProofs only [go_sem,↓reduceIte,reduceEqDiff]
  exact ⟨0, p0, _, rfl, hH2, by simp, by omega, by omega, by simp, rfl⟩
 clear hH2
 rintro m e w11 ⟨k, q, o, rfl, hH, hol, hq, hk, hgo, hm⟩
 refine VR [0, 13, 14, 83, 84, 85] rfl rfl fun K hK => ?_;simp -implicitDefEqProofs only [go_sem,↓reduceIte,reduceEqDiff]
 (refine hK _ _ ?_;clear hK)
 (repeat refine Qai ?_)
 refine Qab rfl rfl (fun h => ?_) (fun h => ?_)
 ·
  simp only [decide_eq_true_eq] at h
  obtain ⟨h1, h2⟩ := hDp q hq
  generalize hq2 : P.getD q 0 = q2 at *
  refine Qaf ?_
  ((repeat refine Qai ?_);refine Qad ?_)
  refine VR [0, 13, 14, 15, 83, 84] rfl rfl fun K hK => ?_;simp -implicitDefEqProofs only [go_sem,↓reduceIte,reduceEqDiff]
  (refine hK _ _ ?_;clear hK)
  refine VR [0, 13, 14, 83, 84] rfl rfl fun K hK => ?_;simp -implicitDefEqProofs only [go_sem,↓reduceIte,reduceEqDiff]
  have hc := QCi D gp n gc gw q q2 (by omega) h1 (by omega) w w11 [] _ (by rw [sl, hD];exact hH)
  rw [sl, hD] at hc
  refine Qag Tryz.call153 ?_;simp -implicitDefEqProofs only [go_sem,↓reduceIte,reduceEqDiff];refine CallK.mk hc ?_
  clear hc hH
  rintro v w12 ⟨hH, rfl⟩
  simp -implicitDefEqProofs only [go_sem,↓reduceIte,reduceEqDiff]
  rw [hn]
  refine ⟨⟨by omega, by omega⟩, ⟨by omega, by omega⟩, ?_⟩
  refine Qae ?_;simp -implicitDefEqProofs only [go_sem,↓reduceIte,reduceEqDiff];refine Qbd hH 3 (o := (k)) (vs := [.int .u8 (L.getD q2 0).toNat]) rfl (by first | exact (Qbp _ _ _).symm | rfl | simp [Qbp]) rfl (by kernel_rfl) (by first | omega | (simp;omega) | (simp [Qao, Qbm];omega) | (rw [natsV_len];simp;omega)) (by simp [Value.oneCell']) fun w6 hH2 => ?_;(try simp -implicitDefEqProofs only [go_sem,↓reduceIte,reduceEqDiff])
  simp only [List.length_singleton, Qb1 (Qao o) _ _ (show k < (Qao o).length by rw [Qeq];omega), Qg1, List.set_cons_zero, List.set_cons_succ] at hH2
  (refine hK _ _ ?_;clear hK)
  refine Qav ?_
  refine VR [0, 13, 14, 83, 84] rfl rfl fun K hK => ?_;simp -implicitDefEqProofs only [go_sem,↓reduceIte,reduceEqDiff]
  ((repeat refine And.intro (by omega) ?_);refine hK _ _ ?_;clear hK)
  refine Qah ?_
  simp -implicitDefEqProofs only [go_sem,↓reduceIte,reduceEqDiff]
  refine ⟨n - (k + 1), by omega, k + 1, q2, o.set k (L.getD q2 0), rfl, hH2, by simp [hol], by omega, by omega, ?_, rfl⟩
  have e1 : (o.set k (L.getD q2 0)).take (k + 1) = o.take k ++ [L.getD q2 0] := by
   rw [List.take_add_one, List.getElem?_set_self (by omega), List.take_set_of_le (by omega)];rfl
  obtain ⟨j, hj⟩ : ∃ j, n - k = j + 1 := ⟨n - k - 1, by omega⟩
  rw [<- hgo, e1, hj, Qgk, hq2, show n - (k + 1) = j by omega]
  simp
 ·
  simp only [decide_eq_false_iff_not] at h
  obtain rfl : k = n := by omega
  refine Qap rfl ?_
  rw [List.take_of_length_le (by omega), Nat.sub_self, Qgk, List.append_nil] at hgo
  rw [<- hgo]
  refine VR [4, 5] rfl rfl fun K hK => ?_;simp -implicitDefEqProofs only [go_sem,↓reduceIte,reduceEqDiff]
  refine ⟨o, Qe4 (by rw [<- hol] at hH ⊢;exact Qbo (hH.at 3 rfl)), ?_⟩
  (refine hK _ _ ?_;clear hK)
  exact Qan (Qa9 rfl rfl rfl ⟨hH.sub (by simp), rfl⟩)
def zend (n : Int) (out : List Int) : List Int -> List Int × Int
 | [] => (out, 0)
 | x :: _ => if x < 0 ∨ n + 1 < x then ([], 60) else ([], 70)
def zdec (n most : Int) : List Int -> Nat -> List Int -> List Int × Int
 | _, _, [] => ([], 70)
 | out, wt, s :: r => if s < 0 ∨ n + 1 < s then ([], 60)
  else if s < 2 then (if most - out.length < (s + 1) * wt then ([], 3) else zdec n most (out ++ List.replicate ((s + 1) * wt).toNat 0) (2 * wt) r)
  else if s = n + 1 then zend n out r
  else if most <= out.length then ([], 3) else zdec n most (out ++ [s - 1]) 1 r
def Qec (n most : Int) (l : List Int) : List Int × Int := if n < 1 ∨ 256 < n ∨ most < 0 ∨ 262144 < most then ([], 2) else zdec n most [] 1 l
theorem Qv8 (n s : Int) (hn : I64 n) (hn2 : n <= 256) (hs : I64 s) (w : World) : Does Tryz.prog 151 #[.int .i64 n, .int .i64 s] w fun v w' => w' = w /\ v = .int .i64 (if s < 0 ∨ n + 1 < s then 60 else 70) := by
 obtain ⟨hn1, hn3⟩ := hn
 refine Qak (args := [.int .i64 n, .int .i64 s]) 13 Tryz.func151 rfl rfl (of_decide_eq_true rfl) ?_
 simp only [Env.ofArgs]
 refine VR [0, 1] rfl rfl fun K hK => ?_;simp only [go_sem,↓reduceIte,reduceEqDiff]
 (refine hK _ _ ?_;clear hK)
 by_cases hn4 : n = -9223372036854775808
 all_goals
  refine VR [12] rfl rfl fun K hK => ?_;simp only [go_sem,↓reduceIte,reduceEqDiff]
  suffices out : ∀ b : Bool, (b = true ↔ s < 0 ∨ n + 1 < s) -> K [(12, .bool b)] w by (repeat' (first | exact out _ _ (by first | omega | (simp;done) | (simp;omega)) | exact out _ (by first | omega | (simp;done) | (simp;omega)) | refine ⟨fun _ => ?_, fun _ => ?_⟩ | refine And.intro (by omega) ?_))
  intro b hb
  (refine hK _ _ ?_;clear hK)
  refine Qab rfl rfl (fun h => ?_) (fun h => Qaf ?_)
  ·
   refine VR [4] rfl rfl fun K hK => ?_;simp only [go_sem,↓reduceIte,reduceEqDiff]
   (refine hK _ _ ?_;clear hK)
   refine Qan (Qax rfl rfl ⟨rfl, ?_⟩)
   rw [if_pos (hb.1 h)]
  refine VR [4] rfl rfl fun K hK => ?_;simp only [go_sem,↓reduceIte,reduceEqDiff]
  (refine hK _ _ ?_;clear hK)
  refine Qan (Qax rfl rfl ⟨rfl, ?_⟩)
  rw [if_neg (fun h' => by rw [hb.2 h'] at h;cases h)]
theorem intsV_zero (m : Nat) : List.replicate m (Value.int .i64 0) = Qbm (List.replicate m 0) := by simp [Qbm]
def decS : List UInt8 -> Nat -> List UInt8 -> List UInt8 × Int
 | out, same, [] => if same = 4 then ([], 30) else (out, 0)
 | out, same, c :: s =>
  if same = 4 then (if 262144 < out.length + c.toNat then ([], 3) else decS (out ++ List.replicate c.toNat (out.getLastD 0)) 0 s)
  else if out.length = 262144 then ([], 3) else decS (out ++ [c]) (if 0 < same /\ out.getLastD 0 = c then same + 1 else 1) s
def Tail (out : List UInt8) (k : Nat) : Prop := k <= out.length /\ ∀ j, j < k -> out[out.length - 1 - j]? = some (out.getLastD 0)
theorem Tail.zero (out : List UInt8) : Tail out 0 := ⟨Nat.zero_le _, fun j hj => by omega⟩
theorem Tail.one (out : List UInt8) (c : UInt8) : Tail (out ++ [c]) 1 := ⟨by simp, fun j hj => by rw [show j = 0 by omega];simp [List.getLastD_eq_getLast?]⟩
theorem Tail.succ {out : List UInt8} {k : Nat} {c : UInt8} (h : Tail out k) (hc : out.getLastD 0 = c) : Tail (out ++ [c]) (k + 1) := by
 refine ⟨by have := h.1;simp;omega, fun j hj => ?_⟩
 have e : (out ++ [c]).getLastD 0 = c := by simp [List.getLastD_eq_getLast?]
 rw [e]
 cases j with
 | zero => simp
 | succ j =>
  have h1 := h.2 j (by omega)
  have hk := h.1
  rw [List.getElem?_append_left (by simp;omega)]
  rw [show (out ++ [c]).length - 1 - (j + 1) = out.length - 1 - j by simp;omega, h1, hc]
theorem Tail.drop {out : List UInt8} {k : Nat} (h : Tail out k) : out.drop (out.length - k) = List.replicate k (out.getLastD 0) := by
 apply List.ext_getElem?
 intro j
 rw [List.getElem?_drop, List.getElem?_replicate]
 split
 ·
  rename_i hj
  have := h.2 (k - 1 - j) (by omega)
  have hk := h.1
  rw [show out.length - k + j = out.length - 1 - (k - 1 - j) by omega, this]
 ·
  rename_i hj
  have hk := h.1
  rw [List.getElem?_eq_none (by omega)]
theorem QCk (out : List UInt8) (same : Nat) (c : UInt8) (s : List UInt8) : decS out same (c :: s) =
  if same = 4 then (if 262144 < out.length + c.toNat then ([], 3) else decS (out ++ List.replicate c.toNat (out.getLastD 0)) 0 s)
  else if out.length = 262144 then ([], 3) else decS (out ++ [c]) (if 0 < same /\ out.getLastD 0 = c then same + 1 else 1) s := rfl
def QFp (w : World) (l : List UInt8) (m : Nat) (e : Env) (w' : World) : Prop :=
 ∃ (i same cap : Nat) (a : Option Addr) (out : List UInt8), Is e [(0, Str l), (4, .slice a out.length cap), (5, .int .i64 same), (6, .int .i64 i)] /\ Heap w [] w' [Res.row 5 1 a out.length cap (Qao out)] /\ i <= l.length /\ out.length <= 262144 /\ same <= 4 /\ Tail out same /\ decS [] 0 l = decS out same (l.drop i) /\ m = l.length - i
theorem QI9 (m c k : Nat) (b : UInt8) (hk : m + k <= c) (ms : List UInt8) (hm : ms.length = c) (hp : ms.take m = List.replicate m b) :
  (ms.take m ++ List.replicate k b ++ ms.drop (m + k)).length = c /\ (ms.take m ++ List.replicate k b ++ ms.drop (m + k)).take (m + k) = List.replicate (m + k) b := by
 refine ⟨by simp;omega, ?_⟩
 rw [hp, List.replicate_append_replicate, List.take_left' (by simp)]
theorem bytesV_take (l : List UInt8) (k : Nat) : (Qao l).take k = Qao (l.take k) := by simp [Qao]
theorem bytesV_drop (l : List UInt8) (k : Nat) : (Qao l).drop k = Qao (l.drop k) := by simp [Qao]
theorem bytesV_zero (n : Nat) : List.replicate n (Value.int .u8 0) = Qao (List.replicate n 0) := by simp [Qao]
theorem bytesV_get {l : List UInt8} {i : Nat} (h : i < l.length) : (Qao l)[i]? = some (.int .u8 (l.getD i 0).toNat) := by
 simp [Qao, List.getElem?_eq_getElem h, List.getD_eq_getElem?_getD]
theorem QE6 (l : List UInt8) (w : World) (hs : l.length <= 140737488355328) :
  Does Tryz.prog 108 #[Str l] w fun v w' => Heap w [] w' [] /\ v = .tuple #[Str (decS [] 0 l).1, .int .i64 (decS [] 0 l).2] := by
 refine Qak (args := [Str l]) 78 Tryz.func108 rfl rfl (of_decide_eq_true rfl) ?_
 simp only [Env.ofArgs]
 refine VR [0] rfl rfl fun K hK => ?_;simp only [go_sem,↓reduceIte,reduceEqDiff]
 (refine hK _ _ ?_;clear hK)
 (repeat refine Qai ?_);refine Qp8 ?_
 refine VR [0, 4] rfl rfl fun K hK => ?_;simp only [go_sem,↓reduceIte,reduceEqDiff]
 refine Qc3 (xs := []) Tryz.underlying43 sz5 rfl rfl rfl (by omega) ?_
 simp only [go_sem,↓reduceIte,reduceEqDiff]
 refine ⟨by simp, ?_⟩
 have hH := (Heap.start w).row 5 (n := 0) (cap := 0) (sz := 1) [] [] rfl rfl (by omega) (by omega)
 simp only [List.append_nil] at hH
 generalize w.alloc (Obj.cells (List.toArray []) 5) = w1 at hH ⊢
 generalize (some ⟨w.heap.size, 0, none⟩ : Option Addr) = a at hH ⊢
 (refine hK _ _ ?_;clear hK)
 refine VR [0, 4, 5] rfl rfl fun K hK => ?_;simp only [go_sem,↓reduceIte,reduceEqDiff]
 (refine hK _ _ ?_;clear hK)
 refine Qai (Qpz ?_)
 refine VR [0, 4, 5, 6] rfl rfl fun K hK => ?_;simp only [go_sem,↓reduceIte,reduceEqDiff]
 (refine hK _ _ ?_;clear hK)
 ((repeat refine Qai ?_);refine Qad ?_)
 refine Qam [0, 4, 5, 6] (QFp w l) l.length ?_ ?_
 ·
  simp only [Qrz, Qm4, Qr0, Qm5, ↓reduceIte, reduceEqDiff]
  exact ⟨0, 0, 0, a, [], rfl, hH, by omega, by simp, by omega, Tail.zero _, rfl, rfl⟩
 clear hH
 rintro m e w2 ⟨i, same, cap, a, out, rfl, hH, h1, h2, h3, h4, h5, rfl⟩
 refine VR [0, 4, 5, 6, 13] rfl rfl fun K hK => ?_;simp only [go_sem,↓reduceIte,reduceEqDiff]
 (refine hK _ _ ?_;clear hK)
 refine Qab rfl rfl (fun hlt => ?_) (fun hge => ?_)
 ·
  simp only [decide_eq_true_eq] at hlt
  have hlt' : i < l.length := by omega
  have hdrop : l.drop i = l.getD i 0 :: l.drop (i + 1) := by
   rw [List.drop_eq_getElem_cons hlt', List.getD_eq_getElem?_getD, List.getElem?_eq_getElem hlt'];rfl
  rw [hdrop, QCk] at h5
  have hc255 := (l.getD i 0).toNat_lt
  have fin : ∀ (same' : Nat) (cap' : Nat) (a' : Option Addr) (out' : List UInt8) (w3 : World) (k : List It), Heap w [] w3 [Res.row 5 1 a' out'.length cap' (Qao out')] -> out'.length <= 262144 -> same' <= 4 -> Tail out' same' -> decS [] 0 l = decS out' same' (l.drop (i + 1)) ->
    selK [0, 4, 5, 6] [(0, Str l), (4, .slice a' out'.length cap'), (5, .int .i64 same'), (6, .int .i64 (↑i + 1))] fun e => ∃ m, m < l.length - i /\ QFp w l m e w3 := by
   intro same' cap' a' out' w3 k g1 g2 g3 g4 g5
   simp only [Qrz, Qm4, Qr0, Qm5, ↓reduceIte, reduceEqDiff]
   exact ⟨l.length - (i + 1), by omega, i + 1, same', cap', a', out', rfl, g1, by omega, g2, g3, g4, g5, rfl⟩
  refine Qaf ?_
  ((repeat refine Qai ?_);refine Qad ?_)
  by_cases hsame : same = 4
  ·
   subst hsame
   rw [if_pos rfl] at h5
   refine VR [0, 4, 5, 6, 17] rfl rfl fun K hK => ?_;simp only [go_sem,↓reduceIte,reduceEqDiff]
   (refine hK _ _ ?_;clear hK)
   refine Qab rfl rfl (fun _ => ?_) (fun h => absurd h (by simp))
   refine VR [0, 4, 5, 6, 25] rfl rfl fun K hK => ?_;simp only [go_sem,↓reduceIte,reduceEqDiff]
   refine ⟨by omega, I64.mk (by omega) (by omega), I64.mk (by omega) (by omega), ?_⟩
   (refine hK _ _ ?_;clear hK)
   generalize hc : l.getD i 0 = c at h5 hc255 ⊢
   by_cases hbig : 262144 < out.length + c.toNat
   ·
    rw [if_pos hbig] at h5
    refine Qab rfl rfl (fun _ => ?_) (fun h => ?_)
    ·
     refine VR [2, 3] rfl rfl fun K hK => ?_;simp only [go_sem,↓reduceIte,reduceEqDiff]
     (refine hK _ _ ?_;clear hK)
     refine Qan (Qa9 rfl rfl rfl ⟨hH.sub (by simp), ?_⟩)
     rw [h5]
    ·
     simp only [decide_eq_false_iff_not] at h;omega
   ·
    rw [if_neg hbig] at h5
    refine Qab rfl rfl (fun h => ?_) (fun _ => ?_)
    ·
     simp only [decide_eq_true_eq] at h;omega
    refine Qaf ?_
    have h4' := h4.1
    obtain ⟨g, rfl⟩ := Qfs (hH.at 0 rfl) (by omega)
    refine VR [0, 4, 6, 7] rfl rfl fun K hK => ?_;simp only [go_sem,↓reduceIte,reduceEqDiff]
    rw [hc]
    refine ⟨by omega, I64.mk (by omega) (by omega), ?_⟩
    refine Qbw Tryz.underlying43 zi5 ?_
    simp only [go_sem,↓reduceIte,reduceEqDiff]
    refine ⟨c.toNat, c.toNat, ⟨rfl, rfl, by omega, by omega, by omega⟩, ?_⟩
    have hH2 := hH.row 5 (n := c.toNat) (cap := c.toNat) (sz := 1) (List.replicate c.toNat (.int .u8 0)) [] (by simp) (by simp) (by omega) (by omega)
    rw [List.append_nil, bytesV_zero] at hH2
    rw [bytesV_zero]
    generalize w2.alloc (Obj.cells (Qao (List.replicate c.toNat 0)).toArray 5) = w3 at hH2 ⊢
    generalize hg2 : w2.heap.size = g2 at hH2 ⊢
    (refine hK _ _ ?_;clear hK)
    refine VR [0, 4, 6, 7, 8] rfl rfl fun K hK => ?_;simp only [go_sem,↓reduceIte,reduceEqDiff]
    (refine hK _ _ ?_;clear hK)
    generalize hb : out.getLastD 0 = b at h5
    (repeat refine Qai ?_)
    refine Qdf [0, 4, 6, 7] (fun e w' => Is e [(0, Str l), (4, .slice (some ⟨g, 0, none⟩) out.length cap), (6, .int .i64 i), (7, .slice (some ⟨g2, 0, none⟩) c.toNat c.toNat)] /\ Heap w [] w' [Res.row 5 1 (some ⟨g2, 0, none⟩) c.toNat c.toNat (Qao (List.replicate c.toNat b)), Res.row 5 1 (some ⟨g, 0, none⟩) out.length cap (Qao out)]) ?_ ?_
    ·
     refine Qad ?_
     refine Qam [0, 4, 6, 7, 8] (fun m e w' => ∃ (n : Nat) (ms : List UInt8), Is e [(0, Str l), (4, .slice (some ⟨g, 0, none⟩) out.length cap), (6, .int .i64 i), (7, .slice (some ⟨g2, 0, none⟩) c.toNat c.toNat), (8, .int .i64 n)] /\ Heap w [] w' [Res.row 5 1 (some ⟨g2, 0, none⟩) c.toNat c.toNat (Qao ms), Res.row 5 1 (some ⟨g, 0, none⟩) out.length cap (Qao out)] /\ n <= c.toNat /\ ms.length = c.toNat /\ ms.take n = List.replicate n b /\ m = c.toNat - n) c.toNat ?_ ?_
     ·
      simp only [Qrz, Qm4, Qr0, Qm5, ↓reduceIte, reduceEqDiff]
      exact ⟨0, List.replicate c.toNat 0, rfl, hH2, by omega, by simp, rfl, rfl⟩
     rintro m e w4 ⟨n, ms, rfl, hH3, k1, k2, k3, rfl⟩
     refine VR [0, 4, 6, 7, 8, 34] rfl rfl fun K hK => ?_;simp only [go_sem,↓reduceIte,reduceEqDiff]
     (refine hK _ _ ?_;clear hK)
     refine Qab rfl rfl (fun hn => ?_) (fun hn => ?_)
     ·
      simp only [decide_eq_true_eq] at hn
      refine Qaf ?_
      (repeat refine Qai ?_)
      refine Qad (Qaf (Qav ?_))
      have hcap := (QG1 (hH3.at 1 rfl)).1
      (repeat refine Qai ?_);refine Qdp (holes [g2] w4) (Ext.hole _ _) [0, 4, 6, 7, 8] [(0, true), (1, true), (2, true), (3, true), (4, true), (5, true), (6, true), (7, true), (8, true), (9, false), (10, false), (11, false)] (by kernel_rfl) (by kernel_rfl) rfl (by simp only [Qay, List.filterMap_cons, List.filterMap_nil, List.getElem?_cons_succ, List.getElem?_cons_zero, Option.map_some];rfl) fun K hK => ?_;simp only [go_sem,↓reduceIte,reduceEqDiff]
      refine ⟨by omega, I64.mk (by omega) (by omega), by omega, ?_⟩
      refine Qna ?_
      simp only [go_sem,↓reduceIte,reduceEqDiff]
      rw [if_neg (show ¬ c.toNat = n by omega), if_neg (show ¬ cap = out.length - 4 by omega)]
      simp only [Option.map_some]
      have hsrc := (Qbo (hH3.at 1 rfl)).drop rfl (out.length - 4) (by omega)
      rw [Nat.mul_one, bytesV_drop, Tail.drop h4, hb, show out.length - (out.length - 4) = 4 by omega] at hsrc
      rw [show out.length - (out.length - 4) = 4 by omega]
      refine Qic hH3 0 rfl Tryz.underlying43 sz5 (off := n) rfl ⟨rfl, hsrc, 5, Tryz.underlying43⟩ (Qia _) (by rw [Qeq, k2];omega) fun w5 hu hH4 => ?_
      simp only [go_sem,↓reduceIte,reduceEqDiff]
      have hkk : min 4 (c.toNat - n) <= c.toNat - n := Nat.min_le_right _ _
      have hkk0 : 0 < min 4 (c.toNat - n) := by omega
      have hk4 : min 4 (c.toNat - n) <= 4 := Nat.min_le_left _ _
      generalize min 4 (c.toNat - n) = kk at hH4 hkk hkk0 hk4 ⊢
      refine ⟨hu.extH, I64.mk (by omega) (by omega), ?_⟩
      (refine hK _ _ ?_;clear hK)
      refine Qah ?_
      simp only [Qrz, Qm4, Qr0, Qm5, ↓reduceIte, reduceEqDiff]
      have hset : (Qao ms).take n ++ (Qao (List.replicate 4 b)).take (kk * 1) ++ (Qao ms).drop (n + kk * 1) = Qao (ms.take n ++ List.replicate kk b ++ ms.drop (n + kk)) := by
       rw [Nat.mul_one, bytesV_take, bytesV_take, bytesV_drop, List.take_replicate, Nat.min_eq_left hk4, Qdg, Qdg]
      rw [hset] at hH4
      obtain ⟨r1, r2⟩ := QI9 n c.toNat kk b (by omega) ms k2 k3
      exact ⟨c.toNat - (n + kk), by omega, n + kk, _, rfl, hH4, by omega, r1, r2, rfl⟩
     ·
      simp only [decide_eq_false_iff_not] at hn
      refine Qap rfl ?_
      refine Qah ?_
      simp only [go_sem,↓reduceIte,reduceEqDiff]
      refine ⟨rfl, ?_⟩
      have hms : ms = List.replicate c.toNat b := by
       rw [<- List.take_of_length_le (show ms.length <= n by omega), k3];congr 1;omega
      rw [hms] at hH3
      exact hH3
    ·
     rintro e w4 ⟨rfl, hH3⟩
     refine VR [0, 4, 6] rfl rfl fun K hK => ?_;simp only [go_sem,↓reduceIte,reduceEqDiff]
     refine Qa6 ?_
     simp only [go_sem,↓reduceIte,reduceEqDiff]
     refine Qx7 hH3 1 rfl Tryz.underlying43 zi5 (t := List.replicate c.toNat b) (by simp) (by simpa using Qbo (hH3.at 0 rfl)) (fun h => by simp;omega) fun a' cap' w5 hc' hH4 => ?_
     (refine hK _ _ ?_;clear hK)
     refine VR [0, 4, 5, 6] rfl rfl fun K hK => ?_;simp only [go_sem,↓reduceIte,reduceEqDiff]
     (refine hK _ _ ?_;clear hK)
     refine Qap rfl ?_
     refine VR [0, 4, 5, 6] rfl rfl fun K hK => ?_;simp only [go_sem,↓reduceIte,reduceEqDiff]
     ((repeat refine And.intro (by omega) ?_);refine hK _ _ ?_;clear hK)
     refine Qah ?_
     exact fin 0 cap' a' _ w5 [] (hH4.sub (by simp)) (by simp;omega) (by omega) (Tail.zero _) h5
  ·
   rw [if_neg hsame] at h5
   generalize hsm : (if 0 < same /\ out.getLastD 0 = l.getD i 0 then same + 1 else 1) = same' at h5
   have hsame' : same' <= 4 /\ Tail (out ++ [l.getD i 0]) same' := by
    rw [<- hsm]
    split
    ·
     rename_i h;exact ⟨by omega, Tail.succ h4 h.2⟩
    ·
     exact ⟨by omega, Tail.one _ _⟩
   refine VR [0, 4, 5, 6, 17] rfl rfl fun K hK => ?_;simp only [go_sem,↓reduceIte,reduceEqDiff]
   (refine hK _ _ ?_;clear hK)
   refine Qab rfl rfl (fun h => absurd h (by simp;omega)) (fun _ => ?_)
   refine Qaf ?_
   refine Qai (Qdf [0, 4, 5, 6] (fun e w' => Is e [(0, Str l), (4, .slice a out.length cap), (5, .int .i64 same'), (6, .int .i64 i)] /\ Is w' w2) ?_ ?_)
   ·
    have yes : 0 < same /\ out.getLastD 0 = l.getD i 0 -> VC ⟨Tryz.prog, Tryz.f108, fun v w' => Heap w [] w' [] /\ v = .tuple #[Str (decS [] 0 l).1, .int .i64 (decS [] 0 l).2], 78⟩ [] [] w2 -> True := fun _ _ => trivial
    clear yes
    by_cases hs0 : 0 < same
    ·
     have h4' := h4.1
     obtain ⟨g, rfl⟩ := Qfs (hH.at 0 rfl) (by omega)
     have hcell : w2.cell? ⟨g, out.length - 1, none⟩ = some (.int .u8 (out.getLastD 0).toNat) := by
      refine Qaa (hH.at 0 rfl) ?_
      have h1' := h4.2 0 hs0
      simp only [Qao, List.getElem?_map]
      rw [show out.length - 1 = out.length - 1 - 0 by omega, h1']
      rfl
     (repeat refine Qai ?_);refine Qcq [0, 4, 5, 6, 62] (by kernel_rfl) (by kernel_rfl) rfl fun K hK => ?_;simp only [go_sem,↓reduceIte,reduceEqDiff]
     refine ⟨fun _ => ⟨by omega, I64.mk (by omega) (by omega), by omega, _, hcell, ?_⟩, fun h => absurd (show (0 : Int) < same by omega) h⟩
     simp only [go_sem,↓reduceIte,reduceEqDiff]
     (refine hK _ ?_;clear hK)
     refine Qab rfl rfl (fun h => ?_) (fun h => ?_)
     ·
      simp only [decide_eq_true_eq] at h
      have hl : out.getLastD 0 = l.getD i 0 := (UInt8.toNat_inj.1 (by omega))
      rw [if_pos ⟨hs0, hl⟩] at hsm
      subst hsm
      refine VR [0, 4, 5, 6] rfl rfl fun K hK => ?_;simp only [go_sem,↓reduceIte,reduceEqDiff]
      ((repeat refine And.intro (by omega) ?_);refine hK _ _ ?_;clear hK)
      refine Qah ?_
      simp only [go_sem,↓reduceIte,reduceEqDiff]
      exact ⟨rfl, rfl⟩
     ·
      simp only [decide_eq_false_iff_not] at h
      have hl : ¬ out.getLastD 0 = l.getD i 0 := fun h' => h (by rw [h'])
      rw [if_neg (fun h => hl h.2)] at hsm
      subst hsm
      refine VR [0, 4, 5, 6] rfl rfl fun K hK => ?_;simp only [go_sem,↓reduceIte,reduceEqDiff]
      (refine hK _ _ ?_;clear hK)
      refine Qah ?_
      simp only [go_sem,↓reduceIte,reduceEqDiff]
      exact ⟨rfl, rfl⟩
    ·
     have : same = 0 := by omega
     subst this
     rw [if_neg (by omega)] at hsm
     subst hsm
     (repeat refine Qai ?_);refine Qcq [0, 4, 5, 6, 62] (by kernel_rfl) (by kernel_rfl) rfl fun K hK => ?_;simp only [go_sem,↓reduceIte,reduceEqDiff]
     refine ⟨fun h => absurd h (by omega), fun _ => ?_⟩
     (refine hK _ ?_;clear hK)
     refine Qab rfl rfl (fun h => by cases h) (fun _ => ?_)
     refine VR [0, 4, 5, 6] rfl rfl fun K hK => ?_;simp only [go_sem,↓reduceIte,reduceEqDiff]
     (refine hK _ _ ?_;clear hK)
     refine Qah ?_
     simp only [go_sem,↓reduceIte,reduceEqDiff]
     exact ⟨rfl, rfl⟩
   ·
    rintro e w3 ⟨rfl, rfl⟩
    refine VR [0, 4, 5, 6, 67] rfl rfl fun K hK => ?_;simp only [go_sem,↓reduceIte,reduceEqDiff]
    (refine hK _ _ ?_;clear hK)
    by_cases hfull : out.length = 262144
    ·
     rw [if_pos hfull] at h5
     refine Qab rfl rfl (fun _ => ?_) (fun h => absurd h (by simp;omega))
     refine VR [2, 3] rfl rfl fun K hK => ?_;simp only [go_sem,↓reduceIte,reduceEqDiff]
     (refine hK _ _ ?_;clear hK)
     refine Qan (Qa9 rfl rfl rfl ⟨hH.sub (by simp), ?_⟩)
     rw [h5]
    ·
     rw [if_neg hfull] at h5
     refine Qab rfl rfl (fun h => absurd h (by simp;omega)) (fun _ => ?_)
     refine Qaf ?_
     refine VR [0, 4, 5, 6] rfl rfl fun K hK => ?_;simp only [go_sem,↓reduceIte,reduceEqDiff]
     refine ⟨by omega, ?_⟩
     refine Qc3 (xs := [.tmp 71]) Tryz.underlying43 sz5 rfl rfl rfl (by omega) ?_
     simp only [go_sem,↓reduceIte,reduceEqDiff]
     refine ⟨by simp [Value.cells], ?_⟩
     refine Qa6 ?_
     simp only [go_sem,↓reduceIte,reduceEqDiff]
     refine Qg0 hH 0 (l.getD i 0) rfl Tryz.underlying43 zi5 rfl (fun h => by simp;omega) fun a' cap' w5 hc' hH4 => ?_
     (refine hK _ _ ?_;clear hK)
     refine Qav ?_
     refine VR [0, 4, 5, 6] rfl rfl fun K hK => ?_;simp only [go_sem,↓reduceIte,reduceEqDiff]
     ((repeat refine And.intro (by omega) ?_);refine hK _ _ ?_;clear hK)
     refine Qah ?_
     exact fin same' cap' a' _ w5 [] hH4 (by simp;omega) hsame'.1 hsame'.2 h5
 ·
  simp only [decide_eq_false_iff_not] at hge
  rw [List.drop_of_length_le (by omega)] at h5
  refine Qap rfl ?_
  refine VR [4, 75, 5] rfl rfl fun K hK => ?_;simp only [go_sem,↓reduceIte,reduceEqDiff]
  (refine hK _ _ ?_;clear hK)
  by_cases hsame : same = 4
  ·
   subst hsame
   refine Qab rfl rfl (fun _ => ?_) (fun h => absurd h (by simp))
   refine VR [2, 3] rfl rfl fun K hK => ?_;simp only [go_sem,↓reduceIte,reduceEqDiff]
   (refine hK _ _ ?_;clear hK)
   refine Qan (Qa9 rfl rfl rfl ⟨hH.sub (by simp), ?_⟩)
   rw [h5];rfl
  ·
   refine Qab rfl rfl (fun h => absurd h (by simp;omega)) (fun _ => ?_)
   refine Qaf ?_
   refine VR [2, 3] rfl rfl fun K hK => ?_;simp only [go_sem,↓reduceIte,reduceEqDiff]
   refine ⟨out, hH.readsBytes 0 rfl, ?_⟩
   (refine hK _ _ ?_;clear hK)
   refine Qan (Qa9 rfl rfl rfl ⟨hH.sub (by simp), ?_⟩)
   rw [h5];simp [decS, hsame]
theorem QE7 {l : List Nat} {n i : Nat} (h : i ∈ idxs l n) : i < l.length := (Qmc.1 h).1
theorem QCl (l : List Nat) : ∀ (r : List Bool) (n code : Nat) (q : Nat × Nat), Qgc l r n code = .ok q -> q.1 < l.length /\ n < q.2 /\ q.2 <= n + r.length := by
 intro r
 induction r with
 | nil => intro n code q h;simp [Qgc] at h
 | cons b r ih =>
  intro n code q h
  rw [Qgc] at h
  split at h
  ·
   rename_i hc
   cases h
   refine ⟨?_, by simp, by simp⟩
   have hlt : 2 * code + b.toNat - Qbj l (n + 1) < (idxs l (n + 1)).length := by unfold cnt at hc;omega
   have := List.getElem_mem hlt
   rw [List.getD_eq_getElem?_getD, List.getElem?_eq_getElem hlt]
   exact QE7 this
  ·
   split at h
   ·
    have := ih _ _ _ h
    simp only [List.length_cons]
    omega
   ·
    cases h
theorem Qzk (l : List Nat) : ∀ (r : List Bool) (n code : Nat) (e : Int), Qgc l r n code = .error e -> e ≠ 0 := by
 intro r
 induction r with
 | nil => intro n code e h;simp [Qgc] at h;omega
 | cons b r ih =>
  intro n code e h
  rw [Qgc] at h
  split at h
  ·
   cases h
  ·
   split at h
   ·
    exact ih _ _ _ h
   ·
    cases h;decide
theorem QCm {l : List Nat} {bits : List Bool} {at_ : Nat} {q : Nat × Nat} (h : Qhy l bits at_ = .ok q) : q.1 < l.length /\ at_ < q.2 /\ q.2 <= bits.length := by
 unfold Qhy at h
 split at h
 ·
  rename_i p hp
  cases h
  have := QCl l _ _ _ _ hp
  rw [List.length_drop] at this
  simp only
  omega
 ·
  cases h
theorem Qzl {l : List Nat} {bits : List Bool} {at_ : Nat} {e : Int} (h : Qhy l bits at_ = .error e) : e ≠ 0 := by
 unfold Qhy at h
 split at h
 ·
  cases h
 ·
  rename_i e' hp;cases h;exact Qzk l _ _ _ _ hp
theorem QCn {l : List Nat} {bits : List Bool} {fin : Nat} : ∀ (n at_ : Nat) (q : List Nat × Nat), at_ <= bits.length -> Qed l bits fin n at_ = .ok q -> (∀ x ∈ q.1, x < l.length) /\ q.1.length <= n /\ q.2 <= bits.length /\ at_ <= q.2 := by
 intro n
 induction n with
 | zero => intro at_ q ha h;rw [Qed] at h;cases h;simp [ha]
 | succ n ih =>
  intro at_ q ha h
  rw [Qed] at h
  cases hn : Qhy l bits at_ with
  | error e => rw [hn] at h;cases h
  | ok p =>
   rw [hn] at h
   simp only at h
   obtain ⟨h1, h2, h3⟩ := QCm hn
   split at h
   ·
    cases h
    refine ⟨by simpa using h1, by simp, h3, by simp only;omega⟩
   ·
    cases hr : Qed l bits fin n p.2 with
    | error e => rw [hr] at h;cases h
    | ok q' =>
     rw [hr] at h
     cases h
     obtain ⟨g1, g2, g3, g4⟩ := ih _ _ h3 hr
     refine ⟨fun x hx => ?_, by simp only [List.length_cons];omega, g3, by simp only;omega⟩
     rcases List.mem_cons.1 hx with rfl | hx
     ·
      exact h1
     ·
      exact g1 x hx
theorem Qzm {l : List Nat} {bits : List Bool} {fin : Nat} : ∀ (n at_ : Nat) (e : Int), Qed l bits fin n at_ = .error e -> e ≠ 0 := by
 intro n
 induction n with
 | zero => intro at_ e h;rw [Qed] at h;cases h
 | succ n ih =>
  intro at_ e h
  rw [Qed] at h
  cases hn : Qhy l bits at_ with
  | error e' => rw [hn] at h;cases h;exact Qzl hn
  | ok p =>
   rw [hn] at h
   simp only at h
   split at h
   ·
    cases h
   ·
    cases hr : Qed l bits fin n p.2 with
    | error e' => rw [hr] at h;cases h;exact ih _ _ hr
    | ok q' => rw [hr] at h;cases h
theorem QCo {T : List (List Nat)} {bits : List Bool} {fin N : Nat} (hT : ∀ t, t < T.length -> (T.getD t []).length = N) : ∀ (P : List Nat) (at_ : Nat) (q : List Nat × Nat), (∀ k ∈ P, k < T.length) -> at_ <= bits.length -> Qgn T bits fin P at_ = .ok q ->
  (∀ x ∈ q.1, x < N) /\ q.1.length <= 50 * P.length /\ q.2 <= bits.length := by
 intro P
 induction P with
 | nil => intro at_ q _ _ h;rw [Qgn] at h;cases h
 | cons p P ih =>
  intro at_ q hP ha h
  rw [Qgn] at h
  have hp := hT p (hP p (by simp))
  cases hn : Qed (T.getD p []) bits fin 50 at_ with
  | error e => rw [hn] at h;cases h
  | ok q1 =>
   rw [hn] at h
   simp only at h
   obtain ⟨h1, h2, h3, h4⟩ := QCn _ _ _ ha hn
   rw [hp] at h1
   split at h
   ·
    cases h
    refine ⟨h1, by simp only [List.length_cons];omega, h3⟩
   ·
    cases hr : Qgn T bits fin P q1.2 with
    | error e => rw [hr] at h;cases h
    | ok q' =>
     rw [hr] at h
     cases h
     obtain ⟨g1, g2, g3⟩ := ih _ _ (fun k hk => hP k (by simp [hk])) h3 hr
     refine ⟨fun x hx => ?_, by simp only [List.length_cons, List.length_append];omega, g3⟩
     rcases List.mem_append.1 hx with hx | hx
     ·
      exact h1 x hx
     ·
      exact g1 x hx
theorem Qzn {T : List (List Nat)} {bits : List Bool} {fin : Nat} : ∀ (P : List Nat) (at_ : Nat) (e : Int), Qgn T bits fin P at_ = .error e -> e ≠ 0 := by
 intro P
 induction P with
 | nil => intro at_ e h;rw [Qgn] at h;cases h;decide
 | cons p P ih =>
  intro at_ e h
  rw [Qgn] at h
  cases hn : Qed (T.getD p []) bits fin 50 at_ with
  | error e' => rw [hn] at h;cases h;exact Qzm _ _ _ hn
  | ok q1 =>
   rw [hn] at h
   simp only at h
   split at h
   ·
    cases h
   ·
    cases hr : Qgn T bits fin P q1.2 with
    | error e' => rw [hr] at h;cases h;exact ih _ _ hr
    | ok q' => rw [hr] at h;cases h
theorem QJa {n most : Int} (hn : n <= 256) : ∀ (r out : List Int) (wt : Nat), (out.length : Int) <= most -> (∀ x ∈ out, 0 <= x /\ x <= 256) -> ((zdec n most out wt r).1.length : Int) <= most /\ ∀ x ∈ (zdec n most out wt r).1, 0 <= x /\ x <= 256 := by
 intro r
 induction r with
 | nil => intro out wt h _;rw [zdec];simp;omega
 | cons s r ih =>
  intro out wt h ho
  rw [zdec]
  split
  ·
   simp;omega
  ·
   split
   ·
    split
    ·
     simp;omega
    ·
     refine ih _ _ ?_ ?_
     ·
      rename_i h1 h2 h3
      have h4 : 0 <= (s + 1) * (wt : Int) := Int.mul_nonneg (by omega) (by omega)
      rw [List.length_append, List.length_replicate]
      omega
     ·
      intro x hx
      rcases List.mem_append.1 hx with hx | hx
      ·
       exact ho x hx
      ·
       rw [List.mem_replicate] at hx;omega
   ·
    split
    ·
     cases r with
     | nil => exact ⟨h, ho⟩
     | cons x r => rw [zend];split <;> (simp;omega)
    ·
     split
     ·
      simp;omega
     ·
      refine ih _ _ (by rw [List.length_append, List.length_singleton];omega) fun x hx => ?_
      rcases List.mem_append.1 hx with hx | hx
      ·
       exact ho x hx
      ·
       simp at hx;omega
theorem Qzo {n most : Int} (l : List Int) : (Qec n most l).1.length <= 262144 /\ ∀ x ∈ (Qec n most l).1, 0 <= x /\ x <= 256 := by
 unfold Qec
 split
 ·
  simp
 ·
  have := QJa (n := n) (most := most) (by omega) l [] 1 (by simp;omega) (by simp)
  exact ⟨by omega, this.2⟩
theorem Qq6 : ∀ (l : List Int) (li out : List UInt8), Qdl li l = some out -> out.length = l.length := by
 intro l
 induction l with
 | nil => intro li out h;simp [Qdl] at h;subst h;rfl
 | cons x l ih =>
  intro li out h
  unfold Qdl at h
  split at h
  ·
   simp only [Option.map_eq_some_iff] at h
   obtain ⟨o, ho, rfl⟩ := h
   simp [ih _ _ ho]
  ·
   cases h
theorem Qts (u : List UInt8) (l : List Int) : (Qdi u l).1.length <= l.length := by
 unfold Qdi
 split
 ·
  split
  ·
   simp
  ·
   rename_i out h;exact Nat.le_of_eq (Qq6 _ _ _ h)
 ·
  simp
theorem Qzp (L : List UInt8) (P : List Nat) : ∀ (k row : Nat), (Qgk L P k row).length = k := by
 intro k
 induction k with
 | zero => intro row;rfl
 | succ k ih => intro row;simp [Qgk, ih]
theorem QE8 (L : List UInt8) (row : Int) : (bckS L row).1.length <= 262144 := by
 unfold bckS
 split
 ·
  simp
 ·
  split
  ·
   simp
  ·
   simp only [Qzp];omega
theorem QJb : ∀ (l out : List UInt8) (k : Nat), out.length <= 262144 -> (decS out k l).1.length <= 262144 := by
 intro l
 induction l with
 | nil => intro out k h;rw [decS];split <;> simp <;> omega
 | cons c l ih =>
  intro out k h
  rw [decS]
  split
  ·
   split
   ·
    simp
   ·
    exact ih _ _ (by simp;omega)
  ·
   split
   ·
    simp
   ·
    exact ih _ _ (by simp;omega)
theorem Qtt (i : Nat) (row : List Bool) : (Qgm i row).length <= 16 := by
 unfold Qgm
 rw [List.length_map]
 have := List.length_filter_le (fun k => row.getD k false) (List.range 16)
 simpa using this
theorem QJc {bits : List Bool} : ∀ (r : List Bool) (i at_ : Nat) (q : List UInt8 × Nat), at_ <= bits.length -> stGo bits r i at_ = .ok q -> q.2 <= bits.length /\ q.1.length <= 16 * r.length := by
 intro r
 induction r with
 | nil => intro i at_ q ha h;rw [stGo] at h;cases h;simp [ha]
 | cons b r ih =>
  intro i at_ q ha h
  cases b with
  | false => rw [stGo] at h;have := ih _ _ _ ha h;simp only [List.length_cons];omega
  | true =>
   rw [stGo] at h
   split at h
   ·
    cases h
   ·
    cases hr : stGo bits r (i + 1) (at_ + 16) with
    | error e => rw [hr] at h;cases h
    | ok q' =>
     rw [hr] at h
     cases h
     have h1 := ih _ _ _ (by omega) hr
     have h2 := Qtt i ((bits.drop at_).take 16)
     simp only [List.length_cons, List.length_append]
     omega
theorem QE9 {bits : List Bool} : ∀ (r : List Bool) (i at_ : Nat) (e : Int), stGo bits r i at_ = .error e -> e ≠ 0 := by
 intro r
 induction r with
 | nil => intro i at_ e h;rw [stGo] at h;cases h
 | cons b r ih =>
  intro i at_ e h
  cases b with
  | false => rw [stGo] at h;exact ih _ _ _ h
  | true =>
   rw [stGo] at h
   split at h
   ·
    cases h;decide
   ·
    cases hr : stGo bits r (i + 1) (at_ + 16) with
    | error e' => rw [hr] at h;cases h;exact ih _ _ _ hr
    | ok q' => rw [hr] at h;cases h
theorem Qv9 {bits : List Bool} {at_ : Nat} {q : List UInt8 × Nat} (h : Qe8 bits at_ = .ok q) : q.2 <= bits.length /\ 1 <= q.1.length /\ q.1.length <= 256 := by
 unfold Qe8 at h
 split at h
 ·
  cases h
 ·
  cases hr : stGo bits ((bits.drop at_).take 16) 0 (at_ + 16) with
  | error e => rw [hr] at h;cases h
  | ok q' =>
   rw [hr] at h
   simp only at h
   split at h
   ·
    cases h
   ·
    rename_i hne
    cases h
    have h1 := QJc _ _ _ _ (by omega) hr
    have h2 : ((bits.drop at_).take 16).length <= 16 := by rw [List.length_take];omega
    have h3 : 0 < q.1.length := by
     cases hq : q.1 with
     | nil => exact absurd hq hne
     | cons a b => simp
    omega
theorem Qtu {bits : List Bool} {at_ : Nat} {e : Int} (h : Qe8 bits at_ = .error e) : e ≠ 0 := by
 unfold Qe8 at h
 split at h
 ·
  cases h;decide
 ·
  cases hr : stGo bits ((bits.drop at_).take 16) 0 (at_ + 16) with
  | error e' => rw [hr] at h;cases h;exact QE9 _ _ _ _ hr
  | ok q' =>
   rw [hr] at h
   simp only at h
   split at h
   ·
    cases h;decide
   ·
    cases h
theorem QCp (n most : Int) (l : List Int) (la : Option Addr) (lc : Nat) (hn : I64 n) (hm : I64 most) (w : World) (hl : RS w la l.length 1 (Qbm l)) (hs : l.length <= 2147483640) (hi : ∀ v ∈ l, I64 v) :
  Does Tryz.prog 105 #[.int .i64 n, .int .i64 most, .slice la l.length lc] w (IntsErr (Qec n most l) w) := by
 obtain ⟨hn1, hn2⟩ := hn
 obtain ⟨hm1, hm2⟩ := hm
 refine Qak (args := [.int .i64 n, .int .i64 most, .slice la l.length lc]) 98 Tryz.func105 rfl rfl (of_decide_eq_true rfl) ?_
 simp only [Env.ofArgs]
 refine VR [0, 1, 2] rfl rfl fun K hK => ?_;simp -implicitDefEqProofs only [go_sem,↓reduceIte,reduceEqDiff]
 (refine hK _ _ ?_;clear hK)
 refine VR [0, 1, 2, 26] rfl rfl fun K hK => ?_;simp -implicitDefEqProofs only [go_sem,↓reduceIte,reduceEqDiff]
 suffices out : ∀ b : Bool, (b = true ↔ n < 1 ∨ 256 < n ∨ most < 0 ∨ 262144 < most) -> K [(0, .int .i64 n), (1, .int .i64 most), (2, .slice la l.length lc), (26, .bool b)] w by (repeat' (first | exact out _ _ (by first | omega | (simp;done) | (simp;omega)) | exact out _ (by first | omega | (simp;done) | (simp;omega)) | refine ⟨fun _ => ?_, fun _ => ?_⟩ | refine And.intro (by omega) ?_))
 intro b hb
 (refine hK _ _ ?_;clear hK)
 refine Qab rfl rfl (fun h => ?_) (fun h => Qaf ?_)
 ·
  refine VR [6, 7] rfl rfl fun K hK => ?_;simp -implicitDefEqProofs only [go_sem,↓reduceIte,reduceEqDiff]
  (refine hK _ _ ?_;clear hK)
  refine Qan (Qa9 rfl rfl rfl ?_)
  rw [Qec, if_pos (hb.1 h)]
  exact IntsErr.nil (Heap.start w) 2
 have hg : ¬ (n < 1 ∨ 256 < n ∨ most < 0 ∨ 262144 < most) := fun h' => by rw [hb.2 h'] at h;cases h
 clear h hb
 rw [Qec, if_neg hg]
 refine VR [0, 1, 2, 8] rfl rfl fun K hK => ?_;simp -implicitDefEqProofs only [go_sem,↓reduceIte,reduceEqDiff]
 (refine hK _ _ ?_;clear hK)
 refine VR [0, 1, 2, 8, 9, 10] rfl rfl fun K hK => ?_;simp -implicitDefEqProofs only [go_sem,↓reduceIte,reduceEqDiff]
 (refine hK _ _ ?_;clear hK)
 refine VR [0, 1, 2, 8, 9, 10, 27, 28, 29] rfl rfl fun K hK => ?_;simp -implicitDefEqProofs only [go_sem,↓reduceIte,reduceEqDiff]
 (refine hK _ _ ?_;clear hK)
 ((repeat refine Qai ?_);refine Qad ?_)
 refine Qam [0, 1, 2, 8, 9, 10, 27, 28, 29] (fun m e w' => ∃ (i run wt cap : Nat) (a : Option Addr) (o : List Int), Is e [(0, .int .i64 n), (1, .int .i64 most), (2, .slice la l.length lc), (8, .slice a o.length cap), (9, .int .i64 run), (10, .int .i64 wt), (27, .slice la l.length lc), (28, .int .i64 l.length), (29, .int .i64 i)] /\ Heap w [] w' [Res.row 3 1 a o.length cap (Qbm o)] /\ i <= l.length /\ (o.length : Int) + run <= most /\ wt <= 2 * most + 1 /\ 1 <= wt /\ zdec n most [] 1 l = zdec n most (o ++ List.replicate run 0) wt (l.drop i) /\ m = l.length - i) l.length ?_ ?_
 ·
  simp -implicitDefEqProofs only [go_sem,↓reduceIte,reduceEqDiff]
  exact ⟨0, 0, 1, 0, none, [], rfl, Qmg, by omega, by simp;omega, by omega, by omega, rfl, rfl⟩
 rintro m e w2 ⟨i, run, wt, cap, a, o, rfl, hH, g1, g2, g3, g4, g5, rfl⟩
 refine VR [0, 1, 2, 8, 9, 10, 27, 28, 29, 30] rfl rfl fun K hK => ?_;simp -implicitDefEqProofs only [go_sem,↓reduceIte,reduceEqDiff]
 (refine hK _ _ ?_;clear hK)
 (repeat refine Qai ?_)
 refine Qab rfl rfl (fun h => ?_) (fun h => ?_)
 ·
  simp only [decide_eq_true_eq] at h
  refine Qaf ?_
  ((repeat refine Qai ?_);refine Qad ?_)
  obtain ⟨p, rfl⟩ := Qcx hl (by omega)
  have hc := Qnd (hH.rs' hl) (show i < l.length by omega)
  have hr := hi _ (Qbs 0 (show i < l.length by omega))
  have hdr := drop_getD 0 (show i < l.length by omega)
  generalize l.getD i 0 = s at *
  obtain ⟨hr1, hr2⟩ := hr
  rw [hdr] at g5
  refine VR [0, 1, 2, 8, 9, 10, 11, 12, 27, 28, 29] rfl rfl fun K hK => ?_;simp -implicitDefEqProofs only [go_sem,↓reduceIte,reduceEqDiff]
  refine ⟨⟨by omega, by omega⟩, _, hc, ?_⟩
  (refine hK _ _ ?_;clear hK)
  refine VR [0, 1, 2, 8, 9, 10, 11, 12, 27, 28, 29, 41] rfl rfl fun K hK => ?_;simp -implicitDefEqProofs only [go_sem,↓reduceIte,reduceEqDiff]
  suffices out : ∀ c : Bool, (c = true ↔ s < 0 ∨ n + 1 < s) -> K [(0, .int .i64 n), (1, .int .i64 most), (2, .slice (some p) l.length lc), (8, .slice a o.length cap), (9, .int .i64 run), (10, .int .i64 wt), (11, .int .i64 i), (12, .int .i64 s), (27, .slice (some p) l.length lc), (28, .int .i64 l.length), (29, .int .i64 i), (41, .bool c)] w2 by (repeat' (first | exact out _ _ (by first | omega | (simp;done) | (simp;omega)) | exact out _ (by first | omega | (simp;done) | (simp;omega)) | refine ⟨fun _ => ?_, fun _ => ?_⟩ | refine And.intro (by omega) ?_))
  intro c hb
  (refine hK _ _ ?_;clear hK)
  refine Qab rfl rfl (fun h => ?_) (fun h => Qaf ?_)
  ·
   refine VR [6, 7] rfl rfl fun K hK => ?_;simp -implicitDefEqProofs only [go_sem,↓reduceIte,reduceEqDiff]
   (refine hK _ _ ?_;clear hK)
   refine Qan (Qa9 rfl rfl rfl ?_)
   have hg2 := hb.1 h
   rw [zdec, if_pos hg2] at g5
   rw [g5]
   exact IntsErr.nil (hH.sub (by simp)) 60
  have hg2 : ¬ (s < 0 ∨ n + 1 < s) := fun h' => by rw [hb.2 h'] at h;cases h
  clear h hb
  rw [zdec, if_neg hg2] at g5
  refine VR [0, 1, 2, 8, 9, 10, 11, 12, 27, 28, 29, 43] rfl rfl fun K hK => ?_;simp -implicitDefEqProofs only [go_sem,↓reduceIte,reduceEqDiff]
  (refine hK _ _ ?_;clear hK)
  refine Qab rfl rfl (fun h => ?_) (fun h => ?_)
  ·
   simp only [decide_eq_true_eq] at h
   rw [if_pos h, List.length_append, List.length_replicate] at g5
   obtain ⟨t, rfl⟩ : ∃ t : Nat, s = t := ⟨s.toNat, by omega⟩
   have ht : t = 0 ∨ t = 1 := by omega
   have hmul : ((t : Int) + 1) * wt <= 2 * wt /\ (wt : Int) <= ((t : Int) + 1) * wt := by
    rcases ht with rfl | rfl <;> simp <;> omega
   generalize hk : ((t : Int) + 1) * wt = k at *
   refine VR [0, 1, 2, 8, 9, 10, 12, 27, 28, 29, 59] rfl rfl fun K hK => ?_;simp -implicitDefEqProofs only [go_sem,↓reduceIte,reduceEqDiff]
   rw [hk]
   suffices out : ∀ c : Bool, (c = true ↔ most - o.length - run < k) -> K [(0, .int .i64 n), (1, .int .i64 most), (2, .slice (some p) l.length lc), (8, .slice a o.length cap), (9, .int .i64 run), (10, .int .i64 wt), (12, .int .i64 t), (27, .slice (some p) l.length lc), (28, .int .i64 l.length), (29, .int .i64 i), (59, .bool c)] w2 by (repeat' (first | exact out _ _ (by first | omega | (simp;done) | (simp;omega)) | exact out _ (by first | omega | (simp;done) | (simp;omega)) | refine ⟨fun _ => ?_, fun _ => ?_⟩ | refine And.intro (by omega) ?_))
   intro c hb
   (refine hK _ _ ?_;clear hK)
   refine Qab rfl rfl (fun h => ?_) (fun h => Qaf ?_)
   ·
    refine VR [6, 7] rfl rfl fun K hK => ?_;simp -implicitDefEqProofs only [go_sem,↓reduceIte,reduceEqDiff]
    (refine hK _ _ ?_;clear hK)
    refine Qan (Qa9 rfl rfl rfl ?_)
    have := hb.1 h
    rw [if_pos (by omega)] at g5
    rw [g5]
    exact IntsErr.nil (hH.sub (by simp)) 3
   have hg3 : ¬ (most - o.length - run < k) := fun h' => by rw [hb.2 h'] at h;cases h
   clear h hb
   rw [if_neg (by omega)] at g5
   refine VR [0, 1, 2, 8, 9, 10, 27, 28, 29] rfl rfl fun K hK => ?_;simp -implicitDefEqProofs only [go_sem,↓reduceIte,reduceEqDiff]
   rw [hk]
   ((repeat refine And.intro (by omega) ?_);refine hK _ _ ?_;clear hK)
   refine VR [0, 1, 2, 8, 9, 10, 27, 28, 29] rfl rfl fun K hK => ?_;simp -implicitDefEqProofs only [go_sem,↓reduceIte,reduceEqDiff]
   ((repeat refine And.intro (by omega) ?_);refine hK _ _ ?_;clear hK)
   refine Qap rfl ?_
   refine VR [0, 1, 2, 8, 9, 10, 27, 28, 29] rfl rfl fun K hK => ?_;simp -implicitDefEqProofs only [go_sem,↓reduceIte,reduceEqDiff]
   ((repeat refine And.intro (by omega) ?_);refine hK _ _ ?_;clear hK)
   refine Qah ?_
   simp -implicitDefEqProofs only [go_sem,↓reduceIte,reduceEqDiff]
   rw [List.append_assoc, List.replicate_append_replicate] at g5
   exact ⟨l.length - (i + 1), by omega, i + 1, run + k.toNat, 2 * wt, _, _, _, by simp [Is];omega, hH, by omega, by omega, by omega, by omega, g5, rfl⟩
  simp only [decide_eq_false_iff_not] at h
  rw [if_neg h] at g5
  refine Qaf ?_
  refine VR [0, 1, 2, 8, 11, 12, 27, 28, 29] rfl rfl fun K hK => ?_;simp -implicitDefEqProofs only [go_sem,↓reduceIte,reduceEqDiff]
  refine Qa6 ?_
  simp -implicitDefEqProofs only [go_sem,↓reduceIte,reduceEqDiff]
  have el : o.length + run = (o ++ List.replicate run 0).length := by simp
  refine Qyb hH 0 rfl rfl Tryz.underlying36 zi3 Tryz.underlying3 rfl (by omega) fun a' cap' w5 hc' hH4 => ?_
  rw [intsV_zero, <- Qib, el] at hH4
  rw [el]
  (refine hK _ _ ?_;clear hK)
  generalize ho2 : o ++ List.replicate run 0 = o2 at *
  refine VR [0, 1, 2, 8, 9, 10, 11, 12, 27, 28, 29] rfl rfl fun K hK => ?_;simp -implicitDefEqProofs only [go_sem,↓reduceIte,reduceEqDiff]
  (refine hK _ _ ?_;clear hK)
  refine VR [0, 1, 2, 8, 9, 10, 11, 12, 27, 28, 29, 74] rfl rfl fun K hK => ?_;simp -implicitDefEqProofs only [go_sem,↓reduceIte,reduceEqDiff]
  ((repeat refine And.intro (by omega) ?_);refine hK _ _ ?_;clear hK)
  refine Qab rfl rfl (fun h' => ?_) (fun h' => ?_)
  ·
   simp only [decide_eq_true_eq] at h'
   rw [if_pos h'] at g5
   refine VR [0, 2, 8, 11, 79] rfl rfl fun K hK => ?_;simp -implicitDefEqProofs only [go_sem,↓reduceIte,reduceEqDiff]
   ((repeat refine And.intro (by omega) ?_);refine hK _ _ ?_;clear hK)
   refine Qab rfl rfl (fun hx => ?_) (fun hx => ?_)
   ·
    simp only [decide_eq_true_eq] at hx
    have hc2 := Qnd (hH4.rs' hl) (show i + 1 < l.length by omega)
    have hr := hi _ (Qbs 0 (show i + 1 < l.length by omega))
    have hdr2 := drop_getD 0 (show i + 1 < l.length by omega)
    generalize l.getD (i + 1) 0 = x at *
    rw [hdr2, zend] at g5
    refine VR [6, 7] rfl rfl fun K hK => ?_;simp -implicitDefEqProofs only [go_sem,↓reduceIte,reduceEqDiff]
    refine ⟨I64.mk (by omega) (by omega), ⟨by omega, by omega⟩, _, hc2, ?_⟩
    refine Qag Tryz.call151 ?_;simp -implicitDefEqProofs only [go_sem,↓reduceIte,reduceEqDiff];refine CallK.mk (Qv8 n x ⟨hn1, hn2⟩ (by omega) hr w5) ?_
    rintro v w6 ⟨rfl, rfl⟩
    (refine hK _ _ ?_;clear hK)
    refine Qan (Qa9 rfl rfl rfl ?_)
    rw [g5]
    split
    ·
     exact IntsErr.nil (hH4.sub (by simp)) 60
    ·
     exact IntsErr.nil (hH4.sub (by simp)) 70
   simp only [decide_eq_false_iff_not] at hx
   refine Qaf ?_
   refine VR [6, 7] rfl rfl fun K hK => ?_;simp -implicitDefEqProofs only [go_sem,↓reduceIte,reduceEqDiff]
   (refine hK _ _ ?_;clear hK)
   refine Qan (Qa9 rfl rfl rfl ?_)
   rw [List.drop_of_length_le (by omega), zend] at g5
   rw [g5]
   exact ⟨_, _, hH4, rfl⟩
  simp only [decide_eq_false_iff_not] at h'
  rw [if_neg h'] at g5
  refine Qaf ?_
  refine VR [0, 1, 2, 8, 9, 10, 12, 27, 28, 29, 91] rfl rfl fun K hK => ?_;simp -implicitDefEqProofs only [go_sem,↓reduceIte,reduceEqDiff]
  (refine hK _ _ ?_;clear hK)
  refine Qab rfl rfl (fun h => ?_) (fun h => ?_)
  ·
   simp only [decide_eq_true_eq] at h
   refine VR [6, 7] rfl rfl fun K hK => ?_;simp -implicitDefEqProofs only [go_sem,↓reduceIte,reduceEqDiff]
   (refine hK _ _ ?_;clear hK)
   refine Qan (Qa9 rfl rfl rfl ?_)
   rw [if_pos (by omega)] at g5
   rw [g5]
   exact IntsErr.nil (hH4.sub (by simp)) 3
  simp only [decide_eq_false_iff_not] at h
  rw [if_neg (by omega)] at g5
  refine Qaf ?_
  refine VR [0, 1, 2, 8, 9, 10, 27, 28, 29] rfl rfl fun K hK => ?_;simp -implicitDefEqProofs only [go_sem,↓reduceIte,reduceEqDiff]
  (repeat first | refine And.intro (by omega) ?_ | refine ⟨⟨by omega, by omega⟩, ?_⟩)
  refine Qc3 (xs := [.tmp 94]) Tryz.underlying36 sz3 rfl rfl rfl (by omega) ?_;simp -implicitDefEqProofs only [go_sem,↓reduceIte,reduceEqDiff];refine ⟨by simp [Value.cells], ?_⟩
  refine Qa6 ?_;simp -implicitDefEqProofs only [go_sem,↓reduceIte,reduceEqDiff];refine Qj2 hH4 0 rfl Tryz.underlying36 zi3 (fun h => by (first | omega | (simp;done) | (simp;omega))) fun a' cap' w5 hc' hH5 => ?_;(try simp -implicitDefEqProofs only [go_sem,↓reduceIte,reduceEqDiff])
  (refine hK _ _ ?_;clear hK)
  refine Qav ?_
  refine VR [0, 1, 2, 8, 9, 10, 27, 28, 29] rfl rfl fun K hK => ?_;simp -implicitDefEqProofs only [go_sem,↓reduceIte,reduceEqDiff]
  ((repeat refine And.intro (by omega) ?_);refine hK _ _ ?_;clear hK)
  refine Qah ?_
  simp -implicitDefEqProofs only [go_sem,↓reduceIte,reduceEqDiff]
  exact ⟨l.length - (i + 1), by omega, i + 1, 0, 1, _, _, _, rfl, hH5, by omega, by simp;omega, by omega, by omega, by simpa using g5, rfl⟩
 ·
  simp only [decide_eq_false_iff_not] at h
  refine Qap rfl ?_
  rw [List.drop_of_length_le (by omega), zdec] at g5
  refine VR [6, 7] rfl rfl fun K hK => ?_;simp -implicitDefEqProofs only [go_sem,↓reduceIte,reduceEqDiff]
  (refine hK _ _ ?_;clear hK)
  refine Qan (Qa9 rfl rfl rfl ?_)
  rw [g5]
  exact IntsErr.nil (hH.sub (by simp)) 70
end Go.Proofs.YtfphmlhgebpojaaGreat
