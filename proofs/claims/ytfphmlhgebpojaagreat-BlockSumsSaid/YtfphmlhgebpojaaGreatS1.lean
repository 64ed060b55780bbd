/- A program logic over the model, and what this program's functions do by it: part 1. No conditions: a library of lemmas. -/
import Derived.Deep.Quiet
import Derived.Lib.Hide
import Derived.WalkKit
open Nat (reduceEqDiff)
set_option linter.unusedSimpArgs false
set_option linter.unusedVariables false
set_option maxRecDepth 100000
namespace Go.Proofs.YtfphmlhgebpojaaGreat
def Qjw (ws ov : List Nat) : Nat -> Option Nat
 | 0 => none
 | n + 1 => match Qjw ws ov n with
  | none => if ov.getD n 0 = 0 then some n else none
  | some a => if ov.getD n 0 = 0 /\ ws.getD n 0 < ws.getD a 0 then some n else some a
def Qdx (ws ov : List Nat) : Nat := (Qjw ws ov ws.length).getD 0
def Qg4 (s : List Nat × List Nat) : List Nat × List Nat :=
 let next := s.1.length
 let a := Qdx s.1 s.2
 let ov1 := s.2.set a next
 let b := Qdx s.1 ov1
 (s.1 ++ [s.1.getD a 0 + s.1.getD b 0], ov1.set b next ++ [0])
def Qpt : Nat -> List Nat × List Nat -> List Nat × List Nat
 | 0, s => s
 | k + 1, s => Qg4 (Qpt k s)
def Qbv (ov : List Nat) : Nat -> Nat -> Nat
 | 0, _ => 0
 | f + 1, i => if ov.getD i 0 = 0 then 0 else Qbv ov f (ov.getD i 0) + 1
def Qrd (w : List Nat) : List Nat := (Qpt (w.length - 1) (w, List.replicate w.length 0)).2
def Qfc (w : List Nat) : List Nat := (List.range w.length).map fun i => Qbv (Qrd w) (2 * w.length) i
def maxL (l : List Nat) : Nat := l.foldl max 0
def Qms (most : Nat) : Nat -> List Nat -> List Nat
 | 0, own => Qfc own
 | f + 1, own => if maxL (Qfc own) <= most then Qfc own else Qms most f (own.map fun x => x / 2 + 1)
structure IsLeast (ws ov : List Nat) (a : Nat) : Prop where
 lt : a < ws.length
 free : ov.getD a 0 = 0
 le : ∀ i, i < ws.length -> ov.getD i 0 = 0 -> ws.getD a 0 < ws.getD i 0 ∨ (ws.getD a 0 = ws.getD i 0 /\ a <= i)
theorem IsLeast.unique {ws ov : List Nat} {a b : Nat} (h : IsLeast ws ov a) (k : IsLeast ws ov b) : a = b := by
 have h1 := h.le b k.lt k.free
 have h2 := k.le a h.lt h.free
 omega
theorem Qi9 (ws ov : List Nat) : ∀ n, Qjw ws ov n = none -> ∀ i, i < n -> ov.getD i 0 ≠ 0
 | 0, _, i, h => by omega
 | n + 1, h, i, hi => by
  rw [Qjw] at h
  cases hl : Qjw ws ov n with
  | none =>
   rw [hl] at h
   simp only at h
   split at h
   ·
    cases h
   ·
    rename_i h0
    rcases Nat.lt_or_ge i n with h2 | h2
    ·
     exact Qi9 ws ov n hl i h2
    ·
     rw [show i = n by omega];exact h0
  | some a => rw [hl] at h;simp only at h;split at h <;> cases h
theorem Qmt (ws ov : List Nat) : ∀ n a, Qjw ws ov n = some a -> a < n /\ ov.getD a 0 = 0 /\ ∀ i, i < n -> ov.getD i 0 = 0 -> ws.getD a 0 < ws.getD i 0 ∨ (ws.getD a 0 = ws.getD i 0 /\ a <= i)
 | 0, a, h => by cases h
 | n + 1, a, h => by
  rw [Qjw] at h
  cases hl : Qjw ws ov n with
  | none =>
   rw [hl] at h
   simp only at h
   have hn := Qi9 ws ov n hl
   split at h
   ·
    rename_i h0
    cases h
    refine ⟨by omega, h0, fun i hi hf => ?_⟩
    rcases Nat.lt_or_ge i n with h2 | h2
    ·
     exact absurd hf (hn i h2)
    ·
     right;rw [show i = n by omega];exact ⟨rfl, Nat.le_refl _⟩
   ·
    cases h
  | some b =>
   rw [hl] at h
   simp only at h
   obtain ⟨h1, h2, h3⟩ := Qmt ws ov n b hl
   split at h
   ·
    rename_i h0
    cases h
    refine ⟨by omega, h0.1, fun i hi hf => ?_⟩
    rcases Nat.lt_or_ge i n with h4 | h4
    ·
     have := h3 i h4 hf;omega
    ·
     right;rw [show i = n by omega];exact ⟨rfl, Nat.le_refl _⟩
   ·
    rename_i h0
    cases h
    refine ⟨by omega, h2, fun i hi hf => ?_⟩
    rcases Nat.lt_or_ge i n with h4 | h4
    ·
     exact h3 i h4 hf
    ·
     obtain rfl : i = n := by omega
     rcases Nat.lt_or_ge (ws.getD i 0) (ws.getD a 0) with h5 | h5
     ·
      exact absurd ⟨hf, h5⟩ h0
     ·
      omega
theorem Qre {ws ov : List Nat} {i : Nat} (hi : i < ws.length) (hf : ov.getD i 0 = 0) : IsLeast ws ov (Qdx ws ov) := by
 unfold Qdx
 cases hl : Qjw ws ov ws.length with
 | none => exact absurd hf (Qi9 ws ov _ hl i hi)
 | some a =>
  obtain ⟨h1, h2, h3⟩ := Qmt ws ov _ a hl
  exact ⟨h1, h2, h3⟩
def Qbq (f : Nat -> Nat) : Nat -> Nat
 | 0 => 0
 | n + 1 => Qbq f n + f n
theorem Qci {f g : Nat -> Nat} : ∀ n, (∀ i, i < n -> f i = g i) -> Qbq f n = Qbq g n
 | 0, _ => rfl
 | n + 1, h => by rw [Qbq, Qbq, Qci n fun i hi => h i (by omega), h n (by omega)]
theorem Qht (f g : Nat -> Nat) : ∀ n, Qbq (fun i => f i + g i) n = Qbq f n + Qbq g n
 | 0 => rfl
 | n + 1 => by rw [Qbq, Qbq, Qbq, Qht f g n];omega
theorem Qgs (a c : Nat) : ∀ n, Qbq (fun i => if i = a then c else 0) n = if a < n then c else 0
 | 0 => by simp [Qbq]
 | n + 1 => by
  rw [Qbq, Qgs a c n]
  by_cases h1 : a < n
  ·
   rw [if_pos h1, if_neg (by omega), if_pos (by omega)];rfl
  ·
   by_cases h2 : n = a
   ·
    subst h2;simp
   ·
    rw [if_neg h1, if_neg h2, if_neg (by omega)]
theorem Qma (f : Nat -> Nat) : ∀ n i, i < n -> f i <= Qbq f n
 | 0, i, h => by omega
 | n + 1, i, h => by
  rw [Qbq]
  rcases Nat.lt_or_ge i n with h1 | h1
  ·
   have := Qma f n i h1;omega
  ·
   rw [show i = n by omega];omega
theorem Qpu (f : Nat -> Nat) (c : Nat) : ∀ n, (∀ i, i < n -> f i <= c) -> Qbq f n <= n * c
 | 0, _ => by simp [Qbq]
 | n + 1, h => by
  rw [Qbq, Nat.succ_mul]
  have h1 := Qpu f c n fun i hi => h i (by omega)
  have h2 := h n (by omega)
  omega
theorem Qzz {f : Nat -> Nat} {n a b : Nat} (ha : a < n) (hb : b < n) (hab : a ≠ b) : f a + f b <= Qbq f n := by
 have e : Qbq f n = Qbq (fun i => if i = a then f a else 0) n + Qbq (fun i => if i = a then 0 else f i) n := by
  rw [<- Qht];exact Qci n fun i _ => by split <;> simp_all
 have h2 := Qma (fun i => if i = a then 0 else f i) n b hb
 simp only [if_neg (Ne.symm hab)] at h2
 rw [e, Qgs, if_pos ha];omega
theorem Qhu {f : Nat -> Nat} {n a b : Nat} (ha : a < n) (hb : b < n) (hab : a ≠ b) : Qbq (fun i => if i = a ∨ i = b then 0 else f i) n + (f a + f b) = Qbq f n := by
 have e : Qbq f n = Qbq (fun i => if i = a ∨ i = b then 0 else f i) n + (Qbq (fun i => if i = a then f a else 0) n + Qbq (fun i => if i = b then f b else 0) n) := by
  rw [<- Qht, <- Qht]
  refine Qci n fun i _ => ?_
  by_cases h1 : i = a
  ·
   subst h1;simp [hab]
  ·
   by_cases h2 : i = b
   ·
    subst h2;simp [h1]
   ·
    simp [h1, h2]
 rw [e, Qgs, Qgs, if_pos ha, if_pos hb]
def fib : Nat -> Nat
 | 0 => 0
 | 1 => 1
 | n + 2 => fib (n + 1) + fib n
theorem Qpv : ∀ n, fib n <= fib (n + 1)
 | 0 => by decide
 | n + 1 => by rw [fib];omega
theorem Qwi {m n : Nat} (h : m <= n) : fib m <= fib n := by
 induction n with
 | zero => rw [show m = 0 by omega];exact Nat.le_refl _
 | succ n ih =>
  rcases Nat.lt_or_ge m (n + 1) with h1 | h1
  ·
   exact Nat.le_trans (ih (by omega)) (Qpv n)
  ·
   rw [show m = n + 1 by omega];exact Nat.le_refl _
structure Grown (w : List Nat) (k : Nat) (ws ov : List Nat) (h : Nat -> Nat) : Prop where
 lws : ws.length = w.length + k
 lov : ov.length = w.length + k
 up : ∀ i, i < w.length + k -> ov.getD i 0 = 0 ∨ (i < ov.getD i 0 /\ w.length <= ov.getD i 0 /\ ov.getD i 0 < w.length + k)
 roots : Qbq (fun i => if ov.getD i 0 = 0 then 1 else 0) (w.length + k) + k = w.length
 weight : Qbq (fun i => if ov.getD i 0 = 0 then ws.getD i 0 else 0) (w.length + k) = Qbq (fun i => w.getD i 0) w.length
 two : ∀ j, w.length <= j -> j < w.length + k -> ∃ a b, a < j /\ b < j /\ a ≠ b /\ ov.getD a 0 = j /\ ov.getD b 0 = j /\ ∀ i, ov.getD i 0 = j -> i = a ∨ i = b
 hup : ∀ i, i < w.length + k -> ov.getD i 0 ≠ 0 -> h i + 1 <= h (ov.getD i 0)
 hfib : ∀ i, i < w.length + k -> fib (h i + 2) <= ws.getD i 0
 deep : ∀ i, i < w.length + k -> 1 <= h i -> ∃ y, y < w.length + k /\ ov.getD y 0 ≠ 0 /\ fib (h i + 1) <= ws.getD y 0
 order : ∀ y r, y < w.length + k -> r < w.length + k -> ov.getD y 0 ≠ 0 -> ov.getD r 0 = 0 -> ws.getD y 0 <= ws.getD r 0
theorem Qc6 (n i : Nat) : (List.replicate n (0 : Nat)).getD i 0 = 0 := by
 rw [List.getD_eq_getElem?_getD, List.getElem?_replicate];split <;> rfl
theorem Grown.start (w : List Nat) (h2 : 1 <= w.length) (h1 : ∀ i, i < w.length -> 1 <= w.getD i 0) : Grown w 0 w (List.replicate w.length 0) (fun _ => 0) where
 lws := rfl
 lov := by simp
 up i _ := .inl (Qc6 _ _)
 roots := by
  have : Qbq (fun i => if (List.replicate w.length 0).getD i 0 = 0 then 1 else 0) w.length = Qbq (fun _ => 1) w.length := Qci _ fun i _ => by rw [if_pos (Qc6 _ _)]
  have h : ∀ n, Qbq (fun _ => 1) n = n := fun n => by induction n with
   | zero => rfl
   | succ n ih => rw [Qbq, ih]
  rw [Nat.add_zero, Nat.add_zero, this, h]
 weight := Qci _ fun i _ => by rw [if_pos (Qc6 _ _)]
 two j h3 h4 := by omega
 hup i hi h := absurd (Qc6 _ _) h
 hfib i hi := by have := h1 i (by simpa using hi);simpa [fib] using this
 deep i hi h := by simp at h
 order y r _ _ h := absurd (Qc6 _ _) h
theorem Qcv {l : List Nat} {i v : Nat} (h : i < l.length) : (l.set i v).getD i 0 = v := by
 rw [List.getD_eq_getElem?_getD, List.getElem?_set_self h];rfl
theorem Qcn {l : List Nat} {i j v : Nat} (h : i ≠ j) : (l.set i v).getD j 0 = l.getD j 0 := by
 rw [List.getD_eq_getElem?_getD, List.getElem?_set_ne h, List.getD_eq_getElem?_getD]
theorem Qcj {l m : List Nat} {i : Nat} (h : i < l.length) : (l ++ m).getD i 0 = l.getD i 0 := by
 rw [List.getD_eq_getElem?_getD, List.getElem?_append_left h, List.getD_eq_getElem?_getD]
theorem Qhv {l : List Nat} {x : Nat} : (l ++ [x]).getD l.length 0 = x := by
 rw [List.getD_eq_getElem?_getD, List.getElem?_append_right (Nat.le_refl _), Nat.sub_self];rfl
theorem Qja {l : List Nat} {i : Nat} (h : l.length <= i) : l.getD i 0 = 0 := by
 rw [List.getD_eq_getElem?_getD, List.getElem?_eq_none h];rfl
theorem Qjb {ov : List Nat} : ∀ n, 0 < Qbq (fun i => if ov.getD i 0 = 0 then 1 else 0) n -> ∃ i, i < n /\ ov.getD i 0 = 0
 | 0, h => by simp [Qbq] at h
 | n + 1, h => by
  rw [Qbq] at h
  by_cases h0 : ov.getD n 0 = 0
  ·
   exact ⟨n, by omega, h0⟩
  ·
   rw [if_neg h0] at h
   obtain ⟨i, hi, hf⟩ := Qjb n (by omega)
   exact ⟨i, by omega, hf⟩
theorem Grown.pick {w : List Nat} {k : Nat} {ws ov : List Nat} {h : Nat -> Nat} (g : Grown w k ws ov h) (hk : k + 1 < w.length) :
  IsLeast ws ov (Qdx ws ov) /\ IsLeast ws (ov.set (Qdx ws ov) ws.length) (Qdx ws (ov.set (Qdx ws ov) ws.length)) /\ Qdx ws (ov.set (Qdx ws ov) ws.length) ≠ Qdx ws ov /\ ov.getD (Qdx ws (ov.set (Qdx ws ov) ws.length)) 0 = 0 := by
 have hr := g.roots
 have hlw := g.lws
 have hlo := g.lov
 obtain ⟨i, hi, hf⟩ := Qjb (ov := ov) (w.length + k) (by omega)
 have ha := Qre (ws := ws) (ov := ov) (by omega) hf
 generalize Qdx ws ov = a at *
 have ha1 := ha.lt
 obtain ⟨j, hj, hf2⟩ := Qjb (ov := ov.set a ws.length) (w.length + k) (by
  have e : Qbq (fun i => if (ov.set a ws.length).getD i 0 = 0 then 1 else 0) (w.length + k) + Qbq (fun i => if i = a then 1 else 0) (w.length + k) = Qbq (fun i => if ov.getD i 0 = 0 then 1 else 0) (w.length + k) := by
   rw [<- Qht]
   refine Qci _ fun i _ => ?_
   by_cases hia : i = a
   ·
    subst hia;rw [Qcv (by omega), if_neg (by omega), if_pos rfl, if_pos ha.free]
   ·
    rw [Qcn (fun x => hia x.symm), if_neg hia];rfl
  rw [Qgs, if_pos (by omega)] at e
  omega)
 have hb := Qre (ws := ws) (ov := ov.set a ws.length) (by omega) hf2
 generalize Qdx ws (ov.set a ws.length) = b at *
 have hne : b ≠ a := fun e => by
  have := hb.free
  rw [e, Qcv (by omega)] at this
  omega
 exact ⟨ha, hb, hne, by rw [<- Qcn (v := ws.length) (fun x => hne x.symm)];exact hb.free⟩
theorem Grown.step {w : List Nat} {k : Nat} {ws ov : List Nat} {h : Nat -> Nat} (g : Grown w k ws ov h) (hk : k + 1 < w.length) :
  ∃ h', Grown w (k + 1) (Qg4 (ws, ov)).1 (Qg4 (ws, ov)).2 h' := by
 obtain ⟨ha, hb, hne, hbf⟩ := g.pick hk
 unfold Qg4
 simp only
 generalize Qdx ws ov = a at *
 generalize Qdx ws (ov.set a ws.length) = b at *
 have hlw := g.lws
 have hlo := g.lov
 have ha1 := ha.lt
 have hb1 := hb.lt
 have haf := ha.free
 have hwab : ws.getD a 0 <= ws.getD b 0 := by have := ha.le b hb1 hbf;omega
 have hbl : ∀ i, i < ws.length -> i ≠ a -> ov.getD i 0 = 0 -> ws.getD b 0 <= ws.getD i 0 := fun i hi hia hf => by
  have := hb.le i hi (by rw [Qcn (fun x => hia x.symm)];exact hf)
  omega
 rw [hlw] at hb ha1 hb1 hbl ⊢
 generalize hn : w.length + k = n at *
 have o1 : ∀ i, i < n -> ((ov.set a n).set b n ++ [0]).getD i 0 = if i = a ∨ i = b then n else ov.getD i 0 := fun i hi => by
  rw [Qcj (by simp;omega)]
  by_cases e1 : i = b
  ·
   subst e1;rw [Qcv (by simp;omega), if_pos (.inr rfl)]
  ·
   rw [Qcn (fun x => e1 x.symm)]
   by_cases e2 : i = a
   ·
    subst e2;rw [Qcv (by omega), if_pos (.inl rfl)]
   ·
    rw [Qcn (fun x => e2 x.symm), if_neg (by simp [e1, e2])]
 have o2 : ((ov.set a n).set b n ++ [0]).getD n 0 = 0 := by
  have := Qhv (l := (ov.set a n).set b n) (x := 0)
  simp [hlo]
 have w1 : ∀ i, i < n -> (ws ++ [ws.getD a 0 + ws.getD b 0]).getD i 0 = ws.getD i 0 := fun i hi => Qcj (by omega)
 have w2 : (ws ++ [ws.getD a 0 + ws.getD b 0]).getD n 0 = ws.getD a 0 + ws.getD b 0 := by
  have := Qhv (l := ws) (x := ws.getD a 0 + ws.getD b 0)
  rwa [hlw] at this
 have lo : ((ov.set a n).set b n ++ [0]).length = n + 1 := by simp [hlo]
 have lw : (ws ++ [ws.getD a 0 + ws.getD b 0]).length = n + 1 := by simp [hlw]
 generalize (ov.set a n).set b n ++ [0] = ov' at *
 generalize ws ++ [ws.getD a 0 + ws.getD b 0] = ws' at *
 have hup := g.up
 have hroots := g.roots
 have hweight := g.weight
 have htwo := g.two
 have hhup := g.hup
 have hfib := g.hfib
 have hdeep := g.deep
 have horder := g.order
 rw [hn] at hup hroots hweight htwo hhup hfib hdeep horder
 clear g
 have hnk : n = w.length + k := hn.symm
 refine ⟨fun i => if i = n then max (h a) (h b) + 1 else h i, ?_⟩
 have en : w.length + (k + 1) = n + 1 := by omega
 refine ⟨by rw [lw, en], by rw [lo, en], ?_, ?_, ?_, ?_, ?_, ?_, ?_, ?_⟩
 ·
  intro i hi
  rw [en] at hi ⊢
  by_cases e : i = n
  ·
   subst e;exact .inl o2
  ·
   rw [o1 i (by omega)]
   split
   ·
    right;omega
   ·
    have := hup i (by omega);omega
 ·
  rw [en, Qbq, o2, if_pos rfl]
  have e : Qbq (fun i => if ov'.getD i 0 = 0 then 1 else 0) n = Qbq (fun i => if i = a ∨ i = b then 0 else if ov.getD i 0 = 0 then 1 else 0) n := Qci n fun i hi => by
   rw [o1 i hi]
   by_cases e : i = a ∨ i = b
   ·
    rw [if_pos e, if_pos e, if_neg (by omega)]
   ·
    rw [if_neg e, if_neg e]
  have e2 := Qhu (f := fun i => if ov.getD i 0 = 0 then 1 else 0) ha1 hb1 (Ne.symm hne)
  simp only [if_pos haf, if_pos hbf] at e2
  omega
 ·
  rw [en, Qbq, o2, if_pos rfl, w2]
  have e : Qbq (fun i => if ov'.getD i 0 = 0 then ws'.getD i 0 else 0) n = Qbq (fun i => if i = a ∨ i = b then 0 else if ov.getD i 0 = 0 then ws.getD i 0 else 0) n := Qci n fun i hi => by
   rw [o1 i hi, w1 i hi]
   by_cases e : i = a ∨ i = b
   ·
    rw [if_pos e, if_pos e, if_neg (by omega)]
   ·
    rw [if_neg e, if_neg e]
  have e2 := Qhu (f := fun i => if ov.getD i 0 = 0 then ws.getD i 0 else 0) ha1 hb1 (Ne.symm hne)
  simp only [if_pos haf, if_pos hbf] at e2
  omega
 ·
  intro j hj1 hj2
  rw [en] at hj2
  by_cases e : j = n
  ·
   subst e
   refine ⟨a, b, ha1, hb1, Ne.symm hne, by rw [o1 a ha1, if_pos (.inl rfl)], by rw [o1 b hb1, if_pos (.inr rfl)], fun i hi => ?_⟩
   rcases Nat.lt_or_ge i j with h1 | h1
   ·
    rw [o1 i h1] at hi
    split at hi
    ·
     assumption
    ·
     have := hup i h1;omega
   ·
    rcases Nat.lt_or_ge i (j + 1) with h2 | h2
    ·
     rw [show i = j by omega, o2] at hi;omega
    ·
     rw [Qja (by omega)] at hi;omega
  ·
   obtain ⟨x, y, hx, hy, hxy, hox, hoy, hall⟩ := htwo j hj1 (by omega)
   have hxa : ¬ (x = a ∨ x = b) := fun e => by rcases e with rfl | rfl <;> omega
   have hya : ¬ (y = a ∨ y = b) := fun e => by rcases e with rfl | rfl <;> omega
   refine ⟨x, y, hx, hy, hxy, by rw [o1 x (by omega), if_neg hxa];exact hox, by rw [o1 y (by omega), if_neg hya];exact hoy, fun i hi => ?_⟩
   rcases Nat.lt_or_ge i n with h1 | h1
   ·
    rw [o1 i h1] at hi
    split at hi
    ·
     omega
    ·
     exact hall i hi
   ·
    rcases Nat.lt_or_ge i (n + 1) with h2 | h2
    ·
     rw [show i = n by omega, o2] at hi;omega
    ·
     rw [Qja (by omega)] at hi;omega
 ·
  intro i hi hne0
  rw [en] at hi
  have hin : i ≠ n := fun e => by rw [e, o2] at hne0;exact hne0 rfl
  rw [o1 i (by omega)] at hne0 ⊢
  rw [if_neg hin]
  by_cases e : i = a ∨ i = b
  ·
   rw [if_pos e, if_pos rfl]
   rcases e with rfl | rfl <;> omega
  ·
   rw [if_neg e] at hne0 ⊢
   have h1 := hup i (by omega)
   rw [if_neg (by omega)]
   exact hhup i (by omega) hne0
 ·
  intro i hi
  rw [en] at hi
  by_cases e : i = n
  ·
   subst e
   rw [if_pos rfl, w2]
   have key : ∀ x y, x < i -> y < i -> ov.getD x 0 = 0 -> ov.getD y 0 = 0 -> fib (h x + 3) <= ws.getD x 0 + ws.getD y 0 := fun x y hx hy hox hoy => by
    have h1 := hfib x hx
    have h2 : fib (h x + 1) <= ws.getD y 0 := by
     rcases Nat.eq_zero_or_pos (h x) with h0 | h0
     ·
      have := hfib y hy
      refine Nat.le_trans (Qwi ?_) this
      omega
     ·
      obtain ⟨z, hz1, hz2, hz3⟩ := hdeep x hx h0
      exact Nat.le_trans hz3 (horder z y hz1 hy hz2 hoy)
    rw [show h x + 3 = (h x + 1) + 2 from rfl, fib]
    have : fib (h x + 1 + 1) = fib (h x + 2) := rfl
    omega
   rcases Nat.le_total (h a) (h b) with h1 | h1
   ·
    rw [Nat.max_eq_right h1];have := key b a hb1 ha1 hbf haf;rw [Nat.add_comm (ws.getD a 0)];exact this
   ·
    rw [Nat.max_eq_left h1];exact key a b ha1 hb1 haf hbf
  ·
   rw [if_neg e, w1 i (by omega)];exact hfib i (by omega)
 ·
  intro i hi hh
  rw [en] at hi ⊢
  by_cases e : i = n
  ·
   subst e
   rw [if_pos rfl]
   rcases Nat.le_total (h a) (h b) with h1 | h1
   ·
    rw [Nat.max_eq_right h1]
    exact ⟨b, by omega, by rw [o1 b hb1, if_pos (.inr rfl)];omega, by rw [w1 b hb1];exact hfib b hb1⟩
   ·
    rw [Nat.max_eq_left h1]
    exact ⟨a, by omega, by rw [o1 a ha1, if_pos (.inl rfl)];omega, by rw [w1 a ha1];exact hfib a ha1⟩
  ·
   rw [if_neg e] at hh ⊢
   obtain ⟨y, hy1, hy2, hy3⟩ := hdeep i (by omega) hh
   refine ⟨y, by omega, ?_, by rw [w1 y hy1];exact hy3⟩
   rw [o1 y hy1]
   split
   ·
    omega
   ·
    exact hy2
 ·
  intro y r hy hr hoy hor
  rw [en] at hy hr
  have hyn : y ≠ n := fun e => by rw [e, o2] at hoy;exact hoy rfl
  rw [w1 y (by omega)]
  have hyb : ws.getD y 0 <= ws.getD b 0 := by
   rw [o1 y (by omega)] at hoy
   by_cases e : y = a ∨ y = b
   ·
    rcases e with rfl | rfl <;> omega
   ·
    rw [if_neg e] at hoy;exact horder y b (by omega) hb1 hoy hbf
  by_cases e : r = n
  ·
   subst e;rw [w2];omega
  ·
   rw [w1 r (by omega)]
   rw [o1 r (by omega)] at hor
   by_cases e2 : r = a ∨ r = b
   ·
    rw [if_pos e2] at hor;omega
   ·
    rw [if_neg e2] at hor
    have := hbl r (by omega) (fun x => e2 (.inl x)) hor
    omega
theorem Qmu (w : List Nat) (h1 : ∀ i, i < w.length -> 1 <= w.getD i 0) : ∀ k, k + 1 <= w.length -> ∃ h, Grown w k (Qpt k (w, List.replicate w.length 0)).1 (Qpt k (w, List.replicate w.length 0)).2 h
 | 0, hk => ⟨_, Grown.start w (by omega) h1⟩
 | k + 1, hk => by
  obtain ⟨h, g⟩ := Qmu w h1 k (by omega)
  exact g.step (by omega)
section
variable {w : List Nat} {k : Nat} {ws ov : List Nat} {h : Nat -> Nat}
theorem Grown.last (g : Grown w k ws ov h) (hk : k + 1 = w.length) : ov.getD (w.length + k - 1) 0 = 0 := by
 have := g.up (w.length + k - 1) (by omega)
 omega
theorem Grown.root (g : Grown w k ws ov h) (hk : k + 1 = w.length) {i : Nat} (hi : i < w.length + k) (hf : ov.getD i 0 = 0) : i = w.length + k - 1 := by
 by_cases e : i = w.length + k - 1
 ·
  exact e
 ·
  have h1 := Qzz (f := fun i => if ov.getD i 0 = 0 then 1 else 0) (n := w.length + k) hi (show w.length + k - 1 < w.length + k by omega) e
  simp only [if_pos hf, if_pos (g.last hk)] at h1
  have := g.roots
  omega
theorem Grown.depth_h (g : Grown w k ws ov h) (hk : k + 1 = w.length) : ∀ f i, i < w.length + k -> w.length + k - i <= f -> Qbv ov f i + h i <= h (w.length + k - 1)
 | 0, i, hi, hf => by omega
 | f + 1, i, hi, hf => by
  rw [Qbv]
  split
  ·
   rename_i h0;rw [<- g.root hk hi h0];omega
  ·
   rename_i h0
   have h1 := g.up i hi
   have h2 := g.hup i hi h0
   have := g.depth_h hk f (ov.getD i 0) (by omega) (by omega)
   omega
theorem Grown.fuel (g : Grown w k ws ov h) : ∀ f f' i, i < w.length + k -> w.length + k - i <= f -> w.length + k - i <= f' -> Qbv ov f i = Qbv ov f' i
 | 0, _, i, hi, h1, _ => by omega
 | _ + 1, 0, i, hi, _, h2 => by omega
 | f + 1, f' + 1, i, hi, h1, h2 => by
  rw [Qbv, Qbv]
  split
  ·
   rfl
  ·
   rename_i h0
   have h3 := g.up i hi
   rw [g.fuel f f' (ov.getD i 0) (by omega) (by omega) (by omega)]
theorem Grown.dep (g : Grown w k ws ov h) {i : Nat} (f : Nat) (hf : w.length + k <= f) (hi : i < w.length + k) (h0 : ov.getD i 0 ≠ 0) : Qbv ov f i = Qbv ov f (ov.getD i 0) + 1 := by
 have h3 := g.up i hi
 cases f with
 | zero => omega
 | succ f =>
  conv => lhs;rw [Qbv]
  rw [if_neg h0, g.fuel f (f + 1) (ov.getD i 0) (by omega) (by omega) (by omega)]
theorem Grown.kraft (g : Grown w k ws ov h) (hk : k + 1 = w.length) (f : Nat) (hf : w.length + k <= f) (N : Nat) (hN : ∀ i, i < w.length + k -> Qbv ov f i <= N) :
  Qbq (fun i => 2 ^ (N - Qbv ov f i)) w.length = 2 ^ N := by
 have hr := g.last hk
 have step : ∀ j, w.length <= j -> j < w.length + k -> Qbq (fun i => if ov.getD i 0 = 0 ∨ j + 1 <= ov.getD i 0 then 2 ^ (N - Qbv ov f i) else 0) (j + 1) = Qbq (fun i => if ov.getD i 0 = 0 ∨ j <= ov.getD i 0 then 2 ^ (N - Qbv ov f i) else 0) j := fun j h1 h2 => by
  obtain ⟨a, b, ha, hb, hab, hoa, hob, hall⟩ := g.two j h1 h2
  have hda := g.dep f hf (i := a) (by omega) (by omega)
  have hdb := g.dep f hf (i := b) (by omega) (by omega)
  have hNa := hN a (by omega)
  rw [hoa] at hda
  rw [hob] at hdb
  have hj := g.up j h2
  rw [Qbq, if_pos (by omega)]
  have e := Qhu (f := fun i => if ov.getD i 0 = 0 ∨ j <= ov.getD i 0 then 2 ^ (N - Qbv ov f i) else 0) ha hb hab
  rw [if_pos (by omega), if_pos (by omega), hda, hdb] at e
  rw [<- e]
  have e2 : 2 ^ (N - Qbv ov f j) = 2 ^ (N - (Qbv ov f j + 1)) + 2 ^ (N - (Qbv ov f j + 1)) := by
   rw [show N - Qbv ov f j = (N - (Qbv ov f j + 1)) + 1 by omega, Nat.pow_succ];omega
  rw [e2]
  congr 1
  refine Qci j fun i hi => ?_
  by_cases e3 : i = a ∨ i = b
  ·
   rw [if_pos e3, if_neg (by rcases e3 with rfl | rfl <;> omega)]
  ·
   rw [if_neg e3]
   by_cases e4 : ov.getD i 0 = 0 ∨ j <= ov.getD i 0
   ·
    rw [if_pos e4, if_pos]
    have : ov.getD i 0 ≠ j := fun e5 => e3 (hall i e5)
    omega
   ·
    rw [if_neg e4, if_neg (by omega)]
 have all : ∀ d, d <= k -> Qbq (fun i => if ov.getD i 0 = 0 ∨ w.length + d <= ov.getD i 0 then 2 ^ (N - Qbv ov f i) else 0) (w.length + d) = Qbq (fun i => if ov.getD i 0 = 0 ∨ w.length <= ov.getD i 0 then 2 ^ (N - Qbv ov f i) else 0) w.length := fun d => by
  induction d with
  | zero => intro _;rfl
  | succ d ih => intro hd;rw [<- ih (by omega)];exact step (w.length + d) (by omega) (by omega)
 have h1 := all k (Nat.le_refl _)
 have e1 : Qbq (fun i => if ov.getD i 0 = 0 ∨ w.length + k <= ov.getD i 0 then 2 ^ (N - Qbv ov f i) else 0) (w.length + k) = Qbq (fun i => if i = w.length + k - 1 then 2 ^ N else 0) (w.length + k) := by
  refine Qci _ fun i hi => ?_
  have h2 := g.up i hi
  by_cases e : i = w.length + k - 1
  ·
   subst e
   rw [if_pos (.inl hr), if_pos rfl]
   have : Qbv ov f (w.length + k - 1) = 0 := by
    cases f with
    | zero => rfl
    | succ f => rw [Qbv, if_pos hr]
   rw [this];rfl
  ·
   rw [if_neg e, if_neg]
   rintro (h3 | h3)
   ·
    exact e (g.root hk hi h3)
   ·
    omega
 rw [e1, Qgs, if_pos (by omega)] at h1
 rw [h1]
 refine Qci _ fun i hi => ?_
 have h2 := g.up i (by omega)
 rw [if_pos (by omega)]
theorem Grown.total (g : Grown w k ws ov h) (hk : k + 1 = w.length) : fib (h (w.length + k - 1) + 2) <= Qbq (fun i => w.getD i 0) w.length := by
 have h1 := g.hfib (w.length + k - 1) (by omega)
 have h2 := Qma (fun i => if ov.getD i 0 = 0 then ws.getD i 0 else 0) (w.length + k) (w.length + k - 1) (by omega)
 simp only [if_pos (g.last hk)] at h2
 rw [<- g.weight]
 omega
end
def Qck : List Nat -> Nat
 | [] => 0
 | x :: l => 2 ^ (20 - x) + Qck l
theorem Qjx (l m : List Nat) : Qck (l ++ m) = Qck l + Qck m := by
 induction l with
 | nil => simp [Qck]
 | cons x l ih => rw [List.cons_append, Qck, Qck, ih];omega
theorem Qil (f : Nat -> Nat) : ∀ n, Qck ((List.range n).map f) = Qbq (fun i => 2 ^ (20 - f i)) n
 | 0 => rfl
 | n + 1 => by rw [List.range_succ, List.map_append, Qjx, Qil f n, Qbq];rfl
theorem Qrf {l : List Nat} {m : Nat} : ∀ a, l.foldl max a <= m ↔ a <= m /\ ∀ x ∈ l, x <= m := by
 induction l with
 | nil => intro a;simp
 | cons x l ih => intro a;rw [List.foldl_cons, ih];simp only [List.mem_cons, forall_eq_or_imp, Nat.max_le, and_assoc]
theorem Qhw {l : List Nat} {m : Nat} : maxL l <= m ↔ ∀ x ∈ l, x <= m := by rw [maxL, Qrf];simp
theorem Qg5 (w : List Nat) : (Qfc w).length = w.length := by simp [Qfc]
theorem Qrg {w : List Nat} (h2 : 2 <= w.length) (h1 : ∀ x ∈ w, 1 <= x) {m : Nat} (hm : maxL (Qfc w) <= m) (hm20 : m <= 20) :
  (∀ x ∈ Qfc w, 1 <= x /\ x <= m) /\ Qck (Qfc w) = 1048576 := by
 obtain ⟨h, g⟩ := Qmu w (fun i hi => h1 _ (by rw [List.getD_eq_getElem?_getD, List.getElem?_eq_getElem hi];exact List.getElem_mem hi)) (w.length - 1) (by omega)
 have hmax := Qhw.1 hm
 have hov : (Qpt (w.length - 1) (w, List.replicate w.length 0)).2 = Qrd w := rfl
 rw [hov] at g
 have hk : w.length - 1 + 1 = w.length := by omega
 have hdep : ∀ i, i < w.length -> Qbv (Qrd w) (2 * w.length) i ∈ Qfc w := fun i hi => List.mem_map.2 ⟨i, by simpa using hi, rfl⟩
 constructor
 ·
  intro x hx
  refine ⟨?_, hmax x hx⟩
  obtain ⟨i, hi, rfl⟩ := List.mem_map.1 hx
  have hi : i < w.length := by simpa using hi
  by_cases h0 : (Qrd w).getD i 0 = 0
  ·
   have := g.root hk (by omega) h0;omega
  ·
   rw [g.dep (2 * w.length) (by omega) (by omega) h0];omega
 ·
  have hN : ∀ i, i < w.length + (w.length - 1) -> Qbv (Qrd w) (2 * w.length) i <= 20 := by
   intro i
   induction i using Nat.strongRecOn with
   | _ i ih =>
    intro hi
    rcases Nat.lt_or_ge i w.length with h3 | h3
    ·
     have := hmax _ (hdep i h3);omega
    ·
     obtain ⟨a, b, ha, hb, hab, hoa, hob, hall⟩ := g.two i h3 hi
     have h4 := ih a ha (by omega)
     have := g.dep (2 * w.length) (by omega) (i := a) (by omega) (by omega)
     rw [hoa] at this
     omega
  have hk20 := g.kraft hk (2 * w.length) (by omega) 20 hN
  rw [Qfc, Qil]
  exact hk20
theorem QMk : fib 15 = 610 := by decide
theorem Qlm {w : List Nat} (h2 : 2 <= w.length) (h258 : w.length <= 258) (h1 : ∀ x ∈ w, 1 <= x /\ x <= 2) : maxL (Qfc w) <= 12 := by
 have hget : ∀ i, i < w.length -> w.getD i 0 ∈ w := fun i hi => by rw [List.getD_eq_getElem?_getD, List.getElem?_eq_getElem hi];exact List.getElem_mem hi
 obtain ⟨h, g⟩ := Qmu w (fun i hi => (h1 _ (hget i hi)).1) (w.length - 1) (by omega)
 have hov : (Qpt (w.length - 1) (w, List.replicate w.length 0)).2 = Qrd w := rfl
 rw [hov] at g
 have hk : w.length - 1 + 1 = w.length := by omega
 have ht := g.total hk
 have ht2 := Qpu (fun i => w.getD i 0) 2 w.length fun i hi => (h1 _ (hget i hi)).2
 have hh : h (w.length + (w.length - 1) - 1) <= 12 := by
  rcases Nat.lt_or_ge 12 (h (w.length + (w.length - 1) - 1)) with h3 | h3
  ·
   have := Qwi (show 15 <= h (w.length + (w.length - 1) - 1) + 2 by omega)
   rw [QMk] at this
   omega
  ·
   exact h3
 refine Qhw.2 fun x hx => ?_
 obtain ⟨i, hi, rfl⟩ := List.mem_map.1 hx
 have hi : i < w.length := by simpa using hi
 have := g.depth_h hk (2 * w.length) i (by omega) (by omega)
 omega
def bnd : Nat -> Nat
 | 0 => 2
 | k + 1 => 2 ^ k + 2
theorem Qwj {t x : Nat} (h : x <= bnd (t + 1)) : x / 2 + 1 <= bnd t := by
 cases t with
 | zero => simp only [bnd] at h ⊢;omega
 | succ t => simp only [bnd, Nat.pow_succ] at h ⊢;omega
theorem Qwk {most : Nat} (hm : 12 <= most) (hm20 : most <= 20) : ∀ (t : Nat) (own : List Nat), 2 <= own.length -> own.length <= 258 -> (∀ x ∈ own, 1 <= x /\ x <= bnd t) ->
  (Qms most t own).length = own.length /\ (∀ x ∈ Qms most t own, 1 <= x /\ x <= most) /\ Qck (Qms most t own) = 1048576
 | 0, own, h2, h258, h1 => by
  have h3 := Qlm h2 h258 h1
  rw [Qms]
  exact ⟨Qg5 own, Qrg h2 (fun x hx => (h1 x hx).1) (by omega) hm20⟩
 | t + 1, own, h2, h258, h1 => by
  rw [Qms]
  split
  ·
   rename_i h3;exact ⟨Qg5 own, Qrg h2 (fun x hx => (h1 x hx).1) h3 hm20⟩
  ·
   have := Qwk hm hm20 t (own.map fun x => x / 2 + 1) (by simpa using h2) (by simpa using h258) (by
    intro x hx
    obtain ⟨y, hy, rfl⟩ := List.mem_map.1 hx
    exact ⟨by omega, Qwj (h1 y hy).2⟩)
   simpa using this
def lenS (w : List Nat) (most : Nat) : List Nat := Qms most 40 (w.map fun x => max x 1)
theorem Qz0 {w : List Nat} {most : Nat} (hm : 12 <= most) (hm20 : most <= 20) (h2 : 2 <= w.length) (h258 : w.length <= 258) (h1 : ∀ x ∈ w, x <= 1073741824) :
  (lenS w most).length = w.length /\ (∀ x ∈ lenS w most, 1 <= x /\ x <= most) /\ Qck (lenS w most) = 1048576 := by
 have := Qwk hm hm20 40 (w.map fun x => max x 1) (by simpa using h2) (by simpa using h258) (by
  intro x hx
  obtain ⟨y, hy, rfl⟩ := List.mem_map.1 hx
  have := h1 y hy
  have : bnd 40 = 549755813890 := by decide
  omega)
 simpa [lenS] using this
def Qez (w : List Nat) (i j : Nat) : Bool := decide (max (w.getD j 0) 1 < max (w.getD i 0) 1) || (decide (max (w.getD i 0) 1 = max (w.getD j 0) 1) && decide (i < j))
def Qor (w : List Nat) (i : Nat) : Nat := (List.range w.length).countP fun j => Qez w j i
def Qe0 (n : Nat) : Nat := Nat.log2 n
def Ql5 (n p : Nat) : Nat := if 2 ^ (Qe0 n + 1) - n <= p then Qe0 n + 1 else Qe0 n
def Qfd (w : List Nat) : List Nat := (List.range w.length).map fun i => Ql5 w.length (Qor w i)
theorem Qfz {w : List Nat} {i j : Nat} : Qez w i j = true ↔ (max (w.getD j 0) 1 < max (w.getD i 0) 1 ∨ (max (w.getD i 0) 1 = max (w.getD j 0) 1 /\ i < j)) := by
 simp [Qez, Bool.or_eq_true]
theorem Qrh {w : List Nat} {i j k : Nat} (h1 : Qez w i j = true) (h2 : Qez w j k = true) : Qez w i k = true := by
 rw [Qfz] at *;omega
theorem Qpw (w : List Nat) (i : Nat) : Qez w i i = false := by
 rw [Bool.eq_false_iff];intro h;rw [Qfz] at h;omega
theorem Qri {w : List Nat} {i j : Nat} (h1 : Qez w i j = true) : Qez w j i = false := by
 rw [Bool.eq_false_iff];intro h;rw [Qfz] at *;omega
theorem Qrj {w : List Nat} {i j : Nat} (h : i ≠ j) : Qez w i j = true ∨ Qez w j i = true := by
 rw [Qfz, Qfz];omega
theorem Qmv {w : List Nat} {l : List Nat} (hp : l.Perm (List.range w.length)) (hs : l.Pairwise fun i j => Qez w i j = true) {p : Nat} (hpl : p < l.length) : Qor w l[p] = p := by
 unfold Qor
 rw [<- hp.countP_eq]
 have e : l = l.take p ++ l[p] :: l.drop (p + 1) := by rw [<- List.drop_eq_getElem_cons hpl, List.take_append_drop]
 have hs2 := hs
 rw [e] at hs2
 obtain ⟨s1, s2, s3⟩ := List.pairwise_append.1 hs2
 obtain ⟨s4, s5⟩ := List.pairwise_cons.1 s2
 have hlen : (l.take p).length = p := by rw [List.length_take];omega
 generalize hx : l[p] = x at *
 conv => lhs;rw [e]
 rw [List.countP_append, List.countP_cons]
 have c1 : (l.take p).countP (fun j => Qez w j x) = p := by
  rw [List.countP_eq_length.2 (fun a ha => s3 a ha _ (by simp)), hlen]
 have c2 : (l.drop (p + 1)).countP (fun j => Qez w j x) = 0 := by
  rw [List.countP_eq_zero]
  intro a ha
  have := Qri (s4 a ha)
  simp [this]
 rw [c1, c2, Qpw]
 simp
theorem Qrk (w : List Nat) : ∃ l : List Nat, l.Perm (List.range w.length) /\ l.Pairwise fun i j => Qez w i j = true := by
 refine ⟨(List.range w.length).mergeSort fun i j => Qez w i j || i == j, List.mergeSort_perm _ _, ?_⟩
 have hs := List.pairwise_mergeSort (le := fun i j => Qez w i j || i == j) (fun a b c h1 h2 => by
  simp only [Bool.or_eq_true, beq_iff_eq] at *
  rcases h1 with h1 | rfl
  ·
   rcases h2 with h2 | rfl
   ·
    exact .inl (Qrh h1 h2)
   ·
    exact .inl h1
  ·
   exact h2) (fun a b => by
  by_cases e : a = b
  ·
   subst e;simp
  ·
   rcases Qrj (w := w) e with h | h <;> simp [h]) (List.range w.length)
 have hn : ((List.range w.length).mergeSort fun i j => Qez w i j || i == j).Nodup := (List.mergeSort_perm _ _).nodup_iff.2 List.nodup_range
 refine (hs.and hn).imp ?_
 rintro a b ⟨h1, h2⟩
 simp only [Bool.or_eq_true, beq_iff_eq] at h1
 rcases h1 with h1 | h1
 ·
  exact h1
 ·
  exact absurd h1 h2
theorem Qt8 {l m : List Nat} (h : l.Perm m) : Qck l = Qck m := by
 induction h with
 | nil => rfl
 | cons x _ ih => rw [Qck, Qck, ih]
 | swap x y l => simp only [Qck];omega
 | trans _ _ h1 h2 => rw [h1, h2]
theorem Qos {n : Nat} (h : 2 <= n) : 1 <= Qe0 n /\ 2 ^ Qe0 n <= n /\ n < 2 ^ (Qe0 n + 1) := by
 refine ⟨(Nat.le_log2 (by omega)).2 (by simpa using h), Nat.log2_self_le (by omega), Nat.lt_log2_self⟩
theorem QC3 {n : Nat} (h : 2 <= n) (h2 : n <= 258) : Qe0 n <= 8 := by
 have := (Qos h).2.1
 rcases Nat.lt_or_ge 8 (Qe0 n) with h3 | h3
 ·
  have := Nat.pow_le_pow_right (n := 2) (by omega) h3
  omega
 ·
  exact h3
theorem Qwl {n K p : Nat} (hK : n <= 2 * K) (hn : K <= n) (c : Nat) (f : Nat -> Nat) (hf : ∀ i, f i = if 2 * K - n <= i then c else 2 * c) : ∀ m, m <= n -> Qbq f m = if m <= 2 * K - n then m * (2 * c) else (2 * K - n) * (2 * c) + (m - (2 * K - n)) * c
 | 0, _ => by simp [Qbq]
 | m + 1, h => by
  rw [Qbq, Qwl (p := p) hK hn c f hf m (by omega), hf]
  by_cases h1 : m + 1 <= 2 * K - n
  ·
   rw [if_pos (by omega), if_neg (by omega), if_pos h1];exact (Nat.succ_mul m (2 * c)).symm
  ·
   rw [if_neg h1]
   by_cases h2 : m <= 2 * K - n
   ·
    have e : m = 2 * K - n := by omega
    rw [if_pos h2, if_pos (by omega), show m + 1 - (2 * K - n) = 1 by omega, Nat.one_mul, e]
   ·
    rw [if_neg h2, if_pos (by omega), show m + 1 - (2 * K - n) = (m - (2 * K - n)) + 1 by omega, Nat.add_assoc, show (m - (2 * K - n) + 1) * c = (m - (2 * K - n)) * c + c from Nat.succ_mul _ _]
theorem Qwm {w : List Nat} (h2 : 2 <= w.length) (h258 : w.length <= 258) : (Qfd w).length = w.length /\ (∀ x ∈ Qfd w, 1 <= x /\ x <= 9) /\ Qck (Qfd w) = 1048576 := by
 obtain ⟨hk1, hk2, hk3⟩ := Qos h2
 have hk8 := QC3 h2 h258
 refine ⟨by simp [Qfd], fun x hx => ?_, ?_⟩
 ·
  obtain ⟨i, _, rfl⟩ := List.mem_map.1 hx
  unfold Ql5
  split <;> omega
 ·
  obtain ⟨l, hp, hs⟩ := Qrk w
  have e1 : (Qfd w).Perm ((List.range w.length).map fun p => Ql5 w.length p) := by
   have e2 : (l.map fun i => Ql5 w.length (Qor w i)) = (List.range w.length).map fun p => Ql5 w.length p := by
    have hl : l.length = w.length := by have := hp.length_eq;simpa using this
    apply List.ext_getElem
    ·
     simp [hl]
    ·
     intro p h3 h4
     simp only [List.getElem_map, List.getElem_range]
     rw [Qmv hp hs]
   rw [<- e2]
   exact (hp.map _).symm
  rw [Qt8 e1, Qil]
  have hp2 : 2 ^ (Qe0 w.length + 1) = 2 * 2 ^ Qe0 w.length := by rw [Nat.pow_succ];omega
  have h20 : 2 ^ (20 - Qe0 w.length) = 2 * 2 ^ (19 - Qe0 w.length) := by rw [show 20 - Qe0 w.length = (19 - Qe0 w.length) + 1 by omega, Nat.pow_succ];omega
  have hc : 2 ^ Qe0 w.length * 2 ^ (19 - Qe0 w.length) = 524288 := by rw [<- Nat.pow_add, show Qe0 w.length + (19 - Qe0 w.length) = 19 by omega]
  rw [Qwl (p := 0) (K := 2 ^ Qe0 w.length) (n := w.length) (by omega) (by omega) (2 ^ (19 - Qe0 w.length)) _ (fun i => ?_) w.length (Nat.le_refl _)]
  ·
   generalize 2 ^ (19 - Qe0 w.length) = c at *
   generalize 2 ^ Qe0 w.length = K at *
   split
   ·
    rename_i h5
    have e5 : w.length = K := by omega
    rw [e5, Nat.mul_left_comm, hc]
   ·
    rename_i h5
    obtain ⟨d, hd⟩ : ∃ d, w.length = K + d := ⟨w.length - K, by omega⟩
    rw [hd, show 2 * K - (K + d) = K - d by omega, show K + d - (K - d) = 2 * d by omega]
    obtain ⟨e, he⟩ : ∃ e, K = d + e := ⟨K - d, by omega⟩
    rw [show K - d = e by omega]
    have : e * (2 * c) + 2 * d * c = 2 * (K * c) := by
     rw [he, Nat.add_mul, Nat.mul_add, Nat.mul_left_comm, Nat.mul_assoc];omega
    rw [this, hc]
  ·
   simp only [Ql5]
   rw [hp2]
   split
   ·
    rw [show 20 - (Qe0 w.length + 1) = 19 - Qe0 w.length by omega]
   ·
    rw [h20]
def Qbh : Nat -> Nat -> List Bool
 | 0, _ => []
 | n + 1, v => v.testBit n :: Qbh n v
def Qt9 : List Bool -> Nat -> Nat
 | [], a => a
 | b :: l, a => Qt9 l (2 * a + b.toNat)
def numB (l : List Bool) : Nat := Qt9 l 0
theorem Qaw (n v : Nat) : (Qbh n v).length = n := by
 induction n with
 | zero => rfl
 | succ n ih => simp [Qbh, ih]
theorem QC4 (l : List Bool) : ∀ a, Qt9 l a = a * 2 ^ l.length + Qt9 l 0 := by
 induction l with
 | nil => intro a;simp [Qt9]
 | cons b l ih =>
  intro a
  simp only [Qt9]
  rw [ih (2 * a + b.toNat), ih (2 * 0 + b.toNat), List.length_cons, Nat.pow_succ, Nat.add_mul, Nat.mul_zero, Nat.zero_add]
  rw [show 2 * a * 2 ^ l.length = a * (2 ^ l.length * 2) by rw [Nat.mul_comm 2 a, Nat.mul_assoc, Nat.mul_comm 2]]
  omega
theorem Qmb : numB [] = 0 := rfl
theorem Qgt (b : Bool) (l : List Bool) : numB (b :: l) = b.toNat * 2 ^ l.length + numB l := by
 unfold numB;simp only [Qt9];rw [QC4 l];simp
theorem Qmw (l m : List Bool) : numB (l ++ m) = numB l * 2 ^ m.length + numB m := by
 induction l with
 | nil => simp [Qmb]
 | cons b l ih =>
  rw [List.cons_append, Qgt, ih, Qgt, List.length_append, Nat.pow_add, Nat.add_mul, Nat.mul_assoc]
  omega
theorem Qz1 (l : List Bool) (b : Bool) : numB (l ++ [b]) = 2 * numB l + b.toNat := by
 rw [Qmw, Qgt];simp [Qmb, Nat.mul_comm]
theorem Qe1 (l : List Bool) : numB l < 2 ^ l.length := by
 induction l with
 | nil => simp [Qmb]
 | cons b l ih =>
  rw [Qgt, List.length_cons, Nat.pow_succ]
  cases b <;> simp <;> omega
theorem Qd7 (n v : Nat) : numB (Qbh n v) = v % 2 ^ n := by
 induction n with
 | zero => simp [Qbh, Qmb, Nat.mod_one]
 | succ n ih =>
  rw [Qbh, Qgt, ih, Qaw, Nat.pow_succ, Nat.mod_mul, Nat.testBit_eq_decide_div_mod_eq]
  rcases Nat.mod_two_eq_zero_or_one (v / 2 ^ n) with h | h <;> rw [h] <;> simp
  omega
theorem Qln (m n v : Nat) : Qbh (m + n) v = Qbh m (v / 2 ^ n) ++ Qbh n v := by
 induction m with
 | zero => simp [Qbh]
 | succ m ih =>
  rw [show m + 1 + n = (m + n) + 1 by omega, Qbh, ih, Qbh, List.cons_append, Nat.testBit_div_two_pow, Nat.add_comm m n]
theorem Qrl (n v : Nat) : ∀ k, n <= k -> Qbh n (v % 2 ^ k) = Qbh n v := by
 intro k
 induction n with
 | zero => intro _;rfl
 | succ n ih =>
  intro h
  rw [Qbh, Qbh, ih (by omega), Nat.testBit_mod_two_pow]
  simp [show n < k by omega]
theorem Qim (l : List Bool) : Qbh l.length (numB l) = l := by
 induction l with
 | nil => rfl
 | cons b l ih =>
  rw [List.length_cons, Qbh, Qgt]
  have h := Qe1 l
  have e1 : (b.toNat * 2 ^ l.length + numB l).testBit l.length = b := by
   rw [Nat.testBit_eq_decide_div_mod_eq, Nat.mul_comm, Nat.mul_add_div (Nat.two_pow_pos _), Nat.div_eq_of_lt h]
   cases b <;> simp
  have e2 : Qbh l.length (b.toNat * 2 ^ l.length + numB l) = l := by
   have := Qrl l.length (b.toNat * 2 ^ l.length + numB l) l.length (Nat.le_refl _)
   rw [Nat.mul_comm, Nat.mul_add_mod, Nat.mod_eq_of_lt h, ih] at this
   rw [Nat.mul_comm];exact this.symm
  rw [e1, e2]
theorem Qhx (n v : Nat) : ∀ i, i < n -> (Qbh n v)[i]? = some (v.testBit (n - 1 - i)) := by
 induction n with
 | zero => intro i h;omega
 | succ n ih =>
  intro i h
  rw [Qbh]
  cases i with
  | zero => simp
  | succ i =>
   rw [List.getElem?_cons_succ, ih i (by omega)]
   congr 2;omega
def Qas (l : List UInt8) : List Bool := l.flatMap fun b => Qbh 8 b.toNat
theorem Qkq : Qas [] = [] := rfl
theorem Qeh (b : UInt8) (l : List UInt8) : Qas (b :: l) = Qbh 8 b.toNat ++ Qas l := rfl
theorem Qg6 (l m : List UInt8) : Qas (l ++ m) = Qas l ++ Qas m := by simp [Qas]
theorem Qbe (l : List UInt8) : (Qas l).length = 8 * l.length := by
 induction l with
 | nil => rfl
 | cons b l ih => rw [Qeh, List.length_append, Qaw, ih, List.length_cons];omega
theorem Qkr (l : List UInt8) : ∀ i, i < 8 * l.length -> (Qas l)[i]? = some ((l.getD (i / 8) 0).toNat.testBit (7 - i % 8)) := by
 induction l with
 | nil => intro i h;simp at h
 | cons b l ih =>
  intro i h
  rw [Qeh]
  by_cases h8 : i < 8
  ·
   rw [List.getElem?_append_left (by rw [Qaw];exact h8), Qhx 8 _ i h8]
   simp [show i / 8 = 0 by omega, show i % 8 = i by omega]
  ·
   rw [List.getElem?_append_right (by rw [Qaw];omega), Qaw, ih (i - 8) (by simp at h;omega)]
   rw [show i / 8 = (i - 8) / 8 + 1 by omega, show (i - 8) % 8 = i % 8 by omega]
   rfl
theorem Qxo {a b : UInt8} (h : Qbh 8 a.toNat = Qbh 8 b.toNat) : a = b := by
 have := congrArg numB h
 rw [Qd7, Qd7, Nat.mod_eq_of_lt a.toNat_lt, Nat.mod_eq_of_lt b.toNat_lt] at this
 exact UInt8.toNat_inj.1 this
theorem Qks : ∀ (l m : List UInt8), Qas l = Qas m -> l = m
 | [], [], _ => rfl
 | [], b :: m, h => by have := congrArg List.length h;simp [Qbe] at this
 | a :: l, [], h => by have := congrArg List.length h;simp [Qbe] at this
 | a :: l, b :: m, h => by
  rw [Qeh, Qeh] at h
  obtain ⟨h1, h2⟩ := List.append_inj h (by simp [Qaw])
  rw [Qxo h1, Qks l m h2]
def Qot : List Bool -> Nat -> Nat -> List UInt8
 | [], acc, k => if k = 0 then [] else [UInt8.ofNat (acc * 2 ^ (8 - k))]
 | b :: l, acc, k => if k = 7 then UInt8.ofNat (2 * acc + b.toNat) :: Qot l 0 0 else Qot l (2 * acc + b.toNat) (k + 1)
def Qby (l : List Bool) : List UInt8 := Qot l 0 0
theorem Qkt (n : Nat) : Qbh n 0 = List.replicate n false := by
 induction n with
 | zero => rfl
 | succ n ih => rw [Qbh, ih, Nat.zero_testBit];rfl
theorem Qjc {n : Nat} (h : n < 256) : (UInt8.ofNat n).toNat = n := by
 rw [UInt8.toNat_ofNat'];exact Nat.mod_eq_of_lt h
theorem Qua (l : List Bool) : ∀ (acc k : Nat), k <= 7 -> acc < 2 ^ k ->
  Qas (Qot l acc k) = Qbh k acc ++ l ++ List.replicate (8 * ((k + l.length + 7) / 8) - (k + l.length)) false := by
 induction l with
 | nil =>
  intro acc k hk ha
  rw [Qot]
  by_cases h0 : k = 0
  ·
   subst h0;simp [Qkq, Qbh]
  ·
   rw [if_neg h0, Qeh, Qkq, List.append_nil, List.append_nil]
   have hlt : acc * 2 ^ (8 - k) < 256 := by
    have e : 2 ^ k * 2 ^ (8 - k) = 256 := by rw [<- Nat.pow_add, show k + (8 - k) = 8 by omega]
    rw [<- e]
    exact Nat.mul_lt_mul_of_pos_right ha (Nat.two_pow_pos _)
   rw [Qjc hlt]
   have := Qln k (8 - k) (acc * 2 ^ (8 - k))
   rw [show k + (8 - k) = 8 by omega, Nat.mul_div_cancel _ (Nat.two_pow_pos _)] at this
   rw [this]
   congr 1
   have h2 := Qrl (8 - k) (acc * 2 ^ (8 - k)) (8 - k) (Nat.le_refl _)
   rw [Nat.mul_mod_left, Qkt] at h2
   rw [<- h2]
   congr 1
   simp only [List.length_nil];omega
 | cons b l ih =>
  intro acc k hk ha
  rw [Qot]
  have hb : b.toNat <= 1 := by cases b <;> simp
  have hbits : Qbh (k + 1) (2 * acc + b.toNat) = Qbh k acc ++ [b] := by
   have := Qln k 1 (2 * acc + b.toNat)
   rw [this]
   congr 1
   ·
    congr 1;simp;omega
   ·
    simp only [Qbh];cases b <;> simp [Nat.testBit_zero]
  have hlt : 2 * acc + b.toNat < 2 ^ (k + 1) := by rw [Nat.pow_succ];omega
  by_cases h7 : k = 7
  ·
   subst h7
   rw [if_pos rfl, Qeh, Qjc (by simpa using hlt), hbits, ih 0 0 (by omega) (by simp)]
   simp only [Qbh, List.nil_append, List.append_assoc, List.length_cons, List.singleton_append]
   congr 4
   omega
  ·
   rw [if_neg h7, ih _ (k + 1) (by omega) hlt, hbits]
   simp only [List.append_assoc, List.length_cons, List.singleton_append]
   rw [show k + 1 + l.length = k + (l.length + 1) by omega]
theorem Qc7 (l : List Bool) : Qas (Qby l) = l ++ List.replicate (8 * ((l.length + 7) / 8) - l.length) false := by
 have := Qua l 0 0 (by omega) (by simp)
 simpa [Qbh, Qby] using this
theorem Qcb (l : List Bool) : (Qby l).length = (l.length + 7) / 8 := by
 have := congrArg List.length (Qc7 l)
 rw [Qbe, List.length_append, List.length_replicate] at this
 omega
theorem Qpx {o : List UInt8} {l : List Bool} (h : Qas o = l ++ List.replicate (8 * ((l.length + 7) / 8) - l.length) false) : o = Qby l :=
 Qks _ _ (by rw [h, Qc7])
theorem Qpy (l m : List Bool) (h : l.length % 8 = 0) : Qby (l ++ m) = Qby l ++ Qby m := by
 refine (Qpx ?_).symm
 rw [Qg6, Qc7, Qc7, show 8 * ((l.length + 7) / 8) - l.length = 0 by omega, List.replicate_zero, List.append_nil, List.append_assoc, List.length_append]
 congr 3;omega
def idxN (l : List Nat) (n m : Nat) : List Nat := (List.range m).filter fun i => l.getD i 0 == n
def idxs (l : List Nat) (n : Nat) : List Nat := idxN l n l.length
def cnt (l : List Nat) (n : Nat) : Nat := (idxs l n).length
def Qbj (l : List Nat) : Nat -> Nat
 | 0 => 0
 | n + 1 => 2 * (Qbj l n + cnt l n)
def Qew (l : List Nat) (i : Nat) : Nat := Qbj l (l.getD i 0) + (idxN l (l.getD i 0) i).length
def Ql6 (l : List Nat) (i : Nat) : List Bool := Qbh (l.getD i 0) (Qew l i)
def begP (l : List Nat) (c k : Nat) : Bool := (List.range 21).any fun m => decide (k < m) && decide (0 < cnt l m) && decide (c * 2 ^ (m - k) < Qbj l m + cnt l m)
def Qgc (l : List Nat) : List Bool -> Nat -> Nat -> Except Int (Nat × Nat)
 | [], _, _ => .error 10
 | b :: r, n, code =>
  if Qbj l (n + 1) <= 2 * code + b.toNat /\ 2 * code + b.toNat < Qbj l (n + 1) + cnt l (n + 1) then .ok ((idxs l (n + 1)).getD (2 * code + b.toNat - Qbj l (n + 1)) 0, n + 1)
  else if begP l (2 * code + b.toNat) (n + 1) = true then Qgc l r (n + 1) (2 * code + b.toNat) else .error 90
def Qhy (l : List Nat) (bits : List Bool) (at_ : Nat) : Except Int (Nat × Nat) := match Qgc l (bits.drop at_) 0 0 with
 | .ok p => .ok (p.1, at_ + p.2)
 | .error e => .error e
def Qed (l : List Nat) (bits : List Bool) (fin : Nat) : Nat -> Nat -> Except Int (List Nat × Nat)
 | 0, at_ => .ok ([], at_)
 | n + 1, at_ => match Qhy l bits at_ with
  | .error e => .error e
  | .ok p => if p.1 = fin then .ok ([p.1], p.2) else match Qed l bits fin n p.2 with
   | .error e => .error e
   | .ok q => .ok (p.1 :: q.1, q.2)
def okL (l : List Nat) : Prop := 2 <= l.length /\ l.length <= 258 /\ (∀ x ∈ l, 1 <= x /\ x <= 20) /\ Qck l <= 1048576
theorem Qhz (l : List Nat) (n m : Nat) : idxN l n (m + 1) = idxN l n m ++ if l.getD m 0 = n then [m] else [] := by
 unfold idxN
 rw [List.range_succ, List.filter_append]
 congr 1
 by_cases h : l.getD m 0 = n
 ·
  rw [if_pos h, List.filter_cons_of_pos (by simp only [beq_iff_eq];exact h)];rfl
 ·
  rw [if_neg h, List.filter_cons_of_neg (by simp only [beq_iff_eq];exact h)];rfl
theorem Qwn (l : List Nat) (n m : Nat) : (idxN l n m).length <= m := by
 unfold idxN;exact Nat.le_trans (List.length_filter_le _ _) (by simp)
theorem Qub (l : List Nat) (n : Nat) {m m' : Nat} (h : m <= m') : ∃ r, idxN l n m' = idxN l n m ++ r := by
 induction m' with
 | zero => exact ⟨[], by rw [show m = 0 by omega, List.append_nil]⟩
 | succ m' ih =>
  rcases Nat.lt_or_ge m (m' + 1) with h1 | h1
  ·
   obtain ⟨r, hr⟩ := ih (by omega)
   exact ⟨_, by rw [Qhz, hr, List.append_assoc]⟩
  ·
   exact ⟨[], by rw [show m = m' + 1 by omega, List.append_nil]⟩
theorem Qmc {l : List Nat} {n m i : Nat} : i ∈ idxN l n m ↔ i < m /\ l.getD i 0 = n := by
 unfold idxN;simp [List.mem_filter]
theorem Qrm {l : List Nat} {i : Nat} (hi : i < l.length) : (idxs l (l.getD i 0)).getD (idxN l (l.getD i 0) i).length 0 = i /\ (idxN l (l.getD i 0) i).length < cnt l (l.getD i 0) := by
 obtain ⟨r, hr⟩ := Qub l (l.getD i 0) (m := i + 1) (m' := l.length) (by omega)
 have h1 : idxs l (l.getD i 0) = idxN l (l.getD i 0) i ++ [i] ++ r := by
  unfold idxs;rw [hr, Qhz, if_pos rfl]
 constructor
 ·
  rw [h1, List.append_assoc, List.getD_eq_getElem?_getD, List.getElem?_append_right (Nat.le_refl _), Nat.sub_self];rfl
 ·
  rw [cnt, h1];simp
theorem Qmx {l : List Nat} (h : ∀ x ∈ l, 1 <= x) : cnt l 0 = 0 := by
 rw [cnt, idxs, List.length_eq_zero_iff, List.eq_nil_iff_forall_not_mem]
 intro i hi
 obtain ⟨h1, h2⟩ := Qmc.1 hi
 have := h (l.getD i 0) (by rw [List.getD_eq_getElem?_getD, List.getElem?_eq_getElem h1];exact List.getElem_mem h1)
 omega
theorem Qz2 (l : List Nat) (n : Nat) : ∀ m k, k < (idxN l n m).length -> (idxN l n m).getD k 0 < m /\ l.getD ((idxN l n m).getD k 0) 0 = n /\ (idxN l n ((idxN l n m).getD k 0)).length = k
 | 0, k, h => by simp [idxN] at h
 | m + 1, k, h => by
  rw [Qhz] at h ⊢
  rcases Nat.lt_or_ge k (idxN l n m).length with h1 | h1
  ·
   rw [Qcj h1]
   obtain ⟨a, b, c⟩ := Qz2 l n m k h1
   exact ⟨by omega, b, c⟩
  ·
   by_cases h2 : l.getD m 0 = n
   ·
    rw [if_pos h2] at h ⊢
    have hk : k = (idxN l n m).length := by simp at h;omega
    subst hk
    rw [Qhv]
    exact ⟨by omega, h2, rfl⟩
   ·
    rw [if_neg h2, List.append_nil] at h;omega
theorem Qwo (l : List Nat) (n : Nat) : ∀ d, (Qbj l n + cnt l n) * 2 ^ (d + 1) <= Qbj l (n + d + 1)
 | 0 => by simp only [Nat.zero_add, Nat.pow_one, Nat.add_zero, Qbj];omega
 | d + 1 => by
  have := Qwo l n d
  rw [show n + (d + 1) + 1 = (n + d + 1) + 1 by omega, Qbj, Nat.pow_succ, <- Nat.mul_assoc]
  omega
theorem Qou (l : List Nat) (n : Nat) : ∀ m, Qbq (fun i => if l.getD i 0 <= n + 1 then 2 ^ (20 - l.getD i 0) else 0) m = Qbq (fun i => if l.getD i 0 <= n then 2 ^ (20 - l.getD i 0) else 0) m + (idxN l (n + 1) m).length * 2 ^ (20 - (n + 1))
 | 0 => by simp [Qbq, idxN]
 | m + 1 => by
  rw [Qbq, Qbq, Qou l n m, Qhz]
  by_cases h1 : l.getD m 0 = n + 1
  ·
   rw [if_pos (by omega), if_neg (by omega), if_pos h1, h1, List.length_append, Nat.add_mul];simp;omega
  ·
   rw [if_neg h1, List.append_nil]
   by_cases h2 : l.getD m 0 <= n
   ·
    rw [if_pos h2, if_pos (by omega)];omega
   ·
    rw [if_neg h2, if_neg (by omega)];omega
theorem Qxp (l : List Nat) : Qck l = Qbq (fun i => 2 ^ (20 - l.getD i 0)) l.length := by
 rw [<- Qil]
 congr 1
 apply List.ext_getElem
 ·
  simp
 ·
  intro i h1 h2;simp [List.getD_eq_getElem?_getD, List.getElem?_eq_getElem h1]
theorem Qov {l : List Nat} (h : ∀ x ∈ l, 1 <= x /\ x <= 20) : ∀ n, n <= 20 -> (Qbj l n + cnt l n) * 2 ^ (20 - n) = Qbq (fun i => if l.getD i 0 <= n then 2 ^ (20 - l.getD i 0) else 0) l.length
 | 0, _ => by
  rw [Qbj, Qmx fun x hx => (h x hx).1, Nat.zero_add, Nat.zero_mul]
  symm
  have : Qbq (fun i => if l.getD i 0 <= 0 then 2 ^ (20 - l.getD i 0) else 0) l.length = Qbq (fun _ => 0) l.length := Qci _ fun i hi => by
   have := h (l.getD i 0) (by rw [List.getD_eq_getElem?_getD, List.getElem?_eq_getElem hi];exact List.getElem_mem hi)
   rw [if_neg (by omega)]
  rw [this]
  generalize l.length = n
  induction n with
  | zero => rfl
  | succ n ih => rw [Qbq, ih]
 | n + 1, hn => by
  rw [Qou, <- Qov h n (by omega), Qbj]
  have e : 2 ^ (20 - n) = 2 * 2 ^ (20 - (n + 1)) := by rw [show 20 - n = (20 - (n + 1)) + 1 by omega, Nat.pow_succ];omega
  rw [e, Nat.add_mul]
  show _ = _ + cnt l (n + 1) * _
  rw [Nat.mul_comm 2 (Qbj l n + cnt l n), Nat.mul_assoc]
theorem Qjy {l : List Nat} (h : okL l) {n : Nat} (hn : n <= 20) : Qbj l n + cnt l n <= 2 ^ n := by
 have h1 := Qov h.2.2.1 n hn
 have h2 : Qbq (fun i => if l.getD i 0 <= n then 2 ^ (20 - l.getD i 0) else 0) l.length <= Qck l := by
  rw [Qxp]
  generalize l.length = m
  induction m with
  | zero => exact Nat.le_refl _
  | succ m ih =>
   rw [Qbq, Qbq]
   generalize 2 ^ (20 - l.getD m 0) = p
   split <;> omega
 have h3 := h.2.2.2
 have e : (1048576 : Nat) = 2 ^ n * 2 ^ (20 - n) := by rw [<- Nat.pow_add, show n + (20 - n) = 20 by omega]
 have h4 : (Qbj l n + cnt l n) * 2 ^ (20 - n) <= 2 ^ n * 2 ^ (20 - n) := by omega
 exact Nat.le_of_mul_le_mul_right h4 (Nat.two_pow_pos _)
theorem Qrn {l : List Nat} (h : okL l) {i : Nat} (hi : i < l.length) : 1 <= l.getD i 0 /\ l.getD i 0 <= 20 :=
 h.2.2.1 _ (by rw [List.getD_eq_getElem?_getD, List.getElem?_eq_getElem hi];exact List.getElem_mem hi)
theorem Qmd {l : List Nat} (h : okL l) {i : Nat} (hi : i < l.length) : Qbj l (l.getD i 0) <= Qew l i /\ Qew l i < Qbj l (l.getD i 0) + cnt l (l.getD i 0) /\ Qew l i < 2 ^ l.getD i 0 := by
 have h1 := Qrm hi
 have h2 := Qjy h (Qrn h hi).2
 unfold Qew
 omega
theorem QC5 {l : List Nat} (h : okL l) {i : Nat} (hi : i < l.length) (r : List Bool) : ∀ k, k < l.getD i 0 -> Qgc l (Qbh (k + 1) (Qew l i) ++ r) (l.getD i 0 - (k + 1)) (Qew l i / 2 ^ (k + 1)) = .ok (i, l.getD i 0) := by
 have hL := Qrn h hi
 obtain ⟨hc1, hc2, hc3⟩ := Qmd h hi
 intro k
 induction k with
 | zero =>
  intro hk
  rw [Qbh, List.cons_append, Qgc]
  have e : 2 * (Qew l i / 2 ^ (0 + 1)) + ((Qew l i).testBit 0).toNat = Qew l i := by
   rw [Nat.testBit_zero]
   rcases Nat.mod_two_eq_zero_or_one (Qew l i) with h | h <;> rw [h] <;> simp <;> omega
  rw [e, show l.getD i 0 - (0 + 1) + 1 = l.getD i 0 by omega, if_pos ⟨hc1, hc2⟩]
  have : Qew l i - Qbj l (l.getD i 0) = (idxN l (l.getD i 0) i).length := by unfold Qew;omega
  rw [this, (Qrm hi).1]
 | succ k ih =>
  intro hk
  rw [Qbh, List.cons_append, Qgc]
  have e : 2 * (Qew l i / 2 ^ (k + 1 + 1)) + ((Qew l i).testBit (k + 1)).toNat = Qew l i / 2 ^ (k + 1) := by
   rw [Nat.pow_succ 2 (k + 1), <- Nat.div_div_eq_div_mul, Nat.testBit_eq_decide_div_mod_eq]
   rcases Nat.mod_two_eq_zero_or_one (Qew l i / 2 ^ (k + 1)) with h | h <;> rw [h] <;> simp <;> omega
  rw [e, show l.getD i 0 - (k + 1 + 1) + 1 = l.getD i 0 - (k + 1) by omega]
  have hfl := Qwo l (l.getD i 0 - (k + 1)) k
  rw [show l.getD i 0 - (k + 1) + k + 1 = l.getD i 0 by omega] at hfl
  have hge : Qbj l (l.getD i 0 - (k + 1)) + cnt l (l.getD i 0 - (k + 1)) <= Qew l i / 2 ^ (k + 1) := (Nat.le_div_iff_mul_le (Nat.two_pow_pos _)).2 (by omega)
  rw [if_neg (by omega), if_pos, ih (by omega)]
  unfold begP
  rw [List.any_eq_true]
  refine ⟨l.getD i 0, List.mem_range.2 (by omega), ?_⟩
  have h1 : Qew l i / 2 ^ (k + 1) * 2 ^ (l.getD i 0 - (l.getD i 0 - (k + 1))) <= Qew l i := by
   rw [show l.getD i 0 - (l.getD i 0 - (k + 1)) = k + 1 by omega];exact Nat.div_mul_le_self _ _
  simp only [Bool.and_eq_true, decide_eq_true_eq]
  omega
theorem Qmy {l : List Nat} (h : okL l) {i : Nat} (hi : i < l.length) {bits : List Bool} {at_ : Nat} {r : List Bool} (hb : bits.drop at_ = Ql6 l i ++ r) : Qhy l bits at_ = .ok (i, at_ + (Ql6 l i).length) := by
 have hL := Qrn h hi
 have hc := (Qmd h hi).2.2
 have := QC5 h hi r (l.getD i 0 - 1) (by omega)
 rw [show l.getD i 0 - 1 + 1 = l.getD i 0 by omega, Nat.sub_self, Nat.div_eq_of_lt hc] at this
 rw [Qhy, hb]
 show (match Qgc l (Qbh (l.getD i 0) (Qew l i) ++ r) 0 0 with | .ok p => _ | .error e => _) = _
 rw [this, Ql6, Qaw]
def Qee (l : List Nat) (list : List Nat) : List Bool := list.flatMap (Ql6 l)
theorem Qbl {bits : List Bool} {at_ : Nat} {a b : List Bool} (h : bits.drop at_ = a ++ b) : bits.drop (at_ + a.length) = b := by
 rw [<- List.drop_drop, h, List.drop_left]
theorem Qro {l : List Nat} (h : okL l) (fin : Nat) : ∀ (list : List Nat) (n : Nat) {bits : List Bool} {at_ : Nat} {r : List Bool}, (∀ s ∈ list, s < l.length /\ s ≠ fin) -> list.length = n -> bits.drop at_ = Qee l list ++ r -> Qed l bits fin n at_ = .ok (list, at_ + (Qee l list).length)
 | [], n, bits, at_, r, _, hn, hb => by simp at hn;subst hn;simp [Qed, Qee]
 | s :: list, n, bits, at_, r, hs, hn, hb => by
  simp at hn
  subst hn
  have hb' : bits.drop at_ = Ql6 l s ++ (Qee l list ++ r) := by rw [hb];simp [Qee, List.append_assoc]
  have h1 := hs s (by simp)
  rw [Qed, Qmy h h1.1 hb']
  simp only
  rw [if_neg h1.2, Qro h fin list list.length (fun x hx => hs x (by simp [hx])) rfl (Qbl hb')]
  simp [Qee];omega
theorem Qjz {l : List Nat} (h : okL l) (fin : Nat) (hf : fin < l.length) : ∀ (list : List Nat) (n : Nat) {bits : List Bool} {at_ : Nat} {r : List Bool}, (∀ s ∈ list, s < l.length /\ s ≠ fin) -> list.length + 1 <= n -> bits.drop at_ = Qee l (list ++ [fin]) ++ r -> Qed l bits fin n at_ = .ok (list ++ [fin], at_ + (Qee l (list ++ [fin])).length)
 | [], n, bits, at_, r, _, hn, hb => by
  obtain ⟨n, rfl⟩ : ∃ m, n = m + 1 := ⟨n - 1, by simp at hn;omega⟩
  have hb' : bits.drop at_ = Ql6 l fin ++ r := by rw [hb];simp [Qee]
  rw [Qed, Qmy h hf hb']
  simp [Qee]
 | s :: list, n, bits, at_, r, hs, hn, hb => by
  simp at hn
  obtain ⟨n, rfl⟩ : ∃ m, n = m + 1 := ⟨n - 1, by omega⟩
  have hb' : bits.drop at_ = Ql6 l s ++ (Qee l (list ++ [fin]) ++ r) := by rw [hb];simp [Qee, List.append_assoc]
  have h1 := hs s (by simp)
  rw [Qed, Qmy h h1.1 hb']
  simp only
  rw [if_neg h1.2, Qjz h fin hf list n (fun x hx => hs x (by simp [hx])) (by omega) (Qbl hb')]
  simp [Qee];omega
theorem Qow {l : List Nat} {c : Nat} (h : ∀ x ∈ l, x <= c) : ∀ (list : List Nat), (Qee l list).length <= list.length * c
 | [] => by simp [Qee]
 | s :: list => by
  have h1 := Qow h list
  have h2 : (Ql6 l s).length <= c := by
   rw [Ql6, Qaw]
   by_cases hs : s < l.length
   ·
    exact h _ (by rw [List.getD_eq_getElem?_getD, List.getElem?_eq_getElem hs];exact List.getElem_mem hs)
   ·
    rw [Qja (by omega)];omega
  simp only [Qee, List.flatMap_cons, List.length_append, List.length_cons, Nat.succ_mul] at h1 ⊢
  omega
theorem Qmz (l : List Bool) : Qby (l ++ [false]) = if l.length % 8 = 0 then Qby l ++ [0] else Qby l := by
 symm
 refine Qpx ?_
 have e : (l ++ [false]).length = l.length + 1 := by simp
 rw [e]
 split
 ·
  rename_i h
  rw [Qg6, Qc7, show 8 * ((l.length + 7) / 8) - l.length = 0 by omega, List.replicate_zero, List.append_nil, List.append_assoc]
  congr 1
  rw [show 8 * ((l.length + 1 + 7) / 8) - (l.length + 1) = 7 by omega]
  rfl
 ·
  rename_i h
  rw [Qc7, List.append_assoc]
  congr 1
  rw [show 8 * ((l.length + 7) / 8) - l.length = (8 * ((l.length + 1 + 7) / 8) - (l.length + 1)) + 1 by omega, List.replicate_succ]
  rfl
theorem Quc (k j : Nat) (hk : k <= 7) (hj : j <= 7) : (128 / 2 ^ k).testBit (7 - j) = decide (j = k) := by
 have : 128 / 2 ^ k = 2 ^ (7 - k) := by
  rw [show (128 : Nat) = 2 ^ 7 from rfl, Nat.pow_div hk (by omega)]
 rw [this, Nat.testBit_two_pow]
 by_cases h : j = k
 ·
  subst h;simp
 ·
  simp [h];omega
theorem Qxq (l : List Bool) (y : UInt8) (hy : y.toNat = ((Qby (l ++ [false])).getD (l.length / 8) 0).toNat ||| 128 / 2 ^ (l.length % 8)) :
  Qby (l ++ [true]) = (Qby (l ++ [false])).set (l.length / 8) y := by
 symm
 refine Qpx ?_
 have hol : (Qby (l ++ [false])).length = (l.length + 8) / 8 := by rw [Qcb, List.length_append];rfl
 have hob := Qc7 (l ++ [false])
 generalize Qby (l ++ [false]) = o at *
 have e : (l ++ [true]).length = l.length + 1 := by simp
 have e2 : (l ++ [false]).length = l.length + 1 := by simp
 rw [e]
 rw [e2] at hob
 generalize hr : 8 * ((l.length + 1 + 7) / 8) - (l.length + 1) = r at *
 apply List.ext_getElem?
 intro j
 by_cases hj : j < 8 * o.length
 ·
  rw [Qkr _ j (by simpa using hj)]
  have h1 := Qkr o j hj
  rw [hob] at h1
  by_cases hji : j / 8 = l.length / 8
  ·
   have h2 : (o.set (l.length / 8) y).getD (j / 8) 0 = y := by
    rw [List.getD_eq_getElem?_getD, hji, List.getElem?_set_self (by omega)];rfl
   rw [h2, hy, Nat.testBit_or, Quc _ _ (by omega) (by omega), <- hji]
   by_cases hjl : j = l.length
   ·
    subst hjl
    simp
   ·
    have hm : ¬ j % 8 = l.length % 8 := by omega
    rw [decide_eq_false hm, Bool.or_false, <- h1]
    by_cases hlt : j < l.length
    ·
     rw [List.append_assoc, List.append_assoc, List.getElem?_append_left hlt, List.getElem?_append_left hlt]
    ·
     rw [List.getElem?_append_right (by simp;omega), List.getElem?_append_right (by simp;omega)];simp
  ·
   have h2 : (o.set (l.length / 8) y).getD (j / 8) 0 = o.getD (j / 8) 0 := by
    rw [List.getD_eq_getElem?_getD, List.getElem?_set_ne (fun h => hji h.symm), List.getD_eq_getElem?_getD]
   rw [h2, <- h1]
   have hjl : ¬ j = l.length := by omega
   by_cases hlt : j < l.length
   ·
    rw [List.append_assoc, List.append_assoc, List.getElem?_append_left hlt, List.getElem?_append_left hlt]
   ·
    rw [List.getElem?_append_right (by simp;omega), List.getElem?_append_right (by simp;omega)];simp
 ·
  rw [List.getElem?_eq_none (by rw [Qbe];simp;omega), List.getElem?_eq_none]
  simp
  omega
theorem Qm0 (n v k : Nat) (h : k < n) : (Qbh n v).take (k + 1) = (Qbh n v).take k ++ [v.testBit (n - 1 - k)] := by
 rw [List.take_add_one, Qhx n v k h];rfl
theorem Qjd (v i : Nat) : (v / 2 ^ i) % 2 = (v.testBit i).toNat := by
 rw [Nat.testBit_eq_decide_div_mod_eq]
 rcases Nat.mod_two_eq_zero_or_one (v / 2 ^ i) with h | h <;> rw [h] <;> rfl
def Qfv (l : List Bool) (at_ n : Nat) : Nat × Int := if l.length < at_ + n then (0, 10) else (numB ((l.drop at_).take n), 0)
def unS : List Bool -> Nat -> Nat -> Nat × Int
 | [], _, _ => (0, 10)
 | false :: _, _, n => (n, 0)
 | true :: r, most, n => if n = most then (0, 3) else unS r most (n + 1)
def Qg7 (a b : Nat) : List Bool := if a < b then (List.replicate (b - a) [true, false]).flatten else (List.replicate (a - b) [true, true]).flatten
def Qcc : Nat -> List Nat -> List Bool
 | _, [] => []
 | p, x :: r => Qg7 p x ++ (false :: Qcc x r)
def Qcl (l : List Nat) : List Bool := Qbh 5 (l.getD 0 0) ++ Qcc (l.getD 0 0) l
def tdGo : List Bool -> Nat -> Nat -> Nat -> Except Int (List Nat × Nat)
 | [], now, k, at_ => if k = 0 then .ok ([], at_) else if now < 1 ∨ 20 < now then .error 80 else .error 10
 | false :: r, now, k, at_ => if k = 0 then .ok ([], at_) else if now < 1 ∨ 20 < now then .error 80 else match tdGo r now (k - 1) (at_ + 1) with
  | .error e => .error e
  | .ok q => .ok (now :: q.1, q.2)
 | [true], now, k, at_ => if k = 0 then .ok ([], at_) else if now < 1 ∨ 20 < now then .error 80 else .error 10
 | true :: d :: r, now, k, at_ => if k = 0 then .ok ([], at_) else if now < 1 ∨ 20 < now then .error 80 else tdGo r (if d = true then now - 1 else now + 1) k (at_ + 2)
def Qc8 (bits : List Bool) (at_ n : Nat) : Except Int (List Nat × Nat) :=
 if (Qfv bits at_ 5).2 ≠ 0 then .error (Qfv bits at_ 5).2 else tdGo (bits.drop (at_ + 5)) (Qfv bits at_ 5).1 n (at_ + 5)
theorem QJi : ∀ (d p k : Nat) (r : List Bool) (at_ : Nat), 0 < k -> 1 <= p -> p + d <= 20 -> tdGo ((List.replicate d [true, false]).flatten ++ r) p k at_ = tdGo r (p + d) k (at_ + 2 * d)
 | 0, p, k, r, at_, _, _, _ => rfl
 | d + 1, p, k, r, at_, h1, h2, h3 => by
  rw [List.replicate_succ, List.flatten_cons, List.append_assoc]
  show tdGo (true :: false :: ((List.replicate d [true, false]).flatten ++ r)) p k at_ = _
  rw [tdGo, if_neg (by omega), if_neg (by omega), if_neg (by simp), QJi d (p + 1) k r (at_ + 2) h1 (by omega) (by omega)]
  congr 1 <;> omega
theorem Qz3 : ∀ (d p k : Nat) (r : List Bool) (at_ : Nat), 0 < k -> d < p -> p <= 20 -> tdGo ((List.replicate d [true, true]).flatten ++ r) p k at_ = tdGo r (p - d) k (at_ + 2 * d)
 | 0, p, k, r, at_, _, _, _ => rfl
 | d + 1, p, k, r, at_, h1, h2, h3 => by
  rw [List.replicate_succ, List.flatten_cons, List.append_assoc]
  show tdGo (true :: true :: ((List.replicate d [true, true]).flatten ++ r)) p k at_ = _
  rw [tdGo, if_neg (by omega), if_neg (by omega), if_pos rfl, Qz3 d (p - 1) k r (at_ + 2) h1 (by omega) (by omega)]
  congr 1 <;> omega
theorem Qh0 (d : Nat) (b : Bool) : (List.replicate d [true, b]).flatten.length = 2 * d := by
 induction d with
 | zero => rfl
 | succ d ih => rw [List.replicate_succ, List.flatten_cons, List.length_append, ih];simp;omega
theorem Qje (a b : Nat) : (Qg7 a b).length = 2 * ((b - a) + (a - b)) := by
 unfold Qg7
 split <;> rw [Qh0] <;> omega
theorem QFu {p x k : Nat} (r : List Bool) (at_ : Nat) (hk : 0 < k) (hp : 1 <= p /\ p <= 20) (hx : 1 <= x /\ x <= 20) : tdGo (Qg7 p x ++ r) p k at_ = tdGo r x k (at_ + (Qg7 p x).length) := by
 rw [Qje]
 unfold Qg7
 split
 ·
  rw [QJi _ _ _ _ _ hk hp.1 (by omega)];congr 1 <;> omega
 ·
  rw [Qz3 _ _ _ _ _ hk (by omega) hp.2];congr 1 <;> omega
theorem QJj : ∀ (l : List Nat) (p : Nat) (r : List Bool) (at_ : Nat), (1 <= p /\ p <= 20) -> (∀ x ∈ l, 1 <= x /\ x <= 20) -> tdGo (Qcc p l ++ r) p l.length at_ = .ok (l, at_ + (Qcc p l).length)
 | [], p, r, at_, _, _ => by
  show tdGo r p 0 at_ = _
  match r with
  | [] => simp [tdGo, Qcc]
  | false :: r => simp [tdGo, Qcc]
  | [true] => simp [tdGo, Qcc]
  | true :: d :: r => simp [tdGo, Qcc]
 | x :: l, p, r, at_, hp, hx => by
  have h1 := hx x (by simp)
  rw [Qcc, List.append_assoc, List.cons_append, QFu _ _ (by simp) hp h1, tdGo, if_neg (by simp), if_neg (by omega)]
  rw [List.length_cons, Nat.add_sub_cancel, QJj l x r _ h1 fun y hy => hx y (by simp [hy])]
  simp;omega
theorem Qxr {l : List Nat} (hl : l ≠ []) (h : ∀ x ∈ l, 1 <= x /\ x <= 20) {bits : List Bool} {at_ : Nat} {r : List Bool} (hb : bits.drop at_ = Qcl l ++ r) : Qc8 bits at_ l.length = .ok (l, at_ + (Qcl l).length) := by
 have h0 : 1 <= l.getD 0 0 /\ l.getD 0 0 <= 20 := h _ (by
  cases l with
  | nil => exact absurd rfl hl
  | cons x l => simp)
 have hlen : bits.length - at_ = (Qcl l).length + r.length := by rw [<- List.length_drop, hb, List.length_append]
 have h5 : (Qcl l).length = 5 + (Qcc (l.getD 0 0) l).length := by rw [Qcl, List.length_append, Qaw]
 have ht : (bits.drop at_).take 5 = Qbh 5 (l.getD 0 0) := by
  rw [hb, Qcl, List.append_assoc]
  have := Qaw 5 (l.getD 0 0)
  rw [List.take_append_of_le_length (by omega), List.take_of_length_le (by omega)]
 have hd : bits.drop (at_ + 5) = Qcc (l.getD 0 0) l ++ r := by
  have := Qbl (bits := bits) (at_ := at_) (a := Qbh 5 (l.getD 0 0)) (b := Qcc (l.getD 0 0) l ++ r) (by rw [hb, Qcl, List.append_assoc])
  rwa [Qaw] at this
 have hts : Qfv bits at_ 5 = (l.getD 0 0, 0) := by
  rw [Qfv, if_neg (by omega), ht, Qd7, Nat.mod_eq_of_lt (by omega)]
 rw [Qc8, hts, hd, h5, QJj l _ r _ h0 h]
 simp;omega
theorem Qlo {k : Nat} : ∀ (l : List Nat) (p : Nat), (p = k ∨ p = k + 1) -> (∀ x ∈ l, x = k ∨ x = k + 1) -> (Qcc p l).length <= 3 * l.length
 | [], p, _, _ => by simp [Qcc]
 | x :: l, p, hp, hx => by
  have h1 := hx x (by simp)
  have h2 := Qlo l x h1 fun y hy => hx y (by simp [hy])
  have h3 := Qje p x
  simp only [Qcc, List.length_append, List.length_cons]
  omega
def Qfk (li : List Nat) (at_ : Nat) : List Nat := li.getD at_ 0 :: (li.take at_ ++ li.drop (at_ + 1))
theorem Qgu {li : List Nat} {at_ : Nat} (h : at_ < li.length) : (Qfk li at_).length = li.length := by simp [Qfk];omega
theorem Qin {li : List Nat} {at_ : Nat} (h : at_ < li.length) (c : Nat) : c ∈ Qfk li at_ ↔ c ∈ li := by
 have e : li = li.take at_ ++ li.getD at_ 0 :: li.drop (at_ + 1) := by
  have : li.getD at_ 0 = li[at_] := by rw [List.getD_eq_getElem?_getD, List.getElem?_eq_getElem h];rfl
  rw [this, <- List.drop_eq_getElem_cons h, List.take_append_drop]
 unfold Qfk
 conv => rhs;rw [e]
 simp only [List.mem_cons, List.mem_append]
 constructor
 ·
  rintro (h | h | h)
  ·
   exact .inr (.inl h)
  ·
   exact .inl h
  ·
   exact .inr (.inr h)
 ·
  rintro (h | h | h)
  ·
   exact .inr (.inl h)
  ·
   exact .inl h
  ·
   exact .inr (.inr h)
theorem Qox {li : List Nat} {c : Nat} (h : c ∈ li) : li.getD (li.idxOf c) 0 = c := by
 have h1 := List.idxOf_lt_length_iff.2 h
 rw [List.getD_eq_getElem?_getD, List.getElem?_eq_getElem h1, Option.getD_some]
 exact List.getElem_idxOf h1
def Qds : List Nat -> List Nat -> List Bool
 | _, [] => []
 | li, p :: r => List.replicate (li.idxOf p) true ++ (false :: Qds (Qfk li (li.idxOf p)) r)
def Qbx (T : List (List Nat)) (P : List Nat) : List Bool := Qbh 3 T.length ++ (Qbh 15 P.length ++ (Qds (List.range T.length) P ++ T.flatMap Qcl))
def ptGo (bits : List Bool) (many : Nat) : List Nat -> Nat -> Nat -> Except Int (List Nat × Nat)
 | li, 0, at_ => .ok ([], at_)
 | li, k + 1, at_ => if (unS (bits.drop at_) (many - 1) 0).2 ≠ 0 then .error (if (unS (bits.drop at_) (many - 1) 0).2 = 3 then 110 else (unS (bits.drop at_) (many - 1) 0).2) else
  match ptGo bits many (Qfk li (unS (bits.drop at_) (many - 1) 0).1) k (at_ + (unS (bits.drop at_) (many - 1) 0).1 + 1) with
  | .error e => .error e
  | .ok q => .ok (li.getD (unS (bits.drop at_) (many - 1) 0).1 0 :: q.1, q.2)
def okLB (l : List Nat) : Bool := decide (2 <= l.length) && decide (l.length <= 258) && l.all (fun x => decide (1 <= x) && decide (x <= 20)) && decide (Qck l <= 1048576)
theorem Qme {l : List Nat} : okLB l = true ↔ okL l := by
 simp only [okLB, okL, Bool.and_eq_true, decide_eq_true_eq, List.all_eq_true, and_assoc]
def ttGo (bits : List Bool) (n : Nat) : Nat -> Nat -> Except Int (List (List Nat) × Nat)
 | 0, at_ => .ok ([], at_)
 | k + 1, at_ => match Qc8 bits at_ n with
  | .error e => .error e
  | .ok q => if okLB q.1 = false then .error 80 else match ttGo bits n k q.2 with
   | .error e => .error e
   | .ok q' => .ok (q.1 :: q'.1, q'.2)
def Qef (bits : List Bool) (at_ n : Nat) : Except Int ((List (List Nat) × List Nat) × Nat) :=
 if (Qfv bits at_ 3).2 ≠ 0 then .error (Qfv bits at_ 3).2 else
 if (Qfv bits at_ 3).1 < 2 ∨ 6 < (Qfv bits at_ 3).1 then .error 110 else
 if (Qfv bits (at_ + 3) 15).2 ≠ 0 then .error (Qfv bits (at_ + 3) 15).2 else
 if (Qfv bits (at_ + 3) 15).1 = 0 then .error 110 else
 match ptGo bits (Qfv bits at_ 3).1 (List.range (Qfv bits at_ 3).1) (Qfv bits (at_ + 3) 15).1 (at_ + 18) with
 | .error e => .error e
 | .ok q => match ttGo bits n (Qfv bits at_ 3).1 q.2 with
  | .error e => .error e
  | .ok q' => .ok ((q'.1, q.1), q'.2)
def mayP (T : List (List Nat)) (P : List Nat) : Prop := 2 <= T.length /\ T.length <= 6 /\ 1 <= P.length /\ P.length <= 32767 /\ (∀ t ∈ T, t.length = (T.getD 0 []).length /\ 3 <= t.length /\ okL t) /\ ∀ k ∈ P, k < T.length
theorem Qz4 : ∀ (k most n : Nat) (r : List Bool), n + k <= most -> unS (List.replicate k true ++ false :: r) most n = (n + k, 0)
 | 0, most, n, r, _ => rfl
 | k + 1, most, n, r, h => by
  rw [List.replicate_succ, List.cons_append, unS, if_neg (by omega), Qz4 k most (n + 1) r (by omega)]
  congr 1;omega
theorem QJk (many : Nat) : ∀ (P li : List Nat) {bits : List Bool} {at_ : Nat} {r : List Bool}, li.length = many -> (∀ k ∈ P, k ∈ li) -> bits.drop at_ = Qds li P ++ r -> ptGo bits many li P.length at_ = .ok (P, at_ + (Qds li P).length)
 | [], li, bits, at_, r, _, _, _ => by simp [ptGo, Qds]
 | p :: P, li, bits, at_, r, hl, hm, hb => by
  have hp := hm p (by simp)
  have h1 := List.idxOf_lt_length_iff.2 hp
  have hb' : bits.drop at_ = (List.replicate (li.idxOf p) true ++ [false]) ++ (Qds (Qfk li (li.idxOf p)) P ++ r) := by rw [hb, Qds];simp
  have hu : unS (bits.drop at_) (many - 1) 0 = (li.idxOf p, 0) := by
   rw [hb', List.append_assoc, List.singleton_append, Qz4 _ _ _ _ (by omega), Nat.zero_add]
  have hd := Qbl hb'
  simp only [List.length_append, List.length_replicate, List.length_singleton] at hd
  rw [List.length_cons, ptGo, hu]
  simp only
  rw [Nat.add_assoc, QJk many P (Qfk li (li.idxOf p)) (by rw [Qgu h1, hl]) (fun k hk => (Qin h1 k).2 (hm k (by simp [hk]))) hd, Qox hp]
  simp [Qds];omega
theorem QJl (n : Nat) : ∀ (T : List (List Nat)) {bits : List Bool} {at_ : Nat} {r : List Bool}, (∀ t ∈ T, t.length = n /\ okL t) -> bits.drop at_ = T.flatMap Qcl ++ r -> ttGo bits n T.length at_ = .ok (T, at_ + (T.flatMap Qcl).length)
 | [], bits, at_, r, _, _ => by simp [ttGo]
 | t :: T, bits, at_, r, hT, hb => by
  obtain ⟨h1, h2⟩ := hT t (by simp)
  have hb' : bits.drop at_ = Qcl t ++ (T.flatMap Qcl ++ r) := by rw [hb];simp
  have hne : t ≠ [] := fun e => by subst e;have := h2.1;simp at this
  have ht := Qxr hne h2.2.2.1 hb'
  rw [h1] at ht
  rw [List.length_cons, ttGo, ht]
  simp only
  rw [if_neg (by rw [Qme.2 h2];simp), QJl n T (fun t ht => hT t (by simp [ht])) (Qbl hb')]
  simp;omega
theorem Qrp {n v : Nat} {bits : List Bool} {at_ : Nat} {r : List Bool} (h0 : 0 < n) (hv : v < 2 ^ n) (hb : bits.drop at_ = Qbh n v ++ r) : Qfv bits at_ n = (v, 0) /\ bits.drop (at_ + n) = r := by
 have hlen : bits.length - at_ = n + r.length := by rw [<- List.length_drop, hb, List.length_append, Qaw]
 have hd := Qbl hb
 rw [Qaw] at hd
 refine ⟨?_, hd⟩
 have hl := Qaw n v
 have ht : (bits.drop at_).take n = Qbh n v := by
  rw [hb, List.take_append_of_le_length (by omega), List.take_of_length_le (by omega)]
 rw [Qfv, ht, Qd7, Nat.mod_eq_of_lt hv]
 rw [if_neg (by omega)]
theorem Qz5 {T : List (List Nat)} {P : List Nat} (h : mayP T P) {bits : List Bool} {at_ : Nat} {r : List Bool} (hb : bits.drop at_ = Qbx T P ++ r) : Qef bits at_ (T.getD 0 []).length = .ok ((T, P), at_ + (Qbx T P).length) := by
 obtain ⟨h1, h2, h3, h4, h5, h6⟩ := h
 unfold Qbx at hb
 simp only [List.append_assoc] at hb
 obtain ⟨t1, d1⟩ := Qrp (by omega) (by omega) hb
 obtain ⟨t2, d2⟩ := Qrp (by omega) (by omega) d1
 rw [Nat.add_assoc] at d2
 have p1 := QJk T.length P (List.range T.length) (by simp) (fun k hk => by simpa using h6 k hk) d2
 have d3 := Qbl d2
 have p2 := QJl (T.getD 0 []).length T (fun t ht => ⟨(h5 t ht).1, (h5 t ht).2.2⟩) d3
 rw [Qef, t1, t2]
 simp only
 rw [if_neg (by simp), if_neg (by omega), if_neg (by simp), if_neg (by omega), p1]
 simp only
 rw [p2]
 simp [Qbx, Qaw];omega
def Qf3 (T : List (List Nat)) (P : List Nat) : List Nat -> Nat -> List Bool
 | [], _ => []
 | s :: r, i => Ql6 (T.getD (P.getD (i / 50) 0) []) s ++ Qf3 T P r (i + 1)
def putC (T : List (List Nat)) : List Nat -> List Nat -> List Bool
 | [], _ => []
 | p :: P, list => Qee (T.getD p []) (list.take 50) ++ putC T P (list.drop 50)
def Qgn (T : List (List Nat)) (bits : List Bool) (fin : Nat) : List Nat -> Nat -> Except Int (List Nat × Nat)
 | [], _ => .error 110
 | p :: P, at_ => match Qed (T.getD p []) bits fin 50 at_ with
  | .error e => .error e
  | .ok q => if q.1.getLast? = some fin then .ok q else match Qgn T bits fin P q.2 with
   | .error e => .error e
   | .ok q' => .ok (q.1 ++ q'.1, q'.2)
theorem Qm1 (T : List (List Nat)) (P : List Nat) (j : Nat) (b : List Nat) : ∀ (a : List Nat) (m : Nat), a.length + m <= 50 -> Qf3 T P (a ++ b) (50 * j + m) = Qee (T.getD (P.getD j 0) []) a ++ Qf3 T P b (50 * j + m + a.length)
 | [], m, _ => rfl
 | s :: a, m, h => by
  simp at h
  rw [List.cons_append, Qf3, show (50 * j + m) / 50 = j by omega, show 50 * j + m + 1 = 50 * j + (m + 1) by omega, Qm1 T P j b a (m + 1) (by omega)]
  simp only [Qee, List.flatMap_cons, List.append_assoc, List.length_cons]
  congr 3;omega
theorem Qoy (T : List (List Nat)) (P : List Nat) : ∀ (Q : List Nat) (j : Nat) (list : List Nat), P.drop j = Q -> list.length <= 50 * Q.length -> Qf3 T P list (50 * j) = putC T Q list
 | [], j, list, hQ, hl => by
  simp at hl
  subst hl
  rfl
 | p :: Q, j, list, hQ, hl => by
  have hj : P.getD j 0 = p := by
   have := congrArg (fun l => l.getD 0 0) hQ
   simpa [List.getD_eq_getElem?_getD, List.getElem?_drop] using this
  have h1 := Qm1 T P j (list.drop 50) (list.take 50) 0 (by simp;omega)
  rw [List.take_append_drop, Nat.add_zero, hj] at h1
  rw [h1, putC]
  congr 1
  rcases Nat.lt_or_ge list.length 50 with h2 | h2
  ·
   have hd : list.drop 50 = [] := List.drop_eq_nil_of_le (by omega)
   rw [hd]
   clear hl h1
   generalize 50 * j + (list.take 50).length = i
   have : ∀ Q : List Nat, putC T Q [] = [] := fun Q => by induction Q with
    | nil => rfl
    | cons q Q ih => rw [putC];simp [Qee, ih]
   rw [this];rfl
  ·
   rw [List.length_take, Nat.min_eq_left h2, show 50 * j + 50 = 50 * (j + 1) by omega]
   refine Qoy T P Q (j + 1) _ ?_ (by simp at hl ⊢;omega)
   rw [<- List.drop_drop, hQ];rfl
theorem Qwp (T : List (List Nat)) : ∀ Q : List Nat, putC T Q [] = []
 | [] => rfl
 | q :: Q => by rw [putC, List.drop_nil, Qwp T Q];rfl
theorem Qz6 {T : List (List Nat)} {n fin : Nat} (hf : fin < n) (hT : ∀ t, t < T.length -> (T.getD t []).length = n /\ okL (T.getD t [])) : ∀ (P body : List Nat) {bits : List Bool} {at_ : Nat} {r : List Bool}, (∀ k ∈ P, k < T.length) -> (∀ s ∈ body, s < n /\ s ≠ fin) -> (body ++ [fin]).length <= 50 * P.length -> bits.drop at_ = putC T P (body ++ [fin]) ++ r ->
  Qgn T bits fin P at_ = .ok (body ++ [fin], at_ + (putC T P (body ++ [fin])).length)
 | [], body, bits, at_, r, _, _, hl, _ => by simp at hl
 | p :: P, body, bits, at_, r, hP, hs, hl, hb => by
  obtain ⟨h1, h2⟩ := hT p (hP p (by simp))
  rw [putC, List.append_assoc] at hb
  rw [Qgn, putC]
  rcases Nat.lt_or_ge body.length 50 with h3 | h3
  ·
   have e1 : (body ++ [fin]).take 50 = body ++ [fin] := List.take_of_length_le (by simp;omega)
   have e2 : (body ++ [fin]).drop 50 = [] := List.drop_eq_nil_of_le (by simp;omega)
   rw [e1, e2, Qwp] at hb ⊢
   rw [Qjz h2 fin (by omega) body 50 (fun s hs' => by rw [h1];exact hs s hs') (by omega) hb]
   simp only
   rw [if_pos (by simp), List.append_nil]
  ·
   have e1 : (body ++ [fin]).take 50 = body.take 50 := by rw [List.take_append_of_le_length h3]
   have e2 : (body ++ [fin]).drop 50 = body.drop 50 ++ [fin] := by rw [List.drop_append_of_le_length h3]
   rw [e1, e2] at hb ⊢
   have hmem : ∀ s ∈ body.take 50, s < (T.getD p []).length /\ s ≠ fin := fun s hs' => by rw [h1];exact hs s (List.mem_of_mem_take hs')
   rw [Qro h2 fin (body.take 50) 50 hmem (by rw [List.length_take];omega) hb]
   simp only
   have hlast : ¬ (body.take 50).getLast? = some fin := fun e => (hmem fin (List.mem_of_getLast? e)).2 rfl
   rw [if_neg hlast, Qz6 hf hT P (body.drop 50) (fun k hk => hP k (by simp [hk])) (fun s hs' => hs s (List.mem_of_mem_drop hs')) (by simp at hl ⊢;omega) (Qbl hb)]
   simp only [Except.ok.injEq, Prod.mk.injEq, List.length_append]
   refine ⟨?_, by omega⟩
   rw [<- List.append_assoc, List.take_append_drop]
def Qfl (list : List Nat) (n : Nat) : List Nat := (List.range n).map fun s => list.count s
def Qjf (list P : List Nat) (t n : Nat) : List Nat := (List.range n).map fun s => (List.range list.length).countP fun i => list.getD i 0 == s && P.getD (i / 50) 0 == t
def Qku (tab chunk : List Nat) : Nat := (chunk.map fun s => tab.getD s 0).sum
def Qkv (c : Nat -> Nat) : Nat -> Nat
 | 0 => 0
 | t + 1 => if c (t + 1) < c (Qkv c t) then t + 1 else Qkv c t
def Qcw (list : List Nat) (k : Nat) : List Nat := (list.drop (50 * k)).take 50
def Qca (m : Nat) : Nat := (m + 49) / 50
def Qea (m : Nat) : Nat := if m < 200 then 2 else if m < 600 then 3 else if m < 1200 then 4 else if m < 2400 then 5 else 6
def Qeo (list : List Nat) (many : Nat) (T : List (List Nat)) : List Nat := (List.range (Qca list.length)).map fun k => Qkv (fun t => Qku (T.getD t []) (Qcw list k)) (many - 1)
def Qge (list : List Nat) (n many : Nat) (x : List (List Nat) × List Nat) : List (List Nat) × List Nat :=
 ((List.range many).map fun t => lenS (Qjf list (Qeo list many x.1) t n) 17, Qeo list many x.1)
def Qgv (n many : Nat) : List (List Nat) := (List.range many).map fun t => (List.range n).map fun s => if s * many / n = t then 1 else 15
def Qcz (list : List Nat) (n many : Nat) : Nat -> List (List Nat) × List Nat
 | 0 => (Qgv n many, List.replicate (Qca list.length) 0)
 | k + 1 => Qge list n many (Qcz list n many k)
def Qeb (list : List Nat) (n : Nat) : List (List Nat) × List Nat := Qcz list n (Qea list.length) 4
def Qb8 (list : List Nat) (n : Nat) : List (List Nat) × List Nat := ([Qfd (Qfl list n), Qfd (Qfl list n)], List.replicate (Qca list.length) 0)
def Qh1 (x : List (List Nat) × List Nat) (list : List Nat) : Nat := (Qbx x.1 x.2).length + (Qf3 x.1 x.2 list 0).length
def Qfw (list : List Nat) (n : Nat) : List (List Nat) × List Nat := if Qh1 (Qb8 list n) list < Qh1 (Qeb list n) list then Qb8 list n else Qeb list n
def Qf4 (list : List Nat) (n : Nat) : Prop := 3 <= n /\ n <= 258 /\ 1 <= list.length /\ list.length <= 1638350 /\ ∀ s ∈ list, s < n
theorem Qmf (c : Nat -> Nat) : ∀ t, Qkv c t <= t
 | 0 => Nat.le_refl _
 | t + 1 => by
  have := Qmf c t
  rw [Qkv];split <;> omega
theorem Qoz (m : Nat) : 2 <= Qea m /\ Qea m <= 6 := by
 unfold Qea;(repeat' split) <;> omega
theorem Qgw {m : Nat} (h : 1 <= m) (h2 : m <= 1638350) : 1 <= Qca m /\ Qca m <= 32767 /\ m <= 50 * Qca m := by unfold Qca;omega
theorem Qh2 {α : Type} (f : Nat -> α) (n : Nat) (d : α) (i : Nat) (h : i < n) : ((List.range n).map f).getD i d = f i := by
 rw [List.getD_eq_getElem?_getD, List.getElem?_map, List.getElem?_range h];rfl
theorem Qo0 {list : List Nat} {n : Nat} (h : Qf4 list n) : mayP (Qeb list n).1 (Qeb list n).2 /\ ((Qeb list n).1.getD 0 []).length = n := by
 obtain ⟨h1, h2, h3, h4, h5⟩ := h
 obtain ⟨t1, t2⟩ := Qoz list.length
 obtain ⟨g1, g2, _⟩ := Qgw h3 h4
 unfold Qeb
 generalize Qea list.length = many at *
 rw [Qcz]
 generalize Qcz list n many 3 = x
 have hlen : ∀ P t, (lenS (Qjf list P t n) 17).length = n /\ okL (lenS (Qjf list P t n) 17) := fun P t => by
  have hc : (Qjf list P t n).length = n := by simp [Qjf]
  obtain ⟨a, b, c⟩ := Qz0 (w := Qjf list P t n) (most := 17) (by omega) (by omega) (by omega) (by omega) (fun x hx => by
   obtain ⟨s, _, rfl⟩ := List.mem_map.1 hx
   have := List.countP_le_length (p := fun i => list.getD i 0 == s && P.getD (i / 50) 0 == t) (l := List.range list.length)
   simp only [List.length_range] at this
   omega)
  rw [hc] at a
  exact ⟨a, by omega, by omega, fun x hx => by have := b x hx;omega, by omega⟩
 have h0 : ((Qge list n many x).1.getD 0 []).length = n := by
  unfold Qge
  simp only
  rw [Qh2 _ _ _ _ (by omega)]
  exact (hlen _ _).1
 refine ⟨⟨by simp [Qge];omega, by simp [Qge];omega, by simp [Qge, Qeo];omega, by simp [Qge, Qeo];omega, fun t ht => ?_, fun k hk => ?_⟩, h0⟩
 ·
  rw [h0]
  obtain ⟨i, _, rfl⟩ := List.mem_map.1 ht
  have := hlen (Qeo list many x.1) i
  exact ⟨this.1, by omega, this.2⟩
 ·
  simp only [Qge, Qeo, List.mem_map] at hk
  obtain ⟨j, _, rfl⟩ := hk
  have := Qmf (fun t => Qku (x.1.getD t []) (Qcw list j)) (many - 1)
  simp only [Qge, List.length_map, List.length_range]
  omega
theorem Qrq (w : List Nat) : ∀ x ∈ Qfd w, x = Qe0 w.length ∨ x = Qe0 w.length + 1 := by
 intro x hx
 obtain ⟨i, _, rfl⟩ := List.mem_map.1 hx
 unfold Ql5
 split <;> simp
theorem Qud {list : List Nat} {n : Nat} (h : Qf4 list n) : (Qfd (Qfl list n)).length = n /\ okL (Qfd (Qfl list n)) := by
 obtain ⟨h1, h2, h3, h4, h5⟩ := h
 have hc : (Qfl list n).length = n := by simp [Qfl]
 obtain ⟨a, b, c⟩ := Qwm (w := Qfl list n) (by omega) (by omega)
 rw [hc] at a
 exact ⟨a, by omega, by omega, fun x hx => by have := b x hx;omega, by omega⟩
theorem Qwq {list : List Nat} {n : Nat} (h : Qf4 list n) : mayP (Qb8 list n).1 (Qb8 list n).2 /\ ((Qb8 list n).1.getD 0 []).length = n := by
 obtain ⟨a, b⟩ := Qud h
 obtain ⟨h1, h2, h3, h4, h5⟩ := h
 obtain ⟨g1, g2, _⟩ := Qgw h3 h4
 unfold Qb8
 simp only
 generalize Qfd (Qfl list n) = l at *
 refine ⟨⟨by simp, by simp, by simp;omega, by simp;omega, fun t ht => ?_, fun k hk => ?_⟩, by simpa using a⟩
 ·
  have : t = l := by simpa using ht
  subst this
  exact ⟨rfl, by omega, b⟩
 ·
  have := List.eq_of_mem_replicate hk
  subst this;simp
theorem Qwr {list : List Nat} {n : Nat} (h : Qf4 list n) : mayP (Qfw list n).1 (Qfw list n).2 /\ ((Qfw list n).1.getD 0 []).length = n := by
 unfold Qfw
 split
 ·
  exact Qwq h
 ·
  exact Qo0 h
theorem Qm2 (list : List Nat) (n : Nat) : (Qfw list n).2.length = Qca list.length := by
 unfold Qfw
 split
 ·
  simp [Qb8]
 ·
  simp [Qeb, Qcz, Qge, Qeo]
theorem Qlp : ∀ g, (Qds [0, 1] (List.replicate g 0)).length = g
 | 0 => rfl
 | g + 1 => by
  rw [List.replicate_succ, Qds]
  have e : Qfk [0, 1] (List.idxOf 0 [0, 1]) = [0, 1] := rfl
  have e2 : List.idxOf 0 [0, 1] = 0 := rfl
  rw [e, e2]
  simp [Qlp g]
theorem Qj0 {T : List (List Nat)} {P : List Nat} {c : Nat} (h : ∀ t ∈ T, ∀ x ∈ t, x <= c) : ∀ (list : List Nat) (i : Nat), (Qf3 T P list i).length <= list.length * c
 | [], i => by simp [Qf3]
 | s :: r, i => by
  have h1 := Qj0 (P := P) h r (i + 1)
  have h2 : (Ql6 (T.getD (P.getD (i / 50) 0) []) s).length <= c := by
   have := Qow (l := T.getD (P.getD (i / 50) 0) []) (c := c) (fun x hx => by
    by_cases ht : P.getD (i / 50) 0 < T.length
    ·
     refine h (T.getD (P.getD (i / 50) 0) []) ?_ x hx
     rw [List.getD_eq_getElem?_getD, List.getElem?_eq_getElem ht];exact List.getElem_mem ht
    ·
     rw [List.getD_eq_getElem?_getD, List.getElem?_eq_none (by omega)] at hx;simp at hx) [s]
   simpa [Qee] using this
  simp only [Qf3, List.length_append, List.length_cons, Nat.succ_mul]
  omega
theorem Qrr {list : List Nat} {n : Nat} (h : Qf4 list n) : Qh1 (Qfw list n) list <= 18 + Qca list.length + 2 * (5 + 3 * n) + list.length * 9 := by
 have h1 : Qh1 (Qfw list n) list <= Qh1 (Qb8 list n) list := by
  unfold Qfw
  split <;> omega
 refine Nat.le_trans h1 ?_
 obtain ⟨a, b⟩ := Qud h
 have hc : (Qfl list n).length = n := by simp [Qfl]
 obtain ⟨h3, h4, h5, h6, h7⟩ := h
 have hfl := Qrq (Qfl list n)
 have hok := (Qwm (w := Qfl list n) (by omega) (by omega)).2.1
 have hp := Qj0 (T := (Qb8 list n).1) (P := (Qb8 list n).2) (c := 9) (fun t ht x hx => by
  have : t = Qfd (Qfl list n) := by simpa [Qb8] using ht
  subst this
  exact (hok x hx).2) list 0
 have hd : (Qcl (Qfd (Qfl list n))).length <= 5 + 3 * n := by
  rw [Qcl, List.length_append, Qaw]
  have := Qlo (k := Qe0 (Qfl list n).length) (Qfd (Qfl list n)) ((Qfd (Qfl list n)).getD 0 0) (hfl _ (by
   generalize Qfd (Qfl list n) = l at *
   cases l with
   | nil => simp at a;omega
   | cons x l => simp)) hfl
  rw [a] at this
  omega
 have hb : (Qbx (Qb8 list n).1 (Qb8 list n).2).length = 18 + Qca list.length + 2 * (Qcl (Qfd (Qfl list n))).length := by
  have e : List.range 2 = [0, 1] := rfl
  simp only [Qbx, Qb8, List.length_append, Qaw, List.length_cons, List.length_nil, Nat.zero_add, Nat.reduceAdd, e, Qlp, List.flatMap_cons, List.flatMap_nil, List.append_nil]
  omega
 unfold Qh1
 omega
end Go.Proofs.YtfphmlhgebpojaaGreat
namespace Go.Eng
open Go
abbrev Env := List (Nat × Value)
def Env.find? : Env -> Nat -> Option Value
 | [], _ => none
 | p :: e, n => if n = p.1 then some p.2 else Env.find? e n
def Env.put (e : Env) (d : Option Tmp) (v : Value) : Env :=
 match d with
 | some t => (t, v) :: e
 | none => e
def Env.keep (ks : List Nat) (e : Env) : Env := e.filter fun p => ks.contains p.1
structure Fits (N : Nat) (e : Env) (a : Act) : Prop where
 size : a.tmps.size = N
 defers : a.defers = []
 at_ : ∀ t v, e.find? t = some v -> a.tmps.getD t undef = v
theorem Env.find?_cons (p : Nat × Value) (e : Env) (n : Nat) : Env.find? (p :: e) n = if n = p.1 then some p.2 else Env.find? e n := rfl
theorem Fits.put {N : Nat} {e : Env} {a : Act} (h : Fits N e a) (d : Option Tmp) (v : Value) (hd : ∀ t, d = some t -> t < N) : Fits N (e.put d v) (a.put d v) := by
 cases d with
 | none => exact h
 | some t =>
  have ht := hd t rfl
  refine ⟨by simp [Act.put, h.size], by simp [Act.put, h.defers], fun s u hs => ?_⟩
  simp only [Env.put, Env.find?_cons] at hs
  simp only [Act.put]
  by_cases hst : s = t
  ·
   subst hst
   simp at hs
   subst hs
   simp [h.size, ht]
  ·
   simp [hst] at hs
   have := h.at_ s u hs
   rw [Array.getD_eq_getD_getElem?] at this ⊢
   rw [Array.getElem?_setIfInBounds]
   rw [if_neg (fun x => hst x.symm)]
   exact this
theorem Fits.weaken {N : Nat} {e e' : Env} {a : Act} (h : Fits N e a) (hs : ∀ t v, e'.find? t = some v -> e.find? t = some v) : Fits N e' a :=
 ⟨h.size, h.defers, fun t v ht => h.at_ t v (hs t v ht)⟩
theorem Env.find?_keep (ks : List Nat) (e : Env) (t : Nat) (v : Value) (h : (e.keep ks).find? t = some v) : e.find? t = some v := by
 induction e with
 | nil => simp [Env.keep, Env.find?] at h
 | cons p e ih =>
  simp only [Env.keep, List.filter_cons] at h
  simp only [Env.find?_cons]
  by_cases hp : ks.contains p.1 = true
  ·
   simp only [hp, if_true, Env.find?_cons] at h
   by_cases ht : t = p.1
   ·
    simp only [ht, if_true] at h ⊢;exact h
   ·
    simp only [ht, if_false] at h ⊢;exact ih h
  ·
   simp only [hp] at h
   have hm := ih (by simpa [Env.keep] using h)
   by_cases ht : t = p.1
   ·
    exfalso
    have key : ∀ (l : Env), (Env.keep ks l).find? t = some v -> ks.contains t = true := by
     intro l
     induction l with
     | nil => intro h0;simp [Env.keep, Env.find?] at h0
     | cons q l ihl =>
      intro h0
      simp only [Env.keep, List.filter_cons] at h0
      by_cases hq : ks.contains q.1 = true
      ·
       simp only [hq, if_true, Env.find?_cons] at h0
       by_cases htq : t = q.1
       ·
        rw [htq];exact hq
       ·
        simp only [htq, if_false] at h0;exact ihl h0
      ·
       simp only [hq] at h0;exact ihl (by simpa [Env.keep] using h0)
    exact hp (ht ▸ key e (by simpa [Env.keep] using h))
   ·
    simp only [ht, if_false];exact hm
theorem Fits.keep {N : Nat} {e : Env} {a : Act} (h : Fits N e a) (ks : List Nat) : Fits N (e.keep ks) a :=
 h.weaken fun t v ht => Env.find?_keep ks e t v ht
inductive It where
 | code (c : Code)
 | blk (id : Nat)
 | again (I : Env -> World -> Prop)
structure Ctx where
 P : Program
 fn : Func
 F : Value -> World -> Prop
 N : Nat
def Qrs (F : Value -> World -> Prop) (e : Ending) (w' : World) : Prop := ∃ v w n, e = .returned v /\ w' = w.drewN n /\ F v w
def Does (P : Program) (f : FuncId) (args : Array Value) (w : World) (F : Value -> World -> Prop) : Prop :=
 ∀ n, Calls P f args (w.drewN n) (Qrs F)
theorem Does.mono {P : Program} {f : FuncId} {args : Array Value} {w : World} {F G : Value -> World -> Prop} (h : Does P f args w F) (hg : ∀ v w', F v w' -> G v w') : Does P f args w G :=
 fun n => (h n).mono fun _ _ ⟨v, w', m, he, hw, hF⟩ => ⟨v, w', m, he, hw, hg v w' hF⟩
theorem QJm (w : World) : w.drewN 0 = w := rfl
def cont (C : Ctx) : List It -> Exit -> Act -> World -> Prop
 | [], ex, a, w => bodyPost C.P C.fn (Qrs C.F) ex a w
 | .code c :: k, ex, a, w => match ex with
  | .normal => c.wp C.P (fun ex a w => cont C k ex a w) a w
  | ex => cont C k ex a w
 | .blk id :: k, ex, a, w => match ex with
  | .exit id' => if id' = id then cont C k .normal a w else cont C k (.exit id') a w
  | ex => cont C k ex a w
 | .again I :: k, ex, a, w => match ex with
  | .normal => ∃ e w0 n, w = w0.drewN n /\ Fits C.N e a /\ I e w0
  | ex => cont C k ex a w
def VC (C : Ctx) (k : List It) (e : Env) (w : World) : Prop := ∀ a n, Fits C.N e a -> cont C k .normal a (w.drewN n)
def VX (C : Ctx) (k : List It) (ex : Exit) (e : Env) (w : World) : Prop := ∀ a n, Fits C.N e a -> cont C k ex a (w.drewN n)
section
variable {C : Ctx} {k : List It} {e : Env} {w : World}
theorem Qai {x y : Code} (h : VC C (.code x :: .code y :: k) e w) : VC C (.code (.seq x y) :: k) e w := by
 intro a n ha
 have h1 := h a n ha
 simp only [cont] at h1 ⊢
 refine wp_seq (wp_mono h1 fun ex a w hq => ?_)
 cases ex <;> exact hq
theorem Qad {id : Nat} {c : Code} (h : VC C (.code c :: .blk id :: k) e w) : VC C (.code (.block id c) :: k) e w := by
 intro a n ha
 have h1 := h a n ha
 simp only [cont] at h1 ⊢
 refine wp_block (wp_mono h1 fun ex a w hq => ?_)
 cases ex <;> exact hq
theorem Qav {id : Nat} (h : VC C k e w) : VC C (.blk id :: k) e w := fun a n ha => h a n ha
theorem Qaf (h : VC C k e w) : VC C (.code .skip :: k) e w := fun a n ha => wp_skip (h a n ha)
theorem Qpz {l : Nat} (h : VC C k e w) : VC C (.code (.label l) :: k) e w := fun a n ha => wp_label (h a n ha)
theorem Qah {I : Env -> World -> Prop} (h : I e w) : VC C (.again I :: k) e w := fun _ n ha => ⟨e, w, n, rfl, ha, h⟩
def Qn7 (id : Nat) : List It -> Option (List It)
 | [] => none
 | .blk id' :: k => if id = id' then some k else Qn7 id k
 | .code _ :: k => Qn7 id k
 | .again _ :: k => Qn7 id k
theorem Qxs {id : Nat} {k k' : List It} (hp : Qn7 id k = some k') {a : Act} (h : cont C k' .normal a w) : cont C k (.exit id) a w := by
 induction k with
 | nil => simp [Qn7] at hp
 | cons x k ih =>
  cases x with
  | code c => exact ih (by simpa [Qn7] using hp)
  | again I => exact ih (by simpa [Qn7] using hp)
  | blk id' =>
   simp only [cont]
   by_cases hid : id = id'
   ·
    simp only [Qn7, hid, if_true] at hp
    cases hp
    simp only [hid, if_true];exact h
   ·
    simp only [Qn7, hid, if_false] at hp
    simp only [hid, if_false];exact ih hp
theorem Qap {id : Nat} {k' : List It} (hp : Qn7 id k = some k') (h : VC C k' e w) : VC C (.code (.exit id) :: k) e w :=
 fun a n ha => wp_exit (Qxs hp (h a n ha))
theorem QC6 {k : List It} {a : Act} (h : bodyPost C.P C.fn (Qrs C.F) .ret a w) : cont C k .ret a w := by
 induction k with
 | nil => exact h
 | cons x k ih => cases x <;> exact ih
theorem Qan (h : VX C [] .ret e w) : VC C (.code .ret :: k) e w := fun a n ha => wp_ret (QC6 (h a n ha))
theorem Qo1 (h : VX C [] .ret e w) : VC C [] e w := fun a n ha => h a n ha
theorem Qf5 (hr : C.fn.results = #[]) (h : C.F (.tuple #[]) w) : VX C [] .ret e w :=
 fun _ n ha => ⟨ha.defers, _, results_none hr _ _ _, _, w, n, rfl, rfl, h⟩
theorem Qax {t : Tmp} {v : Value} (hr : C.fn.results = #[.tmp t]) (hv : e.find? t = some v) (h : C.F v w) : VX C [] .ret e w :=
 fun _ n ha => ⟨ha.defers, _, results_tmp hr _ _ _, _, w, n, rfl, rfl, by rw [ha.at_ t v hv];exact h⟩
theorem Qa9 {t u : Tmp} {v x : Value} (hr : C.fn.results = #[.tmp t, .tmp u]) (hv : e.find? t = some v) (hx : e.find? u = some x) (h : C.F (.tuple #[v, x]) w) : VX C [] .ret e w :=
 fun _ n ha => ⟨ha.defers, _, results_tmp2 hr _ _ _, _, w, n, rfl, rfl, by rw [ha.at_ t v hv, ha.at_ u x hx];exact h⟩
theorem Qp0 {fn : Func} {t u s : Tmp} (h : fn.results = #[.tmp t, .tmp u, .tmp s]) (tmps : Array Value) (P : Program) (w : World) :
  (results fn tmps).run P w = .ok (.tuple #[tmps.getD t undef, tmps.getD u undef, tmps.getD s undef]) w := by
 simp [results, h]
theorem Qdy {t u s : Tmp} {v x y : Value} (hr : C.fn.results = #[.tmp t, .tmp u, .tmp s]) (hv : e.find? t = some v) (hx : e.find? u = some x) (hy : e.find? s = some y)
  (h : C.F (.tuple #[v, x, y]) w) : VX C [] .ret e w :=
 fun _ n ha => ⟨ha.defers, _, Qp0 hr _ _ _, _, w, n, rfl, rfl, by rw [ha.at_ t v hv, ha.at_ u x hx, ha.at_ s y hy];exact h⟩
theorem Qp1 {fn : Func} {t u s r : Tmp} (h : fn.results = #[.tmp t, .tmp u, .tmp s, .tmp r]) (tmps : Array Value) (P : Program) (w : World) :
  (results fn tmps).run P w = .ok (.tuple #[tmps.getD t undef, tmps.getD u undef, tmps.getD s undef, tmps.getD r undef]) w := by
 simp [results, h]
theorem Qh3 {t u s r : Tmp} {v x y z : Value} (hr : C.fn.results = #[.tmp t, .tmp u, .tmp s, .tmp r]) (hv : e.find? t = some v) (hx : e.find? u = some x) (hy : e.find? s = some y) (hz : e.find? r = some z)
  (h : C.F (.tuple #[v, x, y, z]) w) : VX C [] .ret e w :=
 fun _ n ha => ⟨ha.defers, _, Qp1 hr _ _ _, _, w, n, rfl, rfl, by rw [ha.at_ t v hv, ha.at_ u x hx, ha.at_ s y hy, ha.at_ r z hz];exact h⟩
theorem Qab {c : Operand} {t : Tmp} {b : Bool} {x y : Code} (hc : c = .tmp t) (hv : e.find? t = some (.bool b))
  (ht : b = true -> VC C (.code x :: k) e w) (hf : b = false -> VC C (.code y :: k) e w) : VC C (.code (.cond c x y) :: k) e w := by
 intro a n ha
 subst hc
 exact wp_cond_split (t := b) (ha.at_ t _ hv) (fun h => ht h a n ha) (fun h => hf h a n ha)
end
theorem Que {P : Program} {Q : Exit -> Act -> World -> Prop} {a : Act} {w : World} {c : Code} (I : Nat -> Act -> World -> Prop) (n : Nat) (h₀ : I n a w)
  (round : ∀ n a w, I n a w -> c.wp P (Exit.then (fun a' w' => ∃ m, m < n /\ I m a' w') Q) a w) : (Code.loop c).wp P Q a w := by
 intro b k cs
 have key : ∀ n a w, I n a w ->
   ∃ e a' w', Q e a' w' /\ Arrives P (lone (b.at a (.code c :: .inLoop c :: k)) cs w) b k cs e a' w' := by
  intro n
  induction n using Nat.strongRecOn with
  | _ n ih =>
   intro a w hI
   obtain ⟨e, a₁, w₁, hq, harr⟩ := round n a w hI b (.inLoop c :: k) cs
   cases e with
   | normal =>
    obtain ⟨m, hlt, hI₁⟩ := hq
    obtain ⟨e₂, a₂, w₂, hq₂, harr₂⟩ := ih m hlt a₁ w₁ hI₁
    exact ⟨e₂, a₂, w₂, hq₂, .of_steps (Steps.trans harr (.one step_inLoop)) harr₂⟩
   | exit id => exact ⟨_, a₁, w₁, hq, .pass (x := .inLoop c) rfl (fun _ _ => .inl (by simp)) harr⟩
   | goto l => exact ⟨_, a₁, w₁, hq, .pass (x := .inLoop c) rfl (fun _ _ => .inl (by simp)) harr⟩
   | ret => exact ⟨_, a₁, w₁, hq, .pass (x := .inLoop c) rfl (fun _ _ => .inl (by simp)) harr⟩
   | panic ch => exact ⟨_, a₁, w₁, hq, .pass (x := .inLoop c) rfl (fun _ _ => .inl (by simp)) harr⟩
   | outgrown => exact ⟨_, a₁, w₁, hq, .pass (x := .inLoop c) rfl (fun _ _ => .inl (by simp)) harr⟩
 obtain ⟨e, a', w', hq, harr⟩ := key n a w h₀
 exact ⟨e, a', w', hq, .of_steps (.one step_loop) harr⟩
theorem QFv {C : Ctx} {k : List It} {e : Env} {w : World} {body : Code} (I : Nat -> Env -> World -> Prop) (n : Nat) (h0 : I n e w)
  (round : ∀ n e w, I n e w -> VC C (.code body :: .again (fun e' w' => ∃ m, m < n /\ I m e' w') :: k) e w) : VC C (.code (.loop body) :: k) e w := by
 intro a d ha
 refine Que (fun n a w => ∃ e w0 d, w = w0.drewN d /\ Fits C.N e a /\ I n e w0) n ⟨e, w, d, rfl, ha, h0⟩ ?_
 rintro n a w ⟨e, w0, d, rfl, ha, hI⟩
 have h1 := round n e w0 hI a d ha
 simp only [cont] at h1
 refine wp_mono h1 fun ex a w hq => ?_
 cases ex with
 | normal => obtain ⟨e', w1, d', hw, hf, m, hm, hI'⟩ := hq;exact ⟨m, hm, e', w1, d', hw, hf, hI'⟩
 | _ => exact hq
theorem Qxt {P : Program} {f : FuncId} {fn : Func} {c : Code} {args : Array Value} {w : World} {F : Value -> World -> Prop} (N : Nat) (e : Env)
  (hf : P.funcs[f]? = some fn) (hb : fn.body = some c) (hN : args.size + (fn.ntmps - args.size) = N)
  (he : ∀ t v, e.find? t = some v -> args[t]? = some v)
  (h : VC ⟨P, fn, F, N⟩ [.code c] e w) : Does P f args w F := by
 intro n
 refine calls_of_wp hf hb ?_
 refine wp_mono (h { tmps := args ++ Array.replicate (fn.ntmps - args.size) undef, defers := [] } n ⟨by simpa using hN, rfl, fun t v ht => ?_⟩) fun ex a w hq => hq
 have := he t v ht
 rw [Array.getD_eq_getD_getElem?, Array.getElem?_append]
 have hlt : t < args.size := by
  rcases Nat.lt_or_ge t args.size with h | h
  ·
   exact h
  ·
   simp [Array.getElem?_eq_none h] at this
 simp [hlt] at this ⊢
 exact this
def Env.ofArgs : Nat -> List Value -> Env
 | _, [] => []
 | n, v :: vs => (n, v) :: Env.ofArgs (n + 1) vs
theorem Env.find?_ofArgs (vs : List Value) : ∀ (n t : Nat) (v : Value), (Env.ofArgs n vs).find? t = some v -> n <= t /\ vs[t - n]? = some v := by
 induction vs with
 | nil => intro n t v h;simp [Env.ofArgs, Env.find?] at h
 | cons x vs ih =>
  intro n t v h
  simp only [Env.ofArgs, Env.find?_cons] at h
  split at h
  ·
   rename_i ht;subst ht;simp at h;subst h;simp
  ·
   rename_i ht
   obtain ⟨h1, h2⟩ := ih (n + 1) t v h
   refine ⟨by omega, ?_⟩
   rw [show t - n = (t - (n + 1)) + 1 by omega]
   simpa using h2
theorem Qak {P : Program} {f : FuncId} {fn : Func} {c : Code} {args : List Value} {w : World} {F : Value -> World -> Prop} (N : Nat)
  (hf : P.funcs[f]? = some fn) (hb : fn.body = some c) (hN : fn.ntmps = N) (hle : args.length <= N)
  (h : VC ⟨P, fn, F, N⟩ [.code c] (Env.ofArgs 0 args) w) : Does P f args.toArray w F :=
 Qxt N _ hf hb (by simp [hN];omega) (fun t v ht => by have := Env.find?_ofArgs args 0 t v ht;simpa using this.2) h
structure Ext (w w' : World) : Prop where
 block : ∀ (k : Nat) (o : Obj), w.heap[k]? = some o -> (∃ T fz, o = Obj.cells #[] T fz) ∨ w'.heap[k]? = some o
theorem Ext.refl (w : World) : Ext w w := ⟨fun _ _ h => .inr h⟩
theorem Ext.trans {a b c : World} (h : Ext a b) (k : Ext b c) : Ext a c := ⟨fun i o hi => (h.block i o hi).elim .inl fun h1 => k.block i o h1⟩
theorem Ext.drewN (w : World) (n : Nat) : Ext w (w.drewN n) := ⟨fun _ _ h => .inr h⟩
theorem Ext.of_keep {w w' : World} (h : ∀ k : Nat, k < w.heap.size -> w'.heap[k]? = w.heap[k]?) : Ext w w' :=
 ⟨fun k o hk => .inr (by rw [h k (Array.getElem?_eq_some_iff.1 hk).1];exact hk)⟩
theorem Ext.cell {w w' : World} (h : Ext w w') {a : Addr} {v : Value} (hc : w.cell? a = some v) : w'.cell? a = some v := by
 unfold World.cell? at hc ⊢
 cases ho : w.heap[a.block]? with
 | none => simp [ho] at hc
 | some o =>
  rcases h.block _ o ho with ⟨T, fz, rfl⟩ | h1
  ·
   simp [ho] at hc
  ·
   rw [h1];rw [ho] at hc;exact hc
def holes (B : List Nat) (w : World) : World := { w with heap := w.heap.mapIdx fun k o => if k ∈ B then Obj.cells #[] 0 else o }
theorem Ext.holes {B : List Nat} {w w' : World} (h : ∀ k : Nat, k < w.heap.size -> k ∉ B -> w'.heap[k]? = w.heap[k]?) : Ext (holes B w) w' := by
 refine ⟨fun k o hk => ?_⟩
 simp only [Eng.holes, Array.getElem?_mapIdx] at hk
 cases ho : w.heap[k]? with
 | none => simp [ho] at hk
 | some o' =>
  simp only [ho, Option.map_some, Option.some.injEq] at hk
  by_cases hB : k ∈ B
  ·
   rw [if_pos hB] at hk;exact .inl ⟨0, (0, 0), hk.symm⟩
  ·
   rw [if_neg hB] at hk;subst hk
   exact .inr (by rw [h k (Array.getElem?_eq_some_iff.1 ho).1 hB];exact ho)
theorem Qo2 {B : List Nat} {w : World} {a : Addr} {v : Value} (hc : w.cell? a = some v) (hB : a.block ∉ B) : (holes B w).cell? a = some v := by
 unfold World.cell? at hc ⊢
 simp only [Eng.holes, Array.getElem?_mapIdx]
 cases ho : w.heap[a.block]? with
 | none => simp [ho] at hc
 | some o => simp only [Option.map_some, if_neg hB];rw [ho] at hc;exact hc
theorem Ext.hole (B : List Nat) (w : World) : Ext (Eng.holes B w) w := Ext.holes fun _ _ _ => rfl
abbrev Str (l : List UInt8) : Value := .string ⟨l.toArray⟩
abbrev toL (s : ByteArray) : List UInt8 := s.data.toList
abbrev I64 (n : Int) : Prop := -9223372036854775808 <= n /\ n <= 9223372036854775807
theorem I64.mk {n : Int} (h : -9223372036854775808 <= n) (h' : n <= 9223372036854775807) : I64 n := ⟨h, h'⟩
def Qdz : IntKind -> Int -> (Value -> Prop) -> Prop
 | .i64, n, K => I64 n /\ K (.int .i64 n)
 | .u8, n, K => K (.int .u8 (n % 256))
 | .u16, n, K => K (.int .u16 (n % 65536))
 | .u32, n, K => K (.int .u32 (n % 4294967296))
 | .u64, n, K => K (.int .u64 (n % 18446744073709551616))
 | k, n, K => K (.int k (k.wrap n))
theorem Qfe {n : Int} (h : I64 n) : IntKind.i64.wrap n = n := by
 obtain ⟨h1, h2⟩ := h
 simp only [IntKind.wrap, IntKind.bits, IntKind.signed]
 simp
 split <;> omega
theorem Qz7 (n : Int) : IntKind.u8.wrap n = n % 256 := by simp [IntKind.wrap, IntKind.bits, IntKind.signed]
theorem QC7 (n : Int) : IntKind.u16.wrap n = n % 65536 := by simp [IntKind.wrap, IntKind.bits, IntKind.signed]
theorem Qws (n : Int) : IntKind.u32.wrap n = n % 4294967296 := by simp [IntKind.wrap, IntKind.bits, IntKind.signed]
theorem Qwt (n : Int) : IntKind.u64.wrap n = n % 18446744073709551616 := by simp [IntKind.wrap, IntKind.bits, IntKind.signed]
theorem Qei {k : IntKind} {n : Int} {K : Value -> Prop} (h : Qdz k n K) : K (.int k (k.wrap n)) := by
 cases k <;> simp only [Qdz] at h
 case i64 => rw [Qfe h.1];exact h.2
 case u8 => rw [Qz7];exact h
 case u16 => rw [QC7];exact h
 case u32 => rw [Qws];exact h
 case u64 => rw [Qwt];exact h
 all_goals exact h
def Fit0 : IntKind -> Int -> Prop
 | .i64, n => 0 <= n /\ n <= 9223372036854775807
 | .u8, n => 0 <= n /\ n <= 255
 | .u16, n => 0 <= n /\ n <= 65535
 | .u32, n => 0 <= n /\ n <= 4294967295
 | .u64, n => 0 <= n /\ n <= 18446744073709551615
 | _, _ => False
def Qh4 : IntKind -> Nat
 | .i64 => 63
 | .u8 => 8
 | .u16 => 16
 | .u32 => 32
 | .u64 => 64
 | _ => 0
theorem Fit0.spec {k : IntKind} {n : Int} (h : Fit0 k n) : 0 <= n /\ n.toNat < 2 ^ Qh4 k /\ Qh4 k <= k.bits /\ (k.signed = true -> Qh4 k < k.bits) := by
 cases k <;> simp [Fit0, Qh4, IntKind.bits, IntKind.signed] at h ⊢ <;> omega
theorem Qkx {k : IntKind} {r : Nat} (hw : Qh4 k <= k.bits) (hs : k.signed = true -> Qh4 k < k.bits) (hr : r < 2 ^ Qh4 k) : k.wrap (r : Int) = r := by
 cases k <;> simp only [Qh4, IntKind.bits, IntKind.signed] at * <;> simp [IntKind.wrap, IntKind.bits, IntKind.signed] at hs hr ⊢ <;> omega
theorem toNat_ofInt {n : Nat} {a : Int} (h : 0 <= a) (h2 : a.toNat < 2 ^ n) : (BitVec.ofInt n a).toNat = a.toNat := by
 obtain ⟨m, rfl⟩ := Int.eq_ofNat_of_zero_le h
 simp only [BitVec.toNat_ofInt]
 simp at h2
 rw [Int.emod_eq_of_lt (by omega) (by exact_mod_cast h2)]
def vBit (op : BinOp) (k : IntKind) (a b : Int) (K : Value -> Prop) : Prop :=
 Fit0 k a /\ Fit0 k b /\ match op with
  | .and => K (.int k ((a.toNat &&& b.toNat : Nat) : Int))
  | .or => K (.int k ((a.toNat ||| b.toNat : Nat) : Int))
  | .xor => K (.int k ((a.toNat ^^^ b.toNat : Nat) : Int))
  | _ => False
theorem Qp2 {P : Program} {op : BinOp} {k : IntKind} {a b : Int} {K : Value -> Prop} (h : vBit op k a b K) : ∃ v, K v /\ ∀ w, (Op.intBits op k a b).run P w = .ok v w := by
 obtain ⟨ha, hb, h⟩ := h
 obtain ⟨ha0, ha1, hw, hs⟩ := ha.spec
 obtain ⟨hb0, hb1, _, _⟩ := hb.spec
 have ha2 : a.toNat < 2 ^ k.bits := Nat.lt_of_lt_of_le ha1 (Nat.pow_le_pow_right (by omega) hw)
 have hb2 : b.toNat < 2 ^ k.bits := Nat.lt_of_lt_of_le hb1 (Nat.pow_le_pow_right (by omega) hw)
 cases op <;> simp only at h <;> try exact h.elim
 ·
  refine ⟨_, h, fun w => ?_⟩
  simp only [Op.intBits, Sem.run_pure, BitVec.toNat_and, toNat_ofInt ha0 ha2, toNat_ofInt hb0 hb2]
  rw [Qkx hw hs (Nat.and_lt_two_pow _ hb1)]
 ·
  refine ⟨_, h, fun w => ?_⟩
  simp only [Op.intBits, Sem.run_pure, BitVec.toNat_or, toNat_ofInt ha0 ha2, toNat_ofInt hb0 hb2]
  rw [Qkx hw hs (Nat.or_lt_two_pow ha1 hb1)]
 ·
  refine ⟨_, h, fun w => ?_⟩
  simp only [Op.intBits, Sem.run_pure, BitVec.toNat_xor, toNat_ofInt ha0 ha2, toNat_ofInt hb0 hb2]
  rw [Qkx hw hs (Nat.xor_lt_two_pow ha1 hb1)]
def shN (k : IntKind) (y : Int) : Nat := min y.toNat k.bits
def vInt (op : BinOp) (k : IntKind) (a b : Int) (K : Value -> Prop) : Prop :=
 match op with
 | .add => Qdz k (a + b) K
 | .sub => Qdz k (a - b) K
 | .mul => Qdz k (a * b) K
 | .quo => 0 <= a /\ 0 < b /\ Qdz k (a / b) K
 | .rem => 0 <= a /\ 0 < b /\ K (.int k (a % b))
 | .and => vBit .and k a b K
 | .or => vBit .or k a b K
 | .xor => vBit .xor k a b K
 | .eql => K (.bool (decide (a = b)))
 | .neq => K (.bool (decide (¬ a = b)))
 | .lss => K (.bool (decide (a < b)))
 | .leq => K (.bool (decide (a <= b)))
 | .gtr => K (.bool (decide (b < a)))
 | .geq => K (.bool (decide (b <= a)))
 | _ => False
def EqV (P : Program) (op : BinOp) (T : TypeId) (x y : Value) (w : World) (K : Value -> Prop) : Prop :=
 ∃ b : Bool, K (.bool b) /\ ∀ w', Ext w w' -> (binOp op T x y).run P w' = .ok (.bool b) w'
def vStr (op : BinOp) (s t : ByteArray) (K : Value -> Prop) : Prop :=
 match op with
 | .add => ((toL s).length + (toL t).length : Int) <= 9223372036854775807 /\ K (Str (toL s ++ toL t))
 | .eql => K (.bool (decide (toL s = toL t)))
 | .neq => K (.bool (decide (¬ toL s = toL t)))
 | .lss => K (.bool (Op.bytesLess (toL s) (toL t)))
 | .leq => K (.bool (!Op.bytesLess (toL t) (toL s)))
 | .gtr => K (.bool (Op.bytesLess (toL t) (toL s)))
 | .geq => K (.bool (!Op.bytesLess (toL s) (toL t)))
 | _ => False
def vBin (P : Program) (op : BinOp) (T : TypeId) (x y : Value) (w : World) (K : Value -> Prop) : Prop :=
 match x, y with
 | .int k a, .int k' b => match op with
  | .shl => 0 <= b /\ Qdz k (a * 2 ^ shN k b) K
  | .shr => 0 <= b /\ K (.int k (a / 2 ^ shN k b))
  | op => k = k' /\ vInt op k a b K
 | .string s, .string t => vStr op s t K
 | .bool a, .bool b => match P.underlying T with
  | some .bool => match op with
   | .eql => K (.bool (decide (a = b)))
   | .neq => K (.bool (decide (¬ a = b)))
   | _ => False
  | _ => False
 | x, y => match op with
  | .eql => EqV P .eql T x y w K
  | .neq => EqV P .neq T x y w K
  | _ => False
theorem QFw {a b : Int} (ha : 0 <= a) : a.tdiv b = a / b := by rw [Int.tdiv_eq_ediv_of_nonneg ha]
theorem beqD {α : Type} [DecidableEq α] [BEq α] [LawfulBEq α] (a b : α) : (a == b) = decide (a = b) := by by_cases h : a = b <;> simp [h]
theorem QC8 {P : Program} {op : BinOp} {k : IntKind} {a b : Int} {K : Value -> Prop} (h : vInt op k a b K) {T : TypeId} : ∃ v, K v /\ ∀ w, (binOp op T (.int k a) (.int k b)).run P w = .ok v w := by
 cases op <;> simp only [vInt] at h <;> try exact h.elim
 case add => exact ⟨_, Qei h, fun w => by simp [binOp, Op.intArith]⟩
 case sub => exact ⟨_, Qei h, fun w => by simp [binOp, Op.intArith]⟩
 case mul => exact ⟨_, Qei h, fun w => by simp [binOp, Op.intArith]⟩
 case quo => exact ⟨_, Qei h.2.2, fun w => by simp [binOp, Op.intDiv, QFw h.1, show b ≠ 0 by omega]⟩
 case rem => exact ⟨_, h.2.2, fun w => by simp [binOp, Op.intDiv, Int.tmod_eq_emod_of_nonneg h.1, show b ≠ 0 by omega]⟩
 case and => obtain ⟨v, hv, hr⟩ := Qp2 (P := P) h;exact ⟨v, hv, fun w => by simp [binOp, hr]⟩
 case or => obtain ⟨v, hv, hr⟩ := Qp2 (P := P) h;exact ⟨v, hv, fun w => by simp [binOp, hr]⟩
 case xor => obtain ⟨v, hv, hr⟩ := Qp2 (P := P) h;exact ⟨v, hv, fun w => by simp [binOp, hr]⟩
 all_goals
  refine ⟨_, h, fun w => ?_⟩
  simp [binOp, Op.intCmp]
 ·
  exact beqD _ _
 ·
  rw [bne, beqD]
theorem Qf6 (x y : List UInt8) : (Op.bytesLess x y || x == y) = !Op.bytesLess y x := by
 induction x generalizing y with
 | nil => cases y <;> simp [Op.bytesLess]
 | cons a x ih =>
  cases y with
  | nil => simp [Op.bytesLess]
  | cons b y =>
   have := ih y
   simp only [Op.bytesLess]
   by_cases h1 : a < b
   ·
    have h2 : ¬ b < a := by
     intro h;exact absurd (UInt8.lt_iff_toNat_lt.1 h) (by have := UInt8.lt_iff_toNat_lt.1 h1;omega)
    have h3 : ¬ b = a := by rintro rfl;exact absurd (UInt8.lt_iff_toNat_lt.1 h1) (by omega)
    simp [h1, h2, h3]
   ·
    by_cases h3 : a = b
    ·
     subst h3
     simp [h1, this]
    ·
     have h2 : b < a := by
      rw [UInt8.lt_iff_toNat_lt] at h1 ⊢
      have : a.toNat ≠ b.toNat := fun h => h3 (UInt8.toNat_inj.1 h)
      omega
     simp [h1, h2, h3]
theorem Qep (s : ByteArray) : s.toList = s.data.toList := ByteArray.toList_eq s
theorem QC9 {P : Program} {op : BinOp} {s t : ByteArray} {K : Value -> Prop} (h : vStr op s t K) {T : TypeId} : ∃ v, K v /\ ∀ w, (binOp op T (.string s) (.string t)).run P w = .ok v w := by
 cases op <;> simp only [vStr] at h <;> try exact h.elim
 case add =>
  refine ⟨_, h.2, fun w => ?_⟩
  have hs : ¬ ((s.size + t.size : Nat) : Int) > IntKind.i64.max := by
   have h1 := h.1
   have e1 : s.size = (toL s).length := rfl
   have e2 : t.size = (toL t).length := rfl
   rw [e1, e2]
   have e3 : IntKind.i64.max = 9223372036854775807 := by decide
   rw [e3];omega
  have e : s ++ t = ⟨(toL s ++ toL t).toArray⟩ := by
   apply ByteArray.ext
   show (s ++ t).data = (s.data.toList ++ t.data.toList).toArray
   rw [ByteArray.data_append]
   exact Array.ext' (by simp)
  simp only [binOp, Op.stringOp, if_neg hs, Sem.run_pure, e]
 case lss => exact ⟨_, h, fun w => by simp [binOp, Op.stringOp, Qep, toL]⟩
 case leq =>
  refine ⟨_, h, fun w => ?_⟩
  have := Qf6 s.data.toList t.data.toList
  simp only [binOp, Op.stringOp, Qep, toL, this, Sem.run_pure]
 case gtr =>
  refine ⟨_, h, fun w => ?_⟩
  have := Qf6 s.data.toList t.data.toList
  simp only [binOp, Op.stringOp, Qep, toL, this, Sem.run_pure, Bool.not_not]
 case geq => exact ⟨_, h, fun w => by simp [binOp, Op.stringOp, Qep, toL]⟩
 case eql =>
  refine ⟨_, h, fun w => ?_⟩
  simp only [binOp, Op.stringOp, Qep, Sem.run_pure, toL]
  rw [beqD]
 case neq =>
  refine ⟨_, h, fun w => ?_⟩
  simp only [binOp, Op.stringOp, Qep, Sem.run_pure, toL]
  rw [beqD];simp
theorem Qky {P : Program} {T : TypeId} (hu : P.underlying T = some .bool) (d : Nat) (a b : Bool) (w : World) : (Op.equalIn (d + 1) T (.bool a) (.bool b)).run P w = .ok (decide (a = b)) w := by
 unfold Op.equalIn
 simp only [Sem.run_bind, run_underlying hu, Result.andThen_ok, Sem.run_pure, beqD]
theorem Qh5 {P : Program} {T : TypeId} (hu : P.underlying T = some .bool) (a b : Bool) (w : World) : (Op.equal T (.bool a) (.bool b)).run P w = .ok (decide (a = b)) w :=
 Qky hu 9999 a b w
theorem Qg8 {P : Program} {op : BinOp} {T : TypeId} {x y : Operand} {a b : Value} (h : (∀ c, a ≠ .agg c) /\ a ≠ .nilIface) (w : World) : (eqGuard op T x y a b).run P w = .ok () w := by
 unfold eqGuard
 cases op <;> simp <;> (split <;> simp_all)
theorem Qp3 {P : Program} {op : BinOp} {T : TypeId} {x y : Value} {w : World} {K : Value -> Prop} (h : vBin P op T x y w K) : ∃ v, K v /\ ∀ w', Ext w w' -> (binOp op T x y).run P w' = .ok v w' := by
 unfold vBin at h
 split at h
 ·
  rename_i k a k' b
  cases op
  case shl =>
   refine ⟨_, Qei h.2, fun w' _ => ?_⟩
   simp [binOp, Op.shift, show ¬ b < 0 by omega, shN]
  case shr =>
   refine ⟨_, h.2, fun w' _ => ?_⟩
   simp only [binOp, Op.shift, show ¬ b < 0 by omega, shN, if_false, Sem.run_pure]
   rw [Int.fdiv_eq_ediv_of_nonneg]
   exact Int.pow_nonneg (by omega)
  all_goals
   obtain ⟨rfl, h⟩ := h
   obtain ⟨v, hv, hr⟩ := QC8 (P := P) (T := T) h
   exact ⟨v, hv, fun w' _ => hr w'⟩
 ·
  obtain ⟨v, hv, hr⟩ := QC9 (P := P) (T := T) h
  exact ⟨v, hv, fun w' _ => hr w'⟩
 ·
  rename_i a b
  split at h
  ·
   rename_i hu
   split at h
   ·
    refine ⟨_, h, fun w' _ => ?_⟩
    have he := fun w => Qh5 (P := P) hu a b w
    simp only [binOp, Sem.run_bind, he, Result.andThen_ok, Sem.run_pure]
   ·
    refine ⟨_, h, fun w' _ => ?_⟩
    have he := fun w => Qh5 (P := P) hu a b w
    simp only [binOp, Sem.run_bind, he, Result.andThen_ok, Sem.run_pure, decide_not]
   ·
    exact h.elim
  ·
   exact h.elim
 ·
  split at h
  ·
   obtain ⟨b, hb, hr⟩ := h;exact ⟨_, hb, hr⟩
  ·
   obtain ⟨b, hb, hr⟩ := h;exact ⟨_, hb, hr⟩
  ·
   exact h.elim
def argT : Env -> Nat -> (Value -> Prop) -> Prop
 | [], _, _ => False
 | p :: e, n, K => if n = p.1 then K p.2 else argT e n K
def arg (e : Env) (x : Operand) (K : Value -> Prop) : Prop :=
 match x with
 | .tmp t => argT e t K
 | .const v => K v
 | .global g => K (.pointer (some ⟨g, 0, none⟩))
 | .func f => K (.func (.func f) #[] #[])
def argL (e : Env) : List Operand -> (List Value -> Prop) -> Prop
 | [], K => K []
 | x :: xs, K => arg e x fun v => argL e xs fun vs => K (v :: vs)
theorem Qm3 {e : Env} {n : Nat} {K : Value -> Prop} (h : argT e n K) : ∃ v, e.find? n = some v /\ K v := by
 induction e with
 | nil => exact h.elim
 | cons p e ih =>
  simp only [argT, Env.find?_cons] at h ⊢
  split
  ·
   rename_i hn;rw [if_pos hn] at h;exact ⟨_, rfl, h⟩
  ·
   rename_i hn;rw [if_neg hn] at h;exact ih h
theorem Qa7 {N : Nat} {e : Env} {a : Act} {x : Operand} {K : Value -> Prop} (ha : Fits N e a) (h : arg e x K) : K (a.eval x) := by
 cases x with
 | tmp t => obtain ⟨v, hv, hK⟩ := Qm3 h;show K (a.tmps.getD t undef);rw [ha.at_ t v hv];exact hK
 | const v => exact h
 | global g => exact h
 | func f => exact h
theorem Qcp {N : Nat} {e : Env} {a : Act} (ha : Fits N e a) {xs : List Operand} : ∀ {K : List Value -> Prop}, argL e xs K -> K (xs.map a.eval) := by
 induction xs with
 | nil => intro K h;exact h
 | cons x xs ih => intro K h;exact ih (Qa7 ha h)
end Go.Eng
namespace Go
def Program.szo (P : Program) (T : TypeId) : Option Nat := (P.info? T).map (·.size)
end Go
namespace Go.Eng
open Go
theorem Qd0 {P : Program} {T : TypeId} {n : Nat} (h : P.szo T = some n) (w : World) : (sizeOf T).run P w = .ok n w := by
 unfold Program.szo at h
 cases hi : P.info? T with
 | none => simp [hi] at h
 | some i =>
  simp [hi] at h
  simp [sizeOf, typeInfo, hi, h]
def Reads (w : World) (a : Addr) (xs : List Value) : Prop := ∀ j u, xs[j]? = some u -> w.cell? (a.add j) = some u
theorem Reads.ext {w w' : World} {a : Addr} {xs : List Value} (h : Reads w a xs) (hh : Ext w w') : Reads w' a xs := fun j u hu => hh.cell (h j u hu)
theorem Reads.heap {w w' : World} {a : Addr} {xs : List Value} (h : Reads w a xs) (hh : w'.heap = w.heap) : Reads w' a xs := by
 intro j u hu
 have := h j u hu
 simpa [World.cell?, hh] using this
def Qrt (P : Program) (T : TypeId) (cs : Array Value) (off : Nat) (K : Value -> Prop) : Prop :=
 match P.underlying T with
 | some (.struct _) | some (.array _ _) => match P.szo T with
  | some n => K (.agg (cs.extract off (off + n)))
  | none => False
 | some _ => match cs[off]? with
  | some v => K v
  | none => False
 | none => False
theorem Qru {P : Program} {T : TypeId} {cs : Array Value} {off : Nat} {K : Value -> Prop} (h : Qrt P T cs off K) : ∃ v, K v /\ ∀ w, (part T cs off).run P w = .ok v w := by
 unfold Qrt at h
 split at h
 ·
  rename_i hu
  split at h
  ·
   rename_i n hn
   exact ⟨_, h, fun w => by simp [part, isAgg, run_underlying hu, Qd0 hn]⟩
  ·
   exact h.elim
 ·
  rename_i hu
  split at h
  ·
   rename_i n hn
   exact ⟨_, h, fun w => by simp [part, isAgg, run_underlying hu, Qd0 hn]⟩
  ·
   exact h.elim
 ·
  rename_i d hd1 hd2 hu
  split at h
  ·
   rename_i v hv
   refine ⟨_, h, fun w => ?_⟩
   have : (isAgg T).run P w = .ok false w := by
    cases d <;> simp_all [isAgg, run_underlying hu]
   simp [part, this, hv]
  ·
   exact h.elim
 ·
  exact h.elim
def Qd1 (P : Program) (T : TypeId) (x i : Value) (K : Value -> Prop) : Prop :=
 match x, i with
 | .string s, .int _ n => P.underlying T = some .string /\ (0 <= n /\ n < (toL s).length) /\ K (.int .u8 ((toL s).getD n.toNat 0).toNat)
 | .agg cs, .int _ n => match P.underlying T with
  | some (.array len E) => (0 <= n /\ n < len) /\ match P.szo E with
   | some sz => Qrt P E cs (n.toNat * sz) K
   | none => False
  | _ => False
 | _, _ => False
theorem Qxu {P : Program} {T : TypeId} {x i : Value} {K : Value -> Prop} (h : Qd1 P T x i K) : ∃ v, K v /\ ∀ w, (Instr.index T x i).run P w = .ok v w := by
 unfold Qd1 at h
 split at h
 ·
  rename_i s k n
  obtain ⟨hu, hb, h⟩ := h
  refine ⟨_, h, fun w => ?_⟩
  have hlt : n.toNat < s.data.toList.length := by simp only [toL] at hb;omega
  have hlt' : n.toNat < s.data.size := by simpa using hlt
  have hg : s[n.toNat]? = some (s.data.toList.getD n.toNat 0) := by
   rw [List.getD_eq_getElem?_getD, List.getElem?_eq_getElem hlt]
   simp only [getElem?_def]
   rw [dif_pos (by exact hlt')]
   rfl
  simp only [Instr.index, asIntOf, Sem.run_bind, Sem.run_pure, Result.andThen_ok, run_underlying hu, hb.1, if_true, hg, toL]
 ·
  rename_i cs k n
  split at h
  ·
   rename_i len E hu
   obtain ⟨hb, h⟩ := h
   split at h
   ·
    rename_i sz hsz
    obtain ⟨v, hv, hr⟩ := Qru h
    refine ⟨v, hv, fun w => ?_⟩
    simp [Instr.index, asIntOf, run_underlying hu, hb, Qd0 hsz, hr]
   ·
    exact h.elim
  ·
   exact h.elim
 ·
  exact h.elim
def Qb3 (P : Program) (T : TypeId) (x : Value) (lo hi : Option Value) (K : Value -> Prop) : Prop :=
 match x with
 | .string s => P.underlying T = some .string /\ match lo, hi with
  | none, none => K (.string s)
  | some (.int _ l), none => (0 <= l /\ l <= (toL s).length) /\ K (Str ((toL s).drop l.toNat))
  | none, some (.int _ h) => (0 <= h /\ h <= (toL s).length) /\ K (Str ((toL s).take h.toNat))
  | some (.int _ l), some (.int _ h) => (0 <= l /\ l <= h /\ h <= (toL s).length) /\ K (Str (((toL s).drop l.toNat).take (h.toNat - l.toNat)))
  | _, _ => False
 | .slice a n cap => match P.underlying T with
  | some (.slice E) => match P.szo E with
   | some sz => match lo, hi with
    | none, none => n <= cap /\ K (.slice a n cap)
    | some (.int _ l), none => (0 <= l /\ l <= n /\ n <= cap) /\ K (.slice (if cap = l.toNat then a else a.map (·.add (l.toNat * sz))) (n - l.toNat) (cap - l.toNat))
    | none, some (.int _ h) => (0 <= h /\ h <= cap) /\ K (.slice a h.toNat cap)
    | some (.int _ l), some (.int _ h) => (0 <= l /\ l <= h /\ h <= cap) /\ K (.slice (if cap = l.toNat then a else a.map (·.add (l.toNat * sz))) (h.toNat - l.toNat) (cap - l.toNat))
    | _, _ => False
   | none => False
  | _ => False
 | _ => False
theorem Qf7 (s : ByteArray) (l h : Nat) : s.extract l h = ⟨((s.data.toList.drop l).take (h - l)).toArray⟩ := by
 apply ByteArray.ext
 show (s.extract l h).data = _
 rw [ByteArray.data_extract]
 apply Array.ext'
 simp [List.extract_eq_take_drop]
theorem Qj1 {P : Program} {k : IntKind} {i : Int} {y : Nat} {code : BoundsCode} (h0 : 0 <= i) (h1 : i <= y) (w : World) : (Instr.sliceBound (.int k i) y code).run P w = .ok i.toNat w := by
 simp [Instr.sliceBound, asIntOf, h0, h1]
theorem Qxv {P : Program} {T : TypeId} {x : Value} {lo hi : Option Value} {K : Value -> Prop} (h : Qb3 P T x lo hi K) :
  ∃ v, K v /\ ∀ w, (Instr.sliceAt T x lo hi none).run P w = .ok v w := by
 unfold Qb3 at h
 split at h
 ·
  rename_i s
  obtain ⟨hu, h⟩ := h
  have hsz : s.size = s.data.toList.length := rfl
  split at h
  ·
   refine ⟨_, h, fun w => ?_⟩
   simp [Instr.sliceAt, Instr.slice, Instr.sliceBounds, run_underlying hu]
  ·
   rename_i k l
   refine ⟨_, h.2, fun w => ?_⟩
   have hb : 0 <= l /\ l <= (s.size : Int) := h.1
   have : s.extract l.toNat s.size = ⟨(s.data.toList.drop l.toNat).toArray⟩ := by
    rw [Qf7, hsz];congr 2;apply List.take_of_length_le;simp
   simp [Instr.sliceAt, Instr.slice, Instr.sliceBounds, Instr.sliceBound, asIntOf, run_underlying hu, hb, this, toL]
  ·
   rename_i k l
   refine ⟨_, h.2, fun w => ?_⟩
   have hb : 0 <= l /\ l <= (s.size : Int) := h.1
   have : s.extract 0 l.toNat = ⟨(s.data.toList.take l.toNat).toArray⟩ := by
    rw [Qf7];simp
   simp [Instr.sliceAt, Instr.slice, Instr.sliceBounds, Instr.sliceBound, asIntOf, run_underlying hu, hb, this, toL]
  ·
   rename_i k l k' h'
   refine ⟨_, h.2, fun w => ?_⟩
   obtain ⟨⟨h1, h2, h3⟩, _⟩ := h
   have hb : 0 <= h' /\ h' <= (s.size : Int) := ⟨by omega, h3⟩
   have hb2 : 0 <= l /\ l <= (h'.toNat : Int) := ⟨h1, by omega⟩
   have e1 := fun code w => Qj1 (P := P) (k := k') (y := s.size) (code := code) hb.1 hb.2 w
   have e2 := fun code w => Qj1 (P := P) (k := k) (y := h'.toNat) (code := code) hb2.1 hb2.2 w
   simp [Instr.sliceAt, Instr.slice, Instr.sliceBounds, run_underlying hu, e1, e2, Qf7, toL]
  ·
   exact h.elim
 ·
  rename_i a n cap
  split at h
  ·
   rename_i E hu
   split at h
   ·
    rename_i sz hsz
    split at h
    ·
     refine ⟨_, h.2, fun w => ?_⟩
     have : (a.map fun x => x.add 0) = a := by cases a <;> simp [Addr.add]
     simp [Instr.sliceAt, Instr.slice, Instr.sliceBounds, run_underlying hu, Qd0 hsz, this]
    ·
     rename_i k l
     refine ⟨_, h.2, fun w => ?_⟩
     obtain ⟨⟨h1, h2, h3⟩, _⟩ := h
     simp [Instr.sliceAt, Instr.slice, Instr.sliceBounds, Instr.sliceBound, asIntOf, run_underlying hu, Qd0 hsz, h1, h2]
    ·
     rename_i k l
     refine ⟨_, h.2, fun w => ?_⟩
     obtain ⟨⟨h1, h2⟩, _⟩ := h
     have : (a.map fun x => x.add 0) = a := by cases a <;> simp [Addr.add]
     simp [Instr.sliceAt, Instr.slice, Instr.sliceBounds, Instr.sliceBound, asIntOf, run_underlying hu, Qd0 hsz, h1, h2, this]
    ·
     rename_i k l k' h'
     refine ⟨_, h.2, fun w => ?_⟩
     obtain ⟨⟨h1, h2, h3⟩, _⟩ := h
     have hb : 0 <= h' /\ h' <= (cap : Int) := ⟨by omega, h3⟩
     have hb2 : 0 <= l /\ l <= (h'.toNat : Int) := ⟨h1, by omega⟩
     have e1 := fun code w => Qj1 (P := P) (k := k') (y := cap) (code := code) hb.1 hb.2 w
     have e2 := fun code w => Qj1 (P := P) (k := k) (y := h'.toNat) (code := code) hb2.1 hb2.2 w
     simp [Instr.sliceAt, Instr.slice, Instr.sliceBounds, run_underlying hu, Qd0 hsz, e1, e2]
    ·
     exact h.elim
   ·
    exact h.elim
  ·
   exact h.elim
 ·
  exact h.elim
def Qao (l : List UInt8) : List Value := l.map fun b => .int .u8 b.toNat
def Qgx (w : World) (a : Option Addr) (n : Nat) (l : List UInt8) : Prop :=
 l.length = n /\ (a = none -> n = 0) /\ ∀ ad, a = some ad -> Reads w ad (Qao l)
def Qe2 (P : Program) (src dst : TypeId) (x : Value) (w : World) (K : Value -> Prop) : Prop :=
 match P.underlying src, P.underlying dst, x with
 | some _, some (.int k), .int _ n => Qdz k n K
 | some _, some .string, .string s => K (.string s)
 | some (.slice E), some .string, .slice a n _ => P.underlying E = some (.int .u8) /\ ∃ l, Qgx w a n l /\ K (Str l)
 | _, _, _ => False
theorem Qxw (l : List UInt8) (s : ByteArray) : (l.map fun b => (b.toNat : Int)).foldl (fun r n => r.push (UInt8.ofNat n.toNat)) s = ⟨(s.data.toList ++ l).toArray⟩ := by
 induction l generalizing s with
 | nil => apply ByteArray.ext;simp
 | cons b l ih =>
  simp only [List.map_cons, List.foldl_cons]
  rw [ih]
  apply ByteArray.ext
  simp [ByteArray.push]
theorem Qek {P : Program} {w : World} {a : Addr} {xs : List Value} (h : Reads w a xs) : (loadCells a xs.length).run P w = .ok xs.toArray w :=
 run_loadCells_list w a xs h
theorem Qz8 {P : Program} {src dst : TypeId} {x : Value} {w : World} {K : Value -> Prop} (h : Qe2 P src dst x w K) :
  ∃ v, K v /\ ∀ w', Ext w w' -> (convert src dst x).run P w' = .ok v w' := by
 unfold Qe2 at h
 split at h
 ·
  rename_i d k k' n hs hd
  refine ⟨_, Qei h, fun w' _ => ?_⟩
  simp [convert, run_underlying hs, run_underlying hd, Conv.intToInt]
 ·
  rename_i d s hs hd
  refine ⟨_, h, fun w' _ => ?_⟩
  cases d <;> simp [convert, run_underlying hs, run_underlying hd]
 ·
  rename_i E a n c hs hd
  obtain ⟨he, l, ⟨hl, hnil, hr⟩, hK⟩ := h
  refine ⟨_, hK, fun w' hw => ?_⟩
  rw [run_convert_bytes_string w' src dst E a n c hs he hd]
  cases a with
  | none =>
   have hn := hnil rfl
   subst hn
   have : l = [] := List.eq_nil_of_length_eq_zero hl
   subst this
   simp only [Conv.bytesToString, Sem.run_pure]
   rfl
  | some ad =>
   have hr' := (hr ad rfl).ext hw
   have e1 : Qao l = (l.map fun b => (b.toNat : Int)).map (Value.int .u8) := by simp [Qao]
   have hc := Qek (P := P) hr'
   have e2 : (Qao l).length = n := by simp [Qao, hl]
   rw [e2, e1] at hc
   rw [run_bytesToString w' ad n c (l.map fun b => (b.toNat : Int)) hc]
   rw [Qxw]
   simp
 ·
  exact h.elim
def vLen (P : Program) (T : TypeId) (x : Value) (K : Value -> Prop) : Prop :=
 match P.underlying T, x with
 | some .string, .string s => K (.int .i64 (toL s).length)
 | some (.slice _), .slice _ n _ => K (.int .i64 n)
 | some (.array n _), _ => K (.int .i64 n)
 | some (.pointer A), _ => match P.underlying A with
  | some (.array n _) => K (.int .i64 n)
  | _ => False
 | _, _ => False
theorem QDa {P : Program} {T : TypeId} {x : Value} {K : Value -> Prop} (h : vLen P T x K) {ts : Array TypeId} (ht : ts[0]? = some T) {ty : TypeId} :
  ∃ v, K v /\ ∀ w, (Builtin.len_ ts ty #[x]).run P w = .ok v w := by
 unfold vLen at h
 split at h
 ·
  rename_i s hu;exact ⟨_, h, fun w => by simp [Builtin.len_, ht, run_underlying hu, goInt, toL]⟩
 ·
  rename_i hu;exact ⟨_, h, fun w => by simp [Builtin.len_, ht, run_underlying hu, goInt]⟩
 ·
  rename_i hu;exact ⟨_, h, fun w => by simp [Builtin.len_, ht, run_underlying hu, goInt]⟩
 ·
  rename_i hu
  split at h
  ·
   rename_i hu2;exact ⟨_, h, fun w => by simp [Builtin.len_, ht, run_underlying hu, run_underlying hu2, goInt]⟩
  ·
   exact h.elim
 ·
  exact h.elim
def vMin : List Value -> (Value -> Prop) -> Prop
 | [.int k x, .int _ y], K => K (.int k (min x y))
 | [.int k x, .int _ y, .int _ z], K => K (.int k (min (min x y) z))
 | _, _ => False
def vMax : List Value -> (Value -> Prop) -> Prop
 | [.int k x, .int _ y], K => K (.int k (max x y))
 | [.int k x, .int _ y, .int _ z], K => K (.int k (max (max x y) z))
 | _, _ => False
theorem Qz9 (x y : Int) : (if y < x then y else x) = min x y := by split <;> omega
theorem QDb {P : Program} {vs : List Value} {K : Value -> Prop} (h : vMin vs K) {ts : Array TypeId} {ty : TypeId} : ∃ v, K v /\ ∀ w, (Builtin.min_ ts ty vs.toArray).run P w = .ok v w := by
 unfold vMin at h
 split at h
 ·
  exact ⟨_, h, fun w => by simp [Builtin.min_, Builtin.min2, Qz9]⟩
 ·
  exact ⟨_, h, fun w => by simp [Builtin.min_, Builtin.min2, Qz9]⟩
 ·
  exact h.elim
theorem QDc {P : Program} {vs : List Value} {K : Value -> Prop} (h : vMax vs K) {ts : Array TypeId} {ty : TypeId} : ∃ v, K v /\ ∀ w, (Builtin.max_ ts ty vs.toArray).run P w = .ok v w := by
 unfold vMax at h
 split at h
 ·
  exact ⟨_, h, fun w => by simp [Builtin.max_, Builtin.max2];split <;> omega⟩
 ·
  exact ⟨_, h, fun w => by simp [Builtin.max_, Builtin.max2];(repeat' split) <;> omega⟩
 ·
  exact h.elim
def Qb0 (P : Program) (T : TypeId) (x : Value) (w : World) (K : Value -> Prop) : Prop :=
 match x with
 | .pointer (some a) => match P.underlying T with
  | some (.struct _) | some (.array _ _) => match P.szo T with
   | some n => ∃ cs : List Value, (cs.length = n /\ Reads w a cs) /\ K (.agg cs.toArray)
   | none => False
  | some _ => ∃ v, w.cell? a = some v /\ K v
  | none => False
 | _ => False
theorem QAa {P : Program} {T : TypeId} {x : Value} {w : World} {K : Value -> Prop} (h : Qb0 P T x w K) :
  ∃ v, K v /\ ∀ w', Ext w w' -> (Instr.loadAt T x).run P w' = .ok v w' := by
 have key : ∀ (a : Addr) (n : Nat), (P.szo T = some n) -> (∀ w, (isAgg T).run P w = .ok true w) -> ∀ cs : List Value, cs.length = n -> Reads w a cs ->
   ∀ w', Ext w w' -> (Instr.loadAt T (.pointer (some a))).run P w' = .ok (.agg cs.toArray) w' := by
  intro a n hn hagg cs hl hr w' hw
  have := Qek (P := P) (hr.ext hw)
  rw [hl] at this
  simp [Instr.loadAt, Instr.sureAddr, loadVar, hagg, Qd0 hn, this]
 unfold Qb0 at h
 split at h
 ·
  rename_i a
  split at h
  ·
   rename_i hu
   split at h
   ·
    rename_i n hn
    obtain ⟨cs, ⟨hl, hr⟩, hK⟩ := h
    exact ⟨_, hK, key a n hn (fun w => by simp [isAgg, run_underlying hu]) cs hl hr⟩
   ·
    exact h.elim
  ·
   rename_i hu
   split at h
   ·
    rename_i n hn
    obtain ⟨cs, ⟨hl, hr⟩, hK⟩ := h
    exact ⟨_, hK, key a n hn (fun w => by simp [isAgg, run_underlying hu]) cs hl hr⟩
   ·
    exact h.elim
  ·
   rename_i d hd1 hd2 hu
   obtain ⟨v, hv, hK⟩ := h
   refine ⟨v, hK, fun w' hw => ?_⟩
   have hc : w'.cell? a = some v := hw.cell hv
   have : (isAgg T).run P w' = .ok false w' := by
    cases d <;> simp_all [isAgg, run_underlying hu]
   simp [Instr.loadAt, Instr.sureAddr, loadVar, this, hc]
  ·
   exact h.elim
 ·
  exact h.elim
def vNil (x : Value) (K : Value -> Prop) : Prop :=
 match x with
 | .pointer (some a) => K (.pointer (some a))
 | .func (.func f) p c => K (.func (.func f) p c)
 | .iface t v => K (.iface t v)
 | _ => False
def Qa4 (P : Program) (S : TypeId) (x : Value) (f : Nat) (K : Value -> Prop) : Prop :=
 match x with
 | .pointer (some a) => match P.underlying S with
  | some (.struct fields) => match fields[f]? with
   | some fd => match P.szo fd.type with
    | some (_ + 1) => K (.pointer (some (a.add fd.offset)))
    | _ => False
   | none => False
  | _ => False
 | _ => False
theorem Qn8 {P : Program} {S : TypeId} {x : Value} {f : Nat} {K : Value -> Prop} (h : Qa4 P S x f K) : ∃ v, K v /\ ∀ w, (Instr.fieldAt S x f).run P w = .ok v w := by
 unfold Qa4 at h
 split at h
 ·
  split at h
  ·
   rename_i hu
   split at h
   ·
    rename_i fd hf
    split at h
    ·
     rename_i n hn
     exact ⟨_, h, fun w => by simp [Instr.fieldAt, Instr.sureAddr, run_underlying hu, hf, fieldPlace, Qd0 hn]⟩
    ·
     exact h.elim
   ·
    exact h.elim
  ·
   exact h.elim
 ·
  exact h.elim
def Qcs (P : Program) (S : TypeId) (x : Value) (f : Nat) (K : Value -> Prop) : Prop :=
 match x with
 | .agg cs => match P.underlying S with
  | some (.struct fields) => match fields[f]? with
   | some fd => Qrt P fd.type cs fd.offset K
   | none => False
  | _ => False
 | _ => False
theorem Qxx {P : Program} {S : TypeId} {x : Value} {f : Nat} {K : Value -> Prop} (h : Qcs P S x f K) : ∃ v, K v /\ ∀ w, (Instr.field S x f).run P w = .ok v w := by
 unfold Qcs at h
 split at h
 ·
  split at h
  ·
   rename_i hu
   split at h
   ·
    rename_i fd hf
    obtain ⟨v, hv, hr⟩ := Qru h
    exact ⟨v, hv, fun w => by simp [Instr.field, run_underlying hu, hf, asAgg, hr]⟩
   ·
    exact h.elim
  ·
   exact h.elim
 ·
  exact h.elim
def Qba (P : Program) (T : TypeId) (x i : Value) (K : Value -> Prop) : Prop :=
 match i with
 | .int _ n => match P.underlying T, x with
  | some (.slice E), .slice (some a) len _ => match P.szo E with
   | some sz => (0 <= n /\ n < len) /\ K (.pointer (some (a.add (n.toNat * sz))))
   | none => False
  | some (.array len E), .pointer (some a) => match P.szo E with
   | some sz => (0 <= n /\ n < len) /\ K (.pointer (some (a.add (n.toNat * sz))))
   | none => False
  | _, _ => False
 | _ => False
theorem Qn9 {P : Program} {T : TypeId} {x i : Value} {K : Value -> Prop} (h : Qba P T x i K) : ∃ v, K v /\ ∀ w, (Instr.indexAt T x i).run P w = .ok v w := by
 unfold Qba at h
 split at h
 ·
  split at h
  ·
   rename_i hu
   split at h
   ·
    rename_i sz hsz
    exact ⟨_, h.2, fun w => by simp [Instr.indexAt, asIntOf, run_underlying hu, h.1, Qd0 hsz]⟩
   ·
    exact h.elim
  ·
   rename_i hu
   split at h
   ·
    rename_i sz hsz
    exact ⟨_, h.2, fun w => by simp [Instr.indexAt, asIntOf, Instr.sureAddr, run_underlying hu, h.1, Qd0 hsz]⟩
   ·
    exact h.elim
  ·
   exact h.elim
 ·
  exact h.elim
def Qio (x : Value) (i : Nat) (K : Value -> Prop) : Prop :=
 match x with
 | .tuple vs => match vs[i]? with
  | some v => K v
  | none => False
 | _ => False
def vUn (op : UnOp) (x : Value) (K : Value -> Prop) : Prop :=
 match op, x with
 | .not, .bool b => K (.bool (!b))
 | .neg, .int k n => Qdz k (-n) K
 | .xor, .int .u32 n => (0 <= n /\ n <= 4294967295) /\ K (.int .u32 (4294967295 - n))
 | .xor, .int .u64 n => (0 <= n /\ n <= 18446744073709551615) /\ K (.int .u64 (18446744073709551615 - n))
 | .xor, .int .u8 n => (0 <= n /\ n <= 255) /\ K (.int .u8 (255 - n))
 | _, _ => False
theorem Qp4 (n : Nat) (x : Int) (h0 : 0 <= x) (h1 : x.toNat < 2 ^ n) : ((BitVec.ofInt n ((2 ^ n : Nat) - 1 : Int)) ^^^ BitVec.ofInt n x).toNat = 2 ^ n - 1 - x.toNat := by
 have e : BitVec.ofInt n ((2 ^ n : Nat) - 1 : Int) = BitVec.allOnes n := by
  apply BitVec.eq_of_toNat_eq
  have hp : 0 < 2 ^ n := Nat.two_pow_pos n
  simp only [BitVec.toNat_ofInt, BitVec.toNat_allOnes]
  have : (((2 ^ n : Nat) : Int) - 1) % ((2 ^ n : Nat) : Int) = ((2 ^ n : Nat) : Int) - 1 := Int.emod_eq_of_lt (by omega) (by omega)
  rw [this];omega
 rw [e, BitVec.allOnes_xor, BitVec.toNat_not, toNat_ofInt h0 h1]
theorem QFx {P : Program} {op : UnOp} {x : Value} {K : Value -> Prop} (h : vUn op x K) : ∃ v, K v /\ ∀ w, (Op.unary op x).run P w = .ok v w := by
 unfold vUn at h
 split at h
 ·
  exact ⟨_, h, fun w => by simp [Op.unary]⟩
 ·
  refine ⟨_, Qei h, fun w => by simp [Op.unary, Op.intArith]⟩
 ·
  rename_i n
  refine ⟨_, h.2, fun w => ?_⟩
  have hx := Qp4 32 n h.1.1 (by have := h.1;omega)
  have e : IntKind.u32.max = ((2 ^ 32 : Nat) - 1 : Int) := by decide
  simp only [Op.unary, IntKind.signed, Op.intBits, Sem.run_pure, Bool.false_eq_true, if_false, e]
  have hx' : (BitVec.ofInt IntKind.u32.bits ((2 ^ 32 : Nat) - 1 : Int) ^^^ BitVec.ofInt IntKind.u32.bits n).toNat = 2 ^ 32 - 1 - n.toNat := hx
  rw [hx', Qws]
  congr 2
  have := h.1;omega
 ·
  rename_i n
  refine ⟨_, h.2, fun w => ?_⟩
  have hx := Qp4 64 n h.1.1 (by have := h.1;omega)
  have e : IntKind.u64.max = ((2 ^ 64 : Nat) - 1 : Int) := by decide
  simp only [Op.unary, IntKind.signed, Op.intBits, Sem.run_pure, Bool.false_eq_true, if_false, e]
  have hx' : (BitVec.ofInt IntKind.u64.bits ((2 ^ 64 : Nat) - 1 : Int) ^^^ BitVec.ofInt IntKind.u64.bits n).toNat = 2 ^ 64 - 1 - n.toNat := hx
  rw [hx', Qwt]
  congr 2
  have := h.1;omega
 ·
  rename_i n
  refine ⟨_, h.2, fun w => ?_⟩
  have hx := Qp4 8 n h.1.1 (by have := h.1;omega)
  have e : IntKind.u8.max = ((2 ^ 8 : Nat) - 1 : Int) := by decide
  simp only [Op.unary, IntKind.signed, Op.intBits, Sem.run_pure, Bool.false_eq_true, if_false, e]
  have hx' : (BitVec.ofInt IntKind.u8.bits ((2 ^ 8 : Nat) - 1 : Int) ^^^ BitVec.ofInt IntKind.u8.bits n).toNat = 2 ^ 8 - 1 - n.toNat := hx
  rw [hx', Qz7]
  congr 2
  have := h.1;omega
 ·
  exact h.elim
def EqR (P : Program) (op : BinOp) (T : TypeId) (xo yo : Operand) (x y : Value) (w : World) (K : Value -> Prop) : Prop :=
 ∃ b : Bool, (∀ w', Ext w w' -> (do eqGuard op T xo yo x y;binOp op T x y : Sem Value).run P w' = .ok (.bool b) w') /\ K (.bool b)
def Qbr (P : Program) (op : BinOp) (T : TypeId) (xo yo : Operand) (x y : Value) (w : World) (K : Value -> Prop) : Prop :=
 match x, y with
 | .int k a, .int k' b => vBin P op T (.int k a) (.int k' b) w K
 | .string s, .string t => vBin P op T (.string s) (.string t) w K
 | .bool a, .bool b => vBin P op T (.bool a) (.bool b) w K
 | x, y => EqR P op T xo yo x y w K
theorem QAb {P : Program} {op : BinOp} {T : TypeId} {xo yo : Operand} {x y : Value} {w : World} {K : Value -> Prop} (h : Qbr P op T xo yo x y w K) :
  ∃ v, K v /\ ∀ w', Ext w w' -> (do eqGuard op T xo yo x y;binOp op T x y : Sem Value).run P w' = .ok v w' := by
 unfold Qbr at h
 split at h
 ·
  obtain ⟨v, hv, hr⟩ := Qp3 h
  exact ⟨v, hv, fun w' hw => by simp only [Sem.run_bind];rw [Qg8 ⟨by simp, by simp⟩];simp only [Result.andThen_ok];exact hr w' hw⟩
 ·
  obtain ⟨v, hv, hr⟩ := Qp3 h
  exact ⟨v, hv, fun w' hw => by simp only [Sem.run_bind];rw [Qg8 ⟨by simp, by simp⟩];simp only [Result.andThen_ok];exact hr w' hw⟩
 ·
  obtain ⟨v, hv, hr⟩ := Qp3 h
  exact ⟨v, hv, fun w' hw => by simp only [Sem.run_bind];rw [Qg8 ⟨by simp, by simp⟩];simp only [Result.andThen_ok];exact hr w' hw⟩
 ·
  obtain ⟨b, hr, hb⟩ := h
  exact ⟨_, hb, hr⟩
def Qbn (P : Program) (s d : TypeId) : Bool :=
 match P.underlying s, P.underlying d with
 | some .string, some (.slice _) => false
 | _, _ => true
def Qfm (P : Program) : Op -> Bool
 | .convert s d _ => Qbn P s d
 | .move _ | .assign _ | .pick .. | .binOp .. | .unOp .. | .slice _ _ _ _ none | .fieldAddr .. | .field .. | .indexAddr .. | .index .. | .extract ..
 | .makeInterface .. | .makeFunc .. | .build .. | .load .. | .nilCheck .. => true
 | .call { callee := .builtin .len, .. } | .call { callee := .builtin .min, .. } | .call { callee := .builtin .max, .. } => true
 | _ => false
def argO (e : Env) (x : Option Operand) (K : Option Value -> Prop) : Prop :=
 match x with
 | none => K none
 | some x => arg e x fun v => K (some v)
theorem Qo3 {N : Nat} {e : Env} {a : Act} {x : Option Operand} {K : Option Value -> Prop} (ha : Fits N e a) (h : argO e x K) : K (x.map a.eval) := by
 cases x with
 | none => exact h
 | some x => exact Qa7 (K := fun v => K (some v)) ha h
def Qp5 (c : Value) (A B : Prop) : Prop :=
 match c with
 | .bool true => A
 | .bool false => B
 | _ => False
def Qip (P : Program) (T : TypeId) (x : Value) (K : Value -> Prop) : Prop :=
 match P.underlying T with
 | some (.interface _) => False
 | some _ => K (.iface T x)
 | none => False
def Qc0 (P : Program) (T : TypeId) (parts : List (Nat × Value)) (K : Value -> Prop) : Prop :=
 match P.built T parts with
 | some cells => K (.agg cells)
 | none => False
def Qgy (e : Env) : List (Nat × Operand) -> (List (Nat × Value) -> Prop) -> Prop
 | [], K => K []
 | p :: ps, K => arg e p.2 fun v => Qgy e ps fun vs => K ((p.1, v) :: vs)
theorem Qrv {N : Nat} {e : Env} {a : Act} (ha : Fits N e a) {ps : List (Nat × Operand)} : ∀ {K : List (Nat × Value) -> Prop}, Qgy e ps K -> K (ps.map fun p => (p.1, a.eval p.2)) := by
 induction ps with
 | nil => intro K h;exact h
 | cons p ps ih => intro K h;exact ih (Qa7 (K := fun v => Qgy e ps fun vs => K ((p.1, v) :: vs)) ha h)
def vcOp (P : Program) (op : Op) (e : Env) (w : World) (K : Value -> Prop) : Prop :=
 match op with
 | .move x => arg e x K
 | .assign x => arg e x K
 | .pick c a b => arg e c fun vc => Qp5 vc (arg e a K) (arg e b K)
 | .binOp op T x y _ => arg e x fun a => arg e y fun b => Qbr P op T x y a b w K
 | .unOp op _ x => arg e x fun a => vUn op a K
 | .convert s d x => arg e x fun a => Qe2 P s d a w K
 | .slice T x lo hi none => arg e x fun a => argO e lo fun l => argO e hi fun h => Qb3 P T a l h K
 | .fieldAddr S x f => arg e x fun a => Qa4 P S a f K
 | .field S x f => arg e x fun a => Qcs P S a f K
 | .indexAddr T x i => arg e x fun a => arg e i fun n => Qba P T a n K
 | .index T x i => arg e x fun a => arg e i fun n => Qd1 P T a n K
 | .extract t i => arg e t fun a => Qio a i K
 | .makeInterface T x => arg e x fun a => Qip P T a K
 | .makeFunc fn first captured => argL e first.toList fun fs => argL e captured.toList fun cs => K (.func fn fs.toArray cs.toArray)
 | .build T parts => Qgy e parts.toList fun ps => Qc0 P T ps K
 | .load T x => arg e x fun a => Qb0 P T a w K
 | .nilCheck x => arg e x fun a => vNil a K
 | .call { callee := .builtin .len, args := az, argTypes := ts } => argL e az.toList fun vs => match vs, ts[0]? with
  | [v], some T => vLen P T v K
  | _, _ => False
 | .call { callee := .builtin .min, args := az, .. } => argL e az.toList fun vs => vMin vs K
 | .call { callee := .builtin .max, args := az, .. } => argL e az.toList fun vs => vMax vs K
 | _ => False
theorem Qe3 (xs : Array Operand) (a : Act) : xs.map a.eval = (xs.toList.map a.eval).toArray := by
 apply Array.ext';simp
theorem Qdm {P : Program} {N : Nat} {o : Oper} {e : Env} {a : Act} {w : World} {K : Value -> Prop} (ha : Fits N e a) (h : vcOp P o.op e w K) :
  ∃ v, K v /\ ∀ w', Ext w w' -> (execOp a.eval o).run P w' = .ok (.value v) w' := by
 unfold vcOp at h
 split at h
 case h_1 x ho => exact ⟨_, Qa7 ha h, fun w' _ => by simp [execOp, ho]⟩
 case h_2 x ho => exact ⟨_, Qa7 ha h, fun w' _ => by simp [execOp, ho]⟩
 case h_3 c x y ho =>
  have h1 := Qa7 (K := fun vc => Qp5 vc (arg e x K) (arg e y K)) ha h
  unfold Qp5 at h1
  split at h1
  ·
   rename_i hc;exact ⟨_, Qa7 ha h1, fun w' _ => by simp [execOp, ho, hc, asBool]⟩
  ·
   rename_i hc;exact ⟨_, Qa7 ha h1, fun w' _ => by simp [execOp, ho, hc, asBool]⟩
  ·
   exact h1.elim
 case h_4 op T x y T' ho =>
  have h1 := Qa7 (K := fun b => Qbr P op T x y (a.eval x) b w K) ha (Qa7 (K := fun b => arg e y fun c => Qbr P op T x y b c w K) ha h)
  obtain ⟨v, hv, hr⟩ := QAb h1
  refine ⟨v, hv, fun w' hw => ?_⟩
  simp only [execOp, ho]
  have := hr w' hw
  simp only [Sem.run_bind] at this ⊢
  simp only [this, Result.andThen_ok, Sem.run_pure]
 case h_5 op T x ho =>
  obtain ⟨v, hv, hr⟩ := QFx (P := P) (Qa7 (K := fun b => vUn op b K) ha h)
  exact ⟨v, hv, fun w' _ => by simp [execOp, ho, hr]⟩
 case h_6 s d x ho =>
  obtain ⟨v, hv, hr⟩ := Qz8 (Qa7 (K := fun b => Qe2 P s d b w K) ha h)
  exact ⟨v, hv, fun w' hw => by simp [execOp, ho, hr w' hw]⟩
 case h_7 T x lo hi ho =>
  have h1 := Qo3 (K := fun h => Qb3 P T (a.eval x) (lo.map a.eval) h K) ha (Qo3 (K := fun l => argO e hi fun h => Qb3 P T (a.eval x) l h K) ha (Qa7 (K := fun b => argO e lo fun l => argO e hi fun h => Qb3 P T b l h K) ha h))
  obtain ⟨v, hv, hr⟩ := Qxv h1
  exact ⟨v, hv, fun w' _ => by simp only [execOp, ho, Sem.run_bind, Option.map_none, hr, Result.andThen_ok, Sem.run_pure]⟩
 case h_8 S x f ho =>
  obtain ⟨v, hv, hr⟩ := Qn8 (Qa7 (K := fun b => Qa4 P S b f K) ha h)
  exact ⟨v, hv, fun w' _ => by simp [execOp, ho, hr]⟩
 case h_9 S x f ho =>
  obtain ⟨v, hv, hr⟩ := Qxx (Qa7 (K := fun b => Qcs P S b f K) ha h)
  exact ⟨v, hv, fun w' _ => by simp [execOp, ho, hr]⟩
 case h_10 T x i ho =>
  have h1 := Qa7 (K := fun n => Qba P T (a.eval x) n K) ha (Qa7 (K := fun b => arg e i fun n => Qba P T b n K) ha h)
  obtain ⟨v, hv, hr⟩ := Qn9 h1
  exact ⟨v, hv, fun w' _ => by simp [execOp, ho, hr]⟩
 case h_11 T x i ho =>
  have h1 := Qa7 (K := fun n => Qd1 P T (a.eval x) n K) ha (Qa7 (K := fun b => arg e i fun n => Qd1 P T b n K) ha h)
  obtain ⟨v, hv, hr⟩ := Qxu h1
  exact ⟨v, hv, fun w' _ => by simp [execOp, ho, hr]⟩
 case h_12 t i ho =>
  have h1 := Qa7 (K := fun b => Qio b i K) ha h
  unfold Qio at h1
  split at h1
  ·
   rename_i vs hx
   split at h1
   ·
    rename_i v hv;exact ⟨v, h1, fun w' _ => by simp [execOp, ho, hx, Instr.extract, hv]⟩
   ·
    exact h1.elim
  ·
   exact h1.elim
 case h_13 T x ho =>
  have h1 := Qa7 (K := fun b => Qip P T b K) ha h
  unfold Qip at h1
  split at h1
  ·
   exact h1.elim
  ·
   rename_i d hd hu
   exact ⟨_, h1, fun w' _ => by cases d <;> simp_all [execOp, Instr.makeInterface, run_underlying hu]⟩
  ·
   exact h1.elim
 case h_14 fn first captured ho =>
  have h1 := Qcp (K := fun fs => argL e captured.toList fun cs => K (.func fn fs.toArray cs.toArray)) ha h
  have h2 := Qcp (K := fun cs => K (.func fn (first.toList.map a.eval).toArray cs.toArray)) ha h1
  exact ⟨_, h2, fun w' _ => by simp [execOp, ho, Instr.makeFunc, Qe3]⟩
 case h_15 T parts ho =>
  have h1 := Qrv (K := fun ps => Qc0 P T ps K) ha h
  unfold Qc0 at h1
  split at h1
  ·
   rename_i cells hb
   refine ⟨_, h1, fun w' _ => ?_⟩
   have := run_build (P := P) w' T (parts.map fun (i, x) => (i, a.eval x)) cells (by simpa using hb)
   simp [execOp, ho, this]
  ·
   exact h1.elim
 case h_16 T x ho =>
  obtain ⟨v, hv, hr⟩ := QAa (Qa7 (K := fun b => Qb0 P T b w K) ha h)
  exact ⟨v, hv, fun w' hw => by simp [execOp, ho, hr w' hw]⟩
 case h_17 x ho =>
  have h1 := Qa7 (K := fun b => vNil b K) ha h
  unfold vNil at h1
  split at h1
  ·
   rename_i ad hx;exact ⟨_, h1, fun w' _ => by simp [execOp, ho, hx]⟩
  ·
   rename_i f p c hx;exact ⟨_, h1, fun w' _ => by simp [execOp, ho, hx]⟩
  ·
   rename_i t v hx;exact ⟨_, h1, fun w' _ => by simp [execOp, ho, hx]⟩
  ·
   exact h1.elim
 case h_18 az ts ho =>
  have h1 := Qcp (K := fun vs => match vs, ts[0]? with | [v], some T => vLen P T v K | _, _ => False) ha h
  split at h1
  ·
   rename_i v T hv hT
   obtain ⟨u, hu, hr⟩ := QDa h1 hT (ty := o.type)
   refine ⟨u, hu, fun w' _ => ?_⟩
   have hm : az.map a.eval = #[v] := by rw [Qe3, hv]
   simp [execOp, ho, resolve, invoke, builtin, hm, hr]
  ·
   exact h1.elim
 case h_19 az ts ho =>
  obtain ⟨u, hu, hr⟩ := QDb (P := P) (Qcp (K := fun vs => vMin vs K) ha h) (ts := ts) (ty := o.type)
  refine ⟨u, hu, fun w' _ => ?_⟩
  simp only [execOp, ho, resolve, invoke, builtin, Qe3, Sem.run_bind, Sem.run_pure, Result.andThen_ok, hr]
 case h_20 az ts ho =>
  obtain ⟨u, hu, hr⟩ := QDc (P := P) (Qcp (K := fun vs => vMax vs K) ha h) (ts := ts) (ty := o.type)
  refine ⟨u, hu, fun w' _ => ?_⟩
  simp only [execOp, ho, resolve, invoke, builtin, Qe3, Sem.run_bind, Sem.run_pure, Result.andThen_ok, hr]
 case h_21 => exact h.elim
def Mem (P : Program) (N : Nat) (o : Oper) (e : Env) (w : World) (K : Value -> World -> Prop) : Prop :=
 ∀ (a : Act) (n : Nat) (next : Act -> World -> Prop) (Q : Exit -> Act -> World -> Prop), Fits N e a -> (∀ v w' m, K v w' -> next (a.put o.dst v) (w'.drewN m)) -> o.wp P a (w.drewN n) next Q
def MemK (P : Program) (N : Nat) (o : Oper) (e : Env) (w : World) (rest : Env -> World -> (Env -> World -> Prop) -> Prop) (K : Env -> World -> Prop) : Prop :=
 Mem P N o e w fun v w' => rest (e.put o.dst v) w' K
def Qh6 (P : Program) (N : Nat) (o : Oper) (e : Env) (w : World) (rest : Env -> World -> (Env -> Prop) -> Prop) (K : Env -> Prop) : Prop :=
 ∃ v, (∀ a n, Fits N e a -> o.quietAt P a (fun w' => ∃ n, w' = w.drewN n) (w.drewN n) v) /\ rest (e.put o.dst v) w K
def Qkz (ops : List Oper) (j : Nat) : Option Tmp := (ops[j]?).bind (·.dst)
def gB (b want : Bool) (A B : Prop) : Prop := (b = want -> A) /\ (b = (!want) -> B)
def Qh7 (t : Tmp) (want : Bool) (v : Value) (e : Env) (A B : Env -> Prop) : Prop :=
 match v with
 | .bool b => gB b want (A ((t, .bool want) :: e)) (B ((t, .bool !want) :: e))
 | .tuple _ => B e
 | _ => False
def Qh8 (ops : List Oper) (g : Option (Nat × Bool)) (e : Env) (A B : Env -> Prop) : Prop :=
 match g with
 | none => A e
 | some p => match Qkz ops p.1 with
  | none => B e
  | some t => argT e t fun v => Qh7 t p.2 v e A B
def Qfa (N : Nat) (o : Oper) : Bool :=
 match o.dst with
 | none => true
 | some t => decide (t < N)
def Qrw (P : Program) (N : Nat) (p : Bool) (o : Oper) (e : Env) (w : World) (R : Env -> World -> (Env -> World -> Prop) -> Prop) (K : Env -> World -> Prop) : Prop :=
 match p with
 | true => vcOp P o.op e w fun v => R (e.put o.dst v) w K
 | false => MemK P N o e w R K
def Qp6 (P : Program) (N : Nat) (p : Bool) (o : Oper) (e : Env) (w : World) (R : Env -> World -> (Env -> Prop) -> Prop) (K : Env -> Prop) : Prop :=
 match p with
 | true => vcOp P o.op e w fun v => R (e.put o.dst v) w K
 | false => Qh6 P N o e w R K
def Qa3 (P : Program) (N : Nat) (ops : List Oper) : List Oper -> Env -> World -> (Env -> World -> Prop) -> Prop
 | [], e, w, K => K e w
 | o :: rest, e, w, K => Qh8 ops o.guard e
   (fun e => Qrw P N (Qfm P o.op) o e w (Qa3 P N ops rest) K)
   (fun e => Qa3 P N ops rest (e.put o.dst undef) w K)
def vcQ (P : Program) (N : Nat) (ops : List Oper) : List Oper -> Env -> World -> (Env -> Prop) -> Prop
 | [], e, _, K => K e
 | o :: rest, e, w, K => Qh8 ops o.guard e
   (fun e => Qp6 P N (Qfm P o.op) o e w (vcQ P N ops rest) K)
   (fun e => vcQ P N ops rest (e.put o.dst undef) w K)
theorem Fits.put' {N : Nat} {e : Env} {a : Act} (h : Fits N e a) {o : Oper} (ho : Qfa N o = true) (v : Value) : Fits N (e.put o.dst v) (a.put o.dst v) :=
 h.put o.dst v fun t ht => by simpa [Qfa, ht] using ho
theorem Fits.cons {N : Nat} {e : Env} {a : Act} (h : Fits N e a) {t : Tmp} {v : Value} (ht : a.tmps.getD t undef = v) : Fits N ((t, v) :: e) a :=
 ⟨h.size, h.defers, fun s u hs => by
  simp only [Env.find?_cons] at hs
  split at hs
  ·
   rename_i hst;subst hst;simp at hs;rw [<- hs];exact ht
  ·
   exact h.at_ s u hs⟩
theorem Qde {N : Nat} {ops : List Oper} {o : Oper} {e : Env} {a : Act} {A B : Env -> Prop} (ha : Fits N e a) (h : Qh8 ops o.guard e A B) :
  (∃ e', Fits N e' a /\ A e' /\ Region.wanted o (yielded ops.toArray a.tmps) = true) ∨ (∃ e', Fits N e' a /\ B e' /\ Region.wanted o (yielded ops.toArray a.tmps) = false) := by
 unfold Qh8 at h
 split at h
 ·
  rename_i hg;exact .inl ⟨e, ha, h, by simp [Region.wanted, hg]⟩
 ·
  rename_i p hg
  obtain ⟨j, want⟩ := p
  simp only at h
  split at h
  ·
   rename_i hn
   refine .inr ⟨e, ha, h, ?_⟩
   have : yielded ops.toArray a.tmps j = none := by
    unfold yielded
    have : ((ops.toArray[j]?).bind (·.dst)) = none := by simpa [Qkz] using hn
    rw [this];rfl
   simp [Region.wanted, hg, this]
  ·
   rename_i t ht
   obtain ⟨v, hv, h⟩ := Qm3 h
   have hget := ha.at_ t v hv
   have hd : ((ops.toArray[j]?).bind (·.dst)) = some t := by simpa [Qkz] using ht
   unfold Qh7 at h
   split at h
   ·
    rename_i b
    have hy : yielded ops.toArray a.tmps j = some b := by
     unfold yielded
     rw [hd]
     have : a.tmps[t]? = some (.bool b) := by
      rw [Array.getD_eq_getD_getElem?] at hget
      cases hc : a.tmps[t]? with
      | none => rw [hc] at hget;simp [undef] at hget
      | some x => rw [hc] at hget;simpa using hget
     simp [this]
    by_cases hb : b = want
    ·
     refine .inl ⟨_, ha.cons (by rw [hget, hb]), h.1 hb, by simp [Region.wanted, hg, hy, hb]⟩
    ·
     have hb' : b = !want := by cases b <;> cases want <;> simp_all
     refine .inr ⟨_, ha.cons (by rw [hget, hb']), h.2 hb', by simp [Region.wanted, hg, hy, hb']⟩
   ·
    rename_i vs
    refine .inr ⟨e, ha, h, ?_⟩
    have hy : yielded ops.toArray a.tmps j = none := by
     unfold yielded
     rw [hd]
     rw [Array.getD_eq_getD_getElem?] at hget
     cases hc : a.tmps[t]? with
     | none => simp [hc]
     | some x => rw [hc] at hget;simp at hget;subst hget;simp [hc]
    simp [Region.wanted, hg, hy]
   ·
    exact h.elim
theorem Qff {P : Program} {N : Nat} {ops : List Oper} {Q : Exit -> Act -> World -> Prop} {K : Env -> World -> Prop}
  (hK : ∀ e a w n, Fits N e a -> K e w -> Q .normal a (w.drewN n)) (l : List Oper) : ∀ (e : Env) (a : Act) (w : World) (n : Nat), l.all (Qfa N) = true -> Fits N e a ->
   Qa3 P N ops l e w K -> wpList P ops.toArray Q l a (w.drewN n) := by
 induction l with
 | nil => intro e a w n _ ha h;exact hK e a w n ha h
 | cons o rest ih =>
  intro e a w n hl ha h
  simp only [List.all_cons, Bool.and_eq_true] at hl
  unfold wpList
  rcases Qde ha h with ⟨e', ha', h', hw⟩ | ⟨e', ha', h', hw⟩
  ·
   rw [if_pos hw]
   refine .inl ?_
   unfold Qrw at h'
   split at h'
   ·
    obtain ⟨v, hv, hr⟩ := Qdm ha' h'
    unfold Oper.wp
    rw [hr (w.drewN n) (Ext.drewN w n)]
    exact ih _ _ w n hl.2 (ha'.put' hl.1 v) hv
   ·
    exact h' a n _ Q ha' fun v w' m hv => ih _ _ w' m hl.2 (ha'.put' hl.1 v) hv
  ·
   rw [if_neg (by rw [hw];simp)]
   exact ih _ _ w n hl.2 (ha'.put' hl.1 undef) h'
theorem QAc {P : Program} {N : Nat} {ops : List Oper} {Q : Act -> Prop} {K : Env -> Prop} {w : World}
  (hK : ∀ e a, Fits N e a -> K e -> Q a) (l : List Oper) : ∀ (e : Env) (a : Act), l.all (Qfa N) = true -> Fits N e a ->
   vcQ P N ops l e w K -> wpQuiet P ops.toArray (fun w' => ∃ n, w' = w.drewN n) Q l a := by
 induction l with
 | nil => intro e a _ ha h;exact hK e a ha h
 | cons o rest ih =>
  intro e a hl ha h
  simp only [List.all_cons, Bool.and_eq_true] at hl
  unfold wpQuiet
  rcases Qde ha h with ⟨e', ha', h', hw⟩ | ⟨e', ha', h', hw⟩
  ·
   rw [if_pos hw]
   unfold Qp6 at h'
   split at h'
   ·
    obtain ⟨v, hv, hr⟩ := Qdm ha' h'
    refine ⟨v, ?_, ih _ _ hl.2 (ha'.put' hl.1 v) hv⟩
    rintro w' ⟨n, rfl⟩
    unfold Oper.quietAt
    rw [hr (w.drewN n) (Ext.drewN w n)]
    exact ⟨rfl, rfl⟩
   ·
    obtain ⟨v, hq, hv⟩ := h'
    refine ⟨v, ?_, ih _ _ hl.2 (ha'.put' hl.1 v) hv⟩
    rintro w' ⟨n, rfl⟩
    exact hq a n ha'
  ·
   rw [if_neg (by rw [hw];simp)]
   exact ih _ _ hl.2 (ha'.put' hl.1 undef) h'
def Is {α : Sort _} (a b : α) : Prop := a = b
theorem Is.out {α : Sort _} {a b : α} (h : Is a b) : a = b := h
def selT : Env -> Nat -> (Value -> Prop) -> Prop -> Prop
 | [], _, _, B => B
 | p :: e, n, A, B => if n = p.1 then A p.2 else selT e n A B
def selK : List Nat -> Env -> (Env -> Prop) -> Prop
 | [], _, K => K []
 | k :: ks, e, K => selT e k (fun v => selK ks e fun e' => K ((k, v) :: e')) (selK ks e K)
def selC (ks : List Nat) (K : Env -> World -> Prop) : Env -> World -> Prop := fun e w => selK ks e fun e => K e w
def selQ (ks : List Nat) (K : Env -> Prop) : Env -> Prop := fun e => selK ks e K
theorem QAd (e : Env) (n : Nat) (A : Value -> Prop) (B : Prop) : selT e n A B ↔ match e.find? n with | some v => A v | none => B := by
 induction e with
 | nil => simp [selT, Env.find?]
 | cons p e ih =>
  simp only [selT, Env.find?_cons]
  by_cases h : n = p.1
  ·
   simp [h]
  ·
   simp only [h, if_false];exact ih
def Env.sel (ks : List Nat) (e : Env) : Env := ks.filterMap fun k => (e.find? k).map fun v => (k, v)
theorem Qc9 (ks : List Nat) (e : Env) : ∀ (K : Env -> Prop), selK ks e K ↔ K (e.sel ks) := by
 induction ks with
 | nil => intro K;rfl
 | cons k ks ih =>
  intro K
  simp only [selK, QAd]
  cases h : e.find? k with
  | none => simp only [ih];simp [Env.sel, h]
  | some v => simp only [ih];simp [Env.sel, h]
theorem Env.find?_sel (ks : List Nat) (e : Env) (t : Nat) (v : Value) (h : (e.sel ks).find? t = some v) : e.find? t = some v := by
 induction ks with
 | nil => simp [Env.sel, Env.find?] at h
 | cons k ks ih =>
  cases hk : e.find? k with
  | none => exact ih (by simpa [Env.sel, hk] using h)
  | some u =>
   have h' : Env.find? ((k, u) :: e.sel ks) t = some v := by simpa [Env.sel, hk] using h
   simp only [Env.find?_cons] at h'
   by_cases htk : t = k
   ·
    simp only [htk, if_true] at h';rw [htk, hk];exact h'
   ·
    simp only [htk, if_false] at h';exact ih h'
theorem Fits.sel {N : Nat} {e : Env} {a : Act} (h : Fits N e a) (ks : List Nat) : Fits N (e.sel ks) a := h.weaken fun t v ht => Env.find?_sel ks e t v ht
section
variable {P : Program} {fn : Func} {F : Value -> World -> Prop} {N : Nat} {k : List It} {e : Env} {w : World}
theorem Qrx (ks : List Nat) {id : Nat} {ops : List Oper} (hN : ops.all (Qfa N) = true)
  (h : ∀ K : Env -> World -> Prop, (∀ e w, VC ⟨P, fn, F, N⟩ k e w -> K e w) -> Qa3 P N ops ops e w (selC ks K)) : VC ⟨P, fn, F, N⟩ (.code (.region id ops.toArray false) :: k) e w := by
 intro a n ha
 refine wp_region_lit (Qff (K := fun e w => selK ks e fun e => VC ⟨P, fn, F, N⟩ k e w) (fun e a w n ha hv => ?_) ops e a w n hN ha (h _ fun _ _ hv => hv))
 exact ((Qc9 ks e _).1 hv) a n (ha.sel ks)
theorem Qcq (ks : List Nat) {id : Nat} {ops : List Oper} (hm : P.follows .mixedOrders = true) (hB : Region.lexB .any ops.toArray = true) (hN : ops.all (Qfa N) = true)
  (h : ∀ K : Env -> Prop, (∀ e, VC ⟨P, fn, F, N⟩ k e w -> K e) -> vcQ P N ops ops e w (selQ ks K)) : VC ⟨P, fn, F, N⟩ (.code (.region id ops.toArray true) :: k) e w := by
 intro a n ha
 refine wp_region_quiet (C := fun w' => ∃ n, w' = w.drewN n) hm hB ⟨n + 1, rfl⟩ ?_
 refine QAc (K := fun e => selK ks e fun e => VC ⟨P, fn, F, N⟩ k e w) (fun e a ha hv => ?_) ops e a hN ha (h _ fun _ hv => hv)
 rintro w' ⟨m, rfl⟩
 exact ((Qc9 ks e _).1 hv) a m (ha.sel ks)
theorem Qam (ks : List Nat) {body : Code} (I : Nat -> Env -> World -> Prop) (n : Nat) (h0 : selK ks e fun e => I n e w)
  (round : ∀ n e w, I n e w -> VC ⟨P, fn, F, N⟩ (.code body :: .again (fun e' w' => selK ks e' fun e' => ∃ m, m < n /\ I m e' w') :: k) e w) : VC ⟨P, fn, F, N⟩ (.code (.loop body) :: k) e w := by
 have h0' : VC ⟨P, fn, F, N⟩ (.code (.loop body) :: k) (e.sel ks) w := by
  refine QFv I n ((Qc9 ks e _).1 h0) fun n e w hI => ?_
  intro a d ha
  have h1 := round n e w hI a d ha
  simp only [cont] at h1 ⊢
  refine wp_mono h1 fun ex a w hq => ?_
  cases ex with
  | normal => obtain ⟨e', w0, d', hw, hf, hI'⟩ := hq;exact ⟨e'.sel ks, w0, d', hw, hf.sel ks, (Qc9 ks e' _).1 hI'⟩
  | _ => exact hq
 exact fun a d ha => h0' a d (ha.sel ks)
theorem Qdf (ks : List Nat) {c : Code} (J : Env -> World -> Prop) (h : VC ⟨P, fn, F, N⟩ (.code c :: .again (fun e w => selK ks e fun e => J e w) :: k) e w)
  (hJ : ∀ e w, J e w -> VC ⟨P, fn, F, N⟩ k e w) : VC ⟨P, fn, F, N⟩ (.code c :: k) e w := by
 intro a d ha
 have h1 := h a d ha
 simp only [cont] at h1 ⊢
 refine wp_mono h1 fun ex a w hq => ?_
 cases ex with
 | normal => obtain ⟨e', w0, d', rfl, hf, hI'⟩ := hq;exact hJ _ _ ((Qc9 ks e' _).1 hI') a d' (hf.sel ks)
 | _ => exact hq
end
def peel : Code -> List It -> List It
 | .seq a b, k => peel a (.code b :: k)
 | c, k => .code c :: k
theorem QFy {C : Ctx} {e : Env} {w : World} : ∀ (c : Code) (k : List It), VC C (peel c k) e w -> VC C (.code c :: k) e w := by
 intro c
 induction c with
 | seq a b iha ihb => intro k h;exact Qai (iha _ h)
 | _ => intro k h;exact h
theorem VR {P : Program} {fn : Func} {F : Value -> World -> Prop} {N : Nat} {k k' : List It} {e : Env} {w : World} (ks : List Nat) {c : Code} {id : Nat} {ops : List Oper} (hp : peel c k = .code (.region id ops.toArray false) :: k') (hN : ops.all (Qfa N) = true)
  (h : ∀ K : Env -> World -> Prop, (∀ e w, VC ⟨P, fn, F, N⟩ k' e w -> K e w) -> Qa3 P N ops ops e w (selC ks K)) : VC ⟨P, fn, F, N⟩ (.code c :: k) e w :=
 QFy c k (hp ▸ Qrx ks hN h)
def Qbc : List Oper -> Nat -> Bool -> Env -> (Env -> Prop) -> (Env -> Prop) -> Prop
 | [], _, _, e, _, B => B e
 | o :: _, 0, b, e, A, B => match o.dst with
  | none => B e
  | some t => argT e t fun v => Qh7 t b v e A B
 | _ :: l, j + 1, b, e, A, B => Qbc l j b e A B
theorem Qaz (ops : List Oper) : ∀ (j : Nat) (b : Bool) (e : Env) (A B : Env -> Prop), Qh8 ops (some (j, b)) e A B = Qbc ops j b e A B := by
 induction ops with
 | nil => intro j b e A B;simp [Qh8, Qkz, Qbc]
 | cons o l ih =>
  intro j b e A B
  cases j with
  | zero => cases h : o.dst <;> simp [Qh8, Qkz, Qbc, h]
  | succ j => rw [Qbc, <- ih];simp [Qh8, Qkz]
def Qry (P : Program) (T : Option TypeId) (vs : List Value) (K : Value -> Prop) : Prop :=
 match vs, T with
 | [v], some T => vLen P T v K
 | _, _ => False
section
variable {P : Program} {N : Nat} {ops rest : List Oper} {d : Option Tmp} {r t ty : Nat} {op : Op} {pos : String} {af : Array Edge} {e : Env} {w : World} {K : Env -> World -> Prop} {KQ : Env -> Prop} {KV : Value -> Prop}
theorem QJn (ks : List Nat) : Qa3 P N ops [] e w (selC ks K) = selK ks e fun e => K e w := rfl
theorem QJo (ks : List Nat) : vcQ P N ops [] e w (selQ ks KQ) = selK ks e KQ := rfl
theorem QFz {d' : Option (Nat × Bool)} {A B : Env -> Prop} (b : Bool) : Qbc (⟨some t, op, ty, pos, af, d'⟩ :: ops) 0 b e A B = argT e t fun v => Qh7 t b v e A B := rfl
theorem QF0 {A B : Env -> Prop} (o : Oper) (j : Nat) (b : Bool) : Qbc (o :: ops) (j + 1) b e A B = Qbc ops j b e A B := rfl
theorem gv_t {A B : Env -> Prop} (b : Bool) : Qh7 t true (.bool b) e A B = gB b true (A ((t, .bool true) :: e)) (B ((t, .bool false) :: e)) := rfl
theorem gv_f {A B : Env -> Prop} (b : Bool) : Qh7 t false (.bool b) e A B = gB b false (A ((t, .bool false) :: e)) (B ((t, .bool true) :: e)) := rfl
theorem Qrz {KE : Env -> Prop} : selK [] e KE = KE [] := rfl
theorem Qm4 {KE : Env -> Prop} (ks : List Nat) : selK (t :: ks) e KE = selT e t (fun v => selK ks e fun e' => KE ((t, v) :: e')) (selK ks e KE) := rfl
theorem QJp {A : Value -> Prop} {B : Prop} : selT [] t A B = B := rfl
theorem Qr0 {A : Value -> Prop} {B : Prop} (v : Value) : selT ((t, v) :: e) t A B = A v := by simp [selT]
theorem Qm5 {A : Value -> Prop} {B : Prop} (s : Nat) (v : Value) : selT ((s, v) :: e) t A B = if t = s then A v else selT e t A B := rfl
theorem QJq {KV' : Value -> Prop} (u : Value) (n : Nat) : argT (Env.put e (some t) u) n KV' = argT ((t, u) :: e) n KV' := rfl
theorem QF1 {KV' : Value -> Prop} (u : Value) (n : Nat) : argT (Env.put e none u) n KV' = argT e n KV' := rfl
theorem QJr {KE : Env -> Prop} (u : Value) (ks : List Nat) : selK ks (Env.put e (some t) u) KE = selK ks ((t, u) :: e) KE := rfl
theorem QF2 {KE : Env -> Prop} (u : Value) (ks : List Nat) : selK ks (Env.put e none u) KE = selK ks e KE := rfl
theorem QJs {A : Value -> Prop} {B : Prop} (u : Value) (n : Nat) : selT (Env.put e (some t) u) n A B = selT ((t, u) :: e) n A B := rfl
theorem QF3 {A : Value -> Prop} {B : Prop} (u : Value) (n : Nat) : selT (Env.put e none u) n A B = selT e n A B := rfl
theorem QDd {A B : Env -> Prop} (want : Bool) (vs : Array Value) : Qh7 t want (.tuple vs) e A B = B e := rfl
theorem QAe {A B : Env -> Prop} (want : Bool) : Qh7 t want undef e A B = B e := rfl
theorem QMl {A B : Prop} : gB true true A B = A := by simp [gB]
theorem QMm {A B : Prop} : gB false false A B = A := by simp [gB]
theorem QMn {A B : Prop} : gB true false A B = B := by simp [gB]
theorem QMo {A B : Prop} : gB false true A B = B := by simp [gB]
theorem QMp {p : Prop} [Decidable p] {A B : Prop} : gB (decide p) true A B = ((p -> A) /\ (¬ p -> B)) := by simp [gB]
theorem QMq {p : Prop} [Decidable p] {A B : Prop} : gB (decide p) false A B = ((¬ p -> A) /\ (p -> B)) := by simp [gB]
theorem QJt (x : Operand) : Qa3 P N ops (⟨some r, .move x, ty, pos, af, none⟩ :: rest) e w K = arg e x (fun v => Qa3 P N ops rest ((r, v) :: e) w K) := rfl
theorem QF4 (x : Operand) (jj : Nat) (bb : Bool) : Qa3 P N ops (⟨some r, .move x, ty, pos, af, some (jj, bb)⟩ :: rest) e w K = Qbc ops jj bb e (fun e => arg e x (fun v => Qa3 P N ops rest ((r, v) :: e) w K)) (fun e => Qa3 P N ops rest ((r, undef) :: e) w K) := by rw [<- Qaz];rfl
theorem QJu (x : Operand) : vcQ P N ops (⟨some r, .move x, ty, pos, af, none⟩ :: rest) e w KQ = arg e x (fun v => vcQ P N ops rest ((r, v) :: e) w KQ) := rfl
theorem QF5 (x : Operand) (jj : Nat) (bb : Bool) : vcQ P N ops (⟨some r, .move x, ty, pos, af, some (jj, bb)⟩ :: rest) e w KQ = Qbc ops jj bb e (fun e => arg e x (fun v => vcQ P N ops rest ((r, v) :: e) w KQ)) (fun e => vcQ P N ops rest ((r, undef) :: e) w KQ) := by rw [<- Qaz];rfl
theorem QDe (x : Operand) : Qa3 P N ops (⟨some r, .assign x, ty, pos, af, none⟩ :: rest) e w K = arg e x (fun v => Qa3 P N ops rest ((r, v) :: e) w K) := rfl
theorem QDf (x : Operand) : vcQ P N ops (⟨some r, .assign x, ty, pos, af, none⟩ :: rest) e w KQ = arg e x (fun v => vcQ P N ops rest ((r, v) :: e) w KQ) := rfl
theorem QJv (c x y : Operand) : Qa3 P N ops (⟨some r, .pick c x y, ty, pos, af, none⟩ :: rest) e w K = arg e c fun vc => Qp5 vc (arg e x (fun v => Qa3 P N ops rest ((r, v) :: e) w K)) (arg e y (fun v => Qa3 P N ops rest ((r, v) :: e) w K)) := rfl
theorem QF6 (c x y : Operand) (jj : Nat) (bb : Bool) : Qa3 P N ops (⟨some r, .pick c x y, ty, pos, af, some (jj, bb)⟩ :: rest) e w K = Qbc ops jj bb e (fun e => arg e c fun vc => Qp5 vc (arg e x (fun v => Qa3 P N ops rest ((r, v) :: e) w K)) (arg e y (fun v => Qa3 P N ops rest ((r, v) :: e) w K))) (fun e => Qa3 P N ops rest ((r, undef) :: e) w K) := by rw [<- Qaz];rfl
theorem QJw (c x y : Operand) : vcQ P N ops (⟨some r, .pick c x y, ty, pos, af, none⟩ :: rest) e w KQ = arg e c fun vc => Qp5 vc (arg e x (fun v => vcQ P N ops rest ((r, v) :: e) w KQ)) (arg e y (fun v => vcQ P N ops rest ((r, v) :: e) w KQ)) := rfl
theorem QF7 (op : BinOp) (T T' : TypeId) (x y : Operand) : Qa3 P N ops (⟨some r, .binOp op T x y T', ty, pos, af, none⟩ :: rest) e w K = arg e x fun a => arg e y fun b => Qbr P op T x y a b w (fun v => Qa3 P N ops rest ((r, v) :: e) w K) := rfl
theorem QDg (op : BinOp) (T T' : TypeId) (x y : Operand) (jj : Nat) (bb : Bool) : Qa3 P N ops (⟨some r, .binOp op T x y T', ty, pos, af, some (jj, bb)⟩ :: rest) e w K = Qbc ops jj bb e (fun e => arg e x fun a => arg e y fun b => Qbr P op T x y a b w (fun v => Qa3 P N ops rest ((r, v) :: e) w K)) (fun e => Qa3 P N ops rest ((r, undef) :: e) w K) := by rw [<- Qaz];rfl
theorem QF8 (op : BinOp) (T T' : TypeId) (x y : Operand) : vcQ P N ops (⟨some r, .binOp op T x y T', ty, pos, af, none⟩ :: rest) e w KQ = arg e x fun a => arg e y fun b => Qbr P op T x y a b w (fun v => vcQ P N ops rest ((r, v) :: e) w KQ) := rfl
theorem QDh (op : BinOp) (T T' : TypeId) (x y : Operand) (jj : Nat) (bb : Bool) : vcQ P N ops (⟨some r, .binOp op T x y T', ty, pos, af, some (jj, bb)⟩ :: rest) e w KQ = Qbc ops jj bb e (fun e => arg e x fun a => arg e y fun b => Qbr P op T x y a b w (fun v => vcQ P N ops rest ((r, v) :: e) w KQ)) (fun e => vcQ P N ops rest ((r, undef) :: e) w KQ) := by rw [<- Qaz];rfl
theorem QJx (op : UnOp) (T : TypeId) (x : Operand) : Qa3 P N ops (⟨some r, .unOp op T x, ty, pos, af, none⟩ :: rest) e w K = arg e x fun a => vUn op a (fun v => Qa3 P N ops rest ((r, v) :: e) w K) := rfl
theorem QF9 (op : UnOp) (T : TypeId) (x : Operand) (jj : Nat) (bb : Bool) : Qa3 P N ops (⟨some r, .unOp op T x, ty, pos, af, some (jj, bb)⟩ :: rest) e w K = Qbc ops jj bb e (fun e => arg e x fun a => vUn op a (fun v => Qa3 P N ops rest ((r, v) :: e) w K)) (fun e => Qa3 P N ops rest ((r, undef) :: e) w K) := by rw [<- Qaz];rfl
theorem QJy (op : UnOp) (T : TypeId) (x : Operand) : vcQ P N ops (⟨some r, .unOp op T x, ty, pos, af, none⟩ :: rest) e w KQ = arg e x fun a => vUn op a (fun v => vcQ P N ops rest ((r, v) :: e) w KQ) := rfl
theorem QGa (op : UnOp) (T : TypeId) (x : Operand) (jj : Nat) (bb : Bool) : vcQ P N ops (⟨some r, .unOp op T x, ty, pos, af, some (jj, bb)⟩ :: rest) e w KQ = Qbc ops jj bb e (fun e => arg e x fun a => vUn op a (fun v => vcQ P N ops rest ((r, v) :: e) w KQ)) (fun e => vcQ P N ops rest ((r, undef) :: e) w KQ) := by rw [<- Qaz];rfl
theorem Qi1 (s d : TypeId) (x : Operand) : Qa3 P N ops (⟨some r, .convert s d x, ty, pos, af, none⟩ :: rest) e w K = Qrw P N (Qbn P s d) ⟨some r, .convert s d x, ty, pos, af, none⟩ e w (Qa3 P N ops rest) K := rfl
theorem QAf (s d : TypeId) (x : Operand) (hc : Qbn P s d = true) : Qa3 P N ops (⟨some r, .convert s d x, ty, pos, af, none⟩ :: rest) e w K = arg e x fun a => Qe2 P s d a w (fun v => Qa3 P N ops rest ((r, v) :: e) w K) := by rw [Qi1, hc];rfl
theorem Qxy (s d : TypeId) (x : Operand) (hc : Qbn P s d = false) : Qa3 P N ops (⟨some r, .convert s d x, ty, pos, af, none⟩ :: rest) e w K = MemK P N ⟨some r, .convert s d x, ty, pos, af, none⟩ e w (Qa3 P N ops rest) K := by rw [Qi1, hc];rfl
theorem Qm6 (s d : TypeId) (x : Operand) (jj : Nat) (bb : Bool) : Qa3 P N ops (⟨some r, .convert s d x, ty, pos, af, some (jj, bb)⟩ :: rest) e w K = Qbc ops jj bb e (fun e => Qrw P N (Qbn P s d) ⟨some r, .convert s d x, ty, pos, af, some (jj, bb)⟩ e w (Qa3 P N ops rest) K) (fun e => Qa3 P N ops rest ((r, undef) :: e) w K) := by rw [<- Qaz];rfl
theorem Qxz (s d : TypeId) (x : Operand) (jj : Nat) (bb : Bool) (hc : Qbn P s d = true) : Qa3 P N ops (⟨some r, .convert s d x, ty, pos, af, some (jj, bb)⟩ :: rest) e w K = Qbc ops jj bb e (fun e => arg e x fun a => Qe2 P s d a w (fun v => Qa3 P N ops rest ((r, v) :: e) w K)) (fun e => Qa3 P N ops rest ((r, undef) :: e) w K) := by rw [Qm6, hc];rfl
theorem Qi2 (s d : TypeId) (x : Operand) : vcQ P N ops (⟨some r, .convert s d x, ty, pos, af, none⟩ :: rest) e w KQ = Qp6 P N (Qbn P s d) ⟨some r, .convert s d x, ty, pos, af, none⟩ e w (vcQ P N ops rest) KQ := rfl
theorem QAg (s d : TypeId) (x : Operand) (hc : Qbn P s d = true) : vcQ P N ops (⟨some r, .convert s d x, ty, pos, af, none⟩ :: rest) e w KQ = arg e x fun a => Qe2 P s d a w (fun v => vcQ P N ops rest ((r, v) :: e) w KQ) := by rw [Qi2, hc];rfl
theorem Qx0 (s d : TypeId) (x : Operand) (hc : Qbn P s d = false) : vcQ P N ops (⟨some r, .convert s d x, ty, pos, af, none⟩ :: rest) e w KQ = Qh6 P N ⟨some r, .convert s d x, ty, pos, af, none⟩ e w (vcQ P N ops rest) KQ := by rw [Qi2, hc];rfl
theorem Qm7 (s d : TypeId) (x : Operand) (jj : Nat) (bb : Bool) : vcQ P N ops (⟨some r, .convert s d x, ty, pos, af, some (jj, bb)⟩ :: rest) e w KQ = Qbc ops jj bb e (fun e => Qp6 P N (Qbn P s d) ⟨some r, .convert s d x, ty, pos, af, some (jj, bb)⟩ e w (vcQ P N ops rest) KQ) (fun e => vcQ P N ops rest ((r, undef) :: e) w KQ) := by rw [<- Qaz];rfl
theorem Qx1 (s d : TypeId) (x : Operand) (jj : Nat) (bb : Bool) (hc : Qbn P s d = true) : vcQ P N ops (⟨some r, .convert s d x, ty, pos, af, some (jj, bb)⟩ :: rest) e w KQ = Qbc ops jj bb e (fun e => arg e x fun a => Qe2 P s d a w (fun v => vcQ P N ops rest ((r, v) :: e) w KQ)) (fun e => vcQ P N ops rest ((r, undef) :: e) w KQ) := by rw [Qm7, hc];rfl
theorem QGb (T : TypeId) (x : Operand) (lo hi : Option Operand) : Qa3 P N ops (⟨some r, .slice T x lo hi none, ty, pos, af, none⟩ :: rest) e w K = arg e x fun a => argO e lo fun l => argO e hi fun h => Qb3 P T a l h (fun v => Qa3 P N ops rest ((r, v) :: e) w K) := rfl
theorem QDi (T : TypeId) (x : Operand) (lo hi : Option Operand) (jj : Nat) (bb : Bool) : Qa3 P N ops (⟨some r, .slice T x lo hi none, ty, pos, af, some (jj, bb)⟩ :: rest) e w K = Qbc ops jj bb e (fun e => arg e x fun a => argO e lo fun l => argO e hi fun h => Qb3 P T a l h (fun v => Qa3 P N ops rest ((r, v) :: e) w K)) (fun e => Qa3 P N ops rest ((r, undef) :: e) w K) := by rw [<- Qaz];rfl
theorem QGc (T : TypeId) (x : Operand) (lo hi : Option Operand) : vcQ P N ops (⟨some r, .slice T x lo hi none, ty, pos, af, none⟩ :: rest) e w KQ = arg e x fun a => argO e lo fun l => argO e hi fun h => Qb3 P T a l h (fun v => vcQ P N ops rest ((r, v) :: e) w KQ) := rfl
theorem Quf (S : TypeId) (x : Operand) (f : Nat) : Qa3 P N ops (⟨some r, .fieldAddr S x f, ty, pos, af, none⟩ :: rest) e w K = arg e x fun a => Qa4 P S a f (fun v => Qa3 P N ops rest ((r, v) :: e) w K) := rfl
theorem Qr1 (S : TypeId) (x : Operand) (f : Nat) (jj : Nat) (bb : Bool) : Qa3 P N ops (⟨some r, .fieldAddr S x f, ty, pos, af, some (jj, bb)⟩ :: rest) e w K = Qbc ops jj bb e (fun e => arg e x fun a => Qa4 P S a f (fun v => Qa3 P N ops rest ((r, v) :: e) w K)) (fun e => Qa3 P N ops rest ((r, undef) :: e) w K) := by rw [<- Qaz];rfl
theorem Qug (S : TypeId) (x : Operand) (f : Nat) : vcQ P N ops (⟨some r, .fieldAddr S x f, ty, pos, af, none⟩ :: rest) e w KQ = arg e x fun a => Qa4 P S a f (fun v => vcQ P N ops rest ((r, v) :: e) w KQ) := rfl
theorem Qr2 (S : TypeId) (x : Operand) (f : Nat) (jj : Nat) (bb : Bool) : vcQ P N ops (⟨some r, .fieldAddr S x f, ty, pos, af, some (jj, bb)⟩ :: rest) e w KQ = Qbc ops jj bb e (fun e => arg e x fun a => Qa4 P S a f (fun v => vcQ P N ops rest ((r, v) :: e) w KQ)) (fun e => vcQ P N ops rest ((r, undef) :: e) w KQ) := by rw [<- Qaz];rfl
theorem Quh (T : TypeId) (x i : Operand) : Qa3 P N ops (⟨some r, .indexAddr T x i, ty, pos, af, none⟩ :: rest) e w K = arg e x fun a => arg e i fun n => Qba P T a n (fun v => Qa3 P N ops rest ((r, v) :: e) w K) := rfl
theorem Qr3 (T : TypeId) (x i : Operand) (jj : Nat) (bb : Bool) : Qa3 P N ops (⟨some r, .indexAddr T x i, ty, pos, af, some (jj, bb)⟩ :: rest) e w K = Qbc ops jj bb e (fun e => arg e x fun a => arg e i fun n => Qba P T a n (fun v => Qa3 P N ops rest ((r, v) :: e) w K)) (fun e => Qa3 P N ops rest ((r, undef) :: e) w K) := by rw [<- Qaz];rfl
theorem Qui (T : TypeId) (x i : Operand) : vcQ P N ops (⟨some r, .indexAddr T x i, ty, pos, af, none⟩ :: rest) e w KQ = arg e x fun a => arg e i fun n => Qba P T a n (fun v => vcQ P N ops rest ((r, v) :: e) w KQ) := rfl
theorem Qr4 (T : TypeId) (x i : Operand) (jj : Nat) (bb : Bool) : vcQ P N ops (⟨some r, .indexAddr T x i, ty, pos, af, some (jj, bb)⟩ :: rest) e w KQ = Qbc ops jj bb e (fun e => arg e x fun a => arg e i fun n => Qba P T a n (fun v => vcQ P N ops rest ((r, v) :: e) w KQ)) (fun e => vcQ P N ops rest ((r, undef) :: e) w KQ) := by rw [<- Qaz];rfl
theorem QGd (T : TypeId) (x i : Operand) : Qa3 P N ops (⟨some r, .index T x i, ty, pos, af, none⟩ :: rest) e w K = arg e x fun a => arg e i fun n => Qd1 P T a n (fun v => Qa3 P N ops rest ((r, v) :: e) w K) := rfl
theorem QDj (T : TypeId) (x i : Operand) (jj : Nat) (bb : Bool) : Qa3 P N ops (⟨some r, .index T x i, ty, pos, af, some (jj, bb)⟩ :: rest) e w K = Qbc ops jj bb e (fun e => arg e x fun a => arg e i fun n => Qd1 P T a n (fun v => Qa3 P N ops rest ((r, v) :: e) w K)) (fun e => Qa3 P N ops rest ((r, undef) :: e) w K) := by rw [<- Qaz];rfl
theorem QGe (T : TypeId) (x i : Operand) : vcQ P N ops (⟨some r, .index T x i, ty, pos, af, none⟩ :: rest) e w KQ = arg e x fun a => arg e i fun n => Qd1 P T a n (fun v => vcQ P N ops rest ((r, v) :: e) w KQ) := rfl
theorem QDk (T : TypeId) (x i : Operand) (jj : Nat) (bb : Bool) : vcQ P N ops (⟨some r, .index T x i, ty, pos, af, some (jj, bb)⟩ :: rest) e w KQ = Qbc ops jj bb e (fun e => arg e x fun a => arg e i fun n => Qd1 P T a n (fun v => vcQ P N ops rest ((r, v) :: e) w KQ)) (fun e => vcQ P N ops rest ((r, undef) :: e) w KQ) := by rw [<- Qaz];rfl
theorem QAh (x : Operand) (i : Nat) : Qa3 P N ops (⟨some r, .extract x i, ty, pos, af, none⟩ :: rest) e w K = arg e x fun a => Qio a i (fun v => Qa3 P N ops rest ((r, v) :: e) w K) := rfl
theorem QAi (x : Operand) (i : Nat) : vcQ P N ops (⟨some r, .extract x i, ty, pos, af, none⟩ :: rest) e w KQ = arg e x fun a => Qio a i (fun v => vcQ P N ops rest ((r, v) :: e) w KQ) := rfl
theorem Qm8 (T : TypeId) (x : Operand) : Qa3 P N ops (⟨some r, .makeInterface T x, ty, pos, af, none⟩ :: rest) e w K = arg e x fun a => Qip P T a (fun v => Qa3 P N ops rest ((r, v) :: e) w K) := rfl
theorem Qx2 (fn : Go.Fn) (a b : Array Operand) : Qa3 P N ops (⟨some r, .makeFunc fn a b, ty, pos, af, none⟩ :: rest) e w K = argL e a.toList fun fs => argL e b.toList fun cs => ((fun v => Qa3 P N ops rest ((r, v) :: e) w K)) (.func fn fs.toArray cs.toArray) := rfl
theorem QGf (T : TypeId) (ps : Array (Nat × Operand)) : Qa3 P N ops (⟨some r, .build T ps, ty, pos, af, none⟩ :: rest) e w K = Qgy e ps.toList fun vs => Qc0 P T vs (fun v => Qa3 P N ops rest ((r, v) :: e) w K) := rfl
theorem QDl (T : TypeId) (ps : Array (Nat × Operand)) (jj : Nat) (bb : Bool) : Qa3 P N ops (⟨some r, .build T ps, ty, pos, af, some (jj, bb)⟩ :: rest) e w K = Qbc ops jj bb e (fun e => Qgy e ps.toList fun vs => Qc0 P T vs (fun v => Qa3 P N ops rest ((r, v) :: e) w K)) (fun e => Qa3 P N ops rest ((r, undef) :: e) w K) := by rw [<- Qaz];rfl
theorem QGg (T : TypeId) (ps : Array (Nat × Operand)) : vcQ P N ops (⟨some r, .build T ps, ty, pos, af, none⟩ :: rest) e w KQ = Qgy e ps.toList fun vs => Qc0 P T vs (fun v => vcQ P N ops rest ((r, v) :: e) w KQ) := rfl
theorem QJz (T : TypeId) (x : Operand) : Qa3 P N ops (⟨some r, .load T x, ty, pos, af, none⟩ :: rest) e w K = arg e x fun a => Qb0 P T a w (fun v => Qa3 P N ops rest ((r, v) :: e) w K) := rfl
theorem QGh (T : TypeId) (x : Operand) (jj : Nat) (bb : Bool) : Qa3 P N ops (⟨some r, .load T x, ty, pos, af, some (jj, bb)⟩ :: rest) e w K = Qbc ops jj bb e (fun e => arg e x fun a => Qb0 P T a w (fun v => Qa3 P N ops rest ((r, v) :: e) w K)) (fun e => Qa3 P N ops rest ((r, undef) :: e) w K) := by rw [<- Qaz];rfl
theorem QJ0 (T : TypeId) (x : Operand) : vcQ P N ops (⟨some r, .load T x, ty, pos, af, none⟩ :: rest) e w KQ = arg e x fun a => Qb0 P T a w (fun v => vcQ P N ops rest ((r, v) :: e) w KQ) := rfl
theorem QGi (T : TypeId) (x : Operand) (jj : Nat) (bb : Bool) : vcQ P N ops (⟨some r, .load T x, ty, pos, af, some (jj, bb)⟩ :: rest) e w KQ = Qbc ops jj bb e (fun e => arg e x fun a => Qb0 P T a w (fun v => vcQ P N ops rest ((r, v) :: e) w KQ)) (fun e => vcQ P N ops rest ((r, undef) :: e) w KQ) := by rw [<- Qaz];rfl
theorem Qx3 (x : Operand) : Qa3 P N ops (⟨some r, .nilCheck x, ty, pos, af, none⟩ :: rest) e w K = arg e x fun a => vNil a (fun v => Qa3 P N ops rest ((r, v) :: e) w K) := rfl
theorem Quj (x : Operand) (jj : Nat) (bb : Bool) : Qa3 P N ops (⟨some r, .nilCheck x, ty, pos, af, some (jj, bb)⟩ :: rest) e w K = Qbc ops jj bb e (fun e => arg e x fun a => vNil a (fun v => Qa3 P N ops rest ((r, v) :: e) w K)) (fun e => Qa3 P N ops rest ((r, undef) :: e) w K) := by rw [<- Qaz];rfl
theorem Qx4 (x : Operand) : vcQ P N ops (⟨some r, .nilCheck x, ty, pos, af, none⟩ :: rest) e w KQ = arg e x fun a => vNil a (fun v => vcQ P N ops rest ((r, v) :: e) w KQ) := rfl
theorem Quk (x : Operand) (jj : Nat) (bb : Bool) : vcQ P N ops (⟨some r, .nilCheck x, ty, pos, af, some (jj, bb)⟩ :: rest) e w KQ = Qbc ops jj bb e (fun e => arg e x fun a => vNil a (fun v => vcQ P N ops rest ((r, v) :: e) w KQ)) (fun e => vcQ P N ops rest ((r, undef) :: e) w KQ) := by rw [<- Qaz];rfl
theorem QMr (az : Array Operand) (ts : Array TypeId) : Qa3 P N ops (⟨some r, .call { callee := .builtin .len, args := az, argTypes := ts }, ty, pos, af, none⟩ :: rest) e w K = argL e az.toList fun vs => Qry P ts[0]? vs (fun v => Qa3 P N ops rest ((r, v) :: e) w K) := rfl
theorem QJ1 (az : Array Operand) (ts : Array TypeId) (jj : Nat) (bb : Bool) : Qa3 P N ops (⟨some r, .call { callee := .builtin .len, args := az, argTypes := ts }, ty, pos, af, some (jj, bb)⟩ :: rest) e w K = Qbc ops jj bb e (fun e => argL e az.toList fun vs => Qry P ts[0]? vs (fun v => Qa3 P N ops rest ((r, v) :: e) w K)) (fun e => Qa3 P N ops rest ((r, undef) :: e) w K) := by rw [<- Qaz];rfl
theorem QMs (az : Array Operand) (ts : Array TypeId) : vcQ P N ops (⟨some r, .call { callee := .builtin .len, args := az, argTypes := ts }, ty, pos, af, none⟩ :: rest) e w KQ = argL e az.toList fun vs => Qry P ts[0]? vs (fun v => vcQ P N ops rest ((r, v) :: e) w KQ) := rfl
theorem QJ2 (az : Array Operand) (ts : Array TypeId) (jj : Nat) (bb : Bool) : vcQ P N ops (⟨some r, .call { callee := .builtin .len, args := az, argTypes := ts }, ty, pos, af, some (jj, bb)⟩ :: rest) e w KQ = Qbc ops jj bb e (fun e => argL e az.toList fun vs => Qry P ts[0]? vs (fun v => vcQ P N ops rest ((r, v) :: e) w KQ)) (fun e => vcQ P N ops rest ((r, undef) :: e) w KQ) := by rw [<- Qaz];rfl
theorem QMt (az : Array Operand) (ts : Array TypeId) : Qa3 P N ops (⟨some r, .call { callee := .builtin .min, args := az, argTypes := ts }, ty, pos, af, none⟩ :: rest) e w K = argL e az.toList fun vs => vMin vs (fun v => Qa3 P N ops rest ((r, v) :: e) w K) := rfl
theorem QMu (az : Array Operand) (ts : Array TypeId) : Qa3 P N ops (⟨some r, .call { callee := .builtin .max, args := az, argTypes := ts }, ty, pos, af, none⟩ :: rest) e w K = argL e az.toList fun vs => vMax vs (fun v => Qa3 P N ops rest ((r, v) :: e) w K) := rfl
theorem QDm (az : Array Operand) (ts : Array TypeId) : Qa3 P N ops (⟨d, .call { callee := .builtin .append, args := az, argTypes := ts }, ty, pos, af, none⟩ :: rest) e w K = MemK P N ⟨d, .call { callee := .builtin .append, args := az, argTypes := ts }, ty, pos, af, none⟩ e w (Qa3 P N ops rest) K := rfl
theorem QDn (az : Array Operand) (ts : Array TypeId) : vcQ P N ops (⟨d, .call { callee := .builtin .append, args := az, argTypes := ts }, ty, pos, af, none⟩ :: rest) e w KQ = Qh6 P N ⟨d, .call { callee := .builtin .append, args := az, argTypes := ts }, ty, pos, af, none⟩ e w (vcQ P N ops rest) KQ := rfl
theorem QJ3 (az : Array Operand) (ts : Array TypeId) : vcQ P N ops (⟨d, .call { callee := .builtin .copy, args := az, argTypes := ts }, ty, pos, af, none⟩ :: rest) e w KQ = Qh6 P N ⟨d, .call { callee := .builtin .copy, args := az, argTypes := ts }, ty, pos, af, none⟩ e w (vcQ P N ops rest) KQ := rfl
theorem QGj (x : Operand) (az : Array Operand) (ts : Array TypeId) : Qa3 P N ops (⟨d, .call { callee := .value x, args := az, argTypes := ts }, ty, pos, af, none⟩ :: rest) e w K = MemK P N ⟨d, .call { callee := .value x, args := az, argTypes := ts }, ty, pos, af, none⟩ e w (Qa3 P N ops rest) K := rfl
theorem QDo (x : Operand) (az : Array Operand) (ts : Array TypeId) (jj : Nat) (bb : Bool) : Qa3 P N ops (⟨d, .call { callee := .value x, args := az, argTypes := ts }, ty, pos, af, some (jj, bb)⟩ :: rest) e w K = Qbc ops jj bb e (fun e => MemK P N ⟨d, .call { callee := .value x, args := az, argTypes := ts }, ty, pos, af, some (jj, bb)⟩ e w (Qa3 P N ops rest) K) (fun e => Qa3 P N ops rest (e.put d undef) w K) := by rw [<- Qaz];rfl
theorem QGk (x : Operand) (az : Array Operand) (ts : Array TypeId) : vcQ P N ops (⟨d, .call { callee := .value x, args := az, argTypes := ts }, ty, pos, af, none⟩ :: rest) e w KQ = Qh6 P N ⟨d, .call { callee := .value x, args := az, argTypes := ts }, ty, pos, af, none⟩ e w (vcQ P N ops rest) KQ := rfl
theorem QDp (x : Operand) (az : Array Operand) (ts : Array TypeId) (jj : Nat) (bb : Bool) : vcQ P N ops (⟨d, .call { callee := .value x, args := az, argTypes := ts }, ty, pos, af, some (jj, bb)⟩ :: rest) e w KQ = Qbc ops jj bb e (fun e => Qh6 P N ⟨d, .call { callee := .value x, args := az, argTypes := ts }, ty, pos, af, some (jj, bb)⟩ e w (vcQ P N ops rest) KQ) (fun e => vcQ P N ops rest (e.put d undef) w KQ) := by rw [<- Qaz];rfl
theorem QGl (T : TypeId) : Qa3 P N ops (⟨d, .alloc T, ty, pos, af, none⟩ :: rest) e w K = MemK P N ⟨d, .alloc T, ty, pos, af, none⟩ e w (Qa3 P N ops rest) K := rfl
theorem QGm (T : TypeId) : vcQ P N ops (⟨d, .alloc T, ty, pos, af, none⟩ :: rest) e w KQ = Qh6 P N ⟨d, .alloc T, ty, pos, af, none⟩ e w (vcQ P N ops rest) KQ := rfl
theorem QMv (T : TypeId) (x : Operand) : Qa3 P N ops (⟨d, .box T x, ty, pos, af, none⟩ :: rest) e w K = MemK P N ⟨d, .box T x, ty, pos, af, none⟩ e w (Qa3 P N ops rest) K := rfl
theorem Qr5 (T : TypeId) (n : Nat) (ps : Array (Nat × Operand)) : Qa3 P N ops (⟨d, .buildSlice T n ps, ty, pos, af, none⟩ :: rest) e w K = MemK P N ⟨d, .buildSlice T n ps, ty, pos, af, none⟩ e w (Qa3 P N ops rest) K := rfl
theorem Qr6 (T : TypeId) (n : Nat) (ps : Array (Nat × Operand)) : vcQ P N ops (⟨d, .buildSlice T n ps, ty, pos, af, none⟩ :: rest) e w KQ = Qh6 P N ⟨d, .buildSlice T n ps, ty, pos, af, none⟩ e w (vcQ P N ops rest) KQ := rfl
theorem QGn (T : TypeId) (x y : Operand) : Qa3 P N ops (⟨d, .store T x y, ty, pos, af, none⟩ :: rest) e w K = MemK P N ⟨d, .store T x y, ty, pos, af, none⟩ e w (Qa3 P N ops rest) K := rfl
theorem QGo (T : TypeId) (x y : Operand) : vcQ P N ops (⟨d, .store T x y, ty, pos, af, none⟩ :: rest) e w KQ = Qh6 P N ⟨d, .store T x y, ty, pos, af, none⟩ e w (vcQ P N ops rest) KQ := rfl
theorem Qul (T : TypeId) (x y : Operand) : Qa3 P N ops (⟨d, .makeSlice T x y, ty, pos, af, none⟩ :: rest) e w K = MemK P N ⟨d, .makeSlice T x y, ty, pos, af, none⟩ e w (Qa3 P N ops rest) K := rfl
theorem Qum (T : TypeId) (x y : Operand) : vcQ P N ops (⟨d, .makeSlice T x y, ty, pos, af, none⟩ :: rest) e w KQ = Qh6 P N ⟨d, .makeSlice T x y, ty, pos, af, none⟩ e w (vcQ P N ops rest) KQ := rfl
theorem Qr7 (x : Operand) (T T' : TypeId) (c : Bool) : Qa3 P N ops (⟨d, .typeAssert x T T' c, ty, pos, af, none⟩ :: rest) e w K = MemK P N ⟨d, .typeAssert x T T' c, ty, pos, af, none⟩ e w (Qa3 P N ops rest) K := rfl
theorem QGp (c : Call) : Qa3 P N ops (⟨d, .defer c, ty, pos, af, none⟩ :: rest) e w K = MemK P N ⟨d, .defer c, ty, pos, af, none⟩ e w (Qa3 P N ops rest) K := rfl
theorem QGq (x : Operand) : Qa3 P N ops (⟨d, .panic x, ty, pos, af, none⟩ :: rest) e w K = MemK P N ⟨d, .panic x, ty, pos, af, none⟩ e w (Qa3 P N ops rest) K := rfl
theorem QDq (v : Value) : Env.put e (some t) v = (t, v) :: e := rfl
theorem QDr (v : Value) : Env.put e none v = e := rfl
theorem QMw : arg e (.tmp t) KV = argT e t KV := rfl
theorem QGr (v : Value) : arg e (.const v) KV = KV v := rfl
theorem QDs (g : Nat) : arg e (.global g) KV = KV (.pointer (some ⟨g, 0, none⟩)) := rfl
theorem QJ4 (f : Nat) : arg e (.func f) KV = KV (.func (.func f) #[] #[]) := rfl
theorem QMx (v : Value) : argT ((t, v) :: e) t KV = KV v := by simp [argT]
theorem QJ5 (s : Nat) (v : Value) : argT ((s, v) :: e) t KV = if t = s then KV v else argT e t KV := rfl
theorem QJ6 {KL : List Value -> Prop} : argL e [] KL = KL [] := rfl
theorem QGs {KL : List Value -> Prop} (x : Operand) (xs : List Operand) : argL e (x :: xs) KL = arg e x fun v => argL e xs fun vs => KL (v :: vs) := rfl
theorem QJ7 {KL : List Value -> Prop} (xs : List Operand) : argL e (List.toArray xs).toList KL = argL e xs KL := rfl
theorem QJ8 {KL : List (Nat × Value) -> Prop} (xs : List (Nat × Operand)) : Qgy e (List.toArray xs).toList KL = Qgy e xs KL := rfl
theorem QGt {KO : Option Value -> Prop} : argO e none KO = KO none := rfl
theorem QGu {KO : Option Value -> Prop} (x : Operand) : argO e (some x) KO = arg e x fun v => KO (some v) := rfl
theorem QJ9 {KL : List (Nat × Value) -> Prop} : Qgy e [] KL = KL [] := rfl
theorem QGv {KL : List (Nat × Value) -> Prop} (i : Nat) (x : Operand) (xs : List (Nat × Operand)) : Qgy e ((i, x) :: xs) KL = arg e x fun v => Qgy e xs fun vs => KL ((i, v) :: vs) := rfl
theorem pk_t {A B : Prop} : Qp5 (.bool true) A B = A := rfl
theorem pk_f {A B : Prop} : Qp5 (.bool false) A B = B := rfl
theorem lenl (T : TypeId) (ts : List TypeId) (v : Value) : Qry P (List.toArray (T :: ts))[0]? [v] KV = vLen P T v KV := by simp [Qry]
theorem QMy (T : TypeId) (x y : Operand) (k : IntKind) (a b : Int) : Qbr P .add T x y (.int k a) (.int k b) w KV = Qdz k (a + b) KV := by simp [Qbr, vBin, vInt]
theorem QMz (T : TypeId) (x y : Operand) (k : IntKind) (a b : Int) : Qbr P .sub T x y (.int k a) (.int k b) w KV = Qdz k (a - b) KV := by simp [Qbr, vBin, vInt]
theorem QM0 (T : TypeId) (x y : Operand) (k : IntKind) (a b : Int) : Qbr P .mul T x y (.int k a) (.int k b) w KV = Qdz k (a * b) KV := by simp [Qbr, vBin, vInt]
theorem QM1 (T : TypeId) (x y : Operand) (k : IntKind) (a b : Int) : Qbr P .quo T x y (.int k a) (.int k b) w KV = (0 <= a /\ 0 < b /\ Qdz k (a / b) KV) := by simp [Qbr, vBin, vInt]
theorem QM2 (T : TypeId) (x y : Operand) (k : IntKind) (a b : Int) : Qbr P .rem T x y (.int k a) (.int k b) w KV = (0 <= a /\ 0 < b /\ KV (.int k (a % b))) := by simp [Qbr, vBin, vInt]
theorem QM3 (T : TypeId) (x y : Operand) (k : IntKind) (a b : Int) : Qbr P .and T x y (.int k a) (.int k b) w KV = (Fit0 k a /\ Fit0 k b /\ KV (.int k ((a.toNat &&& b.toNat : Nat) : Int))) := by simp [Qbr, vBin, vInt, vBit]
theorem b_or (T : TypeId) (x y : Operand) (k : IntKind) (a b : Int) : Qbr P .or T x y (.int k a) (.int k b) w KV = (Fit0 k a /\ Fit0 k b /\ KV (.int k ((a.toNat ||| b.toNat : Nat) : Int))) := by simp [Qbr, vBin, vInt, vBit]
theorem QM4 (T : TypeId) (x y : Operand) (k : IntKind) (a b : Int) : Qbr P .xor T x y (.int k a) (.int k b) w KV = (Fit0 k a /\ Fit0 k b /\ KV (.int k ((a.toNat ^^^ b.toNat : Nat) : Int))) := by simp [Qbr, vBin, vInt, vBit]
theorem QM5 (T : TypeId) (x y : Operand) (k : IntKind) (a b : Int) : Qbr P .eql T x y (.int k a) (.int k b) w KV = KV (.bool (decide (a = b))) := by simp [Qbr, vBin, vInt]
theorem QM6 (T : TypeId) (x y : Operand) (k : IntKind) (a b : Int) : Qbr P .neq T x y (.int k a) (.int k b) w KV = KV (.bool (decide (¬ a = b))) := by simp [Qbr, vBin, vInt]
theorem QM7 (T : TypeId) (x y : Operand) (k : IntKind) (a b : Int) : Qbr P .lss T x y (.int k a) (.int k b) w KV = KV (.bool (decide (a < b))) := by simp [Qbr, vBin, vInt]
theorem QM8 (T : TypeId) (x y : Operand) (k : IntKind) (a b : Int) : Qbr P .leq T x y (.int k a) (.int k b) w KV = KV (.bool (decide (a <= b))) := by simp [Qbr, vBin, vInt]
theorem QM9 (T : TypeId) (x y : Operand) (k : IntKind) (a b : Int) : Qbr P .gtr T x y (.int k a) (.int k b) w KV = KV (.bool (decide (b < a))) := by simp [Qbr, vBin, vInt]
theorem QNa (T : TypeId) (x y : Operand) (k : IntKind) (a b : Int) : Qbr P .geq T x y (.int k a) (.int k b) w KV = KV (.bool (decide (b <= a))) := by simp [Qbr, vBin, vInt]
theorem QNb (T : TypeId) (x y : Operand) (k k' : IntKind) (a b : Int) : Qbr P .shl T x y (.int k a) (.int k' b) w KV = (0 <= b /\ Qdz k (a * 2 ^ shN k b) KV) := by simp [Qbr, vBin]
theorem QNc (T : TypeId) (x y : Operand) (k k' : IntKind) (a b : Int) : Qbr P .shr T x y (.int k a) (.int k' b) w KV = (0 <= b /\ KV (.int k (a / 2 ^ shN k b))) := by simp [Qbr, vBin]
theorem QKa (T : TypeId) (x y : Operand) (s u : ByteArray) : Qbr P .add T x y (.string s) (.string u) w KV = (((toL s).length + (toL u).length : Int) <= 9223372036854775807 /\ KV (Str (toL s ++ toL u))) := by simp [Qbr, vBin, vStr]
theorem QKb (T : TypeId) (x y : Operand) (s u : ByteArray) : Qbr P .eql T x y (.string s) (.string u) w KV = KV (.bool (decide (toL s = toL u))) := by simp [Qbr, vBin, vStr]
theorem QKc (T : TypeId) (x y : Operand) (s u : ByteArray) : Qbr P .neq T x y (.string s) (.string u) w KV = KV (.bool (decide (¬ toL s = toL u))) := by simp [Qbr, vBin, vStr]
theorem QKd (T : TypeId) (x y : Operand) (s u : ByteArray) : Qbr P .lss T x y (.string s) (.string u) w KV = KV (.bool (Op.bytesLess (toL s) (toL u))) := by simp [Qbr, vBin, vStr]
theorem QKe (T : TypeId) (x y : Operand) (s u : ByteArray) : Qbr P .leq T x y (.string s) (.string u) w KV = KV (.bool (!Op.bytesLess (toL u) (toL s))) := by simp [Qbr, vBin, vStr]
theorem QKf (T : TypeId) (x y : Operand) (s u : ByteArray) : Qbr P .gtr T x y (.string s) (.string u) w KV = KV (.bool (Op.bytesLess (toL u) (toL s))) := by simp [Qbr, vBin, vStr]
theorem QKg (T : TypeId) (x y : Operand) (s u : ByteArray) : Qbr P .geq T x y (.string s) (.string u) w KV = KV (.bool (!Op.bytesLess (toL s) (toL u))) := by simp [Qbr, vBin, vStr]
theorem QKh (T : TypeId) (x y : Operand) (a b : Bool) (h : P.underlying T = some .bool) : Qbr P .eql T x y (.bool a) (.bool b) w KV = KV (.bool (decide (a = b))) := by simp [Qbr, vBin, h]
theorem QKi (T : TypeId) (x y : Operand) (a b : Bool) (h : P.underlying T = some .bool) : Qbr P .neq T x y (.bool a) (.bool b) w KV = KV (.bool (decide (¬ a = b))) := by simp [Qbr, vBin, h]
theorem QNd (n : Int) : Qdz .i64 n KV = (I64 n /\ KV (.int .i64 n)) := rfl
theorem w_u8 (n : Int) : Qdz .u8 n KV = KV (.int .u8 (n % 256)) := rfl
theorem QNe (n : Int) : Qdz .u16 n KV = KV (.int .u16 (n % 65536)) := rfl
theorem QNf (n : Int) : Qdz .u32 n KV = KV (.int .u32 (n % 4294967296)) := rfl
theorem QNg (n : Int) : Qdz .u64 n KV = KV (.int .u64 (n % 18446744073709551616)) := rfl
theorem QNh (b : Bool) : vUn .not (.bool b) KV = KV (.bool (!b)) := rfl
theorem QNi (k : IntKind) (n : Int) : vUn .neg (.int k n) KV = Qdz k (-n) KV := rfl
theorem QNj (n : Int) : vUn .xor (.int .u32 n) KV = ((0 <= n /\ n <= 4294967295) /\ KV (.int .u32 (4294967295 - n))) := rfl
theorem QNk (a : Addr) : vNil (.pointer (some a)) KV = KV (.pointer (some a)) := rfl
theorem n_fn (f : Nat) (p c : Array Value) : vNil (.func (.func f) p c) KV = KV (.func (.func f) p c) := rfl
theorem n_if (T : Nat) (v : Value) : vNil (.iface T v) KV = KV (.iface T v) := rfl
theorem mn2 (k k' : IntKind) (x y : Int) : vMin [.int k x, .int k' y] KV = KV (.int k (min x y)) := rfl
theorem mn3 (k k' k'' : IntKind) (x y z : Int) : vMin [.int k x, .int k' y, .int k'' z] KV = KV (.int k (min (min x y) z)) := rfl
theorem mx2 (k k' : IntKind) (x y : Int) : vMax [.int k x, .int k' y] KV = KV (.int k (max x y)) := rfl
theorem mx3 (k k' k'' : IntKind) (x y z : Int) : vMax [.int k x, .int k' y, .int k'' z] KV = KV (.int k (max (max x y) z)) := rfl
theorem QKj (T : TypeId) (s : ByteArray) (h : P.underlying T = some .string) : vLen P T (.string s) KV = KV (.int .i64 (toL s).length) := by simp [vLen, h]
theorem Qun (T E : TypeId) (a : Option Addr) (n c : Nat) (h : P.underlying T = some (.slice E)) : vLen P T (.slice a n c) KV = KV (.int .i64 n) := by simp [vLen, h]
theorem QKk (T : TypeId) (s : ByteArray) (k : IntKind) (n : Int) (h : P.underlying T = some .string) : Qd1 P T (.string s) (.int k n) KV = ((0 <= n /\ n < (toL s).length) /\ KV (.int .u8 ((toL s).getD n.toNat 0).toNat)) := by simp [Qd1, h]
theorem QNl (T : TypeId) (s : ByteArray) (h : P.underlying T = some .string) : Qb3 P T (.string s) none none KV = KV (.string s) := by simp [Qb3, h]
theorem QNm (T : TypeId) (s : ByteArray) (k : IntKind) (l : Int) (h : P.underlying T = some .string) : Qb3 P T (.string s) (some (.int k l)) none KV = ((0 <= l /\ l <= (toL s).length) /\ KV (Str ((toL s).drop l.toNat))) := by simp [Qb3, h]
theorem QNn (T : TypeId) (s : ByteArray) (k : IntKind) (l : Int) (h : P.underlying T = some .string) : Qb3 P T (.string s) none (some (.int k l)) KV = ((0 <= l /\ l <= (toL s).length) /\ KV (Str ((toL s).take l.toNat))) := by simp [Qb3, h]
theorem QNo (T : TypeId) (s : ByteArray) (k k' : IntKind) (l m : Int) (h : P.underlying T = some .string) : Qb3 P T (.string s) (some (.int k l)) (some (.int k' m)) KV = ((0 <= l /\ l <= m /\ m <= (toL s).length) /\ KV (Str (((toL s).drop l.toNat).take (m.toNat - l.toNat)))) := by simp [Qb3, h]
theorem QGw (T E : TypeId) (a : Option Addr) (n c z : Nat) (h : P.underlying T = some (.slice E)) (hz : P.szo E = some z) : Qb3 P T (.slice a n c) none none KV = (n <= c /\ KV (.slice a n c)) := by simp [Qb3, h, hz]
theorem QGx (T E : TypeId) (a : Option Addr) (n c z : Nat) (k : IntKind) (l : Int) (h : P.underlying T = some (.slice E)) (hz : P.szo E = some z) : Qb3 P T (.slice a n c) (some (.int k l)) none KV = ((0 <= l /\ l <= n /\ n <= c) /\ KV (.slice (if c = l.toNat then a else a.map (·.add (l.toNat * z))) (n - l.toNat) (c - l.toNat))) := by simp [Qb3, h, hz]
theorem QGy (T E : TypeId) (a : Option Addr) (n c z : Nat) (k : IntKind) (l : Int) (h : P.underlying T = some (.slice E)) (hz : P.szo E = some z) : Qb3 P T (.slice a n c) none (some (.int k l)) KV = ((0 <= l /\ l <= c) /\ KV (.slice a l.toNat c)) := by simp [Qb3, h, hz]
theorem QGz (T E : TypeId) (a : Option Addr) (n c z : Nat) (k k' : IntKind) (l m : Int) (h : P.underlying T = some (.slice E)) (hz : P.szo E = some z) : Qb3 P T (.slice a n c) (some (.int k l)) (some (.int k' m)) KV = ((0 <= l /\ l <= m /\ m <= c) /\ KV (.slice (if c = l.toNat then a else a.map (·.add (l.toNat * z))) (m.toNat - l.toNat) (c - l.toNat))) := by simp [Qb3, h, hz]
theorem Qgf (s d : TypeId) (ds : TypeDesc) (k k' : IntKind) (n : Int) (h : P.underlying s = some ds) (h' : P.underlying d = some (.int k)) : Qe2 P s d (.int k' n) w KV = Qdz k n KV := by simp [Qe2, h, h']
theorem QKl (s d E : TypeId) (a : Option Addr) (n c : Nat) (h : P.underlying s = some (.slice E)) (h' : P.underlying d = some .string) (h'' : P.underlying E = some (.int .u8)) : Qe2 P s d (.slice a n c) w KV = ∃ l, Qgx w a n l /\ KV (Str l) := by simp [Qe2, h, h', h'']
theorem Quo (T E : TypeId) (a : Addr) (n c z : Nat) (k : IntKind) (i : Int) (h : P.underlying T = some (.slice E)) (hz : P.szo E = some z) : Qba P T (.slice (some a) n c) (.int k i) KV = ((0 <= i /\ i < n) /\ KV (.pointer (some (a.add (i.toNat * z))))) := by simp [Qba, h, hz]
theorem Qup (T E : TypeId) (a : Addr) (n z : Nat) (k : IntKind) (i : Int) (h : P.underlying T = some (.array n E)) (hz : P.szo E = some z) : Qba P T (.pointer (some a)) (.int k i) KV = ((0 <= i /\ i < n) /\ KV (.pointer (some (a.add (i.toNat * z))))) := by simp [Qba, h, hz]
theorem Qgd (S f : Nat) (a : Addr) {fields : Array Field} {fd : Field} {m : Nat} (h : P.underlying S = some (.struct fields)) (hf : fields[f]? = some fd) (hz : P.szo fd.type = some (m + 1)) : Qa4 P S (.pointer (some a)) f KV = KV (.pointer (some (a.add fd.offset))) := by simp [Qa4, h, hf, hz]
theorem Qo4 (T : TypeId) (a : Addr) (k : IntKind) (h : P.underlying T = some (.int k)) : Qb0 P T (.pointer (some a)) w KV = ∃ v, w.cell? a = some v /\ KV v := by simp [Qb0, h]
theorem QG0 (T : TypeId) (a : Addr) (h : P.underlying T = some .bool) : Qb0 P T (.pointer (some a)) w KV = ∃ v, w.cell? a = some v /\ KV v := by simp [Qb0, h]
theorem QKm (T : TypeId) (a : Addr) (h : P.underlying T = some .string) : Qb0 P T (.pointer (some a)) w KV = ∃ v, w.cell? a = some v /\ KV v := by simp [Qb0, h]
theorem Qx5 (T E : TypeId) (a : Addr) (h : P.underlying T = some (.slice E)) : Qb0 P T (.pointer (some a)) w KV = ∃ v, w.cell? a = some v /\ KV v := by simp [Qb0, h]
theorem QKn (T E : TypeId) (a : Addr) (h : P.underlying T = some (.pointer E)) : Qb0 P T (.pointer (some a)) w KV = ∃ v, w.cell? a = some v /\ KV v := by simp [Qb0, h]
theorem QKo (T : TypeId) (ps rs : Array TypeId) (vr : Bool) (a : Addr) (h : P.underlying T = some (.func ps rs vr)) : Qb0 P T (.pointer (some a)) w KV = ∃ v, w.cell? a = some v /\ KV v := by simp [Qb0, h]
theorem QAj (T n : TypeId) (a : Addr) (fs : Array Field) (h : P.underlying T = some (.struct fs)) (hz : P.szo T = some n) : Qb0 P T (.pointer (some a)) w KV = ∃ cs : List Value, (cs.length = n /\ Reads w a cs) /\ KV (.agg cs.toArray) := by simp [Qb0, h, hz]
theorem QDt (T n m E : TypeId) (a : Addr) (h : P.underlying T = some (.array m E)) (hz : P.szo T = some n) : Qb0 P T (.pointer (some a)) w KV = ∃ cs : List Value, (cs.length = n /\ Reads w a cs) /\ KV (.agg cs.toArray) := by simp [Qb0, h, hz]
end
theorem QKp (l : List UInt8) : toL (ByteArray.mk l.toArray) = l := by simp [toL]
attribute [go_sem ↓] QJr QF2 QJq QF1 QJs QF3 QJn QJo QFz QF0 gv_t gv_f Qrz Qm4 QJp Qr0 Qm5 QDd QAe QMl QMm QMn QMo QMp QMq QJt QF4 QJu QF5 QDe QDf QJv QF6 QJw QF7 QDg QF8 QDh QJx QF9 QJy QGa QAf Qxy Qxz QAg Qx0 Qx1 QGb QDi QGc Quf Qr1 Qug Qr2 Quh Qr3 Qui Qr4 QGd QDj QGe QDk QAh QAi Qm8 Qx2 QGf QDl QGg QJz QGh QJ0 QGi Qx3 Quj Qx4 Quk QMr QJ1 QMs QJ2 QMt QMu QDm QDn QJ3 QGj QDo QGk QDp QGl QGm QMv Qr5 Qr6 QGn QGo Qul Qum Qr7 QGp QGq QDq QDr QMw QGr QDs QJ4 QMx QJ5 QJ6 QGs QJ7 QJ8 QGt QGu QJ9 QGv pk_t pk_f lenl QMy QMz QM0 QM1 QM2 QM3 b_or QM4 QM5 QM6 QM7 QM8 QM9 QNa QNb QNc QKa QKb QKc QKd QKe QKf QKg QNd w_u8 QNe QNf QNg QNh QNi QNj QNk n_fn n_if mn2 mn3 mx2 mx3
attribute [go_sem] QKp Nat.mul_one Nat.zero_add List.getElem_toArray List.getElem_cons_zero List.getElem_cons_succ
structure Upd (B : List Nat) (w w' : World) : Prop where
 os : w'.os = w.os
 tape : w'.tape = w.tape
 output : w'.output = w.output
 size : w.heap.size <= w'.heap.size
 block : ∀ k, k < w.heap.size -> k ∉ B -> w'.heap[k]? = w.heap[k]?
theorem Upd.refl (B : List Nat) (w : World) : Upd B w w := ⟨rfl, rfl, rfl, Nat.le_refl _, fun _ _ _ => rfl⟩
theorem Upd.trans {B B' : List Nat} {a b c : World} (h : Upd B a b) (k : Upd B' b c) (hB : ∀ x ∈ B', x ∈ B ∨ a.heap.size <= x) : Upd B a c :=
 ⟨k.os.trans h.os, k.tape.trans h.tape, k.output.trans h.output, Nat.le_trans h.size k.size, fun i hi hn =>
  (k.block i (Nat.lt_of_lt_of_le hi h.size) (fun hx => by rcases hB i hx with h1 | h1;exact hn h1;omega)).trans (h.block i hi hn)⟩
theorem Upd.below {w w' : World} (h : Upd [] w w') : RowKit.Below w.heap.size w w' := ⟨h.os, h.tape, h.output, h.size, fun k hk => h.block k hk (by simp)⟩
theorem Upd.drewN {B : List Nat} {w w' : World} (h : Upd B w w') (n m : Nat) : Upd B (w.drewN n) (w'.drewN m) := ⟨h.os, h.tape, h.output, h.size, h.block⟩
theorem Upd.mono {B B' : List Nat} {w w' : World} (h : Upd B w w') (hs : ∀ x ∈ B, x ∈ B') : Upd B' w w' := ⟨h.os, h.tape, h.output, h.size, fun k hk hn => h.block k hk fun hx => hn (hs k hx)⟩
structure Res where
 foot : List Nat
 holds : World -> Prop
 loc : ∀ w w', (∀ b ∈ foot, w'.heap[b]? = w.heap[b]?) -> holds w -> holds w'
def Apart (r s : Res) : Prop := ∀ b ∈ r.foot, b ∉ s.foot
structure Heap (w0 : World) (B : List Nat) (w : World) (G : List Res) : Prop where
 upd : Upd B w0 w
 holds : ∀ r ∈ G, r.holds w
 foot : ∀ r ∈ G, ∀ b ∈ r.foot, (b ∈ B ∨ w0.heap.size <= b) /\ b < w.heap.size
 apart : G.Pairwise Apart
theorem Apart.symm {r s : Res} (h : Apart r s) : Apart s r := fun b hb hr => h b hr hb
theorem Heap.start (w : World) : Heap w [] w [] := ⟨.refl _ _, by simp, by simp, .nil⟩
theorem Heap.one {w : World} {r : Res} (h : r.holds w) (hf : ∀ b ∈ r.foot, b < w.heap.size) : Heap w r.foot w [r] :=
 ⟨.refl _ _, by simpa using h, by simpa using fun b hb => ⟨.inl hb, hf b hb⟩, by simp⟩
theorem Heap.drewN {w0 w : World} {B : List Nat} {G : List Res} (h : Heap w0 B w G) (n m : Nat) : Heap (w0.drewN n) B (w.drewN m) G :=
 ⟨h.upd.drewN n m, fun r hr => r.loc w _ (fun _ _ => rfl) (h.holds r hr), h.foot, h.apart⟩
theorem Heap.step {w0 w w' : World} {B S : List Nat} {G G' : List Res} (h : Heap w0 B w G) (hs : Heap w S w' G') (hS : ∀ b ∈ S, (b ∈ B ∨ w0.heap.size <= b) /\ ∀ r ∈ G, b ∉ r.foot) : Heap w0 B w' (G' ++ G) := by
 refine ⟨h.upd.trans hs.upd fun x hx => (hS x hx).1, ?_, ?_, ?_⟩
 ·
  intro r hr
  rcases List.mem_append.1 hr with hr | hr
  ·
   exact hs.holds r hr
  ·
   refine r.loc w w' (fun b hb => hs.upd.block b (h.foot r hr b hb).2 fun hx => (hS b hx).2 r hr hb) (h.holds r hr)
 ·
  intro r hr b hb
  rcases List.mem_append.1 hr with hr | hr
  ·
   obtain ⟨h1, h2⟩ := hs.foot r hr b hb
   refine ⟨?_, h2⟩
   rcases h1 with h1 | h1
   ·
    exact (hS b h1).1
   ·
    exact .inr (Nat.le_trans h.upd.size h1)
  ·
   exact ⟨(h.foot r hr b hb).1, Nat.lt_of_lt_of_le (h.foot r hr b hb).2 hs.upd.size⟩
 ·
  rw [List.pairwise_append]
  refine ⟨hs.apart, h.apart, fun r hr s hs' b hb hbs => ?_⟩
  rcases (hs.foot r hr b hb).1 with h1 | h1
  ·
   exact (hS b h1).2 s hs' hbs
  ·
   have := (h.foot s hs' b hbs).2;omega
theorem Heap.call0 {w0 w w' : World} {B : List Nat} {G G' : List Res} (h : Heap w0 B w G) (hs : Heap w [] w' G') : Heap w0 B w' (G' ++ G) := h.step hs (by simp)
theorem Heap.sub {w0 w : World} {B : List Nat} {G G' : List Res} (h : Heap w0 B w G) (hs : G'.Sublist G) : Heap w0 B w G' :=
 ⟨h.upd, fun r hr => h.holds r (hs.subset hr), fun r hr => h.foot r (hs.subset hr), h.apart.sublist hs⟩
theorem Heap.perm {w0 w : World} {B : List Nat} {G G' : List Res} (h : Heap w0 B w G) (hs : G.Perm G') : Heap w0 B w G' :=
 ⟨h.upd, fun r hr => h.holds r (hs.mem_iff.2 hr), fun r hr => h.foot r (hs.mem_iff.2 hr), (hs.pairwise_iff fun h => h.symm).1 h.apart⟩
theorem Heap.step1 {w0 w w' : World} {B : List Nat} {G1 G2 G' : List Res} {r r' : Res} (h : Heap w0 B w (G1 ++ r :: G2)) (hs : Heap w r.foot w' (r' :: G')) : Heap w0 B w' (G' ++ (G1 ++ r' :: G2)) := by
 have hp : (G1 ++ r :: G2).Perm (r :: (G1 ++ G2)) := List.perm_middle
 have h1 := h.perm hp
 have ha := h1.apart
 rw [List.pairwise_cons] at ha
 have h2 : Heap w0 B w (G1 ++ G2) := h1.sub (List.sublist_cons_self _ _)
 have h3 := h2.step hs fun b hb => ⟨(h1.foot r (by simp) b hb).1, fun s hs hbs => ha.1 s hs b hb hbs⟩
 refine h3.perm ?_
 simp only [List.cons_append]
 refine List.Perm.trans ?_ (List.perm_append_left_iff G' |>.2 (List.perm_middle (l₁ := G1) (l₂ := G2) (a := r')).symm)
 exact (List.perm_middle (l₁ := G') (l₂ := G1 ++ G2) (a := r')).symm
theorem QAl {α : Type} (G : List α) (i : Nat) (r r' : α) (h : G[i]? = some r) : ∃ G1 G2, G = G1 ++ r :: G2 /\ G.set i r' = G1 ++ r' :: G2 := by
 induction G generalizing i with
 | nil => simp at h
 | cons a l ih =>
  cases i with
  | zero => simp at h;subst h;exact ⟨[], l, rfl, rfl⟩
  | succ i =>
   obtain ⟨G1, G2, e1, e2⟩ := ih i (by simpa using h)
   exact ⟨a :: G1, G2, by simp [e1], by simp [e2]⟩
theorem Heap.call1 {w0 w w' : World} {B : List Nat} {G G' : List Res} {r r' : Res} (i : Nat) (h : Heap w0 B w G) (hi : G[i]? = some r) (hs : Heap w r.foot w' (r' :: G')) : Heap w0 B w' (G' ++ G.set i r') := by
 obtain ⟨G1, G2, e1, e2⟩ := QAl G i r r' hi
 rw [e2]
 rw [e1] at h
 exact h.step1 hs
theorem Heap.at {w0 w : World} {B : List Nat} {G : List Res} {r : Res} (h : Heap w0 B w G) (i : Nat) (hi : G[i]? = some r) : r.holds w := h.holds r (List.mem_of_getElem? hi)
theorem Heap.set {w0 w w' : World} {B : List Nat} {G : List Res} {r r' : Res} (i : Nat) (h : Heap w0 B w G) (hi : G[i]? = some r) (hu : Upd r.foot w w') (hr : r'.holds w') (hf : ∀ b ∈ r'.foot, (b ∈ r.foot ∨ w.heap.size <= b) /\ b < w'.heap.size) :
  Heap w0 B w' (G.set i r') :=
 h.call1 (G' := []) i hi ⟨hu, by simpa using hr, by simpa using hf, by simp⟩
theorem Heap.view {w0 w : World} {B : List Nat} {G : List Res} {r r' : Res} (i : Nat) (h : Heap w0 B w G) (hi : G[i]? = some r) (hr : r.holds w -> r'.holds w) (hf : ∀ b ∈ r'.foot, b ∈ r.foot) : Heap w0 B w (G.set i r') :=
 h.set i hi (.refl _ _) (hr (h.at i hi)) fun b hb => ⟨.inl (hf b hb), (h.foot r (List.mem_of_getElem? hi) b (hf b hb)).2⟩
theorem Heap.new {w0 w : World} {B : List Nat} {G : List Res} {r : Res} (o : Obj) (h : Heap w0 B w G) (hr : r.holds (w.alloc o)) (hf : ∀ b ∈ r.foot, b = w.heap.size) : Heap w0 B (w.alloc o) (r :: G) := by
 refine h.call0 (G' := [r]) ⟨⟨rfl, rfl, rfl, by simp, fun k hk _ => RowKit.Below.heap_alloc w o k hk⟩, by simpa using hr, ?_, by simp⟩
 intro s hs b hb
 simp at hs;subst hs
 rw [hf b hb]
 simp
theorem Heap.reads {w0 w : World} {B : List Nat} {G : List Res} (h : Heap w0 B w G) {a : Addr} {xs : List Value} (hr : Reads w0 a xs) (hb : a.block ∉ B) : Reads w a xs := by
 intro j u hu
 have h1 := hr j u hu
 have e : (a.add j).block = a.block := by unfold Addr.add;split <;> rfl
 have hlt : a.block < w0.heap.size := by
  have := World.block_lt_of_cell? w0 _ h1
  rwa [e] at this
 rw [World.cell?_of_block (w := w0)]
 ·
  exact h1
 ·
  rw [e];exact h.upd.block _ hlt hb
def RS (w : World) (a : Option Addr) (n sz : Nat) (xs : List Value) : Prop := xs.length = n * sz /\ (a = none -> n = 0) /\ ∀ ad, a = some ad -> Reads w ad xs
theorem Heap.rs {w0 w : World} {B : List Nat} {G : List Res} (h : Heap w0 B w G) {a : Option Addr} {n sz : Nat} {xs : List Value} (hr : RS w0 a n sz xs) (hb : ∀ ad, a = some ad -> ad.block ∉ B) : RS w a n sz xs :=
 ⟨hr.1, hr.2.1, fun ad ha => h.reads (hr.2.2 ad ha) (hb ad ha)⟩
theorem Heap.rs' {w0 w : World} {G : List Res} (h : Heap w0 [] w G) {a : Option Addr} {n sz : Nat} {xs : List Value} (hr : RS w0 a n sz xs) : RS w a n sz xs := h.rs hr (by simp)
def Qbm (l : List Int) : List Value := l.map fun n => .int .i64 n
theorem Qeq (l : List UInt8) : (Qao l).length = l.length := by simp [Qao]
theorem Qh9 (l : List Int) : (Qbm l).length = l.length := by simp [Qbm]
theorem Qe4 {w : World} {a : Option Addr} {n : Nat} {l : List UInt8} (h : RS w a n 1 (Qao l)) : Qgx w a n l :=
 ⟨by have := h.1;simp [Qao] at this;exact this, h.2.1, h.2.2⟩
def Unfz (fz : Nat × Nat) (n : Nat) : Prop := ∀ j, j < n -> ¬ (fz.1 <= j /\ j < fz.2)
def QDu (T sz : Nat) (a : Option Addr) (n cap : Nat) (xs : List Value) (w : World) : Prop :=
 xs.length = n * sz /\ n <= cap /\ cap <= maxLen /\
 ((a = none /\ n = 0 /\ cap = 0) ∨ ∃ g rest fz, a = some ⟨g, 0, none⟩ /\ w.heap[g]? = some (.cells (xs ++ rest).toArray T fz) /\ (xs ++ rest).length = cap * sz /\ Unfz fz (cap * sz))
def Res.row (T sz : Nat) (a : Option Addr) (n cap : Nat) (xs : List Value) : Res where
 foot := (a.map (·.block)).toList
 holds := QDu T sz a n cap xs
 loc := by
  rintro w w' hb ⟨h1, h2, h3, h4⟩
  refine ⟨h1, h2, h3, ?_⟩
  rcases h4 with h4 | ⟨g, rest, fz, rfl, hg, h5⟩
  ·
   exact .inl h4
  ·
   exact .inr ⟨g, rest, fz, rfl, by rw [hb g (by simp)];exact hg, h5⟩
theorem Quq (T sz : Nat) (w : World) : (Res.row T sz none 0 0 []).holds w := ⟨by simp, Nat.le_refl _, by simp [maxLen], .inl ⟨rfl, rfl, rfl⟩⟩
theorem Qbo {T sz n cap : Nat} {a : Option Addr} {xs : List Value} {w : World} (h : (Res.row T sz a n cap xs).holds w) : RS w a n sz xs := by
 obtain ⟨h1, h2, h3, h4⟩ := h
 refine ⟨h1, ?_, ?_⟩
 ·
  rintro rfl
  rcases h4 with h4 | ⟨g, rest, fz, h, _⟩
  ·
   exact h4.2.1
  ·
   cases h
 ·
  rintro ad rfl
  rcases h4 with h4 | ⟨g, rest, fz, h, hg, _⟩
  ·
   cases h4.1
  ·
   cases h
   intro j u hu
   have hadd : (⟨g, 0, none⟩ : Addr).add j = ⟨g, j, none⟩ := by unfold Addr.add;split <;> simp_all
   rw [hadd, cell_of_row w g j _ T fz hg]
   have hlt : j < xs.length := (List.getElem?_eq_some_iff.1 hu).1
   simp [List.getElem?_append_left hlt, hu]
theorem QG1 {T sz n cap : Nat} {a : Option Addr} {xs : List Value} {w : World} (h : (Res.row T sz a n cap xs).holds w) : n <= cap /\ cap <= maxLen /\ (a = none -> n = 0 /\ cap = 0) := by
 obtain ⟨h1, h2, h3, h4⟩ := h
 refine ⟨h2, h3, ?_⟩
 rintro rfl
 rcases h4 with h4 | ⟨g, rest, fz, h, _⟩
 ·
  exact h4.2
 ·
  cases h
end Go.Eng
namespace Go
def Program.zeroOf (P : Program) (T : TypeId) : Option Value := ((P.info? T).bind (·.zero))
end Go
namespace Go.Eng
open Go
section
variable {P : Program} {N : Nat} {d : Option Tmp} {ty : Nat} {pos : String} {af : Array Edge} {gd : Option (Nat × Bool)} {e : Env} {w : World} {R : Env -> World -> (Env -> World -> Prop) -> Prop} {RQ : Env -> World -> (Env -> Prop) -> Prop} {K : Env -> World -> Prop} {KQ : Env -> Prop}
theorem Qdn {o : Oper} {C : Value -> World -> Prop} (h : ∀ a n, Fits N e a -> ∃ v w' m, (execOp a.eval o).run P (w.drewN n) = .ok (.value v) (w'.drewN m) /\ C v w') : Mem P N o e w C := by
 intro a n next Q ha hK
 obtain ⟨v, w', m, hr, hC⟩ := h a n ha
 unfold Oper.wp
 rw [hr]
 exact hK v w' m hC
theorem Qur {o : Oper} {C : Value -> World -> Prop} (h : ∀ a n, Fits N e a -> ∃ w' m, (execOp a.eval o).run P (w.drewN n) = .ok .skip (w'.drewN m) /\ C undef w') : Mem P N o e w C := by
 intro a n next Q ha hK
 obtain ⟨w', m, hr, hC⟩ := h a n ha
 unfold Oper.wp
 rw [hr]
 exact hK _ w' m hC
def CallK (P : Program) (f : FuncId) (args : List Value) (w : World) (C : Value -> World -> Prop) : Prop := ∃ F, Does P f args.toArray w F /\ ∀ v w', F v w' -> C v w'
theorem CallK.mk {f : FuncId} {args : List Value} {C F : Value -> World -> Prop} (h : Does P f args.toArray w F) (hc : ∀ v w', F v w' -> C v w') : CallK P f args w C := ⟨F, h, hc⟩
theorem Qag {f : FuncId} {az : Array Operand} {ts : Array TypeId} (hf : ∀ args w, (callFunc f args).run P w = .ok (.enter f args) w)
  (h : argL e az.toList fun vs => CallK P f vs w fun v w' => R (e.put d v) w' K) :
  MemK P N ⟨d, .call { callee := .value (.func f), args := az, argTypes := ts }, ty, pos, af, gd⟩ e w R K := by
 intro a n next Q ha hK
 have h1 := Qcp (K := fun vs => CallK P f vs w fun v w' => R (e.put d v) w' K) ha h
 obtain ⟨F, hD, hC⟩ := h1
 have hm : (az.map a.eval) = (az.toList.map a.eval).toArray := Qe3 az a
 have hrun : (execOp a.eval ⟨d, .call { callee := .value (.func f), args := az, argTypes := ts }, ty, pos, af, gd⟩).run P (w.drewN n) = .ok (.enter f (az.toList.map a.eval).toArray) (w.drewN n) := by
  simp only [execOp, resolve, Act.eval, Deferred.ofValue, Sem.run_bind, Sem.run_pure, Result.andThen_ok, invoke]
  simp [hm, hf]
 unfold Oper.wp
 rw [hrun]
 exact (hD n).mono fun e' w' ⟨v, w'', m, he, hw, hF⟩ => by subst he;subst hw;exact hK v w'' m (hC v w'' hF)
def QCallK (P : Program) (f : FuncId) (args : List Value) (w : World) (C : Value -> Prop) : Prop := ∃ v, Does P f args.toArray w (fun v' w' => w' = w /\ v' = v) /\ C v
theorem QCallK.mk {f : FuncId} {args : List Value} {C : Value -> Prop} {v : Value} (h : Does P f args.toArray w (fun v' w' => w' = w /\ v' = v)) (hc : C v) : QCallK P f args w C := ⟨v, h, hc⟩
theorem Qus {f : FuncId} {az : Array Operand} {ts : Array TypeId} (hf : ∀ args w, (callFunc f args).run P w = .ok (.enter f args) w)
  (h : argL e az.toList fun vs => QCallK P f vs w fun v => RQ (e.put d v) w KQ) :
  Qh6 P N ⟨d, .call { callee := .value (.func f), args := az, argTypes := ts }, ty, pos, af, gd⟩ e w RQ KQ := by
 obtain ⟨vs, hvs, v, hD, hC⟩ : ∃ vs, (∀ a, Fits N e a -> az.toList.map a.eval = vs) /\ QCallK P f vs w fun v => RQ (e.put d v) w KQ := by
  have key : ∀ (xs : List Operand) (K : List Value -> Prop), argL e xs K -> ∃ vs, (∀ a, Fits N e a -> xs.map a.eval = vs) /\ K vs := by
   intro xs
   induction xs with
   | nil => intro K h;exact ⟨[], fun _ _ => rfl, h⟩
   | cons x xs ih =>
    intro K h
    have : ∃ v, (∀ a, Fits N e a -> a.eval x = v) /\ argL e xs fun vs => K (v :: vs) := by
     simp only [argL] at h
     cases x with
     | tmp t => obtain ⟨v, hv, hK⟩ := Qm3 h;exact ⟨v, fun a ha => ha.at_ t v hv, hK⟩
     | const v => exact ⟨v, fun _ _ => rfl, h⟩
     | global g => exact ⟨_, fun _ _ => rfl, h⟩
     | func f => exact ⟨_, fun _ _ => rfl, h⟩
    obtain ⟨v, hv, h⟩ := this
    obtain ⟨vs, hvs, hK⟩ := ih _ h
    exact ⟨v :: vs, fun a ha => by simp [hv a ha, hvs a ha], hK⟩
  exact key _ _ h
 refine ⟨v, fun a n ha => ?_, hC⟩
 have hm : (az.map a.eval) = vs.toArray := by rw [Qe3 az a, hvs a ha]
 have hrun : (execOp a.eval ⟨d, .call { callee := .value (.func f), args := az, argTypes := ts }, ty, pos, af, gd⟩).run P (w.drewN n) = .ok (.enter f vs.toArray) (w.drewN n) := by
  simp only [execOp, resolve, Act.eval, Deferred.ofValue, Sem.run_bind, Sem.run_pure, Result.andThen_ok, invoke]
  simp [hm, hf]
 unfold Oper.quietAt
 rw [hrun]
 exact ⟨rfl, (hD n).mono fun e' w' ⟨v', w'', m, he, hw, hF⟩ => by obtain ⟨rfl, rfl⟩ := hF;exact ⟨he, m, hw⟩⟩
theorem Qdo (T : TypeId) (cs : Array Value) (w : World) : (newRow T cs).run P w = .ok ⟨w.heap.size, 0, none⟩ (w.alloc (.cells cs T)) := rfl
theorem Qo5 (T : TypeId) (v : Value) (w : World) : (newVar T v).run P w = .ok ⟨w.heap.size, 0, none⟩ (w.alloc (.cells v.cells T)) := rfl
theorem Qg9 (n : Nat) (w : World) : (askRoom n).run P w = .ok () w := by unfold askRoom;split <;> rfl
theorem Qm9 (w : World) (n : Nat) (o : Obj) : (w.drewN n).alloc o = (w.alloc o).drewN n := rfl
theorem Qcg {T : TypeId} {x : Operand} (h : arg e x fun v => R (e.put d (.pointer (some ⟨w.heap.size, 0, none⟩))) (w.alloc (.cells v.cells T)) K) :
  MemK P N ⟨d, .box T x, ty, pos, af, gd⟩ e w R K :=
 Qdn fun a n ha => by
  have h1 := Qa7 (K := fun v => R (e.put d (.pointer (some ⟨w.heap.size, 0, none⟩))) (w.alloc (.cells v.cells T)) K) ha h
  exact ⟨_, w.alloc (.cells (a.eval x).cells T), n, by simp only [execOp, Instr.box, Sem.run_bind, Qo5, Result.andThen_ok, Sem.run_pure];rfl, h1⟩
theorem Qk0 {T : TypeId} {z : Value} (h : P.zeroOf T = some z) (w : World) : (zeroValue T).run P w = .ok z w := by
 unfold Program.zeroOf at h
 cases hi : P.info? T with
 | none => simp [hi] at h
 | some i =>
  simp [hi] at h
  simp [zeroValue, typeInfo, hi, h]
theorem Qat {T : TypeId} (z : Value) (hz : P.zeroOf T = some z) (h : R (e.put d (.pointer (some ⟨w.heap.size, 0, none⟩))) (w.alloc (.cells z.cells T)) K) :
  MemK P N ⟨d, .alloc T, ty, pos, af, gd⟩ e w R K :=
 Qdn fun a n _ => ⟨_, w.alloc (.cells z.cells T), n, by simp only [execOp, Instr.alloc, Qk0 hz, Sem.run_bind, Qo5, Result.andThen_ok, Sem.run_pure];rfl, h⟩
theorem Qoa {T E : TypeId} {i : TypeInfo} {z zv : Value} (hu : P.underlying T = some (.slice E)) (hi : P.info? E = some i) (hz : i.zero = some z) (hzv : z.cells = #[zv]) (h1 : i.size = 1)
  {l c : Nat} (hlc : l <= c) (hb : i.bytes * c <= 2 ^ 48) (hc : c <= maxLen) (w : World) :
  (Instr.makeSlice T (.int .i64 l) (.int .i64 c)).run P w = .ok (.slice (some ⟨w.heap.size, 0, none⟩) l c) (w.alloc (.cells (List.replicate c zv).toArray E)) := by
 have hcm : (c : Int) <= 9223372036854775807 := by simp only [maxLen] at hc;omega
 have e1 : IntKind.i64.wrap (l : Int) = l := Qfe ⟨by omega, by omega⟩
 have e2 : IntKind.i64.wrap (c : Int) = c := Qfe ⟨by omega, by omega⟩
 have hb1 : ((i.bytes * c : Nat) : Int) <= 281474976710656 := by
  have h : i.bytes * c <= 281474976710656 := hb
  omega
 have hb' : ¬ ((i.bytes : Int) * (c : Int) > 281474976710656) := by
  have e3 : ((i.bytes * c : Nat) : Int) = (i.bytes : Int) * (c : Int) := Int.natCast_mul _ _
  omega
 have hrow : (Array.range (c * 1)).map (fun x => (#[zv] : Array Value)[x % 1]!) = (List.replicate c zv).toArray := by
  apply Array.ext
  ·
   simp
  ·
   intro j h1 h2
   simp [Nat.mod_one]
 have hti : ∀ w, (typeInfo E).run P w = .ok i w := fun w => by simp [typeInfo, hi]
 have hzi : ∀ w, (zeroValue E).run P w = .ok z w := fun w => by simp [zeroValue, typeInfo, hi, hz]
 have hso : ∀ w, (sizeOf E).run P w = .ok 1 w := fun w => by simp [sizeOf, typeInfo, hi, h1]
 simp only [Instr.makeSlice, Sem.run_bind, run_underlying hu, Result.andThen_ok, asInt, asIntOf, Sem.run_pure, hti, e1, e2]
 rw [if_neg (by simp [hb'];omega)]
 simp only [Sem.run_bind, Qg9, Result.andThen_ok, hso, Int.toNat_natCast]
 by_cases hc0 : c = 0
 ·
  subst hc0
  simp only [Nat.zero_mul, if_true, Sem.run_bind, Sem.run_pure, Result.andThen_ok, Qdo]
  simp [show Array.range 0 = #[] from rfl]
 ·
  rw [if_neg (by omega)]
  simp only [Sem.run_bind, hzi, Result.andThen_ok, Sem.run_pure, Qdo, hzv]
  rw [<- hrow]
  simp
theorem Qbw {T E : TypeId} {x y : Operand} {zv : Value} {bytes : Nat} (hu : P.underlying T = some (.slice E)) (hz : (P.info? E).map (fun i => (i.zero.map Value.cells, i.size, i.bytes)) = some (some #[zv], 1, bytes))
  (h : arg e x fun vl => arg e y fun vc => ∃ l c : Nat, (vl = .int .i64 l /\ vc = .int .i64 c /\ l <= c /\ bytes * c <= 281474976710656 /\ c <= 9223372036854775807) /\ R (e.put d (.slice (some ⟨w.heap.size, 0, none⟩) l c)) (w.alloc (.cells (List.replicate c zv).toArray E)) K) :
  MemK P N ⟨d, .makeSlice T x y, ty, pos, af, gd⟩ e w R K :=
 Qdn fun a n ha => by
  obtain ⟨l, c, ⟨h1, h2, h3, h4, h5⟩, hR⟩ := Qa7 (K := fun vc => ∃ l c : Nat, (a.eval x = .int .i64 l /\ vc = .int .i64 c /\ l <= c /\ bytes * c <= 281474976710656 /\ c <= 9223372036854775807) /\ R (e.put d (.slice (some ⟨w.heap.size, 0, none⟩) l c)) (w.alloc (.cells (List.replicate c zv).toArray E)) K) ha
   (Qa7 (K := fun vl => arg e y fun vc => ∃ l c : Nat, (vl = .int .i64 l /\ vc = .int .i64 c /\ l <= c /\ bytes * c <= 281474976710656 /\ c <= 9223372036854775807) /\ R (e.put d (.slice (some ⟨w.heap.size, 0, none⟩) l c)) (w.alloc (.cells (List.replicate c zv).toArray E)) K) ha h)
  cases hi : P.info? E with
  | none => simp [hi] at hz
  | some i =>
   simp only [hi, Option.map_some, Option.some.injEq, Prod.mk.injEq] at hz
   obtain ⟨hz1, hz2, hz3⟩ := hz
   cases hzz : i.zero with
   | none => simp [hzz] at hz1
   | some z =>
    simp only [hzz, Option.map_some, Option.some.injEq] at hz1
    refine ⟨_, w.alloc (.cells (List.replicate c zv).toArray E), n, ?_, hR⟩
    have := Qoa hu hi hzz hz1 hz2 h3 (by rw [hz3];exact h4) (by simp only [maxLen];omega) (w.drewN n)
    simp only [execOp, h1, h2, this, Sem.run_bind, Result.andThen_ok, Sem.run_pure]
    rfl
theorem Qx6 : ∀ (l : List Value) (i : Nat) (pre suf : List Value), suf.length = l.length -> (∀ v ∈ l, v.cells = #[v]) -> pre.length = i ->
  Instr.fill (fun i => some (i * 1, 1)) (pre ++ suf).toArray ((l.zipIdx i).map fun p => (p.2, p.1)) = some (pre ++ l).toArray := by
 intro l
 induction l with
 | nil => intro i pre suf hs _ _;simp at hs;subst hs;simp [Instr.fill]
 | cons v l ih =>
  intro i pre suf hs hc hp
  cases suf with
  | nil => simp at hs
  | cons u suf =>
   simp only [List.zipIdx_cons, List.map_cons, Instr.fill]
   have hv := hc v (by simp)
   simp only [hv]
   rw [if_neg (by simp;omega)]
   have := ih (i + 1) (pre ++ [v]) suf (by simpa using hs) (fun u hu => hc u (by simp [hu])) (by simp [hp])
   have e1 : (#[v].zipIdx.foldl (fun cs x => cs.setIfInBounds (i * 1 + x.2) x.1) (pre ++ u :: suf).toArray) = ((pre ++ [v]) ++ suf).toArray := by
    simp only [Array.zipIdx]
    simp
    rw [<- hp, List.set_append_right _ _ (Nat.le_refl _)]
    simp
   rw [e1, this]
   simp
theorem Qc3 {T E : TypeId} {n : Nat} {ps : Array (Nat × Operand)} {xs : List Operand} (hu : P.underlying T = some (.slice E)) (hsz : P.szo E = some 1) (hz : (P.zeroOf E).isSome = true)
  (hps : ps.toList = (xs.zipIdx).map fun p => (p.2, p.1)) (hn : n = xs.length) (hb : n <= 1000000)
  (h : argL e xs fun vs => (∀ v ∈ vs, v.cells = #[v]) /\ R (e.put d (.slice (some ⟨w.heap.size, 0, none⟩) n n)) (w.alloc (.cells vs.toArray E)) K) :
  MemK P N ⟨d, .buildSlice T n ps, ty, pos, af, gd⟩ e w R K :=
 Qdn fun a m ha => by
  obtain ⟨h1, hR⟩ := Qcp (K := fun vs => (∀ v ∈ vs, v.cells = #[v]) /\ R (e.put d (.slice (some ⟨w.heap.size, 0, none⟩) n n)) (w.alloc (.cells vs.toArray E)) K) ha h
  refine ⟨_, _, m, ?_, hR⟩
  obtain ⟨z, hz⟩ := Option.isSome_iff_exists.1 hz
  have e1 : (ps.map fun (i, x) => (i, a.eval x)).toList = ((xs.map a.eval).zipIdx).map fun p => (p.2, p.1) := by
   rw [Array.toList_map, hps]
   simp [List.zipIdx_map]
  have hf := Qx6 (xs.map a.eval) 0 [] (((Array.range (n * 1)).map fun x => (if n = 0 then #[] else z.cells)[x % (if n = 0 then #[] else z.cells).size]!).toList) (by simp [hn]) h1 rfl
  simp only [List.nil_append, Array.toArray_toList] at hf
  have hs := Qd0 (P := P) hsz
  simp only [execOp, Instr.buildSlice, Sem.run_bind, run_underlying hu, hs, Result.andThen_ok]
  rw [if_neg (by omega)]
  simp only [Nat.mul_one] at hf ⊢
  by_cases h0 : n = 0
  ·
   rw [if_pos h0]
   rw [if_pos h0] at hf
   simp only [Sem.run_bind, Sem.run_pure, Result.andThen_ok, e1, hf, Qdo]
   rfl
  ·
   rw [if_neg h0]
   rw [if_neg h0] at hf
   simp only [Sem.run_bind, Qk0 hz, Sem.run_pure, Result.andThen_ok, e1, hf, Qdo]
   rfl
def Qd9 (w : World) (g : Nat) (cs : List Value) (T : TypeId) (fz : Nat × Nat) : World := { w with heap := w.heap.setIfInBounds g (.cells cs.toArray T fz) }
theorem Qgz {w : World} {g : Nat} {cs : List Value} {T : TypeId} {fz : Nat × Nat} (h : g < w.heap.size) : (Qd9 w g cs T fz).heap[g]? = some (.cells cs.toArray T fz) := by
 simp [Qd9, h]
theorem QAn {w : World} {g k : Nat} {cs : List Value} {T : TypeId} {fz : Nat × Nat} (h : k ≠ g) : (Qd9 w g cs T fz).heap[k]? = w.heap[k]? := by
 simp [Qd9, Ne.symm h]
theorem Qf0 (w : World) (g : Nat) (cs : List Value) (T : TypeId) (fz : Nat × Nat) : Upd [g] w (Qd9 w g cs T fz) :=
 ⟨rfl, rfl, rfl, by simp [Qd9], fun k _ hk => QAn (by simpa using hk)⟩
theorem Qf8 (w : World) (g : Nat) (cs : List Value) (T : TypeId) (fz : Nat × Nat) : (Qd9 w g cs T fz).heap.size = w.heap.size := by simp [Qd9]
theorem Qgg (w : World) (n g : Nat) (cs : List Value) (T : TypeId) (fz : Nat × Nat) : Qd9 (w.drewN n) g cs T fz = (Qd9 w g cs T fz).drewN n := rfl
theorem Qob {w : World} {g o : Nat} {cs : List Value} {T : TypeId} {fz : Nat × Nat} (h : w.heap[g]? = some (.cells cs.toArray T fz)) (v : Value) : w.setCell ⟨g, o, none⟩ v = Qd9 w g (cs.set o v) T fz := by
 have hlt : g < w.heap.size := (Array.getElem?_eq_some_iff.1 h).1
 unfold World.setCell Qd9
 congr 1
 apply Array.ext_getElem?
 intro j
 rw [Array.getElem?_modify, Array.getElem?_setIfInBounds]
 by_cases hj : g = j
 ·
  subst hj
  have hg : w.heap[g] = .cells cs.toArray T fz := (Array.getElem?_eq_some_iff.1 h).2
  simp [hlt, hg]
 ·
  simp [hj]
theorem Qut {w : World} {g : Nat} {cs : List Value} {T : TypeId} {fz : Nat × Nat} (h : w.heap[g]? = some (.cells cs.toArray T fz)) : Qd9 w g cs T fz = w := by
 have hlt : g < w.heap.size := (Array.getElem?_eq_some_iff.1 h).1
 have e : w.heap.setIfInBounds g (.cells cs.toArray T fz) = w.heap := by
  apply Array.ext_getElem?
  intro j
  rw [Array.getElem?_setIfInBounds]
  by_cases hj : g = j
  ·
   subst hj;rw [if_pos rfl, if_pos hlt];exact h.symm
  ·
   rw [if_neg hj]
 rw [Qd9, e]
theorem Qdv (g o : Nat) (T : TypeId) (fz : Nat × Nat) : ∀ (vs : List Value) (i : Nat) (cs : List Value) (w : World), w.heap[g]? = some (.cells cs.toArray T fz) -> Unfz fz cs.length -> o + i + vs.length <= cs.length -> (∀ v ∈ vs, v.oneCell' = true) ->
  (storeCells ⟨g, o, none⟩ vs i).run P w = .ok () (Qd9 w g (cs.take (o + i) ++ vs ++ cs.drop (o + i + vs.length)) T fz) := by
 intro vs
 induction vs with
 | nil =>
  intro i cs w hg _ hl _
  simp only [storeCells, Sem.run_pure]
  congr 1
  have : cs.take (o + i) ++ [] ++ cs.drop (o + i + 0) = cs := by simp
  simp only [List.length_nil]
  rw [this, Qut hg]
 | cons v vs ih =>
  intro i cs w hg hfz hl h1
  simp only [List.length_cons] at hl
  have hadd : (⟨g, o, none⟩ : Addr).add i = ⟨g, o + i, none⟩ := by unfold Addr.add;split <;> simp_all
  have hcell : ∃ u, w.cell? ⟨g, o + i, none⟩ = some u := by
   refine ⟨cs[o + i], ?_⟩
   simp [World.cell?, hg]
  obtain ⟨u, hu⟩ := hcell
  have hfr : w.frozen? ⟨g, o + i, none⟩ = false := by
   simp only [World.frozen?, hg]
   have := hfz (o + i) (by omega)
   simpa using this
  have hone := h1 v (by simp)
  have hstore : (store ⟨g, o + i, none⟩ v).run P w = .ok () (w.setCell ⟨g, o + i, none⟩ v) := by
   cases v <;> simp [Value.oneCell'] at hone <;> simp [store, Sem.run, hu, hfr]
  have hlt : g < w.heap.size := (Array.getElem?_eq_some_iff.1 hg).1
  simp only [storeCells, Sem.run_bind, hadd, hstore, Result.andThen_ok]
  rw [Qob hg, ih (i + 1) (cs.set (o + i) v) _ (Qgz hlt) (by simpa using hfz) (by simp;omega) (fun u hu => h1 u (by simp [hu]))]
  congr 1
  unfold Qd9
  simp only [Array.setIfInBounds_setIfInBounds]
  congr 2
  congr 1
  congr 1
  rw [show o + (i + 1) = o + i + 1 by omega, List.take_set, List.drop_set]
  simp only [List.length_cons]
  rw [if_pos (by omega), List.take_succ_eq_append_getElem (by omega), List.set_append_right _ _ (by simp;omega)]
  simp only [List.length_take]
  rw [show o + i - min (o + i) cs.length = 0 by omega]
  simp [show o + i + 1 + vs.length = o + i + (vs.length + 1) by omega]
end
end Go.Eng
