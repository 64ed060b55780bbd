/- A program logic over the model, and what this program's functions do by it: part 2. No conditions: a library of lemmas. -/
import Derived.Test.YtfphmlhgebpojaaGreatS1
import Derived.OrdersHeld
import Derived.StillTail
import Derived.Test.YtfphmlhgebpojaaGreatChecked
open Nat (reduceEqDiff)
set_option linter.unusedSimpArgs false
set_option linter.unusedVariables false
set_option maxRecDepth 100000
namespace Go.Eng
open Go
section
variable {P : Program} {N : Nat} {d : Option Tmp} {ty : Nat} {pos : String} {af : Array Edge} {gd : Option (Nat × Bool)} {e : Env} {w : World} {R : Env -> World -> (Env -> World -> Prop) -> Prop} {K : Env -> World -> Prop}
def Qho (P : Program) (T : TypeId) (x v : Value) (w : World) (C : World -> Prop) : Prop :=
 ∃ w', (∀ n, (Instr.storeAt T x v).run P (w.drewN n) = .ok () (w'.drewN n)) /\ C w'
theorem Qae {T : TypeId} {x y : Operand} (h : arg e x fun a => arg e y fun v => Qho P T a v w fun w' => R (e.put d undef) w' K) :
  MemK P N ⟨d, .store T x y, ty, pos, af, gd⟩ e w R K :=
 Qur fun a n ha => by
  obtain ⟨w', hr, hC⟩ := Qa7 (K := fun v => Qho P T (a.eval x) v w fun w' => R (e.put d undef) w' K) ha (Qa7 (K := fun b => arg e y fun v => Qho P T b v w fun w' => R (e.put d undef) w' K) ha h)
  exact ⟨w', n, by simp only [execOp, Sem.run_bind, hr n, Result.andThen_ok, Sem.run_pure], hC⟩
theorem Qfr {T : TypeId} {g o : Nat} {T' : TypeId} {fz : Nat × Nat} {cs vs : List Value} {v : Value} (hv : v.cells = vs.toArray) (hsz : P.szo T = some vs.length) (hg : w.heap[g]? = some (.cells cs.toArray T' fz)) (hfz : Unfz fz cs.length) (hl : o + vs.length <= cs.length) (h1 : ∀ u ∈ vs, u.oneCell' = true) (n : Nat) :
  (Instr.storeAt T (.pointer (some ⟨g, o, none⟩)) v).run P (w.drewN n) = .ok () ((Qd9 w g (cs.take o ++ vs ++ cs.drop (o + vs.length)) T' fz).drewN n) := by
 have hs := Qd0 (P := P) hsz
 have hst := Qdv (P := P) g o T' fz vs 0 cs (w.drewN n) hg hfz (by simpa using hl) h1
 simp only [Instr.storeAt, Instr.sureAddr, storeVar, Sem.run_bind, Sem.run_pure, Result.andThen_ok, hs, hv]
 rw [if_neg (by simp)]
 rw [hst]
 simp [Qgg]
def Res.blk (g : Nat) (T : TypeId) (cs : List Value) : Res where
 foot := [g]
 holds := fun w => ∃ fz, w.heap[g]? = some (.cells cs.toArray T fz) /\ Unfz fz cs.length
 loc := by
  rintro w w' hb ⟨fz, h1, h2⟩
  exact ⟨fz, by rw [hb g (by simp)];exact h1, h2⟩
theorem Qwu (n : Nat) : Unfz (0, 0) n := fun j _ => by simp
theorem Heap.box {w0 w : World} {B : List Nat} {G : List Res} (h : Heap w0 B w G) (T : TypeId) (cs : List Value) : Heap w0 B (w.alloc (.cells cs.toArray T)) (Res.blk w.heap.size T cs :: G) :=
 h.new _ ⟨(0, 0), heap_alloc_new w _, Qwu _⟩ (by simp [Res.blk])
theorem Heap.row {w0 w : World} {B : List Nat} {G : List Res} (h : Heap w0 B w G) (T : TypeId) {n cap sz : Nat} (xs rest : List Value) (h1 : xs.length = n * sz) (h2 : (xs ++ rest).length = cap * sz) (h3 : n <= cap) (h4 : cap <= 9223372036854775807) :
  Heap w0 B (w.alloc (.cells (xs ++ rest).toArray T)) (Res.row T sz (some ⟨w.heap.size, 0, none⟩) n cap xs :: G) :=
 h.new _ ⟨h1, h3, by simp only [maxLen];omega, .inr ⟨w.heap.size, rest, (0, 0), rfl, heap_alloc_new w _, h2, Qwu _⟩⟩ (by simp [Res.row])
theorem Qal {w0 : World} {B : List Nat} {G : List Res} (hH : Heap w0 B w G) (i : Nat) {g o : Nat} {T T' : TypeId} {cs vs : List Value} {v : Value} {C : World -> Prop} (hi : G[i]? = some (Res.blk g T' cs)) (hv : v.cells = vs.toArray) (hsz : P.szo T = some vs.length) (hl : o + vs.length <= cs.length) (h1 : ∀ u ∈ vs, u.oneCell' = true)
  (h : ∀ w', Heap w0 B w' (G.set i (Res.blk g T' (cs.take o ++ vs ++ cs.drop (o + vs.length)))) -> C w') : Qho P T (.pointer (some ⟨g, o, none⟩)) v w C := by
 obtain ⟨fz, hg, hfz⟩ := hH.at i hi
 have hlt : g < w.heap.size := (Array.getElem?_eq_some_iff.1 hg).1
 refine ⟨_, Qfr hv hsz hg hfz hl h1, h _ (hH.set i hi (Qf0 _ _ _ _ _) ⟨fz, Qgz hlt, ?_⟩ ?_)⟩
 ·
  have : (cs.take o ++ vs ++ cs.drop (o + vs.length)).length = cs.length := by simp;omega
  rw [this];exact hfz
 ·
  intro b hb
  exact ⟨.inl hb, by rw [Qf8];simp [Res.blk] at hb;omega⟩
theorem Qbd {w0 : World} {B : List Nat} {G : List Res} (hH : Heap w0 B w G) (i : Nat) {o n cap sz : Nat} {ad ap : Addr} {T T' : TypeId} {xs vs : List Value} {v : Value} {C : World -> Prop} (hi : G[i]? = some (Res.row T' sz (some ad) n cap xs)) (hp : ap = ad.add o) (hv : v.cells = vs.toArray) (hsz : P.szo T = some vs.length) (hl : o + vs.length <= xs.length) (h1 : ∀ u ∈ vs, u.oneCell' = true)
  (h : ∀ w', Heap w0 B w' (G.set i (Res.row T' sz (some ad) n cap (xs.take o ++ vs ++ xs.drop (o + vs.length)))) -> C w') : Qho P T (.pointer (some ap)) v w C := by
 obtain ⟨h2, h3, h4, h5⟩ := hH.at i hi
 rcases h5 with h5 | ⟨g, rest, fz, hg0, hg, hl2, hfz⟩
 ·
  cases h5.1
 ·
  cases hg0
  subst hp
  have hlt : g < w.heap.size := (Array.getElem?_eq_some_iff.1 hg).1
  have hadd : (⟨g, 0, none⟩ : Addr).add o = ⟨g, o, none⟩ := by unfold Addr.add;split <;> simp_all
  rw [hadd]
  have hlen : o + vs.length <= (xs ++ rest).length := by simp;omega
  refine ⟨_, Qfr hv hsz hg (by rw [hl2];exact hfz) hlen h1, h _ (hH.set i hi (Qf0 _ _ _ _ _) ?_ ?_)⟩
  ·
   refine ⟨by simp;omega, h3, h4, .inr ⟨g, rest, fz, rfl, ?_, by simp at hl2 ⊢;omega, hfz⟩⟩
   rw [Qgz hlt]
   congr 3
   rw [List.take_append_of_le_length (by omega), List.drop_append_of_le_length (by omega)]
   simp
  ·
   intro b hb
   exact ⟨.inl hb, by rw [Qf8];simp [Res.row] at hb;omega⟩
def Src (P : Program) (w : World) (x : Value) (T' : TypeId) (sz m : Nat) (news : List Value) : Prop :=
 match x with
 | .slice a k _ => k = m /\ RS w a m sz news /\ (∃ E, P.underlying T' = some (.slice E))
 | .string s => m = (toL s).length /\ sz = 1 /\ news = Qao (toL s) /\ P.underlying T' = some .string
 | _ => False
theorem Src.spec {x : Value} {T' : TypeId} {sz m : Nat} {news : List Value} (h : Src P w x T' sz m news) :
  news.length = m * sz /\ (∀ w, (Builtin.lenOf x).run P w = .ok m w) /\ (∀ w', w'.heap = w.heap -> (Builtin.firstCells sz m x).run P w' = .ok news.toArray w') /\ (∃ dd, P.underlying T' = some dd /\ ∀ k, dd ≠ .int k) := by
 unfold Src at h
 split at h
 ·
  rename_i a k c
  obtain ⟨rfl, ⟨h1, h2, h3⟩, E, hE⟩ := h
  refine ⟨h1, fun w => by simp [Builtin.lenOf], fun w' hw => ?_, _, hE, by simp⟩
  cases a with
  | none =>
   have := h2 rfl
   subst this
   have : news = [] := List.eq_nil_of_length_eq_zero (by simpa using h1)
   subst this
   simp [Builtin.firstCells]
  | some ad => exact run_firstCells_some (P := P) w' sz k ad k c news h1 (fun j v hv => (h3 ad rfl).heap hw j v hv)
 ·
  rename_i s
  obtain ⟨rfl, rfl, rfl, hu⟩ := h
  refine ⟨by simp [Qao], fun w => by simp only [Builtin.lenOf, Sem.run_pure];rfl, fun w' _ => ?_, _, hu, by simp⟩
  have : s.extract 0 (toL s).length = s := by
   rw [Qf7, List.drop_zero, List.take_of_length_le (by simp [toL]), Array.toArray_toList]
  simp only [Builtin.firstCells, Sem.run_pure, this, Qao, toL]
  congr 1
  apply Array.ext';simp
 ·
  exact h.elim
theorem QKq {dd : TypeDesc} (h : ∀ k, dd ≠ .int k) : (match (generalizing := false) dd with | .int _ => true | _ => false) = false := by cases dd <;> first | rfl | exact absurd rfl (h _)
theorem Qoc {w0 : World} {B : List Nat} {G : List Res} (hH : Heap w0 B w G) (i : Nat) {T T' E ty : TypeId} {sz bytes : Nat} {zs : Array Value} {a : Option Addr} {n cap m : Nat} {xs news : List Value} {x : Value}
  (hi : G[i]? = some (Res.row E sz a n cap xs)) (hu : P.underlying T = some (.slice E)) (hz : (P.info? E).map (fun i => (i.zero.map Value.cells, i.size, i.bytes)) = some (some zs, sz, bytes)) (hzs : zs.size = sz)
  (hs : Src P w x T' sz m news) (h1 : ∀ u ∈ news, u.oneCell' = true) (hb : cap < n + m -> (n + m) * bytes <= 140737488355328 /\ n + m <= 9223372036854775807) (k : Nat) :
  ∃ a' cap' w' k', (Builtin.append_ #[T, T'] ty #[.slice a n cap, x]).run P (w.drewN k) = .ok (.slice a' (n + m) cap') (w'.drewN k') /\ Heap w0 B w' (G.set i (Res.row E sz a' (n + m) cap' (xs ++ news))) /\ (n + m <= cap -> a' = a /\ cap' = cap) := by
 have hrow := hH.at i hi
 obtain ⟨hxl, hnc, hcm, hcase⟩ := hrow
 obtain ⟨hnl, hlen, hfirst, dd, hdd, hni⟩ := hs.spec
 cases hinfo : P.info? E with
 | none => simp [hinfo] at hz
 | some ti =>
 simp only [hinfo, Option.map_some, Option.some.injEq, Prod.mk.injEq] at hz
 obtain ⟨hz1, hz2, hz3⟩ := hz
 cases hzz : ti.zero with
 | none => simp [hzz] at hz1
 | some z =>
 simp only [hzz, Option.map_some, Option.some.injEq] at hz1
 have hso : ∀ w, (sizeOf E).run P w = .ok sz w := fun w => by simp [sizeOf, typeInfo, hinfo, hz2]
 have hti : ∀ w, (typeInfo E).run P w = .ok ti w := fun w => by simp [typeInfo, hinfo]
 have hzv : ∀ w, (zeroValue E).run P w = .ok z w := fun w => by simp [zeroValue, typeInfo, hinfo, hzz]
 have hund : ∀ w, (underlying T').run P w = .ok dd w := fun w => run_underlying hdd w
 have hmatch := QKq hni
 by_cases hroom : n + m <= cap
 ·
  rcases hcase with ⟨rfl, rfl, rfl⟩ | ⟨g, rest, fz, rfl, hg, hl2, hfz⟩
  ·
   have hm : m = 0 := by omega
   subst hm
   have hn : news = [] := List.eq_nil_of_length_eq_zero (by simpa using hnl)
   subst hn
   refine ⟨none, 0, w, k, ?_, ?_, fun _ => ⟨rfl, rfl⟩⟩
   ·
    simp [Builtin.append_, run_underlying hu, hso, hund, hlen, hfirst (w.drewN k) rfl]
   ·
    have : xs ++ [] = xs := by simp
    rw [this]
    have : G.set i (Res.row E sz none 0 0 xs) = G := by
     apply List.ext_getElem?
     intro j
     rw [List.getElem?_set]
     split
     ·
      rename_i hj;subst hj;split <;> simp_all
     ·
      rfl
    simp only [Nat.zero_add]
    rw [this];exact hH
  ·
   have hlt : g < w.heap.size := (Array.getElem?_eq_some_iff.1 hg).1
   have hfit : n * sz + news.length <= (xs ++ rest).length := by rw [hl2, hnl, <- Nat.add_mul];exact Nat.mul_le_mul_right _ hroom
   have hst := Qdv (P := P) g (n * sz) E fz news 0 (xs ++ rest) (w.drewN k) hg (by rw [hl2];exact hfz) (by simpa using hfit) h1
   have hadd : (⟨g, 0, none⟩ : Addr).add (n * sz) = ⟨g, n * sz, none⟩ := by unfold Addr.add;split <;> simp_all
   have hcs : (xs ++ rest).take (n * sz + 0) ++ news ++ (xs ++ rest).drop (n * sz + 0 + news.length) = (xs ++ news) ++ rest.drop news.length := by
    rw [Nat.add_zero, <- hxl, List.take_left]
    rw [List.drop_append]
    simp
   rw [hcs] at hst
   refine ⟨some ⟨g, 0, none⟩, cap, Qd9 w g ((xs ++ news) ++ rest.drop news.length) E fz, k, ?_, ?_, fun _ => ⟨rfl, rfl⟩⟩
   ·
    simp [Builtin.append_, run_underlying hu, hso, hund, hlen, hfirst (w.drewN k) rfl, hroom, hadd, hst, Qgg]
   ·
    refine hH.set i hi (Qf0 _ _ _ _ _) ⟨?_, hroom, hcm, .inr ⟨g, rest.drop news.length, fz, rfl, Qgz hlt, ?_, hfz⟩⟩ ?_
    ·
     rw [List.length_append, hxl, hnl, Nat.add_mul]
    ·
     simp at hl2 hfit ⊢;omega
    ·
     intro b hb;exact ⟨.inl hb, by rw [Qf8];simp [Res.row] at hb;omega⟩
 ·
  obtain ⟨hb1, hb2⟩ := hb (by omega)
  have hg63 : ¬ ((n + m : Nat) : Int) > IntKind.i64.max := by
   have : IntKind.i64.max = 9223372036854775807 := by decide
   rw [this];omega
  have hfits : ¬ (Builtin.nextslicecap (n + m) cap * ti.bytes > 2 ^ 48) := by
   have := growslice_fits (need := n + m) (old := cap) (bytes := ti.bytes) (by omega) (by rw [hz3];exact hb1)
   have e : (2 : Nat) ^ 48 = 281474976710656 := by decide
   rw [e];omega
  have hold : (Builtin.firstCells sz n (.slice a n cap)).run P (w.drewN (k + 1)) = .ok xs.toArray (w.drewN (k + 1)) := by
   have hrs := Qbo (hH.at i hi)
   cases a with
   | none =>
    have hn0 := hrs.2.1 rfl
    subst hn0
    have : xs = [] := List.eq_nil_of_length_eq_zero (by simpa using hxl)
    subst this
    simp [Builtin.firstCells]
   | some ad => exact run_firstCells_some (P := P) _ sz n ad n cap xs hxl (fun j v hv => (hrs.2.2 ad rfl).heap (w' := w.drewN (k + 1)) rfl j v hv)
  have hge := grownCap_ge (w.drewN k) (n + m) cap E
  have hcm' := grownCap_le_maxLen (w.drewN k) (n + m) cap E (by simp only [maxLen];omega)
  refine ⟨some ⟨w.heap.size, 0, none⟩, grownCap (w.drewN k) (n + m) cap E, w.alloc (.cells (xs.toArray ++ news.toArray ++ Builtin.zeroCells z.cells (grownCap (w.drewN k) (n + m) cap E - (n + m))) E), k + 1, ?_, ?_, fun h => absurd h hroom⟩
  ·
   have hz2' : ¬ (9223372036854775807 < ((n : Int) + (m : Int))) := by omega
   have hz3' : ¬ (281474976710656 < Builtin.nextslicecap (n + m) cap * ti.bytes) := by
    have e : (2 : Nat) ^ 48 = 281474976710656 := by decide
    rw [e] at hfits;omega
   have hf2 := hfirst (w.drewN (k + 1)) rfl
   have hra := fun n w => Qg9 (P := P) n w
   simp [Builtin.append_, run_underlying hu, hso, hund, hlen, hroom, hti, hz2', hz3', hra, hold, hf2, hzv, Qdo, Question.forced, grownCap]
   rw [Qm9]
   congr 3
   apply Array.ext'
   simp
  ·
   have hcells : (xs.toArray ++ news.toArray ++ Builtin.zeroCells z.cells (grownCap (w.drewN k) (n + m) cap E - (n + m))) = ((xs ++ news) ++ (Builtin.zeroCells z.cells (grownCap (w.drewN k) (n + m) cap E - (n + m))).toList).toArray := by
    apply Array.ext';simp
   rw [hcells]
   have hzc : z.cells.size = sz := by rw [hz1];exact hzs
   refine hH.set i hi ⟨rfl, rfl, rfl, by simp, fun k hk _ => RowKit.Below.heap_alloc _ _ _ hk⟩ ⟨?_, hge, hcm', .inr ⟨w.heap.size, _, (0, 0), rfl, heap_alloc_new w _, ?_, Qwu _⟩⟩ ?_
   ·
    rw [List.length_append, hxl, hnl, Nat.add_mul]
   ·
    rw [List.length_append, List.length_append, hxl, hnl, Array.length_toList, size_zeroCells, hzc, <- Nat.add_mul, <- Nat.add_mul]
    congr 1;omega
   ·
    intro b hb
    simp [Res.row] at hb
    subst hb
    exact ⟨.inr (Nat.le_refl _), by simp⟩
def AppK (P : Program) (ts : Array TypeId) (ty : TypeId) (vs : List Value) (w : World) (C : Value -> World -> Prop) : Prop :=
 ∀ n, ∃ v w' m, (Builtin.append_ ts ty vs.toArray).run P (w.drewN n) = .ok v (w'.drewN m) /\ C v w'
theorem Qa6 {az : Array Operand} {ts : Array TypeId} (h : argL e az.toList fun vs => AppK P ts ty vs w fun v w' => R (e.put d v) w' K) :
  MemK P N ⟨d, .call { callee := .builtin .append, args := az, argTypes := ts }, ty, pos, af, gd⟩ e w R K :=
 Qdn fun a n ha => by
  obtain ⟨v, w', m, hr, hC⟩ := Qcp (K := fun vs => AppK P ts ty vs w fun v w' => R (e.put d v) w' K) ha h n
  refine ⟨v, w', m, ?_, hC⟩
  simp only [execOp, resolve, invoke, builtin, Qe3, Sem.run_bind, Sem.run_pure, Result.andThen_ok, hr]
theorem Qd8 {w0 : World} {B : List Nat} {G : List Res} (hH : Heap w0 B w G) (i : Nat) {T T' E ty : TypeId} {sz bytes : Nat} {zs : Array Value} {a : Option Addr} {n cap m : Nat} {xs news : List Value} {x : Value} {C : Value -> World -> Prop}
  (hi : G[i]? = some (Res.row E sz a n cap xs)) (hu : P.underlying T = some (.slice E)) (hz : (P.info? E).map (fun i => (i.zero.map Value.cells, i.size, i.bytes)) = some (some zs, sz, bytes)) (hzs : zs.size = sz)
  (hs : Src P w x T' sz m news) (h1 : ∀ u ∈ news, u.oneCell' = true) (hb : cap < n + m -> (n + m) * bytes <= 140737488355328 /\ n + m <= 9223372036854775807)
  (h : ∀ a' cap' w', (n + m <= cap -> a' = a /\ cap' = cap) -> Heap w0 B w' (G.set i (Res.row E sz a' (n + m) cap' (xs ++ news))) -> C (.slice a' (n + m) cap') w') : AppK P #[T, T'] ty [.slice a n cap, x] w C := by
 intro k
 obtain ⟨a', cap', w', k', hr, hH', hc⟩ := Qoc (P := P) (ty := ty) hH i hi hu hz hzs hs h1 hb k
 exact ⟨_, w', k', hr, h a' cap' w' hc hH'⟩
theorem QG2 (l : List UInt8) (m : Nat) : ((⟨l.toArray⟩ : ByteArray).data.map fun b => Value.int .u8 b.toNat) ++ Array.replicate m (Value.int .u8 0) = ((Qao l) ++ List.replicate m (Value.int .u8 0)).toArray := by
 apply Array.ext'
 simp [Qao]
theorem QDw {E : TypeId} {cap : Nat} (w : World) (cs : Array Value) (hcs : cs.size = cap) : (markStringish ⟨w.heap.size, 0, none⟩).run P (w.alloc (.cells cs E)) = .ok () ({ w with heap := w.heap.push (.cells cs E (cap, cap + 1)) } : World) := by
 have h1 : (w.alloc (.cells cs E)).shape? w.heap.size = some (E, cap) := by
  have := heap_alloc_new w (.cells cs E)
  simp only [World.shape?, this, hcs]
 have h2 : (w.alloc (.cells cs E)).freeze { block := w.heap.size, off := cap } 1 = ({ w with heap := w.heap.push (.cells cs E (cap, cap + 1)) } : World) := by
  have e : (w.heap.push (.cells cs E)).modify w.heap.size (fun
   | .cells c elem (lo, hi) => .cells c elem (if lo == hi then (cap, cap + 1) else (min lo cap, max hi (cap + 1)))
   | o => o) = w.heap.push (.cells cs E (cap, cap + 1)) := by
   apply Array.ext_getElem?
   intro j
   rw [Array.getElem?_modify]
   simp only [Array.getElem?_push]
   by_cases hj : w.heap.size = j
   ·
    subst hj;simp
   ·
    rw [if_neg hj, if_neg (Ne.symm hj), if_neg (Ne.symm hj)]
  unfold World.freeze
  rw [if_neg (by omega)]
  exact congrArg (fun h => ({ w with heap := h } : World)) e
 have h3 : (shape w.heap.size).run P (w.alloc (.cells cs E)) = .ok (some (E, cap)) (w.alloc (.cells cs E)) := by
  simp only [shape, Sem.run, h1]
 simp only [markStringish, Sem.run_bind, h3, Result.andThen_ok]
 simp only [freeze, Sem.run, h2]
theorem Quu {T E : TypeId} {l : List UInt8} {S : TypeId} (hS : P.underlying S = some .string) (hT : P.underlying T = some (.slice E)) (hE : P.underlying E = some (.int .u8)) (hl : l.length <= 9223372036854775807) (k : Nat) :
  ∃ cap, l.length <= cap /\ cap <= maxLen /\ (convert S T (Str l)).run P (w.drewN k) = .ok (.slice (some ⟨w.heap.size, 0, none⟩) l.length cap) (({ w with heap := w.heap.push (.cells ((Qao l) ++ List.replicate (cap - l.length) (Value.int .u8 0)).toArray E (cap, cap + 1)) } : World).drewN (k + 1)) := by
 have hge := grownCap_ge (w.drewN k) l.length 0 E
 have hle := grownCap_le_maxLen (w.drewN k) l.length 0 E (by simp only [maxLen];exact hl)
 refine ⟨grownCap (w.drewN k) l.length 0 E, hge, hle, ?_⟩
 have hchoose : (choose (.appendCap (⟨l.toArray⟩ : ByteArray).size 0 E)).run P (w.drewN k) = .ok (grownCap (w.drewN k) l.length 0 E) (w.drewN (k + 1)) := by
  have : (⟨l.toArray⟩ : ByteArray).size = l.length := rfl
  rw [this]
  simp [grownCap, Question.forced]
 generalize grownCap (w.drewN k) l.length 0 E = cap at *
 have hsize : ((Qao l) ++ List.replicate (cap - l.length) (Value.int .u8 0)).toArray.size = cap := by
  simp [Qao];omega
 simp only [convert, Sem.run_bind, run_underlying hS, run_underlying hT, run_underlying hE, Result.andThen_ok, Conv.stringToBytes, hchoose]
 have e : (⟨l.toArray⟩ : ByteArray).size = l.length := rfl
 rw [e, QG2]
 have := QDw (P := P) (E := E) (w.drewN (k + 1)) _ hsize
 simp only [Qdo, Result.andThen_ok, this, Sem.run_pure]
 rfl
def QAo (P : Program) (S T : TypeId) (x : Value) (w : World) (C : Value -> World -> Prop) : Prop :=
 ∀ n, ∃ v w' m, (convert S T x).run P (w.drewN n) = .ok v (w'.drewN m) /\ C v w'
theorem Qk1 {S T : TypeId} {x : Operand} (h : arg e x fun v => QAo P S T v w fun v w' => R (e.put d v) w' K) :
  MemK P N ⟨d, .convert S T x, ty, pos, af, gd⟩ e w R K :=
 Qdn fun a n ha => by
  obtain ⟨v, w', m, hr, hC⟩ := Qa7 (K := fun v => QAo P S T v w fun v w' => R (e.put d v) w' K) ha h n
  exact ⟨v, w', m, by simp only [execOp, Sem.run_bind, hr, Result.andThen_ok, Sem.run_pure], hC⟩
theorem Qk2 {w0 : World} {B : List Nat} {G : List Res} (hH : Heap w0 B w G) {S T E : TypeId} {l : List UInt8} {C : Value -> World -> Prop} (hS : P.underlying S = some .string) (hT : P.underlying T = some (.slice E)) (hE : P.underlying E = some (.int .u8)) (hl : l.length <= 9223372036854775807)
  (h : ∀ g cap w', Heap w0 B w' (Res.row E 1 (some ⟨g, 0, none⟩) l.length cap (Qao l) :: G) -> C (.slice (some ⟨g, 0, none⟩) l.length cap) w') : QAo P S T (Str l) w C := by
 intro k
 obtain ⟨cap, h1, h2, hr⟩ := Quu (P := P) (w := w) hS hT hE hl k
 refine ⟨_, _, _, hr, h _ _ _ ?_⟩
 refine hH.call0 (G' := [_]) ⟨⟨rfl, rfl, rfl, by simp, fun j hj _ => ?_⟩, ?_, ?_, by simp⟩
 ·
  show (w.heap.push _)[j]? = _
  rw [Array.getElem?_push, if_neg (by omega)]
 ·
  intro r hr
  simp at hr;subst hr
  refine ⟨by simp [Qao], h1, h2, .inr ⟨w.heap.size, List.replicate (cap - l.length) (Value.int .u8 0), (cap, cap + 1), rfl, ?_, by simp [Qao];omega, fun j hj => by simp at hj ⊢;omega⟩⟩
  show (w.heap.push _)[w.heap.size]? = _
  simp
 ·
  intro r hr b hb
  simp at hr;subst hr
  simp [Res.row] at hb
  subst hb
  exact ⟨.inr (Nat.le_refl _), by simp⟩
theorem Qia (l : List UInt8) : ∀ u ∈ Qao l, u.oneCell' = true := by
 intro u hu
 obtain ⟨b, _, rfl⟩ := List.mem_map.1 hu
 rfl
theorem QDx (l : List Int) : ∀ u ∈ Qbm l, u.oneCell' = true := by
 intro u hu
 obtain ⟨b, _, rfl⟩ := List.mem_map.1 hu
 rfl
theorem Qdg (l m : List UInt8) : Qao (l ++ m) = Qao l ++ Qao m := by simp [Qao]
theorem Qib (l m : List Int) : Qbm (l ++ m) = Qbm l ++ Qbm m := by simp [Qbm]
theorem Qp7 {w0 : World} {B : List Nat} {G : List Res} (hH : Heap w0 B w G) (i : Nat) {T E ty : TypeId} {bytes : Nat} {z : Value} {a : Option Addr} {n cap : Nat} {xs : List Value} {x : Value} {C : Value -> World -> Prop}
  (hi : G[i]? = some (Res.row E 1 a n cap xs)) (hu : P.underlying T = some (.slice E)) (hz : (P.info? E).map (fun i => (i.zero.map Value.cells, i.size, i.bytes)) = some (some #[z], 1, bytes))
  (hx : x.oneCell' = true) (hb : cap < n + 1 -> (n + 1) * bytes <= 140737488355328 /\ n + 1 <= 9223372036854775807)
  (h : ∀ a' cap' w', (n + 1 <= cap -> a' = a /\ cap' = cap) -> Heap w0 B w' (G.set i (Res.row E 1 a' (n + 1) cap' (xs ++ [x]))) -> C (.slice a' (n + 1) cap') w') :
  AppK P #[T, T] ty [.slice a n cap, .slice (some ⟨w.heap.size, 0, none⟩) 1 1] (w.alloc (.cells [x].toArray E)) C := by
 have h1 := hH.row E (n := 1) (cap := 1) (sz := 1) [x] [] (by simp) (by simp) (by omega) (by omega)
 simp only [List.append_nil] at h1
 refine Qd8 h1 (i + 1) (sz := 1) (m := 1) (news := [x]) (by simpa using hi) hu hz rfl ⟨rfl, Qbo (h1.at 0 rfl), E, hu⟩ (by simpa using hx) hb fun a' cap' w' hc hH' => h a' cap' w' hc ?_
 simp only [List.set_cons_succ] at hH'
 exact hH'.sub (List.sublist_cons_self _ _)
theorem Qwv {w0 : World} {B : List Nat} {G : List Res} (hH : Heap w0 B w G) (i : Nat) {T T' E ty : TypeId} {bytes : Nat} {z : Value} {a : Option Addr} {cap : Nat} {o t : List UInt8} {C : Value -> World -> Prop}
  (hi : G[i]? = some (Res.row E 1 a o.length cap (Qao o))) (hu : P.underlying T = some (.slice E)) (hz : (P.info? E).map (fun i => (i.zero.map Value.cells, i.size, i.bytes)) = some (some #[z], 1, bytes)) (hS : P.underlying T' = some .string)
  (hb : cap < (o ++ t).length -> (o ++ t).length * bytes <= 140737488355328 /\ (o ++ t).length <= 9223372036854775807)
  (h : ∀ a' cap' w', ((o ++ t).length <= cap -> a' = a /\ cap' = cap) -> Heap w0 B w' (G.set i (Res.row E 1 a' (o ++ t).length cap' (Qao (o ++ t)))) -> C (.slice a' (o ++ t).length cap') w') :
  AppK P #[T, T'] ty [.slice a o.length cap, Str t] w C := by
 have e : o.length + t.length = (o ++ t).length := by simp
 refine Qd8 hH i (sz := 1) (m := t.length) (news := Qao t) hi hu hz rfl ⟨by simp [toL], rfl, by simp [toL], hS⟩ (Qia t) (by rw [e];exact hb) fun a' cap' w' hc hH' => ?_
 rw [e] at hc hH' ⊢
 exact h a' cap' w' hc (by rw [Qdg];exact hH')
theorem Qg0 {w0 : World} {B : List Nat} {G : List Res} (hH : Heap w0 B w G) (i : Nat) {T E ty : TypeId} {bytes : Nat} {z : Value} {a : Option Addr} {cap : Nat} {o : List UInt8} (b : UInt8) {n : Int} {C : Value -> World -> Prop}
  (hi : G[i]? = some (Res.row E 1 a o.length cap (Qao o))) (hu : P.underlying T = some (.slice E)) (hz : (P.info? E).map (fun i => (i.zero.map Value.cells, i.size, i.bytes)) = some (some #[z], 1, bytes)) (hn : n = b.toNat)
  (hb : cap < (o ++ [b]).length -> (o ++ [b]).length * bytes <= 140737488355328 /\ (o ++ [b]).length <= 9223372036854775807)
  (h : ∀ a' cap' w', ((o ++ [b]).length <= cap -> a' = a /\ cap' = cap) -> Heap w0 B w' (G.set i (Res.row E 1 a' (o ++ [b]).length cap' (Qao (o ++ [b])))) -> C (.slice a' (o ++ [b]).length cap') w') :
  AppK P #[T, T] ty [.slice a o.length cap, .slice (some ⟨w.heap.size, 0, none⟩) 1 1] (w.alloc (.cells [Value.int .u8 n].toArray E)) C := by
 subst hn
 have e : o.length + 1 = (o ++ [b]).length := by simp
 refine Qp7 hH i hi hu hz rfl (by rw [e];exact hb) fun a' cap' w' hc hH' => ?_
 rw [e] at hc hH' ⊢
 exact h a' cap' w' hc (by rw [Qdg];exact hH')
theorem Qj2 {w0 : World} {B : List Nat} {G : List Res} (hH : Heap w0 B w G) (i : Nat) {T E ty : TypeId} {bytes : Nat} {z : Value} {a : Option Addr} {cap : Nat} {o : List Int} {n : Int} {C : Value -> World -> Prop}
  (hi : G[i]? = some (Res.row E 1 a o.length cap (Qbm o))) (hu : P.underlying T = some (.slice E)) (hz : (P.info? E).map (fun i => (i.zero.map Value.cells, i.size, i.bytes)) = some (some #[z], 1, bytes))
  (hb : cap < (o ++ [n]).length -> (o ++ [n]).length * bytes <= 140737488355328 /\ (o ++ [n]).length <= 9223372036854775807)
  (h : ∀ a' cap' w', ((o ++ [n]).length <= cap -> a' = a /\ cap' = cap) -> Heap w0 B w' (G.set i (Res.row E 1 a' (o ++ [n]).length cap' (Qbm (o ++ [n])))) -> C (.slice a' (o ++ [n]).length cap') w') :
  AppK P #[T, T] ty [.slice a o.length cap, .slice (some ⟨w.heap.size, 0, none⟩) 1 1] (w.alloc (.cells [Value.int .i64 n].toArray E)) C := by
 have e : o.length + 1 = (o ++ [n]).length := by simp
 refine Qp7 hH i hi hu hz rfl (by rw [e];exact hb) fun a' cap' w' hc hH' => ?_
 rw [e] at hc hH' ⊢
 exact h a' cap' w' hc (by rw [Qib];exact hH')
theorem QAp {w0 : World} {B : List Nat} {G : List Res} (hH : Heap w0 B w G) (i : Nat) {T E ty : TypeId} {bytes : Nat} {z : Value} {a b : Option Addr} {cap m c : Nat} {o t : List Int} {C : Value -> World -> Prop}
  (hi : G[i]? = some (Res.row E 1 a o.length cap (Qbm o))) (hu : P.underlying T = some (.slice E)) (hz : (P.info? E).map (fun i => (i.zero.map Value.cells, i.size, i.bytes)) = some (some #[z], 1, bytes)) (hm : m = t.length) (ht : RS w b t.length 1 (Qbm t))
  (hb : cap < (o ++ t).length -> (o ++ t).length * bytes <= 140737488355328 /\ (o ++ t).length <= 9223372036854775807)
  (h : ∀ a' cap' w', ((o ++ t).length <= cap -> a' = a /\ cap' = cap) -> Heap w0 B w' (G.set i (Res.row E 1 a' (o ++ t).length cap' (Qbm (o ++ t)))) -> C (.slice a' (o ++ t).length cap') w') :
  AppK P #[T, T] ty [.slice a o.length cap, .slice b m c] w C := by
 subst hm
 have e : o.length + t.length = (o ++ t).length := by simp
 refine Qd8 hH i (sz := 1) (m := t.length) (news := Qbm t) hi hu hz rfl ⟨rfl, ht, E, hu⟩ (QDx t) (by rw [e];exact hb) fun a' cap' w' hc hH' => ?_
 rw [e] at hc hH' ⊢
 exact h a' cap' w' hc (by rw [Qib];exact hH')
theorem Qx7 {w0 : World} {B : List Nat} {G : List Res} (hH : Heap w0 B w G) (i : Nat) {T E ty : TypeId} {bytes : Nat} {z : Value} {a b : Option Addr} {cap m c : Nat} {o t : List UInt8} {C : Value -> World -> Prop}
  (hi : G[i]? = some (Res.row E 1 a o.length cap (Qao o))) (hu : P.underlying T = some (.slice E)) (hz : (P.info? E).map (fun i => (i.zero.map Value.cells, i.size, i.bytes)) = some (some #[z], 1, bytes)) (hm : m = t.length) (ht : RS w b t.length 1 (Qao t))
  (hb : cap < (o ++ t).length -> (o ++ t).length * bytes <= 140737488355328 /\ (o ++ t).length <= 9223372036854775807)
  (h : ∀ a' cap' w', ((o ++ t).length <= cap -> a' = a /\ cap' = cap) -> Heap w0 B w' (G.set i (Res.row E 1 a' (o ++ t).length cap' (Qao (o ++ t)))) -> C (.slice a' (o ++ t).length cap') w') :
  AppK P #[T, T] ty [.slice a o.length cap, .slice b m c] w C := by
 subst hm
 have e : o.length + t.length = (o ++ t).length := by simp
 refine Qd8 hH i (sz := 1) (m := t.length) (news := Qao t) hi hu hz rfl ⟨rfl, ht, E, hu⟩ (Qia t) (by rw [e];exact hb) fun a' cap' w' hc hH' => ?_
 rw [e] at hc hH' ⊢
 exact h a' cap' w' hc (by rw [Qdg];exact hH')
theorem QAq (a : Addr) (hs : a.spot = none) (k j : Nat) : (a.add k).add j = a.add (k + j) := by
 obtain ⟨b, o, s⟩ := a
 simp only at hs
 subst hs
 unfold Addr.add
 by_cases hk : k = 0
 ·
  subst hk;simp
 ·
  by_cases hj : j = 0
  ·
   subst hj;simp [hk]
  ·
   simp [hk, hj, Nat.add_assoc]
theorem RS.drop {ad : Addr} {n sz : Nat} {xs : List Value} (h : RS w (some ad) n sz xs) (hs : ad.spot = none) (k : Nat) (hk : k <= n) : RS w (some (ad.add (k * sz))) (n - k) sz (xs.drop (k * sz)) := by
 refine ⟨by rw [List.length_drop, h.1, Nat.sub_mul], by simp, fun a' ha => ?_⟩
 cases ha
 intro j u hu
 rw [List.getElem?_drop] at hu
 rw [QAq ad hs]
 exact h.2.2 ad rfl _ u hu
theorem RS.take {a : Option Addr} {n sz : Nat} {xs : List Value} (h : RS w a n sz xs) (m : Nat) (hm : m <= n) : RS w a m sz (xs.take (m * sz)) := by
 refine ⟨by rw [List.length_take, h.1];exact Nat.min_eq_left (Nat.mul_le_mul_right _ hm), fun ha => by have := h.2.1 ha;omega, fun ad ha j u hu => ?_⟩
 rw [List.getElem?_take] at hu
 split at hu
 ·
  exact h.2.2 ad ha j u hu
 ·
  cases hu
theorem Qaa {T sz g n cap k : Nat} {xs : List Value} {v : Value} (h : (Res.row T sz (some ⟨g, 0, none⟩) n cap xs).holds w) (hv : xs[k]? = some v) : w.cell? ⟨g, k, none⟩ = some v := by
 have := (Qbo h).2.2 _ rfl k v hv
 have hadd : (⟨g, 0, none⟩ : Addr).add k = ⟨g, k, none⟩ := by unfold Addr.add;split <;> simp_all
 rwa [hadd] at this
theorem Qfs {T sz n cap : Nat} {a : Option Addr} {xs : List Value} (h : (Res.row T sz a n cap xs).holds w) (hn : 0 < n) : ∃ g, a = some ⟨g, 0, none⟩ := by
 obtain ⟨h1, h2, h3, h4⟩ := h
 rcases h4 with h4 | ⟨g, rest, fz, h, _⟩
 ·
  omega
 ·
  exact ⟨g, h⟩
theorem Heap.readsBytes {w0 : World} {B : List Nat} {G : List Res} (hH : Heap w0 B w G) (i : Nat) {E cap : Nat} {a : Option Addr} {o : List UInt8} (hi : G[i]? = some (Res.row E 1 a o.length cap (Qao o))) : Qgx w a o.length o :=
 Qe4 (Qbo (hH.at i hi))
end
def Qay (ops : List Oper) (plan : List (Nat × Bool)) : List (Bool × Oper) := plan.filterMap fun p => (ops[p.1]?).map fun o => (p.2, o)
def Qo6 (ops : Array Oper) : List (Nat × Bool) -> Array Bool -> Bool
 | [], listed => (Region.ready .any ops listed).isEmpty
 | (i, t) :: plan, listed =>
  (decide (i < ops.size)) && (match t with
   | true => Region.free .any ops listed i && (Region.ready .any ops listed).contains i
   | false => Region.ready .any ops listed == [i]) && Qo6 ops plan (listed.setIfInBounds i true)
def pw (b : Bool) (w0 w : World) : World := match b with | true => w0 | false => w
def MemH (P : Program) (N : Nat) (o : Oper) (e : Env) (w0 w : World) (R : Env -> World -> (Env -> World -> Prop) -> Prop) (K : Env -> World -> Prop) : Prop :=
 Mem P N o e w fun v w' => Ext w0 w' /\ R (e.put o.dst v) w' K
def Qel (P : Program) (N : Nat) (p b : Bool) (o : Oper) (e : Env) (w0 w : World) (R : Env -> World -> (Env -> World -> Prop) -> Prop) (K : Env -> World -> Prop) : Prop :=
 match p, b with
 | true, b => vcOp P o.op e (pw b w0 w) fun v => R (e.put o.dst v) w K
 | false, false => MemH P N o e w0 w R K
 | false, true => False
def vcH (P : Program) (N : Nat) (ops : List Oper) (w0 : World) : List (Bool × Oper) -> Env -> World -> (Env -> World -> Prop) -> Prop
 | [], e, w, K => K e w
 | (b, o) :: rest, e, w, K => Qh8 ops o.guard e
   (fun e => Qel P N (Qfm P o.op) b o e w0 w (vcH P N ops w0 rest) K)
   (fun e => vcH P N ops w0 rest (e.put o.dst undef) w K)
theorem Qr8 {P : Program} {N : Nat} {ops : List Oper} {w0 : World} {Q : Exit -> Act -> World -> Prop} {K : Env -> World -> Prop} (hN : ops.all (Qfa N) = true) (hsel : Region.noSelect ops.toArray = true)
  (hQ : ∀ c a w (d : Option Tmp) v, Q (.panic c) (a.put d v) w -> Q (.panic c) a w)
  (hK : ∀ e a w n, Fits N e a -> K e w -> Q .normal a (w.drewN n)) : ∀ (plan : List (Nat × Bool)) (fuel : Nat) (listed : Array Bool) (e : Env) (a : Act) (w : World) (n : Nat),
   plan.length <= fuel -> Qo6 ops.toArray plan listed = true -> Fits N e a -> Ext w0 w -> vcH P N ops w0 (Qay ops plan) e w K ->
   wpAnyH P .any ops.toArray Q (fun w' => Ext w0 w') fuel listed a (w.drewN n) := by
 intro plan
 induction plan with
 | nil =>
  intro fuel listed e a w n _ hp ha _ h
  simp only [Qo6, List.isEmpty_iff] at hp
  exact wpAnyH_done hp (hK e a w n ha h) fuel
 | cons p plan ih =>
  obtain ⟨i, t⟩ := p
  intro fuel listed e a w n hf hp ha hx h
  simp only [Qo6, Bool.and_eq_true, decide_eq_true_eq] at hp
  obtain ⟨⟨hi, hstep⟩, hp⟩ := hp
  have hi' : i < ops.length := by simpa using hi
  obtain ⟨o, ho⟩ : ∃ o, ops[i]? = some o := ⟨ops[i], List.getElem?_eq_getElem hi'⟩
  have hoa : ops.toArray[i]? = some o := by simpa using ho
  have hod : Qfa N o = true := by
   rw [List.all_eq_true] at hN
   exact hN o (List.mem_of_getElem? ho)
  have hpl : Qay ops ((i, t) :: plan) = (t, o) :: Qay ops plan := by simp [Qay, ho]
  rw [hpl] at h
  cases fuel with
  | zero => simp at hf
  | succ fuel =>
  have hf' : plan.length <= fuel := by simpa using hf
  rcases Qde ha h with ⟨e', ha', h', hw⟩ | ⟨e', ha', h', hw⟩
  ·
   cases t with
   | true =>
    simp only [Bool.and_eq_true] at hstep
    have h' : Qel P N (Qfm P o.op) true o e' w0 w (vcH P N ops w0 (Qay ops plan)) K := h'
    cases hpo : Qfm P o.op with
    | true =>
     rw [hpo] at h'
     simp only [Qel, pw] at h'
     obtain ⟨v, hv, hr⟩ := Qdm ha' h'
     refine wpAnyH_take hoa hsel hstep.1 hstep.2 (fun c a w => hQ c a w o.dst v) (.inl ⟨hw, fun w' hw' => hr w' hw'⟩) (hx.trans (Ext.drewN w n)) ?_
     exact ih fuel _ _ _ w n hf' hp (ha'.put' hod v) hx hv
    | false => rw [hpo] at h';exact h'.elim
   | false =>
    simp only [beq_iff_eq] at hstep
    refine wpAnyH_all hstep (by simp) ?_
    intro j hj
    simp only [List.mem_singleton] at hj
    subst hj
    unfold wpOp
    simp only [hoa, hw, if_true]
    refine .inl ?_
    have h' : Qel P N (Qfm P o.op) false o e' w0 w (vcH P N ops w0 (Qay ops plan)) K := h'
    cases hpo : Qfm P o.op with
    | true =>
     rw [hpo] at h'
     simp only [Qel, pw] at h'
     obtain ⟨v, hv, hr⟩ := Qdm ha' h'
     unfold Oper.wp
     rw [hr (w.drewN n) (Ext.drewN w n)]
     exact ⟨hx.trans (Ext.drewN w n), ih fuel _ _ _ w n hf' hp (ha'.put' hod v) hx hv⟩
    | false =>
     rw [hpo] at h'
     have h' : MemH P N o e' w0 w (vcH P N ops w0 (Qay ops plan)) K := h'
     exact h' a n _ Q ha' fun v w' m hv => ⟨hv.1.trans (Ext.drewN w' m), ih fuel _ _ _ w' m hf' hp (ha'.put' hod v) hv.1 hv.2⟩
  ·
   have hnext : wpAnyH P .any ops.toArray Q (fun w' => Ext w0 w') fuel (listed.setIfInBounds i true) (a.put o.dst undef) (w.drewN n) :=
    ih fuel _ _ _ w n hf' hp (ha'.put' hod undef) hx h'
   cases t with
   | true =>
    simp only [Bool.and_eq_true] at hstep
    exact wpAnyH_take hoa hsel hstep.1 hstep.2 (fun c a w => hQ c a w o.dst undef) (.inr ⟨hw, rfl⟩) (hx.trans (Ext.drewN w n)) hnext
   | false =>
    simp only [beq_iff_eq] at hstep
    refine wpAnyH_all hstep (by simp) ?_
    intro j hj
    simp only [List.mem_singleton] at hj
    subst hj
    unfold wpOp
    simp only [hoa, hw, Bool.false_eq_true, if_false]
    exact ⟨hx.trans (Ext.drewN w n), hnext⟩
theorem Qk3 {C : Ctx} {k : List It} {c : List PanicEntry} {a : Act} {w : World} (d : Option Tmp) (v : Value) (h : cont C k (.panic c) (a.put d v) w) : cont C k (.panic c) a w := by
 induction k with
 | nil =>
  have h' : bodyPost C.P C.fn (Qrs C.F) (.panic c) (a.put d v) w := h
  obtain ⟨h1, h2⟩ := h'
  have h3 : a.defers = [] := by cases d <;> simpa [Act.put] using h1
  exact (⟨h3, h2⟩ : bodyPost C.P C.fn (Qrs C.F) (.panic c) a w)
 | cons x k ih => cases x <;> exact ih h
theorem Qdp {P : Program} {fn : Func} {F : Value -> World -> Prop} {N : Nat} {k : List It} {e : Env} {w : World} (w0 : World) (hx : Ext w0 w) (ks : List Nat) (plan : List (Nat × Bool)) {id : Nat} {ops : List Oper} {l : List (Bool × Oper)}
  (hm : P.follows .mixedOrders = true) (hB : (Qo6 ops.toArray plan (Array.replicate ops.toArray.size false) && Region.noSelect ops.toArray && decide (plan.length <= ops.length)) = true) (hN : ops.all (Qfa N) = true) (hl : Qay ops plan = l)
  (h : ∀ K : Env -> World -> Prop, (∀ e w, VC ⟨P, fn, F, N⟩ k e w -> K e w) -> vcH P N ops w0 l e w (selC ks K)) : VC ⟨P, fn, F, N⟩ (.code (.region id ops.toArray true) :: k) e w := by
 intro a n ha
 simp only [Bool.and_eq_true, decide_eq_true_eq] at hB
 obtain ⟨⟨hB1, hB2⟩, hB3⟩ := hB
 refine wp_region_held (S := fun w' => Ext w0 w') hm ?_
 subst hl
 refine Qr8 (K := selC ks (VC ⟨P, fn, F, N⟩ k)) hN hB2 (fun c a w d v hq => Qk3 d v hq) (fun e a w n ha hv => ?_) plan _ _ e a w (n + 1) (by simpa using hB3) hB1 ha hx (h _ fun _ _ hv => hv)
 exact ((Qc9 ks e _).1 hv) a n (ha.sel ks)
theorem Upd.ext {w w' : World} (h : Upd [] w w') : Ext w w' := .of_keep fun k hk => h.block k hk (by simp)
theorem Upd.extH {B : List Nat} {w w' : World} (h : Upd B w w') : Ext (holes B w) w' := .holes fun k hk hB => h.block k hk hB
theorem Heap.ext {w w' : World} {G : List Res} (h : Heap w [] w' G) : Ext w w' := h.upd.ext
theorem Ext.alloc (w : World) (o : Obj) : Ext w (w.alloc o) := .of_keep fun k hk => RowKit.Below.heap_alloc w o k hk
theorem QAr {C : Ctx} {k : List It} {l : Nat} {a : Act} {w : World} (h : cont C k (.goto l) a w) : False := by
 induction k with
 | nil => exact h
 | cons x k ih => cases x <;> exact ih h
theorem Qp8 {C : Ctx} {k : List It} {e : Env} {w : World} {c : Code} (h : VC C (.code c :: k) e w) : VC C (.code (.scope c) :: k) e w := by
 intro a n ha
 have h1 := h a n ha
 simp only [cont] at h1 ⊢
 refine wp_scope_straight (wp_mono h1 fun ex a w hq => ?_)
 cases ex with
 | goto l => exact (QAr hq).elim
 | _ => exact hq
section
variable {P : Program} {N : Nat} {d : Option Tmp} {ty : Nat} {pos : String} {af : Array Edge} {gd : Option (Nat × Bool)} {e : Env} {w : World} {R : Env -> World -> (Env -> World -> Prop) -> Prop} {K : Env -> World -> Prop}
def QG3 (P : Program) (ts : Array TypeId) (ty : TypeId) (vs : List Value) (w : World) (C : Value -> World -> Prop) : Prop :=
 ∀ n, ∃ v w' m, (Builtin.copy_ ts ty vs.toArray).run P (w.drewN n) = .ok v (w'.drewN m) /\ C v w'
theorem Qna {az : Array Operand} {ts : Array TypeId} (h : argL e az.toList fun vs => QG3 P ts ty vs w fun v w' => R (e.put d v) w' K) :
  MemK P N ⟨d, .call { callee := .builtin .copy, args := az, argTypes := ts }, ty, pos, af, gd⟩ e w R K :=
 Qdn fun a n ha => by
  obtain ⟨v, w', m, hr, hC⟩ := Qcp (K := fun vs => QG3 P ts ty vs w fun v w' => R (e.put d v) w' K) ha h n
  refine ⟨v, w', m, ?_, hC⟩
  simp only [execOp, resolve, invoke, builtin, Qe3, Sem.run_bind, Sem.run_pure, Result.andThen_ok, hr]
theorem Qic {w0 : World} {B : List Nat} {G : List Res} (hH : Heap w0 B w G) (i : Nat) {T T' E ty : TypeId} {sz : Nat} {ad ap : Addr} {n cap m dl c off : Nat} {xs news : List Value} {x : Value} {C : Value -> World -> Prop}
  (hi : G[i]? = some (Res.row E sz (some ad) n cap xs)) (hu : P.underlying T = some (.slice E)) (hz : P.szo E = some sz) (hp : ap = ad.add off)
  (hs : Src P w x T' sz m news) (h1 : ∀ u ∈ news, u.oneCell' = true) (hoff : off + min m dl * sz <= xs.length)
  (h : ∀ w', Upd [ad.block] w w' -> Heap w0 B w' (G.set i (Res.row E sz (some ad) n cap (xs.take off ++ news.take (min m dl * sz) ++ xs.drop (off + min m dl * sz)))) -> C (.int .i64 (min m dl : Nat)) w') :
  QG3 P #[T, T'] ty [.slice (some ap) dl c, x] w C := by
 intro k
 obtain ⟨hxl, hnc, hcm, hcase⟩ := hH.at i hi
 rcases hcase with hcase | ⟨g, rest, fz, hg0, hg, hl2, hfz⟩
 ·
  cases hcase.1
 cases hg0
 subst hp
 have hlt : g < w.heap.size := (Array.getElem?_eq_some_iff.1 hg).1
 obtain ⟨hnl, hlen, _, _⟩ := hs.spec
 have hfirst : (Builtin.firstCells sz (min m dl) x).run P (w.drewN k) = .ok (news.take (min m dl * sz)).toArray (w.drewN k) := by
  cases x with
  | slice a k' c' =>
   obtain ⟨rfl, ⟨hr1, hr2, hr3⟩, _⟩ := hs
   cases a with
   | none =>
    have hk0 := hr2 rfl
    subst hk0
    simp [Builtin.firstCells]
   | some ad' =>
    refine run_firstCells_some (P := P) _ sz (min k' dl) ad' k' c' _ ?_ fun j v hv => ?_
    ·
     rw [List.length_take, hr1]
     exact Nat.min_eq_left (Nat.mul_le_mul_right _ (Nat.min_le_left _ _))
    ·
     rw [List.getElem?_take] at hv
     split at hv
     ·
      exact (hr3 ad' rfl).heap (w' := w.drewN k) rfl j v hv
     ·
      cases hv
  | string s =>
   obtain ⟨rfl, rfl, rfl, _⟩ := hs
   simp only [Builtin.firstCells, Sem.run_pure, Qf7, Nat.mul_one, Qao, toL]
   congr 1
   apply Array.ext'
   simp [List.map_take]
  | _ => exact hs.elim
 have hadd : (⟨g, 0, none⟩ : Addr).add off = ⟨g, off, none⟩ := by unfold Addr.add;split <;> simp_all
 have hnt : (news.take (min m dl * sz)).length = min m dl * sz := by
  rw [List.length_take, hnl]
  exact Nat.min_eq_left (Nat.mul_le_mul_right _ (Nat.min_le_left _ _))
 have hst := Qdv (P := P) g off E fz (news.take (min m dl * sz)) 0 (xs ++ rest) (w.drewN k) hg (by rw [hl2];exact hfz) (by rw [hnt];simp;omega) (fun u hu => h1 u (List.mem_of_mem_take hu))
 have hcells : (xs ++ rest).take (off + 0) ++ news.take (min m dl * sz) ++ (xs ++ rest).drop (off + 0 + (news.take (min m dl * sz)).length) = (xs.take off ++ news.take (min m dl * sz) ++ xs.drop (off + min m dl * sz)) ++ rest := by
  rw [hnt, Nat.add_zero, List.take_append_of_le_length (by omega), List.drop_append_of_le_length (by omega)]
  simp
 rw [hcells] at hst
 have hso := Qd0 (P := P) hz
 refine ⟨.int .i64 (min m dl : Nat), Qd9 w g ((xs.take off ++ news.take (min m dl * sz) ++ xs.drop (off + min m dl * sz)) ++ rest) E fz, k, ?_, h _ (Qf0 _ _ _ _ _) (hH.set i hi (Qf0 _ _ _ _ _) ⟨?_, hnc, hcm, .inr ⟨g, rest, fz, rfl, Qgz hlt, ?_, hfz⟩⟩ ?_)⟩
 ·
  have hmin : Nat.min m dl = min m dl := rfl
  simp [Builtin.copy_, run_underlying hu, hlen, hso, hmin, hfirst, hadd, hst, Qgg, goInt]
 ·
  rw [List.length_append, List.length_append, hnt, List.length_take, List.length_drop, <- hxl];omega
 ·
  rw [List.length_append, List.length_append, List.length_append, hnt, List.length_take, List.length_drop]
  rw [List.length_append] at hl2;omega
 ·
  intro b hb
  exact ⟨.inl hb, by rw [Qf8];simp [Res.row] at hb;omega⟩
end
def extR (w0 : World) (R : Env -> World -> (Env -> World -> Prop) -> Prop) : Env -> World -> (Env -> World -> Prop) -> Prop := fun e w K => Ext w0 w /\ R e w K
section
variable {P : Program} {N : Nat} {ops : List Oper} {rest : List (Bool × Oper)} {d : Option Tmp} {r t ty : Nat} {op : Op} {pos : String} {af : Array Edge} {e : Env} {w w0 : World} {K : Env -> World -> Prop}
theorem QKr (ks : List Nat) : vcH P N ops w0 [] e w (selC ks K) = selK ks e fun e => K e w := rfl
theorem QG4 {R : Env -> World -> (Env -> World -> Prop) -> Prop} : extR w0 R e w K = (Ext w0 w /\ R e w K) := rfl
theorem pw_t : pw true w0 w = w0 := rfl
theorem pw_f : pw false w0 w = w := rfl
theorem QKs (x : Operand) (bf : Bool) : vcH P N ops w0 ((bf, ⟨some r, .move x, ty, pos, af, none⟩) :: rest) e w K = arg e x (fun v => vcH P N ops w0 rest ((r, v) :: e) w K) := rfl
theorem QG5 (x : Operand) (bf : Bool) (jj : Nat) (bb : Bool) : vcH P N ops w0 ((bf, ⟨some r, .move x, ty, pos, af, some (jj, bb)⟩) :: rest) e w K = Qbc ops jj bb e (fun e => arg e x (fun v => vcH P N ops w0 rest ((r, v) :: e) w K)) (fun e => vcH P N ops w0 rest ((r, undef) :: e) w K) := by rw [<- Qaz];rfl
theorem QDy (x : Operand) (bf : Bool) : vcH P N ops w0 ((bf, ⟨some r, .assign x, ty, pos, af, none⟩) :: rest) e w K = arg e x (fun v => vcH P N ops w0 rest ((r, v) :: e) w K) := rfl
theorem QKt (c x y : Operand) (bf : Bool) : vcH P N ops w0 ((bf, ⟨some r, .pick c x y, ty, pos, af, none⟩) :: rest) e w K = arg e c fun vc => Qp5 vc (arg e x (fun v => vcH P N ops w0 rest ((r, v) :: e) w K)) (arg e y (fun v => vcH P N ops w0 rest ((r, v) :: e) w K)) := rfl
theorem QG6 (op : BinOp) (T T' : TypeId) (x y : Operand) (bf : Bool) : vcH P N ops w0 ((bf, ⟨some r, .binOp op T x y T', ty, pos, af, none⟩) :: rest) e w K = arg e x fun a => arg e y fun b => Qbr P op T x y a b (pw bf w0 w) (fun v => vcH P N ops w0 rest ((r, v) :: e) w K) := rfl
theorem QDz (op : BinOp) (T T' : TypeId) (x y : Operand) (bf : Bool) (jj : Nat) (bb : Bool) : vcH P N ops w0 ((bf, ⟨some r, .binOp op T x y T', ty, pos, af, some (jj, bb)⟩) :: rest) e w K = Qbc ops jj bb e (fun e => arg e x fun a => arg e y fun b => Qbr P op T x y a b (pw bf w0 w) (fun v => vcH P N ops w0 rest ((r, v) :: e) w K)) (fun e => vcH P N ops w0 rest ((r, undef) :: e) w K) := by rw [<- Qaz];rfl
theorem QKu (op : UnOp) (T : TypeId) (x : Operand) (bf : Bool) : vcH P N ops w0 ((bf, ⟨some r, .unOp op T x, ty, pos, af, none⟩) :: rest) e w K = arg e x fun a => vUn op a (fun v => vcH P N ops w0 rest ((r, v) :: e) w K) := rfl
theorem QG7 (op : UnOp) (T : TypeId) (x : Operand) (bf : Bool) (jj : Nat) (bb : Bool) : vcH P N ops w0 ((bf, ⟨some r, .unOp op T x, ty, pos, af, some (jj, bb)⟩) :: rest) e w K = Qbc ops jj bb e (fun e => arg e x fun a => vUn op a (fun v => vcH P N ops w0 rest ((r, v) :: e) w K)) (fun e => vcH P N ops w0 rest ((r, undef) :: e) w K) := by rw [<- Qaz];rfl
theorem Qi3 (s d : TypeId) (x : Operand) (bf : Bool) : vcH P N ops w0 ((bf, ⟨some r, .convert s d x, ty, pos, af, none⟩) :: rest) e w K = Qel P N (Qbn P s d) bf ⟨some r, .convert s d x, ty, pos, af, none⟩ e w0 w (vcH P N ops w0 rest) K := rfl
theorem QAs (s d : TypeId) (x : Operand) (bf : Bool) (hc : Qbn P s d = true) : vcH P N ops w0 ((bf, ⟨some r, .convert s d x, ty, pos, af, none⟩) :: rest) e w K = arg e x fun a => Qe2 P s d a (pw bf w0 w) (fun v => vcH P N ops w0 rest ((r, v) :: e) w K) := by rw [Qi3, hc];rfl
theorem Qx8 (s d : TypeId) (x : Operand) (hc : Qbn P s d = false) : vcH P N ops w0 ((false, ⟨some r, .convert s d x, ty, pos, af, none⟩) :: rest) e w K = MemK P N ⟨some r, .convert s d x, ty, pos, af, none⟩ e w (extR w0 (vcH P N ops w0 rest)) K := by rw [Qi3, hc];rfl
theorem Qnb (s d : TypeId) (x : Operand) (bf : Bool) (jj : Nat) (bb : Bool) : vcH P N ops w0 ((bf, ⟨some r, .convert s d x, ty, pos, af, some (jj, bb)⟩) :: rest) e w K = Qbc ops jj bb e (fun e => Qel P N (Qbn P s d) bf ⟨some r, .convert s d x, ty, pos, af, some (jj, bb)⟩ e w0 w (vcH P N ops w0 rest) K) (fun e => vcH P N ops w0 rest ((r, undef) :: e) w K) := by rw [<- Qaz];rfl
theorem Qx9 (s d : TypeId) (x : Operand) (bf : Bool) (jj : Nat) (bb : Bool) (hc : Qbn P s d = true) : vcH P N ops w0 ((bf, ⟨some r, .convert s d x, ty, pos, af, some (jj, bb)⟩) :: rest) e w K = Qbc ops jj bb e (fun e => arg e x fun a => Qe2 P s d a (pw bf w0 w) (fun v => vcH P N ops w0 rest ((r, v) :: e) w K)) (fun e => vcH P N ops w0 rest ((r, undef) :: e) w K) := by rw [Qnb, hc];rfl
theorem QG8 (T : TypeId) (x : Operand) (lo hi : Option Operand) (bf : Bool) : vcH P N ops w0 ((bf, ⟨some r, .slice T x lo hi none, ty, pos, af, none⟩) :: rest) e w K = arg e x fun a => argO e lo fun l => argO e hi fun h => Qb3 P T a l h (fun v => vcH P N ops w0 rest ((r, v) :: e) w K) := rfl
theorem Quv (S : TypeId) (x : Operand) (f : Nat) (bf : Bool) : vcH P N ops w0 ((bf, ⟨some r, .fieldAddr S x f, ty, pos, af, none⟩) :: rest) e w K = arg e x fun a => Qa4 P S a f (fun v => vcH P N ops w0 rest ((r, v) :: e) w K) := rfl
theorem Qr9 (S : TypeId) (x : Operand) (f : Nat) (bf : Bool) (jj : Nat) (bb : Bool) : vcH P N ops w0 ((bf, ⟨some r, .fieldAddr S x f, ty, pos, af, some (jj, bb)⟩) :: rest) e w K = Qbc ops jj bb e (fun e => arg e x fun a => Qa4 P S a f (fun v => vcH P N ops w0 rest ((r, v) :: e) w K)) (fun e => vcH P N ops w0 rest ((r, undef) :: e) w K) := by rw [<- Qaz];rfl
theorem Quw (T : TypeId) (x i : Operand) (bf : Bool) : vcH P N ops w0 ((bf, ⟨some r, .indexAddr T x i, ty, pos, af, none⟩) :: rest) e w K = arg e x fun a => arg e i fun n => Qba P T a n (fun v => vcH P N ops w0 rest ((r, v) :: e) w K) := rfl
theorem Qsa (T : TypeId) (x i : Operand) (bf : Bool) (jj : Nat) (bb : Bool) : vcH P N ops w0 ((bf, ⟨some r, .indexAddr T x i, ty, pos, af, some (jj, bb)⟩) :: rest) e w K = Qbc ops jj bb e (fun e => arg e x fun a => arg e i fun n => Qba P T a n (fun v => vcH P N ops w0 rest ((r, v) :: e) w K)) (fun e => vcH P N ops w0 rest ((r, undef) :: e) w K) := by rw [<- Qaz];rfl
theorem QG9 (T : TypeId) (x i : Operand) (bf : Bool) : vcH P N ops w0 ((bf, ⟨some r, .index T x i, ty, pos, af, none⟩) :: rest) e w K = arg e x fun a => arg e i fun n => Qd1 P T a n (fun v => vcH P N ops w0 rest ((r, v) :: e) w K) := rfl
theorem QD0 (T : TypeId) (x i : Operand) (bf : Bool) (jj : Nat) (bb : Bool) : vcH P N ops w0 ((bf, ⟨some r, .index T x i, ty, pos, af, some (jj, bb)⟩) :: rest) e w K = Qbc ops jj bb e (fun e => arg e x fun a => arg e i fun n => Qd1 P T a n (fun v => vcH P N ops w0 rest ((r, v) :: e) w K)) (fun e => vcH P N ops w0 rest ((r, undef) :: e) w K) := by rw [<- Qaz];rfl
theorem QAt (x : Operand) (i : Nat) (bf : Bool) : vcH P N ops w0 ((bf, ⟨some r, .extract x i, ty, pos, af, none⟩) :: rest) e w K = arg e x fun a => Qio a i (fun v => vcH P N ops w0 rest ((r, v) :: e) w K) := rfl
theorem QHa (T : TypeId) (ps : Array (Nat × Operand)) (bf : Bool) : vcH P N ops w0 ((bf, ⟨some r, .build T ps, ty, pos, af, none⟩) :: rest) e w K = Qgy e ps.toList fun vs => Qc0 P T vs (fun v => vcH P N ops w0 rest ((r, v) :: e) w K) := rfl
theorem QKv (T : TypeId) (x : Operand) (bf : Bool) : vcH P N ops w0 ((bf, ⟨some r, .load T x, ty, pos, af, none⟩) :: rest) e w K = arg e x fun a => Qb0 P T a (pw bf w0 w) (fun v => vcH P N ops w0 rest ((r, v) :: e) w K) := rfl
theorem QHb (T : TypeId) (x : Operand) (bf : Bool) (jj : Nat) (bb : Bool) : vcH P N ops w0 ((bf, ⟨some r, .load T x, ty, pos, af, some (jj, bb)⟩) :: rest) e w K = Qbc ops jj bb e (fun e => arg e x fun a => Qb0 P T a (pw bf w0 w) (fun v => vcH P N ops w0 rest ((r, v) :: e) w K)) (fun e => vcH P N ops w0 rest ((r, undef) :: e) w K) := by rw [<- Qaz];rfl
theorem Qya (x : Operand) (bf : Bool) : vcH P N ops w0 ((bf, ⟨some r, .nilCheck x, ty, pos, af, none⟩) :: rest) e w K = arg e x fun a => vNil a (fun v => vcH P N ops w0 rest ((r, v) :: e) w K) := rfl
theorem Qux (x : Operand) (bf : Bool) (jj : Nat) (bb : Bool) : vcH P N ops w0 ((bf, ⟨some r, .nilCheck x, ty, pos, af, some (jj, bb)⟩) :: rest) e w K = Qbc ops jj bb e (fun e => arg e x fun a => vNil a (fun v => vcH P N ops w0 rest ((r, v) :: e) w K)) (fun e => vcH P N ops w0 rest ((r, undef) :: e) w K) := by rw [<- Qaz];rfl
theorem QNp (az : Array Operand) (ts : Array TypeId) (bf : Bool) : vcH P N ops w0 ((bf, ⟨some r, .call { callee := .builtin .len, args := az, argTypes := ts }, ty, pos, af, none⟩) :: rest) e w K = argL e az.toList fun vs => Qry P ts[0]? vs (fun v => vcH P N ops w0 rest ((r, v) :: e) w K) := rfl
theorem QKw (az : Array Operand) (ts : Array TypeId) (bf : Bool) (jj : Nat) (bb : Bool) : vcH P N ops w0 ((bf, ⟨some r, .call { callee := .builtin .len, args := az, argTypes := ts }, ty, pos, af, some (jj, bb)⟩) :: rest) e w K = Qbc ops jj bb e (fun e => argL e az.toList fun vs => Qry P ts[0]? vs (fun v => vcH P N ops w0 rest ((r, v) :: e) w K)) (fun e => vcH P N ops w0 rest ((r, undef) :: e) w K) := by rw [<- Qaz];rfl
theorem QD1 (az : Array Operand) (ts : Array TypeId) : vcH P N ops w0 ((false, ⟨d, .call { callee := .builtin .append, args := az, argTypes := ts }, ty, pos, af, none⟩) :: rest) e w K = MemK P N ⟨d, .call { callee := .builtin .append, args := az, argTypes := ts }, ty, pos, af, none⟩ e w (extR w0 (vcH P N ops w0 rest)) K := rfl
theorem QKx (az : Array Operand) (ts : Array TypeId) : vcH P N ops w0 ((false, ⟨d, .call { callee := .builtin .copy, args := az, argTypes := ts }, ty, pos, af, none⟩) :: rest) e w K = MemK P N ⟨d, .call { callee := .builtin .copy, args := az, argTypes := ts }, ty, pos, af, none⟩ e w (extR w0 (vcH P N ops w0 rest)) K := rfl
theorem QHc (x : Operand) (az : Array Operand) (ts : Array TypeId) : vcH P N ops w0 ((false, ⟨d, .call { callee := .value x, args := az, argTypes := ts }, ty, pos, af, none⟩) :: rest) e w K = MemK P N ⟨d, .call { callee := .value x, args := az, argTypes := ts }, ty, pos, af, none⟩ e w (extR w0 (vcH P N ops w0 rest)) K := rfl
theorem QD2 (x : Operand) (az : Array Operand) (ts : Array TypeId) (jj : Nat) (bb : Bool) : vcH P N ops w0 ((false, ⟨d, .call { callee := .value x, args := az, argTypes := ts }, ty, pos, af, some (jj, bb)⟩) :: rest) e w K = Qbc ops jj bb e (fun e => MemK P N ⟨d, .call { callee := .value x, args := az, argTypes := ts }, ty, pos, af, some (jj, bb)⟩ e w (extR w0 (vcH P N ops w0 rest)) K) (fun e => vcH P N ops w0 rest (e.put d undef) w K) := by rw [<- Qaz];rfl
theorem QHd (T : TypeId) : vcH P N ops w0 ((false, ⟨d, .alloc T, ty, pos, af, none⟩) :: rest) e w K = MemK P N ⟨d, .alloc T, ty, pos, af, none⟩ e w (extR w0 (vcH P N ops w0 rest)) K := rfl
theorem Qsb (T : TypeId) (n : Nat) (ps : Array (Nat × Operand)) : vcH P N ops w0 ((false, ⟨d, .buildSlice T n ps, ty, pos, af, none⟩) :: rest) e w K = MemK P N ⟨d, .buildSlice T n ps, ty, pos, af, none⟩ e w (extR w0 (vcH P N ops w0 rest)) K := rfl
theorem QHe (T : TypeId) (x y : Operand) : vcH P N ops w0 ((false, ⟨d, .store T x y, ty, pos, af, none⟩) :: rest) e w K = MemK P N ⟨d, .store T x y, ty, pos, af, none⟩ e w (extR w0 (vcH P N ops w0 rest)) K := rfl
theorem Quy (T : TypeId) (x y : Operand) : vcH P N ops w0 ((false, ⟨d, .makeSlice T x y, ty, pos, af, none⟩) :: rest) e w K = MemK P N ⟨d, .makeSlice T x y, ty, pos, af, none⟩ e w (extR w0 (vcH P N ops w0 rest)) K := rfl
end
theorem tn1 (a b : Nat) : ((a : Int) + (b : Int)).toNat = a + b := by omega
theorem tn2 (a : Nat) : (a : Int).toNat = a := by omega
theorem tn3 (a k : Nat) : ((a : Int) + (no_index (OfNat.ofNat k : Int))).toNat = a + (OfNat.ofNat k : Nat) := Int.toNat_natCast (a + k)
theorem tn5 (a b : Nat) : ((a : Int) - (b : Int)).toNat = a - b := by omega
theorem tn4 (a k : Nat) : ((a : Int) - (no_index (OfNat.ofNat k : Int))).toNat = a - (OfNat.ofNat k : Nat) := tn5 a k
attribute [go_sem] tn1 tn2 tn3 tn4 tn5
attribute [go_sem ↓] QKr QG4 pw_t pw_f QKs QG5 QDy QKt QG6 QDz QKu QG7 QAs Qx8 Qx9 QG8 Quv Qr9 Quw Qsa QG9 QD0 QAt QHa QKv QHb Qya Qux QNp QKw QD1 QKx QHc QD2 QHd Qsb QHe Quy
def Qi4 (ops : Array Oper) : List (Nat × Bool) -> Array Bool -> Option (Array Bool)
 | [], listed => some listed
 | (i, t) :: plan, listed =>
  if (decide (i < ops.size) && (match t with
   | true => Region.free .any ops listed i && (Region.ready .any ops listed).contains i
   | false => Region.ready .any ops listed == [i])) = true then Qi4 ops plan (listed.setIfInBounds i true) else none
theorem QD3 {α : Type} {c : Prop} [Decidable c] {a : Option α} {x : α} (h : (if c then a else none) = some x) : c /\ a = some x := by
 by_cases hc : c
 ·
  rw [if_pos hc] at h;exact ⟨hc, h⟩
 ·
  rw [if_neg hc] at h;cases h
section
variable {P : Program} {N : Nat} {ops : List Oper} {w0 : World} {Q : Exit -> Act -> World -> Prop}
theorem Qiq {K : Env -> World -> Prop} (hN : ops.all (Qfa N) = true) {i : Nat} (hi : i < ops.length) {R : Act -> World -> Prop} {e : Env} {a : Act} {w : World} {n : Nat} (ha : Fits N e a) (hx : Ext w0 w)
  (h : vcH P N ops w0 (Qay ops [(i, false)]) e w K) (hR : ∀ e a w n, Fits N e a -> Ext w0 w -> K e w -> R a (w.drewN n)) : wpOp P ops.toArray Q i R a (w.drewN n) := by
 obtain ⟨o, ho⟩ : ∃ o, ops[i]? = some o := ⟨ops[i], List.getElem?_eq_getElem hi⟩
 have hoa : ops.toArray[i]? = some o := by simpa using ho
 have hod : Qfa N o = true := by
  rw [List.all_eq_true] at hN
  exact hN o (List.mem_of_getElem? ho)
 have hpl : Qay ops [(i, false)] = [(false, o)] := by simp [Qay, ho]
 rw [hpl] at h
 rcases Qde ha h with ⟨e', ha', h', hw⟩ | ⟨e', ha', h', hw⟩
 ·
  unfold wpOp
  simp only [hoa, hw, if_true]
  refine .inl ?_
  have h' : Qel P N (Qfm P o.op) false o e' w0 w (vcH P N ops w0 []) K := h'
  cases hpo : Qfm P o.op with
  | true =>
   rw [hpo] at h'
   simp only [Qel, pw] at h'
   obtain ⟨v, hv, hr⟩ := Qdm ha' h'
   unfold Oper.wp
   rw [hr (w.drewN n) (Ext.drewN w n)]
   exact hR _ _ w n (ha'.put' hod v) hx hv
  | false =>
   rw [hpo] at h'
   have h' : MemH P N o e' w0 w (vcH P N ops w0 []) K := h'
   exact h' a n _ Q ha' fun v w' m hv => hR _ _ w' m (ha'.put' hod v) hv.1 hv.2
 ·
  unfold wpOp
  simp only [hoa, hw, Bool.false_eq_true, if_false]
  exact hR _ _ w n (ha'.put' hod undef) hx h'
theorem Qp9 {K : Env -> World -> Prop} (hN : ops.all (Qfa N) = true) (hsel : Region.noSelect ops.toArray = true)
  (hQ : ∀ c a w (d : Option Tmp) v, Q (.panic c) (a.put d v) w -> Q (.panic c) a w) : ∀ (plan : List (Nat × Bool)) (fuel : Nat) (listed l' : Array Bool) (e : Env) (a : Act) (w : World) (n : Nat),
   plan.length <= fuel -> Qi4 ops.toArray plan listed = some l' -> Fits N e a -> Ext w0 w -> vcH P N ops w0 (Qay ops plan) e w K ->
   (∀ e a w n, Fits N e a -> Ext w0 w -> K e w -> wpAnyH P .any ops.toArray Q (fun w' => Ext w0 w') (fuel - plan.length) l' a (w.drewN n)) ->
   wpAnyH P .any ops.toArray Q (fun w' => Ext w0 w') fuel listed a (w.drewN n) := by
 intro plan
 induction plan with
 | nil =>
  intro fuel listed l' e a w n _ hp ha hx h hK
  simp only [Qi4, Option.some.injEq] at hp
  subst hp
  exact hK e a w n ha hx h
 | cons p plan ih =>
  obtain ⟨i, t⟩ := p
  intro fuel listed l' e a w n hf hp ha hx h hK
  simp only [Qi4] at hp
  obtain ⟨hstep, hp2⟩ := QD3 hp
  clear hp
  simp only [Bool.and_eq_true, decide_eq_true_eq] at hstep
  obtain ⟨hi, hstep⟩ := hstep
  have hi' : i < ops.length := by simpa using hi
  obtain ⟨o, ho⟩ : ∃ o, ops[i]? = some o := ⟨ops[i], List.getElem?_eq_getElem hi'⟩
  have hoa : ops.toArray[i]? = some o := by simpa using ho
  have hod : Qfa N o = true := by
   rw [List.all_eq_true] at hN
   exact hN o (List.mem_of_getElem? ho)
  have hpl : Qay ops ((i, t) :: plan) = (t, o) :: Qay ops plan := by simp [Qay, ho]
  cases fuel with
  | zero => simp at hf
  | succ fuel =>
  have hf' : plan.length <= fuel := by simpa using hf
  have hK' : ∀ e a w n, Fits N e a -> Ext w0 w -> K e w -> wpAnyH P .any ops.toArray Q (fun w' => Ext w0 w') (fuel - plan.length) l' a (w.drewN n) := by
   intro e a w n h1 h2 h3
   have := hK e a w n h1 h2 h3
   simpa using this
  cases t with
  | true =>
   rw [hpl] at h
   simp only [Bool.and_eq_true] at hstep
   rcases Qde ha h with ⟨e', ha', h', hw⟩ | ⟨e', ha', h', hw⟩
   ·
    have h' : Qel P N (Qfm P o.op) true o e' w0 w (vcH P N ops w0 (Qay ops plan)) K := h'
    cases hpo : Qfm P o.op with
    | true =>
     rw [hpo] at h'
     simp only [Qel, pw] at h'
     obtain ⟨v, hv, hr⟩ := Qdm ha' h'
     refine wpAnyH_take hoa hsel hstep.1 hstep.2 (fun c a w => hQ c a w o.dst v) (.inl ⟨hw, fun w' hw' => hr w' hw'⟩) (hx.trans (Ext.drewN w n)) ?_
     exact ih fuel _ _ _ _ w n hf' hp2 (ha'.put' hod v) hx hv hK'
    | false => rw [hpo] at h';exact h'.elim
   ·
    exact wpAnyH_take hoa hsel hstep.1 hstep.2 (fun c a w => hQ c a w o.dst undef) (.inr ⟨hw, rfl⟩) (hx.trans (Ext.drewN w n)) (ih fuel _ _ _ _ w n hf' hp2 (ha'.put' hod undef) hx h' hK')
  | false =>
   simp only [beq_iff_eq] at hstep
   refine wpAnyH_all hstep (by simp) ?_
   intro j hj
   simp only [List.mem_singleton] at hj
   subst hj
   have h2 : vcH P N ops w0 (Qay ops [(j, false)]) e w (fun e w => vcH P N ops w0 (Qay ops plan) e w K) := by
    rw [hpl] at h
    have hp1 : Qay ops [(j, false)] = [(false, o)] := by simp [Qay, ho]
    rw [hp1]
    exact h
   exact Qiq hN hi' ha hx h2 fun e a w n h1 h2 h3 => ⟨h2.trans (Ext.drewN w n), ih fuel _ _ _ _ w n hf' hp2 h1 h2 h3 hK'⟩
end
section
variable {P : Program} {N : Nat} {d : Option Tmp} {ty : Nat} {pos : String} {af : Array Edge} {gd : Option (Nat × Bool)} {e : Env} {w : World} {R : Env -> World -> (Env -> World -> Prop) -> Prop} {K : Env -> World -> Prop}
theorem Qk4 {w0 : World} {B : List Nat} {G : List Res} (hH : Heap w0 B w G) (i : Nat) {T T' E ty : TypeId} {bytes : Nat} {zv : Value} {a : Option Addr} {n cap m : Nat} {xs : List Value}
  (hi : G[i]? = some (Res.row E 1 a n cap xs)) (hu : P.underlying T = some (.slice E)) (hz : (P.info? E).map (fun i => (i.zero.map Value.cells, i.size, i.bytes)) = some (some #[zv], 1, bytes))
  (hT' : P.underlying T' = some (.int .i64)) (h1 : zv.oneCell' = true) (hm0 : ¬ m = 0) (hmb : m * bytes <= 281474976710656) (hm63 : m <= 9223372036854775807) (hb : cap < n + m -> (n + m) * bytes <= 140737488355328 /\ n + m <= 9223372036854775807) (k : Nat) :
  ∃ a' cap' w' k', (Builtin.append_ #[T, T'] ty #[.slice a n cap, .int .i64 m]).run P (w.drewN k) = .ok (.slice a' (n + m) cap') (w'.drewN k') /\ Heap w0 B w' (G.set i (Res.row E 1 a' (n + m) cap' (xs ++ List.replicate m zv))) /\ (n + m <= cap -> a' = a /\ cap' = cap) := by
 have hrow := hH.at i hi
 obtain ⟨hxl, hnc, hcm, hcase⟩ := hrow
 generalize hnews : List.replicate m zv = news
 have hnl : news.length = m * 1 := by rw [<- hnews];simp
 have h1 : ∀ u ∈ news, u.oneCell' = true := by
  intro u hu
  rw [<- hnews] at hu
  rw [(List.mem_replicate.1 hu).2];exact h1
 cases hinfo : P.info? E with
 | none => simp [hinfo] at hz
 | some ti =>
 simp only [hinfo, Option.map_some, Option.some.injEq, Prod.mk.injEq] at hz
 obtain ⟨hz1, hz2, hz3⟩ := hz
 cases hzz : ti.zero with
 | none => simp [hzz] at hz1
 | some z =>
 simp only [hzz, Option.map_some, Option.some.injEq] at hz1
 have hso : ∀ w, (sizeOf E).run P w = .ok 1 w := fun w => by simp [sizeOf, typeInfo, hinfo, hz2]
 have hti : ∀ w, (typeInfo E).run P w = .ok ti w := fun w => by simp [typeInfo, hinfo]
 have hzv : ∀ w, (zeroValue E).run P w = .ok z w := fun w => by simp [zeroValue, typeInfo, hinfo, hzz]
 have hund : ∀ w, (underlying T').run P w = .ok (.int .i64) w := fun w => run_underlying hT' w
 have hwr : IntKind.i64.wrap (m : Int) = m := Qfe ⟨by omega, by omega⟩
 have hneg : ¬ (m : Int) < 0 := by omega
 have hw0 : IntKind.i64.wrap 0 = 0 := by decide
 have hbig : ¬ 281474976710656 < (m : Int) * (bytes : Int) := by
  have : ((m * bytes : Nat) : Int) = (m : Int) * (bytes : Int) := Int.natCast_mul _ _
  omega
 have hzc : Builtin.zeroCells z.cells m = news.toArray := by
  rw [hz1, <- hnews]
  apply Array.ext
  ·
   simp [Builtin.zeroCells]
  ·
   intro j h1 h2
   simp [Builtin.zeroCells, Nat.mod_one]
 by_cases hroom : n + m <= cap
 ·
  rcases hcase with ⟨rfl, rfl, rfl⟩ | ⟨g, rest, fz, rfl, hg, hl2, hfz⟩
  ·
   have hm : m = 0 := by omega
   subst hm
   have hn : news = [] := List.eq_nil_of_length_eq_zero (by simpa using hnl)
   subst hn
   refine ⟨none, 0, w, k, ?_, ?_, fun _ => ⟨rfl, rfl⟩⟩
   ·
    simp [Builtin.append_, run_underlying hu, hso, hund, asInt, asIntOf, hw0, hwr, hneg, hbig, hz3, hti, hm0, hzv, hzc]
   ·
    have : xs ++ [] = xs := by simp
    rw [this]
    have : G.set i (Res.row E 1 none 0 0 xs) = G := by
     apply List.ext_getElem?
     intro j
     rw [List.getElem?_set]
     split
     ·
      rename_i hj;subst hj;split <;> simp_all
     ·
      rfl
    simp only [Nat.zero_add]
    rw [this];exact hH
  ·
   have hlt : g < w.heap.size := (Array.getElem?_eq_some_iff.1 hg).1
   have hfit : n * 1 + news.length <= (xs ++ rest).length := by rw [hl2, hnl, <- Nat.add_mul];exact Nat.mul_le_mul_right _ hroom
   have hst := Qdv (P := P) g (n * 1) E fz news 0 (xs ++ rest) (w.drewN k) hg (by rw [hl2];exact hfz) (by simpa using hfit) h1
   have hadd : (⟨g, 0, none⟩ : Addr).add (n * 1) = ⟨g, n * 1, none⟩ := by unfold Addr.add;split <;> simp_all
   have hcs : (xs ++ rest).take (n * 1 + 0) ++ news ++ (xs ++ rest).drop (n * 1 + 0 + news.length) = (xs ++ news) ++ rest.drop news.length := by
    rw [Nat.add_zero, <- hxl, List.take_left]
    rw [List.drop_append]
    simp
   rw [hcs] at hst
   have hadd' : (⟨g, 0, none⟩ : Addr).add n = ⟨g, n, none⟩ := by rw [Nat.mul_one] at hadd;exact hadd
   have hst' := hst
   rw [Nat.mul_one] at hst'
   refine ⟨some ⟨g, 0, none⟩, cap, Qd9 w g ((xs ++ news) ++ rest.drop news.length) E fz, k, ?_, ?_, fun _ => ⟨rfl, rfl⟩⟩
   ·
    simp [Builtin.append_, run_underlying hu, hso, hund, asInt, asIntOf, hw0, hwr, hneg, hbig, hz3, hti, hm0, hzv, hzc, hroom, hadd', hst', Qgg]
   ·
    refine hH.set i hi (Qf0 _ _ _ _ _) ⟨?_, hroom, hcm, .inr ⟨g, rest.drop news.length, fz, rfl, Qgz hlt, ?_, hfz⟩⟩ ?_
    ·
     rw [List.length_append, hxl, hnl, Nat.add_mul]
    ·
     simp at hl2 hfit ⊢;omega
    ·
     intro b hb;exact ⟨.inl hb, by rw [Qf8];simp [Res.row] at hb;omega⟩
 ·
  obtain ⟨hb1, hb2⟩ := hb (by omega)
  have hg63 : ¬ ((n + m : Nat) : Int) > IntKind.i64.max := by
   have : IntKind.i64.max = 9223372036854775807 := by decide
   rw [this];omega
  have hfits : ¬ (Builtin.nextslicecap (n + m) cap * ti.bytes > 2 ^ 48) := by
   have := growslice_fits (need := n + m) (old := cap) (bytes := ti.bytes) (by omega) (by rw [hz3];exact hb1)
   have e : (2 : Nat) ^ 48 = 281474976710656 := by decide
   rw [e];omega
  have hold : (Builtin.firstCells 1 n (.slice a n cap)).run P (w.drewN (k + 1)) = .ok xs.toArray (w.drewN (k + 1)) := by
   have hrs := Qbo (hH.at i hi)
   cases a with
   | none =>
    have hn0 := hrs.2.1 rfl
    subst hn0
    have : xs = [] := List.eq_nil_of_length_eq_zero (by simpa using hxl)
    subst this
    simp [Builtin.firstCells]
   | some ad => exact run_firstCells_some (P := P) _ 1 n ad n cap xs hxl (fun j v hv => (hrs.2.2 ad rfl).heap (w' := w.drewN (k + 1)) rfl j v hv)
  have hge := grownCap_ge (w.drewN k) (n + m) cap E
  have hcm' := grownCap_le_maxLen (w.drewN k) (n + m) cap E (by simp only [maxLen];omega)
  refine ⟨some ⟨w.heap.size, 0, none⟩, grownCap (w.drewN k) (n + m) cap E, w.alloc (.cells (xs.toArray ++ news.toArray ++ Builtin.zeroCells z.cells (grownCap (w.drewN k) (n + m) cap E - (n + m))) E), k + 1, ?_, ?_, fun h => absurd h hroom⟩
  ·
   have hz2' : ¬ (9223372036854775807 < ((n : Int) + (m : Int))) := by omega
   have hz3' : ¬ (281474976710656 < Builtin.nextslicecap (n + m) cap * ti.bytes) := by
    have e : (2 : Nat) ^ 48 = 281474976710656 := by decide
    rw [e] at hfits;omega
   have hf2 := hzv (w.drewN (k + 1))
   have hra := fun n w => Qg9 (P := P) n w
   simp [Builtin.append_, run_underlying hu, hso, hund, asInt, asIntOf, hwr, hneg, hbig, hz3, hm0, hzc, hroom, hti, hz2', (hz3 ▸ hz3'), hra, hold, hf2, hzv, Qdo, Question.forced, grownCap]
   rw [Qm9]
   congr 3
   apply Array.ext'
   simp
  ·
   have hcells : (xs.toArray ++ news.toArray ++ Builtin.zeroCells z.cells (grownCap (w.drewN k) (n + m) cap E - (n + m))) = ((xs ++ news) ++ (Builtin.zeroCells z.cells (grownCap (w.drewN k) (n + m) cap E - (n + m))).toList).toArray := by
    apply Array.ext';simp
   rw [hcells]
   have hzc : z.cells.size = 1 := by rw [hz1];rfl
   refine hH.set i hi ⟨rfl, rfl, rfl, by simp, fun k hk _ => RowKit.Below.heap_alloc _ _ _ hk⟩ ⟨?_, hge, hcm', .inr ⟨w.heap.size, _, (0, 0), rfl, heap_alloc_new w _, ?_, Qwu _⟩⟩ ?_
   ·
    rw [List.length_append, hxl, hnl, Nat.add_mul]
   ·
    rw [List.length_append, List.length_append, hxl, hnl, Array.length_toList, size_zeroCells, hzc, <- Nat.add_mul, <- Nat.add_mul]
    congr 1;omega
   ·
    intro b hb
    simp [Res.row] at hb
    subst hb
    exact ⟨.inr (Nat.le_refl _), by simp⟩
theorem Qk5 {w0 : World} {B : List Nat} {G : List Res} (hH : Heap w0 B w G) (i : Nat) {T T' E ty : TypeId} {bytes : Nat} {zv : Value} {a : Option Addr} {n cap : Nat} {xs : List Value}
  (hi : G[i]? = some (Res.row E 1 a n cap xs)) (hu : P.underlying T = some (.slice E)) (hz : (P.info? E).map (fun i => (i.zero.map Value.cells, i.size, i.bytes)) = some (some #[zv], 1, bytes)) (hT' : P.underlying T' = some (.int .i64)) (k : Nat) :
  (Builtin.append_ #[T, T'] ty #[.slice a n cap, .int .i64 0]).run P (w.drewN k) = .ok (.slice a n cap) (w.drewN k) := by
 obtain ⟨hxl, hnc, hcm, hcase⟩ := hH.at i hi
 cases hinfo : P.info? E with
 | none => simp [hinfo] at hz
 | some ti =>
 simp only [hinfo, Option.map_some, Option.some.injEq, Prod.mk.injEq] at hz
 obtain ⟨hz1, hz2, hz3⟩ := hz
 have hso : ∀ w, (sizeOf E).run P w = .ok 1 w := fun w => by simp [sizeOf, typeInfo, hinfo, hz2]
 have hti : ∀ w, (typeInfo E).run P w = .ok ti w := fun w => by simp [typeInfo, hinfo]
 have hund : ∀ w, (underlying T').run P w = .ok (.int .i64) w := fun w => run_underlying hT' w
 have hw0 : IntKind.i64.wrap 0 = 0 := by decide
 cases a with
 | none => simp [Builtin.append_, run_underlying hu, hso, hund, asInt, asIntOf, hw0, hti, hnc]
 | some ad => simp [Builtin.append_, run_underlying hu, hso, hund, asInt, asIntOf, hw0, hti, hnc, storeCells]
theorem Qyb {w0 : World} {B : List Nat} {G : List Res} (hH : Heap w0 B w G) (i : Nat) {T T' E ty : TypeId} {bytes : Nat} {zv : Value} {a : Option Addr} {n cap m : Nat} {xs : List Value} {x : Int} {C : Value -> World -> Prop}
  (hi : G[i]? = some (Res.row E 1 a n cap xs)) (hx : x = m) (hu : P.underlying T = some (.slice E)) (hz : (P.info? E).map (fun i => (i.zero.map Value.cells, i.size, i.bytes)) = some (some #[zv], 1, bytes))
  (hT' : P.underlying T' = some (.int .i64)) (h1 : zv.oneCell' = true) (hb : (n + m) * bytes <= 140737488355328 /\ n + m <= 9223372036854775807)
  (h : ∀ a' cap' w', (n + m <= cap -> a' = a /\ cap' = cap) -> Heap w0 B w' (G.set i (Res.row E 1 a' (n + m) cap' (xs ++ List.replicate m zv))) -> C (.slice a' (n + m) cap') w') :
  AppK P #[T, T'] ty [.slice a n cap, .int .i64 x] w C := by
 subst hx
 intro k
 have hle : m * bytes <= (n + m) * bytes := Nat.mul_le_mul_right _ (by omega)
 by_cases hm0 : m = 0
 ·
  subst hm0
  have e : G.set i (Res.row E 1 a (n + 0) cap (xs ++ List.replicate 0 zv)) = G := by
   simp only [Nat.add_zero, List.replicate_zero, List.append_nil]
   exact List.ext_getElem? fun j => by
    rw [List.getElem?_set]
    split
    ·
     rename_i hj;subst hj;rw [hi];simp [(List.getElem?_eq_some_iff.1 hi).1]
    ·
     rfl
  exact ⟨_, w, k, Qk5 (P := P) (ty := ty) hH i hi hu hz hT' k, h a cap w (fun _ => ⟨rfl, rfl⟩) (by rw [e];exact hH)⟩
 obtain ⟨a', cap', w', k', hr, hH', hc⟩ := Qk4 (P := P) (ty := ty) hH i hi hu hz hT' h1 hm0 (by omega) (by omega) (fun _ => hb) k
 exact ⟨_, w', k', hr, h a' cap' w' hc hH'⟩
theorem Heap.focus {w0 : World} {B : List Nat} {G : List Res} {r : Res} (h : Heap w0 B w G) (i : Nat) (hi : G[i]? = some r) : Heap w r.foot w [r] :=
 Heap.one (h.at i hi) fun b hb => (h.foot r (List.mem_of_getElem? hi) b hb).2
theorem Qfn {w0 : World} {B : List Nat} {G : List Res} (hH : Heap w0 B w G) (vs0 : List Value) {T E : TypeId} {n : Nat} {ps : Array (Nat × Operand)} {xs : List Operand} (hu : P.underlying T = some (.slice E)) (hsz : P.szo E = some 1) (hz : (P.zeroOf E).isSome = true)
  (hps : ps.toList = (xs.zipIdx).map fun p => (p.2, p.1)) (hn : n = xs.length) (hb : n <= 1000000)
  (h : argL e xs fun vs => vs = vs0 /\ (∀ v ∈ vs, v.cells = #[v]) /\ ∀ g w', Heap w0 B w' (Res.row E 1 (some ⟨g, 0, none⟩) n n vs0 :: G) -> R (e.put d (.slice (some ⟨g, 0, none⟩) n n)) w' K) :
  MemK P N ⟨d, .buildSlice T n ps, ty, pos, af, gd⟩ e w R K := by
 refine Qc3 hu hsz hz hps hn hb ?_
 have key : ∀ (xs : List Operand) (K K' : List Value -> Prop), argL e xs K -> (∀ vs, vs.length = xs.length -> K vs -> K' vs) -> argL e xs K' := by
  intro xs
  induction xs with
  | nil => intro K K' h hk;exact hk [] rfl h
  | cons x xs ih =>
   intro K K' h hk
   simp only [argL] at h ⊢
   have ka : ∀ (K K' : Value -> Prop), arg e x K -> (∀ v, K v -> K' v) -> arg e x K' := by
    intro K K' h2 hk2
    have kt : ∀ (e : Env) (n : Nat), argT e n K -> argT e n K' := by
     intro e
     induction e with
     | nil => intro n h;exact h
     | cons p e ihe =>
      intro n h
      simp only [argT] at h ⊢
      split
      ·
       rename_i hn;rw [if_pos hn] at h;exact hk2 _ h
      ·
       rename_i hn;rw [if_neg hn] at h;exact ihe _ h
    cases x with
    | tmp t => exact kt e t h2
    | const v => exact hk2 _ h2
    | global g => exact hk2 _ h2
    | func f => exact hk2 _ h2
   exact ka _ _ h fun v hv => ih _ _ hv fun vs hl hvs => hk (v :: vs) (by simp [hl]) hvs
 refine key xs _ _ h fun vs hl hv => ?_
 obtain ⟨rfl, h1, h2⟩ := hv
 refine ⟨h1, ?_⟩
 have := hH.row E (n := n) (cap := n) (sz := 1) vs [] (by rw [hl, hn];omega) (by rw [List.append_nil, hl, hn];omega) (Nat.le_refl _) (by omega)
 rw [List.append_nil] at this
 exact h2 _ _ this
end
section
variable {P : Program} {N : Nat} {d : Option Tmp} {ty : Nat} {pos : String} {af : Array Edge} {gd : Option (Nat × Bool)} {e : Env} {w : World} {R : Env -> World -> (Env -> World -> Prop) -> Prop} {RQ : Env -> World -> (Env -> Prop) -> Prop} {K : Env -> World -> Prop} {KQ : Env -> Prop} {KV : Value -> Prop}
def FnK (P : Program) (fv : Value) (vs : List Value) (w : World) (C : Value -> World -> Prop) : Prop :=
 ∃ f first cs, fv = .func (.func f) first cs /\ (∀ args w, (callFunc f args).run P w = .ok (.enter f args) w) /\ CallK P f (first.toList ++ vs ++ cs.toList) w C
theorem Qbf {x : Operand} {az : Array Operand} {ts : Array TypeId}
  (h : arg e x fun fv => argL e az.toList fun vs => FnK P fv vs w fun v w' => R (e.put d v) w' K) :
  MemK P N ⟨d, .call { callee := .value x, args := az, argTypes := ts }, ty, pos, af, gd⟩ e w R K := by
 intro a n next Q ha hK
 have h0 := Qa7 (K := fun fv => argL e az.toList fun vs => FnK P fv vs w fun v w' => R (e.put d v) w' K) ha h
 have h1 := Qcp (K := fun vs => FnK P (a.eval x) vs w fun v w' => R (e.put d v) w' K) ha h0
 obtain ⟨f, first, cs, hx, hf, F, hD, hC⟩ := h1
 have hm : (az.map a.eval) = (az.toList.map a.eval).toArray := Qe3 az a
 have e1 : first ++ (az.toList.map a.eval).toArray ++ cs = (first.toList ++ az.toList.map a.eval ++ cs.toList).toArray := by
  apply Array.ext';simp
 have hrun : (execOp a.eval ⟨d, .call { callee := .value x, args := az, argTypes := ts }, ty, pos, af, gd⟩).run P (w.drewN n) = .ok (.enter f (first.toList ++ az.toList.map a.eval ++ cs.toList).toArray) (w.drewN n) := by
  simp only [execOp, Go.resolve, hx, Deferred.ofValue, Sem.run_bind, Sem.run_pure, Result.andThen_ok, invoke]
  rw [hm, e1, hf]
 unfold Oper.wp
 rw [hrun]
 exact (hD n).mono fun e' w' ⟨v, w'', m, he, hw, hF⟩ => by subst he;subst hw;exact hK v w'' m (hC v w'' hF)
theorem FnK.mk {f : FuncId} {first cs : Array Value} {vs : List Value} {C F : Value -> World -> Prop} (hf : ∀ args w, (callFunc f args).run P w = .ok (.enter f args) w)
  (h : Does P f (first.toList ++ vs ++ cs.toList).toArray w F) (hc : ∀ v w', F v w' -> C v w') : FnK P (.func (.func f) first cs) vs w C := ⟨f, first, cs, rfl, hf, F, h, hc⟩
theorem Qlq {op : BinOp} {T : TypeId} {xo yo : Operand} {x y : Value} {b : Bool} (h : ∀ w', (do eqGuard op T xo yo x y;binOp op T x y : Sem Value).run P w' = .ok (.bool b) w') : EqR P op T xo yo x y w KV = KV (.bool b) := by
 apply propext
 constructor
 ·
  rintro ⟨b', hr, hk⟩
  have h1 := hr w (Ext.refl w)
  rw [h w] at h1
  simp only [Result.ok.injEq, Value.bool.injEq] at h1
  rw [h1.1];exact hk
 ·
  intro hk;exact ⟨b, fun w' _ => h w', hk⟩
theorem Qfo {op : BinOp} {T : TypeId} {xo yo : Operand} {x y : Value} (h : (∀ c, x ≠ .agg c) /\ x ≠ .nilIface) (w : World) : (eqGuard op T xo yo x y).run P w = .ok () w := Qg8 h w
theorem Qsc {T E : TypeId} (hu : P.underlying T = some (.pointer E)) (d : Nat) (a : Option Addr) (w : World) : (Op.equalIn (d + 1) T (.pointer a) (.pointer none)).run P w = .ok a.isNone w := by
 unfold Op.equalIn
 cases a <;> simp [run_underlying hu]
theorem Qo7 {T E : TypeId} (hu : P.underlying T = some (.pointer E)) (a : Option Addr) (w : World) : (Op.equal T (.pointer a) (.pointer none)).run P w = .ok a.isNone w := Qsc hu 9999 a w
theorem Qsd {T : TypeId} {ps rs : Array TypeId} {v : Bool} (hu : P.underlying T = some (.func ps rs v)) (d : Nat) (f : Fn) (x y : Array Value) (w : World) : (Op.equalIn (d + 1) T (.func f x y) .nilFunc).run P w = .ok false w := by
 unfold Op.equalIn
 simp [run_underlying hu]
theorem Qyc {T : TypeId} {ps rs : Array TypeId} {v : Bool} (hu : P.underlying T = some (.func ps rs v)) (f : Fn) (x y : Array Value) (w : World) : (Op.equal T (.func f x y) .nilFunc).run P w = .ok false w := Qsd hu 9999 f x y w
theorem Qww {T E : TypeId} (hu : P.underlying T = some (.pointer E)) (a : Option Addr) (xo yo : Operand) : Qbr P .eql T xo yo (.pointer a) (.pointer none) w KV = KV (.bool a.isNone) := by
 refine Qlq fun w' => ?_
 simp only [Sem.run_bind]
 rw [Qfo ⟨by simp, by simp⟩]
 simp only [Result.andThen_ok, binOp, Sem.run_bind, Qo7 hu, Sem.run_pure]
theorem QFj {T E : TypeId} (hu : P.underlying T = some (.pointer E)) (a : Option Addr) (xo yo : Operand) : Qbr P .neq T xo yo (.pointer a) (.pointer none) w KV = KV (.bool !a.isNone) := by
 refine Qlq fun w' => ?_
 simp only [Sem.run_bind]
 rw [Qfo ⟨by simp, by simp⟩]
 simp only [Result.andThen_ok, binOp, Sem.run_bind, Qo7 hu, Sem.run_pure]
theorem QKy {T : TypeId} {ps rs : Array TypeId} {v : Bool} (hu : P.underlying T = some (.func ps rs v)) (f : Fn) (x y : Array Value) (xo yo : Operand) : Qbr P .eql T xo yo (.func f x y) .nilFunc w KV = KV (.bool false) := by
 refine Qlq fun w' => ?_
 simp only [Sem.run_bind]
 rw [Qfo ⟨by simp, by simp⟩]
 simp only [Result.andThen_ok, binOp, Sem.run_bind, Qyc hu, Sem.run_pure]
def Res.pair (r s : Res) : Res where
 foot := r.foot ++ s.foot
 holds := fun w => r.holds w /\ s.holds w /\ Apart r s
 loc := by
  rintro w w' hb ⟨h1, h2, h3⟩
  exact ⟨r.loc w w' (fun b h => hb b (List.mem_append_left _ h)) h1, s.loc w w' (fun b h => hb b (List.mem_append_right _ h)) h2, h3⟩
theorem Heap.unpair {w0 : World} {B : List Nat} {G : List Res} {r s : Res} (h : Heap w0 B w (Res.pair r s :: G)) : Heap w0 B w (r :: s :: G) := by
 obtain ⟨h1, h2, h3⟩ := h.holds (Res.pair r s) (by simp)
 have hf := h.foot (Res.pair r s) (by simp)
 have ha := List.pairwise_cons.1 h.apart
 refine ⟨h.upd, ?_, ?_, ?_⟩
 ·
  intro x hx
  simp only [List.mem_cons] at hx
  rcases hx with rfl | rfl | hx
  ·
   exact h1
  ·
   exact h2
  ·
   exact h.holds x (by simp [hx])
 ·
  intro x hx b hb
  simp only [List.mem_cons] at hx
  rcases hx with rfl | rfl | hx
  ·
   exact hf b (List.mem_append_left _ hb)
  ·
   exact hf b (List.mem_append_right _ hb)
  ·
   exact h.foot x (by simp [hx]) b hb
 ·
  rw [List.pairwise_cons, List.pairwise_cons]
  refine ⟨fun x hx => ?_, fun x hx b hb => ha.1 x hx b (List.mem_append_right _ hb), ha.2⟩
  rcases List.mem_cons.1 hx with rfl | hx
  ·
   exact h3
  ·
   exact fun b hb => ha.1 x hx b (List.mem_append_left _ hb)
theorem Heap.pair {w0 : World} {B : List Nat} {G : List Res} {r s : Res} (h : Heap w0 B w (r :: s :: G)) : Heap w0 B w (Res.pair r s :: G) := by
 have ha := List.pairwise_cons.1 h.apart
 have ha2 := List.pairwise_cons.1 ha.2
 refine ⟨h.upd, ?_, ?_, ?_⟩
 ·
  intro x hx
  rcases List.mem_cons.1 hx with rfl | hx
  ·
   exact ⟨h.holds r (by simp), h.holds s (by simp), ha.1 s (by simp)⟩
  ·
   exact h.holds x (by simp [hx])
 ·
  intro x hx b hb
  rcases List.mem_cons.1 hx with rfl | hx
  ·
   rcases List.mem_append.1 hb with hb | hb
   ·
    exact h.foot r (by simp) b hb
   ·
    exact h.foot s (by simp) b hb
  ·
   exact h.foot x (by simp [hx]) b hb
 ·
  rw [List.pairwise_cons]
  refine ⟨fun x hx b hb => ?_, ha2.2⟩
  rcases List.mem_append.1 hb with hb | hb
  ·
   exact ha.1 x (by simp [hx]) b hb
  ·
   exact ha2.1 x hx b hb
theorem Qac {g T k : Nat} {cs : List Value} {v : Value} (h : (Res.blk g T cs).holds w) (hv : cs[k]? = some v) : w.cell? ⟨g, k, none⟩ = some v := by
 obtain ⟨fz, hg, _⟩ := h
 simp [World.cell?, hg, hv]
theorem Qa1 {g T : Nat} {cs : List Value} (h : (Res.blk g T cs).holds w) : Reads w ⟨g, 0, none⟩ cs := by
 intro j u hu
 have hadd : (⟨g, 0, none⟩ : Addr).add j = ⟨g, j, none⟩ := by unfold Addr.add;split <;> simp_all
 rw [hadd];exact Qac h hu
theorem Qbp (g o k : Nat) : (⟨g, o, none⟩ : Addr).add k = ⟨g, o + k, none⟩ := by unfold Addr.add;split <;> simp_all
def Res.bag (l : List Res) : Res where
 foot := l.flatMap Res.foot
 holds := fun w => (∀ r ∈ l, r.holds w) /\ l.Pairwise Apart
 loc := by
  rintro w w' hb ⟨h1, h2⟩
  exact ⟨fun r hr => r.loc w w' (fun b h => hb b (List.mem_flatMap.2 ⟨r, hr, h⟩)) (h1 r hr), h2⟩
theorem Heap.unbag {w0 : World} {B : List Nat} {G l : List Res} (h : Heap w0 B w (Res.bag l :: G)) : Heap w0 B w (l ++ G) := by
 obtain ⟨h1, h2⟩ := h.holds (Res.bag l) (by simp)
 have hf := h.foot (Res.bag l) (by simp)
 have ha := List.pairwise_cons.1 h.apart
 refine ⟨h.upd, ?_, ?_, ?_⟩
 ·
  intro x hx
  rcases List.mem_append.1 hx with hx | hx
  ·
   exact h1 x hx
  ·
   exact h.holds x (by simp [hx])
 ·
  intro x hx b hb
  rcases List.mem_append.1 hx with hx | hx
  ·
   exact hf b (List.mem_flatMap.2 ⟨x, hx, hb⟩)
  ·
   exact h.foot x (by simp [hx]) b hb
 ·
  rw [List.pairwise_append]
  exact ⟨h2, ha.2, fun r hr s hs b hb => ha.1 s hs b (List.mem_flatMap.2 ⟨r, hr, hb⟩)⟩
theorem Heap.bag {w0 : World} {B : List Nat} {G : List Res} (l : List Res) (h : Heap w0 B w (l ++ G)) : Heap w0 B w (Res.bag l :: G) := by
 have ha := List.pairwise_append.1 h.apart
 refine ⟨h.upd, ?_, ?_, ?_⟩
 ·
  intro x hx
  rcases List.mem_cons.1 hx with rfl | hx
  ·
   exact ⟨fun r hr => h.holds r (List.mem_append_left _ hr), ha.1⟩
  ·
   exact h.holds x (List.mem_append_right _ hx)
 ·
  intro x hx b hb
  rcases List.mem_cons.1 hx with rfl | hx
  ·
   obtain ⟨r, hr, hb⟩ := List.mem_flatMap.1 hb
   exact h.foot r (List.mem_append_left _ hr) b hb
  ·
   exact h.foot x (List.mem_append_right _ hx) b hb
 ·
  rw [List.pairwise_cons]
  refine ⟨fun x hx b hb => ?_, ha.2.1⟩
  obtain ⟨r, hr, hb⟩ := List.mem_flatMap.1 hb
  exact ha.2.2 r hr x hx b hb
theorem Heap.front {w0 : World} {B : List Nat} {G : List Res} {r : Res} (i : Nat) (h : Heap w0 B w G) (hi : G[i]? = some r) : Heap w0 B w (r :: G.eraseIdx i) := by
 refine h.perm ?_
 have : ∀ (G : List Res) (i : Nat), G[i]? = some r -> G.Perm (r :: G.eraseIdx i) := by
  intro G
  induction G with
  | nil => intro i h;simp at h
  | cons x G ih =>
   intro i h
   cases i with
   | zero => simp at h;subst h;exact List.Perm.refl _
   | succ i =>
    rw [List.eraseIdx_cons_succ]
    exact ((ih i (by simpa using h)).cons x).trans (List.Perm.swap _ _ _)
 exact this G i hi
def vNth : List Value -> Nat -> (Value -> Prop) -> Prop
 | [], _, _ => False
 | v :: _, 0, K => K v
 | _ :: l, i + 1, K => vNth l i K
theorem QAu (v : Value) (l : List Value) : vNth (v :: l) 0 KV = KV v := rfl
theorem QAv (v : Value) (l : List Value) (i : Nat) : vNth (v :: l) (i + 1) KV = vNth l i KV := rfl
theorem QAw (l : List Value) : ∀ (i : Nat) (K : Value -> Prop), vNth l i K = match l[i]? with | some v => K v | none => False := by
 induction l with
 | nil => intro i K;simp [vNth]
 | cons v l ih =>
  intro i K
  cases i with
  | zero => simp [vNth]
  | succ i => simp [vNth, ih]
def Qid (d : Option TypeDesc) : Bool := match d with
 | some (.struct _) | some (.array _ _) | none => false
 | some _ => true
def Qft (d : Option TypeDesc) : Bool := match d with
 | some (.struct _) | some (.array _ _) => true
 | _ => false
theorem Qse {T : TypeId} (l : List Value) (off : Nat) (h : Qid (P.underlying T) = true) : Qrt P T l.toArray off KV = vNth l off KV := by
 rw [QAw, Qrt]
 cases hu : P.underlying T with
 | none => simp [hu, Qid] at h
 | some d =>
  cases d <;> first
   | (exfalso;simp [Qid, hu] at h;done)
   | (simp only [List.getElem?_toArray];cases l[off]? <;> rfl)
theorem QD4 {T : TypeId} (l : List Value) (off n : Nat) (h : Qft (P.underlying T) = true) (hz : P.szo T = some n) : Qrt P T l.toArray off KV = KV (.agg ((l.take (off + n)).drop off).toArray) := by
 have e : l.toArray.extract off (off + n) = ((l.take (off + n)).drop off).toArray := by
  apply Array.ext'
  simp [List.extract_eq_take_drop]
  rw [List.drop_take];congr 1;omega
 rw [Qrt]
 cases hu : P.underlying T with
 | none => simp [hu, Qft] at h
 | some d => cases d <;> simp_all [Qft]
theorem Qdt (S f : Nat) (l : List Value) {fields : Array Field} {fd : Field} {o : Nat} (h : P.underlying S = some (.struct fields)) (hf : fields[f]? = some fd) (hp : Qid (P.underlying fd.type) = true) (ho : fd.offset = o) (_hz : P.szo fd.type = some 1) : Qcs P S (.agg l.toArray) f KV = vNth l o KV := by
 subst ho
 simp only [Qcs, h, hf, Qse l _ hp]
theorem Qwx (S f : Nat) (l : List Value) (n : Nat) {fields : Array Field} {fd : Field} {o m : Nat} (h : P.underlying S = some (.struct fields)) (hf : fields[f]? = some fd) (hp : Qft (P.underlying fd.type) = true) (ho : (fd.offset, fd.offset + n) = (o, m)) (hz : P.szo fd.type = some n) : Qcs P S (.agg l.toArray) f KV = KV (.agg ((l.take m).drop o).toArray) := by
 simp only [Prod.mk.injEq] at ho
 obtain ⟨rfl, rfl⟩ := ho
 simp only [Qcs, h, hf, QD4 l _ n hp hz]
theorem Qha {T : TypeId} {ps : List (Nat × Value)} {cells : Array Value} (h : P.built T ps = some cells) : Qc0 P T ps KV = KV (.agg cells) := by simp [Qc0, h]
theorem Qnc (T : TypeId) (l : List Value) (k : IntKind) (i : Int) {n E : Nat} (h : P.underlying T = some (.array n E)) (hz : P.szo E = some 1) (hp : Qid (P.underlying E) = true) (_hn : P.szo T = some n) : Qd1 P T (.agg l.toArray) (.int k i) KV = ((0 <= i /\ i < (n : Int)) /\ vNth l i.toNat KV) := by
 simp only [Qd1, h, hz, Nat.mul_one, Qse l _ hp]
end
attribute [go_sem ↓] QAu QAv
attribute [go_sem] Qbp Option.isNone_some Option.isNone_none
theorem Quz {P : Program} {N : Nat} {ops rest : List Oper} {Q : Exit -> Act -> World -> Prop} {K : Env -> World -> Prop} {w : World} {n : Nat} (hR : rest.all (Qfa N) = true)
  (hK : ∀ e a w n, Fits N e a -> K e w -> Q .normal a (w.drewN n)) : ∀ (pre : List Oper) (e : Env) (a : Act), pre.all (Qfa N) = true -> pre.all (fun o => Qfm P o.op) = true -> Fits N e a ->
   Qa3 P N ops (pre ++ rest) e w K -> wpStill P ops.toArray (w.drewN n) (fun a' => wpList P ops.toArray Q rest a' (w.drewN n)) pre a := by
 intro pre
 induction pre with
 | nil => intro e a _ _ ha h;exact Qff hK rest e a w n hR ha h
 | cons o pre ih =>
  intro e a hl hp ha h
  simp only [List.all_cons, Bool.and_eq_true] at hl hp
  unfold wpStill
  rcases Qde ha h with ⟨e', ha', h', hw⟩ | ⟨e', ha', h', hw⟩
  ·
   rw [if_pos hw]
   unfold Qrw at h'
   rw [hp.1] at h'
   obtain ⟨v, hv, hr⟩ := Qdm ha' h'
   unfold Oper.still
   rw [hr (w.drewN n) (Ext.drewN w n)]
   exact ⟨rfl, ih _ _ hl.2 hp.2 (ha'.put' hl.1 v) hv⟩
  ·
   rw [if_neg (by rw [hw];simp)]
   exact ih _ _ hl.2 hp.2 (ha'.put' hl.1 undef) h'
theorem Qa8 {P : Program} {fn : Func} {F : Value -> World -> Prop} {N : Nat} {k : List It} {e : Env} {w : World} (ks : List Nat) (m : Nat) {id : Nat} {ops : List Oper} (hm : P.follows .mixedOrders = true)
  (hB : Region.lexTailB .any ops.toArray m = true) (hp : (ops.take m).all (fun o => Qfm P o.op) = true) (hN : ops.all (Qfa N) = true)
  (h : ∀ K : Env -> World -> Prop, (∀ e w, VC ⟨P, fn, F, N⟩ k e w -> K e w) -> Qa3 P N ops ops e w (selC ks K)) : VC ⟨P, fn, F, N⟩ (.code (.region id ops.toArray true) :: k) e w := by
 intro a n ha
 have hN' := hN
 rw [<- List.take_append_drop m ops, List.all_append, Bool.and_eq_true] at hN'
 refine wp_region_still_tail m hm hB ?_
 show wpStill P ops.toArray (w.drewN (n + 1)) (fun a' => wpList P ops.toArray (fun ex a w => cont ⟨P, fn, F, N⟩ k ex a w) (ops.drop m) a' (w.drewN (n + 1))) (ops.take m) a
 refine Quz (n := n + 1) (K := selC ks (VC ⟨P, fn, F, N⟩ k)) hN'.2 (fun e a w n ha hv => ?_) (ops.take m) e a hN'.1 hp ha ?_
 ·
  exact ((Qc9 ks e _).1 hv) a n (ha.sel ks)
 ·
  rw [List.take_append_drop];exact h _ fun _ _ hv => hv
theorem bytesV_take (l : List UInt8) (k : Nat) : (Qao l).take k = Qao (l.take k) := by simp [Qao]
theorem bytesV_drop (l : List UInt8) (k : Nat) : (Qao l).drop k = Qao (l.drop k) := by simp [Qao]
theorem bytesV_zero (n : Nat) : List.replicate n (Value.int .u8 0) = Qao (List.replicate n 0) := by simp [Qao]
theorem bytesV_get {l : List UInt8} {i : Nat} (h : i < l.length) : (Qao l)[i]? = some (.int .u8 (l.getD i 0).toNat) := by
 simp [Qao, List.getElem?_eq_getElem h, List.getD_eq_getElem?_getD]
theorem intsV_zero (n : Nat) : List.replicate n (Value.int .i64 0) = Qbm (List.replicate n 0) := by simp [Qbm]
theorem Qaj {l : List Int} {i : Nat} (h : i < l.length) : (Qbm l)[i]? = some (.int .i64 (l.getD i 0)) := by
 simp [Qbm, List.getElem?_eq_getElem h, List.getD_eq_getElem?_getD]
theorem Qsf (l : List Int) (i : Nat) (v : Int) : (Qbm l).set i (.int .i64 v) = Qbm (l.set i v) := by simp [Qbm, List.map_set]
theorem Qg1 (l : List UInt8) (i : Nat) (v : UInt8) : (Qao l).set i (.int .u8 v.toNat) = Qao (l.set i v) := by simp [Qao, List.map_set]
theorem Qb1 {α : Type} (l : List α) (i : Nat) (v : α) (h : i < l.length) : l.take i ++ [v] ++ l.drop (i + 1) = l.set i v := by
 rw [List.set_eq_take_append_cons_drop, if_pos h, List.append_assoc];rfl
theorem Qcx {w : World} {a : Option Addr} {n sz : Nat} {xs : List Value} (h : RS w a n sz xs) (hn : 0 < n) : ∃ p, a = some p := by
 cases a with
 | none => have := h.2.1 rfl;omega
 | some p => exact ⟨p, rfl⟩
theorem Qnd {w : World} {p : Addr} {l : List Int} {n : Nat} (h : RS w (some p) n 1 (Qbm l)) {i : Nat} (hi : i < l.length) : w.cell? (p.add i) = some (.int .i64 (l.getD i 0)) :=
 h.2.2 p rfl i _ (Qaj hi)
theorem drop_getD {α : Type} {l : List α} {i : Nat} (d : α) (h : i < l.length) : l.drop i = l.getD i d :: l.drop (i + 1) := by
 rw [List.drop_eq_getElem_cons h, List.getD_eq_getElem?_getD, List.getElem?_eq_getElem h];rfl
theorem Qd2 {α : Type} {l : List α} {i : Nat} (d : α) (h : i < l.length) : l.take (i + 1) = l.take i ++ [l.getD i d] := by
 rw [List.take_add_one, List.getD_eq_getElem?_getD, List.getElem?_eq_getElem h];rfl
theorem Qbs {α : Type} {l : List α} {i : Nat} (d : α) (h : i < l.length) : l.getD i d ∈ l := by
 rw [List.getD_eq_getElem?_getD, List.getElem?_eq_getElem h];exact List.getElem_mem h
theorem Qmg {w : World} {E sz : Nat} : Heap w [] w [Res.row E sz none 0 0 []] := Heap.one (r := Res.row E sz none 0 0 []) (Quq E sz w) (by intro b hb;cases hb)
theorem Heap.nilRow {w0 w : World} {B : List Nat} {G : List Res} (h : Heap w0 B w G) (E sz : Nat) : Heap w0 B w (Res.row E sz none 0 0 [] :: G) := h.call0 (G' := [Res.row E sz none 0 0 []]) Qmg
theorem Qo8 {k : IntKind} {i : Int} {n : Nat} (h : i = n) (hn : n <= k.bits) : shN k i = n := by subst h;simp [shN];exact Nat.min_eq_left hn
theorem Qyd {k : IntKind} {i : Int} {n : Nat} (h : i = n) (hn : n <= k.bits) (hk : k.bits <= 64) : shN k (i % 18446744073709551616) = n := by
 subst h
 rw [Int.emod_eq_of_lt (by omega) (by omega), shN];simp;exact Nat.min_eq_left hn
theorem Qsg (n : Nat) : ((2 : Int) ^ n) = ((2 ^ n : Nat) : Int) := by push_cast;rfl
theorem Qgh (v n : Nat) : (v : Int) / 2 ^ n = ((v / 2 ^ n : Nat) : Int) := by rw [Qsg, <- Int.natCast_ediv]
theorem Qmh (v n : Nat) : (v : Int) * 2 ^ n = ((v * 2 ^ n : Nat) : Int) := by rw [Qsg, <- Int.natCast_mul]
theorem Qd3 {P : Program} {T : TypeId} {a : Addr} {w : World} {K : Value -> Prop} (h : Qb0 P T (.pointer (some a)) w K) :
  ∃ v, K v /\ ∀ w', Ext w w' -> (loadVar T a).run P w' = .ok v w' := by
 have key : ∀ (n : Nat), (P.szo T = some n) -> (∀ w, (isAgg T).run P w = .ok true w) -> ∀ cs : List Value, cs.length = n -> Reads w a cs ->
   ∀ w', Ext w w' -> (loadVar T a).run P w' = .ok (.agg cs.toArray) w' := by
  intro n hn hagg cs hl hr w' hw
  have := Qek (P := P) (hr.ext hw)
  rw [hl] at this
  simp [loadVar, hagg, Qd0 hn, this]
 unfold Qb0 at h
 simp only at h
 split at h
 ·
  rename_i hu
  split at h
  ·
   rename_i n hn
   obtain ⟨cs, ⟨hl, hr⟩, hK⟩ := h
   exact ⟨_, hK, key n hn (fun w => by simp [isAgg, run_underlying hu]) cs hl hr⟩
  ·
   exact h.elim
 ·
  rename_i hu
  split at h
  ·
   rename_i n hn
   obtain ⟨cs, ⟨hl, hr⟩, hK⟩ := h
   exact ⟨_, hK, key n hn (fun w => by simp [isAgg, run_underlying hu]) cs hl hr⟩
  ·
   exact h.elim
 ·
  rename_i d hd1 hd2 hu
  obtain ⟨v, hv, hK⟩ := h
  refine ⟨v, hK, fun w' hw => ?_⟩
  have hc : w'.cell? a = some v := hw.cell hv
  have : (isAgg T).run P w' = .ok false w' := by
   cases d <;> simp_all [isAgg, run_underlying hu]
  simp [loadVar, this, hc]
 ·
  exact h.elim
section
variable {C : Ctx} {e : Env} {w : World}
theorem Qqa {t : Tmp} {T : TypeId} {a : Addr} (hr : C.fn.results = #[.cell t T]) (ht : e.find? t = some (.pointer (some a))) (h : Qb0 C.P T (.pointer (some a)) w fun v => C.F v w) : VX C [] .ret e w := by
 intro ac n ha
 obtain ⟨v, hv, hrun⟩ := Qd3 h
 refine ⟨ha.defers, v, ?_, v, w, n, rfl, rfl, hv⟩
 have h1 := ha.at_ t _ ht
 rw [Array.getD_eq_getD_getElem?] at h1
 have h2 := hrun (w.drewN n) (Ext.drewN w n)
 simp [results, hr, h1, asAddr, h2]
theorem Qeg {t u : Tmp} {T : TypeId} {a : Addr} {x : Value} (hr : C.fn.results = #[.cell t T, .tmp u]) (ht : e.find? t = some (.pointer (some a))) (hu : e.find? u = some x) (h : Qb0 C.P T (.pointer (some a)) w fun v => C.F (.tuple #[v, x]) w) : VX C [] .ret e w := by
 intro ac n ha
 obtain ⟨v, hv, hrun⟩ := Qd3 h
 refine ⟨ha.defers, .tuple #[v, x], ?_, _, w, n, rfl, rfl, hv⟩
 have h1 := ha.at_ t _ ht
 rw [Array.getD_eq_getD_getElem?] at h1
 have h3 := ha.at_ u _ hu
 rw [Array.getD_eq_getD_getElem?] at h3
 have h2 := hrun (w.drewN n) (Ext.drewN w n)
 simp [results, hr, h1, h3, asAddr, h2]
theorem Qgi {t u s : Tmp} {T : TypeId} {a : Addr} {x y : Value} (hr : C.fn.results = #[.cell t T, .tmp u, .tmp s]) (ht : e.find? t = some (.pointer (some a))) (hu : e.find? u = some x) (hs : e.find? s = some y) (h : Qb0 C.P T (.pointer (some a)) w fun v => C.F (.tuple #[v, x, y]) w) : VX C [] .ret e w := by
 intro ac n ha
 obtain ⟨v, hv, hrun⟩ := Qd3 h
 refine ⟨ha.defers, .tuple #[v, x, y], ?_, _, w, n, rfl, rfl, hv⟩
 have h1 := ha.at_ t _ ht
 rw [Array.getD_eq_getD_getElem?] at h1
 have h3 := ha.at_ u _ hu
 rw [Array.getD_eq_getD_getElem?] at h3
 have h4 := ha.at_ s _ hs
 rw [Array.getD_eq_getD_getElem?] at h4
 have h2 := hrun (w.drewN n) (Ext.drewN w n)
 simp [results, hr, h1, h3, h4, asAddr, h2]
end
theorem Qbu {P : Program} {T : TypeId} {g T' n : Nat} {cs : List Value} {w : World} {K : Value -> Prop} (h : (Res.blk g T' cs).holds w) (hd : Qft (P.underlying T) = true) (hz : P.szo T = some n) (hn : cs.length = n) (hk : K (.agg cs.toArray)) : Qb0 P T (.pointer (some ⟨g, 0, none⟩)) w K := by
 unfold Qb0
 cases hu : P.underlying T with
 | none => simp [hu, Qft] at hd
 | some d =>
  cases d <;> first
   | (exfalso;simp [Qft, hu] at hd;done)
   | (simp only [hz];exact ⟨cs, ⟨hn, Qa1 h⟩, hk⟩)
theorem QAx (cs : List Value) : ∀ (i : Nat) (pre mid suf : List Value), mid.length = cs.length -> pre.length = i ->
  (cs.zipIdx i).foldl (fun (a : Array Value) (x : Value × Nat) => a.setIfInBounds x.2 x.1) (pre ++ mid ++ suf).toArray = (pre ++ cs ++ suf).toArray := by
 induction cs with
 | nil => intro i pre mid suf hm hp;simp at hm;subst hm;simp
 | cons c cs ih =>
  intro i pre mid suf hm hp
  cases mid with
  | nil => simp at hm
  | cons m mid =>
   simp only [List.zipIdx_cons, List.foldl_cons]
   have e : (pre ++ m :: mid ++ suf).toArray.setIfInBounds i c = ((pre ++ [c]) ++ mid ++ suf).toArray := by
    subst hp
    apply Array.ext'
    simp [List.set_append_right]
   rw [e, ih (i + 1) (pre ++ [c]) mid suf (by simpa using hm) (by simp [hp])]
   simp
theorem Qu0 (k : Nat) : ∀ (l : List Value) (i : Nat) (pre suf : List Value), suf.length = l.length * k -> (∀ v ∈ l, v.cells.size = k) -> pre.length = i * k ->
  Instr.fill (fun i => some (i * k, k)) (pre ++ suf).toArray ((l.zipIdx i).map fun p => (p.2, p.1)) = some (pre ++ l.flatMap fun v => v.cells.toList).toArray := by
 intro l
 induction l with
 | nil => intro i pre suf hs _ _;simp at hs;subst hs;simp [Instr.fill]
 | cons v l ih =>
  intro i pre suf hs hc hp
  have hv := hc v (by simp)
  simp only [List.length_cons, Nat.add_mul, Nat.one_mul] at hs
  obtain ⟨mid, suf', rfl, hmid⟩ : ∃ mid suf', suf = mid ++ suf' /\ mid.length = k := ⟨suf.take k, suf.drop k, by simp, by simp;omega⟩
  simp only [List.length_append] at hs
  simp only [List.zipIdx_cons, List.map_cons, Instr.fill]
  rw [if_neg (by simp;omega)]
  have hcl : v.cells.toList.length = k := by rw [Array.length_toList];exact hv
  have e1 : (v.cells.zipIdx.foldl (fun cs (x : Value × Nat) => cs.setIfInBounds (i * k + x.2) x.1) (pre ++ (mid ++ suf')).toArray) = ((pre ++ v.cells.toList) ++ suf').toArray := by
   have h2 := QAx v.cells.toList (i * k) pre mid suf' (by rw [hmid, hcl]) hp
   rw [<- List.append_assoc, <- h2, <- Array.foldl_toList]
   rw [List.zipIdx_eq_map_add]
   simp [Array.toList_zipIdx, List.foldl_map, Nat.add_comm]
  have hih := ih (i + 1) (pre ++ v.cells.toList) suf' (by omega) (fun u hu => hc u (by simp [hu])) (by rw [List.length_append, hcl, hp, Nat.add_mul, Nat.one_mul])
  rw [e1, hih, List.flatMap_cons, List.append_assoc]
section
variable {P : Program} {N : Nat} {d : Option Tmp} {ty : Nat} {pos : String} {af : Array Edge} {gd : Option (Nat × Bool)} {e : Env} {w : World} {R : Env -> World -> (Env -> World -> Prop) -> Prop} {K : Env -> World -> Prop}
theorem Qye {e : Env} : ∀ (xs : List Operand) (K K' : List Value -> Prop), argL e xs K -> (∀ vs, vs.length = xs.length -> K vs -> K' vs) -> argL e xs K' := by
 intro xs
 induction xs with
 | nil => intro K K' h hk;exact hk [] rfl h
 | cons x xs ih =>
  intro K K' h hk
  simp only [argL] at h ⊢
  have ka : ∀ (x : Operand) (K K' : Value -> Prop), arg e x K -> (∀ v, K v -> K' v) -> arg e x K' := by
   intro x K K' h2 hk2
   have kt : ∀ (e : Env) (n : Nat), argT e n K -> argT e n K' := by
    intro e
    induction e with
    | nil => intro n h;exact h
    | cons p e ihe =>
     intro n h
     simp only [argT] at h ⊢
     split
     ·
      rename_i hn;rw [if_pos hn] at h;exact hk2 _ h
     ·
      rename_i hn;rw [if_neg hn] at h;exact ihe _ h
   cases x with
   | tmp t => exact kt e t h2
   | const v => exact hk2 _ h2
   | global g => exact hk2 _ h2
   | func f => exact hk2 _ h2
  exact ka x _ _ h fun v hv => ih _ _ hv fun vs hl hvs => hk (v :: vs) (by simp [hl]) hvs
theorem Qie {w0 : World} {B : List Nat} {G : List Res} (hH : Heap w0 B w G) (k : Nat) (cs : List Value) {T E : TypeId} {n : Nat} {ps : Array (Nat × Operand)} {xs : List Operand} (hu : P.underlying T = some (.slice E)) (hsz : P.szo E = some k) (hz : (P.zeroOf E).isSome = true)
  (hps : ps.toList = (xs.zipIdx).map fun p => (p.2, p.1)) (hn : n = xs.length) (hb : n * k <= 1000000) (hn0 : n * k ≠ 0)
  (h : argL e xs fun vs => (vs.flatMap fun v => v.cells.toList) = cs /\ (∀ v ∈ vs, v.cells.size = k) /\ ∀ g w', Heap w0 B w' (Res.row E k (some ⟨g, 0, none⟩) n n cs :: G) -> R (e.put d (.slice (some ⟨g, 0, none⟩) n n)) w' K) :
  MemK P N ⟨d, .buildSlice T n ps, ty, pos, af, gd⟩ e w R K := by
 refine Qdn fun a m ha => ?_
 have h' := Qye xs _ (fun vs => vs.length = xs.length /\ (vs.flatMap fun v => v.cells.toList) = cs /\ (∀ v ∈ vs, v.cells.size = k) /\ ∀ g w', Heap w0 B w' (Res.row E k (some ⟨g, 0, none⟩) n n cs :: G) -> R (e.put d (.slice (some ⟨g, 0, none⟩) n n)) w' K) h fun vs hl hv => ⟨hl, hv⟩
 obtain ⟨hl, h1, h2, hR⟩ := Qcp (K := fun vs => vs.length = xs.length /\ (vs.flatMap fun v => v.cells.toList) = cs /\ (∀ v ∈ vs, v.cells.size = k) /\ ∀ g w', Heap w0 B w' (Res.row E k (some ⟨g, 0, none⟩) n n cs :: G) -> R (e.put d (.slice (some ⟨g, 0, none⟩) n n)) w' K) ha h'
 obtain ⟨z, hz⟩ := Option.isSome_iff_exists.1 hz
 have hcl : cs.length = n * k := by
  rw [<- h1, hn, <- hl]
  have : ∀ (vs : List Value), (∀ v ∈ vs, v.cells.size = k) -> (vs.flatMap fun v => v.cells.toList).length = vs.length * k := by
   intro vs
   induction vs with
   | nil => intro _;simp
   | cons v vs ih => intro hv;rw [List.flatMap_cons, List.length_append, ih fun u hu => hv u (by simp [hu]), Array.length_toList, hv v (by simp), List.length_cons, Nat.add_mul];omega
  exact this _ h2
 refine ⟨.slice (some ⟨w.heap.size, 0, none⟩) n n, w.alloc (.cells cs.toArray E), m, ?_, ?_⟩
 ·
  have e1 : (ps.map fun (i, x) => (i, a.eval x)).toList = ((xs.map a.eval).zipIdx).map fun p => (p.2, p.1) := by
   rw [Array.toList_map, hps]
   simp [List.zipIdx_map]
  have hf := Qu0 k (xs.map a.eval) 0 [] (((Array.range (n * k)).map fun x => z.cells[x % z.cells.size]!).toList) (by rw [Array.length_toList, Array.size_map, Array.size_range, hl, hn]) h2 (by simp)
  simp only [List.nil_append, Array.toArray_toList, h1] at hf
  have hs := Qd0 (P := P) hsz
  simp only [execOp, Instr.buildSlice, Sem.run_bind, run_underlying hu, hs, Result.andThen_ok]
  rw [if_neg (by omega), if_neg hn0]
  simp only [Sem.run_bind, Qk0 hz, Sem.run_pure, Result.andThen_ok, e1, hf, Qdo]
  rfl
 ·
  have := hH.row E (n := n) (cap := n) (sz := k) cs [] hcl (by rw [List.append_nil];exact hcl) (Nat.le_refl _) (by
   have : n <= n * k := Nat.le_mul_of_pos_right _ (Nat.pos_of_ne_zero fun h => hn0 (by rw [h];simp))
   omega)
  rw [List.append_nil] at this
  exact hR _ _ this
theorem QAy {w : World} {p : Addr} {n sz : Nat} {xs : List Value} (h : RS w (some p) n sz xs) (hs : p.spot = none) (k : Nat) (ys : List Value) (hy : ∀ j u, ys[j]? = some u -> xs[k + j]? = some u) : Reads w (p.add k) ys := by
 intro j u hu
 rw [QAq p hs]
 exact h.2.2 p rfl _ u (hy j u hu)
end
end Go.Eng
namespace Go.Proofs.YtfphmlhgebpojaaGreat
open Go Go.Eng
section
variable {w : World} {KV : Value -> Prop}
theorem sz3 : Tryz.prog.szo 3 = some 1 := by kernel_rfl
theorem ld3 (a : Addr) : Qb0 Tryz.prog 3 (.pointer (some a)) w KV = ∃ v, w.cell? a = some v /\ KV v := Qo4 3 a .i64 Tryz.underlying3
theorem QNq (k : IntKind) (n : Int) : Qe2 Tryz.prog 3 5 (.int k n) w KV = Qdz .u8 n KV := Qgf 3 5 _ .u8 k n Tryz.underlying3 Tryz.underlying5
theorem QNr : Qbn Tryz.prog 3 5 = true := by kernel_rfl
theorem QKz (k : IntKind) (n : Int) : Qe2 Tryz.prog 3 31 (.int k n) w KV = Qdz .u32 n KV := Qgf 3 31 _ .u32 k n Tryz.underlying3 Tryz.underlying31
theorem QK0 : Qbn Tryz.prog 3 31 = true := by kernel_rfl
theorem QK1 (k : IntKind) (n : Int) : Qe2 Tryz.prog 3 71 (.int k n) w KV = Qdz .u64 n KV := Qgf 3 71 _ .u64 k n Tryz.underlying3 Tryz.underlying71
theorem QK2 : Qbn Tryz.prog 3 71 = true := by kernel_rfl
theorem QK3 (k : IntKind) (n : Int) : Qe2 Tryz.prog 3 97 (.int k n) w KV = Qdz .u64 n KV := Qgf 3 97 _ .u64 k n Tryz.underlying3 Tryz.underlying97
theorem QK4 : Qbn Tryz.prog 3 97 = true := by kernel_rfl
theorem QHf (k : IntKind) (n : Int) : Qe2 Tryz.prog 3 228 (.int k n) w KV = Qdz .u64 n KV := Qgf 3 228 _ .u64 k n Tryz.underlying3 Tryz.underlying228
theorem QHg : Qbn Tryz.prog 3 228 = true := by kernel_rfl
theorem sz4 : Tryz.prog.szo 4 = some 1 := by kernel_rfl
theorem ld4 (a : Addr) : Qb0 Tryz.prog 4 (.pointer (some a)) w KV = ∃ v, w.cell? a = some v /\ KV v := QG0 4 a Tryz.underlying4
theorem QNs (x y : Operand) (a b : Bool) : Qbr Tryz.prog .eql 4 x y (.bool a) (.bool b) w KV = KV (.bool (decide (a = b))) := QKh 4 x y a b Tryz.underlying4
theorem QNt (x y : Operand) (a b : Bool) : Qbr Tryz.prog .neq 4 x y (.bool a) (.bool b) w KV = KV (.bool (decide (¬ a = b))) := QKi 4 x y a b Tryz.underlying4
theorem sz5 : Tryz.prog.szo 5 = some 1 := by kernel_rfl
theorem ld5 (a : Addr) : Qb0 Tryz.prog 5 (.pointer (some a)) w KV = ∃ v, w.cell? a = some v /\ KV v := Qo4 5 a .u8 Tryz.underlying5
theorem QNu (k : IntKind) (n : Int) : Qe2 Tryz.prog 5 3 (.int k n) w KV = Qdz .i64 n KV := Qgf 5 3 _ .i64 k n Tryz.underlying5 Tryz.underlying3
theorem QNv : Qbn Tryz.prog 5 3 = true := by kernel_rfl
theorem QK5 (k : IntKind) (n : Int) : Qe2 Tryz.prog 5 71 (.int k n) w KV = Qdz .u64 n KV := Qgf 5 71 _ .u64 k n Tryz.underlying5 Tryz.underlying71
theorem QK6 : Qbn Tryz.prog 5 71 = true := by kernel_rfl
theorem sz9 : Tryz.prog.szo 9 = some 1 := by kernel_rfl
theorem ln9 (s : ByteArray) : vLen Tryz.prog 9 (.string s) KV = KV (.int .i64 (toL s).length) := QKj 9 s Tryz.underlying9
theorem ix9 (s : ByteArray) (k : IntKind) (n : Int) : Qd1 Tryz.prog 9 (.string s) (.int k n) KV = ((0 <= n /\ n < (toL s).length) /\ KV (.int .u8 ((toL s).getD n.toNat 0).toNat)) := QKk 9 s k n Tryz.underlying9
theorem snn9 (s : ByteArray) : Qb3 Tryz.prog 9 (.string s) none none KV = KV (.string s) := QNl 9 s Tryz.underlying9
theorem sln9 (s : ByteArray) (k : IntKind) (l : Int) : Qb3 Tryz.prog 9 (.string s) (some (.int k l)) none KV = ((0 <= l /\ l <= (toL s).length) /\ KV (Str ((toL s).drop l.toNat))) := QNm 9 s k l Tryz.underlying9
theorem snh9 (s : ByteArray) (k : IntKind) (l : Int) : Qb3 Tryz.prog 9 (.string s) none (some (.int k l)) KV = ((0 <= l /\ l <= (toL s).length) /\ KV (Str ((toL s).take l.toNat))) := QNn 9 s k l Tryz.underlying9
theorem slh9 (s : ByteArray) (k k' : IntKind) (l m : Int) : Qb3 Tryz.prog 9 (.string s) (some (.int k l)) (some (.int k' m)) KV = ((0 <= l /\ l <= m /\ m <= (toL s).length) /\ KV (Str (((toL s).drop l.toNat).take (m.toNat - l.toNat)))) := QNo 9 s k k' l m Tryz.underlying9
theorem ld9 (a : Addr) : Qb0 Tryz.prog 9 (.pointer (some a)) w KV = ∃ v, w.cell? a = some v /\ KV v := QKm 9 a Tryz.underlying9
theorem sz20 : Tryz.prog.szo 20 = some 1 := by kernel_rfl
theorem sz24 : Tryz.prog.szo 24 = some 2 := by kernel_rfl
theorem ld24 (a : Addr) : Qb0 Tryz.prog 24 (.pointer (some a)) w KV = ∃ cs : List Value, (cs.length = 2 /\ Reads w a cs) /\ KV (.agg cs.toArray) := QAj 24 2 a _ Tryz.underlying24 (by kernel_rfl)
theorem bd24 (s0 : ByteArray) (n1 : Int) : Qc0 Tryz.prog 24 [(0, .string s0), (1, .int .i64 n1)] KV = KV (.agg #[.string s0, .int .i64 n1]) := Qha (by kernel_rfl)
theorem bz24 : Qc0 Tryz.prog 24 [] KV = KV (.agg #[.string ⟨#[]⟩, .int .i64 0]) := Qha (by kernel_rfl)
theorem QK7 (l : List Value) : Qcs Tryz.prog 24 (.agg l.toArray) 0 KV = vNth l 0 KV := Qdt 24 0 l Tryz.underlying24 rfl (by kernel_rfl) (by kernel_rfl) (by kernel_rfl)
theorem QK8 (a : Addr) : Qa4 Tryz.prog 24 (.pointer (some a)) 0 KV = KV (.pointer (some (a.add 0))) := Qgd 24 0 a (m := 0) Tryz.underlying24 rfl (by kernel_rfl)
theorem QK9 (l : List Value) : Qcs Tryz.prog 24 (.agg l.toArray) 1 KV = vNth l 1 KV := Qdt 24 1 l Tryz.underlying24 rfl (by kernel_rfl) (by kernel_rfl) (by kernel_rfl)
theorem QLa (a : Addr) : Qa4 Tryz.prog 24 (.pointer (some a)) 1 KV = KV (.pointer (some (a.add 1))) := Qgd 24 1 a (m := 0) Tryz.underlying24 rfl (by kernel_rfl)
theorem sz25 : Tryz.prog.szo 25 = some 1 := by kernel_rfl
theorem ld25 (a : Addr) : Qb0 Tryz.prog 25 (.pointer (some a)) w KV = ∃ v, w.cell? a = some v /\ KV v := Qo4 25 a .i64 Tryz.underlying25
theorem sz31 : Tryz.prog.szo 31 = some 1 := by kernel_rfl
theorem ld31 (a : Addr) : Qb0 Tryz.prog 31 (.pointer (some a)) w KV = ∃ v, w.cell? a = some v /\ KV v := Qo4 31 a .u32 Tryz.underlying31
theorem QLb (k : IntKind) (n : Int) : Qe2 Tryz.prog 31 5 (.int k n) w KV = Qdz .u8 n KV := Qgf 31 5 _ .u8 k n Tryz.underlying31 Tryz.underlying5
theorem QLc : Qbn Tryz.prog 31 5 = true := by kernel_rfl
theorem QHh (k : IntKind) (n : Int) : Qe2 Tryz.prog 31 71 (.int k n) w KV = Qdz .u64 n KV := Qgf 31 71 _ .u64 k n Tryz.underlying31 Tryz.underlying71
theorem QHi : Qbn Tryz.prog 31 71 = true := by kernel_rfl
theorem sz36 : Tryz.prog.szo 36 = some 1 := by kernel_rfl
theorem ln36 (a : Option Addr) (n c : Nat) : vLen Tryz.prog 36 (.slice a n c) KV = KV (.int .i64 n) := Qun 36 3 a n c Tryz.underlying36
theorem QNw (a : Option Addr) (n c : Nat) : Qb3 Tryz.prog 36 (.slice a n c) none none KV = (n <= c /\ KV (.slice a n c)) := QGw 36 3 a n c 1 Tryz.underlying36 (by kernel_rfl)
theorem QNx (a : Option Addr) (n c : Nat) (k : IntKind) (l : Int) : Qb3 Tryz.prog 36 (.slice a n c) (some (.int k l)) none KV = ((0 <= l /\ l <= n /\ n <= c) /\ KV (.slice (if c = l.toNat then a else a.map (·.add (l.toNat * 1))) (n - l.toNat) (c - l.toNat))) := QGx 36 3 a n c 1 k l Tryz.underlying36 (by kernel_rfl)
theorem QNy (a : Option Addr) (n c : Nat) (k : IntKind) (l : Int) : Qb3 Tryz.prog 36 (.slice a n c) none (some (.int k l)) KV = ((0 <= l /\ l <= c) /\ KV (.slice a l.toNat c)) := QGy 36 3 a n c 1 k l Tryz.underlying36 (by kernel_rfl)
theorem QNz (a : Option Addr) (n c : Nat) (k k' : IntKind) (l m : Int) : Qb3 Tryz.prog 36 (.slice a n c) (some (.int k l)) (some (.int k' m)) KV = ((0 <= l /\ l <= m /\ m <= c) /\ KV (.slice (if c = l.toNat then a else a.map (·.add (l.toNat * 1))) (m.toNat - l.toNat) (c - l.toNat))) := QGz 36 3 a n c 1 k k' l m Tryz.underlying36 (by kernel_rfl)
theorem ia36 (a : Addr) (n c : Nat) (k : IntKind) (i : Int) : Qba Tryz.prog 36 (.slice (some a) n c) (.int k i) KV = ((0 <= i /\ i < n) /\ KV (.pointer (some (a.add (i.toNat * 1))))) := Quo 36 3 a n c 1 k i Tryz.underlying36 (by kernel_rfl)
theorem ld36 (a : Addr) : Qb0 Tryz.prog 36 (.pointer (some a)) w KV = ∃ v, w.cell? a = some v /\ KV v := Qx5 36 3 a Tryz.underlying36
theorem sz42 : Tryz.prog.szo 42 = some 4 := by kernel_rfl
theorem ld42 (a : Addr) : Qb0 Tryz.prog 42 (.pointer (some a)) w KV = ∃ cs : List Value, (cs.length = 4 /\ Reads w a cs) /\ KV (.agg cs.toArray) := QDt 42 4 4 5 a Tryz.underlying42 (by kernel_rfl)
theorem QN0 (l : List Value) (k : IntKind) (i : Int) : Qd1 Tryz.prog 42 (.agg l.toArray) (.int k i) KV = ((0 <= i /\ i < ((4 : Nat) : Int)) /\ vNth l i.toNat KV) := Qnc 42 l k i Tryz.underlying42 (by kernel_rfl) (by kernel_rfl) (by kernel_rfl)
theorem ia42 (a : Addr) (k : IntKind) (i : Int) : Qba Tryz.prog 42 (.pointer (some a)) (.int k i) KV = ((0 <= i /\ i < ((4 : Nat) : Int)) /\ KV (.pointer (some (a.add (i.toNat * 1))))) := Qup 42 5 a 4 1 k i Tryz.underlying42 (by kernel_rfl)
theorem sz43 : Tryz.prog.szo 43 = some 1 := by kernel_rfl
theorem ln43 (a : Option Addr) (n c : Nat) : vLen Tryz.prog 43 (.slice a n c) KV = KV (.int .i64 n) := Qun 43 5 a n c Tryz.underlying43
theorem QN1 (a : Option Addr) (n c : Nat) : Qb3 Tryz.prog 43 (.slice a n c) none none KV = (n <= c /\ KV (.slice a n c)) := QGw 43 5 a n c 1 Tryz.underlying43 (by kernel_rfl)
theorem QN2 (a : Option Addr) (n c : Nat) (k : IntKind) (l : Int) : Qb3 Tryz.prog 43 (.slice a n c) (some (.int k l)) none KV = ((0 <= l /\ l <= n /\ n <= c) /\ KV (.slice (if c = l.toNat then a else a.map (·.add (l.toNat * 1))) (n - l.toNat) (c - l.toNat))) := QGx 43 5 a n c 1 k l Tryz.underlying43 (by kernel_rfl)
theorem QN3 (a : Option Addr) (n c : Nat) (k : IntKind) (l : Int) : Qb3 Tryz.prog 43 (.slice a n c) none (some (.int k l)) KV = ((0 <= l /\ l <= c) /\ KV (.slice a l.toNat c)) := QGy 43 5 a n c 1 k l Tryz.underlying43 (by kernel_rfl)
theorem QN4 (a : Option Addr) (n c : Nat) (k k' : IntKind) (l m : Int) : Qb3 Tryz.prog 43 (.slice a n c) (some (.int k l)) (some (.int k' m)) KV = ((0 <= l /\ l <= m /\ m <= c) /\ KV (.slice (if c = l.toNat then a else a.map (·.add (l.toNat * 1))) (m.toNat - l.toNat) (c - l.toNat))) := QGz 43 5 a n c 1 k k' l m Tryz.underlying43 (by kernel_rfl)
theorem ia43 (a : Addr) (n c : Nat) (k : IntKind) (i : Int) : Qba Tryz.prog 43 (.slice (some a) n c) (.int k i) KV = ((0 <= i /\ i < n) /\ KV (.pointer (some (a.add (i.toNat * 1))))) := Quo 43 5 a n c 1 k i Tryz.underlying43 (by kernel_rfl)
theorem ld43 (a : Addr) : Qb0 Tryz.prog 43 (.pointer (some a)) w KV = ∃ v, w.cell? a = some v /\ KV v := Qx5 43 5 a Tryz.underlying43
theorem QLd (a : Option Addr) (n c : Nat) : Qe2 Tryz.prog 43 9 (.slice a n c) w KV = ∃ l, Qgx w a n l /\ KV (Str l) := QKl 43 9 5 a n c Tryz.underlying43 Tryz.underlying9 Tryz.underlying5
theorem QLe : Qbn Tryz.prog 43 9 = true := by kernel_rfl
theorem QLf : Qbn Tryz.prog 9 43 = false := by kernel_rfl
theorem sz56 : Tryz.prog.szo 56 = some 1 := by kernel_rfl
theorem ln56 (a : Option Addr) (n c : Nat) : vLen Tryz.prog 56 (.slice a n c) KV = KV (.int .i64 n) := Qun 56 9 a n c Tryz.underlying56
theorem ia56 (a : Addr) (n c : Nat) (k : IntKind) (i : Int) : Qba Tryz.prog 56 (.slice (some a) n c) (.int k i) KV = ((0 <= i /\ i < n) /\ KV (.pointer (some (a.add (i.toNat * 1))))) := Quo 56 9 a n c 1 k i Tryz.underlying56 (by kernel_rfl)
theorem sz63 : Tryz.prog.szo 63 = some 1 := by kernel_rfl
theorem ln63 (a : Option Addr) (n c : Nat) : vLen Tryz.prog 63 (.slice a n c) KV = KV (.int .i64 n) := Qun 63 36 a n c Tryz.underlying63
theorem ia63 (a : Addr) (n c : Nat) (k : IntKind) (i : Int) : Qba Tryz.prog 63 (.slice (some a) n c) (.int k i) KV = ((0 <= i /\ i < n) /\ KV (.pointer (some (a.add (i.toNat * 1))))) := Quo 63 36 a n c 1 k i Tryz.underlying63 (by kernel_rfl)
theorem ld63 (a : Addr) : Qb0 Tryz.prog 63 (.pointer (some a)) w KV = ∃ v, w.cell? a = some v /\ KV v := Qx5 63 36 a Tryz.underlying63
theorem sz65 : Tryz.prog.szo 65 = some 2 := by kernel_rfl
theorem ld65 (a : Addr) : Qb0 Tryz.prog 65 (.pointer (some a)) w KV = ∃ cs : List Value, (cs.length = 2 /\ Reads w a cs) /\ KV (.agg cs.toArray) := QAj 65 2 a _ Tryz.underlying65 (by kernel_rfl)
theorem bd65 (a0 : Option Addr) (n0 c0 : Nat) (a1 : Option Addr) (n1 c1 : Nat) : Qc0 Tryz.prog 65 [(0, .slice a0 n0 c0), (1, .slice a1 n1 c1)] KV = KV (.agg #[.slice a0 n0 c0, .slice a1 n1 c1]) := Qha (by kernel_rfl)
theorem bz65 : Qc0 Tryz.prog 65 [] KV = KV (.agg #[.slice none 0 0, .slice none 0 0]) := Qha (by kernel_rfl)
theorem QLg (l : List Value) : Qcs Tryz.prog 65 (.agg l.toArray) 0 KV = vNth l 0 KV := Qdt 65 0 l Tryz.underlying65 rfl (by kernel_rfl) (by kernel_rfl) (by kernel_rfl)
theorem QLh (a : Addr) : Qa4 Tryz.prog 65 (.pointer (some a)) 0 KV = KV (.pointer (some (a.add 0))) := Qgd 65 0 a (m := 0) Tryz.underlying65 rfl (by kernel_rfl)
theorem QLi (l : List Value) : Qcs Tryz.prog 65 (.agg l.toArray) 1 KV = vNth l 1 KV := Qdt 65 1 l Tryz.underlying65 rfl (by kernel_rfl) (by kernel_rfl) (by kernel_rfl)
theorem QLj (a : Addr) : Qa4 Tryz.prog 65 (.pointer (some a)) 1 KV = KV (.pointer (some (a.add 1))) := Qgd 65 1 a (m := 0) Tryz.underlying65 rfl (by kernel_rfl)
theorem sz68 : Tryz.prog.szo 68 = some 1 := by kernel_rfl
theorem pe68 (a : Option Addr) (xo yo : Operand) : Qbr Tryz.prog .eql 68 xo yo (.pointer a) (.pointer none) w KV = KV (.bool a.isNone) := Qww Tryz.underlying68 a xo yo
theorem pn68 (a : Option Addr) (xo yo : Operand) : Qbr Tryz.prog .neq 68 xo yo (.pointer a) (.pointer none) w KV = KV (.bool !a.isNone) := QFj Tryz.underlying68 a xo yo
theorem sz71 : Tryz.prog.szo 71 = some 1 := by kernel_rfl
theorem ld71 (a : Addr) : Qb0 Tryz.prog 71 (.pointer (some a)) w KV = ∃ v, w.cell? a = some v /\ KV v := Qo4 71 a .u64 Tryz.underlying71
theorem QLk (k : IntKind) (n : Int) : Qe2 Tryz.prog 71 3 (.int k n) w KV = Qdz .i64 n KV := Qgf 71 3 _ .i64 k n Tryz.underlying71 Tryz.underlying3
theorem QLl : Qbn Tryz.prog 71 3 = true := by kernel_rfl
theorem QLm (k : IntKind) (n : Int) : Qe2 Tryz.prog 71 5 (.int k n) w KV = Qdz .u8 n KV := Qgf 71 5 _ .u8 k n Tryz.underlying71 Tryz.underlying5
theorem QLn : Qbn Tryz.prog 71 5 = true := by kernel_rfl
theorem QHj (k : IntKind) (n : Int) : Qe2 Tryz.prog 71 31 (.int k n) w KV = Qdz .u32 n KV := Qgf 71 31 _ .u32 k n Tryz.underlying71 Tryz.underlying31
theorem QHk : Qbn Tryz.prog 71 31 = true := by kernel_rfl
theorem sz97 : Tryz.prog.szo 97 = some 1 := by kernel_rfl
theorem QLo (k : IntKind) (n : Int) : Qe2 Tryz.prog 97 3 (.int k n) w KV = Qdz .i64 n KV := Qgf 97 3 _ .i64 k n Tryz.underlying97 Tryz.underlying3
theorem QLp : Qbn Tryz.prog 97 3 = true := by kernel_rfl
theorem QHl (k : IntKind) (n : Int) : Qe2 Tryz.prog 97 31 (.int k n) w KV = Qdz .u32 n KV := Qgf 97 31 _ .u32 k n Tryz.underlying97 Tryz.underlying31
theorem QHm : Qbn Tryz.prog 97 31 = true := by kernel_rfl
theorem QN5 : Tryz.prog.szo 100 = some 1 := by kernel_rfl
theorem QLq (a : Addr) : Qb0 Tryz.prog 100 (.pointer (some a)) w KV = ∃ v, w.cell? a = some v /\ KV v := QKo 100 _ _ _ a Tryz.underlying100
theorem QN6 : Tryz.prog.szo 101 = some 1 := by kernel_rfl
theorem QN7 (a : Option Addr) (n c : Nat) : vLen Tryz.prog 101 (.slice a n c) KV = KV (.int .i64 n) := Qun 101 24 a n c Tryz.underlying101
theorem QN8 (a : Addr) (n c : Nat) (k : IntKind) (i : Int) : Qba Tryz.prog 101 (.slice (some a) n c) (.int k i) KV = ((0 <= i /\ i < n) /\ KV (.pointer (some (a.add (i.toNat * 2))))) := Quo 101 24 a n c 2 k i Tryz.underlying101 (by kernel_rfl)
theorem QN9 (a : Addr) : Qb0 Tryz.prog 101 (.pointer (some a)) w KV = ∃ v, w.cell? a = some v /\ KV v := Qx5 101 24 a Tryz.underlying101
theorem QOa : Tryz.prog.szo 102 = some 1 := by kernel_rfl
theorem QOb (a : Option Addr) (n c : Nat) : vLen Tryz.prog 102 (.slice a n c) KV = KV (.int .i64 n) := Qun 102 31 a n c Tryz.underlying102
theorem QOc (a : Addr) (n c : Nat) (k : IntKind) (i : Int) : Qba Tryz.prog 102 (.slice (some a) n c) (.int k i) KV = ((0 <= i /\ i < n) /\ KV (.pointer (some (a.add (i.toNat * 1))))) := Quo 102 31 a n c 1 k i Tryz.underlying102 (by kernel_rfl)
theorem QOd (a : Addr) : Qb0 Tryz.prog 102 (.pointer (some a)) w KV = ∃ v, w.cell? a = some v /\ KV v := Qx5 102 31 a Tryz.underlying102
theorem QOe : Tryz.prog.szo 118 = some 256 := by kernel_rfl
theorem QLr (l : List Value) (k : IntKind) (i : Int) : Qd1 Tryz.prog 118 (.agg l.toArray) (.int k i) KV = ((0 <= i /\ i < ((256 : Nat) : Int)) /\ vNth l i.toNat KV) := Qnc 118 l k i Tryz.underlying118 (by kernel_rfl) (by kernel_rfl) (by kernel_rfl)
theorem QOf (a : Addr) (k : IntKind) (i : Int) : Qba Tryz.prog 118 (.pointer (some a)) (.int k i) KV = ((0 <= i /\ i < ((256 : Nat) : Int)) /\ KV (.pointer (some (a.add (i.toNat * 1))))) := Qup 118 4 a 256 1 k i Tryz.underlying118 (by kernel_rfl)
theorem QOg : Tryz.prog.szo 123 = some 2 := by kernel_rfl
theorem QOh (a0 : Option Addr) (n0 c0 : Nat) (n1 : Int) : Qc0 Tryz.prog 123 [(0, .slice a0 n0 c0), (1, .int .i64 n1)] KV = KV (.agg #[.slice a0 n0 c0, .int .i64 n1]) := Qha (by kernel_rfl)
theorem QOi : Qc0 Tryz.prog 123 [] KV = KV (.agg #[.slice none 0 0, .int .i64 0]) := Qha (by kernel_rfl)
theorem QHn (l : List Value) : Qcs Tryz.prog 123 (.agg l.toArray) 0 KV = vNth l 0 KV := Qdt 123 0 l Tryz.underlying123 rfl (by kernel_rfl) (by kernel_rfl) (by kernel_rfl)
theorem QHo (a : Addr) : Qa4 Tryz.prog 123 (.pointer (some a)) 0 KV = KV (.pointer (some (a.add 0))) := Qgd 123 0 a (m := 0) Tryz.underlying123 rfl (by kernel_rfl)
theorem QHp (l : List Value) : Qcs Tryz.prog 123 (.agg l.toArray) 1 KV = vNth l 1 KV := Qdt 123 1 l Tryz.underlying123 rfl (by kernel_rfl) (by kernel_rfl) (by kernel_rfl)
theorem QHq (a : Addr) : Qa4 Tryz.prog 123 (.pointer (some a)) 1 KV = KV (.pointer (some (a.add 1))) := Qgd 123 1 a (m := 0) Tryz.underlying123 rfl (by kernel_rfl)
theorem QOj : Tryz.prog.szo 124 = some 16 := by kernel_rfl
theorem QOk (a : Addr) : Qb0 Tryz.prog 124 (.pointer (some a)) w KV = ∃ cs : List Value, (cs.length = 16 /\ Reads w a cs) /\ KV (.agg cs.toArray) := QDt 124 16 16 71 a Tryz.underlying124 (by kernel_rfl)
theorem QLs (l : List Value) (k : IntKind) (i : Int) : Qd1 Tryz.prog 124 (.agg l.toArray) (.int k i) KV = ((0 <= i /\ i < ((16 : Nat) : Int)) /\ vNth l i.toNat KV) := Qnc 124 l k i Tryz.underlying124 (by kernel_rfl) (by kernel_rfl) (by kernel_rfl)
theorem QOl (a : Addr) (k : IntKind) (i : Int) : Qba Tryz.prog 124 (.pointer (some a)) (.int k i) KV = ((0 <= i /\ i < ((16 : Nat) : Int)) /\ KV (.pointer (some (a.add (i.toNat * 1))))) := Qup 124 71 a 16 1 k i Tryz.underlying124 (by kernel_rfl)
theorem QOm : Tryz.prog.szo 130 = some 1 := by kernel_rfl
theorem QOn (a : Option Addr) (xo yo : Operand) : Qbr Tryz.prog .eql 130 xo yo (.pointer a) (.pointer none) w KV = KV (.bool a.isNone) := Qww Tryz.underlying130 a xo yo
theorem QOo (a : Option Addr) (xo yo : Operand) : Qbr Tryz.prog .neq 130 xo yo (.pointer a) (.pointer none) w KV = KV (.bool !a.isNone) := QFj Tryz.underlying130 a xo yo
theorem QOp (a : Addr) : Qb0 Tryz.prog 130 (.pointer (some a)) w KV = ∃ v, w.cell? a = some v /\ KV v := QKn 130 179 a Tryz.underlying130
theorem QOq : Tryz.prog.szo 141 = some 1 := by kernel_rfl
theorem QOr (n0 : Int) : Qc0 Tryz.prog 141 [(0, .int .i64 n0)] KV = KV (.agg #[.int .i64 n0]) := Qha (by kernel_rfl)
theorem QOs : Qc0 Tryz.prog 141 [] KV = KV (.agg #[.int .i64 0]) := Qha (by kernel_rfl)
theorem QHr (l : List Value) : Qcs Tryz.prog 141 (.agg l.toArray) 0 KV = vNth l 0 KV := Qdt 141 0 l Tryz.underlying141 rfl (by kernel_rfl) (by kernel_rfl) (by kernel_rfl)
theorem QHs (a : Addr) : Qa4 Tryz.prog 141 (.pointer (some a)) 0 KV = KV (.pointer (some (a.add 0))) := Qgd 141 0 a (m := 0) Tryz.underlying141 rfl (by kernel_rfl)
theorem QOt : Tryz.prog.szo 143 = some 1 := by kernel_rfl
theorem QLt (a : Addr) : Qb0 Tryz.prog 143 (.pointer (some a)) w KV = ∃ v, w.cell? a = some v /\ KV v := QKo 143 _ _ _ a Tryz.underlying143
theorem QOu (f : Fn) (x y : Array Value) (xo yo : Operand) : Qbr Tryz.prog .eql 143 xo yo (.func f x y) .nilFunc w KV = KV (.bool false) := QKy Tryz.underlying143 f x y xo yo
theorem QOv : Tryz.prog.szo 162 = some 256 := by kernel_rfl
theorem QOw (a : Addr) : Qb0 Tryz.prog 162 (.pointer (some a)) w KV = ∃ cs : List Value, (cs.length = 256 /\ Reads w a cs) /\ KV (.agg cs.toArray) := QDt 162 256 256 31 a Tryz.underlying162 (by kernel_rfl)
theorem QLu (l : List Value) (k : IntKind) (i : Int) : Qd1 Tryz.prog 162 (.agg l.toArray) (.int k i) KV = ((0 <= i /\ i < ((256 : Nat) : Int)) /\ vNth l i.toNat KV) := Qnc 162 l k i Tryz.underlying162 (by kernel_rfl) (by kernel_rfl) (by kernel_rfl)
theorem QOx (a : Addr) (k : IntKind) (i : Int) : Qba Tryz.prog 162 (.pointer (some a)) (.int k i) KV = ((0 <= i /\ i < ((256 : Nat) : Int)) /\ KV (.pointer (some (a.add (i.toNat * 1))))) := Qup 162 31 a 256 1 k i Tryz.underlying162 (by kernel_rfl)
theorem QOy : Tryz.prog.szo 166 = some 2 := by kernel_rfl
theorem QOz (a : Addr) : Qb0 Tryz.prog 166 (.pointer (some a)) w KV = ∃ cs : List Value, (cs.length = 2 /\ Reads w a cs) /\ KV (.agg cs.toArray) := QAj 166 2 a _ Tryz.underlying166 (by kernel_rfl)
theorem QO0 (a0 : Option Addr) (n0 c0 : Nat) (n1 : Int) : Qc0 Tryz.prog 166 [(0, .slice a0 n0 c0), (1, .int .i64 n1)] KV = KV (.agg #[.slice a0 n0 c0, .int .i64 n1]) := Qha (by kernel_rfl)
theorem QO1 : Qc0 Tryz.prog 166 [] KV = KV (.agg #[.slice none 0 0, .int .i64 0]) := Qha (by kernel_rfl)
theorem QHt (l : List Value) : Qcs Tryz.prog 166 (.agg l.toArray) 0 KV = vNth l 0 KV := Qdt 166 0 l Tryz.underlying166 rfl (by kernel_rfl) (by kernel_rfl) (by kernel_rfl)
theorem QHu (a : Addr) : Qa4 Tryz.prog 166 (.pointer (some a)) 0 KV = KV (.pointer (some (a.add 0))) := Qgd 166 0 a (m := 0) Tryz.underlying166 rfl (by kernel_rfl)
theorem QHv (l : List Value) : Qcs Tryz.prog 166 (.agg l.toArray) 1 KV = vNth l 1 KV := Qdt 166 1 l Tryz.underlying166 rfl (by kernel_rfl) (by kernel_rfl) (by kernel_rfl)
theorem QHw (a : Addr) : Qa4 Tryz.prog 166 (.pointer (some a)) 1 KV = KV (.pointer (some (a.add 1))) := Qgd 166 1 a (m := 0) Tryz.underlying166 rfl (by kernel_rfl)
theorem QO2 : Tryz.prog.szo 170 = some 1 := by kernel_rfl
theorem QO3 : Tryz.prog.szo 174 = some 1 := by kernel_rfl
theorem QO4 : Tryz.prog.szo 179 = some 3 := by kernel_rfl
theorem QO5 (f0 : Fn) (x0 y0 : Array Value) (n1 : Int) (n2 : Int) : Qc0 Tryz.prog 179 [(0, .func f0 x0 y0), (1, .int .i64 n1), (2, .int .i64 n2)] KV = KV (.agg #[.func f0 x0 y0, .int .i64 n1, .int .i64 n2]) := Qha (by kernel_rfl)
theorem QO6 : Qc0 Tryz.prog 179 [] KV = KV (.agg #[.nilFunc, .int .i64 0, .int .i64 0]) := Qha (by kernel_rfl)
theorem QHx (l : List Value) : Qcs Tryz.prog 179 (.agg l.toArray) 0 KV = vNth l 0 KV := Qdt 179 0 l Tryz.underlying179 rfl (by kernel_rfl) (by kernel_rfl) (by kernel_rfl)
theorem QHy (a : Addr) : Qa4 Tryz.prog 179 (.pointer (some a)) 0 KV = KV (.pointer (some (a.add 0))) := Qgd 179 0 a (m := 0) Tryz.underlying179 rfl (by kernel_rfl)
theorem QHz (l : List Value) : Qcs Tryz.prog 179 (.agg l.toArray) 1 KV = vNth l 1 KV := Qdt 179 1 l Tryz.underlying179 rfl (by kernel_rfl) (by kernel_rfl) (by kernel_rfl)
theorem QH0 (a : Addr) : Qa4 Tryz.prog 179 (.pointer (some a)) 1 KV = KV (.pointer (some (a.add 1))) := Qgd 179 1 a (m := 0) Tryz.underlying179 rfl (by kernel_rfl)
theorem QH1 (l : List Value) : Qcs Tryz.prog 179 (.agg l.toArray) 2 KV = vNth l 2 KV := Qdt 179 2 l Tryz.underlying179 rfl (by kernel_rfl) (by kernel_rfl) (by kernel_rfl)
theorem QH2 (a : Addr) : Qa4 Tryz.prog 179 (.pointer (some a)) 2 KV = KV (.pointer (some (a.add 2))) := Qgd 179 2 a (m := 0) Tryz.underlying179 rfl (by kernel_rfl)
theorem QO7 : Tryz.prog.szo 188 = some 256 := by kernel_rfl
theorem QO8 (a : Addr) : Qb0 Tryz.prog 188 (.pointer (some a)) w KV = ∃ cs : List Value, (cs.length = 256 /\ Reads w a cs) /\ KV (.agg cs.toArray) := QDt 188 256 256 3 a Tryz.underlying188 (by kernel_rfl)
theorem QLv (l : List Value) (k : IntKind) (i : Int) : Qd1 Tryz.prog 188 (.agg l.toArray) (.int k i) KV = ((0 <= i /\ i < ((256 : Nat) : Int)) /\ vNth l i.toNat KV) := Qnc 188 l k i Tryz.underlying188 (by kernel_rfl) (by kernel_rfl) (by kernel_rfl)
theorem QO9 (a : Addr) (k : IntKind) (i : Int) : Qba Tryz.prog 188 (.pointer (some a)) (.int k i) KV = ((0 <= i /\ i < ((256 : Nat) : Int)) /\ KV (.pointer (some (a.add (i.toNat * 1))))) := Qup 188 3 a 256 1 k i Tryz.underlying188 (by kernel_rfl)
theorem QPa : Tryz.prog.szo 190 = some 2 := by kernel_rfl
theorem QPb (f0 : Fn) (x0 y0 : Array Value) (n1 : Int) : Qc0 Tryz.prog 190 [(0, .func f0 x0 y0), (1, .int .i64 n1)] KV = KV (.agg #[.func f0 x0 y0, .int .i64 n1]) := Qha (by kernel_rfl)
theorem QPc : Qc0 Tryz.prog 190 [] KV = KV (.agg #[.nilFunc, .int .i64 0]) := Qha (by kernel_rfl)
theorem QH3 (l : List Value) : Qcs Tryz.prog 190 (.agg l.toArray) 0 KV = vNth l 0 KV := Qdt 190 0 l Tryz.underlying190 rfl (by kernel_rfl) (by kernel_rfl) (by kernel_rfl)
theorem QH4 (a : Addr) : Qa4 Tryz.prog 190 (.pointer (some a)) 0 KV = KV (.pointer (some (a.add 0))) := Qgd 190 0 a (m := 0) Tryz.underlying190 rfl (by kernel_rfl)
theorem QH5 (l : List Value) : Qcs Tryz.prog 190 (.agg l.toArray) 1 KV = vNth l 1 KV := Qdt 190 1 l Tryz.underlying190 rfl (by kernel_rfl) (by kernel_rfl) (by kernel_rfl)
theorem QH6 (a : Addr) : Qa4 Tryz.prog 190 (.pointer (some a)) 1 KV = KV (.pointer (some (a.add 1))) := Qgd 190 1 a (m := 0) Tryz.underlying190 rfl (by kernel_rfl)
theorem QPd : Tryz.prog.szo 196 = some 4 := by kernel_rfl
theorem QLw (l : List Value) (k : IntKind) (i : Int) : Qd1 Tryz.prog 196 (.agg l.toArray) (.int k i) KV = ((0 <= i /\ i < ((4 : Nat) : Int)) /\ vNth l i.toNat KV) := Qnc 196 l k i Tryz.underlying196 (by kernel_rfl) (by kernel_rfl) (by kernel_rfl)
theorem QPe (a : Addr) (k : IntKind) (i : Int) : Qba Tryz.prog 196 (.pointer (some a)) (.int k i) KV = ((0 <= i /\ i < ((4 : Nat) : Int)) /\ KV (.pointer (some (a.add (i.toNat * 1))))) := Qup 196 3 a 4 1 k i Tryz.underlying196 (by kernel_rfl)
theorem QPf : Tryz.prog.szo 198 = some 1 := by kernel_rfl
theorem QPg (a : Option Addr) (n c : Nat) : vLen Tryz.prog 198 (.slice a n c) KV = KV (.int .i64 n) := Qun 198 200 a n c Tryz.underlying198
theorem QLx (a : Option Addr) (n c : Nat) : Qb3 Tryz.prog 198 (.slice a n c) none none KV = (n <= c /\ KV (.slice a n c)) := QGw 198 200 a n c 2 Tryz.underlying198 (by kernel_rfl)
theorem QLy (a : Option Addr) (n c : Nat) (k : IntKind) (l : Int) : Qb3 Tryz.prog 198 (.slice a n c) (some (.int k l)) none KV = ((0 <= l /\ l <= n /\ n <= c) /\ KV (.slice (if c = l.toNat then a else a.map (·.add (l.toNat * 2))) (n - l.toNat) (c - l.toNat))) := QGx 198 200 a n c 2 k l Tryz.underlying198 (by kernel_rfl)
theorem QLz (a : Option Addr) (n c : Nat) (k : IntKind) (l : Int) : Qb3 Tryz.prog 198 (.slice a n c) none (some (.int k l)) KV = ((0 <= l /\ l <= c) /\ KV (.slice a l.toNat c)) := QGy 198 200 a n c 2 k l Tryz.underlying198 (by kernel_rfl)
theorem QL0 (a : Option Addr) (n c : Nat) (k k' : IntKind) (l m : Int) : Qb3 Tryz.prog 198 (.slice a n c) (some (.int k l)) (some (.int k' m)) KV = ((0 <= l /\ l <= m /\ m <= c) /\ KV (.slice (if c = l.toNat then a else a.map (·.add (l.toNat * 2))) (m.toNat - l.toNat) (c - l.toNat))) := QGz 198 200 a n c 2 k k' l m Tryz.underlying198 (by kernel_rfl)
theorem QPh (a : Addr) (n c : Nat) (k : IntKind) (i : Int) : Qba Tryz.prog 198 (.slice (some a) n c) (.int k i) KV = ((0 <= i /\ i < n) /\ KV (.pointer (some (a.add (i.toNat * 2))))) := Quo 198 200 a n c 2 k i Tryz.underlying198 (by kernel_rfl)
theorem QPi (a : Addr) : Qb0 Tryz.prog 198 (.pointer (some a)) w KV = ∃ v, w.cell? a = some v /\ KV v := Qx5 198 200 a Tryz.underlying198
theorem QH7 : Tryz.prog.szo 200 = some 2 := by kernel_rfl
theorem QPj (a : Addr) : Qb0 Tryz.prog 200 (.pointer (some a)) w KV = ∃ cs : List Value, (cs.length = 2 /\ Reads w a cs) /\ KV (.agg cs.toArray) := QAj 200 2 a _ Tryz.underlying200 (by kernel_rfl)
theorem QPk (n0 : Int) (n1 : Int) : Qc0 Tryz.prog 200 [(0, .int .i64 n0), (1, .int .i64 n1)] KV = KV (.agg #[.int .i64 n0, .int .i64 n1]) := Qha (by kernel_rfl)
theorem QPl : Qc0 Tryz.prog 200 [] KV = KV (.agg #[.int .i64 0, .int .i64 0]) := Qha (by kernel_rfl)
theorem QH8 (l : List Value) : Qcs Tryz.prog 200 (.agg l.toArray) 0 KV = vNth l 0 KV := Qdt 200 0 l Tryz.underlying200 rfl (by kernel_rfl) (by kernel_rfl) (by kernel_rfl)
theorem QH9 (a : Addr) : Qa4 Tryz.prog 200 (.pointer (some a)) 0 KV = KV (.pointer (some (a.add 0))) := Qgd 200 0 a (m := 0) Tryz.underlying200 rfl (by kernel_rfl)
theorem QIa (l : List Value) : Qcs Tryz.prog 200 (.agg l.toArray) 1 KV = vNth l 1 KV := Qdt 200 1 l Tryz.underlying200 rfl (by kernel_rfl) (by kernel_rfl) (by kernel_rfl)
theorem QIb (a : Addr) : Qa4 Tryz.prog 200 (.pointer (some a)) 1 KV = KV (.pointer (some (a.add 1))) := Qgd 200 1 a (m := 0) Tryz.underlying200 rfl (by kernel_rfl)
theorem QPm : Tryz.prog.szo 202 = some 1 := by kernel_rfl
theorem QPn : Tryz.prog.szo 204 = some 1 := by kernel_rfl
theorem QPo (a : Addr) : Qb0 Tryz.prog 204 (.pointer (some a)) w KV = ∃ cs : List Value, (cs.length = 1 /\ Reads w a cs) /\ KV (.agg cs.toArray) := QAj 204 1 a _ Tryz.underlying204 (by kernel_rfl)
theorem QPp (a0 : Option Addr) (n0 c0 : Nat) : Qc0 Tryz.prog 204 [(0, .slice a0 n0 c0)] KV = KV (.agg #[.slice a0 n0 c0]) := Qha (by kernel_rfl)
theorem QPq : Qc0 Tryz.prog 204 [] KV = KV (.agg #[.slice none 0 0]) := Qha (by kernel_rfl)
theorem QIc (l : List Value) : Qcs Tryz.prog 204 (.agg l.toArray) 0 KV = vNth l 0 KV := Qdt 204 0 l Tryz.underlying204 rfl (by kernel_rfl) (by kernel_rfl) (by kernel_rfl)
theorem QId (a : Addr) : Qa4 Tryz.prog 204 (.pointer (some a)) 0 KV = KV (.pointer (some (a.add 0))) := Qgd 204 0 a (m := 0) Tryz.underlying204 rfl (by kernel_rfl)
theorem QPr : Tryz.prog.szo 205 = some 22 := by kernel_rfl
theorem QL1 (l : List Value) (k : IntKind) (i : Int) : Qd1 Tryz.prog 205 (.agg l.toArray) (.int k i) KV = ((0 <= i /\ i < ((22 : Nat) : Int)) /\ vNth l i.toNat KV) := Qnc 205 l k i Tryz.underlying205 (by kernel_rfl) (by kernel_rfl) (by kernel_rfl)
theorem QPs (a : Addr) (k : IntKind) (i : Int) : Qba Tryz.prog 205 (.pointer (some a)) (.int k i) KV = ((0 <= i /\ i < ((22 : Nat) : Int)) /\ KV (.pointer (some (a.add (i.toNat * 1))))) := Qup 205 3 a 22 1 k i Tryz.underlying205 (by kernel_rfl)
theorem QPt : Tryz.prog.szo 207 = some 68 := by kernel_rfl
theorem QIe (l : List Value) : Qcs Tryz.prog 207 (.agg l.toArray) 0 KV = KV (.agg ((l.take 1).drop 0).toArray) := Qwx 207 0 l 1 Tryz.underlying207 rfl (by kernel_rfl) (by kernel_rfl) (by kernel_rfl)
theorem QIf (a : Addr) : Qa4 Tryz.prog 207 (.pointer (some a)) 0 KV = KV (.pointer (some (a.add 0))) := Qgd 207 0 a (m := 0) Tryz.underlying207 rfl (by kernel_rfl)
theorem QIg (l : List Value) : Qcs Tryz.prog 207 (.agg l.toArray) 1 KV = vNth l 1 KV := Qdt 207 1 l Tryz.underlying207 rfl (by kernel_rfl) (by kernel_rfl) (by kernel_rfl)
theorem QIh (a : Addr) : Qa4 Tryz.prog 207 (.pointer (some a)) 1 KV = KV (.pointer (some (a.add 1))) := Qgd 207 1 a (m := 0) Tryz.underlying207 rfl (by kernel_rfl)
theorem QIi (l : List Value) : Qcs Tryz.prog 207 (.agg l.toArray) 2 KV = KV (.agg ((l.take 24).drop 2).toArray) := Qwx 207 2 l 22 Tryz.underlying207 rfl (by kernel_rfl) (by kernel_rfl) (by kernel_rfl)
theorem QIj (a : Addr) : Qa4 Tryz.prog 207 (.pointer (some a)) 2 KV = KV (.pointer (some (a.add 2))) := Qgd 207 2 a (m := 21) Tryz.underlying207 rfl (by kernel_rfl)
theorem QIk (l : List Value) : Qcs Tryz.prog 207 (.agg l.toArray) 3 KV = KV (.agg ((l.take 46).drop 24).toArray) := Qwx 207 3 l 22 Tryz.underlying207 rfl (by kernel_rfl) (by kernel_rfl) (by kernel_rfl)
theorem QIl (a : Addr) : Qa4 Tryz.prog 207 (.pointer (some a)) 3 KV = KV (.pointer (some (a.add 24))) := Qgd 207 3 a (m := 21) Tryz.underlying207 rfl (by kernel_rfl)
theorem QIm (l : List Value) : Qcs Tryz.prog 207 (.agg l.toArray) 4 KV = KV (.agg ((l.take 68).drop 46).toArray) := Qwx 207 4 l 22 Tryz.underlying207 rfl (by kernel_rfl) (by kernel_rfl) (by kernel_rfl)
theorem QIn (a : Addr) : Qa4 Tryz.prog 207 (.pointer (some a)) 4 KV = KV (.pointer (some (a.add 46))) := Qgd 207 4 a (m := 21) Tryz.underlying207 rfl (by kernel_rfl)
theorem QPu : Tryz.prog.szo 215 = some 1 := by kernel_rfl
theorem QPv : Tryz.prog.szo 228 = some 1 := by kernel_rfl
theorem QPw (a : Addr) : Qb0 Tryz.prog 228 (.pointer (some a)) w KV = ∃ v, w.cell? a = some v /\ KV v := Qo4 228 a .u64 Tryz.underlying228
theorem QPx : Tryz.prog.szo 232 = some 1 := by kernel_rfl
end
attribute [go_sem ↓] ld3 QNq QKz QK1 QK3 QHf ld4 QNs QNt ld5 QNu QK5 ln9 ix9 snn9 sln9 snh9 slh9 ld9 ld24 bd24 bz24 QK7 QK8 QK9 QLa ld25 ld31 QLb QHh ln36 QNw QNx QNy QNz ia36 ld36 ld42 QN0 ia42 ln43 QN1 QN2 QN3 QN4 ia43 ld43 QLd ln56 ia56 ln63 ia63 ld63 ld65 bd65 bz65 QLg QLh QLi QLj pe68 pn68 ld71 QLk QLm QHj QLo QHl QLq QN7 QN8 QN9 QOb QOc QOd QLr QOf QOh QOi QHn QHo QHp QHq QOk QLs QOl QOn QOo QOp QOr QOs QHr QHs QLt QOu QOw QLu QOx QOz QO0 QO1 QHt QHu QHv QHw QO5 QO6 QHx QHy QHz QH0 QH1 QH2 QO8 QLv QO9 QPb QPc QH3 QH4 QH5 QH6 QLw QPe QPg QLx QLy QLz QL0 QPh QPi QPj QPk QPl QH8 QH9 QIa QIb QPo QPp QPq QIc QId QL1 QPs QIe QIf QIg QIh QIi QIj QIk QIl QIm QIn QPw
attribute [go_sem] sz3 QNr QK0 QK2 QK4 QHg sz4 sz5 QNv QK6 sz9 sz20 sz24 sz25 sz31 QLc QHi sz36 sz42 sz43 QLe QLf sz56 sz63 sz65 sz68 sz71 QLl QLn QHk sz97 QLp QHm QN5 QN6 QOa QOe QOg QOj QOm QOq QOt QOv QOy QO2 QO3 QO4 QO7 QPa QPd QPf QH7 QPm QPn QPr QPt QPu QPv QPx
theorem zi3 : (Tryz.prog.info? 3).map (fun i => (i.zero.map Value.cells, i.size, i.bytes)) = some (some #[.int .i64 0], 1, 8) := by kernel_rfl
theorem zi5 : (Tryz.prog.info? 5).map (fun i => (i.zero.map Value.cells, i.size, i.bytes)) = some (some #[.int .u8 0], 1, 1) := by kernel_rfl
theorem zi36 : (Tryz.prog.info? 36).map (fun i => (i.zero.map Value.cells, i.size, i.bytes)) = some (some #[.slice none 0 0], 1, 24) := by kernel_rfl
end Go.Proofs.YtfphmlhgebpojaaGreat
namespace Go.Eng
open Go
def Keeps {α : Type} (P : Program) (s : Sem α) : Prop := ∀ w a w', s.run P w = .ok a w' -> w' = w
section
variable {P : Program}
theorem Keeps.pure {α : Type} (a : α) : Keeps P (Pure.pure a : Sem α) := by
 intro w b w' h
 simp only [Sem.run_pure, Result.ok.injEq] at h
 exact h.2.symm
theorem Keeps.bind {α β : Type} {s : Sem α} {f : α -> Sem β} (h : Keeps P s) (k : ∀ a, Keeps P (f a)) : Keeps P (s >>= f) := by
 intro w b w' hr
 rw [Sem.run_bind] at hr
 cases hs : s.run P w with
 | ok a w1 =>
  rw [hs, Result.andThen_ok] at hr
  rw [k a w1 b w' hr, h w a w1 hs]
 | halt x w1 => rw [hs] at hr;simp [Result.andThen] at hr
theorem Keeps.load (a : Addr) : Keeps P (Go.load a) := by
 intro w v w' h
 unfold Go.load at h
 cases hc : w.cell? a with
 | none =>
  simp only [Sem.run, hc] at h
  cases hf : World.farLoad P w a (Mode.plain == Mode.atomic) with
  | ok x => obtain ⟨x1, x2⟩ := x;rw [hf] at h;simp only [Result.ok.injEq] at h;exact h.2.symm
  | error x => rw [hf] at h;simp at h
 | some x => simp [Sem.run, hc] at h;exact h.2.symm
theorem Keeps.stuck {α : Type} (why : String) : Keeps P (Go.stuck why : Sem α) := by
 intro w v w' h
 simp at h
theorem Keeps.program {α : Type} {f : Program -> Sem α} (h : ∀ p, Keeps P (f p)) : Keeps P (Go.program >>= f) := by
 refine Keeps.bind ?_ h
 intro w v w' h
 simp [Go.program, Sem.run] at h
 exact h.2.symm
theorem Keeps.underlying (T : TypeId) : Keeps P (Go.underlying T) := by
 refine Keeps.program fun p => ?_
 cases p.underlying T with
 | some d => exact Keeps.pure d
 | none => exact Keeps.stuck _
theorem Keeps.typeInfo (T : TypeId) : Keeps P (Go.typeInfo T) := by
 refine Keeps.program fun p => ?_
 cases p.info? T with
 | some d => exact Keeps.pure d
 | none => exact Keeps.stuck _
theorem Keeps.sizeOf (T : TypeId) : Keeps P (Go.sizeOf T) := Keeps.bind (Keeps.typeInfo T) fun _ => Keeps.pure _
theorem Keeps.isAgg (T : TypeId) : Keeps P (Go.isAgg T) := by
 refine Keeps.bind (Keeps.underlying T) fun d => ?_
 cases d <;> exact Keeps.pure _
theorem Keeps.loadCellsFrom (a : Addr) : ∀ (n i : Nat) (acc : Array Value), Keeps P (Go.loadCellsFrom a i n acc)
 | 0, _, acc => Keeps.pure acc
 | n + 1, i, acc => Keeps.bind (Keeps.load _) fun v => Keeps.loadCellsFrom a n (i + 1) (acc.push v)
theorem Keeps.loadVar (T : TypeId) (a : Addr) : Keeps P (Go.loadVar T a) := by
 refine Keeps.bind (Keeps.isAgg T) fun b => ?_
 cases b with
 | true => exact Keeps.bind (Keeps.sizeOf T) fun n => Keeps.bind (Keeps.loadCellsFrom a n 0 #[]) fun _ => Keeps.pure _
 | false => exact Keeps.load a
theorem Keeps.loadAt (T : TypeId) (x : Value) : Keeps P (Instr.loadAt T x) := by
 unfold Instr.loadAt
 refine Keeps.bind ?_ fun a => Keeps.loadVar T a
 unfold Instr.sureAddr
 split
 ·
  exact Keeps.pure _
 ·
  exact Keeps.stuck _
theorem QAz {ops : Array Oper} {Q : Exit -> Act -> World -> Prop} {j : Nat} {o : Oper} {T : TypeId} {x : Operand} {K : Act -> World -> Prop} {a : Act} {w : World} (hj : ops[j]? = some o) (ho : o.op = .load T x)
  (h : wpOp P ops Q j K a w) : wpOp P ops Q j (fun a' w' => w' = w /\ K a' w') a w := by
 unfold wpOp at *
 simp only [hj] at *
 split
 ·
  rename_i hw
  simp only [hw, if_true] at h
  rcases h with h | h
  ·
   refine .inl ?_
   unfold Oper.wp at *
   have e : execOp a.eval o = (do pure (.value (<- Instr.loadAt T (a.eval x))) : Sem Next) := by simp only [execOp, ho]
   rw [e] at h ⊢
   cases hr : (Instr.loadAt T (a.eval x)).run P w with
   | ok v w' =>
    have hk := Keeps.loadAt (P := P) T (a.eval x) w v w' hr
    subst hk
    simp only [Sem.run_bind, hr, Result.andThen_ok, Sem.run_pure, Oper.upon] at h ⊢
    exact ⟨trivial, h⟩
   | halt e w' =>
    simp only [Sem.run_bind, hr, Result.andThen] at h ⊢
    cases e <;> first | (simp at h;done) | exact h
  ·
   exact .inr h
 ·
  rename_i hw
  simp only [hw] at h
  exact ⟨trivial, h⟩
theorem Qlr {ops : Array Oper} {md : Region.Mode} {Q : Exit -> Act -> World -> Prop} {i : Nat} {oi : Oper} {v : Value} {w : World} (hi : ops[i]? = some oi) (hsel : ∀ (j : Nat) (o : Oper) cs b, ops[j]? = some o -> o.op ≠ .select cs b)
  (hQ : ∀ c a w, Q (.panic c) (a.put oi.dst v) w -> Q (.panic c) a w) :
  ∀ (fuel : Nat) (listed : Array Bool) (a : Act),
   (∀ j oj, ops[j]? = some oj -> j ≠ i -> listed.getD j true = false -> (∀ e ∈ oj.after, Region.binds md e = true -> e.on ≠ i) -> oi.apart ops oj = true /\ ∃ T x, oj.op = .load T x) ->
   i ∈ Region.ready md ops listed -> YieldsIf P ops (fun w' => w' = w) oi v a ->
   wpAny P md ops Q fuel (listed.setIfInBounds i true) (a.put oi.dst v) w -> wpAny P md ops Q (fuel + 1) listed a w := by
 intro fuel
 induction fuel with
 | zero =>
  intro listed a _ hr hy H
  refine ⟨fun h => (by rw [h] at hr;cases hr), fun j hj => ?_⟩
  by_cases hji : j = i
  ·
   subst hji;exact hy.wpOp hi rfl H
  ·
   have := ready_mono hj hji
   rw [H.1] at this
   cases this
 | succ fuel ih =>
  intro listed a hfree hr hy H
  refine ⟨fun h => (by rw [h] at hr;cases hr), fun j hj => ?_⟩
  by_cases hji : j = i
  ·
   subst hji;exact hy.wpOp hi rfl H
  ·
   have h1 := H.2 j (ready_mono hj hji)
   obtain ⟨hjun, oj, hoj, hall⟩ := mem_ready.1 hj
   have hnot : ∀ e ∈ oj.after, Region.binds md e = true -> e.on ≠ i := fun e he hb heq => by
    have h1 := hall e he hb
    have h0 := (mem_ready.1 hr).1
    rw [heq] at h1
    rcases Nat.lt_or_ge i listed.size with h' | h'
    ·
     simp [h'] at h0 h1;rw [h0] at h1;cases h1
    ·
     simp [Array.getElem?_eq_none h'] at h1
   obtain ⟨hap, T, x, hop⟩ := hfree j oj hoj hji hjun hnot
   have h2 := QAz hoj hop (wpOp_putIf hoj hap (fun cs b => hsel i oi cs b hi) (fun cs b => hsel j oj cs b hoj) hQ hy h1)
   refine wpOp_mono (fun a' w' h3 => ?_) h2
   obtain ⟨rfl, h4, h5⟩ := h3
   refine ih (listed.setIfInBounds j true) a' (fun k ok hk hki hun hno => ?_) (ready_mono hr (Ne.symm hji)) h4 ?_
   ·
    refine hfree k ok hk hki ?_ hno
    by_cases hjk : j = k
    ·
     subst hjk;exact hjun
    ·
     rw [getD_set_ne true hjk] at hun;exact hun
   ·
    rw [Array.setIfInBounds_comm _ _ hji]
    exact h5
end
def QIo (ops : Array Oper) (listed : Array Bool) (i : Nat) : Bool :=
 match ops[i]? with
 | none => false
 | some oi => (List.range ops.size).all fun j => j == i || listed.getD j true || match ops[j]? with
   | some oj => oj.after.any (fun e => Region.binds .any e && e.on == i) || (oi.apart ops oj && match oj.op with | .load .. => true | _ => false)
   | none => true
theorem Qo9 {ops : Array Oper} {i : Nat} {oi : Oper} {listed : Array Bool} (hi : ops[i]? = some oi) (h : QIo ops listed i = true) (j : Nat) (oj : Oper)
  (hj : ops[j]? = some oj) (hne : j ≠ i) (hun : listed.getD j true = false) (hno : ∀ e ∈ oj.after, Region.binds .any e = true -> e.on ≠ i) :
  oi.apart ops oj = true /\ ∃ T x, oj.op = .load T x := by
 simp only [QIo, hi, List.all_eq_true, List.mem_range] at h
 have h1 := h j (Array.getElem?_eq_some_iff.1 hj).1
 simp only [hj, Bool.or_eq_true, beq_iff_eq, hne, false_or, hun, Bool.false_eq_true] at h1
 rcases h1 with h1 | h1
 ·
  obtain ⟨e, he, hb⟩ := Array.any_eq_true'.1 h1
  simp only [Bool.and_eq_true, beq_iff_eq] at hb
  exact absurd hb.2 (hno e he hb.1)
 ·
  simp only [Bool.and_eq_true] at h1
  refine ⟨h1.1, ?_⟩
  cases hop : oj.op <;> simp [hop] at h1 ⊢
def QA0 (ops : Array Oper) : List (Nat × Nat) -> Array Bool -> Bool
 | [], listed => (Region.ready .any ops listed).isEmpty
 | (i, t) :: plan, listed =>
  (decide (i < ops.size)) && (match t with
   | 0 => Region.free .any ops listed i && (Region.ready .any ops listed).contains i
   | 1 => (((ops[i]?).map fun o => match o.op with | .load .. => true | _ => false).getD false && QIo ops listed i) && (Region.ready .any ops listed).contains i
   | _ => Region.ready .any ops listed == [i]) && QA0 ops plan (listed.setIfInBounds i true)
def bare (w : World) : World := { w with heap := #[] }
theorem Qqb (w w' : World) : Ext (bare w) w' := ⟨fun i o h => by simp [bare] at h⟩
theorem QA1 (w : World) (R : Env -> World -> (Env -> World -> Prop) -> Prop) : extR (bare w) R = R := by
 funext e w' K
 exact propext ⟨fun h => h.2, fun h => ⟨Qqb _ _, h⟩⟩
theorem QA2 {P : Program} {N : Nat} {ops : List Oper} {w0 : World} {Q : Exit -> Act -> World -> Prop} {K : Env -> World -> Prop} (hN : ops.all (Qfa N) = true) (hsel : Region.noSelect ops.toArray = true)
  (hQ : ∀ c a w (d : Option Tmp) v, Q (.panic c) (a.put d v) w -> Q (.panic c) a w)
  (hK : ∀ e a w n, Fits N e a -> K e w -> Q .normal a (w.drewN n)) : ∀ (plan : List (Nat × Nat)) (fuel : Nat) (listed : Array Bool) (e : Env) (a : Act) (w : World) (n : Nat),
   plan.length <= fuel -> QA0 ops.toArray plan listed = true -> Fits N e a -> vcH P N ops (bare w0) (Qay ops (plan.map fun p => (p.1, p.2 == 0))) e w K ->
   wpAny P .any ops.toArray Q fuel listed a (w.drewN n) := by
 intro plan
 induction plan with
 | nil =>
  intro fuel listed e a w n _ hp ha h
  simp only [QA0, List.isEmpty_iff] at hp
  exact wpAny_done hp (hK e a w n ha h) fuel
 | cons p plan ih =>
  obtain ⟨i, t⟩ := p
  intro fuel listed e a w n hf hp ha h
  simp only [QA0, Bool.and_eq_true, decide_eq_true_eq] at hp
  obtain ⟨⟨hi, hstep⟩, hp⟩ := hp
  have hi' : i < ops.length := by simpa using hi
  obtain ⟨o, ho⟩ : ∃ o, ops[i]? = some o := ⟨ops[i], List.getElem?_eq_getElem hi'⟩
  have hoa : ops.toArray[i]? = some o := by simpa using ho
  have hod : Qfa N o = true := by
   rw [List.all_eq_true] at hN
   exact hN o (List.mem_of_getElem? ho)
  have hpl : Qay ops (((i, t) :: plan).map fun p => (p.1, p.2 == 0)) = (t == 0, o) :: Qay ops (plan.map fun p => (p.1, p.2 == 0)) := by simp [Qay, ho]
  rw [hpl] at h
  cases fuel with
  | zero => simp at hf
  | succ fuel =>
  have hf' : plan.length <= fuel := by simpa using hf
  rcases Qde ha h with ⟨e', ha', h', hw⟩ | ⟨e', ha', h', hw⟩
  ·
   have h' : Qel P N (Qfm P o.op) (t == 0) o e' (bare w0) w (vcH P N ops (bare w0) (Qay ops (plan.map fun p => (p.1, p.2 == 0)))) K := h'
   match t, hstep, h' with
   | 0, hstep, h' =>
    simp only [Bool.and_eq_true] at hstep
    cases hpo : Qfm P o.op with
    | true =>
     rw [hpo] at h'
     simp only [Qel, pw, beq_self_eq_true] at h'
     obtain ⟨v, hv, hr⟩ := Qdm ha' h'
     refine wpAny_take hoa hsel hstep.1 hstep.2 (fun c a w => hQ c a w o.dst v) (.inl ⟨hw, fun w' => hr w' (Qqb _ _)⟩) ?_
     exact ih fuel _ _ _ w n hf' hp (ha'.put' hod v) hv
    | false => rw [hpo] at h';exact h'.elim
   | 1, hstep, h' =>
    simp only [Bool.and_eq_true] at hstep
    have hpo : Qfm P o.op = true := by
     have h1 := hstep.1.1
     rw [hoa] at h1
     simp only [Option.map_some, Option.getD_some] at h1
     cases hop : o.op <;> simp [hop] at h1 <;> rfl
    rw [hpo] at h'
    simp only [Qel, pw, show ((1 : Nat) == 0) = false from rfl] at h'
    obtain ⟨v, hv, hr⟩ := Qdm ha' h'
    refine Qlr hoa (Region.noSelect_spec hsel) (fun c a w => hQ c a w o.dst v) fuel listed a (Qo9 hoa hstep.1.2) (by simpa using hstep.2) (.inl ⟨hw, fun w' hw' => by subst hw';exact hr _ (Ext.drewN w n)⟩) ?_
    exact ih fuel _ _ _ w n hf' hp (ha'.put' hod v) hv
   | t + 2, hstep, h' =>
    simp only [beq_iff_eq] at hstep
    refine wpAny_all hstep (by simp) ?_
    intro j hj
    simp only [List.mem_singleton] at hj
    subst hj
    unfold wpOp
    simp only [hoa, hw, if_true]
    refine .inl ?_
    rw [show ((t + 2 : Nat) == 0) = false from rfl] at h'
    cases hpo : Qfm P o.op with
    | true =>
     rw [hpo] at h'
     simp only [Qel, pw] at h'
     obtain ⟨v, hv, hr⟩ := Qdm ha' h'
     unfold Oper.wp
     rw [hr (w.drewN n) (Ext.drewN w n)]
     exact ih fuel _ _ _ w n hf' hp (ha'.put' hod v) hv
    | false =>
     rw [hpo] at h'
     have h' : MemH P N o e' (bare w0) w (vcH P N ops (bare w0) (Qay ops (plan.map fun p => (p.1, p.2 == 0)))) K := h'
     exact h' a n _ Q ha' fun v w' m hv => ih fuel _ _ _ w' m hf' hp (ha'.put' hod v) hv.2
  ·
   have hnext : wpAny P .any ops.toArray Q fuel (listed.setIfInBounds i true) (a.put o.dst undef) (w.drewN n) :=
    ih fuel _ _ _ w n hf' hp (ha'.put' hod undef) h'
   match t, hstep with
   | 0, hstep =>
    simp only [Bool.and_eq_true] at hstep
    exact wpAny_take hoa hsel hstep.1 hstep.2 (fun c a w => hQ c a w o.dst undef) (.inr ⟨hw, rfl⟩) hnext
   | 1, hstep =>
    simp only [Bool.and_eq_true] at hstep
    exact Qlr hoa (Region.noSelect_spec hsel) (fun c a w => hQ c a w o.dst undef) fuel listed a (Qo9 hoa hstep.1.2) (by simpa using hstep.2) (.inr ⟨hw, rfl⟩) hnext
   | t + 2, hstep =>
    simp only [beq_iff_eq] at hstep
    refine wpAny_all hstep (by simp) ?_
    intro j hj
    simp only [List.mem_singleton] at hj
    subst hj
    unfold wpOp
    simp only [hoa, hw, Bool.false_eq_true, if_false]
    exact hnext
theorem Qbz {P : Program} {fn : Func} {F : Value -> World -> Prop} {N : Nat} {k : List It} {e : Env} {w : World} (ks : List Nat) (plan : List (Nat × Nat)) {id : Nat} {ops : List Oper} {l : List (Bool × Oper)}
  (hm : P.follows .mixedOrders = true) (hB : (QA0 ops.toArray plan (Array.replicate ops.toArray.size false) && Region.noSelect ops.toArray && decide (plan.length <= ops.length)) = true) (hN : ops.all (Qfa N) = true) (hl : Qay ops (plan.map fun p => (p.1, p.2 == 0)) = l)
  (h : ∀ K : Env -> World -> Prop, (∀ e w, VC ⟨P, fn, F, N⟩ k e w -> K e w) -> vcH P N ops (bare w) l e w (selC ks K)) : VC ⟨P, fn, F, N⟩ (.code (.region id ops.toArray true) :: k) e w := by
 intro a n ha
 simp only [Bool.and_eq_true, decide_eq_true_eq] at hB
 obtain ⟨⟨hB1, hB2⟩, hB3⟩ := hB
 refine wp_region_any (P := P) hm ?_
 subst hl
 refine QA2 (w0 := w) (K := selC ks (VC ⟨P, fn, F, N⟩ k)) hN hB2 (fun c a w d v hq => Qk3 d v hq) (fun e a w n ha hv => ?_) plan _ _ e a w (n + 1) (by simpa using hB3) hB1 ha (h _ fun _ _ hv => hv)
 exact ((Qc9 ks e _).1 hv) a n (ha.sel ks)
attribute [go_sem] QA1
inductive Qqc where
 | seq (pre : List (Nat × Bool)) : Qqc
 | two (pre : List (Nat × Bool)) (i j : Nat) (k k' : Qqc) : Qqc
 | three (pre : List (Nat × Bool)) (i j x : Nat) (k k' k'' : Qqc) : Qqc
def Qgo (ops : Array Oper) : Qqc -> Nat -> Array Bool -> Bool
 | .seq pre, fuel, listed => decide (pre.length <= fuel) && match Qi4 ops pre listed with
  | some l => (Region.ready .any ops l).isEmpty
  | none => false
 | .two pre i j k k', fuel, listed => decide (pre.length + 1 <= fuel) && match Qi4 ops pre listed with
  | some l => Region.ready .any ops l == [i, j] && decide (i < ops.size) && decide (j < ops.size) && Qgo ops k (fuel - pre.length - 1) (l.setIfInBounds i true) && Qgo ops k' (fuel - pre.length - 1) (l.setIfInBounds j true)
  | none => false
 | .three pre i j x k k' k'', fuel, listed => decide (pre.length + 1 <= fuel) && match Qi4 ops pre listed with
  | some l => Region.ready .any ops l == [i, j, x] && decide (i < ops.size) && decide (j < ops.size) && decide (x < ops.size) && Qgo ops k (fuel - pre.length - 1) (l.setIfInBounds i true) && Qgo ops k' (fuel - pre.length - 1) (l.setIfInBounds j true) && Qgo ops k'' (fuel - pre.length - 1) (l.setIfInBounds x true)
  | none => false
def vcT3 (P : Program) (N : Nat) (ops : List Oper) (w0 : World) : Qqc -> Env -> World -> (Env -> World -> Prop) -> Prop
 | .seq pre, e, w, K => vcH P N ops w0 (Qay ops pre) e w K
 | .two pre i j k k', e, w, K => vcH P N ops w0 (Qay ops pre) e w fun e w =>
   vcH P N ops w0 (Qay ops [(i, false)]) e w (fun e w => vcT3 P N ops w0 k e w K) /\ vcH P N ops w0 (Qay ops [(j, false)]) e w (fun e w => vcT3 P N ops w0 k' e w K)
 | .three pre i j x k k' k'', e, w, K => vcH P N ops w0 (Qay ops pre) e w fun e w =>
   vcH P N ops w0 (Qay ops [(i, false)]) e w (fun e w => vcT3 P N ops w0 k e w K) /\ vcH P N ops w0 (Qay ops [(j, false)]) e w (fun e w => vcT3 P N ops w0 k' e w K) /\ vcH P N ops w0 (Qay ops [(x, false)]) e w (fun e w => vcT3 P N ops w0 k'' e w K)
section
variable {P : Program} {N : Nat} {ops : List Oper} {w0 : World} {Q : Exit -> Act -> World -> Prop}
theorem Qyf {K : Env -> World -> Prop} (hN : ops.all (Qfa N) = true) (hsel : Region.noSelect ops.toArray = true)
  (hQ : ∀ c a w (d : Option Tmp) v, Q (.panic c) (a.put d v) w -> Q (.panic c) a w)
  (hK : ∀ e a w n, Fits N e a -> K e w -> Q .normal a (w.drewN n)) : ∀ (t : Qqc) (fuel : Nat) (listed : Array Bool) (e : Env) (a : Act) (w : World) (n : Nat),
   Qgo ops.toArray t fuel listed = true -> Fits N e a -> Ext w0 w -> vcT3 P N ops w0 t e w K ->
   wpAnyH P .any ops.toArray Q (fun w' => Ext w0 w') fuel listed a (w.drewN n) := by
 intro t
 induction t with
 | seq pre =>
  intro fuel listed e a w n ht ha hx h
  simp only [Qgo, Bool.and_eq_true, decide_eq_true_eq] at ht
  obtain ⟨hf, ht⟩ := ht
  cases hp : Qi4 ops.toArray pre listed with
  | none => rw [hp] at ht;cases ht
  | some l =>
   rw [hp] at ht
   simp only [List.isEmpty_iff] at ht
   exact Qp9 hN hsel hQ pre fuel listed l e a w n hf hp ha hx h fun e a w n h1 _ h3 => wpAnyH_done ht (hK e a w n h1 h3) _
 | two pre i j k k' ihk ihk' =>
  intro fuel listed e a w n ht ha hx h
  simp only [Qgo, Bool.and_eq_true, decide_eq_true_eq] at ht
  obtain ⟨hf, ht⟩ := ht
  cases hp : Qi4 ops.toArray pre listed with
  | none => rw [hp] at ht;cases ht
  | some l =>
   rw [hp] at ht
   simp only [Bool.and_eq_true, beq_iff_eq, decide_eq_true_eq] at ht
   obtain ⟨⟨⟨⟨hr, hi⟩, hj⟩, h1⟩, h2⟩ := ht
   refine Qp9 hN hsel hQ pre fuel listed l e a w n (by omega) hp ha hx h fun e a w n g1 g2 g3 => ?_
   obtain ⟨m, hm⟩ : ∃ m, fuel - pre.length = m + 1 := ⟨fuel - pre.length - 1, by omega⟩
   rw [hm]
   have hm' : fuel - pre.length - 1 = m := by omega
   rw [hm'] at h1 h2
   refine wpAnyH_all hr (by simp) ?_
   intro x hx2
   simp only [List.mem_cons, List.not_mem_nil, or_false] at hx2
   rcases hx2 with rfl | rfl
   ·
    exact Qiq hN (by simpa using hi) g1 g2 g3.1 fun e a w n f1 f2 f3 => ⟨f2.trans (Ext.drewN w n), ihk m _ e a w n h1 f1 f2 f3⟩
   ·
    exact Qiq hN (by simpa using hj) g1 g2 g3.2 fun e a w n f1 f2 f3 => ⟨f2.trans (Ext.drewN w n), ihk' m _ e a w n h2 f1 f2 f3⟩
 | three pre i j y k k' k'' ihk ihk' ihk'' =>
  intro fuel listed e a w n ht ha hx h
  simp only [Qgo, Bool.and_eq_true, decide_eq_true_eq] at ht
  obtain ⟨hf, ht⟩ := ht
  cases hp : Qi4 ops.toArray pre listed with
  | none => rw [hp] at ht;cases ht
  | some l =>
   rw [hp] at ht
   simp only [Bool.and_eq_true, beq_iff_eq, decide_eq_true_eq] at ht
   obtain ⟨⟨⟨⟨⟨⟨hr, hi⟩, hj⟩, hy⟩, h1⟩, h2⟩, h3⟩ := ht
   refine Qp9 hN hsel hQ pre fuel listed l e a w n (by omega) hp ha hx h fun e a w n g1 g2 g3 => ?_
   obtain ⟨m, hm⟩ : ∃ m, fuel - pre.length = m + 1 := ⟨fuel - pre.length - 1, by omega⟩
   rw [hm]
   have hm' : fuel - pre.length - 1 = m := by omega
   rw [hm'] at h1 h2 h3
   refine wpAnyH_all hr (by simp) ?_
   intro x hx2
   simp only [List.mem_cons, List.not_mem_nil, or_false] at hx2
   rcases hx2 with rfl | rfl | rfl
   ·
    exact Qiq hN (by simpa using hi) g1 g2 g3.1 fun e a w n f1 f2 f3 => ⟨f2.trans (Ext.drewN w n), ihk m _ e a w n h1 f1 f2 f3⟩
   ·
    exact Qiq hN (by simpa using hj) g1 g2 g3.2.1 fun e a w n f1 f2 f3 => ⟨f2.trans (Ext.drewN w n), ihk' m _ e a w n h2 f1 f2 f3⟩
   ·
    exact Qiq hN (by simpa using hy) g1 g2 g3.2.2 fun e a w n f1 f2 f3 => ⟨f2.trans (Ext.drewN w n), ihk'' m _ e a w n h3 f1 f2 f3⟩
end
theorem Qhb {P : Program} {fn : Func} {F : Value -> World -> Prop} {N : Nat} {k : List It} {e : Env} {w : World} (w0 : World) (hx : Ext w0 w) (ks : List Nat) (t : Qqc) {id : Nat} {ops : List Oper}
  (hm : P.follows .mixedOrders = true) (hB : (Qgo ops.toArray t ops.toArray.size (Array.replicate ops.toArray.size false) && Region.noSelect ops.toArray) = true) (hN : ops.all (Qfa N) = true)
  (h : ∀ K : Env -> World -> Prop, (∀ e w, VC ⟨P, fn, F, N⟩ k e w -> K e w) -> vcT3 P N ops w0 t e w (selC ks K)) : VC ⟨P, fn, F, N⟩ (.code (.region id ops.toArray true) :: k) e w := by
 intro a n ha
 simp only [Bool.and_eq_true] at hB
 obtain ⟨hB1, hB2⟩ := hB
 refine wp_region_held (S := fun w' => Ext w0 w') hm ?_
 refine Qyf (K := selC ks (VC ⟨P, fn, F, N⟩ k)) hN hB2 (fun c a w d v hq => Qk3 d v hq) (fun e a w n ha hv => ?_) t _ _ e a w (n + 1) hB1 ha hx (h _ fun _ _ hv => hv)
 exact ((Qc9 ks e _).1 hv) a n (ha.sel ks)
end Go.Eng
namespace Go.Proofs.YtfphmlhgebpojaaGreat
open Go Go.Eng
def Qaq (l : List Nat) : List Value := l.map fun n : Nat => .int .i64 (n : Int)
def ni (l : List Nat) : List Int := l.map fun n : Nat => (n : Int)
theorem QD5 (l : List Nat) : Qaq l = Qbm (ni l) := by simp [Qaq, Qbm, ni]
theorem Qar (l : List Nat) : (Qaq l).length = l.length := by simp [Qaq]
theorem Qer (l m : List Nat) : Qaq (l ++ m) = Qaq l ++ Qaq m := by simp [Qaq]
theorem Qyg (l : List Nat) (x : Nat) : Qaq l ++ [.int .i64 (x : Int)] = Qaq (l ++ [x]) := by simp [Qaq]
theorem Qb6 {l : List Nat} {i : Nat} (h : i < l.length) : (Qaq l)[i]? = some (.int .i64 ((l.getD i 0 : Nat) : Int)) := by
 simp [Qaq, List.getElem?_eq_getElem h, List.getD_eq_getElem?_getD]
theorem Qce (l : List Nat) (i v : Nat) : (Qaq l).set i (.int .i64 (v : Int)) = Qaq (l.set i v) := by simp [Qaq, List.map_set]
theorem Qk6 (l : List Nat) (k : Nat) : (Qaq l).take k = Qaq (l.take k) := by simp [Qaq]
theorem Qpa (l : List Nat) (k : Nat) : (Qaq l).drop k = Qaq (l.drop k) := by simp [Qaq]
theorem Qf9 (l : List Nat) : ∀ u ∈ Qaq l, u.oneCell' = true := by
 intro u hu
 obtain ⟨b, _, rfl⟩ := List.mem_map.1 hu
 rfl
theorem Qda {w : World} {p : Addr} {l : List Nat} {n : Nat} (h : RS w (some p) n 1 (Qaq l)) {i : Nat} (hi : i < l.length) : w.cell? (p.add i) = some (.int .i64 ((l.getD i 0 : Nat) : Int)) :=
 h.2.2 p rfl i _ (Qb6 hi)
def u64V (l : List Nat) : List Value := l.map fun n : Nat => .int .u64 (n : Int)
theorem Qmi (l : List Nat) : (u64V l).length = l.length := by simp [u64V]
theorem Qqd {l : List Nat} {i : Nat} (h : i < l.length) : (u64V l)[i]? = some (.int .u64 ((l.getD i 0 : Nat) : Int)) := by
 simp [u64V, List.getElem?_eq_getElem h, List.getD_eq_getElem?_getD]
theorem QD6 (l : List Nat) (i v : Nat) : (u64V l).set i (.int .u64 (v : Int)) = u64V (l.set i v) := by simp [u64V, List.map_set]
theorem Qu1 : ∀ {l : List Value} {i : Nat} {v : Value} {K : Value -> Prop}, l[i]? = some v -> vNth l i K = K v := by
 intro l i v K h
 rw [QAw, h]
section
variable {P : Program} {w w0 : World} {B : List Nat} {G : List Res}
theorem Qqe (hH : Heap w0 B w G) (i : Nat) {T E ty : TypeId} {bytes : Nat} {z : Value} {a : Option Addr} {cap : Nat} {o : List Nat} (k : Nat) {n : Int} {C : Value -> World -> Prop}
  (hi : G[i]? = some (Res.row E 1 a o.length cap (Qaq o))) (hu : P.underlying T = some (.slice E)) (hz : (P.info? E).map (fun i => (i.zero.map Value.cells, i.size, i.bytes)) = some (some #[z], 1, bytes)) (hn : n = k)
  (hb : cap < (o ++ [k]).length -> (o ++ [k]).length * bytes <= 140737488355328 /\ (o ++ [k]).length <= 9223372036854775807)
  (h : ∀ a' cap' w', ((o ++ [k]).length <= cap -> a' = a /\ cap' = cap) -> Heap w0 B w' (G.set i (Res.row E 1 a' (o ++ [k]).length cap' (Qaq (o ++ [k])))) -> C (.slice a' (o ++ [k]).length cap') w') :
  AppK P #[T, T] ty [.slice a o.length cap, .slice (some ⟨w.heap.size, 0, none⟩) 1 1] (w.alloc (.cells [Value.int .i64 n].toArray E)) C := by
 subst hn
 have e : o.length + 1 = (o ++ [k]).length := by simp
 refine Qp7 hH i hi hu hz rfl (by rw [e];exact hb) fun a' cap' w' hc hH' => ?_
 rw [Qyg, e] at hH'
 rw [e] at hc ⊢
 exact h a' cap' w' hc hH'
end
end Go.Proofs.YtfphmlhgebpojaaGreat
namespace Go.Eng
open Go
def Qdd {α : Type} (f : α -> List Value) (l : List α) : List Value := l.flatMap f
section
variable {α : Type} {f : α -> List Value} {k : Nat}
theorem Qsh (hk : ∀ x, (f x).length = k) (l : List α) : (Qdd f l).length = l.length * k := by
 induction l with
 | nil => simp [Qdd]
 | cons x l ih => simp only [Qdd, List.flatMap_cons, List.length_append, List.length_cons, Nat.succ_mul] at ih ⊢;rw [ih, hk];omega
theorem Qif (l m : List α) : Qdd f (l ++ m) = Qdd f l ++ Qdd f m := by simp [Qdd]
theorem Qsi (x : α) : Qdd f [x] = f x := by simp [Qdd]
theorem Qsj (hk : ∀ x, (f x).length = k) : ∀ (l : List α) (i : Nat) (x : α), l[i]? = some x -> ∀ j u, (f x)[j]? = some u -> (Qdd f l)[i * k + j]? = some u := by
 intro l
 induction l with
 | nil => intro i x h;simp at h
 | cons y l ih =>
  intro i x h j u hu
  have hj : j < k := by have := (List.getElem?_eq_some_iff.1 hu).1;rwa [hk] at this
  cases i with
  | zero =>
   simp at h;subst h
   simp only [Qdd, List.flatMap_cons]
   rw [Nat.zero_mul, Nat.zero_add, List.getElem?_append_left (by rw [hk];exact hj)]
   exact hu
  | succ i =>
   have := ih i x (by simpa using h) j u hu
   simp only [Qdd, List.flatMap_cons] at this ⊢
   rw [List.getElem?_append_right (by rw [hk, Nat.succ_mul];omega), <- this, hk]
   congr 1
   rw [Nat.succ_mul];omega
theorem Qpb (hk : ∀ x, (f x).length = k) : ∀ (l : List α) (i : Nat), (Qdd f l).take (i * k) = Qdd f (l.take i) := by
 intro l
 induction l with
 | nil => intro i;simp [Qdd]
 | cons y l ih =>
  intro i
  cases i with
  | zero => simp [Qdd]
  | succ i =>
   have := ih i
   simp only [Qdd, List.flatMap_cons, List.take_succ_cons] at this ⊢
   rw [Nat.succ_mul, Nat.add_comm, List.take_append, hk, List.take_of_length_le (by rw [hk];omega), show k + i * k - k = i * k by omega, this]
theorem Qyh (hk : ∀ x, (f x).length = k) : ∀ (l : List α) (i : Nat), (Qdd f l).drop (i * k) = Qdd f (l.drop i) := by
 intro l
 induction l with
 | nil => intro i;simp [Qdd]
 | cons y l ih =>
  intro i
  cases i with
  | zero => simp [Qdd]
  | succ i =>
   have := ih i
   simp only [Qdd, List.flatMap_cons, List.drop_succ_cons] at this ⊢
   rw [Nat.succ_mul, Nat.add_comm, List.drop_append, hk, List.drop_of_length_le (by rw [hk];omega), show k + i * k - k = i * k by omega, this, List.nil_append]
theorem Qsk (hk : ∀ x, (f x).length = k) (l : List α) (i : Nat) (y : α) (hi : i < l.length) : (Qdd f l).take (i * k) ++ f y ++ (Qdd f l).drop (i * k + k) = Qdd f (l.set i y) := by
 rw [Qpb hk, show i * k + k = (i + 1) * k by rw [Nat.succ_mul], Qyh hk, List.set_eq_take_append_cons_drop, if_pos hi, Qif, List.append_assoc]
 congr 1
theorem Qhc {w : World} {p : Addr} {n : Nat} (hk : ∀ x, (f x).length = k) {l : List α} (h : RS w (some p) n k (Qdd f l)) (hp : p.spot = none) {i : Nat} {x : α} (hi : l[i]? = some x) : Reads w (p.add (i * k)) (f x) :=
 QAy h hp _ _ fun j u hu => Qsj hk l i x hi j u hu
end
theorem QIp {α : Type} (zs : List α) (k : Nat) (hk : zs.length = k) (hk0 : 0 < k) : ∀ (c j : Nat), j < c * k -> (List.replicate c zs).flatten[j]? = zs[j % k]? := by
 intro c
 induction c with
 | zero => intro j h;simp at h
 | succ c ih =>
  intro j h
  rw [List.replicate_succ, List.flatten_cons]
  rcases Nat.lt_or_ge j k with h1 | h1
  ·
   rw [List.getElem?_append_left (by omega), Nat.mod_eq_of_lt h1]
  ·
   rw [List.getElem?_append_right (by omega), hk, ih (j - k) (by rw [Nat.succ_mul] at h;omega)]
   congr 1
   conv => rhs;rw [show j = (j - k) + k by omega, Nat.add_mod_right]
theorem QA3 {α : Type} (zs : List α) (k : Nat) (hk : zs.length = k) (c : Nat) : (List.replicate c zs).flatten.length = c * k := by
 induction c with
 | zero => simp
 | succ c ih => rw [List.replicate_succ, List.flatten_cons, List.length_append, ih, Nat.succ_mul];omega
section
variable {P : Program} {N : Nat} {d : Option Tmp} {ty : TypeId} {pos : String} {af : Array Edge} {gd : Option (Nat × Bool)} {e : Env} {w : World} {R : Env -> World -> (Env -> World -> Prop) -> Prop} {K : Env -> World -> Prop}
theorem Qod {T E : TypeId} {i : TypeInfo} {z : Value} {zs : List Value} {k : Nat} (hu : P.underlying T = some (.slice E)) (hi : P.info? E = some i) (hz : i.zero = some z) (hzv : z.cells = zs.toArray) (h1 : i.size = k) (hk : zs.length = k) (hk0 : 0 < k)
  {l c : Nat} (hlc : l <= c) (hb : i.bytes * c <= 2 ^ 48) (hc : c <= maxLen) (w : World) :
  (Instr.makeSlice T (.int .i64 l) (.int .i64 c)).run P w = .ok (.slice (some ⟨w.heap.size, 0, none⟩) l c) (w.alloc (.cells (List.replicate c zs).flatten.toArray E)) := by
 have hcm : (c : Int) <= 9223372036854775807 := by simp only [maxLen] at hc;omega
 have e1 : IntKind.i64.wrap (l : Int) = l := Qfe ⟨by omega, by omega⟩
 have e2 : IntKind.i64.wrap (c : Int) = c := Qfe ⟨by omega, by omega⟩
 have hb1 : ((i.bytes * c : Nat) : Int) <= 281474976710656 := by
  have h : i.bytes * c <= 281474976710656 := hb
  omega
 have hb' : ¬ ((i.bytes : Int) * (c : Int) > 281474976710656) := by
  have e3 : ((i.bytes * c : Nat) : Int) = (i.bytes : Int) * (c : Int) := Int.natCast_mul _ _
  omega
 have hrow : (Array.range (c * k)).map (fun x => (zs.toArray : Array Value)[x % zs.toArray.size]!) = (List.replicate c zs).flatten.toArray := by
  apply Array.ext
  ·
   simp [QA3 zs k hk c]
  ·
   intro j h3 h4
   have h5 : j < c * k := by simpa using h3
   have h6 := QIp zs k hk hk0 c j h5
   have h7 : j % k < zs.length := by rw [hk];exact Nat.mod_lt _ hk0
   rw [List.getElem?_eq_getElem (by rw [QA3 zs k hk c];exact h5), List.getElem?_eq_getElem h7] at h6
   simp only [Array.getElem_map, Array.getElem_range, List.getElem_toArray, List.size_toArray, hk]
   rw [getElem!_pos zs.toArray (j % k) (by simpa using h7)]
   simpa using (Option.some.inj h6).symm
 have hti : ∀ w, (typeInfo E).run P w = .ok i w := fun w => by simp [typeInfo, hi]
 have hzi : ∀ w, (zeroValue E).run P w = .ok z w := fun w => by simp [zeroValue, typeInfo, hi, hz]
 have hso : ∀ w, (sizeOf E).run P w = .ok k w := fun w => by simp [sizeOf, typeInfo, hi, h1]
 simp only [Instr.makeSlice, Sem.run_bind, run_underlying hu, Result.andThen_ok, asInt, asIntOf, Sem.run_pure, hti, e1, e2]
 rw [if_neg (by simp [hb'];omega)]
 simp only [Sem.run_bind, Qg9, Result.andThen_ok, hso, Int.toNat_natCast]
 by_cases hc0 : c = 0
 ·
  subst hc0
  simp only [Nat.zero_mul, if_true, Sem.run_bind, Sem.run_pure, Result.andThen_ok, Qdo]
  simp [show Array.range 0 = #[] from rfl]
 ·
  have hck : c * k ≠ 0 := Nat.mul_ne_zero hc0 (by omega)
  rw [if_neg hck]
  simp only [Sem.run_bind, hzi, Result.andThen_ok, Sem.run_pure, Qdo, hzv]
  rw [<- hrow]
theorem Qyi {T E : TypeId} {x y : Operand} {zs : List Value} {k bytes : Nat} (hu : P.underlying T = some (.slice E)) (hz : (P.info? E).map (fun i => (i.zero.map Value.cells, i.size, i.bytes)) = some (some zs.toArray, k, bytes)) (hk : zs.length = k) (hk0 : 0 < k)
  (h : arg e x fun vl => arg e y fun vc => ∃ l c : Nat, (vl = .int .i64 l /\ vc = .int .i64 c /\ l <= c /\ bytes * c <= 281474976710656 /\ c <= 9223372036854775807) /\ R (e.put d (.slice (some ⟨w.heap.size, 0, none⟩) l c)) (w.alloc (.cells (List.replicate c zs).flatten.toArray E)) K) :
  MemK P N ⟨d, .makeSlice T x y, ty, pos, af, gd⟩ e w R K :=
 Qdn fun a n ha => by
  obtain ⟨l, c, ⟨h1, h2, h3, h4, h5⟩, hR⟩ := Qa7 (K := fun vc => ∃ l c : Nat, (a.eval x = .int .i64 l /\ vc = .int .i64 c /\ l <= c /\ bytes * c <= 281474976710656 /\ c <= 9223372036854775807) /\ R (e.put d (.slice (some ⟨w.heap.size, 0, none⟩) l c)) (w.alloc (.cells (List.replicate c zs).flatten.toArray E)) K) ha
   (Qa7 (K := fun vl => arg e y fun vc => ∃ l c : Nat, (vl = .int .i64 l /\ vc = .int .i64 c /\ l <= c /\ bytes * c <= 281474976710656 /\ c <= 9223372036854775807) /\ R (e.put d (.slice (some ⟨w.heap.size, 0, none⟩) l c)) (w.alloc (.cells (List.replicate c zs).flatten.toArray E)) K) ha h)
  cases hi : P.info? E with
  | none => simp [hi] at hz
  | some i =>
   simp only [hi, Option.map_some, Option.some.injEq, Prod.mk.injEq] at hz
   obtain ⟨hz1, hz2, hz3⟩ := hz
   cases hzz : i.zero with
   | none => simp [hzz] at hz1
   | some z =>
    simp only [hzz, Option.map_some, Option.some.injEq] at hz1
    refine ⟨_, w.alloc (.cells (List.replicate c zs).flatten.toArray E), n, ?_, hR⟩
    have := Qod hu hi hzz hz1 hz2 hk hk0 h3 (by rw [hz3];exact h4) (by simp only [maxLen];omega) (w.drewN n)
    simp only [execOp, h1, h2, this, Sem.run_bind, Result.andThen_ok, Sem.run_pure]
    rfl
theorem Qoe {T E : TypeId} (hu : P.underlying T = some (.slice E)) (d : Nat) (a : Option Addr) (n c n' c' : Nat) (w : World) : (Op.equalIn (d + 1) T (.slice a n c) (.slice none n' c')).run P w = .ok a.isNone w := by
 unfold Op.equalIn
 cases a <;> simp [run_underlying hu]
theorem QD7 {T E : TypeId} {KV : Value -> Prop} (hu : P.underlying T = some (.slice E)) (a : Option Addr) (n c n' c' : Nat) (xo yo : Operand) : Qbr P .eql T xo yo (.slice a n c) (.slice none n' c') w KV = KV (.bool a.isNone) := by
 refine Qlq fun w' => ?_
 simp only [Sem.run_bind]
 rw [Qfo ⟨by simp, by simp⟩]
 have : (Op.equal T (.slice a n c) (.slice none n' c')).run P w' = .ok a.isNone w' := Qoe hu 9999 a n c n' c' w'
 simp only [Result.andThen_ok, binOp, Sem.run_bind, this, Sem.run_pure]
theorem Heap.hole_at {w0 : World} {B : List Nat} {G : List Res} {r : Res} (h : Heap w0 B w G) (i j : Nat) (hi : G[i]? = some r) {g T k : Nat} {cs : List Value} {v : Value} (hj : G[j]? = some (Res.blk g T cs)) (hij : i ≠ j) (hv : cs[k]? = some v) : (holes r.foot w).cell? ⟨g, k, none⟩ = some v := by
 refine Qo2 (Qac (h.at j hj) hv) ?_
 obtain ⟨h1, e1⟩ := List.getElem?_eq_some_iff.1 hi
 obtain ⟨h2, e2⟩ := List.getElem?_eq_some_iff.1 hj
 have ha := List.pairwise_iff_getElem.1 h.apart
 rcases Nat.lt_or_ge i j with h3 | h3
 ·
  have h4 := ha i j h1 h2 h3
  rw [e1, e2] at h4
  exact fun hb => h4 g hb (by simp [Res.blk])
 ·
  have h4 := ha j i h2 h1 (by omega)
  rw [e1, e2] at h4
  exact h4 g (by simp [Res.blk])
theorem Qyj {T sz n cap m : Nat} {a : Option Addr} {xs : List Value} (h : (Res.row T sz a n cap xs).holds w) (hm : m <= n) : (Res.row T sz a m cap (xs.take (m * sz))).holds w := by
 obtain ⟨h1, h2, h3, h4⟩ := h
 have hms : m * sz <= n * sz := Nat.mul_le_mul_right _ hm
 refine ⟨by rw [List.length_take];omega, by omega, h3, ?_⟩
 rcases h4 with ⟨rfl, hn, hc⟩ | ⟨g, rest, fz, rfl, hg, hl, hf⟩
 ·
  exact .inl ⟨rfl, by omega, hc⟩
 ·
  refine .inr ⟨g, xs.drop (m * sz) ++ rest, fz, rfl, ?_, ?_, hf⟩
  ·
   rw [<- List.append_assoc, List.take_append_drop];exact hg
  ·
   rw [<- List.append_assoc, List.take_append_drop];exact hl
end
end Go.Eng
namespace Go.Proofs.YtfphmlhgebpojaaGreat
open Go Go.Eng
theorem Qi5 {l : List Nat} {i : Nat} (h : i < l.length) : maxL (l.take (i + 1)) = max (maxL (l.take i)) (l.getD i 0) := by
 rw [Qd2 0 h, maxL, List.foldl_append];rfl
theorem Qwy (l : List Nat) (hl : 0 < l.length) (hs : l.length <= 1000000000) (a : Option Addr) (lc : Nat) (w : World) (hr : RS w a l.length 1 (Qaq l)) :
  Does Tryz.prog 163 #[.slice a l.length lc] w fun v w' => w' = w /\ v = .int .i64 (maxL l : Nat) := by
 obtain ⟨p, rfl⟩ := Qcx hr (by omega)
 refine Qak (args := [.slice (some p) l.length lc]) 25 Tryz.func163 rfl rfl (of_decide_eq_true rfl) ?_
 simp only [Env.ofArgs]
 generalize hn : l.length = n at *
 refine VR [0] rfl rfl fun K hK => ?_;simp only [go_sem,↓reduceIte,reduceEqDiff]
 (refine hK _ _ ?_;clear hK)
 refine VR [0, 7] rfl rfl fun K hK => ?_;simp only [go_sem,↓reduceIte,reduceEqDiff]
 (refine hK _ _ ?_;clear hK)
 refine Qdf [0] (fun e w' => Is e [(0, .slice (some p) n lc)] /\ Is w' w) ?_ ?_
 ·
  refine Qab rfl rfl (fun h => by simp at h;omega) (fun h => ?_)
  refine Qaf ?_
  refine Qah ?_
  simp only [go_sem,↓reduceIte,reduceEqDiff]
  exact ⟨rfl, rfl⟩
 rintro e w' ⟨rfl, rfl⟩
 have h0 := Qda hr (i := 0) (by omega)
 refine VR [0, 3] rfl rfl fun K hK => ?_;simp only [go_sem,↓reduceIte,reduceEqDiff]
 refine ⟨by omega, _, h0, ?_⟩
 (refine hK _ _ ?_;clear hK)
 refine VR [0, 3, 4] rfl rfl fun K hK => ?_;simp only [go_sem,↓reduceIte,reduceEqDiff]
 (refine hK _ _ ?_;clear hK)
 have hm0 : l.getD 0 0 = maxL (l.take 1) := by
  cases l with
  | nil => simp at hn;omega
  | cons x l => simp [maxL]
 rw [hm0]
 refine Qad ?_
 refine Qam [0, 3, 4] (fun m e w1 => ∃ (i : Nat), Is e [(0, .slice (some p) n lc), (3, .int .i64 (maxL (l.take i) : Nat)), (4, .int .i64 i)] /\ Is w1 w' /\ 1 <= i /\ i <= n /\ m = n - i) (n - 1) ?_ ?_
 ·
  simp only [go_sem,↓reduceIte,reduceEqDiff]
  exact ⟨1, rfl, rfl, by omega, by omega, rfl⟩
 rintro m e w2 ⟨i, rfl, rfl, h1, h2, rfl⟩
 refine VR [0, 3, 4, 15] rfl rfl fun K hK => ?_;simp only [go_sem,↓reduceIte,reduceEqDiff]
 (refine hK _ _ ?_;clear hK)
 refine Qab rfl rfl (fun h => ?_) (fun h => ?_)
 ·
  simp only [decide_eq_true_eq] at h
  have hi := Qda hr (i := i) (by omega)
  have hs2 := Qi5 (l := l) (i := i) (by omega)
  refine Qaf ?_
  ((repeat refine Qai ?_);refine Qad ?_)
  refine VR [0, 3, 4] rfl rfl fun K hK => ?_;simp only [go_sem,↓reduceIte,reduceEqDiff]
  refine ⟨⟨by omega, by omega⟩, _, hi, ?_⟩
  simp only [go_sem,↓reduceIte,reduceEqDiff]
  rw [show max ((maxL (l.take i) : Nat) : Int) ((l.getD i 0 : Nat) : Int) = ((maxL (l.take (i + 1)) : Nat) : Int) by rw [hs2];omega]
  (refine hK _ _ ?_;clear hK)
  refine Qav ?_
  refine VR [0, 3, 4] rfl rfl fun K hK => ?_;simp only [go_sem,↓reduceIte,reduceEqDiff]
  ((repeat refine And.intro (by omega) ?_);refine hK _ _ ?_;clear hK)
  refine Qah ?_
  simp only [go_sem,↓reduceIte,reduceEqDiff]
  exact ⟨n - (i + 1), by omega, i + 1, rfl, rfl, by omega, by omega, rfl⟩
 ·
  simp only [decide_eq_false_iff_not] at h
  refine Qap rfl ?_
  refine VR [2] rfl rfl fun K hK => ?_;simp only [go_sem,↓reduceIte,reduceEqDiff]
  (refine hK _ _ ?_;clear hK)
  refine Qan (Qax rfl rfl ⟨rfl, ?_⟩)
  rw [List.take_of_length_le (by omega)]
theorem QD8 (l : List Nat) (hl : 0 < l.length) (hs : l.length <= 1000000000) (a : Option Addr) (lc : Nat) (w : World) (hr : RS w a l.length 1 (Qaq l)) :
  Does Tryz.prog 187 #[.slice a l.length lc] w fun v w' => w' = w /\ ∃ n : Nat, v = .int .i64 n := by
 obtain ⟨p, rfl⟩ := Qcx hr (by omega)
 refine Qak (args := [.slice (some p) l.length lc]) 25 Tryz.func187 rfl rfl (of_decide_eq_true rfl) ?_
 simp only [Env.ofArgs]
 generalize hn : l.length = n at *
 refine VR [0] rfl rfl fun K hK => ?_;simp only [go_sem,↓reduceIte,reduceEqDiff]
 (refine hK _ _ ?_;clear hK)
 refine VR [0, 7] rfl rfl fun K hK => ?_;simp only [go_sem,↓reduceIte,reduceEqDiff]
 (refine hK _ _ ?_;clear hK)
 refine Qdf [0] (fun e w' => Is e [(0, .slice (some p) n lc)] /\ Is w' w) ?_ ?_
 ·
  refine Qab rfl rfl (fun h => by simp at h;omega) (fun h => ?_)
  refine Qaf ?_
  refine Qah ?_
  simp only [go_sem,↓reduceIte,reduceEqDiff]
  exact ⟨rfl, rfl⟩
 rintro e w' ⟨rfl, rfl⟩
 have h0 := Qda hr (i := 0) (by omega)
 refine VR [0, 3] rfl rfl fun K hK => ?_;simp only [go_sem,↓reduceIte,reduceEqDiff]
 refine ⟨by omega, _, h0, ?_⟩
 (refine hK _ _ ?_;clear hK)
 refine VR [0, 3, 4] rfl rfl fun K hK => ?_;simp only [go_sem,↓reduceIte,reduceEqDiff]
 (refine hK _ _ ?_;clear hK)
 refine Qad ?_
 refine Qam [0, 3, 4] (fun m e w1 => ∃ (i x : Nat), Is e [(0, .slice (some p) n lc), (3, .int .i64 x), (4, .int .i64 i)] /\ Is w1 w' /\ 1 <= i /\ i <= n /\ m = n - i) (n - 1) ?_ ?_
 ·
  simp only [go_sem,↓reduceIte,reduceEqDiff]
  exact ⟨1, _, rfl, rfl, by omega, by omega, rfl⟩
 rintro m e w2 ⟨i, x, rfl, rfl, h1, h2, rfl⟩
 refine VR [0, 3, 4, 15] rfl rfl fun K hK => ?_;simp only [go_sem,↓reduceIte,reduceEqDiff]
 (refine hK _ _ ?_;clear hK)
 refine Qab rfl rfl (fun h => ?_) (fun h => ?_)
 ·
  simp only [decide_eq_true_eq] at h
  have hi := Qda hr (i := i) (by omega)
  refine Qaf ?_
  ((repeat refine Qai ?_);refine Qad ?_)
  refine VR [0, 3, 4] rfl rfl fun K hK => ?_;simp only [go_sem,↓reduceIte,reduceEqDiff]
  refine ⟨⟨by omega, by omega⟩, _, hi, ?_⟩
  simp only [go_sem,↓reduceIte,reduceEqDiff]
  rw [show min ((x : Nat) : Int) ((l.getD i 0 : Nat) : Int) = ((min x (l.getD i 0) : Nat) : Int) by omega]
  (refine hK _ _ ?_;clear hK)
  refine Qav ?_
  refine VR [0, 3, 4] rfl rfl fun K hK => ?_;simp only [go_sem,↓reduceIte,reduceEqDiff]
  ((repeat refine And.intro (by omega) ?_);refine hK _ _ ?_;clear hK)
  refine Qah ?_
  simp only [go_sem,↓reduceIte,reduceEqDiff]
  exact ⟨n - (i + 1), by omega, i + 1, _, rfl, rfl, by omega, by omega, rfl⟩
 ·
  simp only [decide_eq_false_iff_not] at h
  refine Qap rfl ?_
  refine VR [2] rfl rfl fun K hK => ?_;simp only [go_sem,↓reduceIte,reduceEqDiff]
  (refine hK _ _ ?_;clear hK)
  exact Qan (Qax rfl rfl ⟨rfl, _, rfl⟩)
theorem Qne (l : List Nat) (hl : 2 <= l.length) (hl2 : l.length <= 258) (hx : ∀ x ∈ l, x <= 1073741824) (a : Option Addr) (lc : Nat) (w : World) (hr : RS w a l.length 1 (Qaq l)) :
  Does Tryz.prog 160 #[.slice a l.length lc] w fun v w' => w' = w /\ v = .bool true := by
 have hmax := (Qhw (l := l)).2 hx
 have hc1 := QD8 l (by omega) (by omega) a lc w hr
 have hc2 := Qwy l (by omega) (by omega) a lc w hr
 refine Qak (args := [.slice a l.length lc]) 21 Tryz.func160 rfl rfl (of_decide_eq_true rfl) ?_
 simp only [Env.ofArgs]
 generalize l.length = n at *
 generalize maxL l = mx at *
 refine VR [0] rfl rfl fun K hK => ?_;simp only [go_sem,↓reduceIte,reduceEqDiff]
 (refine hK _ _ ?_;clear hK)
 refine VR [2] rfl rfl fun K hK => ?_;simp only [go_sem,↓reduceIte,reduceEqDiff]
 refine ⟨fun h1 => ⟨fun h2 => ?_, fun h2 => absurd h2 (by simp;omega)⟩, fun h1 => absurd h1 (by simp;omega)⟩
 refine Qag Tryz.call187 ?_;simp only [go_sem,↓reduceIte,reduceEqDiff];refine CallK.mk hc1 ?_
 rintro v w2 ⟨rfl, q, rfl⟩
 simp only [go_sem,↓reduceIte,reduceEqDiff]
 refine ⟨fun h3 => ?_, fun h3 => absurd h3 (by simp)⟩
 refine Qag Tryz.call163 ?_;simp only [go_sem,↓reduceIte,reduceEqDiff];refine CallK.mk hc2 ?_
 rintro v w3 ⟨rfl, rfl⟩
 simp only [go_sem,↓reduceIte,reduceEqDiff]
 rw [decide_eq_true (show ((mx : Nat) : Int) <= 1073741824 by omega)]
 (refine hK _ _ ?_;clear hK)
 exact Qan (Qax rfl rfl ⟨rfl, rfl⟩)
def sumS (l : List Nat) : Nat := if l.length < 2 ∨ 258 < l.length then 0 else if l.all (fun x => decide (1 <= x) && decide (x <= 20)) then Qck l else 0
theorem Qu2 (l : List Nat) (x : Nat) : Qck (l ++ [x]) = Qck l + 2 ^ (20 - x) := by rw [Qjx];rfl
theorem QA4 (l : List Nat) : Qck l <= l.length * 1048576 := by
 induction l with
 | nil => simp [Qck]
 | cons x l ih =>
  have : 2 ^ (20 - x) <= 2 ^ 20 := Nat.pow_le_pow_right (by omega) (by omega)
  simp only [Qck, List.length_cons, Nat.succ_mul]
  have e : (2 : Nat) ^ 20 = 1048576 := by decide
  omega
theorem Qu3 (l : List Nat) (a : Option Addr) (lc : Nat) (w : World) (hr : RS w a l.length 1 (Qaq l)) :
  Does Tryz.prog 149 #[.slice a l.length lc] w fun v w' => w' = w /\ v = .int .i64 (sumS l : Nat) := by
 generalize hres : sumS l = res
 unfold sumS at hres
 refine Qak (args := [.slice a l.length lc]) 33 Tryz.func149 rfl rfl (of_decide_eq_true rfl) ?_
 simp only [Env.ofArgs]
 generalize hn : l.length = n at *
 refine VR [0] rfl rfl fun K hK => ?_;simp only [go_sem,↓reduceIte,reduceEqDiff]
 (refine hK _ _ ?_;clear hK)
 refine VR [0, 13] rfl rfl fun K hK => ?_;simp only [go_sem,↓reduceIte,reduceEqDiff]
 suffices out : ∀ b : Bool, (b = true ↔ (n < 2 ∨ 258 < n)) -> K [(0, .slice a n lc), (13, .bool b)] w by (repeat' (first | exact out _ _ (by first | omega | (simp;done) | (simp;omega)) | exact out _ (by first | omega | (simp;done) | (simp;omega)) | refine ⟨fun _ => ?_, fun _ => ?_⟩ | refine And.intro (by omega) ?_))
 intro b hb
 (refine hK _ _ ?_;clear hK)
 refine Qab rfl rfl (fun h => ?_) (fun h => Qaf ?_)
 ·
  rw [if_pos (hb.1 h)] at hres
  subst hres
  refine VR [2] rfl rfl fun K hK => ?_;simp only [go_sem,↓reduceIte,reduceEqDiff]
  (refine hK _ _ ?_;clear hK)
  exact Qan (Qax rfl rfl ⟨rfl, rfl⟩)
 have hg : ¬ (n < 2 ∨ 258 < n) := fun h2 => by have := hb.2 h2;simp_all
 rw [if_neg hg] at hres
 clear hb h
 obtain ⟨p, rfl⟩ := Qcx hr (by omega)
 refine VR [0, 3] rfl rfl fun K hK => ?_;simp only [go_sem,↓reduceIte,reduceEqDiff]
 (refine hK _ _ ?_;clear hK)
 refine VR [3, 14, 15, 16] rfl rfl fun K hK => ?_;simp only [go_sem,↓reduceIte,reduceEqDiff]
 (refine hK _ _ ?_;clear hK)
 refine Qad ?_
 refine Qam [3, 14, 15, 16] (fun m e w' => ∃ (i : Nat), Is e [(3, .int .i64 (Qck (l.take i) : Nat)), (14, .slice (some p) n lc), (15, .int .i64 n), (16, .int .i64 i)] /\ Is w' w /\ i <= n /\ (l.take i).all (fun x => decide (1 <= x) && decide (x <= 20)) = true /\ m = n - i) n ?_ ?_
 ·
  simp only [go_sem,↓reduceIte,reduceEqDiff]
  exact ⟨0, rfl, rfl, by omega, by simp, rfl⟩
 rintro m e w' ⟨i, rfl, rfl, hi, hall, rfl⟩
 refine VR [3, 14, 15, 16, 17] rfl rfl fun K hK => ?_;simp only [go_sem,↓reduceIte,reduceEqDiff]
 (refine hK _ _ ?_;clear hK)
 (repeat refine Qai ?_)
 refine Qab rfl rfl (fun h => ?_) (fun h => ?_)
 ·
  simp only [decide_eq_true_eq] at h
  have hcell := Qda hr (i := i) (by omega)
  have htk := Qd2 0 (l := l) (i := i) (by omega)
  have hks := Qu2 (l.take i) (l.getD i 0)
  rw [<- htk] at hks
  have hmem := Qbs 0 (l := l) (i := i) (by omega)
  have hkl := QA4 (l.take i)
  have hlt : (l.take i).length <= 258 := by rw [List.length_take];omega
  generalize hx : l.getD i 0 = x at *
  refine Qaf ?_
  ((repeat refine Qai ?_);refine Qad ?_)
  refine VR [3, 5, 14, 15, 16] rfl rfl fun K hK => ?_;simp only [go_sem,↓reduceIte,reduceEqDiff]
  refine ⟨⟨by omega, by omega⟩, _, hcell, ?_⟩
  (refine hK _ _ ?_;clear hK)
  refine VR [3, 5, 14, 15, 16, 25] rfl rfl fun K hK => ?_;simp only [go_sem,↓reduceIte,reduceEqDiff]
  suffices out : ∀ b : Bool, (b = true ↔ (x < 1 ∨ 20 < x)) -> K [(3, .int .i64 (Qck (l.take i) : Nat)), (5, .int .i64 x), (14, .slice (some p) n lc), (15, .int .i64 n), (16, .int .i64 i), (25, .bool b)] w' by (repeat' (first | exact out _ _ (by first | omega | (simp;done) | (simp;omega)) | exact out _ (by first | omega | (simp;done) | (simp;omega)) | refine ⟨fun _ => ?_, fun _ => ?_⟩ | refine And.intro (by omega) ?_))
  intro b hb
  (refine hK _ _ ?_;clear hK)
  refine Qab rfl rfl (fun h => ?_) (fun h => Qaf ?_)
  ·
   have hb1 := hb.1 h
   have : l.all (fun x => decide (1 <= x) && decide (x <= 20)) = false := by
    rw [List.all_eq_false]
    exact ⟨x, hmem, by simp;omega⟩
   rw [this, if_neg (by simp)] at hres
   subst hres
   refine VR [2] rfl rfl fun K hK => ?_;simp only [go_sem,↓reduceIte,reduceEqDiff]
   (refine hK _ _ ?_;clear hK)
   exact Qan (Qax rfl rfl ⟨rfl, rfl⟩)
  have hg2 : ¬ (x < 1 ∨ 20 < x) := fun h2 => by have := hb.2 h2;simp_all
  clear hb h
  have hsh : shN IntKind.i64 (20 - (x : Int)) = 20 - x := Qo8 (by omega) (by simp [IntKind.bits];omega)
  have hp2 : 2 ^ (20 - x) <= 2 ^ 20 := Nat.pow_le_pow_right (by omega) (by omega)
  have hp3 : 2 ^ (20 - x) <= 1048576 := hp2
  have hp : (1 : Int) * 2 ^ (20 - x) = ((2 ^ (20 - x) : Nat) : Int) := by push_cast;exact Int.one_mul _
  refine VR [3, 14, 15, 16] rfl rfl fun K hK => ?_;simp only [go_sem,↓reduceIte,reduceEqDiff]
  rw [hsh, hp]
  clear hp hp2 hsh
  generalize 2 ^ (20 - x) = pw at *
  (repeat first | refine And.intro (by omega) ?_ | refine ⟨⟨by omega, by omega⟩, ?_⟩)
  rw [show ((Qck (l.take i) : Nat) : Int) + pw = ((Qck (l.take (i + 1)) : Nat) : Int) by rw [hks];omega]
  (refine hK _ _ ?_;clear hK)
  refine Qav ?_
  refine VR [3, 14, 15, 16] rfl rfl fun K hK => ?_;simp only [go_sem,↓reduceIte,reduceEqDiff]
  ((repeat refine And.intro (by omega) ?_);refine hK _ _ ?_;clear hK)
  refine Qah ?_
  simp only [go_sem,↓reduceIte,reduceEqDiff]
  refine ⟨n - (i + 1), by omega, i + 1, rfl, rfl, by omega, ?_, rfl⟩
  rw [htk, List.all_append, hall]
  simp;omega
 ·
  simp only [decide_eq_false_iff_not] at h
  obtain rfl : i = n := by omega
  rw [List.take_of_length_le (by omega)] at hall ⊢
  rw [if_pos hall] at hres
  refine Qap rfl ?_
  refine VR [2] rfl rfl fun K hK => ?_;simp only [go_sem,↓reduceIte,reduceEqDiff]
  (refine hK _ _ ?_;clear hK)
  exact Qan (Qax rfl rfl ⟨rfl, by rw [hres]⟩)
theorem QIq (l : List Nat) : okLB l = true ↔ ¬ (sumS l = 0 ∨ 1048576 < sumS l) := by
 unfold sumS okLB
 by_cases h1 : l.length < 2 ∨ 258 < l.length
 ·
  rw [if_pos h1];simp;omega
 ·
  rw [if_neg h1]
  cases h2 : l.all (fun x => decide (1 <= x) && decide (x <= 20)) with
  | false => simp
  | true =>
   have hpos : 0 < Qck l := by
    cases l with
    | nil => simp at h1
    | cons x l => have := Nat.two_pow_pos (20 - x);simp only [Qck];omega
   simp;omega
theorem Qhd (l : List Nat) (a : Option Addr) (lc : Nat) (w : World) (hr : RS w a l.length 1 (Qaq l)) :
  Does Tryz.prog 103 #[.slice a l.length lc] w fun v w' => w' = w /\ v = .int .i64 (if okLB l = true then 0 else 80) := by
 have hc := Qu3 l a lc w hr
 have hs := QIq l
 refine Qak (args := [.slice a l.length lc]) 12 Tryz.func103 rfl rfl (of_decide_eq_true rfl) ?_
 simp only [Env.ofArgs]
 generalize sumS l = n at *
 refine VR [0] rfl rfl fun K hK => ?_;simp only [go_sem,↓reduceIte,reduceEqDiff]
 (refine hK _ _ ?_;clear hK)
 refine VR [3] rfl rfl fun K hK => ?_;simp only [go_sem,↓reduceIte,reduceEqDiff]
 refine Qag Tryz.call149 ?_;simp only [go_sem,↓reduceIte,reduceEqDiff];refine CallK.mk hc ?_
 rintro v w2 ⟨rfl, rfl⟩
 (refine hK _ _ ?_;clear hK)
 refine VR [11] rfl rfl fun K hK => ?_;simp only [go_sem,↓reduceIte,reduceEqDiff]
 suffices out : ∀ b : Bool, (b = true ↔ (n = 0 ∨ 1048576 < n)) -> K [(11, .bool b)] w2 by (repeat' (first | exact out _ _ (by first | omega | (simp;done) | (simp;omega)) | exact out _ (by first | omega | (simp;done) | (simp;omega)) | refine ⟨fun _ => ?_, fun _ => ?_⟩ | refine And.intro (by omega) ?_))
 intro b hb
 (refine hK _ _ ?_;clear hK)
 refine Qab rfl rfl (fun h => ?_) (fun h => Qaf ?_)
 ·
  have h2 := hb.1 h
  refine VR [2] rfl rfl fun K hK => ?_;simp only [go_sem,↓reduceIte,reduceEqDiff]
  (refine hK _ _ ?_;clear hK)
  exact Qan (Qax rfl rfl ⟨rfl, by rw [if_neg (fun h3 => hs.1 h3 h2)]⟩)
 have hg : ¬ (n = 0 ∨ 1048576 < n) := fun h2 => by have := hb.2 h2;simp_all
 refine VR [2] rfl rfl fun K hK => ?_;simp only [go_sem,↓reduceIte,reduceEqDiff]
 (refine hK _ _ ?_;clear hK)
 exact Qan (Qax rfl rfl ⟨rfl, by rw [if_pos (hs.2 hg)]⟩)
theorem QD9 {P : Program} {w : World} {a : Option Addr} {n c : Nat} {l : List Nat} {T E : TypeId} (h : RS w a n 1 (Qaq l)) (hu : P.underlying T = some (.slice E)) : Src P w (.slice a n c) T 1 n (Qaq l) := ⟨rfl, h, E, hu⟩
theorem QIr {w : World} {KV : Value -> Prop} (a : Option Addr) (n c n' c' : Nat) (xo yo : Operand) : Qbr Tryz.prog .eql 36 xo yo (.slice a n c) (.slice none n' c') w KV = KV (.bool a.isNone) := QD7 Tryz.underlying36 a n c n' c' xo yo
attribute [go_sem] QIr
theorem Qyk (l : List Nat) (hl : 0 < l.length) (hs : l.length <= 1000000000) (a : Option Addr) (lc : Nat) (w : World) (hr : RS w a l.length 1 (Qaq l)) :
  Does Tryz.prog 161 #[.slice a l.length lc] w fun v w' => ∃ a' cap, Heap w [] w' [Res.row 3 1 a' l.length cap (Qaq l)] /\ v = .slice a' l.length cap := by
 obtain ⟨p, rfl⟩ := Qcx hr (by omega)
 refine Qak (args := [.slice (some p) l.length lc]) 8 Tryz.func161 rfl rfl (of_decide_eq_true rfl) ?_
 simp only [Env.ofArgs]
 refine VR [0] rfl rfl fun K hK => ?_;simp only [go_sem,↓reduceIte,reduceEqDiff]
 (refine hK _ _ ?_;clear hK)
 refine VR [0, 4] rfl rfl fun K hK => ?_;simp only [go_sem,↓reduceIte,reduceEqDiff]
 (refine hK _ _ ?_;clear hK)
 refine Qab rfl rfl (fun h => by simp at h) (fun h => Qaf ?_)
 refine VR [2] rfl rfl fun K hK => ?_;simp only [go_sem,↓reduceIte,reduceEqDiff]
 have hS := Heap.start w
 refine Qfn hS (Qaq []) (xs := []) Tryz.underlying36 sz3 rfl rfl rfl (by omega) ?_;simp only [go_sem,↓reduceIte,reduceEqDiff];refine ⟨rfl, by simp [Value.cells], fun g w4 hH2 => ?_⟩;(try simp only [go_sem,↓reduceIte,reduceEqDiff])
 refine Qa6 ?_
 simp only [go_sem,↓reduceIte,reduceEqDiff]
 refine Qd8 hH2 0 rfl Tryz.underlying36 zi3 rfl (QD9 (hH2.rs' hr) Tryz.underlying36) (Qf9 _) (fun h => by omega) fun a' cap' w5 hc' hH4 => ?_
 simp only [go_sem,↓reduceIte,reduceEqDiff]
 (refine hK _ _ ?_;clear hK)
 exact Qan (Qax rfl rfl ⟨a', cap', by simpa [Qaq] using hH4, by simp⟩)
def wr (g : Nat) (a : Option Addr) (cap : Nat) (l : List Bool) : Res :=
 Res.pair (Res.blk g 123 [.slice a (Qby l).length cap, .int .i64 l.length]) (Res.row 5 1 a (Qby l).length cap (Qao (Qby l)))
theorem Qdq (w : World) : Does Tryz.prog 35 #[] w fun v w' => ∃ g, Heap w [] w' [wr g none 0 []] /\ v = .pointer (some ⟨g, 0, none⟩) := by
 refine Qak (args := []) 3 Tryz.func35 rfl rfl (of_decide_eq_true rfl) ?_
 simp only [Env.ofArgs]
 refine VR [] rfl rfl fun K hK => ?_;simp only [go_sem,↓reduceIte,reduceEqDiff]
 (refine hK _ _ ?_;clear hK)
 refine VR [0] rfl rfl fun K hK => ?_;simp only [go_sem,↓reduceIte,reduceEqDiff]
 refine Qcg ?_
 simp only [go_sem,↓reduceIte,reduceEqDiff]
 have hH := (Qmg (w := w) (E := 5) (sz := 1)).box 123 [.slice none 0 0, .int .i64 0]
 generalize w.alloc (Obj.cells [Value.slice none 0 0, .int .i64 0].toArray 123) = w1 at *
 (refine hK _ _ ?_;clear hK)
 refine Qan (Qax rfl rfl ?_)
 exact ⟨_, hH.pair, rfl⟩
theorem Qc4 (g : Nat) (a : Option Addr) (cap : Nat) (l : List Bool) (v : Nat) (n : Nat) (w : World) (hn : n <= 64) (hv : v < 2 ^ n) (hl : l.length <= 100000000000000)
  (hL : Heap w (wr g a cap l).foot w [wr g a cap l]) : Does Tryz.prog 36 #[.pointer (some ⟨g, 0, none⟩), .int .u64 v, .int .i64 n] w fun x w' => ∃ a' cap', Heap w (wr g a cap l).foot w' [wr g a' cap' (l ++ Qbh n v)] /\ x = .int .i64 0 := by
 have hv64 : v < 18446744073709551616 := Nat.lt_of_lt_of_le hv (Nat.pow_le_pow_right (n := 2) (by omega) hn)
 have hdiv : v / 2 ^ n = 0 := Nat.div_eq_of_lt hv
 refine Qak (args := [.pointer (some ⟨g, 0, none⟩), .int .u64 v, .int .i64 n]) 81 Tryz.func36 rfl rfl (of_decide_eq_true rfl) ?_
 simp only [Env.ofArgs]
 refine VR [0, 1, 2] rfl rfl fun K hK => ?_;simp only [go_sem,↓reduceIte,reduceEqDiff]
 (refine hK _ _ ?_;clear hK)
 refine VR [0, 1, 2, 9] rfl rfl fun K hK => ?_;simp only [go_sem,↓reduceIte,reduceEqDiff]
 (refine hK _ _ ?_;clear hK)
 refine Qab rfl rfl (fun h => by cases h) (fun h => Qaf ?_)
 refine VR [0, 1, 2, 26] rfl rfl fun K hK => ?_;simp only [go_sem,↓reduceIte,reduceEqDiff]
 have hsh : shN IntKind.u64 ((n : Int) % 18446744073709551616) = n := by
  rw [Int.emod_eq_of_lt (by omega) (by omega), shN, show IntKind.u64.bits = 64 from rfl];omega
 have hdv : (v : Int) / 2 ^ n = 0 := by
  have e : ((2 : Int) ^ n) = ((2 ^ n : Nat) : Int) := by push_cast;rfl
  rw [e, <- Int.natCast_ediv, hdiv];rfl
 rw [hsh, hdv]
 suffices out : ∀ b : Bool, (b = true ↔ False) -> K [(0, .pointer (some ⟨g, 0, none⟩)), (1, .int .u64 v), (2, .int .i64 n), (26, .bool b)] w by (repeat' (first | exact out _ _ (by first | omega | (simp;done) | (simp;omega)) | exact out _ (by first | omega | (simp;done) | (simp;omega)) | refine ⟨fun _ => ?_, fun _ => ?_⟩ | refine And.intro (by omega) ?_))
 intro b hb
 (refine hK _ _ ?_;clear hK)
 refine Qab rfl rfl (fun h => (hb.1 h).elim) (fun h => Qaf ?_)
 refine VR [0, 1, 7] rfl rfl fun K hK => ?_;simp only [go_sem,↓reduceIte,reduceEqDiff]
 ((repeat refine And.intro (by omega) ?_);refine hK _ _ ?_;clear hK)
 ((repeat refine Qai ?_);refine Qad ?_)
 refine Qam [0, 1, 7] (fun m e w' => ∃ (k : Nat) (i : Int) (a' : Option Addr) (cap' : Nat), Is e [(0, .pointer (some ⟨g, 0, none⟩)), (1, .int .u64 v), (7, .int .i64 i)] /\ Heap w (wr g a cap l).foot w' [wr g a' cap' (l ++ (Qbh n v).take k)] /\ k <= n /\ i = (n : Int) - 1 - k /\ m = n - k) n ?_ ?_
 ·
  simp only [go_sem,↓reduceIte,reduceEqDiff]
  exact ⟨0, _, a, cap, rfl, by simpa using hL, by omega, by omega, rfl⟩
 rintro m e w1 ⟨k, i, a1, cap1, rfl, hH, hk, hi, rfl⟩
 refine VR [0, 1, 7, 30] rfl rfl fun K hK => ?_;simp only [go_sem,↓reduceIte,reduceEqDiff]
 (refine hK _ _ ?_;clear hK)
 refine Qab rfl rfl (fun h => ?_) (fun h => ?_)
 ·
  simp only [decide_eq_true_eq] at h
  refine Qaf ?_
  ((repeat refine Qai ?_);refine Qad ?_)
  have htk := Qm0 n v k (by omega)
  have hlen : (l ++ (Qbh n v).take k).length = l.length + k := by rw [List.length_append, List.length_take, Qaw];omega
  generalize hl1 : l ++ (Qbh n v).take k = l1 at *
  have htl := Qcb l1
  have hH1 := hH.unpair
  refine VR [0, 1, 7, 38] rfl rfl fun K hK => ?_;simp only [go_sem,↓reduceIte,reduceEqDiff]
  (repeat (first | refine And.intro (by omega) ?_ | refine ⟨⟨by omega, by omega⟩, ?_⟩ | (refine ⟨_, (by first | exact Qac (hH1.at 0 rfl) rfl | exact Qaa (hH1.at 0 rfl) (bytesV_get (by omega)) | exact Qaa (hH1.at 0 rfl) (Qaj (by omega)) | exact Qac (hH1.at 1 rfl) rfl | exact Qaa (hH1.at 1 rfl) (bytesV_get (by omega)) | exact Qaa (hH1.at 1 rfl) (Qaj (by omega)) | exact Qac (hH1.at 2 rfl) rfl | exact Qaa (hH1.at 2 rfl) (bytesV_get (by omega)) | exact Qaa (hH1.at 2 rfl) (Qaj (by omega)) | exact Qac (hH1.at 3 rfl) rfl | exact Qaa (hH1.at 3 rfl) (bytesV_get (by omega)) | exact Qaa (hH1.at 3 rfl) (Qaj (by omega))), ?_⟩;(try simp only [go_sem,↓reduceIte,reduceEqDiff]))))
  (refine hK _ _ ?_;clear hK)
  (repeat refine Qai ?_)
  refine Qdf [0, 1, 7] (fun e w' => ∃ a2 cap2, Is e [(0, .pointer (some ⟨g, 0, none⟩)), (1, .int .u64 v), (7, .int .i64 i)] /\ Heap w (wr g a cap l).foot w' [Res.row 5 1 a2 (Qby (l1 ++ [false])).length cap2 (Qao (Qby (l1 ++ [false]))), Res.blk g 123 [.slice a2 (Qby (l1 ++ [false])).length cap2, .int .i64 l1.length]]) ?_ ?_
  ·
   refine Qab rfl rfl (fun h => ?_) (fun h => Qaf ?_)
   ·
    simp only [decide_eq_true_eq] at h
    have e1 : Qby (l1 ++ [false]) = Qby l1 ++ [0] := by rw [Qmz, if_pos (by omega)]
    refine VR [0, 1, 7] rfl rfl fun K hK => ?_;simp only [go_sem,↓reduceIte,reduceEqDiff]
    (repeat (first | refine And.intro (by omega) ?_ | refine ⟨⟨by omega, by omega⟩, ?_⟩ | (refine ⟨_, (by first | exact Qac (hH1.at 0 rfl) rfl | exact Qaa (hH1.at 0 rfl) (bytesV_get (by omega)) | exact Qaa (hH1.at 0 rfl) (Qaj (by omega)) | exact Qac (hH1.at 1 rfl) rfl | exact Qaa (hH1.at 1 rfl) (bytesV_get (by omega)) | exact Qaa (hH1.at 1 rfl) (Qaj (by omega)) | exact Qac (hH1.at 2 rfl) rfl | exact Qaa (hH1.at 2 rfl) (bytesV_get (by omega)) | exact Qaa (hH1.at 2 rfl) (Qaj (by omega)) | exact Qac (hH1.at 3 rfl) rfl | exact Qaa (hH1.at 3 rfl) (bytesV_get (by omega)) | exact Qaa (hH1.at 3 rfl) (Qaj (by omega))), ?_⟩;(try simp only [go_sem,↓reduceIte,reduceEqDiff]))))
    refine Qc3 (xs := [.const (.int .u8 0)]) Tryz.underlying43 sz5 rfl rfl rfl (by omega) ?_;simp only [go_sem,↓reduceIte,reduceEqDiff];refine ⟨by simp [Value.cells], ?_⟩
    refine Qa6 ?_;simp only [go_sem,↓reduceIte,reduceEqDiff];refine Qg0 hH1 1 (0) rfl Tryz.underlying43 zi5 (by first | rfl | (simp;done) | omega) (fun h => by (first | omega | (simp;done) | (simp;omega))) fun a' cap' w5 hc' hH2 => ?_;(try simp only [go_sem,↓reduceIte,reduceEqDiff])
    rw [<- e1] at hH2 ⊢
    refine Qae ?_;simp only [go_sem,↓reduceIte,reduceEqDiff];refine Qal hH2 0 (vs := [.slice a' (Qby (l1 ++ [false])).length cap']) rfl rfl (by kernel_rfl) (by first | decide | (simp;done) | (simp;omega)) (by simp [Value.oneCell']) fun w6 hH3 => ?_;(try simp only [go_sem,↓reduceIte,reduceEqDiff])
    (refine hK _ _ ?_;clear hK)
    refine Qah ?_
    simp only [go_sem,↓reduceIte,reduceEqDiff]
    exact ⟨_, _, rfl, hH3.perm (List.Perm.swap _ _ _)⟩
   ·
    simp only [decide_eq_false_iff_not] at h
    have e1 : Qby (l1 ++ [false]) = Qby l1 := by rw [Qmz, if_neg (by omega)]
    rw [e1]
    refine Qah ?_
    simp only [go_sem,↓reduceIte,reduceEqDiff]
    exact ⟨_, _, rfl, hH1.perm (List.Perm.swap _ _ _)⟩
  clear hH hH1
  rintro e w2 ⟨a2, cap2, rfl, hH⟩
  generalize hb : v.testBit (n - 1 - k) = b at htk
  have hi2 : i = ((n - 1 - k : Nat) : Int) := by omega
  have hsh2 : shN IntKind.u64 (i % 18446744073709551616) = n - 1 - k := by
   rw [hi2, Int.emod_eq_of_lt (by omega) (by omega), shN, show IntKind.u64.bits = 64 from rfl];omega
  have hsh3 : (v : Int) / 2 ^ (n - 1 - k) = ((v / 2 ^ (n - 1 - k) : Nat) : Int) := by
   rw [Int.natCast_ediv];push_cast;rfl
  have hle : v / 2 ^ (n - 1 - k) <= v := Nat.div_le_self _ _
  have hbit := Qjd v (n - 1 - k)
  rw [hb] at hbit
  refine VR [0, 1, 7, 53] rfl rfl fun K hK => ?_;simp only [go_sem,↓reduceIte,reduceEqDiff]
  rw [hsh2, hsh3]
  clear hsh3
  generalize v / 2 ^ (n - 1 - k) = q at *
  (repeat (first | refine And.intro (by omega) ?_ | refine ⟨⟨by omega, by omega⟩, ?_⟩ | (refine ⟨_, (by first | exact Qac (hH.at 0 rfl) rfl | exact Qaa (hH.at 0 rfl) (bytesV_get (by omega)) | exact Qaa (hH.at 0 rfl) (Qaj (by omega)) | exact Qac (hH.at 1 rfl) rfl | exact Qaa (hH.at 1 rfl) (bytesV_get (by omega)) | exact Qaa (hH.at 1 rfl) (Qaj (by omega)) | exact Qac (hH.at 2 rfl) rfl | exact Qaa (hH.at 2 rfl) (bytesV_get (by omega)) | exact Qaa (hH.at 2 rfl) (Qaj (by omega)) | exact Qac (hH.at 3 rfl) rfl | exact Qaa (hH.at 3 rfl) (bytesV_get (by omega)) | exact Qaa (hH.at 3 rfl) (Qaj (by omega))), ?_⟩;(try simp only [go_sem,↓reduceIte,reduceEqDiff]))))
  rw [show Int.toNat 1 = 1 from rfl, Int.toNat_natCast, Nat.and_one_is_mod, hbit]
  (refine hK _ _ ?_;clear hK)
  (repeat refine Qai ?_)
  refine Qdf [0, 1, 7] (fun e w' => Is e [(0, .pointer (some ⟨g, 0, none⟩)), (1, .int .u64 v), (7, .int .i64 i)] /\ Heap w (wr g a cap l).foot w' [Res.row 5 1 a2 (Qby (l1 ++ [b])).length cap2 (Qao (Qby (l1 ++ [b]))), Res.blk g 123 [.slice a2 (Qby (l1 ++ [b])).length cap2, .int .i64 l1.length]]) ?_ ?_
  ·
   cases b with
   | false =>
    refine Qab rfl rfl (fun h => by simp at h) (fun h => Qaf ?_)
    refine Qah ?_
    simp only [go_sem,↓reduceIte,reduceEqDiff]
    exact ⟨rfl, hH⟩
   | true =>
    refine Qab rfl rfl (fun h => ?_) (fun h => by simp at h)
    have hol : (Qby (l1 ++ [false])).length = (l1.length + 8) / 8 := by rw [Qcb, List.length_append];rfl
    have hlen2 : (Qby (l1 ++ [true])).length = (Qby (l1 ++ [false])).length := by rw [Qcb, Qcb];simp
    have htrue := Qxq l1
    generalize Qby (l1 ++ [true]) = o2 at *
    generalize Qby (l1 ++ [false]) = o at *
    obtain ⟨ga, rfl⟩ := Qfs (hH.at 0 rfl) (by omega)
    have hsh4 : shN IntKind.u8 (((l1.length : Int) % 8) % 18446744073709551616) = l1.length % 8 := Qyd (by omega) (by simp [IntKind.bits];omega) (by decide)
    (repeat refine Qai ?_);refine Qa8 [0, 1, 7] 20 (by kernel_rfl) (by kernel_rfl) (by kernel_rfl) rfl fun K hK => ?_;simp only [go_sem,↓reduceIte,reduceEqDiff]
    (repeat (first | refine And.intro (by omega) ?_ | refine ⟨⟨by omega, by omega⟩, ?_⟩ | (refine ⟨_, (by first | exact Qac (hH.at 0 rfl) rfl | exact Qaa (hH.at 0 rfl) (bytesV_get (by omega)) | exact Qaa (hH.at 0 rfl) (Qaj (by omega)) | exact Qac (hH.at 1 rfl) rfl | exact Qaa (hH.at 1 rfl) (bytesV_get (by omega)) | exact Qaa (hH.at 1 rfl) (Qaj (by omega)) | exact Qac (hH.at 2 rfl) rfl | exact Qaa (hH.at 2 rfl) (bytesV_get (by omega)) | exact Qaa (hH.at 2 rfl) (Qaj (by omega)) | exact Qac (hH.at 3 rfl) rfl | exact Qaa (hH.at 3 rfl) (bytesV_get (by omega)) | exact Qaa (hH.at 3 rfl) (Qaj (by omega))), ?_⟩;(try simp only [go_sem,↓reduceIte,reduceEqDiff]))))
    have e1 : ((l1.length : Int) / 8).toNat = l1.length / 8 := by omega
    rw [hsh4, e1, show (128 : Int) / 2 ^ (l1.length % 8) = ((128 / 2 ^ (l1.length % 8) : Nat) : Int) from Qgh 128 _]
    have hm128 : 128 / 2 ^ (l1.length % 8) <= 128 := Nat.div_le_self _ _
    have hx256 := (o.getD (l1.length / 8) 0).toNat_lt
    generalize hmm : 128 / 2 ^ (l1.length % 8) = mm at *
    have hy : (UInt8.ofNat ((o.getD (l1.length / 8) 0).toNat ||| mm)).toNat = (o.getD (l1.length / 8) 0).toNat ||| mm :=
     Qjc (Nat.or_lt_two_pow (n := 8) hx256 (by omega))
    have ho2 := htrue _ hy
    rw [Int.toNat_natCast, <- hy]
    generalize (UInt8.ofNat ((o.getD (l1.length / 8) 0).toNat ||| mm)) = y at *
    refine ⟨⟨by omega, by omega⟩, ⟨by omega, by omega⟩, ⟨by omega, by omega⟩, ?_⟩
    refine Qae ?_;simp only [go_sem,↓reduceIte,reduceEqDiff];refine Qbd hH 0 (o := (l1.length / 8)) (vs := [.int .u8 y.toNat]) rfl (by first | exact (Qbp _ _ _).symm | rfl | simp [Qbp]) rfl (by kernel_rfl) (by first | omega | (simp;omega) | (simp [Qao, Qbm];omega) | (rw [natsV_len];simp;omega)) (by simp [Value.oneCell']) fun w6 hH2 => ?_;(try simp only [go_sem,↓reduceIte,reduceEqDiff])
    simp only [List.length_singleton, Qb1 (Qao o) _ _ (show l1.length / 8 < (Qao o).length by rw [Qeq];omega), Qg1, <- ho2, List.set_cons_zero] at hH2
    (refine hK _ _ ?_;clear hK)
    refine Qah ?_
    simp only [go_sem,↓reduceIte,reduceEqDiff]
    rw [hlen2]
    exact ⟨rfl, hH2⟩
  clear hH
  rintro e w3 ⟨rfl, hH⟩
  refine VR [0, 1, 7] rfl rfl fun K hK => ?_;simp only [go_sem,↓reduceIte,reduceEqDiff]
  (repeat (first | refine And.intro (by omega) ?_ | refine ⟨⟨by omega, by omega⟩, ?_⟩ | (refine ⟨_, (by first | exact Qac (hH.at 0 rfl) rfl | exact Qaa (hH.at 0 rfl) (bytesV_get (by omega)) | exact Qaa (hH.at 0 rfl) (Qaj (by omega)) | exact Qac (hH.at 1 rfl) rfl | exact Qaa (hH.at 1 rfl) (bytesV_get (by omega)) | exact Qaa (hH.at 1 rfl) (Qaj (by omega)) | exact Qac (hH.at 2 rfl) rfl | exact Qaa (hH.at 2 rfl) (bytesV_get (by omega)) | exact Qaa (hH.at 2 rfl) (Qaj (by omega)) | exact Qac (hH.at 3 rfl) rfl | exact Qaa (hH.at 3 rfl) (bytesV_get (by omega)) | exact Qaa (hH.at 3 rfl) (Qaj (by omega))), ?_⟩;(try simp only [go_sem,↓reduceIte,reduceEqDiff]))))
  refine Qae ?_;simp only [go_sem,↓reduceIte,reduceEqDiff];refine Qal hH 1 (vs := [.int .i64 (l1.length + 1)]) rfl rfl (by kernel_rfl) (by first | decide | (simp;done) | (simp;omega)) (by simp [Value.oneCell']) fun w6 hH2 => ?_;(try simp only [go_sem,↓reduceIte,reduceEqDiff])
  (refine hK _ _ ?_;clear hK)
  refine Qav ?_
  refine VR [0, 1, 7] rfl rfl fun K hK => ?_;simp only [go_sem,↓reduceIte,reduceEqDiff]
  ((repeat refine And.intro (by omega) ?_);refine hK _ _ ?_;clear hK)
  refine Qah ?_
  simp only [go_sem,↓reduceIte,reduceEqDiff]
  refine ⟨n - (k + 1), by omega, k + 1, i - 1, a2, cap2, rfl, ?_, by omega, by omega, rfl⟩
  rw [htk, <- List.append_assoc, hl1]
  have hH3 := (hH2.perm (List.Perm.swap _ _ _)).pair
  have e : wr g a2 cap2 (l1 ++ [b]) = Res.pair (Res.blk g 123 [.slice a2 (Qby (l1 ++ [b])).length cap2, .int .i64 (l1.length + 1)]) (Res.row 5 1 a2 (Qby (l1 ++ [b])).length cap2 (Qao (Qby (l1 ++ [b])))) := by simp [wr]
  rw [e]
  exact hH3
 ·
  simp only [decide_eq_false_iff_not] at h
  refine Qap rfl ?_
  refine VR [6] rfl rfl fun K hK => ?_;simp only [go_sem,↓reduceIte,reduceEqDiff]
  (refine hK _ _ ?_;clear hK)
  refine Qan (Qax rfl rfl ?_)
  have e : (Qbh n v).take k = Qbh n v := List.take_of_length_le (by rw [Qaw];omega)
  rw [e] at hH
  exact ⟨_, _, hH, rfl⟩
theorem Qg2 (g : Nat) (a : Option Addr) (cap : Nat) (l : List Bool) (w : World) (hL : (wr g a cap l).holds w) :
  Does Tryz.prog 37 #[.pointer (some ⟨g, 0, none⟩)] w fun x w' => w' = w /\ x = Str (Qby l) := by
 obtain ⟨h1, h2, _⟩ := hL
 refine Qak (args := [.pointer (some ⟨g, 0, none⟩)]) 10 Tryz.func37 rfl rfl (of_decide_eq_true rfl) ?_
 simp only [Env.ofArgs]
 refine VR [0] rfl rfl fun K hK => ?_;simp only [go_sem,↓reduceIte,reduceEqDiff]
 (refine hK _ _ ?_;clear hK)
 refine VR [0, 4] rfl rfl fun K hK => ?_;simp only [go_sem,↓reduceIte,reduceEqDiff]
 (refine hK _ _ ?_;clear hK)
 refine Qab rfl rfl (fun h => by cases h) (fun h => Qaf ?_)
 refine VR [2] rfl rfl fun K hK => ?_;simp only [go_sem,↓reduceIte,reduceEqDiff]
 refine ⟨_, Qac h1 rfl, ?_⟩
 simp only [go_sem,↓reduceIte,reduceEqDiff]
 refine ⟨_, Qe4 (Qbo h2), ?_⟩
 (refine hK _ _ ?_;clear hK)
 exact Qan (Qax rfl rfl ⟨rfl, rfl⟩)
theorem Qir (g : Nat) (a : Option Addr) (cap : Nat) (l : List Bool) (w : World) (hL : (wr g a cap l).holds w) :
  Does Tryz.prog 38 #[.pointer (some ⟨g, 0, none⟩)] w fun x w' => w' = w /\ x = .int .i64 l.length := by
 obtain ⟨h1, h2, _⟩ := hL
 refine Qak (args := [.pointer (some ⟨g, 0, none⟩)]) 9 Tryz.func38 rfl rfl (of_decide_eq_true rfl) ?_
 simp only [Env.ofArgs]
 refine VR [0] rfl rfl fun K hK => ?_;simp only [go_sem,↓reduceIte,reduceEqDiff]
 (refine hK _ _ ?_;clear hK)
 refine VR [0, 4] rfl rfl fun K hK => ?_;simp only [go_sem,↓reduceIte,reduceEqDiff]
 (refine hK _ _ ?_;clear hK)
 refine Qab rfl rfl (fun h => by cases h) (fun h => Qaf ?_)
 refine VR [2] rfl rfl fun K hK => ?_;simp only [go_sem,↓reduceIte,reduceEqDiff]
 refine ⟨_, Qac h1 rfl, ?_⟩
 (refine hK _ _ ?_;clear hK)
 exact Qan (Qax rfl rfl ⟨rfl, rfl⟩)
def rd (g gs : Nat) (s : List UInt8) (at_ : Nat) : Res :=
 Res.pair (Res.blk g 179 [.func (.func 137) #[] #[.pointer (some ⟨gs, 0, none⟩)], .int .i64 at_, .int .i64 (8 * s.length : Nat)]) (Res.blk gs 9 [Str s])
theorem Qwz (s : List UInt8) (gs i : Nat) (w : World) (hi : i < 8 * s.length) (hs : s.length <= 1000000000000000000) (hc : w.cell? ⟨gs, 0, none⟩ = some (Str s)) :
  Does Tryz.prog 137 #[.int .i64 i, .pointer (some ⟨gs, 0, none⟩)] w fun x w' => w' = w /\ x = .int .u64 ((Qas s).getD i false).toNat := by
 have hb := Qkr s i hi
 have hlt := (s.getD (i / 8) 0).toNat_lt
 have e1 : ((i : Int) / 8).toNat = i / 8 := by omega
 have hsh : shN IntKind.u64 ((7 - (i : Int) % 8) % 18446744073709551616) = 7 - i % 8 := Qyd (by omega) (by simp [IntKind.bits];omega) (by decide)
 have hbit := Qjd (s.getD (i / 8) 0).toNat (7 - i % 8)
 refine Qak (args := [.int .i64 i, .pointer (some ⟨gs, 0, none⟩)]) 15 Tryz.func137 rfl rfl (of_decide_eq_true rfl) ?_
 simp only [Env.ofArgs]
 refine VR [0, 1] rfl rfl fun K hK => ?_;simp only [go_sem,↓reduceIte,reduceEqDiff]
 (refine hK _ _ ?_;clear hK)
 refine VR [3] rfl rfl fun K hK => ?_;simp only [go_sem,↓reduceIte,reduceEqDiff]
 refine ⟨_, hc, ?_⟩
 simp only [go_sem,↓reduceIte,reduceEqDiff]
 (repeat first | refine And.intro (by omega) ?_ | refine ⟨⟨by omega, by omega⟩, ?_⟩)
 rw [hsh, e1, Int.emod_eq_of_lt (by omega) (by omega), Qgh]
 have hle := Nat.div_le_self (s.getD (i / 8) 0).toNat (2 ^ (7 - i % 8))
 generalize (s.getD (i / 8) 0).toNat / 2 ^ (7 - i % 8) = q at *
 (repeat first | refine And.intro (by omega) ?_ | refine ⟨⟨by omega, by omega⟩, ?_⟩)
 rw [show Int.toNat 1 = 1 from rfl, Int.toNat_natCast, Nat.and_one_is_mod, hbit]
 (refine hK _ _ ?_;clear hK)
 have hb2 : (Qas s).getD i false = (s.getD (i / 8) 0).toNat.testBit (7 - i % 8) := by rw [List.getD_eq_getElem?_getD, hb];rfl
 rw [hb2]
 exact Qan (Qax rfl rfl ⟨rfl, rfl⟩)
theorem Qdr (s : List UInt8) (at_ : Int) (w : World) (ha : I64 at_) (hs : s.length <= 1000000000000000000) :
  Does Tryz.prog 86 #[Str s, .int .i64 at_] w fun v w' =>
   ((at_ < 0 ∨ 8 * (s.length : Int) < at_) /\ Heap w [] w' [] /\ v = .pointer none) ∨ (¬ (at_ < 0 ∨ 8 * (s.length : Int) < at_) /\ ∃ g gs, Heap w [] w' [rd g gs s at_.toNat] /\ v = .pointer (some ⟨g, 0, none⟩)) := by
 obtain ⟨ha1, ha2⟩ := ha
 refine Qak (args := [Str s, .int .i64 at_]) 21 Tryz.func86 rfl rfl (of_decide_eq_true rfl) ?_
 simp only [Env.ofArgs]
 refine VR [1, 2] rfl rfl fun K hK => ?_;simp only [go_sem,↓reduceIte,reduceEqDiff]
 refine Qcg ?_
 simp only [go_sem,↓reduceIte,reduceEqDiff]
 have hH := (Heap.start w).box 9 [Str s]
 generalize w.alloc (Obj.cells [Str s].toArray 9) = w1 at *
 generalize w.heap.size = gs at *
 (refine hK _ _ ?_;clear hK)
 refine VR [1, 2, 13] rfl rfl fun K hK => ?_;simp only [go_sem,↓reduceIte,reduceEqDiff]
 suffices out : ∀ b : Bool, (b = true ↔ at_ < 0 ∨ 8 * (s.length : Int) < at_) -> K [(1, .int .i64 at_), (2, .pointer (some ⟨gs, 0, none⟩)), (13, .bool b)] w1 by
  refine ⟨fun h => ⟨_, Qac (hH.at 0 rfl) rfl, ?_⟩, fun h => out _ (by simp [h])⟩
  simp only [go_sem,↓reduceIte,reduceEqDiff]
  (repeat' (first | exact out _ _ (by first | omega | (simp;done) | (simp;omega)) | exact out _ (by first | omega | (simp;done) | (simp;omega)) | refine ⟨fun _ => ?_, fun _ => ?_⟩ | refine And.intro (by omega) ?_))
 intro b hb
 (refine hK _ _ ?_;clear hK)
 refine Qab rfl rfl (fun h => ?_) (fun h => Qaf ?_)
 ·
  refine VR [4] rfl rfl fun K hK => ?_;simp only [go_sem,↓reduceIte,reduceEqDiff]
  (refine hK _ _ ?_;clear hK)
  exact Qan (Qax rfl rfl (.inl ⟨hb.1 h, hH.sub (by simp), rfl⟩))
 have hg : ¬ (at_ < 0 ∨ 8 * (s.length : Int) < at_) := fun h' => by rw [hb.2 h'] at h;cases h
 clear h hb
 obtain ⟨at_, rfl⟩ : ∃ n : Nat, at_ = n := ⟨at_.toNat, by omega⟩
 refine VR [4] rfl rfl fun K hK => ?_;simp only [go_sem,↓reduceIte,reduceEqDiff]
 (repeat (first | refine And.intro (by omega) ?_ | refine ⟨⟨by omega, by omega⟩, ?_⟩ | (refine ⟨_, (by first | exact Qac (hH.at 0 rfl) rfl | exact Qaa (hH.at 0 rfl) (bytesV_get (by omega)) | exact Qaa (hH.at 0 rfl) (Qaj (by omega)) | exact Qac (hH.at 1 rfl) rfl | exact Qaa (hH.at 1 rfl) (bytesV_get (by omega)) | exact Qaa (hH.at 1 rfl) (Qaj (by omega)) | exact Qac (hH.at 2 rfl) rfl | exact Qaa (hH.at 2 rfl) (bytesV_get (by omega)) | exact Qaa (hH.at 2 rfl) (Qaj (by omega)) | exact Qac (hH.at 3 rfl) rfl | exact Qaa (hH.at 3 rfl) (bytesV_get (by omega)) | exact Qaa (hH.at 3 rfl) (Qaj (by omega))), ?_⟩;(try simp only [go_sem,↓reduceIte,reduceEqDiff]))))
 refine Qcg ?_
 simp only [go_sem,↓reduceIte,reduceEqDiff]
 have hH2 := hH.box 179 [.func (.func 137) #[] #[.pointer (some ⟨gs, 0, none⟩)], .int .i64 at_, .int .i64 (8 * s.length : Nat)]
 (refine hK _ _ ?_;clear hK)
 refine Qan (Qax rfl rfl (.inr ⟨hg, _, gs, ?_, rfl⟩))
 exact hH2.pair
theorem Qnf (g gs at_ : Nat) (s : List UInt8) (w : World) (hL : (rd g gs s at_).holds w) :
  Does Tryz.prog 100 #[.pointer (some ⟨g, 0, none⟩)] w fun x w' => w' = w /\ x = .int .i64 at_ := by
 obtain ⟨h1, h2, _⟩ := hL
 refine Qak (args := [.pointer (some ⟨g, 0, none⟩)]) 9 Tryz.func100 rfl rfl (of_decide_eq_true rfl) ?_
 simp only [Env.ofArgs]
 refine VR [0] rfl rfl fun K hK => ?_;simp only [go_sem,↓reduceIte,reduceEqDiff]
 (refine hK _ _ ?_;clear hK)
 refine VR [0, 4] rfl rfl fun K hK => ?_;simp only [go_sem,↓reduceIte,reduceEqDiff]
 (refine hK _ _ ?_;clear hK)
 refine Qab rfl rfl (fun h => by cases h) (fun h => Qaf ?_)
 refine VR [2] rfl rfl fun K hK => ?_;simp only [go_sem,↓reduceIte,reduceEqDiff]
 refine ⟨_, Qac h1 rfl, ?_⟩
 (refine hK _ _ ?_;clear hK)
 exact Qan (Qax rfl rfl ⟨rfl, rfl⟩)
theorem Qes (g gs : Nat) (s : List UInt8) (at_ n : Nat) (w : World) (hn : n <= 64) (ha : at_ <= 8 * s.length) (hs : s.length <= 1000000000000000)
  (hL : Heap w (rd g gs s at_).foot w [rd g gs s at_]) : Does Tryz.prog 87 #[.pointer (some ⟨g, 0, none⟩), .int .i64 n] w fun x w' =>
   (8 * s.length < at_ + n /\ w' = w /\ x = .tuple #[.int .u64 0, .int .i64 10]) ∨ (at_ + n <= 8 * s.length /\ Heap w (rd g gs s at_).foot w' [rd g gs s (at_ + n)] /\ x = .tuple #[.int .u64 (numB (((Qas s).drop at_).take n)), .int .i64 0]) := by
 have hH := hL.unpair
 have hbl := Qbe s
 refine Qak (args := [.pointer (some ⟨g, 0, none⟩), .int .i64 n]) 62 Tryz.func87 rfl rfl (of_decide_eq_true rfl) ?_
 simp only [Env.ofArgs]
 refine VR [0, 1] rfl rfl fun K hK => ?_;simp only [go_sem,↓reduceIte,reduceEqDiff]
 (refine hK _ _ ?_;clear hK)
 refine VR [0, 1, 16] rfl rfl fun K hK => ?_;simp only [go_sem,↓reduceIte,reduceEqDiff]
 refine ⟨_, Qac (hH.at 0 rfl) rfl, ?_⟩
 simp only [go_sem,↓reduceIte,reduceEqDiff]
 (refine hK _ _ ?_;clear hK)
 refine Qab rfl rfl (fun h => by cases h) (fun h => Qaf ?_)
 refine VR [0, 1, 22] rfl rfl fun K hK => ?_;simp only [go_sem,↓reduceIte,reduceEqDiff]
 suffices out : ∀ b : Bool, (b = true ↔ False) -> K [(0, .pointer (some ⟨g, 0, none⟩)), (1, .int .i64 n), (22, .bool b)] w by (repeat' (first | exact out _ _ (by first | omega | (simp;done) | (simp;omega)) | exact out _ (by first | omega | (simp;done) | (simp;omega)) | refine ⟨fun _ => ?_, fun _ => ?_⟩ | refine And.intro (by omega) ?_))
 intro b hb
 (refine hK _ _ ?_;clear hK)
 refine Qab rfl rfl (fun h => (hb.1 h).elim) (fun h => Qaf ?_)
 clear hb h
 (repeat refine Qai ?_);refine Qcq [0, 1, 33] (by kernel_rfl) (by kernel_rfl) rfl fun K hK => ?_;simp only [go_sem,↓reduceIte,reduceEqDiff]
 (repeat (first | refine And.intro (by omega) ?_ | refine ⟨⟨by omega, by omega⟩, ?_⟩ | (refine ⟨_, (by first | exact Qac (hH.at 0 rfl) rfl | exact Qaa (hH.at 0 rfl) (bytesV_get (by omega)) | exact Qaa (hH.at 0 rfl) (Qaj (by omega)) | exact Qac (hH.at 1 rfl) rfl | exact Qaa (hH.at 1 rfl) (bytesV_get (by omega)) | exact Qaa (hH.at 1 rfl) (Qaj (by omega)) | exact Qac (hH.at 2 rfl) rfl | exact Qaa (hH.at 2 rfl) (bytesV_get (by omega)) | exact Qaa (hH.at 2 rfl) (Qaj (by omega)) | exact Qac (hH.at 3 rfl) rfl | exact Qaa (hH.at 3 rfl) (bytesV_get (by omega)) | exact Qaa (hH.at 3 rfl) (Qaj (by omega))), ?_⟩;(try simp only [go_sem,↓reduceIte,reduceEqDiff]))))
 (refine hK _ ?_;clear hK)
 refine Qab rfl rfl (fun h => ?_) (fun h => Qaf ?_)
 ·
  simp only [decide_eq_true_eq] at h
  refine VR [4, 5] rfl rfl fun K hK => ?_;simp only [go_sem,↓reduceIte,reduceEqDiff]
  (refine hK _ _ ?_;clear hK)
  exact Qan (Qa9 rfl rfl rfl (.inl ⟨by omega, rfl, rfl⟩))
 simp only [decide_eq_false_iff_not] at h
 refine VR [0, 1, 6] rfl rfl fun K hK => ?_;simp only [go_sem,↓reduceIte,reduceEqDiff]
 (refine hK _ _ ?_;clear hK)
 refine VR [0, 1, 6, 34, 35] rfl rfl fun K hK => ?_;simp only [go_sem,↓reduceIte,reduceEqDiff]
 (refine hK _ _ ?_;clear hK)
 ((repeat refine Qai ?_);refine Qad ?_)
 refine Qam [0, 1, 6, 34, 35] (fun m e w' => ∃ (k : Nat), Is e [(0, .pointer (some ⟨g, 0, none⟩)), (1, .int .i64 n), (6, .int .u64 (numB (((Qas s).drop at_).take k))), (34, .int .i64 n), (35, .int .i64 k)] /\ Is w' w /\ k <= n /\ m = n - k) n ?_ ?_
 ·
  simp only [go_sem,↓reduceIte,reduceEqDiff]
  exact ⟨0, rfl, rfl, by omega, rfl⟩
 rintro m e w' ⟨k, rfl, rfl, hk, rfl⟩
 refine VR [0, 1, 6, 34, 35, 36] rfl rfl fun K hK => ?_;simp only [go_sem,↓reduceIte,reduceEqDiff]
 (refine hK _ _ ?_;clear hK)
 (repeat refine Qai ?_)
 refine Qab rfl rfl (fun h => ?_) (fun h => ?_)
 ·
  simp only [decide_eq_true_eq] at h
  refine Qaf ?_
  ((repeat refine Qai ?_);refine Qad ?_)
  have hlt := Qe1 (((Qas s).drop at_).take k)
  rw [List.length_take, List.length_drop, Nat.min_eq_left (by omega)] at hlt
  have h63 : numB (((Qas s).drop at_).take k) < 2 ^ 63 := Nat.lt_of_lt_of_le hlt (Nat.pow_le_pow_right (by omega) (by omega))
  have htk := Qd2 false (l := (Qas s).drop at_) (i := k) (by simp;omega)
  have hnext := Qz1 (((Qas s).drop at_).take k) (((Qas s).drop at_).getD k false)
  rw [<- htk] at hnext
  have hgd : ((Qas s).drop at_).getD k false = (Qas s).getD (at_ + k) false := by simp [List.getD_eq_getElem?_getD]
  rw [hgd] at hnext
  refine VR [0, 1, 6, 7, 34, 35] rfl rfl fun K hK => ?_;simp only [go_sem,↓reduceIte,reduceEqDiff]
  (refine hK _ _ ?_;clear hK)
  (repeat refine Qai ?_);refine Qdp w' (Ext.refl _) [0, 1, 6, 34, 35] [(0, true), (1, true), (2, true), (3, true), (4, true), (5, true), (6, true), (7, true), (8, true), (9, true), (10, true), (11, true), (12, false), (13, true), (14, true)] (by kernel_rfl) (by kernel_rfl) rfl (by simp only [Qay, List.filterMap_cons, List.filterMap_nil, List.getElem?_cons_succ, List.getElem?_cons_zero, Option.map_some];rfl) fun K hK => ?_;simp only [go_sem,↓reduceIte,reduceEqDiff]
  (repeat (first | refine And.intro (by omega) ?_ | refine ⟨⟨by omega, by omega⟩, ?_⟩ | (refine ⟨_, (by first | exact Qac (hH.at 0 rfl) rfl | exact Qaa (hH.at 0 rfl) (bytesV_get (by omega)) | exact Qaa (hH.at 0 rfl) (Qaj (by omega)) | exact Qac (hH.at 1 rfl) rfl | exact Qaa (hH.at 1 rfl) (bytesV_get (by omega)) | exact Qaa (hH.at 1 rfl) (Qaj (by omega)) | exact Qac (hH.at 2 rfl) rfl | exact Qaa (hH.at 2 rfl) (bytesV_get (by omega)) | exact Qaa (hH.at 2 rfl) (Qaj (by omega)) | exact Qac (hH.at 3 rfl) rfl | exact Qaa (hH.at 3 rfl) (bytesV_get (by omega)) | exact Qaa (hH.at 3 rfl) (Qaj (by omega))), ?_⟩;(try simp only [go_sem,↓reduceIte,reduceEqDiff]))))
  have hbd := Qwz s gs (at_ + k) w' (by omega) (by omega) (Qac (hH.at 1 rfl) rfl)
  rw [Int.natCast_add] at hbd
  refine Qbf ?_;simp only [go_sem,↓reduceIte,reduceEqDiff];refine FnK.mk Tryz.call137 hbd ?_
  rintro v w3 ⟨rfl, rfl⟩
  simp only [go_sem,↓reduceIte,reduceEqDiff]
  refine ⟨Ext.refl _, ?_⟩
  rw [show shN IntKind.u64 1 = 1 from rfl]
  generalize (Qas s).getD (at_ + k) false = b at *
  have hor : numB (((Qas s).drop at_).take k) * 2 ||| b.toNat = 2 * numB (((Qas s).drop at_).take k) + b.toNat := by
   rw [Nat.mul_comm]
   cases b
   ·
    simp
   ·
    exact (Nat.two_pow_add_eq_or_of_lt (i := 1) (b := 1) (by omega) _).symm
  rw [Nat.add_comm] at htk
  generalize numB (((Qas s).drop at_).take k) = q at *
  have e1 : (q : Int) * 2 ^ 1 % 18446744073709551616 = ((q * 2 : Nat) : Int) := by omega
  rw [e1]
  refine ⟨⟨by omega, by omega⟩, ⟨by cases b <;> simp, by cases b <;> simp⟩, ?_⟩
  simp only [Int.toNat_natCast]
  rw [hor, <- hnext]
  (refine hK _ _ ?_;clear hK)
  refine Qav ?_
  refine VR [0, 1, 6, 34, 35] rfl rfl fun K hK => ?_;simp only [go_sem,↓reduceIte,reduceEqDiff]
  ((repeat refine And.intro (by omega) ?_);refine hK _ _ ?_;clear hK)
  refine Qah ?_
  simp only [go_sem,↓reduceIte,reduceEqDiff]
  exact ⟨n - (k + 1), by omega, k + 1, rfl, rfl, by omega, rfl⟩
 ·
  simp only [decide_eq_false_iff_not] at h
  refine Qap rfl ?_
  refine VR [6] rfl rfl fun K hK => ?_;simp only [go_sem,↓reduceIte,reduceEqDiff]
  (repeat (first | refine And.intro (by omega) ?_ | refine ⟨⟨by omega, by omega⟩, ?_⟩ | (refine ⟨_, (by first | exact Qac (hH.at 0 rfl) rfl | exact Qaa (hH.at 0 rfl) (bytesV_get (by omega)) | exact Qaa (hH.at 0 rfl) (Qaj (by omega)) | exact Qac (hH.at 1 rfl) rfl | exact Qaa (hH.at 1 rfl) (bytesV_get (by omega)) | exact Qaa (hH.at 1 rfl) (Qaj (by omega)) | exact Qac (hH.at 2 rfl) rfl | exact Qaa (hH.at 2 rfl) (bytesV_get (by omega)) | exact Qaa (hH.at 2 rfl) (Qaj (by omega)) | exact Qac (hH.at 3 rfl) rfl | exact Qaa (hH.at 3 rfl) (bytesV_get (by omega)) | exact Qaa (hH.at 3 rfl) (Qaj (by omega))), ?_⟩;(try simp only [go_sem,↓reduceIte,reduceEqDiff]))))
  have hkn : k = n := by omega
  subst hkn
  refine Qae ?_;simp only [go_sem,↓reduceIte,reduceEqDiff];refine Qal hH 0 (vs := [.int .i64 (at_ + k : Nat)]) rfl rfl (by kernel_rfl) (by first | decide | (simp;done) | (simp;omega)) (by simp [Value.oneCell']) fun w6 hH2 => ?_;(try simp only [go_sem,↓reduceIte,reduceEqDiff])
  (refine hK _ _ ?_;clear hK)
  refine VR [4, 5] rfl rfl fun K hK => ?_;simp only [go_sem,↓reduceIte,reduceEqDiff]
  (refine hK _ _ ?_;clear hK)
  exact Qan (Qa9 rfl rfl rfl (.inr ⟨by omega, hH2.pair, rfl⟩))
theorem Qyl (g gs : Nat) (s : List UInt8) (at_ most : Nat) (w : World) (hm : most <= 1000) (ha : at_ <= 8 * s.length) (hs : s.length <= 1000000000000000)
  (hL : Heap w (rd g gs s at_).foot w [rd g gs s at_]) : Does Tryz.prog 101 #[.pointer (some ⟨g, 0, none⟩), .int .i64 most] w fun x w' =>
   x = .tuple #[.int .i64 (unS ((Qas s).drop at_) most 0).1, .int .i64 (unS ((Qas s).drop at_) most 0).2] /\ (((unS ((Qas s).drop at_) most 0).2 ≠ 0 /\ w' = w) ∨ ((unS ((Qas s).drop at_) most 0).2 = 0 /\ at_ + (unS ((Qas s).drop at_) most 0).1 + 1 <= 8 * s.length /\ (unS ((Qas s).drop at_) most 0).1 <= most /\ Heap w (rd g gs s at_).foot w' [rd g gs s (at_ + (unS ((Qas s).drop at_) most 0).1 + 1)])) := by
 have hH := hL.unpair
 have hbl := Qbe s
 refine Qak (args := [.pointer (some ⟨g, 0, none⟩), .int .i64 most]) 56 Tryz.func101 rfl rfl (of_decide_eq_true rfl) ?_
 simp only [Env.ofArgs]
 refine VR [0, 1] rfl rfl fun K hK => ?_;simp only [go_sem,↓reduceIte,reduceEqDiff]
 (refine hK _ _ ?_;clear hK)
 refine VR [0, 1, 15] rfl rfl fun K hK => ?_;simp only [go_sem,↓reduceIte,reduceEqDiff]
 refine ⟨_, Qac (hH.at 0 rfl) rfl, ?_⟩
 simp only [go_sem,↓reduceIte,reduceEqDiff]
 (refine hK _ _ ?_;clear hK)
 refine Qab rfl rfl (fun h => by cases h) (fun h => Qaf ?_)
 refine VR [0, 1, 17] rfl rfl fun K hK => ?_;simp only [go_sem,↓reduceIte,reduceEqDiff]
 (refine hK _ _ ?_;clear hK)
 refine Qab rfl rfl (fun h => by simp at h;omega) (fun h => Qaf ?_)
 refine VR [0, 1, 6] rfl rfl fun K hK => ?_;simp only [go_sem,↓reduceIte,reduceEqDiff]
 (refine hK _ _ ?_;clear hK)
 ((repeat refine Qai ?_);refine Qad ?_)
 generalize hu : unS ((Qas s).drop at_) most 0 = u at *
 refine Qam [0, 1, 6] (fun m e w' => ∃ (k : Nat), Is e [(0, .pointer (some ⟨g, 0, none⟩)), (1, .int .i64 most), (6, .int .i64 k)] /\ Is w' w /\ k <= most /\ at_ + k <= 8 * s.length /\ unS ((Qas s).drop (at_ + k)) most k = u /\ m = 8 * s.length - (at_ + k)) (8 * s.length - at_) ?_ ?_
 ·
  simp only [go_sem,↓reduceIte,reduceEqDiff]
  exact ⟨0, rfl, rfl, by omega, by omega, hu, rfl⟩
 rintro m e w' ⟨k, rfl, rfl, hk, hk2, hk3, rfl⟩
 (repeat refine Qai ?_);refine Qcq [0, 1, 6, 28] (by kernel_rfl) (by kernel_rfl) rfl fun K hK => ?_;simp only [go_sem,↓reduceIte,reduceEqDiff]
 (repeat (first | refine And.intro (by omega) ?_ | refine ⟨⟨by omega, by omega⟩, ?_⟩ | (refine ⟨_, (by first | exact Qac (hH.at 0 rfl) rfl | exact Qaa (hH.at 0 rfl) (bytesV_get (by omega)) | exact Qaa (hH.at 0 rfl) (Qaj (by omega)) | exact Qac (hH.at 1 rfl) rfl | exact Qaa (hH.at 1 rfl) (bytesV_get (by omega)) | exact Qaa (hH.at 1 rfl) (Qaj (by omega)) | exact Qac (hH.at 2 rfl) rfl | exact Qaa (hH.at 2 rfl) (bytesV_get (by omega)) | exact Qaa (hH.at 2 rfl) (Qaj (by omega)) | exact Qac (hH.at 3 rfl) rfl | exact Qaa (hH.at 3 rfl) (bytesV_get (by omega)) | exact Qaa (hH.at 3 rfl) (Qaj (by omega))), ?_⟩;(try simp only [go_sem,↓reduceIte,reduceEqDiff]))))
 (refine hK _ ?_;clear hK)
 refine Qab rfl rfl (fun h => ?_) (fun h => ?_)
 ·
  simp only [decide_eq_true_eq] at h
  refine Qaf ?_
  ((repeat refine Qai ?_);refine Qad ?_)
  have hdr := drop_getD false (l := Qas s) (i := at_ + k) (by omega)
  rw [hdr] at hk3
  have hbd := Qwz s gs (at_ + k) w' (by omega) (by omega) (Qac (hH.at 1 rfl) rfl)
  rw [Int.natCast_add] at hbd
  (repeat refine Qai ?_);refine Qa8 [0, 1, 6, 42] 10 (by kernel_rfl) (by kernel_rfl) (by kernel_rfl) rfl fun K hK => ?_;simp only [go_sem,↓reduceIte,reduceEqDiff]
  (repeat (first | refine And.intro (by omega) ?_ | refine ⟨⟨by omega, by omega⟩, ?_⟩ | (refine ⟨_, (by first | exact Qac (hH.at 0 rfl) rfl | exact Qaa (hH.at 0 rfl) (bytesV_get (by omega)) | exact Qaa (hH.at 0 rfl) (Qaj (by omega)) | exact Qac (hH.at 1 rfl) rfl | exact Qaa (hH.at 1 rfl) (bytesV_get (by omega)) | exact Qaa (hH.at 1 rfl) (Qaj (by omega)) | exact Qac (hH.at 2 rfl) rfl | exact Qaa (hH.at 2 rfl) (bytesV_get (by omega)) | exact Qaa (hH.at 2 rfl) (Qaj (by omega)) | exact Qac (hH.at 3 rfl) rfl | exact Qaa (hH.at 3 rfl) (bytesV_get (by omega)) | exact Qaa (hH.at 3 rfl) (Qaj (by omega))), ?_⟩;(try simp only [go_sem,↓reduceIte,reduceEqDiff]))))
  refine Qbf ?_;simp only [go_sem,↓reduceIte,reduceEqDiff];refine FnK.mk Tryz.call137 hbd ?_
  rintro v w3 ⟨rfl, rfl⟩
  simp only [go_sem,↓reduceIte,reduceEqDiff]
  (refine hK _ _ ?_;clear hK)
  generalize (Qas s).getD (at_ + k) false = b at *
  cases b with
  | false =>
   refine Qab rfl rfl (fun h => ?_) (fun h => by simp at h)
   rw [unS] at hk3
   subst hk3
   refine VR [6] rfl rfl fun K hK => ?_;simp only [go_sem,↓reduceIte,reduceEqDiff]
   (repeat (first | refine And.intro (by omega) ?_ | refine ⟨⟨by omega, by omega⟩, ?_⟩ | (refine ⟨_, (by first | exact Qac (hH.at 0 rfl) rfl | exact Qaa (hH.at 0 rfl) (bytesV_get (by omega)) | exact Qaa (hH.at 0 rfl) (Qaj (by omega)) | exact Qac (hH.at 1 rfl) rfl | exact Qaa (hH.at 1 rfl) (bytesV_get (by omega)) | exact Qaa (hH.at 1 rfl) (Qaj (by omega)) | exact Qac (hH.at 2 rfl) rfl | exact Qaa (hH.at 2 rfl) (bytesV_get (by omega)) | exact Qaa (hH.at 2 rfl) (Qaj (by omega)) | exact Qac (hH.at 3 rfl) rfl | exact Qaa (hH.at 3 rfl) (bytesV_get (by omega)) | exact Qaa (hH.at 3 rfl) (Qaj (by omega))), ?_⟩;(try simp only [go_sem,↓reduceIte,reduceEqDiff]))))
   refine Qae ?_;simp only [go_sem,↓reduceIte,reduceEqDiff];refine Qal hH 0 (vs := [.int .i64 (at_ + k + 1 : Nat)]) rfl rfl (by kernel_rfl) (by first | decide | (simp;done) | (simp;omega)) (by simp [Value.oneCell']) fun w6 hH2 => ?_;(try simp only [go_sem,↓reduceIte,reduceEqDiff])
   (refine hK _ _ ?_;clear hK)
   refine VR [4, 5] rfl rfl fun K hK => ?_;simp only [go_sem,↓reduceIte,reduceEqDiff]
   (refine hK _ _ ?_;clear hK)
   exact Qan (Qa9 rfl rfl rfl ⟨rfl, .inr ⟨rfl, by simp only;omega, hk, hH2.pair⟩⟩)
  | true =>
   refine Qab rfl rfl (fun h => by simp at h) (fun h => Qaf ?_)
   rw [unS] at hk3
   refine VR [0, 1, 6, 55] rfl rfl fun K hK => ?_;simp only [go_sem,↓reduceIte,reduceEqDiff]
   (refine hK _ _ ?_;clear hK)
   refine Qab rfl rfl (fun h => ?_) (fun h => Qaf ?_)
   ·
    simp only [decide_eq_true_eq] at h
    rw [if_pos (by omega)] at hk3
    subst hk3
    refine VR [4, 5] rfl rfl fun K hK => ?_;simp only [go_sem,↓reduceIte,reduceEqDiff]
    (refine hK _ _ ?_;clear hK)
    exact Qan (Qa9 rfl rfl rfl ⟨rfl, .inl ⟨by simp, rfl⟩⟩)
   simp only [decide_eq_false_iff_not] at h
   rw [if_neg (by omega)] at hk3
   refine Qav ?_
   refine VR [0, 1, 6] rfl rfl fun K hK => ?_;simp only [go_sem,↓reduceIte,reduceEqDiff]
   ((repeat refine And.intro (by omega) ?_);refine hK _ _ ?_;clear hK)
   refine Qah ?_
   simp only [go_sem,↓reduceIte,reduceEqDiff]
   exact ⟨8 * s.length - (at_ + (k + 1)), by omega, k + 1, rfl, rfl, by omega, by omega, hk3, rfl⟩
 ·
  simp only [decide_eq_false_iff_not] at h
  refine Qap rfl ?_
  rw [List.drop_of_length_le (by omega), unS] at hk3
  subst hk3
  refine VR [4, 5] rfl rfl fun K hK => ?_;simp only [go_sem,↓reduceIte,reduceEqDiff]
  (refine hK _ _ ?_;clear hK)
  exact Qan (Qa9 rfl rfl rfl ⟨rfl, .inl ⟨by simp, rfl⟩⟩)
def Qbg (l : List Bool) : List Value := [Str (Qby l), .int .i64 l.length]
def Qjh (l : List Bool) : Value := .agg (Qbg l).toArray
theorem QA5 (l : List Bool) (h : l.length % 8 ≠ 0) : ((Qby l).getD ((Qby l).length - 1) 0).toNat * 2 ^ (l.length % 8) % 256 = 0 := by
 have e : l = l.take (8 * (l.length / 8)) ++ l.drop (8 * (l.length / 8)) := (List.take_append_drop _ _).symm
 have h1 : (l.take (8 * (l.length / 8))).length % 8 = 0 := by rw [List.length_take];omega
 have h2 : (l.drop (8 * (l.length / 8))).length = l.length % 8 := by rw [List.length_drop];omega
 have h3 : Qby l = Qby (l.take (8 * (l.length / 8))) ++ Qby (l.drop (8 * (l.length / 8))) := by
  conv => lhs;rw [e]
  exact Qpy _ _ h1
 generalize l.drop (8 * (l.length / 8)) = m at *
 generalize l.take (8 * (l.length / 8)) = q at *
 have h4 : (Qby m).length = 1 := by rw [Qcb, h2];omega
 have h5 := Qc7 m
 match hm : Qby m, h4 with
 | [x], _ =>
  rw [h3, hm]
  have : ((Qby q ++ [x]).getD ((Qby q ++ [x]).length - 1) 0) = x := by simp [List.getD_eq_getElem?_getD]
  rw [this]
  rw [hm, Qeh, Qkq, List.append_nil] at h5
  have h6 := congrArg numB h5
  rw [Qd7, Qmw, List.length_replicate] at h6
  have hz : numB (List.replicate (8 * ((m.length + 7) / 8) - m.length) false) = 0 := by
   rw [<- Qkt, Qd7, Nat.zero_mod]
  rw [hz, h2, Nat.mod_eq_of_lt x.toNat_lt, Nat.add_zero, show 8 * ((l.length % 8 + 7) / 8) - l.length % 8 = 8 - l.length % 8 by omega] at h6
  rw [h6, Nat.mul_assoc, <- Nat.pow_add, show 8 - l.length % 8 + l.length % 8 = 8 by omega]
  exact Nat.mul_mod_left _ _
theorem QEa (l : List Bool) (w : World) (hl : l.length <= 1000000000000000000) : Does Tryz.prog 85 #[Qjh l] w fun x w' => Heap w [] w' [] /\ x = .bool true := by
 have htl := Qcb l
 refine Qak (args := [Qjh l]) 40 Tryz.func85 rfl rfl (of_decide_eq_true rfl) ?_
 simp only [Env.ofArgs]
 refine VR [1] rfl rfl fun K hK => ?_;simp only [go_sem,↓reduceIte,reduceEqDiff]
 refine Qcg ?_
 simp only [go_sem,↓reduceIte,reduceEqDiff]
 have hH := (Heap.start w).box 24 (Qbg l)
 rw [Qjh]
 simp only [go_sem,↓reduceIte,reduceEqDiff]
 generalize w.alloc (Obj.cells (Qbg l).toArray 24) = w1 at *
 (refine hK _ _ ?_;clear hK)
 generalize w.heap.size = g at *
 refine VR [1, 20] rfl rfl fun K hK => ?_;simp only [go_sem,↓reduceIte,reduceEqDiff]
 (repeat (first | refine And.intro (by omega) ?_ | refine ⟨⟨by omega, by omega⟩, ?_⟩ | (refine ⟨_, (by first | exact Qac (hH.at 0 rfl) rfl | exact Qaa (hH.at 0 rfl) (bytesV_get (by omega)) | exact Qaa (hH.at 0 rfl) (Qaj (by omega)) | exact Qac (hH.at 1 rfl) rfl | exact Qaa (hH.at 1 rfl) (bytesV_get (by omega)) | exact Qaa (hH.at 1 rfl) (Qaj (by omega)) | exact Qac (hH.at 2 rfl) rfl | exact Qaa (hH.at 2 rfl) (bytesV_get (by omega)) | exact Qaa (hH.at 2 rfl) (Qaj (by omega)) | exact Qac (hH.at 3 rfl) rfl | exact Qaa (hH.at 3 rfl) (bytesV_get (by omega)) | exact Qaa (hH.at 3 rfl) (Qaj (by omega))), ?_⟩;(try simp only [go_sem,↓reduceIte,reduceEqDiff]))))
 suffices out : ∀ b : Bool, (b = true ↔ False) -> K [(1, .pointer (some ⟨g, 0, none⟩)), (20, .bool b)] w1 by
  refine ⟨fun _ => ?_, fun h => absurd h (by omega)⟩
  (repeat (first | refine And.intro (by omega) ?_ | refine ⟨⟨by omega, by omega⟩, ?_⟩ | (refine ⟨_, (by first | exact Qac (hH.at 0 rfl) rfl | exact Qaa (hH.at 0 rfl) (bytesV_get (by omega)) | exact Qaa (hH.at 0 rfl) (Qaj (by omega)) | exact Qac (hH.at 1 rfl) rfl | exact Qaa (hH.at 1 rfl) (bytesV_get (by omega)) | exact Qaa (hH.at 1 rfl) (Qaj (by omega)) | exact Qac (hH.at 2 rfl) rfl | exact Qaa (hH.at 2 rfl) (bytesV_get (by omega)) | exact Qaa (hH.at 2 rfl) (Qaj (by omega)) | exact Qac (hH.at 3 rfl) rfl | exact Qaa (hH.at 3 rfl) (bytesV_get (by omega)) | exact Qaa (hH.at 3 rfl) (Qaj (by omega))), ?_⟩;(try simp only [go_sem,↓reduceIte,reduceEqDiff]))))
  exact out _ (by simp;omega)
 intro b hb
 (refine hK _ _ ?_;clear hK)
 refine Qab rfl rfl (fun h => (hb.1 h).elim) (fun h => Qaf ?_)
 clear h hb
 (repeat refine Qai ?_);refine Qcq [2] (by kernel_rfl) (by kernel_rfl) rfl fun K hK => ?_;simp only [go_sem,↓reduceIte,reduceEqDiff]
 (repeat (first | refine And.intro (by omega) ?_ | refine ⟨⟨by omega, by omega⟩, ?_⟩ | (refine ⟨_, (by first | exact Qac (hH.at 0 rfl) rfl | exact Qaa (hH.at 0 rfl) (bytesV_get (by omega)) | exact Qaa (hH.at 0 rfl) (Qaj (by omega)) | exact Qac (hH.at 1 rfl) rfl | exact Qaa (hH.at 1 rfl) (bytesV_get (by omega)) | exact Qaa (hH.at 1 rfl) (Qaj (by omega)) | exact Qac (hH.at 2 rfl) rfl | exact Qaa (hH.at 2 rfl) (bytesV_get (by omega)) | exact Qaa (hH.at 2 rfl) (Qaj (by omega)) | exact Qac (hH.at 3 rfl) rfl | exact Qaa (hH.at 3 rfl) (bytesV_get (by omega)) | exact Qaa (hH.at 3 rfl) (Qaj (by omega))), ?_⟩;(try simp only [go_sem,↓reduceIte,reduceEqDiff]))))
 suffices out : K [(2, .bool true)] by
  refine ⟨fun h => ?_, fun h => ?_⟩
  ·
   have hlb := QA5 l (by omega)
   (repeat (first | refine And.intro (by omega) ?_ | refine ⟨⟨by omega, by omega⟩, ?_⟩ | (refine ⟨_, (by first | exact Qac (hH.at 0 rfl) rfl | exact Qaa (hH.at 0 rfl) (bytesV_get (by omega)) | exact Qaa (hH.at 0 rfl) (Qaj (by omega)) | exact Qac (hH.at 1 rfl) rfl | exact Qaa (hH.at 1 rfl) (bytesV_get (by omega)) | exact Qaa (hH.at 1 rfl) (Qaj (by omega)) | exact Qac (hH.at 2 rfl) rfl | exact Qaa (hH.at 2 rfl) (bytesV_get (by omega)) | exact Qaa (hH.at 2 rfl) (Qaj (by omega)) | exact Qac (hH.at 3 rfl) rfl | exact Qaa (hH.at 3 rfl) (bytesV_get (by omega)) | exact Qaa (hH.at 3 rfl) (Qaj (by omega))), ?_⟩;(try simp only [go_sem,↓reduceIte,reduceEqDiff]))))
   have hsh : shN IntKind.u8 (((l.length : Int) % 8) % 18446744073709551616) = l.length % 8 := Qyd (by omega) (by simp [IntKind.bits];omega) (by decide)
   rw [hsh, Qmh, show (((Qby l).getD ((Qby l).length - 1) 0).toNat * 2 ^ (l.length % 8) : Nat) = _ from rfl]
   have e : ((((Qby l).getD ((Qby l).length - 1) 0).toNat * 2 ^ (l.length % 8) : Nat) : Int) % 256 = 0 := by omega
   rw [e]
   exact out
  ·
   exact out
 (refine hK _ ?_;clear hK)
 exact Qan (Qax rfl rfl ⟨hH.sub (by simp), rfl⟩)
def Qem (ls : List (List Bool)) : List Value := ls.flatMap Qbg
theorem Qu4 (ls : List (List Bool)) : ∀ (i : Nat) (l : List Bool), ls[i]? = some l -> ∀ j u, (Qbg l)[j]? = some u -> (Qem ls)[i * 2 + j]? = some u := by
 induction ls with
 | nil => intro i l h;simp at h
 | cons x ls ih =>
  intro i l h j u hu
  have hj : j < 2 := by have := (List.getElem?_eq_some_iff.1 hu).1;simpa [Qbg] using this
  cases i with
  | zero =>
   simp at h;subst h
   simp only [Qem, List.flatMap_cons]
   rw [List.getElem?_append_left (by simp [Qbg];omega)]
   simpa using hu
  | succ i =>
   have := ih i l (by simpa using h) j u hu
   simp only [Qem, List.flatMap_cons] at this ⊢
   rw [List.getElem?_append_right (by simp [Qbg];omega)]
   rw [<- this]
   congr 1
   simp [Qbg];omega
theorem Qsl (ls : List (List Bool)) (p : Addr) (hp : p.spot = none) (cap : Nat) (w : World) (hl : RS w (some p) ls.length 2 (Qem ls)) (hs : ls.flatten.length <= 10000000000000) (hls : ls.length <= 1000000000) :
  Does Tryz.prog 42 #[.slice (some p) ls.length cap] w fun x w' => Heap w [] w' [] /\ x = .tuple #[Qjh ls.flatten, .int .i64 0] := by
 refine Qak (args := [.slice (some p) ls.length cap]) 43 Tryz.func42 rfl rfl (of_decide_eq_true rfl) ?_
 simp only [Env.ofArgs]
 refine VR [0, 2] rfl rfl fun K hK => ?_;simp only [go_sem,↓reduceIte,reduceEqDiff]
 refine Qat (.agg #[.string ⟨#[]⟩, .int .i64 0]) (by kernel_rfl) ?_
 simp only [go_sem,↓reduceIte,reduceEqDiff]
 have hH := (Heap.start w).box 24 [.string ⟨#[]⟩, .int .i64 0]
 generalize w.alloc (Obj.cells [Value.string ⟨#[]⟩, .int .i64 0].toArray 24) = w1 at *
 generalize w.heap.size = gr at *
 (refine hK _ _ ?_;clear hK)
 refine VR [0, 2, 4] rfl rfl fun K hK => ?_;simp only [go_sem,↓reduceIte,reduceEqDiff]
 refine Qag Tryz.call35 ?_;simp only [go_sem,↓reduceIte,reduceEqDiff];refine CallK.mk (Qdq w1) ?_
 rintro v w2 ⟨gw, hH2, rfl⟩
 (refine hK _ _ ?_;clear hK)
 have hH3 := hH.call0 hH2
 clear hH hH2
 refine VR [2, 4, 11, 12, 13] rfl rfl fun K hK => ?_;simp only [go_sem,↓reduceIte,reduceEqDiff]
 (refine hK _ _ ?_;clear hK)
 ((repeat refine Qai ?_);refine Qad ?_)
 refine Qam [2, 4, 11, 12, 13] (fun m e w' => ∃ (i : Nat) (a : Option Addr) (c : Nat), Is e [(2, .pointer (some ⟨gr, 0, none⟩)), (4, .pointer (some ⟨gw, 0, none⟩)), (11, .slice (some p) ls.length cap), (12, .int .i64 ls.length), (13, .int .i64 i)] /\ Heap w [] w' [wr gw a c (ls.take i).flatten, Res.blk gr 24 [.string ⟨#[]⟩, .int .i64 0]] /\ i <= ls.length /\ m = ls.length - i) ls.length ?_ ?_
 ·
  simp only [go_sem,↓reduceIte,reduceEqDiff]
  exact ⟨0, none, 0, rfl, hH3, by omega, rfl⟩
 clear hH3
 rintro m e w' ⟨i, a, c, rfl, hH, hi, rfl⟩
 refine VR [2, 4, 11, 12, 13, 14] rfl rfl fun K hK => ?_;simp only [go_sem,↓reduceIte,reduceEqDiff]
 (refine hK _ _ ?_;clear hK)
 (repeat refine Qai ?_)
 refine Qab rfl rfl (fun h => ?_) (fun h => ?_)
 ·
  simp only [decide_eq_true_eq] at h
  refine Qaf ?_
  ((repeat refine Qai ?_);refine Qad ?_)
  have hi' : i < ls.length := by omega
  have hli : ls[i]? = some ls[i] := List.getElem?_eq_getElem hi'
  have htk : (ls.take (i + 1)).flatten = (ls.take i).flatten ++ ls[i] := by rw [List.take_add_one, hli, Option.toList_some, List.flatten_append, List.flatten_singleton]
  have hfl : (ls.take (i + 1)).flatten.length <= ls.flatten.length := by
   have : ls.flatten = (ls.take (i + 1)).flatten ++ (ls.drop (i + 1)).flatten := by rw [<- List.flatten_append, List.take_append_drop]
   rw [this];simp
  rw [htk, List.length_append] at hfl
  generalize hlx : ls[i] = l at *
  generalize (ls.take i).flatten = acc at *
  have htl := Qcb l
  have hrd := QAy (hH.rs' hl) hp (i * 2) (Qbg l) (fun j u hu => Qu4 ls i l hli j u hu)
  refine VR [2, 4, 6, 11, 12, 13] rfl rfl fun K hK => ?_;simp only [go_sem,↓reduceIte,reduceEqDiff]
  refine ⟨⟨by omega, by omega⟩, Qbg l, ⟨rfl, hrd⟩, ?_⟩
  refine Qat (.agg #[.string ⟨#[]⟩, .int .i64 0]) (by kernel_rfl) ?_
  simp only [go_sem,↓reduceIte,reduceEqDiff]
  have hH1 := hH.box 24 [.string ⟨#[]⟩, .int .i64 0]
  generalize w'.alloc (Obj.cells [Value.string ⟨#[]⟩, .int .i64 0].toArray 24) = w1 at *
  generalize w'.heap.size = gb at *
  refine Qae ?_
  simp only [go_sem,↓reduceIte,reduceEqDiff]
  refine Qal hH1 0 (vs := Qbg l) rfl rfl (by kernel_rfl) (by simp [Qbg]) (by simp [Qbg, Value.oneCell']) fun w2 hH2 => ?_
  have hH2 : Heap w [] w2 [Res.blk gb 24 (Qbg l), wr gw a c acc, Res.blk gr 24 [.string ⟨#[]⟩, .int .i64 0]] := hH2
  clear hH1 hH
  (refine hK _ _ ?_;clear hK)
  refine VR [2, 4, 6, 11, 12, 13, 19] rfl rfl fun K hK => ?_;simp only [go_sem,↓reduceIte,reduceEqDiff]
  refine ⟨Qbg l, ⟨rfl, Qa1 (hH2.at 0 rfl)⟩, ?_⟩
  refine Qag Tryz.call85 ?_;simp only [go_sem,↓reduceIte,reduceEqDiff];refine CallK.mk (QEa l w2 (by omega)) ?_
  rintro v w3 ⟨hHm, rfl⟩
  simp only [go_sem,↓reduceIte,reduceEqDiff]
  (refine hK _ _ ?_;clear hK)
  have hH3 := hH2.call0 hHm
  clear hH2 hHm
  refine Qab rfl rfl (fun h => by simp at h) (fun h => Qaf ?_)
  refine VR [2, 4, 6, 7, 11, 12, 13] rfl rfl fun K hK => ?_;simp only [go_sem,↓reduceIte,reduceEqDiff]
  (repeat (first | refine And.intro (by omega) ?_ | refine ⟨⟨by omega, by omega⟩, ?_⟩ | (refine ⟨_, (by first | exact Qac (hH3.at 0 rfl) rfl | exact Qaa (hH3.at 0 rfl) (bytesV_get (by omega)) | exact Qaa (hH3.at 0 rfl) (Qaj (by omega)) | exact Qac (hH3.at 1 rfl) rfl | exact Qaa (hH3.at 1 rfl) (bytesV_get (by omega)) | exact Qaa (hH3.at 1 rfl) (Qaj (by omega)) | exact Qac (hH3.at 2 rfl) rfl | exact Qaa (hH3.at 2 rfl) (bytesV_get (by omega)) | exact Qaa (hH3.at 2 rfl) (Qaj (by omega)) | exact Qac (hH3.at 3 rfl) rfl | exact Qaa (hH3.at 3 rfl) (bytesV_get (by omega)) | exact Qaa (hH3.at 3 rfl) (Qaj (by omega))), ?_⟩;(try simp only [go_sem,↓reduceIte,reduceEqDiff]))))
  refine Qag Tryz.call86 ?_;simp only [go_sem,↓reduceIte,reduceEqDiff];refine CallK.mk (Qdr (Qby l) 0 w3 (I64.mk (by omega) (by omega)) (by omega)) ?_
  rintro v w4 (⟨hbad, _⟩ | ⟨_, grd, gs, hHr, rfl⟩)
  ·
   exact absurd hbad (by omega)
  (refine hK _ _ ?_;clear hK)
  have hH4 := hH3.call0 hHr
  clear hH3 hHr
  refine VR [2, 4, 7, 11, 12, 13, 25, 26] rfl rfl fun K hK => ?_;simp only [go_sem,↓reduceIte,reduceEqDiff]
  (repeat (first | refine And.intro (by omega) ?_ | refine ⟨⟨by omega, by omega⟩, ?_⟩ | (refine ⟨_, (by first | exact Qac (hH4.at 0 rfl) rfl | exact Qaa (hH4.at 0 rfl) (bytesV_get (by omega)) | exact Qaa (hH4.at 0 rfl) (Qaj (by omega)) | exact Qac (hH4.at 1 rfl) rfl | exact Qaa (hH4.at 1 rfl) (bytesV_get (by omega)) | exact Qaa (hH4.at 1 rfl) (Qaj (by omega)) | exact Qac (hH4.at 2 rfl) rfl | exact Qaa (hH4.at 2 rfl) (bytesV_get (by omega)) | exact Qaa (hH4.at 2 rfl) (Qaj (by omega)) | exact Qac (hH4.at 3 rfl) rfl | exact Qaa (hH4.at 3 rfl) (bytesV_get (by omega)) | exact Qaa (hH4.at 3 rfl) (Qaj (by omega))), ?_⟩;(try simp only [go_sem,↓reduceIte,reduceEqDiff]))))
  (refine hK _ _ ?_;clear hK)
  have hH5 : Heap w [] w4 [rd grd gs (Qby l) 0, wr gw a c acc, Res.blk gr 24 [.string ⟨#[]⟩, .int .i64 0]] := hH4.sub (by simp)
  clear hH4
  ((repeat refine Qai ?_);refine Qad ?_)
  refine Qam [2, 4, 7, 11, 12, 13, 25, 26] (fun m e w' => ∃ (k : Nat) (a : Option Addr) (c : Nat), Is e [(2, .pointer (some ⟨gr, 0, none⟩)), (4, .pointer (some ⟨gw, 0, none⟩)), (7, .pointer (some ⟨grd, 0, none⟩)), (11, .slice (some p) ls.length cap), (12, .int .i64 ls.length), (13, .int .i64 i), (25, .int .i64 l.length), (26, .int .i64 k)] /\ Heap w [] w' [rd grd gs (Qby l) k, wr gw a c (acc ++ l.take k), Res.blk gr 24 [.string ⟨#[]⟩, .int .i64 0]] /\ k <= l.length /\ m = l.length - k) l.length ?_ ?_
  ·
   simp only [go_sem,↓reduceIte,reduceEqDiff]
   exact ⟨0, a, c, rfl, by simpa using hH5, by omega, rfl⟩
  clear hH5
  rintro m e w5 ⟨k, a1, c1, rfl, hH, hk, rfl⟩
  refine VR [2, 4, 7, 11, 12, 13, 25, 26, 27] rfl rfl fun K hK => ?_;simp only [go_sem,↓reduceIte,reduceEqDiff]
  (refine hK _ _ ?_;clear hK)
  (repeat refine Qai ?_)
  refine Qab rfl rfl (fun h => ?_) (fun h => ?_)
  ·
   simp only [decide_eq_true_eq] at h
   refine Qaf ?_
   ((repeat refine Qai ?_);refine Qad ?_)
   have htb : (Qas (Qby l)).getD k false = l.getD k false := by
    rw [Qc7, List.getD_eq_getElem?_getD, List.getElem?_append_left (by omega), List.getD_eq_getElem?_getD]
   have hbl := Qbe (Qby l)
   have hnum : numB (((Qas (Qby l)).drop k).take 1) = (l.getD k false).toNat := by
    rw [drop_getD false (by omega), htb];cases l.getD k false <;> rfl
   refine VR [2, 4, 7, 8, 11, 12, 13, 25, 26] rfl rfl fun K hK => ?_;simp only [go_sem,↓reduceIte,reduceEqDiff]
   refine Qag Tryz.call87 ?_;simp only [go_sem,↓reduceIte,reduceEqDiff];refine CallK.mk (Qes grd gs (Qby l) k 1 w5 (by omega) (by omega) (by omega) (hH.focus 0 rfl)) ?_
   rintro v w6 (⟨hbad, _⟩ | ⟨_, hHr, rfl⟩)
   ·
    exact absurd hbad (by omega)
   rw [hnum]
   (refine hK _ _ ?_;clear hK)
   have hH2 := hH.call1 0 rfl hHr
   clear hHr hH
   have htl2 := Qcb (acc ++ l.take k)
   have hbt : (l.getD k false).toNat < 2 ^ 1 := by cases l.getD k false <;> simp
   refine VR [2, 4, 7, 11, 12, 13, 25, 26] rfl rfl fun K hK => ?_;simp only [go_sem,↓reduceIte,reduceEqDiff]
   refine Qag Tryz.call36 ?_;simp only [go_sem,↓reduceIte,reduceEqDiff];refine CallK.mk (Qc4 gw a1 c1 (acc ++ l.take k) (l.getD k false).toNat 1 w6 (by omega) hbt (by simp;omega) (hH2.focus 1 rfl)) ?_
   rintro v w7 ⟨a2, c2, hHw, rfl⟩
   (refine hK _ _ ?_;clear hK)
   have hH3 := hH2.call1 1 rfl hHw
   clear hHw hH2
   have hb1 : Qbh 1 (l.getD k false).toNat = [l.getD k false] := by cases l.getD k false <;> rfl
   rw [hb1, List.append_assoc, <- Qd2 false (show k < l.length by omega)] at hH3
   refine Qav ?_
   refine VR [2, 4, 7, 11, 12, 13, 25, 26] rfl rfl fun K hK => ?_;simp only [go_sem,↓reduceIte,reduceEqDiff]
   ((repeat refine And.intro (by omega) ?_);refine hK _ _ ?_;clear hK)
   refine Qah ?_
   simp only [go_sem,↓reduceIte,reduceEqDiff]
   exact ⟨l.length - (k + 1), by omega, k + 1, a2, c2, rfl, hH3, by omega, rfl⟩
  ·
   simp only [decide_eq_false_iff_not] at h
   refine Qap rfl ?_
   refine Qav ?_
   refine VR [2, 4, 11, 12, 13] rfl rfl fun K hK => ?_;simp only [go_sem,↓reduceIte,reduceEqDiff]
   ((repeat refine And.intro (by omega) ?_);refine hK _ _ ?_;clear hK)
   refine Qah ?_
   simp only [go_sem,↓reduceIte,reduceEqDiff]
   rw [List.take_of_length_le (by omega), <- htk] at hH
   exact ⟨ls.length - (i + 1), by omega, i + 1, a1, c1, rfl, hH.sub (by simp), by omega, rfl⟩
 ·
  simp only [decide_eq_false_iff_not] at h
  refine Qap rfl ?_
  rw [List.take_of_length_le (by omega)] at hH
  refine VR [2, 3] rfl rfl fun K hK => ?_;simp only [go_sem,↓reduceIte,reduceEqDiff]
  refine Qag Tryz.call37 ?_;simp only [go_sem,↓reduceIte,reduceEqDiff];refine CallK.mk (Qg2 gw a c _ w' (hH.at 0 rfl)) ?_
  rintro v w2 ⟨rfl, rfl⟩
  refine Qag Tryz.call38 ?_;simp only [go_sem,↓reduceIte,reduceEqDiff];refine CallK.mk (Qir gw a c _ w2 (hH.at 0 rfl)) ?_
  rintro v w3 ⟨rfl, rfl⟩
  simp only [go_sem,↓reduceIte,reduceEqDiff]
  refine Qae ?_
  simp only [go_sem,↓reduceIte,reduceEqDiff]
  refine Qal hH 1 (vs := Qbg ls.flatten) rfl rfl (by kernel_rfl) (by simp [Qbg]) (by simp [Qbg, Value.oneCell']) fun w4 hH2 => ?_
  have hH2 : Heap w [] w4 [wr gw a c ls.flatten, Res.blk gr 24 (Qbg ls.flatten)] := hH2
  (refine hK _ _ ?_;clear hK)
  refine Qan (Qeg rfl rfl rfl (Qbu (hH2.at 1 rfl) (by kernel_rfl) (by kernel_rfl) rfl ?_))
  exact ⟨hH2.sub (by simp), rfl⟩
def ordN (l : List Nat) : Nat -> List Nat
 | 0 => []
 | n + 1 => ordN l n ++ idxs l (n + 1)
def begS (l : List Nat) (n : Nat) : Nat := (ordN l (n - 1)).length
theorem Qu5 (l : List Nat) : ∀ (n k : Nat), k < (ordN l n).length -> (ordN l n).getD k 0 < l.length /\ 1 <= l.getD ((ordN l n).getD k 0) 0 /\ k = begS l (l.getD ((ordN l n).getD k 0) 0) + (idxN l (l.getD ((ordN l n).getD k 0) 0) ((ordN l n).getD k 0)).length
 | 0, k, h => by simp [ordN] at h
 | n + 1, k, h => by
  rw [ordN] at h ⊢
  rcases Nat.lt_or_ge k (ordN l n).length with h1 | h1
  ·
   rw [Qcj h1]
   exact Qu5 l n k h1
  ·
   have h2 : (ordN l n ++ idxs l (n + 1)).getD k 0 = (idxs l (n + 1)).getD (k - (ordN l n).length) 0 := by
    rw [List.getD_eq_getElem?_getD, List.getElem?_append_right h1, List.getD_eq_getElem?_getD]
   rw [h2]
   have h3 : k - (ordN l n).length < (idxs l (n + 1)).length := by rw [List.length_append] at h;omega
   obtain ⟨a, b, c⟩ := Qz2 l (n + 1) l.length _ h3
   change (idxs l (n + 1)).getD (k - (ordN l n).length) 0 < l.length at a
   change l.getD ((idxs l (n + 1)).getD (k - (ordN l n).length) 0) 0 = n + 1 at b
   change (idxN l (n + 1) ((idxs l (n + 1)).getD (k - (ordN l n).length) 0)).length = _ at c
   rw [b, c, begS, Nat.add_sub_cancel]
   exact ⟨a, by omega, by omega⟩
theorem Qw0 {l : List Nat} {i : Nat} (hi : i < l.length) (h1 : 1 <= l.getD i 0) : ∀ n, l.getD i 0 <= n -> i ∈ ordN l n
 | 0, h => by omega
 | n + 1, h => by
  rw [ordN, List.mem_append]
  rcases Nat.lt_or_ge n (l.getD i 0) with h2 | h2
  ·
   right
   rw [show n + 1 = l.getD i 0 by omega]
   exact Qmc.2 ⟨hi, rfl⟩
  ·
   exact .inl (Qw0 hi h1 n h2)
theorem QA6 {l : List Nat} {n i k : Nat} (h : k < (ordN l n).length) (hk : (ordN l n).getD k 0 = i) : Qew l i + begS l (l.getD i 0) = Qbj l (l.getD i 0) + k := by
 have := (Qu5 l n k h).2.2
 rw [hk] at this
 unfold Qew
 omega
theorem Qu6 (l : List Nat) {m n : Nat} (h : m <= n) : ∃ r, ordN l n = ordN l m ++ r := by
 induction n with
 | zero => exact ⟨[], by rw [show m = 0 by omega];simp⟩
 | succ n ih =>
  rcases Nat.lt_or_ge m (n + 1) with h1 | h1
  ·
   obtain ⟨r, hr⟩ := ih (by omega)
   exact ⟨_, by rw [ordN, hr, List.append_assoc]⟩
  ·
   exact ⟨[], by rw [show m = n + 1 by omega];simp⟩
theorem QEb (l : List Nat) {n L j : Nat} (hn : 1 <= n) (hL : n <= L) (hj : j < cnt l n) : begS l n + j < (ordN l L).length /\ (ordN l L).getD (begS l n + j) 0 = (idxs l n).getD j 0 := by
 obtain ⟨r, hr⟩ := Qu6 l hL
 obtain ⟨m, rfl⟩ : ∃ m, n = m + 1 := ⟨n - 1, by omega⟩
 have hb : begS l (m + 1) = (ordN l m).length := by rw [begS, Nat.add_sub_cancel]
 have hj' : j < (idxs l (m + 1)).length := hj
 rw [hr, ordN, hb]
 constructor
 ·
  simp only [List.length_append];omega
 ·
  rw [List.append_assoc, List.getD_eq_getElem?_getD, List.getElem?_append_right (by omega), Nat.add_sub_cancel_left, List.getElem?_append_left hj', List.getD_eq_getElem?_getD]
theorem QEc {l : List Nat} {n : Nat} (h : maxL l < n) : cnt l n = 0 := by
 rw [cnt, List.length_eq_zero_iff, List.eq_nil_iff_forall_not_mem]
 intro i hi
 obtain ⟨h1, h2⟩ := Qmc.1 hi
 have := Qhw.1 (Nat.le_refl (maxL l)) _ (Qbs 0 h1)
 omega
theorem Qmj (l : List Nat) (n : Nat) : (ordN l n).length <= n * l.length := by
 induction n with
 | zero => simp [ordN]
 | succ n ih =>
  have := Qwn l (n + 1) l.length
  rw [ordN, List.length_append, Nat.succ_mul]
  unfold idxs
  omega
def Qdk (sv ov : Value) (F Bg C : List Nat) : List Value := sv :: ov :: (Qaq F ++ (Qaq Bg ++ Qaq C))
section
variable {sv ov : Value} {F Bg C : List Nat}
theorem QEd (hF : F.length = 22) {n : Nat} (hn : n < 22) : (Qdk sv ov F Bg C)[2 + n]? = some (.int .i64 (F.getD n 0 : Nat)) := by
 rw [Qdk, Nat.add_comm, List.getElem?_cons_succ, List.getElem?_cons_succ, List.getElem?_append_left (by rw [Qar];omega), Qb6 (by omega)]
theorem QEe (hF : F.length = 22) (hB : Bg.length = 22) {n : Nat} (hn : n < 22) : (Qdk sv ov F Bg C)[24 + n]? = some (.int .i64 (Bg.getD n 0 : Nat)) := by
 rw [Qdk, show 24 + n = (22 + n + 1) + 1 by omega, List.getElem?_cons_succ, List.getElem?_cons_succ, List.getElem?_append_right (by rw [Qar];omega), Qar, hF, Nat.add_sub_cancel_left, List.getElem?_append_left (by rw [Qar];omega), Qb6 (by omega)]
theorem Qw1 (hF : F.length = 22) (hB : Bg.length = 22) (hC : C.length = 22) {n : Nat} (hn : n < 22) : (Qdk sv ov F Bg C)[46 + n]? = some (.int .i64 (C.getD n 0 : Nat)) := by
 rw [Qdk, show 46 + n = (44 + n + 1) + 1 by omega, List.getElem?_cons_succ, List.getElem?_cons_succ, List.getElem?_append_right (by rw [Qar];omega), Qar, hF, List.getElem?_append_right (by rw [Qar];omega), Qar, hB, show 44 + n - 22 - 22 = n by omega, Qb6 (by omega)]
theorem Qng (hF : F.length = 22) (hB : Bg.length = 22) (hC : C.length = 22) : (Qdk sv ov F Bg C).length = 68 := by simp [Qdk, Qar, hF, hB, hC]
theorem QIs (hF : F.length = 22) {n x : Nat} (hn : n < 22) : (Qdk sv ov F Bg C).set (2 + n) (.int .i64 (x : Nat)) = Qdk sv ov (F.set n x) Bg C := by
 rw [Qdk, Nat.add_comm, List.set_cons_succ, List.set_cons_succ, List.set_append_left _ _ (by rw [Qar];omega), Qce];rfl
theorem QIt (hF : F.length = 22) (hB : Bg.length = 22) {n x : Nat} (hn : n < 22) : (Qdk sv ov F Bg C).set (24 + n) (.int .i64 (x : Nat)) = Qdk sv ov F (Bg.set n x) C := by
 rw [Qdk, show 24 + n = (22 + n + 1) + 1 by omega, List.set_cons_succ, List.set_cons_succ, List.set_append_right _ _ (by rw [Qar];omega), Qar, hF, Nat.add_sub_cancel_left, List.set_append_left _ _ (by rw [Qar];omega), Qce];rfl
theorem QIu (hF : F.length = 22) (hB : Bg.length = 22) (hC : C.length = 22) {n x : Nat} (hn : n < 22) : (Qdk sv ov F Bg C).set (46 + n) (.int .i64 (x : Nat)) = Qdk sv ov F Bg (C.set n x) := by
 rw [Qdk, show 46 + n = (44 + n + 1) + 1 by omega, List.set_cons_succ, List.set_cons_succ, List.set_append_right _ _ (by rw [Qar];omega), Qar, hF, List.set_append_right _ _ (by rw [Qar];omega), Qar, hB, show 44 + n - 22 - 22 = n by omega, Qce];rfl
end
theorem QA7 {α : Type} (f : Nat -> α) (n : Nat) (d : α) (i : Nat) (h : i < n) : ((List.range n).map f).getD i d = f i := by
 rw [List.getD_eq_getElem?_getD, List.getElem?_map, List.getElem?_range h];rfl
def upTo (f : Nat -> Nat) (n : Nat) : List Nat := (List.range 22).map fun j => if j < n then f j else 0
theorem Qgj (f : Nat -> Nat) (n : Nat) : (upTo f n).length = 22 := by simp [upTo]
theorem Qw2 (f : Nat -> Nat) {n j : Nat} (hj : j < 22) : (upTo f n).getD j 0 = if j < n then f j else 0 := QA7 _ _ _ _ hj
theorem Qqf (f : Nat -> Nat) (n : Nat) (hn : n < 22) : (upTo f n).set n (f n) = upTo f (n + 1) := by
 apply List.ext_getElem
 ·
  simp [upTo]
 ·
  intro j h1 h2
  have hj : j < 22 := by simpa [upTo] using h2
  rw [List.getElem_set]
  simp only [upTo, List.getElem_map, List.getElem_range]
  by_cases e : n = j
  ·
   subst e;rw [if_pos rfl, if_pos (by omega)]
  ·
   rw [if_neg e]
   by_cases h3 : j < n
   ·
    rw [if_pos h3, if_pos (by omega)]
   ·
    rw [if_neg h3, if_neg (by omega)]
theorem Qls (l : List Nat) (hs : l.length <= 1000000000) (a : Option Addr) (lc : Nat) (w : World) (hr : RS w a l.length 1 (Qaq l)) :
  Does Tryz.prog 166 #[.agg #[.slice a l.length lc]] w fun v w' => Heap w [] w' [] /\ v = .int .i64 (maxL l : Nat) := by
 have hen : #[Value.agg #[Value.slice a l.length lc]] = [Value.agg [Value.slice a l.length lc].toArray].toArray := rfl
 rw [hen]
 refine Qak 18 Tryz.func166 rfl rfl (of_decide_eq_true rfl) ?_
 simp only [Env.ofArgs]
 generalize hn : l.length = n at *
 refine VR [1] rfl rfl fun K hK => ?_;simp only [go_sem,↓reduceIte,reduceEqDiff]
 refine Qcg ?_
 simp only [go_sem,↓reduceIte,reduceEqDiff]
 have hH := (Heap.start w).box 204 [.slice a n lc]
 generalize w.alloc (Obj.cells [Value.slice a n lc].toArray 204) = w1 at *
 generalize w.heap.size = gz at *
 (refine hK _ _ ?_;clear hK)
 refine VR [1, 3] rfl rfl fun K hK => ?_;simp only [go_sem,↓reduceIte,reduceEqDiff]
 (refine hK _ _ ?_;clear hK)
 refine VR [3, 7, 8, 9] rfl rfl fun K hK => ?_;simp only [go_sem,↓reduceIte,reduceEqDiff]
 refine ⟨_, Qac (hH.at 0 rfl) rfl, ?_⟩
 simp only [go_sem,↓reduceIte,reduceEqDiff]
 (refine hK _ _ ?_;clear hK)
 refine Qad ?_
 refine Qam [3, 7, 8, 9] (fun m e w' => ∃ (i : Nat), Is e [(3, .int .i64 (maxL (l.take i) : Nat)), (7, .slice a n lc), (8, .int .i64 n), (9, .int .i64 i)] /\ Is w' w1 /\ i <= n /\ m = n - i) n ?_ ?_
 ·
  simp only [go_sem,↓reduceIte,reduceEqDiff]
  exact ⟨0, rfl, rfl, by omega, rfl⟩
 rintro m e w' ⟨i, rfl, rfl, hi, rfl⟩
 refine VR [3, 7, 8, 9, 10] rfl rfl fun K hK => ?_;simp only [go_sem,↓reduceIte,reduceEqDiff]
 (refine hK _ _ ?_;clear hK)
 (repeat refine Qai ?_)
 refine Qab rfl rfl (fun h => ?_) (fun h => ?_)
 ·
  simp only [decide_eq_true_eq] at h
  obtain ⟨p, rfl⟩ := Qcx hr (by omega)
  have hcell := Qda (hH.rs' hr) (i := i) (by omega)
  have hs2 := Qi5 (l := l) (i := i) (by omega)
  refine Qaf ?_
  ((repeat refine Qai ?_);refine Qad ?_)
  refine VR [3, 5, 7, 8, 9] rfl rfl fun K hK => ?_;simp only [go_sem,↓reduceIte,reduceEqDiff]
  refine ⟨⟨by omega, by omega⟩, _, hcell, ?_⟩
  (refine hK _ _ ?_;clear hK)
  refine VR [3, 7, 8, 9] rfl rfl fun K hK => ?_;simp only [go_sem,↓reduceIte,reduceEqDiff]
  rw [show max ((maxL (l.take i) : Nat) : Int) ((l.getD i 0 : Nat) : Int) = ((maxL (l.take (i + 1)) : Nat) : Int) by rw [hs2];omega]
  (refine hK _ _ ?_;clear hK)
  refine Qav ?_
  refine VR [3, 7, 8, 9] rfl rfl fun K hK => ?_;simp only [go_sem,↓reduceIte,reduceEqDiff]
  ((repeat refine And.intro (by omega) ?_);refine hK _ _ ?_;clear hK)
  refine Qah ?_
  simp only [go_sem,↓reduceIte,reduceEqDiff]
  exact ⟨n - (i + 1), by omega, i + 1, rfl, rfl, by omega, rfl⟩
 ·
  simp only [decide_eq_false_iff_not] at h
  refine Qap rfl ?_
  refine VR [2] rfl rfl fun K hK => ?_;simp only [go_sem,↓reduceIte,reduceEqDiff]
  (refine hK _ _ ?_;clear hK)
  refine Qan (Qax rfl rfl ⟨hH.sub (by simp), ?_⟩)
  rw [List.take_of_length_le (by omega)]
def tabB (g : Nat) (sv : Value) (ao : Option Addr) (co no : Nat) (F Bg C : List Nat) : Res := Res.blk g 207 (Qdk sv (.slice ao no co) F Bg C)
def tabR (g : Nat) (sv : Value) (ao : Option Addr) (co : Nat) (l : List Nat) : Res := tabB g sv ao co (ordN l (maxL l)).length (upTo (Qbj l) (maxL l + 1)) (upTo (begS l) (maxL l + 1)) (upTo (cnt l) (maxL l + 1))
def ordR (ao : Option Addr) (co : Nat) (l : List Nat) : Res := Res.row 3 1 ao (ordN l (maxL l)).length co (Qaq (ordN l (maxL l)))
theorem Qmk {l : List Nat} (h : okL l) : 1 <= maxL l /\ maxL l <= 20 := by
 refine ⟨?_, Qhw.2 fun x hx => (h.2.2.1 x hx).2⟩
 obtain ⟨h1, _, h3, _⟩ := h
 cases l with
 | nil => simp at h1
 | cons x l => exact Nat.le_trans (h3 x (by simp)).1 (Qhw.1 (Nat.le_refl _) x (by simp))
theorem Qqg {f : Nat -> Nat} (h : f 0 = 0) : upTo f 1 = List.replicate 22 0 := by
 apply List.ext_getElem
 ·
  simp [upTo]
 ·
  intro j h1 h2
  simp only [upTo, List.getElem_map, List.getElem_range, List.getElem_replicate]
  split
  ·
   rw [show j = 0 by omega, h]
  ·
   rfl
section
variable {w0 w : World} {B : List Nat} {G : List Res} {g : Nat} {sv : Value} {ao : Option Addr} {co no : Nat} {F Bg C : List Nat} {D : World -> Prop}
theorem Qu7 (hH : Heap w0 B w G) (i : Nat) {n x : Nat} (hi : G[i]? = some (tabB g sv ao co no F Bg C)) (lF : F.length = 22) (lB : Bg.length = 22) (lC : C.length = 22) (hn : n < 22)
  (h : ∀ w', Heap w0 B w' (G.set i (tabB g sv ao co no (F.set n x) Bg C)) -> D w') : Qho Tryz.prog 3 (.pointer (some ⟨g, 2 + n, none⟩)) (.int .i64 (x : Nat)) w D := by
 refine Qal hH i (o := 2 + n) (vs := [.int .i64 (x : Nat)]) hi rfl (by kernel_rfl) (by rw [Qng lF lB lC];simp;omega) (by simp [Value.oneCell']) fun w' hH2 => h w' ?_
 rw [List.length_singleton, Qb1 _ _ _ (by rw [Qng lF lB lC];omega), QIs lF hn] at hH2
 exact hH2
theorem Qu8 (hH : Heap w0 B w G) (i : Nat) {n x : Nat} (hi : G[i]? = some (tabB g sv ao co no F Bg C)) (lF : F.length = 22) (lB : Bg.length = 22) (lC : C.length = 22) (hn : n < 22)
  (h : ∀ w', Heap w0 B w' (G.set i (tabB g sv ao co no F (Bg.set n x) C)) -> D w') : Qho Tryz.prog 3 (.pointer (some ⟨g, 24 + n, none⟩)) (.int .i64 (x : Nat)) w D := by
 refine Qal hH i (o := 24 + n) (vs := [.int .i64 (x : Nat)]) hi rfl (by kernel_rfl) (by rw [Qng lF lB lC];simp;omega) (by simp [Value.oneCell']) fun w' hH2 => h w' ?_
 rw [List.length_singleton, Qb1 _ _ _ (by rw [Qng lF lB lC];omega), QIt lF lB hn] at hH2
 exact hH2
theorem Qu9 (hH : Heap w0 B w G) (i : Nat) {n x : Nat} (hi : G[i]? = some (tabB g sv ao co no F Bg C)) (lF : F.length = 22) (lB : Bg.length = 22) (lC : C.length = 22) (hn : n < 22)
  (h : ∀ w', Heap w0 B w' (G.set i (tabB g sv ao co no F Bg (C.set n x))) -> D w') : Qho Tryz.prog 3 (.pointer (some ⟨g, 46 + n, none⟩)) (.int .i64 (x : Nat)) w D := by
 refine Qal hH i (o := 46 + n) (vs := [.int .i64 (x : Nat)]) hi rfl (by kernel_rfl) (by rw [Qng lF lB lC];simp;omega) (by simp [Value.oneCell']) fun w' hH2 => h w' ?_
 rw [List.length_singleton, Qb1 _ _ _ (by rw [Qng lF lB lC];omega), QIu lF lB lC hn] at hH2
 exact hH2
theorem Qva (hH : Heap w0 B w G) (i : Nat) {ao' : Option Addr} {co' no' : Nat} (hi : G[i]? = some (tabB g sv ao co no F Bg C)) (lF : F.length = 22) (lB : Bg.length = 22) (lC : C.length = 22)
  (h : ∀ w', Heap w0 B w' (G.set i (tabB g sv ao' co' no' F Bg C)) -> D w') : Qho Tryz.prog 36 (.pointer (some ⟨g, 1, none⟩)) (.slice ao' no' co') w D := by
 refine Qal hH i (o := 1) (vs := [.slice ao' no' co']) hi rfl (by kernel_rfl) (by rw [Qng lF lB lC];simp) (by simp [Value.oneCell']) fun w' hH2 => h w' ?_
 exact hH2
end
theorem Qsm (l : List Nat) (hok : okL l) (a : Option Addr) (lc : Nat) (w : World) (hr : RS w a l.length 1 (Qaq l)) :
  Does Tryz.prog 135 #[.slice a l.length lc] w fun v w' => ∃ g ao co, Heap w [] w' [tabR g (.slice a l.length lc) ao co l, ordR ao co l] /\ v = .tuple #[.pointer (some ⟨g, 0, none⟩), .int .i64 0] := by
 have hc1 := Qhd l a lc w hr
 rw [if_pos (Qme.2 hok)] at hc1
 obtain ⟨hL1, hL20⟩ := Qmk hok
 have hfl := fun n hn => Qjy hok (n := n) hn
 have hc0 : cnt l 0 = 0 := Qmx fun x hx => (hok.2.2.1 x hx).1
 obtain ⟨hl2, hl258, _, _⟩ := hok
 have hcl := Qls l (by omega) a lc
 refine Qak (args := [.slice a l.length lc]) 84 Tryz.func135 rfl rfl (of_decide_eq_true rfl) ?_
 simp only [Env.ofArgs]
 unfold tabR ordR tabB
 generalize hLL : maxL l = L at *
 generalize hn : l.length = n at *
 obtain ⟨p, rfl⟩ := Qcx hr (by omega)
 refine VR [0] rfl rfl fun K hK => ?_;simp -implicitDefEqProofs only [go_sem,↓reduceIte,reduceEqDiff]
 (refine hK _ _ ?_;clear hK)
 refine VR [0, 4] rfl rfl fun K hK => ?_;simp -implicitDefEqProofs only [go_sem,↓reduceIte,reduceEqDiff]
 refine Qag Tryz.call103 ?_;simp -implicitDefEqProofs only [go_sem,↓reduceIte,reduceEqDiff];refine CallK.mk hc1 ?_
 rintro v w2 ⟨rfl, rfl⟩
 (refine hK _ _ ?_;clear hK)
 refine VR [0, 4, 13] rfl rfl fun K hK => ?_;simp -implicitDefEqProofs only [go_sem,↓reduceIte,reduceEqDiff]
 (refine hK _ _ ?_;clear hK)
 refine Qab rfl rfl (fun h => by simp at h) (fun h => Qaf ?_)
 clear h hc1
 refine VR [5] rfl rfl fun K hK => ?_;simp -implicitDefEqProofs only [go_sem,↓reduceIte,reduceEqDiff]
 refine Qcg ?_
 simp -implicitDefEqProofs only [go_sem,↓reduceIte,reduceEqDiff]
 suffices hsuf : K [(5, .pointer (some ⟨w2.heap.size, 0, none⟩))] (w2.alloc (Obj.cells (Qdk (.slice (some p) n lc) (.slice none 0 0) (List.replicate 22 0) (List.replicate 22 0) (List.replicate 22 0)).toArray 207)) from hsuf
 have hH := ((Heap.start w2).box 207 (Qdk (.slice (some p) n lc) (.slice none 0 0) (List.replicate 22 0) (List.replicate 22 0) (List.replicate 22 0))).nilRow 3 1
 generalize w2.alloc (Obj.cells (Qdk (.slice (some p) n lc) (.slice none 0 0) (List.replicate 22 0) (List.replicate 22 0) (List.replicate 22 0)).toArray 207) = w3 at *
 generalize w2.heap.size = g at *
 (refine hK _ _ ?_;clear hK)
 refine VR [5, 6] rfl rfl fun K hK => ?_;simp -implicitDefEqProofs only [go_sem,↓reduceIte,reduceEqDiff]
 (refine hK _ _ ?_;clear hK)
 refine VR [5, 6, 7] rfl rfl fun K hK => ?_;simp -implicitDefEqProofs only [go_sem,↓reduceIte,reduceEqDiff]
 (refine hK _ _ ?_;clear hK)
 refine Qad ?_
 refine Qam [5, 6, 7] (fun m e w' => ∃ (j : Nat) (ao : Option Addr) (co : Nat), Is e [(5, .pointer (some ⟨g, 0, none⟩)), (6, .int .i64 (Qbj l j + cnt l j : Nat)), (7, .int .i64 (j + 1 : Nat))] /\ Heap w2 [] w' [Res.row 3 1 ao (ordN l j).length co (Qaq (ordN l j)), tabB g (.slice (some p) n lc) ao co (ordN l j).length (upTo (Qbj l) (j + 1)) (upTo (begS l) (j + 1)) (upTo (cnt l) (j + 1))] /\ j <= L /\ m = L - j) L ?_ ?_
 ·
  simp -implicitDefEqProofs only [go_sem,↓reduceIte,reduceEqDiff]
  refine ⟨0, none, 0, ?_, ?_, by omega, rfl⟩
  ·
   rw [hc0];rfl
  ·
   rw [Qqg rfl, Qqg rfl, Qqg hc0]
   exact hH
 clear hH
 rintro m e w4 ⟨j, ao, co, rfl, hH, hj, rfl⟩
 have hcz : (Qdk (.slice (some p) n lc) (.slice ao (ordN l j).length co) (upTo (Qbj l) (j + 1)) (upTo (begS l) (j + 1)) (upTo (cnt l) (j + 1)))[0]? = some (.slice (some p) n lc) := rfl
 have hsv : Reads w4 ⟨g, 0, none⟩ [.slice (some p) n lc] := by
  intro q u hu
  cases q with
  | zero =>
   simp at hu;subst hu
   exact Qac (hH.at 1 rfl) hcz
  | succ q => simp at hu
 have hol := Qmj l j
 rw [hn] at hol
 have hol2 : (ordN l j).length <= 20 * 258 := Nat.le_trans hol (Nat.mul_le_mul (by omega) hl258)
 have hf1 := hfl j (by omega)
 have hp2 : 2 ^ j <= 2 ^ 20 := Nat.pow_le_pow_right (by omega) (by omega)
 have hp3 : 2 ^ j <= 1048576 := hp2
 refine VR [5, 6, 7, 25] rfl rfl fun K hK => ?_;simp -implicitDefEqProofs only [go_sem,↓reduceIte,reduceEqDiff]
 refine ⟨_, ⟨rfl, hsv⟩, ?_⟩
 refine Qag Tryz.call166 ?_;simp -implicitDefEqProofs only [go_sem,↓reduceIte,reduceEqDiff];refine CallK.mk (hcl w4 (hH.rs' hr)) ?_
 rintro v w5 ⟨hHl, rfl⟩
 have hH2 := hH.call0 hHl
 simp only [List.nil_append] at hH2
 clear hH hHl hsv
 simp -implicitDefEqProofs only [go_sem,↓reduceIte,reduceEqDiff]
 (refine hK _ _ ?_;clear hK)
 refine Qab rfl rfl (fun h => ?_) (fun h => ?_)
 ·
  simp only [decide_eq_true_eq] at h
  have hj2 : j + 1 <= L := by omega
  have hf2 := hfl (j + 1) (by omega)
  have hp4 : 2 ^ (j + 1) <= 2 ^ 20 := Nat.pow_le_pow_right (by omega) (by omega)
  have hp5 : 2 ^ (j + 1) <= 1048576 := hp4
  have hfs : Qbj l (j + 1) = (Qbj l j + cnt l j) * 2 := by rw [Qbj, Nat.mul_comm]
  have hbs : begS l (j + 1) = (ordN l j).length := by rw [begS, Nat.add_sub_cancel]
  have hsF := Qqf (Qbj l) (j + 1) (by omega)
  have hsB := Qqf (begS l) (j + 1) (by omega)
  have hsC := Qqf (cnt l) (j + 1) (by omega)
  have lF := Qgj (Qbj l) (j + 1)
  have lB := Qgj (begS l) (j + 1)
  have lC := Qgj (cnt l) (j + 1)
  have lF2 := Qgj (Qbj l) (j + 1 + 1)
  have lB2 := Qgj (begS l) (j + 1 + 1)
  have hcnt : (idxN l (j + 1) n).length = cnt l (j + 1) := by rw [cnt, idxs, hn]
  have hoS : ordN l (j + 1) = ordN l j ++ idxN l (j + 1) n := by rw [ordN, idxs, hn]
  generalize hFF : upTo (Qbj l) (j + 1) = F at *
  generalize hBB : upTo (begS l) (j + 1) = Bg at *
  generalize hCC : upTo (cnt l) (j + 1) = C at *
  generalize hO : ordN l j = O at *
  refine Qaf ?_
  ((repeat refine Qai ?_);refine Qad ?_)
  refine VR [5, 6, 7] rfl rfl fun K hK => ?_;simp -implicitDefEqProofs only [go_sem,↓reduceIte,reduceEqDiff]
  rw [show shN IntKind.i64 1 = 1 from rfl, show (((Qbj l j + cnt l j : Nat) : Int) * 2 ^ 1) = ((Qbj l (j + 1) : Nat) : Int) by rw [hfs];push_cast;rfl]
  (repeat first | refine And.intro (by omega) ?_ | refine ⟨⟨by omega, by omega⟩, ?_⟩)
  (refine hK _ _ ?_;clear hK)
  (repeat refine Qai ?_);refine Qbz [5, 6, 7] [(0, 0), (1, 0), (2, 0), (3, 0), (4, 0), (5, 0), (6, 0), (7, 0), (10, 0), (11, 0), (14, 0), (15, 0), (8, 1), (9, 0), (12, 0), (13, 2), (16, 0), (17, 2)] (by kernel_rfl) (by kernel_rfl) (by kernel_rfl) (by simp only [Qay, List.map_cons, List.map_nil, beq_self_eq_true, Nat.reduceBEq, List.filterMap_cons, List.filterMap_nil, List.getElem?_cons_succ, List.getElem?_cons_zero, Option.map_some];rfl) fun K hK => ?_;simp -implicitDefEqProofs only [go_sem,↓reduceIte,reduceEqDiff]
  refine ⟨_, Qac (hH2.at 1 rfl) (show (Qdk (.slice (some p) n lc) (.slice ao O.length co) F Bg C)[1]? = some _ from rfl), ?_⟩
  simp -implicitDefEqProofs only [go_sem,↓reduceIte,reduceEqDiff]
  refine ⟨⟨by omega, by omega⟩, ?_⟩
  refine Qae ?_
  simp -implicitDefEqProofs only [go_sem,↓reduceIte,reduceEqDiff]
  refine Qu7 hH2 1 (n := j + 1) rfl lF lB lC (by omega) fun w6 hH3 => ?_
  simp only [List.set_cons_succ, List.set_cons_zero, hsF] at hH3
  refine ⟨⟨by omega, by omega⟩, ?_⟩
  refine Qae ?_
  simp -implicitDefEqProofs only [go_sem,↓reduceIte,reduceEqDiff]
  rw [<- hbs]
  refine Qu8 hH3 1 (n := j + 1) rfl lF2 lB lC (by omega) fun w7 hH4 => ?_
  simp only [List.set_cons_succ, List.set_cons_zero, hsB] at hH4
  clear hH2 hH3
  (refine hK _ _ ?_;clear hK)
  refine VR [5, 6, 7, 50, 51, 52] rfl rfl fun K hK => ?_;simp -implicitDefEqProofs only [go_sem,↓reduceIte,reduceEqDiff]
  refine ⟨_, Qac (hH4.at 1 rfl) (show (Qdk (.slice (some p) n lc) (.slice ao (begS l (j + 1)) co) (upTo (Qbj l) (j + 1 + 1)) (upTo (begS l) (j + 1 + 1)) C)[0]? = some _ from rfl), ?_⟩
  simp -implicitDefEqProofs only [go_sem,↓reduceIte,reduceEqDiff]
  (refine hK _ _ ?_;clear hK)
  refine Qad ?_
  refine Qam [5, 6, 7, 50, 51, 52] (fun m e w' => ∃ (i : Nat) (ao : Option Addr) (co : Nat), Is e [(5, .pointer (some ⟨g, 0, none⟩)), (6, .int .i64 (Qbj l (j + 1) + (idxN l (j + 1) i).length : Nat)), (7, .int .i64 (j + 1 : Nat)), (50, .slice (some p) n lc), (51, .int .i64 n), (52, .int .i64 i)] /\ Heap w2 [] w' [Res.row 3 1 ao (O ++ idxN l (j + 1) i).length co (Qaq (O ++ idxN l (j + 1) i)), tabB g (.slice (some p) n lc) ao co (O ++ idxN l (j + 1) i).length (upTo (Qbj l) (j + 1 + 1)) (upTo (begS l) (j + 1 + 1)) (C.set (j + 1) (idxN l (j + 1) i).length)] /\ i <= n /\ m = n - i) n ?_ ?_
  ·
   simp -implicitDefEqProofs only [go_sem,↓reduceIte,reduceEqDiff]
   have e0 : idxN l (j + 1) 0 = [] := rfl
   refine ⟨0, ao, co, rfl, ?_, by omega, rfl⟩
   have hcs : C.set (j + 1) (idxN l (j + 1) 0).length = C := by
    rw [e0, List.length_nil]
    apply List.ext_getElem
    ·
     simp
    ·
     intro q h1 h2
     rw [List.getElem_set]
     split
     ·
      rename_i e
      subst e
      have := Qw2 (cnt l) (n := j + 1) (j := j + 1) (by omega)
      rw [hCC, if_neg (by omega), List.getD_eq_getElem?_getD, List.getElem?_eq_getElem h2] at this
      exact this.symm
     ·
      rfl
   rw [hcs, e0, List.append_nil]
   exact hH4
  clear hH4
  rintro m e w8 ⟨i, ao, co, rfl, hH, hi, rfl⟩
  refine VR [5, 6, 7, 50, 51, 52, 53] rfl rfl fun K hK => ?_;simp -implicitDefEqProofs only [go_sem,↓reduceIte,reduceEqDiff]
  (refine hK _ _ ?_;clear hK)
  (repeat refine Qai ?_)
  refine Qab rfl rfl (fun h => ?_) (fun h => ?_)
  ·
   simp only [decide_eq_true_eq] at h
   have hcell := Qda (hH.rs' hr) (i := i) (by omega)
   have hix := Qhz l (j + 1) i
   have hil := Qwn l (j + 1) i
   have hlC : (C.set (j + 1) (idxN l (j + 1) i).length).length = 22 := by rw [List.length_set];exact lC
   have hgC : (C.set (j + 1) (idxN l (j + 1) i).length).getD (j + 1) 0 = (idxN l (j + 1) i).length := Qcv (by omega)
   have hset : ∀ x, (C.set (j + 1) (idxN l (j + 1) i).length).set (j + 1) x = C.set (j + 1) x := fun x => List.set_set _
   generalize hx : l.getD i 0 = x at *
   generalize hI : idxN l (j + 1) i = I at *
   refine Qaf ?_
   ((repeat refine Qai ?_);refine Qad ?_)
   refine VR [5, 6, 7, 8, 9, 50, 51, 52] rfl rfl fun K hK => ?_;simp -implicitDefEqProofs only [go_sem,↓reduceIte,reduceEqDiff]
   refine ⟨⟨by omega, by omega⟩, _, hcell, ?_⟩
   (refine hK _ _ ?_;clear hK)
   refine VR [5, 6, 7, 8, 50, 51, 52, 59] rfl rfl fun K hK => ?_;simp -implicitDefEqProofs only [go_sem,↓reduceIte,reduceEqDiff]
   (refine hK _ _ ?_;clear hK)
   refine Qab rfl rfl (fun h => ?_) (fun h => ?_)
   ·
    simp only [decide_eq_true_eq] at h
    rw [if_pos (by omega)] at hix
    refine VR [5, 6, 7, 50, 51, 52] rfl rfl fun K hK => ?_;simp -implicitDefEqProofs only [go_sem,↓reduceIte,reduceEqDiff]
    refine ⟨_, Qac (hH.at 1 rfl) (show (Qdk (.slice (some p) n lc) (.slice ao (O ++ I).length co) (upTo (Qbj l) (j + 1 + 1)) (upTo (begS l) (j + 1 + 1)) (C.set (j + 1) I.length))[1]? = some _ from rfl), ?_⟩
    refine Qc3 (xs := [.tmp 65]) Tryz.underlying36 sz3 rfl rfl rfl (by omega) ?_;simp -implicitDefEqProofs only [go_sem,↓reduceIte,reduceEqDiff];refine ⟨by simp [Value.cells], ?_⟩
    refine Qa6 ?_;simp -implicitDefEqProofs only [go_sem,↓reduceIte,reduceEqDiff];refine Qqe hH 0 (i) rfl Tryz.underlying36 zi3 (by first | rfl | (simp;done) | omega | (simp;omega)) (fun h => by (first | omega | (simp;done) | (simp;omega))) fun a' cap' w5 hc' hH5 => ?_;(try simp -implicitDefEqProofs only [go_sem,↓reduceIte,reduceEqDiff])
    simp only [List.set_cons_zero] at hH5
    rw [List.append_assoc, <- hix] at hH5 ⊢
    refine Qae ?_
    simp -implicitDefEqProofs only [go_sem,↓reduceIte,reduceEqDiff]
    refine Qva hH5 1 rfl lF2 lB2 hlC fun w9 hH6 => ?_
    simp only [List.set_cons_succ, List.set_cons_zero] at hH6
    clear hH5
    (refine hK _ _ ?_;clear hK)
    have hcc := Qw1 (sv := .slice (some p) n lc) (ov := .slice a' (O ++ idxN l (j + 1) (i + 1)).length cap') lF2 lB2 hlC (n := j + 1) (by omega)
    rw [hgC] at hcc
    (repeat refine Qai ?_);refine Qa8 [5, 6, 7, 50, 51, 52] 10 (by kernel_rfl) (by kernel_rfl) (by kernel_rfl) rfl fun K hK => ?_;simp -implicitDefEqProofs only [go_sem,↓reduceIte,reduceEqDiff]
    refine ⟨⟨by omega, by omega⟩, _, Qac (hH6.at 1 rfl) hcc, ?_⟩
    simp -implicitDefEqProofs only [go_sem,↓reduceIte,reduceEqDiff]
    refine ⟨I64.mk (by omega) (by omega), ⟨by omega, by omega⟩, ?_⟩
    refine Qae ?_
    simp -implicitDefEqProofs only [go_sem,↓reduceIte,reduceEqDiff]
    refine Qu9 hH6 1 (n := j + 1) (x := I.length + 1) rfl lF2 lB2 hlC (by omega) fun w10 hH7 => ?_
    simp only [List.set_cons_succ, List.set_cons_zero, hset] at hH7
    (refine hK _ _ ?_;clear hK)
    refine VR [5, 6, 7, 50, 51, 52] rfl rfl fun K hK => ?_;simp -implicitDefEqProofs only [go_sem,↓reduceIte,reduceEqDiff]
    ((repeat refine And.intro (by omega) ?_);refine hK _ _ ?_;clear hK)
    refine Qav ?_
    refine VR [5, 6, 7, 50, 51, 52] rfl rfl fun K hK => ?_;simp -implicitDefEqProofs only [go_sem,↓reduceIte,reduceEqDiff]
    ((repeat refine And.intro (by omega) ?_);refine hK _ _ ?_;clear hK)
    refine Qah ?_
    simp -implicitDefEqProofs only [go_sem,↓reduceIte,reduceEqDiff]
    have hil2 : (idxN l (j + 1) (i + 1)).length = I.length + 1 := by rw [hix];simp
    refine ⟨n - (i + 1), by omega, i + 1, a', cap', ?_, ?_, by omega, rfl⟩
    ·
     rw [hil2];rfl
    ·
     rw [hil2];exact hH7
   ·
    simp only [decide_eq_false_iff_not] at h
    rw [if_neg (by omega), List.append_nil] at hix
    refine Qaf ?_
    refine Qav ?_
    refine VR [5, 6, 7, 50, 51, 52] rfl rfl fun K hK => ?_;simp -implicitDefEqProofs only [go_sem,↓reduceIte,reduceEqDiff]
    ((repeat refine And.intro (by omega) ?_);refine hK _ _ ?_;clear hK)
    refine Qah ?_
    simp -implicitDefEqProofs only [go_sem,↓reduceIte,reduceEqDiff]
    exact ⟨n - (i + 1), by omega, i + 1, ao, co, by rw [hix];rfl, by rw [hix];exact hH, by omega, rfl⟩
  ·
   simp only [decide_eq_false_iff_not] at h
   obtain rfl : i = n := by omega
   rw [hcnt, hsC, <- hoS] at hH
   refine Qap rfl ?_
   refine Qav ?_
   rw [hcnt]
   refine VR [5, 6, 7] rfl rfl fun K hK => ?_;simp -implicitDefEqProofs only [go_sem,↓reduceIte,reduceEqDiff]
   ((repeat refine And.intro (by omega) ?_);refine hK _ _ ?_;clear hK)
   refine Qah ?_
   simp -implicitDefEqProofs only [go_sem,↓reduceIte,reduceEqDiff]
   exact ⟨L - (j + 1), by omega, j + 1, ao, co, rfl, hH, by omega, rfl⟩
 ·
  simp only [decide_eq_false_iff_not] at h
  obtain rfl : j = L := by omega
  refine Qap rfl ?_
  refine VR [2, 3] rfl rfl fun K hK => ?_;simp -implicitDefEqProofs only [go_sem,↓reduceIte,reduceEqDiff]
  (refine hK _ _ ?_;clear hK)
  exact Qan (Qa9 rfl rfl rfl ⟨g, ao, co, hH2.perm (List.Perm.swap _ _ _), rfl⟩)
end Go.Proofs.YtfphmlhgebpojaaGreat
