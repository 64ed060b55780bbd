/- A program logic over the model: what is left to do, what is known of the frame, what the call holds of memory. No conditions: a library of lemmas. -/
import Derived.Test.YtklpiecolpnmlaaDoorEngC
import Derived.OrdersHeld
set_option linter.unusedSimpArgs false
set_option linter.unusedVariables false
/-! The engine, part 9: stores, append, copy, over what the call holds. -/
namespace Go.Eng
open Go

section
variable {P : Program} {N : Nat} {d : Option Tmp} {ty : Nat} {pos : String} {af : Array Edge} {gd : Option (Nat × Bool)} {e : Env} {w : World} {R : Env → World → (Env → World → Prop) → Prop} {K : Env → World → Prop}

/-- A store of a value of so many cells at an address. -/
def StoreK (P : Program) (T : TypeId) (x v : Value) (w : World) (C : World → Prop) : Prop :=
  ∃ w', (∀ n, (Instr.storeAt T x v).run P (w.drewN n) = .ok () (w'.drewN n)) ∧ C w'

theorem MemK_store {T : TypeId} {x y : Operand} (h : arg e x fun a => arg e y fun v => StoreK P T a v w fun w' => R (e.put d undef) w' K) :
    MemK P N ⟨d, .store T x y, ty, pos, af, gd⟩ e w R K :=
  Mem_of_skip fun a n ha => by
    obtain ⟨w', hr, hC⟩ := arg_sound (K := fun v => StoreK P T (a.eval x) v w fun w' => R (e.put d undef) w' K) ha (arg_sound (K := fun b => arg e y fun v => StoreK P T b v w fun w' => R (e.put d undef) w' K) ha h)
    exact ⟨w', n, by simp only [execOp, Sem.run_bind, hr n, Result.andThen_ok, Sem.run_pure], hC⟩

theorem run_storeVar_blk {T : TypeId} {g o : Nat} {T' : TypeId} {fz : Nat × Nat} {cs vs : List Value} {v : Value} (hv : v.cells = vs.toArray) (hsz : P.szo T = some vs.length) (hg : w.heap[g]? = some (.cells cs.toArray T' fz)) (hfz : Unfz fz cs.length) (hl : o + vs.length ≤ cs.length) (h1 : ∀ u ∈ vs, u.oneCell' = true) (n : Nat) :
    (Instr.storeAt T (.pointer (some ⟨g, o, none⟩)) v).run P (w.drewN n) = .ok () ((putBlk w g (cs.take o ++ vs ++ cs.drop (o + vs.length)) T' fz).drewN n) := by
  have hs := run_szo (P := P) hsz
  have hst := run_storeCells_blk (P := P) g o T' fz vs 0 cs (w.drewN n) hg hfz (by simpa using hl) h1
  simp only [Instr.storeAt, Instr.sureAddr, storeVar, Sem.run_bind, Sem.run_pure, Result.andThen_ok, hs, hv]
  rw [if_neg (by simp)]
  rw [hst]
  simp [putBlk_drewN]

/-- A block known whole: a boxed variable, a struct, an array. -/
def Res.blk (g : Nat) (T : TypeId) (cs : List Value) : Res where
  foot := [g]
  holds := fun w => ∃ fz, w.heap[g]? = some (.cells cs.toArray T fz) ∧ Unfz fz cs.length
  loc := by
    rintro w w' hb ⟨fz, h1, h2⟩
    exact ⟨fz, by rw [hb g (by simp)]; exact h1, h2⟩

theorem unfz00 (n : Nat) : Unfz (0, 0) n := fun j _ => by simp

theorem Heap.box {w0 w : World} {B : List Nat} {G : List Res} (h : Heap w0 B w G) (T : TypeId) (cs : List Value) : Heap w0 B (w.alloc (.cells cs.toArray T)) (Res.blk w.heap.size T cs :: G) :=
  h.new _ ⟨(0, 0), heap_alloc_new w _, unfz00 _⟩ (by simp [Res.blk])

theorem Heap.row {w0 w : World} {B : List Nat} {G : List Res} (h : Heap w0 B w G) (T : TypeId) {n cap sz : Nat} (xs rest : List Value) (h1 : xs.length = n * sz) (h2 : (xs ++ rest).length = cap * sz) (h3 : n ≤ cap) (h4 : cap ≤ 9223372036854775807) :
    Heap w0 B (w.alloc (.cells (xs ++ rest).toArray T)) (Res.row T sz (some ⟨w.heap.size, 0, none⟩) n cap xs :: G) :=
  h.new _ ⟨h1, h3, by simp only [maxLen]; omega, .inr ⟨w.heap.size, rest, (0, 0), rfl, heap_alloc_new w _, h2, unfz00 _⟩⟩ (by simp [Res.row])

/-- A store into a block that is known whole. -/
theorem StoreK_blk {w0 : World} {B : List Nat} {G : List Res} (hH : Heap w0 B w G) (i : Nat) {g o : Nat} {T T' : TypeId} {cs vs : List Value} {v : Value} {C : World → Prop} (hi : G[i]? = some (Res.blk g T' cs)) (hv : v.cells = vs.toArray) (hsz : P.szo T = some vs.length) (hl : o + vs.length ≤ cs.length) (h1 : ∀ u ∈ vs, u.oneCell' = true)
    (h : ∀ w', Heap w0 B w' (G.set i (Res.blk g T' (cs.take o ++ vs ++ cs.drop (o + vs.length)))) → C w') : StoreK P T (.pointer (some ⟨g, o, none⟩)) v w C := by
  obtain ⟨fz, hg, hfz⟩ := hH.at i hi
  have hlt : g < w.heap.size := (Array.getElem?_eq_some_iff.1 hg).1
  refine ⟨_, run_storeVar_blk hv hsz hg hfz hl h1, h _ (hH.set i hi (putBlk_upd _ _ _ _ _) ⟨fz, putBlk_at hlt, ?_⟩ ?_)⟩
  · have : (cs.take o ++ vs ++ cs.drop (o + vs.length)).length = cs.length := by simp; omega
    rw [this]; exact hfz
  · intro b hb
    exact ⟨.inl hb, by rw [putBlk_size]; simp [Res.blk] at hb; omega⟩

/-- A store into an element of a row. -/
theorem StoreK_row {w0 : World} {B : List Nat} {G : List Res} (hH : Heap w0 B w G) (i : Nat) {o n cap sz : Nat} {ad ap : Addr} {T T' : TypeId} {xs vs : List Value} {v : Value} {C : World → Prop} (hi : G[i]? = some (Res.row T' sz (some ad) n cap xs)) (hp : ap = ad.add o) (hv : v.cells = vs.toArray) (hsz : P.szo T = some vs.length) (hl : o + vs.length ≤ xs.length) (h1 : ∀ u ∈ vs, u.oneCell' = true)
    (h : ∀ w', Heap w0 B w' (G.set i (Res.row T' sz (some ad) n cap (xs.take o ++ vs ++ xs.drop (o + vs.length)))) → C w') : StoreK P T (.pointer (some ap)) v w C := by
  obtain ⟨h2, h3, h4, h5⟩ := hH.at i hi
  rcases h5 with h5 | ⟨g, rest, fz, hg0, hg, hl2, hfz⟩
  · cases h5.1
  · cases hg0
    subst hp
    have hlt : g < w.heap.size := (Array.getElem?_eq_some_iff.1 hg).1
    have hadd : (⟨g, 0, none⟩ : Addr).add o = ⟨g, o, none⟩ := by unfold Addr.add; split <;> simp_all
    rw [hadd]
    have hlen : o + vs.length ≤ (xs ++ rest).length := by simp; omega
    refine ⟨_, run_storeVar_blk hv hsz hg (by rw [hl2]; exact hfz) hlen h1, h _ (hH.set i hi (putBlk_upd _ _ _ _ _) ?_ ?_)⟩
    · refine ⟨by simp; omega, h3, h4, .inr ⟨g, rest, fz, rfl, ?_, by simp at hl2 ⊢; omega, hfz⟩⟩
      rw [putBlk_at hlt]
      congr 3
      rw [List.take_append_of_le_length (by omega), List.drop_append_of_le_length (by omega)]
      simp
    · intro b hb
      exact ⟨.inl hb, by rw [putBlk_size]; simp [Res.row] at hb; omega⟩

/-! append -/

/-- What is appended: so many cells. -/
def Src (P : Program) (w : World) (x : Value) (T' : TypeId) (sz m : Nat) (news : List Value) : Prop :=
  match x with
  | .slice a k _ => k = m ∧ RS w a m sz news ∧ (∃ E, P.underlying T' = some (.slice E))
  | .string s => m = (toL s).length ∧ sz = 1 ∧ news = bytesV (toL s) ∧ P.underlying T' = some .string
  | _ => False

theorem Src.spec {x : Value} {T' : TypeId} {sz m : Nat} {news : List Value} (h : Src P w x T' sz m news) :
    news.length = m * sz ∧ (∀ w, (Builtin.lenOf x).run P w = .ok m w) ∧ (∀ w', w'.heap = w.heap → (Builtin.firstCells sz m x).run P w' = .ok news.toArray w') ∧ (∃ dd, P.underlying T' = some dd ∧ ∀ k, dd ≠ .int k) := by
  unfold Src at h
  split at h
  · rename_i a k c
    obtain ⟨rfl, ⟨h1, h2, h3⟩, E, hE⟩ := h
    refine ⟨h1, fun w => by simp [Builtin.lenOf], fun w' hw => ?_, _, hE, by simp⟩
    cases a with
    | none =>
      have := h2 rfl
      subst this
      have : news = [] := List.eq_nil_of_length_eq_zero (by simpa using h1)
      subst this
      simp [Builtin.firstCells]
    | some ad => exact run_firstCells_some (P := P) w' sz k ad k c news h1 (fun j v hv => (h3 ad rfl).heap hw j v hv)
  · rename_i s
    obtain ⟨rfl, rfl, rfl, hu⟩ := h
    refine ⟨by simp [bytesV], fun w => by simp only [Builtin.lenOf, Sem.run_pure]; rfl, fun w' _ => ?_, _, hu, by simp⟩
    have : s.extract 0 (toL s).length = s := by
      rw [str_extract, List.drop_zero, List.take_of_length_le (by simp [toL]), Array.toArray_toList]
    simp only [Builtin.firstCells, Sem.run_pure, this, bytesV, toL]
    congr 1
    apply Array.ext'; simp
  · exact h.elim

theorem notInt {dd : TypeDesc} (h : ∀ k, dd ≠ .int k) : (match (generalizing := false) dd with | .int _ => true | _ => false) = false := by cases dd <;> first | rfl | exact absurd rfl (h _)

/-- append, over a row of the call's own. -/
theorem run_append_row {w0 : World} {B : List Nat} {G : List Res} (hH : Heap w0 B w G) (i : Nat) {T T' E ty : TypeId} {sz bytes : Nat} {zs : Array Value} {a : Option Addr} {n cap m : Nat} {xs news : List Value} {x : Value}
    (hi : G[i]? = some (Res.row E sz a n cap xs)) (hu : P.underlying T = some (.slice E)) (hz : (P.info? E).map (fun i => (i.zero.map Value.cells, i.size, i.bytes)) = some (some zs, sz, bytes)) (hzs : zs.size = sz)
    (hs : Src P w x T' sz m news) (h1 : ∀ u ∈ news, u.oneCell' = true) (hb : cap < n + m → (n + m) * bytes ≤ 140737488355328 ∧ n + m ≤ 9223372036854775807) (k : Nat) :
    ∃ a' cap' w' k', (Builtin.append_ #[T, T'] ty #[.slice a n cap, x]).run P (w.drewN k) = .ok (.slice a' (n + m) cap') (w'.drewN k') ∧ Heap w0 B w' (G.set i (Res.row E sz a' (n + m) cap' (xs ++ news))) ∧ (n + m ≤ cap → a' = a ∧ cap' = cap) := by
  have hrow := hH.at i hi
  obtain ⟨hxl, hnc, hcm, hcase⟩ := hrow
  obtain ⟨hnl, hlen, hfirst, dd, hdd, hni⟩ := hs.spec
  cases hinfo : P.info? E with
  | none => simp [hinfo] at hz
  | some ti =>
  simp only [hinfo, Option.map_some, Option.some.injEq, Prod.mk.injEq] at hz
  obtain ⟨hz1, hz2, hz3⟩ := hz
  cases hzz : ti.zero with
  | none => simp [hzz] at hz1
  | some z =>
  simp only [hzz, Option.map_some, Option.some.injEq] at hz1
  have hso : ∀ w, (sizeOf E).run P w = .ok sz w := fun w => by simp [sizeOf, typeInfo, hinfo, hz2]
  have hti : ∀ w, (typeInfo E).run P w = .ok ti w := fun w => by simp [typeInfo, hinfo]
  have hzv : ∀ w, (zeroValue E).run P w = .ok z w := fun w => by simp [zeroValue, typeInfo, hinfo, hzz]
  have hund : ∀ w, (underlying T').run P w = .ok dd w := fun w => run_underlying hdd w
  have hmatch := notInt hni
  by_cases hroom : n + m ≤ cap
  · -- there is room
    rcases hcase with ⟨rfl, rfl, rfl⟩ | ⟨g, rest, fz, rfl, hg, hl2, hfz⟩
    · have hm : m = 0 := by omega
      subst hm
      have hn : news = [] := List.eq_nil_of_length_eq_zero (by simpa using hnl)
      subst hn
      refine ⟨none, 0, w, k, ?_, ?_, fun _ => ⟨rfl, rfl⟩⟩
      · simp [Builtin.append_, run_underlying hu, hso, hund, hlen, hfirst (w.drewN k) rfl]
      · have : xs ++ [] = xs := by simp
        rw [this]
        have : G.set i (Res.row E sz none 0 0 xs) = G := by
          apply List.ext_getElem?
          intro j
          rw [List.getElem?_set]
          split
          · rename_i hj; subst hj; split <;> simp_all
          · rfl
        simp only [Nat.zero_add]
        rw [this]; exact hH
    · have hlt : g < w.heap.size := (Array.getElem?_eq_some_iff.1 hg).1
      have hfit : n * sz + news.length ≤ (xs ++ rest).length := by rw [hl2, hnl, ← Nat.add_mul]; exact Nat.mul_le_mul_right _ hroom
      have hst := run_storeCells_blk (P := P) g (n * sz) E fz news 0 (xs ++ rest) (w.drewN k) hg (by rw [hl2]; exact hfz) (by simpa using hfit) h1
      have hadd : (⟨g, 0, none⟩ : Addr).add (n * sz) = ⟨g, n * sz, none⟩ := by unfold Addr.add; split <;> simp_all
      have hcs : (xs ++ rest).take (n * sz + 0) ++ news ++ (xs ++ rest).drop (n * sz + 0 + news.length) = (xs ++ news) ++ rest.drop news.length := by
        rw [Nat.add_zero, ← hxl, List.take_left]
        rw [List.drop_append]
        simp
      rw [hcs] at hst
      refine ⟨some ⟨g, 0, none⟩, cap, putBlk w g ((xs ++ news) ++ rest.drop news.length) E fz, k, ?_, ?_, fun _ => ⟨rfl, rfl⟩⟩
      · simp [Builtin.append_, run_underlying hu, hso, hund, hlen, hfirst (w.drewN k) rfl, hroom, hadd, hst, putBlk_drewN]
      · refine hH.set i hi (putBlk_upd _ _ _ _ _) ⟨?_, hroom, hcm, .inr ⟨g, rest.drop news.length, fz, rfl, putBlk_at hlt, ?_, hfz⟩⟩ ?_
        · rw [List.length_append, hxl, hnl, Nat.add_mul]
        · simp at hl2 hfit ⊢; omega
        · intro b hb; exact ⟨.inl hb, by rw [putBlk_size]; simp [Res.row] at hb; omega⟩
  · -- it grows
    obtain ⟨hb1, hb2⟩ := hb (by omega)
    have hg63 : ¬ ((n + m : Nat) : Int) > IntKind.i64.max := by
      have : IntKind.i64.max = 9223372036854775807 := by decide
      rw [this]; omega
    have hfits : ¬ (Builtin.nextslicecap (n + m) cap * ti.bytes > 2 ^ 48) := by
      have := growslice_fits (need := n + m) (old := cap) (bytes := ti.bytes) (by omega) (by rw [hz3]; exact hb1)
      have e : (2 : Nat) ^ 48 = 281474976710656 := by decide
      rw [e]; omega
    have hold : (Builtin.firstCells sz n (.slice a n cap)).run P (w.drewN (k + 1)) = .ok xs.toArray (w.drewN (k + 1)) := by
      have hrs := row_rs (hH.at i hi)
      cases a with
      | none =>
        have hn0 := hrs.2.1 rfl
        subst hn0
        have : xs = [] := List.eq_nil_of_length_eq_zero (by simpa using hxl)
        subst this
        simp [Builtin.firstCells]
      | some ad => exact run_firstCells_some (P := P) _ sz n ad n cap xs hxl (fun j v hv => (hrs.2.2 ad rfl).heap (w' := w.drewN (k + 1)) rfl j v hv)
    have hge := grownCap_ge (w.drewN k) (n + m) cap E
    have hcm' := grownCap_le_maxLen (w.drewN k) (n + m) cap E (by simp only [maxLen]; omega)
    refine ⟨some ⟨w.heap.size, 0, none⟩, grownCap (w.drewN k) (n + m) cap E, w.alloc (.cells (xs.toArray ++ news.toArray ++ Builtin.zeroCells z.cells (grownCap (w.drewN k) (n + m) cap E - (n + m))) E), k + 1, ?_, ?_, fun h => absurd h hroom⟩
    · have hz2' : ¬ (9223372036854775807 < ((n : Int) + (m : Int))) := by omega
      have hz3' : ¬ (281474976710656 < Builtin.nextslicecap (n + m) cap * ti.bytes) := by
        have e : (2 : Nat) ^ 48 = 281474976710656 := by decide
        rw [e] at hfits; omega
      have hf2 := hfirst (w.drewN (k + 1)) rfl
      have hra := fun n w => run_askRoom (P := P) n w
      simp [Builtin.append_, run_underlying hu, hso, hund, hlen, hroom, hti, hz2', hz3', hra, hold, hf2, hzv, run_newRow, Question.forced, grownCap]
      rw [drewN_alloc]
      congr 3
      apply Array.ext'
      simp
    · have hcells : (xs.toArray ++ news.toArray ++ Builtin.zeroCells z.cells (grownCap (w.drewN k) (n + m) cap E - (n + m))) = ((xs ++ news) ++ (Builtin.zeroCells z.cells (grownCap (w.drewN k) (n + m) cap E - (n + m))).toList).toArray := by
        apply Array.ext'; simp
      rw [hcells]
      have hzc : z.cells.size = sz := by rw [hz1]; exact hzs
      refine hH.set i hi ⟨rfl, rfl, rfl, by simp, fun k hk _ => RowKit.Below.heap_alloc _ _ _ hk⟩ ⟨?_, hge, hcm', .inr ⟨w.heap.size, _, (0, 0), rfl, heap_alloc_new w _, ?_, unfz00 _⟩⟩ ?_
      · rw [List.length_append, hxl, hnl, Nat.add_mul]
      · rw [List.length_append, List.length_append, hxl, hnl, Array.length_toList, size_zeroCells, hzc, ← Nat.add_mul, ← Nat.add_mul]
        congr 1; omega
      · intro b hb
        simp [Res.row] at hb
        subst hb
        exact ⟨.inr (Nat.le_refl _), by simp⟩

def AppK (P : Program) (ts : Array TypeId) (ty : TypeId) (vs : List Value) (w : World) (C : Value → World → Prop) : Prop :=
  ∀ n, ∃ v w' m, (Builtin.append_ ts ty vs.toArray).run P (w.drewN n) = .ok v (w'.drewN m) ∧ C v w'

theorem MemK_append {as : Array Operand} {ts : Array TypeId} (h : argL e as.toList fun vs => AppK P ts ty vs w fun v w' => R (e.put d v) w' K) :
    MemK P N ⟨d, .call { callee := .builtin .append, args := as, argTypes := ts }, ty, pos, af, gd⟩ e w R K :=
  Mem_of_run fun a n ha => by
    obtain ⟨v, w', m, hr, hC⟩ := argL_sound (K := fun vs => AppK P ts ty vs w fun v w' => R (e.put d v) w' K) ha h n
    refine ⟨v, w', m, ?_, hC⟩
    simp only [execOp, resolve, invoke, builtin, map_eval, Sem.run_bind, Sem.run_pure, Result.andThen_ok, hr]

theorem AppK_row {w0 : World} {B : List Nat} {G : List Res} (hH : Heap w0 B w G) (i : Nat) {T T' E ty : TypeId} {sz bytes : Nat} {zs : Array Value} {a : Option Addr} {n cap m : Nat} {xs news : List Value} {x : Value} {C : Value → World → Prop}
    (hi : G[i]? = some (Res.row E sz a n cap xs)) (hu : P.underlying T = some (.slice E)) (hz : (P.info? E).map (fun i => (i.zero.map Value.cells, i.size, i.bytes)) = some (some zs, sz, bytes)) (hzs : zs.size = sz)
    (hs : Src P w x T' sz m news) (h1 : ∀ u ∈ news, u.oneCell' = true) (hb : cap < n + m → (n + m) * bytes ≤ 140737488355328 ∧ n + m ≤ 9223372036854775807)
    (h : ∀ a' cap' w', (n + m ≤ cap → a' = a ∧ cap' = cap) → Heap w0 B w' (G.set i (Res.row E sz a' (n + m) cap' (xs ++ news))) → C (.slice a' (n + m) cap') w') : AppK P #[T, T'] ty [.slice a n cap, x] w C := by
  intro k
  obtain ⟨a', cap', w', k', hr, hH', hc⟩ := run_append_row (P := P) (ty := ty) hH i hi hu hz hzs hs h1 hb k
  exact ⟨_, w', k', hr, h a' cap' w' hc hH'⟩

theorem map_rep (l : List UInt8) (m : Nat) : ((⟨l.toArray⟩ : ByteArray).data.map fun b => Value.int .u8 b.toNat) ++ Array.replicate m (Value.int .u8 0) = ((bytesV l) ++ List.replicate m (Value.int .u8 0)).toArray := by
  apply Array.ext'
  simp [bytesV]

theorem run_mark {E : TypeId} {cap : Nat} (w : World) (cs : Array Value) (hcs : cs.size = cap) : (markStringish ⟨w.heap.size, 0, none⟩).run P (w.alloc (.cells cs E)) = .ok () ({ w with heap := w.heap.push (.cells cs E (cap, cap + 1)) } : World) := by
  have h1 : (w.alloc (.cells cs E)).shape? w.heap.size = some (E, cap) := by
    have := heap_alloc_new w (.cells cs E)
    simp only [World.shape?, this, hcs]
  have h2 : (w.alloc (.cells cs E)).freeze { block := w.heap.size, off := cap } 1 = ({ w with heap := w.heap.push (.cells cs E (cap, cap + 1)) } : World) := by
    have e : (w.heap.push (.cells cs E)).modify w.heap.size (fun
      | .cells c elem (lo, hi) => .cells c elem (if lo == hi then (cap, cap + 1) else (min lo cap, max hi (cap + 1)))
      | o => o) = w.heap.push (.cells cs E (cap, cap + 1)) := by
      apply Array.ext_getElem?
      intro j
      rw [Array.getElem?_modify]
      simp only [Array.getElem?_push]
      by_cases hj : w.heap.size = j
      · subst hj; simp
      · rw [if_neg hj, if_neg (Ne.symm hj), if_neg (Ne.symm hj)]
    unfold World.freeze
    rw [if_neg (by omega)]
    exact congrArg (fun h => ({ w with heap := h } : World)) e
  have h3 : (shape w.heap.size).run P (w.alloc (.cells cs E)) = .ok (some (E, cap)) (w.alloc (.cells cs E)) := by
    simp only [shape, Sem.run, h1]
  simp only [markStringish, Sem.run_bind, h3, Result.andThen_ok]
  simp only [freeze, Sem.run, h2]

/-- From the text of a string to its bytes: a new row. -/
theorem run_bytesOf {T E : TypeId} {l : List UInt8} {S : TypeId} (hS : P.underlying S = some .string) (hT : P.underlying T = some (.slice E)) (hE : P.underlying E = some (.int .u8)) (hl : l.length ≤ 9223372036854775807) (k : Nat) :
    ∃ cap, l.length ≤ cap ∧ cap ≤ maxLen ∧ (convert S T (Str l)).run P (w.drewN k) = .ok (.slice (some ⟨w.heap.size, 0, none⟩) l.length cap) (({ w with heap := w.heap.push (.cells ((bytesV l) ++ List.replicate (cap - l.length) (Value.int .u8 0)).toArray E (cap, cap + 1)) } : World).drewN (k + 1)) := by
  have hge := grownCap_ge (w.drewN k) l.length 0 E
  have hle := grownCap_le_maxLen (w.drewN k) l.length 0 E (by simp only [maxLen]; exact hl)
  refine ⟨grownCap (w.drewN k) l.length 0 E, hge, hle, ?_⟩
  have hchoose : (choose (.appendCap (⟨l.toArray⟩ : ByteArray).size 0 E)).run P (w.drewN k) = .ok (grownCap (w.drewN k) l.length 0 E) (w.drewN (k + 1)) := by
    have : (⟨l.toArray⟩ : ByteArray).size = l.length := rfl
    rw [this]
    simp [grownCap, Question.forced]
  generalize grownCap (w.drewN k) l.length 0 E = cap at *
  have hsize : ((bytesV l) ++ List.replicate (cap - l.length) (Value.int .u8 0)).toArray.size = cap := by
    simp [bytesV]; omega
  simp only [convert, Sem.run_bind, run_underlying hS, run_underlying hT, run_underlying hE, Result.andThen_ok, Conv.stringToBytes, hchoose]
  have e : (⟨l.toArray⟩ : ByteArray).size = l.length := rfl
  rw [e, map_rep]
  have := run_mark (P := P) (E := E) (w.drewN (k + 1)) _ hsize
  simp only [run_newRow, Result.andThen_ok, this, Sem.run_pure]
  rfl

def BytesK (P : Program) (S T : TypeId) (x : Value) (w : World) (C : Value → World → Prop) : Prop :=
  ∀ n, ∃ v w' m, (convert S T x).run P (w.drewN n) = .ok v (w'.drewN m) ∧ C v w'

theorem MemK_bytes {S T : TypeId} {x : Operand} (h : arg e x fun v => BytesK P S T v w fun v w' => R (e.put d v) w' K) :
    MemK P N ⟨d, .convert S T x, ty, pos, af, gd⟩ e w R K :=
  Mem_of_run fun a n ha => by
    obtain ⟨v, w', m, hr, hC⟩ := arg_sound (K := fun v => BytesK P S T v w fun v w' => R (e.put d v) w' K) ha h n
    exact ⟨v, w', m, by simp only [execOp, Sem.run_bind, hr, Result.andThen_ok, Sem.run_pure], hC⟩

theorem BytesK_row {w0 : World} {B : List Nat} {G : List Res} (hH : Heap w0 B w G) {S T E : TypeId} {l : List UInt8} {C : Value → World → Prop} (hS : P.underlying S = some .string) (hT : P.underlying T = some (.slice E)) (hE : P.underlying E = some (.int .u8)) (hl : l.length ≤ 9223372036854775807)
    (h : ∀ g cap w', Heap w0 B w' (Res.row E 1 (some ⟨g, 0, none⟩) l.length cap (bytesV l) :: G) → C (.slice (some ⟨g, 0, none⟩) l.length cap) w') : BytesK P S T (Str l) w C := by
  intro k
  obtain ⟨cap, h1, h2, hr⟩ := run_bytesOf (P := P) (w := w) hS hT hE hl k
  refine ⟨_, _, _, hr, h _ _ _ ?_⟩
  refine hH.call0 (G' := [_]) ⟨⟨rfl, rfl, rfl, by simp, fun j hj _ => ?_⟩, ?_, ?_, by simp⟩
  · show (w.heap.push _)[j]? = _
    rw [Array.getElem?_push, if_neg (by omega)]
  · intro r hr
    simp at hr; subst hr
    refine ⟨by simp [bytesV], h1, h2, .inr ⟨w.heap.size, List.replicate (cap - l.length) (Value.int .u8 0), (cap, cap + 1), rfl, ?_, by simp [bytesV]; omega, fun j hj => by simp at hj ⊢; omega⟩⟩
    show (w.heap.push _)[w.heap.size]? = _
    simp
  · intro r hr b hb
    simp at hr; subst hr
    simp [Res.row] at hb
    subst hb
    exact ⟨.inr (Nat.le_refl _), by simp⟩

/-! the everyday appends -/

theorem bytes_one (l : List UInt8) : ∀ u ∈ bytesV l, u.oneCell' = true := by
  intro u hu
  obtain ⟨b, _, rfl⟩ := List.mem_map.1 hu
  rfl
theorem ints_one (l : List Int) : ∀ u ∈ intsV l, u.oneCell' = true := by
  intro u hu
  obtain ⟨b, _, rfl⟩ := List.mem_map.1 hu
  rfl
theorem bytesV_append (l m : List UInt8) : bytesV (l ++ m) = bytesV l ++ bytesV m := by simp [bytesV]
theorem intsV_append (l m : List Int) : intsV (l ++ m) = intsV l ++ intsV m := by simp [intsV]

/-- append(out, x) -/
theorem AppK_one {w0 : World} {B : List Nat} {G : List Res} (hH : Heap w0 B w G) (i : Nat) {T E ty : TypeId} {bytes : Nat} {z : Value} {a : Option Addr} {n cap : Nat} {xs : List Value} {x : Value} {C : Value → World → Prop}
    (hi : G[i]? = some (Res.row E 1 a n cap xs)) (hu : P.underlying T = some (.slice E)) (hz : (P.info? E).map (fun i => (i.zero.map Value.cells, i.size, i.bytes)) = some (some #[z], 1, bytes))
    (hx : x.oneCell' = true) (hb : cap < n + 1 → (n + 1) * bytes ≤ 140737488355328 ∧ n + 1 ≤ 9223372036854775807)
    (h : ∀ a' cap' w', (n + 1 ≤ cap → a' = a ∧ cap' = cap) → Heap w0 B w' (G.set i (Res.row E 1 a' (n + 1) cap' (xs ++ [x]))) → C (.slice a' (n + 1) cap') w') :
    AppK P #[T, T] ty [.slice a n cap, .slice (some ⟨w.heap.size, 0, none⟩) 1 1] (w.alloc (.cells [x].toArray E)) C := by
  have h1 := hH.row E (n := 1) (cap := 1) (sz := 1) [x] [] (by simp) (by simp) (by omega) (by omega)
  simp only [List.append_nil] at h1
  refine AppK_row h1 (i + 1) (sz := 1) (m := 1) (news := [x]) (by simpa using hi) hu hz rfl ⟨rfl, row_rs (h1.at 0 rfl), E, hu⟩ (by simpa using hx) hb fun a' cap' w' hc hH' => h a' cap' w' hc ?_
  simp only [List.set_cons_succ] at hH'
  exact hH'.sub (List.sublist_cons_self _ _)

/-- append(out, s...), bytes of a string. -/
theorem AppK_str {w0 : World} {B : List Nat} {G : List Res} (hH : Heap w0 B w G) (i : Nat) {T T' E ty : TypeId} {bytes : Nat} {z : Value} {a : Option Addr} {cap : Nat} {o t : List UInt8} {C : Value → World → Prop}
    (hi : G[i]? = some (Res.row E 1 a o.length cap (bytesV o))) (hu : P.underlying T = some (.slice E)) (hz : (P.info? E).map (fun i => (i.zero.map Value.cells, i.size, i.bytes)) = some (some #[z], 1, bytes)) (hS : P.underlying T' = some .string)
    (hb : cap < (o ++ t).length → (o ++ t).length * bytes ≤ 140737488355328 ∧ (o ++ t).length ≤ 9223372036854775807)
    (h : ∀ a' cap' w', ((o ++ t).length ≤ cap → a' = a ∧ cap' = cap) → Heap w0 B w' (G.set i (Res.row E 1 a' (o ++ t).length cap' (bytesV (o ++ t)))) → C (.slice a' (o ++ t).length cap') w') :
    AppK P #[T, T'] ty [.slice a o.length cap, Str t] w C := by
  have e : o.length + t.length = (o ++ t).length := by simp
  refine AppK_row hH i (sz := 1) (m := t.length) (news := bytesV t) hi hu hz rfl ⟨by simp [toL], rfl, by simp [toL], hS⟩ (bytes_one t) (by rw [e]; exact hb) fun a' cap' w' hc hH' => ?_
  rw [e] at hc hH' ⊢
  exact h a' cap' w' hc (by rw [bytesV_append]; exact hH')

/-- append(out, b), a byte. -/
theorem AppK_byte {w0 : World} {B : List Nat} {G : List Res} (hH : Heap w0 B w G) (i : Nat) {T E ty : TypeId} {bytes : Nat} {z : Value} {a : Option Addr} {cap : Nat} {o : List UInt8} (b : UInt8) {n : Int} {C : Value → World → Prop}
    (hi : G[i]? = some (Res.row E 1 a o.length cap (bytesV o))) (hu : P.underlying T = some (.slice E)) (hz : (P.info? E).map (fun i => (i.zero.map Value.cells, i.size, i.bytes)) = some (some #[z], 1, bytes)) (hn : n = b.toNat)
    (hb : cap < (o ++ [b]).length → (o ++ [b]).length * bytes ≤ 140737488355328 ∧ (o ++ [b]).length ≤ 9223372036854775807)
    (h : ∀ a' cap' w', ((o ++ [b]).length ≤ cap → a' = a ∧ cap' = cap) → Heap w0 B w' (G.set i (Res.row E 1 a' (o ++ [b]).length cap' (bytesV (o ++ [b])))) → C (.slice a' (o ++ [b]).length cap') w') :
    AppK P #[T, T] ty [.slice a o.length cap, .slice (some ⟨w.heap.size, 0, none⟩) 1 1] (w.alloc (.cells [Value.int .u8 n].toArray E)) C := by
  subst hn
  have e : o.length + 1 = (o ++ [b]).length := by simp
  refine AppK_one hH i hi hu hz rfl (by rw [e]; exact hb) fun a' cap' w' hc hH' => ?_
  rw [e] at hc hH' ⊢
  exact h a' cap' w' hc (by rw [bytesV_append]; exact hH')

/-- append(out, n), an int. -/
theorem AppK_int {w0 : World} {B : List Nat} {G : List Res} (hH : Heap w0 B w G) (i : Nat) {T E ty : TypeId} {bytes : Nat} {z : Value} {a : Option Addr} {cap : Nat} {o : List Int} {n : Int} {C : Value → World → Prop}
    (hi : G[i]? = some (Res.row E 1 a o.length cap (intsV o))) (hu : P.underlying T = some (.slice E)) (hz : (P.info? E).map (fun i => (i.zero.map Value.cells, i.size, i.bytes)) = some (some #[z], 1, bytes))
    (hb : cap < (o ++ [n]).length → (o ++ [n]).length * bytes ≤ 140737488355328 ∧ (o ++ [n]).length ≤ 9223372036854775807)
    (h : ∀ a' cap' w', ((o ++ [n]).length ≤ cap → a' = a ∧ cap' = cap) → Heap w0 B w' (G.set i (Res.row E 1 a' (o ++ [n]).length cap' (intsV (o ++ [n])))) → C (.slice a' (o ++ [n]).length cap') w') :
    AppK P #[T, T] ty [.slice a o.length cap, .slice (some ⟨w.heap.size, 0, none⟩) 1 1] (w.alloc (.cells [Value.int .i64 n].toArray E)) C := by
  have e : o.length + 1 = (o ++ [n]).length := by simp
  refine AppK_one hH i hi hu hz rfl (by rw [e]; exact hb) fun a' cap' w' hc hH' => ?_
  rw [e] at hc hH' ⊢
  exact h a' cap' w' hc (by rw [intsV_append]; exact hH')

/-- append(out, more...), ints of a slice. -/
theorem AppK_ints {w0 : World} {B : List Nat} {G : List Res} (hH : Heap w0 B w G) (i : Nat) {T E ty : TypeId} {bytes : Nat} {z : Value} {a b : Option Addr} {cap m c : Nat} {o t : List Int} {C : Value → World → Prop}
    (hi : G[i]? = some (Res.row E 1 a o.length cap (intsV o))) (hu : P.underlying T = some (.slice E)) (hz : (P.info? E).map (fun i => (i.zero.map Value.cells, i.size, i.bytes)) = some (some #[z], 1, bytes)) (hm : m = t.length) (ht : RS w b t.length 1 (intsV t))
    (hb : cap < (o ++ t).length → (o ++ t).length * bytes ≤ 140737488355328 ∧ (o ++ t).length ≤ 9223372036854775807)
    (h : ∀ a' cap' w', ((o ++ t).length ≤ cap → a' = a ∧ cap' = cap) → Heap w0 B w' (G.set i (Res.row E 1 a' (o ++ t).length cap' (intsV (o ++ t)))) → C (.slice a' (o ++ t).length cap') w') :
    AppK P #[T, T] ty [.slice a o.length cap, .slice b m c] w C := by
  subst hm
  have e : o.length + t.length = (o ++ t).length := by simp
  refine AppK_row hH i (sz := 1) (m := t.length) (news := intsV t) hi hu hz rfl ⟨rfl, ht, E, hu⟩ (ints_one t) (by rw [e]; exact hb) fun a' cap' w' hc hH' => ?_
  rw [e] at hc hH' ⊢
  exact h a' cap' w' hc (by rw [intsV_append]; exact hH')

/-- append(out, more...), bytes of a slice. -/
theorem AppK_bytes {w0 : World} {B : List Nat} {G : List Res} (hH : Heap w0 B w G) (i : Nat) {T E ty : TypeId} {bytes : Nat} {z : Value} {a b : Option Addr} {cap m c : Nat} {o t : List UInt8} {C : Value → World → Prop}
    (hi : G[i]? = some (Res.row E 1 a o.length cap (bytesV o))) (hu : P.underlying T = some (.slice E)) (hz : (P.info? E).map (fun i => (i.zero.map Value.cells, i.size, i.bytes)) = some (some #[z], 1, bytes)) (hm : m = t.length) (ht : RS w b t.length 1 (bytesV t))
    (hb : cap < (o ++ t).length → (o ++ t).length * bytes ≤ 140737488355328 ∧ (o ++ t).length ≤ 9223372036854775807)
    (h : ∀ a' cap' w', ((o ++ t).length ≤ cap → a' = a ∧ cap' = cap) → Heap w0 B w' (G.set i (Res.row E 1 a' (o ++ t).length cap' (bytesV (o ++ t)))) → C (.slice a' (o ++ t).length cap') w') :
    AppK P #[T, T] ty [.slice a o.length cap, .slice b m c] w C := by
  subst hm
  have e : o.length + t.length = (o ++ t).length := by simp
  refine AppK_row hH i (sz := 1) (m := t.length) (news := bytesV t) hi hu hz rfl ⟨rfl, ht, E, hu⟩ (bytes_one t) (by rw [e]; exact hb) fun a' cap' w' hc hH' => ?_
  rw [e] at hc hH' ⊢
  exact h a' cap' w' hc (by rw [bytesV_append]; exact hH')

theorem add_add (a : Addr) (hs : a.spot = none) (k j : Nat) : (a.add k).add j = a.add (k + j) := by
  obtain ⟨b, o, s⟩ := a
  simp only at hs
  subst hs
  unfold Addr.add
  by_cases hk : k = 0
  · subst hk; simp
  · by_cases hj : j = 0
    · subst hj; simp [hk]
    · simp [hk, hj, Nat.add_assoc]

theorem RS.drop {ad : Addr} {n sz : Nat} {xs : List Value} (h : RS w (some ad) n sz xs) (hs : ad.spot = none) (k : Nat) (hk : k ≤ n) : RS w (some (ad.add (k * sz))) (n - k) sz (xs.drop (k * sz)) := by
  refine ⟨by rw [List.length_drop, h.1, Nat.sub_mul], by simp, fun a' ha => ?_⟩
  cases ha
  intro j u hu
  rw [List.getElem?_drop] at hu
  rw [add_add ad hs]
  exact h.2.2 ad rfl _ u hu

theorem RS.take {a : Option Addr} {n sz : Nat} {xs : List Value} (h : RS w a n sz xs) (m : Nat) (hm : m ≤ n) : RS w a m sz (xs.take (m * sz)) := by
  refine ⟨by rw [List.length_take, h.1]; exact Nat.min_eq_left (Nat.mul_le_mul_right _ hm), fun ha => by have := h.2.1 ha; omega, fun ad ha j u hu => ?_⟩
  rw [List.getElem?_take] at hu
  split at hu
  · exact h.2.2 ad ha j u hu
  · cases hu

/-- A cell of a row. -/
theorem row_cell {T sz g n cap k : Nat} {xs : List Value} {v : Value} (h : (Res.row T sz (some ⟨g, 0, none⟩) n cap xs).holds w) (hv : xs[k]? = some v) : w.cell? ⟨g, k, none⟩ = some v := by
  have := (row_rs h).2.2 _ rfl k v hv
  have hadd : (⟨g, 0, none⟩ : Addr).add k = ⟨g, k, none⟩ := by unfold Addr.add; split <;> simp_all
  rwa [hadd] at this
theorem row_pos {T sz n cap : Nat} {a : Option Addr} {xs : List Value} (h : (Res.row T sz a n cap xs).holds w) (hn : 0 < n) : ∃ g, a = some ⟨g, 0, none⟩ := by
  obtain ⟨h1, h2, h3, h4⟩ := h
  rcases h4 with h4 | ⟨g, rest, fz, h, _⟩
  · omega
  · exact ⟨g, h⟩

/-- The bytes of a row, as a string has them. -/
theorem Heap.readsBytes {w0 : World} {B : List Nat} {G : List Res} (hH : Heap w0 B w G) (i : Nat) {E cap : Nat} {a : Option Addr} {o : List UInt8} (hi : G[i]? = some (Res.row E 1 a o.length cap (bytesV o))) : ReadsBytes w a o.length o :=
  ReadsBytes_of (row_rs (hH.at i hi))
end

end Go.Eng

/-! The engine, part 10: regions whose order is open and that make memory. -/
namespace Go.Eng
open Go

/-- The operations in the order of a plan: (number, taken first?). -/
def planned (ops : List Oper) (plan : List (Nat × Bool)) : List (Bool × Oper) := plan.filterMap fun p => (ops[p.1]?).map fun o => (p.2, o)

/-- Each operation of the plan may be taken first, or is the only one that may come up. -/
def planOk (ops : Array Oper) : List (Nat × Bool) → Array Bool → Bool
  | [], listed => (Region.ready .any ops listed).isEmpty
  | (i, t) :: plan, listed =>
    (decide (i < ops.size)) && (match t with
      | true => Region.free .any ops listed i && (Region.ready .any ops listed).contains i
      | false => Region.ready .any ops listed == [i]) && planOk ops plan (listed.setIfInBounds i true)

def pw (b : Bool) (w0 w : World) : World := match b with | true => w0 | false => w

def MemH (P : Program) (N : Nat) (o : Oper) (e : Env) (w0 w : World) (R : Env → World → (Env → World → Prop) → Prop) (K : Env → World → Prop) : Prop :=
  Mem P N o e w fun v w' => Ext w0 w' ∧ R (e.put o.dst v) w' K

def vcStepH (P : Program) (N : Nat) (p b : Bool) (o : Oper) (e : Env) (w0 w : World) (R : Env → World → (Env → World → Prop) → Prop) (K : Env → World → Prop) : Prop :=
  match p, b with
  | true, b => vcOp P o.op e (pw b w0 w) fun v => R (e.put o.dst v) w K
  | false, false => MemH P N o e w0 w R K
  | false, true => False

/-- A region in the order of a plan; w0: the world at its beginning. -/
def vcH (P : Program) (N : Nat) (ops : List Oper) (w0 : World) : List (Bool × Oper) → Env → World → (Env → World → Prop) → Prop
  | [], e, w, K => K e w
  | (b, o) :: rest, e, w, K => vGuard ops o.guard e
      (fun e => vcStepH P N (isPure P o.op) b o e w0 w (vcH P N ops w0 rest) K)
      (fun e => vcH P N ops w0 rest (e.put o.dst undef) w K)

theorem vcH_sound {P : Program} {N : Nat} {ops : List Oper} {w0 : World} {Q : Exit → Act → World → Prop} {K : Env → World → Prop} (hN : ops.all (dstOk N) = true) (hsel : Region.noSelect ops.toArray = true)
    (hQ : ∀ c a w (d : Option Tmp) v, Q (.panic c) (a.put d v) w → Q (.panic c) a w)
    (hK : ∀ e a w n, Fits N e a → K e w → Q .normal a (w.drewN n)) : ∀ (plan : List (Nat × Bool)) (fuel : Nat) (listed : Array Bool) (e : Env) (a : Act) (w : World) (n : Nat),
      plan.length ≤ fuel → planOk ops.toArray plan listed = true → Fits N e a → Ext w0 w → vcH P N ops w0 (planned ops plan) e w K →
      wpAnyH P .any ops.toArray Q (fun w' => Ext w0 w') fuel listed a (w.drewN n) := by
  intro plan
  induction plan with
  | nil =>
    intro fuel listed e a w n _ hp ha _ h
    simp only [planOk, List.isEmpty_iff] at hp
    exact wpAnyH_done hp (hK e a w n ha h) fuel
  | cons p plan ih =>
    obtain ⟨i, t⟩ := p
    intro fuel listed e a w n hf hp ha hx h
    simp only [planOk, Bool.and_eq_true, decide_eq_true_eq] at hp
    obtain ⟨⟨hi, hstep⟩, hp⟩ := hp
    have hi' : i < ops.length := by simpa using hi
    obtain ⟨o, ho⟩ : ∃ o, ops[i]? = some o := ⟨ops[i], List.getElem?_eq_getElem hi'⟩
    have hoa : ops.toArray[i]? = some o := by simpa using ho
    have hod : dstOk N o = true := by
      rw [List.all_eq_true] at hN
      exact hN o (List.mem_of_getElem? ho)
    have hpl : planned ops ((i, t) :: plan) = (t, o) :: planned ops plan := by simp [planned, ho]
    rw [hpl] at h
    cases fuel with
    | zero => simp at hf
    | succ fuel =>
    have hf' : plan.length ≤ fuel := by simpa using hf
    rcases vGuard_sound ha h with ⟨e', ha', h', hw⟩ | ⟨e', ha', h', hw⟩
    · cases t with
      | true =>
        simp only [Bool.and_eq_true] at hstep
        have h' : vcStepH P N (isPure P o.op) true o e' w0 w (vcH P N ops w0 (planned ops plan)) K := h'
        cases hpo : isPure P o.op with
        | true =>
          rw [hpo] at h'
          simp only [vcStepH, pw] at h'
          obtain ⟨v, hv, hr⟩ := vcOp_sound ha' h'
          refine wpAnyH_take hoa hsel hstep.1 hstep.2 (fun c a w => hQ c a w o.dst v) (.inl ⟨hw, fun w' hw' => hr w' hw'⟩) (hx.trans (Ext.drewN w n)) ?_
          exact ih fuel _ _ _ w n hf' hp (ha'.put' hod v) hx hv
        | false => rw [hpo] at h'; exact h'.elim
      | false =>
        simp only [beq_iff_eq] at hstep
        refine wpAnyH_all hstep (by simp) ?_
        intro j hj
        simp only [List.mem_singleton] at hj
        subst hj
        unfold wpOp
        simp only [hoa, hw, if_true]
        refine .inl ?_
        have h' : vcStepH P N (isPure P o.op) false o e' w0 w (vcH P N ops w0 (planned ops plan)) K := h'
        cases hpo : isPure P o.op with
        | true =>
          rw [hpo] at h'
          simp only [vcStepH, pw] at h'
          obtain ⟨v, hv, hr⟩ := vcOp_sound ha' h'
          unfold Oper.wp
          rw [hr (w.drewN n) (Ext.drewN w n)]
          exact ⟨hx.trans (Ext.drewN w n), ih fuel _ _ _ w n hf' hp (ha'.put' hod v) hx hv⟩
        | false =>
          rw [hpo] at h'
          have h' : MemH P N o e' w0 w (vcH P N ops w0 (planned ops plan)) K := h'
          exact h' a n _ Q ha' fun v w' m hv => ⟨hv.1.trans (Ext.drewN w' m), ih fuel _ _ _ w' m hf' hp (ha'.put' hod v) hv.1 hv.2⟩
    · have hnext : wpAnyH P .any ops.toArray Q (fun w' => Ext w0 w') fuel (listed.setIfInBounds i true) (a.put o.dst undef) (w.drewN n) :=
        ih fuel _ _ _ w n hf' hp (ha'.put' hod undef) hx h'
      cases t with
      | true =>
        simp only [Bool.and_eq_true] at hstep
        exact wpAnyH_take hoa hsel hstep.1 hstep.2 (fun c a w => hQ c a w o.dst undef) (.inr ⟨hw, rfl⟩) (hx.trans (Ext.drewN w n)) hnext
      | false =>
        simp only [beq_iff_eq] at hstep
        refine wpAnyH_all hstep (by simp) ?_
        intro j hj
        simp only [List.mem_singleton] at hj
        subst hj
        unfold wpOp
        simp only [hoa, hw, Bool.false_eq_true, if_false]
        exact ⟨hx.trans (Ext.drewN w n), hnext⟩

theorem cont_panic {C : Ctx} {k : List It} {c : List PanicEntry} {a : Act} {w : World} (d : Option Tmp) (v : Value) (h : cont C k (.panic c) (a.put d v) w) : cont C k (.panic c) a w := by
  induction k with
  | nil =>
    have h' : bodyPost C.P C.fn (endsIn C.F) (.panic c) (a.put d v) w := h
    obtain ⟨h1, h2⟩ := h'
    have h3 : a.defers = [] := by cases d <;> simpa [Act.put] using h1
    exact (⟨h3, h2⟩ : bodyPost C.P C.fn (endsIn C.F) (.panic c) a w)
  | cons x k ih => cases x <;> exact ih h

/-- A region whose order is open, and that makes memory: in the order of a plan. -/
theorem VC_regionH {P : Program} {fn : Func} {F : Value → World → Prop} {N : Nat} {k : List It} {e : Env} {w : World} (w0 : World) (hx : Ext w0 w) (ks : List Nat) (plan : List (Nat × Bool)) {id : Nat} {ops : List Oper} {l : List (Bool × Oper)}
    (hm : P.follows .mixedOrders = true) (hB : (planOk ops.toArray plan (Array.replicate ops.toArray.size false) && Region.noSelect ops.toArray && decide (plan.length ≤ ops.length)) = true) (hN : ops.all (dstOk N) = true) (hl : planned ops plan = l)
    (h : ∀ K : Env → World → Prop, (∀ e w, VC ⟨P, fn, F, N⟩ k e w → K e w) → vcH P N ops w0 l e w (selC ks K)) : VC ⟨P, fn, F, N⟩ (.code (.region id ops.toArray true) :: k) e w := by
  intro a n ha
  simp only [Bool.and_eq_true, decide_eq_true_eq] at hB
  obtain ⟨⟨hB1, hB2⟩, hB3⟩ := hB
  refine wp_region_held (S := fun w' => Ext w0 w') hm ?_
  subst hl
  refine vcH_sound (K := selC ks (VC ⟨P, fn, F, N⟩ k)) hN hB2 (fun c a w d v hq => cont_panic d v hq) (fun e a w n ha hv => ?_) plan _ _ e a w (n + 1) (by simpa using hB3) hB1 ha hx (h _ fun _ _ hv => hv)
  exact ((selK_spec ks e _).1 hv) a n (ha.sel ks)

/-- Whoever keeps what was there extends. -/
theorem Upd.ext {w w' : World} (h : Upd [] w w') : Ext w w' := .of_keep fun k hk => h.block k hk (by simp)
theorem Upd.extH {B : List Nat} {w w' : World} (h : Upd B w w') : Ext (holes B w) w' := .holes fun k hk hB => h.block k hk hB
theorem Heap.ext {w w' : World} {G : List Res} (h : Heap w [] w' G) : Ext w w' := h.upd.ext
theorem Ext.alloc (w : World) (o : Obj) : Ext w (w.alloc o) := .of_keep fun k hk => RowKit.Below.heap_alloc w o k hk


/-- A scope to whose labels nobody jumps. -/
theorem cont_goto {C : Ctx} {k : List It} {l : Nat} {a : Act} {w : World} (h : cont C k (.goto l) a w) : False := by
  induction k with
  | nil => exact h
  | cons x k ih => cases x <;> exact ih h
theorem VC_scope {C : Ctx} {k : List It} {e : Env} {w : World} {c : Code} (h : VC C (.code c :: k) e w) : VC C (.code (.scope c) :: k) e w := by
  intro a n ha
  have h1 := h a n ha
  simp only [cont] at h1 ⊢
  refine wp_scope_straight (wp_mono h1 fun ex a w hq => ?_)
  cases ex with
  | goto l => exact (cont_goto hq).elim
  | _ => exact hq

section
variable {P : Program} {N : Nat} {d : Option Tmp} {ty : Nat} {pos : String} {af : Array Edge} {gd : Option (Nat × Bool)} {e : Env} {w : World} {R : Env → World → (Env → World → Prop) → Prop} {K : Env → World → Prop}

def CopyK (P : Program) (ts : Array TypeId) (ty : TypeId) (vs : List Value) (w : World) (C : Value → World → Prop) : Prop :=
  ∀ n, ∃ v w' m, (Builtin.copy_ ts ty vs.toArray).run P (w.drewN n) = .ok v (w'.drewN m) ∧ C v w'

theorem MemK_copy {as : Array Operand} {ts : Array TypeId} (h : argL e as.toList fun vs => CopyK P ts ty vs w fun v w' => R (e.put d v) w' K) :
    MemK P N ⟨d, .call { callee := .builtin .copy, args := as, argTypes := ts }, ty, pos, af, gd⟩ e w R K :=
  Mem_of_run fun a n ha => by
    obtain ⟨v, w', m, hr, hC⟩ := argL_sound (K := fun vs => CopyK P ts ty vs w fun v w' => R (e.put d v) w' K) ha h n
    refine ⟨v, w', m, ?_, hC⟩
    simp only [execOp, resolve, invoke, builtin, map_eval, Sem.run_bind, Sem.run_pure, Result.andThen_ok, hr]

/-- copy into a part of a row of the call's own. -/
theorem CopyK_row {w0 : World} {B : List Nat} {G : List Res} (hH : Heap w0 B w G) (i : Nat) {T T' E ty : TypeId} {sz : Nat} {ad ap : Addr} {n cap m dl c off : Nat} {xs news : List Value} {x : Value} {C : Value → World → Prop}
    (hi : G[i]? = some (Res.row E sz (some ad) n cap xs)) (hu : P.underlying T = some (.slice E)) (hz : P.szo E = some sz) (hp : ap = ad.add off)
    (hs : Src P w x T' sz m news) (h1 : ∀ u ∈ news, u.oneCell' = true) (hoff : off + min m dl * sz ≤ xs.length)
    (h : ∀ w', Upd [ad.block] w w' → Heap w0 B w' (G.set i (Res.row E sz (some ad) n cap (xs.take off ++ news.take (min m dl * sz) ++ xs.drop (off + min m dl * sz)))) → C (.int .i64 (min m dl : Nat)) w') :
    CopyK P #[T, T'] ty [.slice (some ap) dl c, x] w C := by
  intro k
  obtain ⟨hxl, hnc, hcm, hcase⟩ := hH.at i hi
  rcases hcase with hcase | ⟨g, rest, fz, hg0, hg, hl2, hfz⟩
  · cases hcase.1
  cases hg0
  subst hp
  have hlt : g < w.heap.size := (Array.getElem?_eq_some_iff.1 hg).1
  obtain ⟨hnl, hlen, _, _⟩ := hs.spec
  have hfirst : (Builtin.firstCells sz (min m dl) x).run P (w.drewN k) = .ok (news.take (min m dl * sz)).toArray (w.drewN k) := by
    cases x with
    | slice a k' c' =>
      obtain ⟨rfl, ⟨hr1, hr2, hr3⟩, _⟩ := hs
      cases a with
      | none =>
        have hk0 := hr2 rfl
        subst hk0
        simp [Builtin.firstCells]
      | some ad' =>
        refine run_firstCells_some (P := P) _ sz (min k' dl) ad' k' c' _ ?_ fun j v hv => ?_
        · rw [List.length_take, hr1]
          exact Nat.min_eq_left (Nat.mul_le_mul_right _ (Nat.min_le_left _ _))
        · rw [List.getElem?_take] at hv
          split at hv
          · exact (hr3 ad' rfl).heap (w' := w.drewN k) rfl j v hv
          · cases hv
    | string s =>
      obtain ⟨rfl, rfl, rfl, _⟩ := hs
      simp only [Builtin.firstCells, Sem.run_pure, str_extract, Nat.mul_one, bytesV, toL]
      congr 1
      apply Array.ext'
      simp [List.map_take]
    | _ => exact hs.elim
  have hadd : (⟨g, 0, none⟩ : Addr).add off = ⟨g, off, none⟩ := by unfold Addr.add; split <;> simp_all
  have hnt : (news.take (min m dl * sz)).length = min m dl * sz := by
    rw [List.length_take, hnl]
    exact Nat.min_eq_left (Nat.mul_le_mul_right _ (Nat.min_le_left _ _))
  have hst := run_storeCells_blk (P := P) g off E fz (news.take (min m dl * sz)) 0 (xs ++ rest) (w.drewN k) hg (by rw [hl2]; exact hfz) (by rw [hnt]; simp; omega) (fun u hu => h1 u (List.mem_of_mem_take hu))
  have hcells : (xs ++ rest).take (off + 0) ++ news.take (min m dl * sz) ++ (xs ++ rest).drop (off + 0 + (news.take (min m dl * sz)).length) = (xs.take off ++ news.take (min m dl * sz) ++ xs.drop (off + min m dl * sz)) ++ rest := by
    rw [hnt, Nat.add_zero, List.take_append_of_le_length (by omega), List.drop_append_of_le_length (by omega)]
    simp
  rw [hcells] at hst
  have hso := run_szo (P := P) hz
  refine ⟨.int .i64 (min m dl : Nat), putBlk w g ((xs.take off ++ news.take (min m dl * sz) ++ xs.drop (off + min m dl * sz)) ++ rest) E fz, k, ?_, h _ (putBlk_upd _ _ _ _ _) (hH.set i hi (putBlk_upd _ _ _ _ _) ⟨?_, hnc, hcm, .inr ⟨g, rest, fz, rfl, putBlk_at hlt, ?_, hfz⟩⟩ ?_)⟩
  · have hmin : Nat.min m dl = min m dl := rfl
    simp [Builtin.copy_, run_underlying hu, hlen, hso, hmin, hfirst, hadd, hst, putBlk_drewN, goInt]
  · rw [List.length_append, List.length_append, hnt, List.length_take, List.length_drop, ← hxl]; omega
  · rw [List.length_append, List.length_append, List.length_append, hnt, List.length_take, List.length_drop]
    rw [List.length_append] at hl2; omega
  · intro b hb
    exact ⟨.inl hb, by rw [putBlk_size]; simp [Res.row] at hb; omega⟩
end

end Go.Eng

/-! The engine, part 11: the equations for regions in the order of a plan. -/
namespace Go.Eng
open Go
def extR (w0 : World) (R : Env → World → (Env → World → Prop) → Prop) : Env → World → (Env → World → Prop) → Prop := fun e w K => Ext w0 w ∧ R e w K
theorem MemH_eq {P : Program} {N : Nat} {o : Oper} {e : Env} {w0 w : World} {R : Env → World → (Env → World → Prop) → Prop} {K : Env → World → Prop} : MemH P N o e w0 w R K = MemK P N o e w (extR w0 R) K := rfl

section
variable {P : Program} {N : Nat} {ops : List Oper} {rest : List (Bool × Oper)} {d : Option Tmp} {r t ty : Nat} {op : Op} {pos : String} {af : Array Edge} {e : Env} {w w0 : World} {K : Env → World → Prop}

theorem h_nilS (ks : List Nat) : vcH P N ops w0 [] e w (selC ks K) = selK ks e fun e => K e w := rfl
theorem extR_eq {R : Env → World → (Env → World → Prop) → Prop} : extR w0 R e w K = (Ext w0 w ∧ R e w K) := rfl
theorem pw_t : pw true w0 w = w0 := rfl
theorem pw_f : pw false w0 w = w := rfl
theorem h_move (x : Operand) (bf : Bool) : vcH P N ops w0 ((bf, ⟨some r, .move x, ty, pos, af, none⟩) :: rest) e w K = arg e x (fun v => vcH P N ops w0 rest ((r, v) :: e) w K) := rfl
theorem hg_move (x : Operand) (bf : Bool) (jj : Nat) (bb : Bool) : vcH P N ops w0 ((bf, ⟨some r, .move x, ty, pos, af, some (jj, bb)⟩) :: rest) e w K = vGuardL ops jj bb e (fun e => arg e x (fun v => vcH P N ops w0 rest ((r, v) :: e) w K)) (fun e => vcH P N ops w0 rest ((r, undef) :: e) w K) := by rw [← vGuardL_eq]; rfl
theorem h_assign (x : Operand) (bf : Bool) : vcH P N ops w0 ((bf, ⟨some r, .assign x, ty, pos, af, none⟩) :: rest) e w K = arg e x (fun v => vcH P N ops w0 rest ((r, v) :: e) w K) := rfl
theorem hg_assign (x : Operand) (bf : Bool) (jj : Nat) (bb : Bool) : vcH P N ops w0 ((bf, ⟨some r, .assign x, ty, pos, af, some (jj, bb)⟩) :: rest) e w K = vGuardL ops jj bb e (fun e => arg e x (fun v => vcH P N ops w0 rest ((r, v) :: e) w K)) (fun e => vcH P N ops w0 rest ((r, undef) :: e) w K) := by rw [← vGuardL_eq]; rfl
theorem h_pick (c x y : Operand) (bf : Bool) : vcH P N ops w0 ((bf, ⟨some r, .pick c x y, ty, pos, af, none⟩) :: rest) e w K = arg e c fun vc => vPick vc (arg e x (fun v => vcH P N ops w0 rest ((r, v) :: e) w K)) (arg e y (fun v => vcH P N ops w0 rest ((r, v) :: e) w K)) := rfl
theorem hg_pick (c x y : Operand) (bf : Bool) (jj : Nat) (bb : Bool) : vcH P N ops w0 ((bf, ⟨some r, .pick c x y, ty, pos, af, some (jj, bb)⟩) :: rest) e w K = vGuardL ops jj bb e (fun e => arg e c fun vc => vPick vc (arg e x (fun v => vcH P N ops w0 rest ((r, v) :: e) w K)) (arg e y (fun v => vcH P N ops w0 rest ((r, v) :: e) w K))) (fun e => vcH P N ops w0 rest ((r, undef) :: e) w K) := by rw [← vGuardL_eq]; rfl
theorem h_binOp (op : BinOp) (T T' : TypeId) (x y : Operand) (bf : Bool) : vcH P N ops w0 ((bf, ⟨some r, .binOp op T x y T', ty, pos, af, none⟩) :: rest) e w K = arg e x fun a => arg e y fun b => vBinO P op T x y a b (pw bf w0 w) (fun v => vcH P N ops w0 rest ((r, v) :: e) w K) := rfl
theorem hg_binOp (op : BinOp) (T T' : TypeId) (x y : Operand) (bf : Bool) (jj : Nat) (bb : Bool) : vcH P N ops w0 ((bf, ⟨some r, .binOp op T x y T', ty, pos, af, some (jj, bb)⟩) :: rest) e w K = vGuardL ops jj bb e (fun e => arg e x fun a => arg e y fun b => vBinO P op T x y a b (pw bf w0 w) (fun v => vcH P N ops w0 rest ((r, v) :: e) w K)) (fun e => vcH P N ops w0 rest ((r, undef) :: e) w K) := by rw [← vGuardL_eq]; rfl
theorem h_unOp (op : UnOp) (T : TypeId) (x : Operand) (bf : Bool) : vcH P N ops w0 ((bf, ⟨some r, .unOp op T x, ty, pos, af, none⟩) :: rest) e w K = arg e x fun a => vUn op a (fun v => vcH P N ops w0 rest ((r, v) :: e) w K) := rfl
theorem hg_unOp (op : UnOp) (T : TypeId) (x : Operand) (bf : Bool) (jj : Nat) (bb : Bool) : vcH P N ops w0 ((bf, ⟨some r, .unOp op T x, ty, pos, af, some (jj, bb)⟩) :: rest) e w K = vGuardL ops jj bb e (fun e => arg e x fun a => vUn op a (fun v => vcH P N ops w0 rest ((r, v) :: e) w K)) (fun e => vcH P N ops w0 rest ((r, undef) :: e) w K) := by rw [← vGuardL_eq]; rfl
theorem h_convert_some (s d : TypeId) (x : Operand) (bf : Bool) : vcH P N ops w0 ((bf, ⟨some r, .convert s d x, ty, pos, af, none⟩) :: rest) e w K = vcStepH P N (convPure P s d) bf ⟨some r, .convert s d x, ty, pos, af, none⟩ e w0 w (vcH P N ops w0 rest) K := rfl
theorem h_convert (s d : TypeId) (x : Operand) (bf : Bool) (hc : convPure P s d = true) : vcH P N ops w0 ((bf, ⟨some r, .convert s d x, ty, pos, af, none⟩) :: rest) e w K = arg e x fun a => vConv P s d a (pw bf w0 w) (fun v => vcH P N ops w0 rest ((r, v) :: e) w K) := by rw [h_convert_some, hc]; rfl
theorem h_convertM (s d : TypeId) (x : Operand) (hc : convPure P s d = false) : vcH P N ops w0 ((false, ⟨some r, .convert s d x, ty, pos, af, none⟩) :: rest) e w K = MemK P N ⟨some r, .convert s d x, ty, pos, af, none⟩ e w (extR w0 (vcH P N ops w0 rest)) K := by rw [h_convert_some, hc]; rfl
theorem hg_convert_some (s d : TypeId) (x : Operand) (bf : Bool) (jj : Nat) (bb : Bool) : vcH P N ops w0 ((bf, ⟨some r, .convert s d x, ty, pos, af, some (jj, bb)⟩) :: rest) e w K = vGuardL ops jj bb e (fun e => vcStepH P N (convPure P s d) bf ⟨some r, .convert s d x, ty, pos, af, some (jj, bb)⟩ e w0 w (vcH P N ops w0 rest) K) (fun e => vcH P N ops w0 rest ((r, undef) :: e) w K) := by rw [← vGuardL_eq]; rfl
theorem hg_convert (s d : TypeId) (x : Operand) (bf : Bool) (jj : Nat) (bb : Bool) (hc : convPure P s d = true) : vcH P N ops w0 ((bf, ⟨some r, .convert s d x, ty, pos, af, some (jj, bb)⟩) :: rest) e w K = vGuardL ops jj bb e (fun e => arg e x fun a => vConv P s d a (pw bf w0 w) (fun v => vcH P N ops w0 rest ((r, v) :: e) w K)) (fun e => vcH P N ops w0 rest ((r, undef) :: e) w K) := by rw [hg_convert_some, hc]; rfl
theorem h_slice (T : TypeId) (x : Operand) (lo hi : Option Operand) (bf : Bool) : vcH P N ops w0 ((bf, ⟨some r, .slice T x lo hi none, ty, pos, af, none⟩) :: rest) e w K = arg e x fun a => argO e lo fun l => argO e hi fun h => vSlice P T a l h (fun v => vcH P N ops w0 rest ((r, v) :: e) w K) := rfl
theorem hg_slice (T : TypeId) (x : Operand) (lo hi : Option Operand) (bf : Bool) (jj : Nat) (bb : Bool) : vcH P N ops w0 ((bf, ⟨some r, .slice T x lo hi none, ty, pos, af, some (jj, bb)⟩) :: rest) e w K = vGuardL ops jj bb e (fun e => arg e x fun a => argO e lo fun l => argO e hi fun h => vSlice P T a l h (fun v => vcH P N ops w0 rest ((r, v) :: e) w K)) (fun e => vcH P N ops w0 rest ((r, undef) :: e) w K) := by rw [← vGuardL_eq]; rfl
theorem h_fieldAddr (S : TypeId) (x : Operand) (f : Nat) (bf : Bool) : vcH P N ops w0 ((bf, ⟨some r, .fieldAddr S x f, ty, pos, af, none⟩) :: rest) e w K = arg e x fun a => vFieldAddr P S a f (fun v => vcH P N ops w0 rest ((r, v) :: e) w K) := rfl
theorem hg_fieldAddr (S : TypeId) (x : Operand) (f : Nat) (bf : Bool) (jj : Nat) (bb : Bool) : vcH P N ops w0 ((bf, ⟨some r, .fieldAddr S x f, ty, pos, af, some (jj, bb)⟩) :: rest) e w K = vGuardL ops jj bb e (fun e => arg e x fun a => vFieldAddr P S a f (fun v => vcH P N ops w0 rest ((r, v) :: e) w K)) (fun e => vcH P N ops w0 rest ((r, undef) :: e) w K) := by rw [← vGuardL_eq]; rfl
theorem h_field (S : TypeId) (x : Operand) (f : Nat) (bf : Bool) : vcH P N ops w0 ((bf, ⟨some r, .field S x f, ty, pos, af, none⟩) :: rest) e w K = arg e x fun a => vField P S a f (fun v => vcH P N ops w0 rest ((r, v) :: e) w K) := rfl
theorem hg_field (S : TypeId) (x : Operand) (f : Nat) (bf : Bool) (jj : Nat) (bb : Bool) : vcH P N ops w0 ((bf, ⟨some r, .field S x f, ty, pos, af, some (jj, bb)⟩) :: rest) e w K = vGuardL ops jj bb e (fun e => arg e x fun a => vField P S a f (fun v => vcH P N ops w0 rest ((r, v) :: e) w K)) (fun e => vcH P N ops w0 rest ((r, undef) :: e) w K) := by rw [← vGuardL_eq]; rfl
theorem h_indexAddr (T : TypeId) (x i : Operand) (bf : Bool) : vcH P N ops w0 ((bf, ⟨some r, .indexAddr T x i, ty, pos, af, none⟩) :: rest) e w K = arg e x fun a => arg e i fun n => vIndexAddr P T a n (fun v => vcH P N ops w0 rest ((r, v) :: e) w K) := rfl
theorem hg_indexAddr (T : TypeId) (x i : Operand) (bf : Bool) (jj : Nat) (bb : Bool) : vcH P N ops w0 ((bf, ⟨some r, .indexAddr T x i, ty, pos, af, some (jj, bb)⟩) :: rest) e w K = vGuardL ops jj bb e (fun e => arg e x fun a => arg e i fun n => vIndexAddr P T a n (fun v => vcH P N ops w0 rest ((r, v) :: e) w K)) (fun e => vcH P N ops w0 rest ((r, undef) :: e) w K) := by rw [← vGuardL_eq]; rfl
theorem h_index (T : TypeId) (x i : Operand) (bf : Bool) : vcH P N ops w0 ((bf, ⟨some r, .index T x i, ty, pos, af, none⟩) :: rest) e w K = arg e x fun a => arg e i fun n => vIndex P T a n (fun v => vcH P N ops w0 rest ((r, v) :: e) w K) := rfl
theorem hg_index (T : TypeId) (x i : Operand) (bf : Bool) (jj : Nat) (bb : Bool) : vcH P N ops w0 ((bf, ⟨some r, .index T x i, ty, pos, af, some (jj, bb)⟩) :: rest) e w K = vGuardL ops jj bb e (fun e => arg e x fun a => arg e i fun n => vIndex P T a n (fun v => vcH P N ops w0 rest ((r, v) :: e) w K)) (fun e => vcH P N ops w0 rest ((r, undef) :: e) w K) := by rw [← vGuardL_eq]; rfl
theorem h_extract (x : Operand) (i : Nat) (bf : Bool) : vcH P N ops w0 ((bf, ⟨some r, .extract x i, ty, pos, af, none⟩) :: rest) e w K = arg e x fun a => vExtract a i (fun v => vcH P N ops w0 rest ((r, v) :: e) w K) := rfl
theorem hg_extract (x : Operand) (i : Nat) (bf : Bool) (jj : Nat) (bb : Bool) : vcH P N ops w0 ((bf, ⟨some r, .extract x i, ty, pos, af, some (jj, bb)⟩) :: rest) e w K = vGuardL ops jj bb e (fun e => arg e x fun a => vExtract a i (fun v => vcH P N ops w0 rest ((r, v) :: e) w K)) (fun e => vcH P N ops w0 rest ((r, undef) :: e) w K) := by rw [← vGuardL_eq]; rfl
theorem h_makeInterface (T : TypeId) (x : Operand) (bf : Bool) : vcH P N ops w0 ((bf, ⟨some r, .makeInterface T x, ty, pos, af, none⟩) :: rest) e w K = arg e x fun a => vMakeIface P T a (fun v => vcH P N ops w0 rest ((r, v) :: e) w K) := rfl
theorem hg_makeInterface (T : TypeId) (x : Operand) (bf : Bool) (jj : Nat) (bb : Bool) : vcH P N ops w0 ((bf, ⟨some r, .makeInterface T x, ty, pos, af, some (jj, bb)⟩) :: rest) e w K = vGuardL ops jj bb e (fun e => arg e x fun a => vMakeIface P T a (fun v => vcH P N ops w0 rest ((r, v) :: e) w K)) (fun e => vcH P N ops w0 rest ((r, undef) :: e) w K) := by rw [← vGuardL_eq]; rfl
theorem h_makeFunc (fn : Go.Fn) (a b : Array Operand) (bf : Bool) : vcH P N ops w0 ((bf, ⟨some r, .makeFunc fn a b, ty, pos, af, none⟩) :: rest) e w K = argL e a.toList fun fs => argL e b.toList fun cs => ((fun v => vcH P N ops w0 rest ((r, v) :: e) w K)) (.func fn fs.toArray cs.toArray) := rfl
theorem hg_makeFunc (fn : Go.Fn) (a b : Array Operand) (bf : Bool) (jj : Nat) (bb : Bool) : vcH P N ops w0 ((bf, ⟨some r, .makeFunc fn a b, ty, pos, af, some (jj, bb)⟩) :: rest) e w K = vGuardL ops jj bb e (fun e => argL e a.toList fun fs => argL e b.toList fun cs => ((fun v => vcH P N ops w0 rest ((r, v) :: e) w K)) (.func fn fs.toArray cs.toArray)) (fun e => vcH P N ops w0 rest ((r, undef) :: e) w K) := by rw [← vGuardL_eq]; rfl
theorem h_build (T : TypeId) (ps : Array (Nat × Operand)) (bf : Bool) : vcH P N ops w0 ((bf, ⟨some r, .build T ps, ty, pos, af, none⟩) :: rest) e w K = vParts e ps.toList fun vs => vBuild P T vs (fun v => vcH P N ops w0 rest ((r, v) :: e) w K) := rfl
theorem hg_build (T : TypeId) (ps : Array (Nat × Operand)) (bf : Bool) (jj : Nat) (bb : Bool) : vcH P N ops w0 ((bf, ⟨some r, .build T ps, ty, pos, af, some (jj, bb)⟩) :: rest) e w K = vGuardL ops jj bb e (fun e => vParts e ps.toList fun vs => vBuild P T vs (fun v => vcH P N ops w0 rest ((r, v) :: e) w K)) (fun e => vcH P N ops w0 rest ((r, undef) :: e) w K) := by rw [← vGuardL_eq]; rfl
theorem h_load (T : TypeId) (x : Operand) (bf : Bool) : vcH P N ops w0 ((bf, ⟨some r, .load T x, ty, pos, af, none⟩) :: rest) e w K = arg e x fun a => vLoad P T a (pw bf w0 w) (fun v => vcH P N ops w0 rest ((r, v) :: e) w K) := rfl
theorem hg_load (T : TypeId) (x : Operand) (bf : Bool) (jj : Nat) (bb : Bool) : vcH P N ops w0 ((bf, ⟨some r, .load T x, ty, pos, af, some (jj, bb)⟩) :: rest) e w K = vGuardL ops jj bb e (fun e => arg e x fun a => vLoad P T a (pw bf w0 w) (fun v => vcH P N ops w0 rest ((r, v) :: e) w K)) (fun e => vcH P N ops w0 rest ((r, undef) :: e) w K) := by rw [← vGuardL_eq]; rfl
theorem h_nilCheck (x : Operand) (bf : Bool) : vcH P N ops w0 ((bf, ⟨some r, .nilCheck x, ty, pos, af, none⟩) :: rest) e w K = arg e x fun a => vNil a (fun v => vcH P N ops w0 rest ((r, v) :: e) w K) := rfl
theorem hg_nilCheck (x : Operand) (bf : Bool) (jj : Nat) (bb : Bool) : vcH P N ops w0 ((bf, ⟨some r, .nilCheck x, ty, pos, af, some (jj, bb)⟩) :: rest) e w K = vGuardL ops jj bb e (fun e => arg e x fun a => vNil a (fun v => vcH P N ops w0 rest ((r, v) :: e) w K)) (fun e => vcH P N ops w0 rest ((r, undef) :: e) w K) := by rw [← vGuardL_eq]; rfl
theorem h_len (as : Array Operand) (ts : Array TypeId) (bf : Bool) : vcH P N ops w0 ((bf, ⟨some r, .call { callee := .builtin .len, args := as, argTypes := ts }, ty, pos, af, none⟩) :: rest) e w K = argL e as.toList fun vs => vLenL P ts[0]? vs (fun v => vcH P N ops w0 rest ((r, v) :: e) w K) := rfl
theorem hg_len (as : Array Operand) (ts : Array TypeId) (bf : Bool) (jj : Nat) (bb : Bool) : vcH P N ops w0 ((bf, ⟨some r, .call { callee := .builtin .len, args := as, argTypes := ts }, ty, pos, af, some (jj, bb)⟩) :: rest) e w K = vGuardL ops jj bb e (fun e => argL e as.toList fun vs => vLenL P ts[0]? vs (fun v => vcH P N ops w0 rest ((r, v) :: e) w K)) (fun e => vcH P N ops w0 rest ((r, undef) :: e) w K) := by rw [← vGuardL_eq]; rfl
theorem h_min (as : Array Operand) (ts : Array TypeId) (bf : Bool) : vcH P N ops w0 ((bf, ⟨some r, .call { callee := .builtin .min, args := as, argTypes := ts }, ty, pos, af, none⟩) :: rest) e w K = argL e as.toList fun vs => vMin vs (fun v => vcH P N ops w0 rest ((r, v) :: e) w K) := rfl
theorem hg_min (as : Array Operand) (ts : Array TypeId) (bf : Bool) (jj : Nat) (bb : Bool) : vcH P N ops w0 ((bf, ⟨some r, .call { callee := .builtin .min, args := as, argTypes := ts }, ty, pos, af, some (jj, bb)⟩) :: rest) e w K = vGuardL ops jj bb e (fun e => argL e as.toList fun vs => vMin vs (fun v => vcH P N ops w0 rest ((r, v) :: e) w K)) (fun e => vcH P N ops w0 rest ((r, undef) :: e) w K) := by rw [← vGuardL_eq]; rfl
theorem h_max (as : Array Operand) (ts : Array TypeId) (bf : Bool) : vcH P N ops w0 ((bf, ⟨some r, .call { callee := .builtin .max, args := as, argTypes := ts }, ty, pos, af, none⟩) :: rest) e w K = argL e as.toList fun vs => vMax vs (fun v => vcH P N ops w0 rest ((r, v) :: e) w K) := rfl
theorem hg_max (as : Array Operand) (ts : Array TypeId) (bf : Bool) (jj : Nat) (bb : Bool) : vcH P N ops w0 ((bf, ⟨some r, .call { callee := .builtin .max, args := as, argTypes := ts }, ty, pos, af, some (jj, bb)⟩) :: rest) e w K = vGuardL ops jj bb e (fun e => argL e as.toList fun vs => vMax vs (fun v => vcH P N ops w0 rest ((r, v) :: e) w K)) (fun e => vcH P N ops w0 rest ((r, undef) :: e) w K) := by rw [← vGuardL_eq]; rfl
theorem h_append (as : Array Operand) (ts : Array TypeId) : vcH P N ops w0 ((false, ⟨d, .call { callee := .builtin .append, args := as, argTypes := ts }, ty, pos, af, none⟩) :: rest) e w K = MemK P N ⟨d, .call { callee := .builtin .append, args := as, argTypes := ts }, ty, pos, af, none⟩ e w (extR w0 (vcH P N ops w0 rest)) K := rfl
theorem hg_append (as : Array Operand) (ts : Array TypeId) (jj : Nat) (bb : Bool) : vcH P N ops w0 ((false, ⟨d, .call { callee := .builtin .append, args := as, argTypes := ts }, ty, pos, af, some (jj, bb)⟩) :: rest) e w K = vGuardL ops jj bb e (fun e => MemK P N ⟨d, .call { callee := .builtin .append, args := as, argTypes := ts }, ty, pos, af, some (jj, bb)⟩ e w (extR w0 (vcH P N ops w0 rest)) K) (fun e => vcH P N ops w0 rest (e.put d undef) w K) := by rw [← vGuardL_eq]; rfl
theorem h_copy (as : Array Operand) (ts : Array TypeId) : vcH P N ops w0 ((false, ⟨d, .call { callee := .builtin .copy, args := as, argTypes := ts }, ty, pos, af, none⟩) :: rest) e w K = MemK P N ⟨d, .call { callee := .builtin .copy, args := as, argTypes := ts }, ty, pos, af, none⟩ e w (extR w0 (vcH P N ops w0 rest)) K := rfl
theorem hg_copy (as : Array Operand) (ts : Array TypeId) (jj : Nat) (bb : Bool) : vcH P N ops w0 ((false, ⟨d, .call { callee := .builtin .copy, args := as, argTypes := ts }, ty, pos, af, some (jj, bb)⟩) :: rest) e w K = vGuardL ops jj bb e (fun e => MemK P N ⟨d, .call { callee := .builtin .copy, args := as, argTypes := ts }, ty, pos, af, some (jj, bb)⟩ e w (extR w0 (vcH P N ops w0 rest)) K) (fun e => vcH P N ops w0 rest (e.put d undef) w K) := by rw [← vGuardL_eq]; rfl
theorem h_recover (as : Array Operand) (ts : Array TypeId) : vcH P N ops w0 ((false, ⟨d, .call { callee := .builtin .recover, args := as, argTypes := ts }, ty, pos, af, none⟩) :: rest) e w K = MemK P N ⟨d, .call { callee := .builtin .recover, args := as, argTypes := ts }, ty, pos, af, none⟩ e w (extR w0 (vcH P N ops w0 rest)) K := rfl
theorem hg_recover (as : Array Operand) (ts : Array TypeId) (jj : Nat) (bb : Bool) : vcH P N ops w0 ((false, ⟨d, .call { callee := .builtin .recover, args := as, argTypes := ts }, ty, pos, af, some (jj, bb)⟩) :: rest) e w K = vGuardL ops jj bb e (fun e => MemK P N ⟨d, .call { callee := .builtin .recover, args := as, argTypes := ts }, ty, pos, af, some (jj, bb)⟩ e w (extR w0 (vcH P N ops w0 rest)) K) (fun e => vcH P N ops w0 rest (e.put d undef) w K) := by rw [← vGuardL_eq]; rfl
theorem h_delete (as : Array Operand) (ts : Array TypeId) : vcH P N ops w0 ((false, ⟨d, .call { callee := .builtin .delete, args := as, argTypes := ts }, ty, pos, af, none⟩) :: rest) e w K = MemK P N ⟨d, .call { callee := .builtin .delete, args := as, argTypes := ts }, ty, pos, af, none⟩ e w (extR w0 (vcH P N ops w0 rest)) K := rfl
theorem hg_delete (as : Array Operand) (ts : Array TypeId) (jj : Nat) (bb : Bool) : vcH P N ops w0 ((false, ⟨d, .call { callee := .builtin .delete, args := as, argTypes := ts }, ty, pos, af, some (jj, bb)⟩) :: rest) e w K = vGuardL ops jj bb e (fun e => MemK P N ⟨d, .call { callee := .builtin .delete, args := as, argTypes := ts }, ty, pos, af, some (jj, bb)⟩ e w (extR w0 (vcH P N ops w0 rest)) K) (fun e => vcH P N ops w0 rest (e.put d undef) w K) := by rw [← vGuardL_eq]; rfl
theorem h_cap (as : Array Operand) (ts : Array TypeId) : vcH P N ops w0 ((false, ⟨d, .call { callee := .builtin .cap, args := as, argTypes := ts }, ty, pos, af, none⟩) :: rest) e w K = MemK P N ⟨d, .call { callee := .builtin .cap, args := as, argTypes := ts }, ty, pos, af, none⟩ e w (extR w0 (vcH P N ops w0 rest)) K := rfl
theorem hg_cap (as : Array Operand) (ts : Array TypeId) (jj : Nat) (bb : Bool) : vcH P N ops w0 ((false, ⟨d, .call { callee := .builtin .cap, args := as, argTypes := ts }, ty, pos, af, some (jj, bb)⟩) :: rest) e w K = vGuardL ops jj bb e (fun e => MemK P N ⟨d, .call { callee := .builtin .cap, args := as, argTypes := ts }, ty, pos, af, some (jj, bb)⟩ e w (extR w0 (vcH P N ops w0 rest)) K) (fun e => vcH P N ops w0 rest (e.put d undef) w K) := by rw [← vGuardL_eq]; rfl
theorem h_callv (x : Operand) (as : Array Operand) (ts : Array TypeId) : vcH P N ops w0 ((false, ⟨d, .call { callee := .value x, args := as, argTypes := ts }, ty, pos, af, none⟩) :: rest) e w K = MemK P N ⟨d, .call { callee := .value x, args := as, argTypes := ts }, ty, pos, af, none⟩ e w (extR w0 (vcH P N ops w0 rest)) K := rfl
theorem hg_callv (x : Operand) (as : Array Operand) (ts : Array TypeId) (jj : Nat) (bb : Bool) : vcH P N ops w0 ((false, ⟨d, .call { callee := .value x, args := as, argTypes := ts }, ty, pos, af, some (jj, bb)⟩) :: rest) e w K = vGuardL ops jj bb e (fun e => MemK P N ⟨d, .call { callee := .value x, args := as, argTypes := ts }, ty, pos, af, some (jj, bb)⟩ e w (extR w0 (vcH P N ops w0 rest)) K) (fun e => vcH P N ops w0 rest (e.put d undef) w K) := by rw [← vGuardL_eq]; rfl
theorem h_invoke (x : Operand) (m : String) (as : Array Operand) (ts : Array TypeId) : vcH P N ops w0 ((false, ⟨d, .call { callee := .invoke x m, args := as, argTypes := ts }, ty, pos, af, none⟩) :: rest) e w K = MemK P N ⟨d, .call { callee := .invoke x m, args := as, argTypes := ts }, ty, pos, af, none⟩ e w (extR w0 (vcH P N ops w0 rest)) K := rfl
theorem hg_invoke (x : Operand) (m : String) (as : Array Operand) (ts : Array TypeId) (jj : Nat) (bb : Bool) : vcH P N ops w0 ((false, ⟨d, .call { callee := .invoke x m, args := as, argTypes := ts }, ty, pos, af, some (jj, bb)⟩) :: rest) e w K = vGuardL ops jj bb e (fun e => MemK P N ⟨d, .call { callee := .invoke x m, args := as, argTypes := ts }, ty, pos, af, some (jj, bb)⟩ e w (extR w0 (vcH P N ops w0 rest)) K) (fun e => vcH P N ops w0 rest (e.put d undef) w K) := by rw [← vGuardL_eq]; rfl
theorem h_alloc (T : TypeId) : vcH P N ops w0 ((false, ⟨d, .alloc T, ty, pos, af, none⟩) :: rest) e w K = MemK P N ⟨d, .alloc T, ty, pos, af, none⟩ e w (extR w0 (vcH P N ops w0 rest)) K := rfl
theorem hg_alloc (T : TypeId) (jj : Nat) (bb : Bool) : vcH P N ops w0 ((false, ⟨d, .alloc T, ty, pos, af, some (jj, bb)⟩) :: rest) e w K = vGuardL ops jj bb e (fun e => MemK P N ⟨d, .alloc T, ty, pos, af, some (jj, bb)⟩ e w (extR w0 (vcH P N ops w0 rest)) K) (fun e => vcH P N ops w0 rest (e.put d undef) w K) := by rw [← vGuardL_eq]; rfl
theorem h_box (T : TypeId) (x : Operand) : vcH P N ops w0 ((false, ⟨d, .box T x, ty, pos, af, none⟩) :: rest) e w K = MemK P N ⟨d, .box T x, ty, pos, af, none⟩ e w (extR w0 (vcH P N ops w0 rest)) K := rfl
theorem hg_box (T : TypeId) (x : Operand) (jj : Nat) (bb : Bool) : vcH P N ops w0 ((false, ⟨d, .box T x, ty, pos, af, some (jj, bb)⟩) :: rest) e w K = vGuardL ops jj bb e (fun e => MemK P N ⟨d, .box T x, ty, pos, af, some (jj, bb)⟩ e w (extR w0 (vcH P N ops w0 rest)) K) (fun e => vcH P N ops w0 rest (e.put d undef) w K) := by rw [← vGuardL_eq]; rfl
theorem h_buildSlice (T : TypeId) (n : Nat) (ps : Array (Nat × Operand)) : vcH P N ops w0 ((false, ⟨d, .buildSlice T n ps, ty, pos, af, none⟩) :: rest) e w K = MemK P N ⟨d, .buildSlice T n ps, ty, pos, af, none⟩ e w (extR w0 (vcH P N ops w0 rest)) K := rfl
theorem hg_buildSlice (T : TypeId) (n : Nat) (ps : Array (Nat × Operand)) (jj : Nat) (bb : Bool) : vcH P N ops w0 ((false, ⟨d, .buildSlice T n ps, ty, pos, af, some (jj, bb)⟩) :: rest) e w K = vGuardL ops jj bb e (fun e => MemK P N ⟨d, .buildSlice T n ps, ty, pos, af, some (jj, bb)⟩ e w (extR w0 (vcH P N ops w0 rest)) K) (fun e => vcH P N ops w0 rest (e.put d undef) w K) := by rw [← vGuardL_eq]; rfl
theorem h_store (T : TypeId) (x y : Operand) : vcH P N ops w0 ((false, ⟨d, .store T x y, ty, pos, af, none⟩) :: rest) e w K = MemK P N ⟨d, .store T x y, ty, pos, af, none⟩ e w (extR w0 (vcH P N ops w0 rest)) K := rfl
theorem hg_store (T : TypeId) (x y : Operand) (jj : Nat) (bb : Bool) : vcH P N ops w0 ((false, ⟨d, .store T x y, ty, pos, af, some (jj, bb)⟩) :: rest) e w K = vGuardL ops jj bb e (fun e => MemK P N ⟨d, .store T x y, ty, pos, af, some (jj, bb)⟩ e w (extR w0 (vcH P N ops w0 rest)) K) (fun e => vcH P N ops w0 rest (e.put d undef) w K) := by rw [← vGuardL_eq]; rfl
theorem h_makeSlice (T : TypeId) (x y : Operand) : vcH P N ops w0 ((false, ⟨d, .makeSlice T x y, ty, pos, af, none⟩) :: rest) e w K = MemK P N ⟨d, .makeSlice T x y, ty, pos, af, none⟩ e w (extR w0 (vcH P N ops w0 rest)) K := rfl
theorem hg_makeSlice (T : TypeId) (x y : Operand) (jj : Nat) (bb : Bool) : vcH P N ops w0 ((false, ⟨d, .makeSlice T x y, ty, pos, af, some (jj, bb)⟩) :: rest) e w K = vGuardL ops jj bb e (fun e => MemK P N ⟨d, .makeSlice T x y, ty, pos, af, some (jj, bb)⟩ e w (extR w0 (vcH P N ops w0 rest)) K) (fun e => vcH P N ops w0 rest (e.put d undef) w K) := by rw [← vGuardL_eq]; rfl
theorem h_makeMap (T : TypeId) (r : Option Operand) : vcH P N ops w0 ((false, ⟨d, .makeMap T r, ty, pos, af, none⟩) :: rest) e w K = MemK P N ⟨d, .makeMap T r, ty, pos, af, none⟩ e w (extR w0 (vcH P N ops w0 rest)) K := rfl
theorem hg_makeMap (T : TypeId) (r : Option Operand) (jj : Nat) (bb : Bool) : vcH P N ops w0 ((false, ⟨d, .makeMap T r, ty, pos, af, some (jj, bb)⟩) :: rest) e w K = vGuardL ops jj bb e (fun e => MemK P N ⟨d, .makeMap T r, ty, pos, af, some (jj, bb)⟩ e w (extR w0 (vcH P N ops w0 rest)) K) (fun e => vcH P N ops w0 rest (e.put d undef) w K) := by rw [← vGuardL_eq]; rfl
theorem h_lookup (T : TypeId) (x y : Operand) (c : Bool) : vcH P N ops w0 ((false, ⟨d, .lookup T x y c, ty, pos, af, none⟩) :: rest) e w K = MemK P N ⟨d, .lookup T x y c, ty, pos, af, none⟩ e w (extR w0 (vcH P N ops w0 rest)) K := rfl
theorem hg_lookup (T : TypeId) (x y : Operand) (c : Bool) (jj : Nat) (bb : Bool) : vcH P N ops w0 ((false, ⟨d, .lookup T x y c, ty, pos, af, some (jj, bb)⟩) :: rest) e w K = vGuardL ops jj bb e (fun e => MemK P N ⟨d, .lookup T x y c, ty, pos, af, some (jj, bb)⟩ e w (extR w0 (vcH P N ops w0 rest)) K) (fun e => vcH P N ops w0 rest (e.put d undef) w K) := by rw [← vGuardL_eq]; rfl
theorem h_mapUpdate (T : TypeId) (x y z : Operand) : vcH P N ops w0 ((false, ⟨d, .mapUpdate T x y z, ty, pos, af, none⟩) :: rest) e w K = MemK P N ⟨d, .mapUpdate T x y z, ty, pos, af, none⟩ e w (extR w0 (vcH P N ops w0 rest)) K := rfl
theorem hg_mapUpdate (T : TypeId) (x y z : Operand) (jj : Nat) (bb : Bool) : vcH P N ops w0 ((false, ⟨d, .mapUpdate T x y z, ty, pos, af, some (jj, bb)⟩) :: rest) e w K = vGuardL ops jj bb e (fun e => MemK P N ⟨d, .mapUpdate T x y z, ty, pos, af, some (jj, bb)⟩ e w (extR w0 (vcH P N ops w0 rest)) K) (fun e => vcH P N ops w0 rest (e.put d undef) w K) := by rw [← vGuardL_eq]; rfl
theorem h_range (T : TypeId) (x : Operand) : vcH P N ops w0 ((false, ⟨d, .range T x, ty, pos, af, none⟩) :: rest) e w K = MemK P N ⟨d, .range T x, ty, pos, af, none⟩ e w (extR w0 (vcH P N ops w0 rest)) K := rfl
theorem hg_range (T : TypeId) (x : Operand) (jj : Nat) (bb : Bool) : vcH P N ops w0 ((false, ⟨d, .range T x, ty, pos, af, some (jj, bb)⟩) :: rest) e w K = vGuardL ops jj bb e (fun e => MemK P N ⟨d, .range T x, ty, pos, af, some (jj, bb)⟩ e w (extR w0 (vcH P N ops w0 rest)) K) (fun e => vcH P N ops w0 rest (e.put d undef) w K) := by rw [← vGuardL_eq]; rfl
theorem h_next (x : Operand) (s : Bool) : vcH P N ops w0 ((false, ⟨d, .next x s, ty, pos, af, none⟩) :: rest) e w K = MemK P N ⟨d, .next x s, ty, pos, af, none⟩ e w (extR w0 (vcH P N ops w0 rest)) K := rfl
theorem hg_next (x : Operand) (s : Bool) (jj : Nat) (bb : Bool) : vcH P N ops w0 ((false, ⟨d, .next x s, ty, pos, af, some (jj, bb)⟩) :: rest) e w K = vGuardL ops jj bb e (fun e => MemK P N ⟨d, .next x s, ty, pos, af, some (jj, bb)⟩ e w (extR w0 (vcH P N ops w0 rest)) K) (fun e => vcH P N ops w0 rest (e.put d undef) w K) := by rw [← vGuardL_eq]; rfl
theorem h_entry (x : Operand) : vcH P N ops w0 ((false, ⟨d, .entry x, ty, pos, af, none⟩) :: rest) e w K = MemK P N ⟨d, .entry x, ty, pos, af, none⟩ e w (extR w0 (vcH P N ops w0 rest)) K := rfl
theorem hg_entry (x : Operand) (jj : Nat) (bb : Bool) : vcH P N ops w0 ((false, ⟨d, .entry x, ty, pos, af, some (jj, bb)⟩) :: rest) e w K = vGuardL ops jj bb e (fun e => MemK P N ⟨d, .entry x, ty, pos, af, some (jj, bb)⟩ e w (extR w0 (vcH P N ops w0 rest)) K) (fun e => vcH P N ops w0 rest (e.put d undef) w K) := by rw [← vGuardL_eq]; rfl
theorem h_typeAssert (x : Operand) (T T' : TypeId) (c : Bool) : vcH P N ops w0 ((false, ⟨d, .typeAssert x T T' c, ty, pos, af, none⟩) :: rest) e w K = MemK P N ⟨d, .typeAssert x T T' c, ty, pos, af, none⟩ e w (extR w0 (vcH P N ops w0 rest)) K := rfl
theorem hg_typeAssert (x : Operand) (T T' : TypeId) (c : Bool) (jj : Nat) (bb : Bool) : vcH P N ops w0 ((false, ⟨d, .typeAssert x T T' c, ty, pos, af, some (jj, bb)⟩) :: rest) e w K = vGuardL ops jj bb e (fun e => MemK P N ⟨d, .typeAssert x T T' c, ty, pos, af, some (jj, bb)⟩ e w (extR w0 (vcH P N ops w0 rest)) K) (fun e => vcH P N ops w0 rest (e.put d undef) w K) := by rw [← vGuardL_eq]; rfl
theorem h_defer (c : Call) : vcH P N ops w0 ((false, ⟨d, .defer c, ty, pos, af, none⟩) :: rest) e w K = MemK P N ⟨d, .defer c, ty, pos, af, none⟩ e w (extR w0 (vcH P N ops w0 rest)) K := rfl
theorem hg_defer (c : Call) (jj : Nat) (bb : Bool) : vcH P N ops w0 ((false, ⟨d, .defer c, ty, pos, af, some (jj, bb)⟩) :: rest) e w K = vGuardL ops jj bb e (fun e => MemK P N ⟨d, .defer c, ty, pos, af, some (jj, bb)⟩ e w (extR w0 (vcH P N ops w0 rest)) K) (fun e => vcH P N ops w0 rest (e.put d undef) w K) := by rw [← vGuardL_eq]; rfl
theorem h_panic (x : Operand) : vcH P N ops w0 ((false, ⟨d, .panic x, ty, pos, af, none⟩) :: rest) e w K = MemK P N ⟨d, .panic x, ty, pos, af, none⟩ e w (extR w0 (vcH P N ops w0 rest)) K := rfl
theorem hg_panic (x : Operand) (jj : Nat) (bb : Bool) : vcH P N ops w0 ((false, ⟨d, .panic x, ty, pos, af, some (jj, bb)⟩) :: rest) e w K = vGuardL ops jj bb e (fun e => MemK P N ⟨d, .panic x, ty, pos, af, some (jj, bb)⟩ e w (extR w0 (vcH P N ops w0 rest)) K) (fun e => vcH P N ops w0 rest (e.put d undef) w K) := by rw [← vGuardL_eq]; rfl
end
theorem tn1 (a b : Nat) : ((a : Int) + (b : Int)).toNat = a + b := by omega
theorem tn2 (a : Nat) : (a : Int).toNat = a := by omega
theorem tn3 (a k : Nat) : ((a : Int) + (no_index (OfNat.ofNat k : Int))).toNat = a + (OfNat.ofNat k : Nat) := Int.toNat_natCast (a + k)
theorem tn5 (a b : Nat) : ((a : Int) - (b : Int)).toNat = a - b := by omega
theorem tn4 (a k : Nat) : ((a : Int) - (no_index (OfNat.ofNat k : Int))).toNat = a - (OfNat.ofNat k : Nat) := tn5 a k
attribute [go_sem] tn1 tn2 tn3 tn4 tn5
attribute [go_sem ↓] h_nilS extR_eq pw_t pw_f h_move hg_move h_assign hg_assign h_pick hg_pick h_binOp hg_binOp h_unOp hg_unOp h_convert h_convertM hg_convert h_slice hg_slice h_fieldAddr hg_fieldAddr h_field hg_field h_indexAddr hg_indexAddr h_index hg_index h_extract hg_extract h_makeInterface hg_makeInterface h_makeFunc hg_makeFunc h_build hg_build h_load hg_load h_nilCheck hg_nilCheck h_len hg_len h_min hg_min h_max hg_max h_append hg_append h_copy hg_copy h_recover hg_recover h_delete hg_delete h_cap hg_cap h_callv hg_callv h_invoke hg_invoke h_alloc hg_alloc h_box hg_box h_buildSlice hg_buildSlice h_store hg_store h_makeSlice hg_makeSlice h_makeMap hg_makeMap h_lookup hg_lookup h_mapUpdate hg_mapUpdate h_range hg_range h_next hg_next h_entry hg_entry h_typeAssert hg_typeAssert h_defer hg_defer h_panic hg_panic
end Go.Eng
