/- A program logic over the model: what is left to do, what is known of the frame, what the call holds of memory. No conditions: a library of lemmas. -/
import Derived.Test.YtklpiecolpnmlaaDoorEngG
set_option linter.unusedSimpArgs false
set_option linter.unusedVariables false
/-! The engine, part 20: elements of several cells: literals, make, append; values compared. -/
namespace Go.Eng
open Go

/-- Elements of several cells, one behind the other. -/
def rowsV {α : Type} (f : α → List Value) (l : List α) : List Value := l.flatMap f

section
variable {α : Type} {f : α → List Value} {k : Nat}
theorem rowsV_len (hk : ∀ x, (f x).length = k) (l : List α) : (rowsV f l).length = l.length * k := by
  induction l with
  | nil => simp [rowsV]
  | cons x l ih => simp only [rowsV, List.flatMap_cons, List.length_append, List.length_cons, Nat.succ_mul] at ih ⊢; rw [ih, hk]; omega
theorem rowsV_append (l m : List α) : rowsV f (l ++ m) = rowsV f l ++ rowsV f m := by simp [rowsV]
theorem rowsV_one (x : α) : rowsV f [x] = f x := by simp [rowsV]
theorem rowsV_get (hk : ∀ x, (f x).length = k) : ∀ (l : List α) (i : Nat) (x : α), l[i]? = some x → ∀ j u, (f x)[j]? = some u → (rowsV f l)[i * k + j]? = some u := by
  intro l
  induction l with
  | nil => intro i x h; simp at h
  | cons y l ih =>
    intro i x h j u hu
    have hj : j < k := by have := (List.getElem?_eq_some_iff.1 hu).1; rwa [hk] at this
    cases i with
    | zero =>
      simp at h; subst h
      simp only [rowsV, List.flatMap_cons]
      rw [Nat.zero_mul, Nat.zero_add, List.getElem?_append_left (by rw [hk]; exact hj)]
      exact hu
    | succ i =>
      have := ih i x (by simpa using h) j u hu
      simp only [rowsV, List.flatMap_cons] at this ⊢
      rw [List.getElem?_append_right (by rw [hk, Nat.succ_mul]; omega), ← this, hk]
      congr 1
      rw [Nat.succ_mul]; omega
theorem rowsV_take (hk : ∀ x, (f x).length = k) : ∀ (l : List α) (i : Nat), (rowsV f l).take (i * k) = rowsV f (l.take i) := by
  intro l
  induction l with
  | nil => intro i; simp [rowsV]
  | cons y l ih =>
    intro i
    cases i with
    | zero => simp [rowsV]
    | succ i =>
      have := ih i
      simp only [rowsV, List.flatMap_cons, List.take_succ_cons] at this ⊢
      rw [Nat.succ_mul, Nat.add_comm, List.take_append, hk, List.take_of_length_le (by rw [hk]; omega), show k + i * k - k = i * k by omega, this]
theorem rowsV_drop (hk : ∀ x, (f x).length = k) : ∀ (l : List α) (i : Nat), (rowsV f l).drop (i * k) = rowsV f (l.drop i) := by
  intro l
  induction l with
  | nil => intro i; simp [rowsV]
  | cons y l ih =>
    intro i
    cases i with
    | zero => simp [rowsV]
    | succ i =>
      have := ih i
      simp only [rowsV, List.flatMap_cons, List.drop_succ_cons] at this ⊢
      rw [Nat.succ_mul, Nat.add_comm, List.drop_append, hk, List.drop_of_length_le (by rw [hk]; omega), show k + i * k - k = i * k by omega, this, List.nil_append]
theorem rowsV_set (hk : ∀ x, (f x).length = k) (l : List α) (i : Nat) (y : α) (hi : i < l.length) : (rowsV f l).take (i * k) ++ f y ++ (rowsV f l).drop (i * k + k) = rowsV f (l.set i y) := by
  rw [rowsV_take hk, show i * k + k = (i + 1) * k by rw [Nat.succ_mul], rowsV_drop hk, List.set_eq_take_append_cons_drop, if_pos hi, rowsV_append, List.append_assoc]
  congr 1
theorem rowsV_cells (h1 : ∀ x, ∀ v ∈ f x, v.oneCell' = true) (l : List α) : ∀ v ∈ rowsV f l, v.oneCell' = true := by
  intro v hv
  obtain ⟨x, _, hx⟩ := List.mem_flatMap.1 hv
  exact h1 x v hx
theorem rowsV_reads {w : World} {p : Addr} {n : Nat} (hk : ∀ x, (f x).length = k) {l : List α} (h : RS w (some p) n k (rowsV f l)) (hp : p.spot = none) {i : Nat} {x : α} (hi : l[i]? = some x) : Reads w (p.add (i * k)) (f x) :=
  rs_part h hp _ _ fun j u hu => rowsV_get hk l i x hi j u hu
end

theorem rep_get {α : Type} (zs : List α) (k : Nat) (hk : zs.length = k) (hk0 : 0 < k) : ∀ (c j : Nat), j < c * k → (List.replicate c zs).flatten[j]? = zs[j % k]? := by
  intro c
  induction c with
  | zero => intro j h; simp at h
  | succ c ih =>
    intro j h
    rw [List.replicate_succ, List.flatten_cons]
    rcases Nat.lt_or_ge j k with h1 | h1
    · rw [List.getElem?_append_left (by omega), Nat.mod_eq_of_lt h1]
    · rw [List.getElem?_append_right (by omega), hk, ih (j - k) (by rw [Nat.succ_mul] at h; omega)]
      congr 1
      conv => rhs; rw [show j = (j - k) + k by omega, Nat.add_mod_right]
theorem rep_len {α : Type} (zs : List α) (k : Nat) (hk : zs.length = k) (c : Nat) : (List.replicate c zs).flatten.length = c * k := by
  induction c with
  | zero => simp
  | succ c ih => rw [List.replicate_succ, List.flatten_cons, List.length_append, ih, Nat.succ_mul]; omega

section
variable {P : Program} {N : Nat} {d : Option Tmp} {ty : TypeId} {pos : String} {af : Array Edge} {gd : Option (Nat × Bool)} {e : Env} {w : World} {R : Env → World → (Env → World → Prop) → Prop} {K : Env → World → Prop}

theorem run_makeSliceK {T E : TypeId} {i : TypeInfo} {z : Value} {zs : List Value} {k : Nat} (hu : P.underlying T = some (.slice E)) (hi : P.info? E = some i) (hz : i.zero = some z) (hzv : z.cells = zs.toArray) (h1 : i.size = k) (hk : zs.length = k) (hk0 : 0 < k)
    {l c : Nat} (hlc : l ≤ c) (hb : i.bytes * c ≤ 2 ^ 48) (hc : c ≤ maxLen) (w : World) :
    (Instr.makeSlice T (.int .i64 l) (.int .i64 c)).run P w = .ok (.slice (some ⟨w.heap.size, 0, none⟩) l c) (w.alloc (.cells (List.replicate c zs).flatten.toArray E)) := by
  have hcm : (c : Int) ≤ 9223372036854775807 := by simp only [maxLen] at hc; omega
  have e1 : IntKind.i64.wrap (l : Int) = l := wrap_i64_of ⟨by omega, by omega⟩
  have e2 : IntKind.i64.wrap (c : Int) = c := wrap_i64_of ⟨by omega, by omega⟩
  have hb1 : ((i.bytes * c : Nat) : Int) ≤ 281474976710656 := by
    have h : i.bytes * c ≤ 281474976710656 := hb
    omega
  have hb' : ¬ ((i.bytes : Int) * (c : Int) > 281474976710656) := by
    have e3 : ((i.bytes * c : Nat) : Int) = (i.bytes : Int) * (c : Int) := Int.natCast_mul _ _
    omega
  have hrow : (Array.range (c * k)).map (fun x => (zs.toArray : Array Value)[x % zs.toArray.size]!) = (List.replicate c zs).flatten.toArray := by
    apply Array.ext
    · simp [rep_len zs k hk c]
    · intro j h3 h4
      have h5 : j < c * k := by simpa using h3
      have h6 := rep_get zs k hk hk0 c j h5
      have h7 : j % k < zs.length := by rw [hk]; exact Nat.mod_lt _ hk0
      rw [List.getElem?_eq_getElem (by rw [rep_len zs k hk c]; exact h5), List.getElem?_eq_getElem h7] at h6
      simp only [Array.getElem_map, Array.getElem_range, List.getElem_toArray, List.size_toArray, hk]
      rw [getElem!_pos zs.toArray (j % k) (by simpa using h7)]
      simpa using (Option.some.inj h6).symm
  have hti : ∀ w, (typeInfo E).run P w = .ok i w := fun w => by simp [typeInfo, hi]
  have hzi : ∀ w, (zeroValue E).run P w = .ok z w := fun w => by simp [zeroValue, typeInfo, hi, hz]
  have hso : ∀ w, (sizeOf E).run P w = .ok k w := fun w => by simp [sizeOf, typeInfo, hi, h1]
  simp only [Instr.makeSlice, Sem.run_bind, run_underlying hu, Result.andThen_ok, asInt, asIntOf, Sem.run_pure, hti, e1, e2]
  rw [if_neg (by simp [hb']; omega)]
  simp only [Sem.run_bind, run_askRoom, Result.andThen_ok, hso, Int.toNat_natCast]
  by_cases hc0 : c = 0
  · subst hc0
    simp only [Nat.zero_mul, if_true, Sem.run_bind, Sem.run_pure, Result.andThen_ok, run_newRow]
    simp [show Array.range 0 = #[] from rfl]
  · have hck : c * k ≠ 0 := Nat.mul_ne_zero hc0 (by omega)
    rw [if_neg hck]
    simp only [Sem.run_bind, hzi, Result.andThen_ok, Sem.run_pure, run_newRow, hzv]
    rw [← hrow]

theorem MemK_makeK {T E : TypeId} {x y : Operand} {zs : List Value} {k bytes : Nat} (hu : P.underlying T = some (.slice E)) (hz : (P.info? E).map (fun i => (i.zero.map Value.cells, i.size, i.bytes)) = some (some zs.toArray, k, bytes)) (hk : zs.length = k) (hk0 : 0 < k)
    (h : arg e x fun vl => arg e y fun vc => ∃ l c : Nat, (vl = .int .i64 l ∧ vc = .int .i64 c ∧ l ≤ c ∧ bytes * c ≤ 281474976710656 ∧ c ≤ 9223372036854775807) ∧ R (e.put d (.slice (some ⟨w.heap.size, 0, none⟩) l c)) (w.alloc (.cells (List.replicate c zs).flatten.toArray E)) K) :
    MemK P N ⟨d, .makeSlice T x y, ty, pos, af, gd⟩ e w R K :=
  Mem_of_run fun a n ha => by
    obtain ⟨l, c, ⟨h1, h2, h3, h4, h5⟩, hR⟩ := arg_sound (K := fun vc => ∃ l c : Nat, (a.eval x = .int .i64 l ∧ vc = .int .i64 c ∧ l ≤ c ∧ bytes * c ≤ 281474976710656 ∧ c ≤ 9223372036854775807) ∧ R (e.put d (.slice (some ⟨w.heap.size, 0, none⟩) l c)) (w.alloc (.cells (List.replicate c zs).flatten.toArray E)) K) ha
      (arg_sound (K := fun vl => arg e y fun vc => ∃ l c : Nat, (vl = .int .i64 l ∧ vc = .int .i64 c ∧ l ≤ c ∧ bytes * c ≤ 281474976710656 ∧ c ≤ 9223372036854775807) ∧ R (e.put d (.slice (some ⟨w.heap.size, 0, none⟩) l c)) (w.alloc (.cells (List.replicate c zs).flatten.toArray E)) K) ha h)
    cases hi : P.info? E with
    | none => simp [hi] at hz
    | some i =>
      simp only [hi, Option.map_some, Option.some.injEq, Prod.mk.injEq] at hz
      obtain ⟨hz1, hz2, hz3⟩ := hz
      cases hzz : i.zero with
      | none => simp [hzz] at hz1
      | some z =>
        simp only [hzz, Option.map_some, Option.some.injEq] at hz1
        refine ⟨_, w.alloc (.cells (List.replicate c zs).flatten.toArray E), n, ?_, hR⟩
        have := run_makeSliceK hu hi hzz hz1 hz2 hk hk0 h3 (by rw [hz3]; exact h4) (by simp only [maxLen]; omega) (w.drewN n)
        simp only [execOp, h1, h2, this, Sem.run_bind, Result.andThen_ok, Sem.run_pure]
        rfl

theorem run_eqIn_slice {T E : TypeId} (hu : P.underlying T = some (.slice E)) (d : Nat) (a : Option Addr) (n c n' c' : Nat) (w : World) : (Op.equalIn (d + 1) T (.slice a n c) (.slice none n' c')).run P w = .ok a.isNone w := by
  unfold Op.equalIn
  cases a <;> simp [run_underlying hu]
theorem be_slice {T E : TypeId} {KV : Value → Prop} (hu : P.underlying T = some (.slice E)) (a : Option Addr) (n c n' c' : Nat) (xo yo : Operand) : vBinO P .eql T xo yo (.slice a n c) (.slice none n' c') w KV = KV (.bool a.isNone) := by
  refine EqR_of fun w' => ?_
  simp only [Sem.run_bind]
  rw [eqGuard_free ⟨by simp, by simp⟩]
  have : (Op.equal T (.slice a n c) (.slice none n' c')).run P w' = .ok a.isNone w' := run_eqIn_slice hu 9999 a n c n' c' w'
  simp only [Result.andThen_ok, binOp, Sem.run_bind, this, Sem.run_pure]

/-- A block of the call's own, seen where another part is left out. -/
theorem Heap.hole_at {w0 : World} {B : List Nat} {G : List Res} {r : Res} (h : Heap w0 B w G) (i j : Nat) (hi : G[i]? = some r) {g T k : Nat} {cs : List Value} {v : Value} (hj : G[j]? = some (Res.blk g T cs)) (hij : i ≠ j) (hv : cs[k]? = some v) : (holes r.foot w).cell? ⟨g, k, none⟩ = some v := by
  refine holes_cell (blk_cell (h.at j hj) hv) ?_
  obtain ⟨h1, e1⟩ := List.getElem?_eq_some_iff.1 hi
  obtain ⟨h2, e2⟩ := List.getElem?_eq_some_iff.1 hj
  have ha := List.pairwise_iff_getElem.1 h.apart
  rcases Nat.lt_or_ge i j with h3 | h3
  · have h4 := ha i j h1 h2 h3
    rw [e1, e2] at h4
    exact fun hb => h4 g hb (by simp [Res.blk])
  · have h4 := ha j i h2 h1 (by omega)
    rw [e1, e2] at h4
    exact h4 g (by simp [Res.blk])

/-- What is left of a row when it is cut. -/
theorem row_shrink {T sz n cap m : Nat} {a : Option Addr} {xs : List Value} (h : (Res.row T sz a n cap xs).holds w) (hm : m ≤ n) : (Res.row T sz a m cap (xs.take (m * sz))).holds w := by
  obtain ⟨h1, h2, h3, h4⟩ := h
  have hms : m * sz ≤ n * sz := Nat.mul_le_mul_right _ hm
  refine ⟨by rw [List.length_take]; omega, by omega, h3, ?_⟩
  rcases h4 with ⟨rfl, hn, hc⟩ | ⟨g, rest, fz, rfl, hg, hl, hf⟩
  · exact .inl ⟨rfl, by omega, hc⟩
  · refine .inr ⟨g, xs.drop (m * sz) ++ rest, fz, rfl, ?_, ?_, hf⟩
    · rw [← List.append_assoc, List.take_append_drop]; exact hg
    · rw [← List.append_assoc, List.take_append_drop]; exact hl
end
end Go.Eng
