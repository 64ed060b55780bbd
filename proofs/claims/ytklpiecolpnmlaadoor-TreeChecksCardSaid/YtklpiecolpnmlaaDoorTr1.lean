/- Trees: what a tree is, and how it lies in memory (plain). -/
import Derived.Test.YtklpiecolpnmlaaDoorEngK
import Derived.Test.YtklpiecolpnmlaaDoorFacts
namespace Go.Proofs.YtklpiecolpnmlaaDoor
open Go Go.Eng
set_option maxRecDepth 100000
set_option linter.unusedSimpArgs false
set_option linter.unusedVariables false

/-- A tree, and where its kids lie. -/
inductive NT where
  | mk (name : List UInt8) (dir : Bool) (data : List UInt8) (place : Option Addr) (cap : Nat) (kids : List NT)

def NT.name : NT → List UInt8 | .mk n _ _ _ _ _ => n
def NT.dir : NT → Bool | .mk _ d _ _ _ _ => d
def NT.data : NT → List UInt8 | .mk _ _ d _ _ _ => d
def NT.place : NT → Option Addr | .mk _ _ _ a _ _ => a
def NT.cap : NT → Nat | .mk _ _ _ _ c _ => c
def NT.kids : NT → List NT | .mk _ _ _ _ _ k => k

instance : Inhabited NT := ⟨.mk [] false [] none 0 []⟩

def nodeV (t : NT) : List Value := [Str t.name, .bool t.dir, Str t.data, .slice t.place t.kids.length t.cap]
theorem nodeV_len (t : NT) : (nodeV t).length = 4 := rfl
theorem nodeV_one (t : NT) : ∀ v ∈ nodeV t, v.oneCell' = true := by
  intro v hv
  simp [nodeV] at hv
  rcases hv with rfl | rfl | rfl | rfl <;> rfl
def nodesV (l : List NT) : List Value := rowsV nodeV l
theorem nodesV_one (l : List NT) : ∀ v ∈ nodesV l, v.oneCell' = true := rowsV_cells nodeV_one l
theorem nodesV_len (l : List NT) : (nodesV l).length = l.length * 4 := rowsV_len (k := 4) nodeV_len l
abbrev nodeA (t : NT) : Value := .agg (nodeV t).toArray

/-- What a node's own words may be. -/
def NT.Fits (t : NT) : Prop := t.name.length ≤ 140737488355328 ∧ t.data.length ≤ 140737488355328 ∧ t.kids.length ≤ 140737488355328

mutual
/-- The kids lie where the node says. -/
def Lies (w : World) : NT → Prop
  | .mk n d dt a c ks => (NT.mk n d dt a c ks).Fits ∧ RS w a ks.length 4 (nodesV ks) ∧ LiesL w ks
def LiesL (w : World) : List NT → Prop
  | [] => True
  | k :: ks => Lies w k ∧ LiesL w ks
end
theorem LiesL_iff (w : World) (l : List NT) : LiesL w l ↔ ∀ k ∈ l, Lies w k := by
  induction l with
  | nil => simp [LiesL]
  | cons x l ih => simp [LiesL, ih]
theorem Lies_iff (w : World) (t : NT) : Lies w t ↔ t.Fits ∧ RS w t.place t.kids.length 4 (nodesV t.kids) ∧ ∀ k ∈ t.kids, Lies w k := by
  cases t
  rw [Lies, LiesL_iff]
  exact Iff.rfl

theorem NT.ind {P : NT → Prop} (h : ∀ t : NT, (∀ k ∈ t.kids, P k) → P t) : ∀ t, P t := by
  intro t
  refine NT.rec (motive_1 := P) (motive_2 := fun l => ∀ k ∈ l, P k) ?_ ?_ ?_ t
  · intro n d dt a c ks ih
    exact h _ ih
  · simp
  · intro k ks hk hks x hx
    rcases List.mem_cons.1 hx with rfl | hx
    · exact hk
    · exact hks x hx

theorem Lies.keep {w0 w : World} {G : List Res} (h : Heap w0 [] w G) : ∀ t, Lies w0 t → Lies w t := by
  refine NT.ind fun t ih hl => ?_
  rw [Lies_iff] at hl ⊢
  exact ⟨hl.1, h.rs' hl.2.1, fun k hk => ih k hk (hl.2.2 k hk)⟩

theorem addr_add_add (p : Addr) (k j : Nat) : (p.add k).add j = p.add (k + j) := by
  unfold Addr.add
  by_cases h1 : k = 0 <;> by_cases h2 : j = 0 <;> simp_all <;> omega
/-- A kid of a row of nodes. -/
theorem rs_node {w : World} {p : Addr} {n : Nat} {l : List NT} (h : RS w (some p) n 4 (nodesV l)) {i : Nat} {x : NT} (hx : l[i]? = some x) : Reads w (p.add (i * 4)) (nodeV x) := by
  intro j u hu
  have := h.2.2 p rfl (i * 4 + j) u (rowsV_get (k := 4) nodeV_len l i x hx j u hu)
  rw [addr_add_add]
  exact this

/-- A load of a cell that is known; of a whole struct. -/
theorem ex_hit {w : World} {a : Addr} {u : Value} {K : Value → Prop} (h : w.cell? a = some u) : (∃ v, w.cell? a = some v ∧ K v) = K u := by
  apply propext
  constructor
  · rintro ⟨v, hv, hk⟩
    rw [h] at hv
    cases hv
    exact hk
  · exact fun hk => ⟨u, h, hk⟩
theorem ex_reads {w : World} {a : Addr} {us : List Value} {n : Nat} {K : Value → Prop} (h : Reads w a us) (hn : us.length = n) : (∃ cs : List Value, (cs.length = n ∧ Reads w a cs) ∧ K (.agg cs.toArray)) = K (.agg us.toArray) := by
  apply propext
  constructor
  · rintro ⟨cs, ⟨hl, hr⟩, hk⟩
    have : cs = us := by
      apply List.ext_getElem
      · omega
      · intro i h1 h2
        have e1 := hr i _ (List.getElem?_eq_getElem h1)
        have e2 := h i _ (List.getElem?_eq_getElem h2)
        rw [e1] at e2
        exact Option.some.inj e2
    rw [← this]
    exact hk
  · exact fun hk => ⟨us, ⟨hn, h⟩, hk⟩

/-- A call by its contract: the arguments are looked at alone. -/
theorem MemK_callD {P : Program} {N : Nat} {d : Option Tmp} {ty : Nat} {pos : String} {af : Array Edge} {gd : Option (Nat × Bool)} {e : Env} {w : World} {R : Env → World → (Env → World → Prop) → Prop} {K : Env → World → Prop}
    {f : FuncId} {ao : Array Operand} {ts : Array TypeId} {vs : List Value} {F : Value → World → Prop} (hf : ∀ args w, (callFunc f args).run P w = .ok (.enter f args) w)
    (hD : Does P f vs.toArray w F) (ha : argL e ao.toList fun us => us = vs) (hC : ∀ v w', F v w' → R (e.put d v) w' K) :
    MemK P N ⟨d, .call { callee := .value (.func f), args := ao, argTypes := ts }, ty, pos, af, gd⟩ e w R K :=
  MemK_call hf (argL_mono' _ _ _ ha fun us _ h => h ▸ CallK.mk hD hC)
theorem gB_ntt {A B : Prop} : gB (!true) true A B = B := by simp [gB]
theorem gB_ntf {A B : Prop} : gB (!true) false A B = A := by simp [gB]
theorem gB_nft {A B : Prop} : gB (!false) true A B = A := by simp [gB]
theorem gB_nff {A B : Prop} : gB (!false) false A B = B := by simp [gB]
attribute [go_sem ↓] gB_ntt gB_ntf gB_nft gB_nff

theorem add_nought (p : Addr) : p.add 0 = p := by unfold Addr.add; simp

/-! ## Plain: size, names -/
mutual
def sizeN : NT → Nat
  | .mk _ _ _ _ _ ks => 1 + sizeL ks
def sizeL : List NT → Nat
  | [] => 0
  | k :: ks => sizeN k + sizeL ks
end
theorem sizeN_eq (t : NT) : sizeN t = 1 + sizeL t.kids := by cases t; rw [sizeN]; rfl
theorem sizeL_append (l m : List NT) : sizeL (l ++ m) = sizeL l + sizeL m := by
  induction l with
  | nil => simp [sizeL]
  | cons x l ih => simp [sizeL, ih]; omega
theorem sizeL_take (l : List NT) (i : Nat) : sizeL (l.take i) ≤ sizeL l := by
  have := sizeL_append (l.take i) (l.drop i)
  rw [List.take_append_drop] at this
  omega
theorem take_snoc {α : Type} {l : List α} {i : Nat} {x : α} (h : l[i]? = some x) : l.take (i + 1) = l.take i ++ [x] := by
  rw [List.take_add_one, h]; rfl

def okByte (b : UInt8) : Bool := b != 47 && decide (32 ≤ b.toNat) && decide (b.toNat ≤ 126)
def namedS (s : List UInt8) : Bool := s.all okByte && decide (s ≠ []) && decide (s ≠ [46]) && decide (s ≠ [46, 46])
mutual
def rightS : NT → Nat → Bool
  | .mk _ d dt _ _ ks, lv => !(d && decide (dt ≠ [])) && !(!d && decide (ks.length > 0)) && decide (lv ≤ 60) && rightL ks lv []
def rightL : List NT → Nat → List UInt8 → Bool
  | [], _, _ => true
  | k :: ks, lv, last => namedS k.name && Op.bytesLess last k.name && rightS k (lv + 1) && rightL ks lv k.name
end
theorem rightS_eq (t : NT) (lv : Nat) : rightS t lv = (!(t.dir && decide (t.data ≠ [])) && !(!t.dir && decide (t.kids.length > 0)) && decide (lv ≤ 60) && rightL t.kids lv []) := by
  cases t; rw [rightS]; rfl
def checkS (t : NT) : Int := if t.dir = true ∧ t.name = [] ∧ rightS t 0 = true then 0 else 280
end Go.Proofs.YtklpiecolpnmlaaDoor
