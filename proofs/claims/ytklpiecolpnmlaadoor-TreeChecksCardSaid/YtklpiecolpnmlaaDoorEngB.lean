/- A program logic over the model: what is left to do, what is known of the frame, what the call holds of memory. No conditions: a library of lemmas. -/
import Derived.Test.YtklpiecolpnmlaaDoorEngA
set_option linter.unusedSimpArgs false
set_option linter.unusedVariables false
/-! The engine, part 4: one operation; a region's operations. -/
namespace Go.Eng
open Go

/-- The bytes that a slice of bytes holds. -/
def bytesV (l : List UInt8) : List Value := l.map fun b => .int .u8 b.toNat

def ReadsBytes (w : World) (a : Option Addr) (n : Nat) (l : List UInt8) : Prop :=
  l.length = n ∧ (a = none → n = 0) ∧ ∀ ad, a = some ad → Reads w ad (bytesV l)

def vConv (P : Program) (src dst : TypeId) (x : Value) (w : World) (K : Value → Prop) : Prop :=
  match P.underlying src, P.underlying dst, x with
  | some _, some (.int k), .int _ n => vWrap k n K
  | some _, some .string, .string s => K (.string s)
  | some (.slice E), some .string, .slice a n _ => P.underlying E = some (.int .u8) ∧ ∃ l, ReadsBytes w a n l ∧ K (Str l)
  | _, _, _ => False

theorem foldl_push (l : List UInt8) (s : ByteArray) : (l.map fun b => (b.toNat : Int)).foldl (fun r n => r.push (UInt8.ofNat n.toNat)) s = ⟨(s.data.toList ++ l).toArray⟩ := by
  induction l generalizing s with
  | nil => apply ByteArray.ext; simp
  | cons b l ih =>
    simp only [List.map_cons, List.foldl_cons]
    rw [ih]
    apply ByteArray.ext
    simp [ByteArray.push]

theorem run_loadCells_reads {P : Program} {w : World} {a : Addr} {xs : List Value} (h : Reads w a xs) : (loadCells a xs.length).run P w = .ok xs.toArray w :=
  run_loadCells_list w a xs h

theorem run_vConv {P : Program} {src dst : TypeId} {x : Value} {w : World} {K : Value → Prop} (h : vConv P src dst x w K) :
    ∃ v, K v ∧ ∀ w', Ext w w' → (convert src dst x).run P w' = .ok v w' := by
  unfold vConv at h
  split at h
  · rename_i d k k' n hs hd
    refine ⟨_, vWrap_sound h, fun w' _ => ?_⟩
    simp [convert, run_underlying hs, run_underlying hd, Conv.intToInt]
  · rename_i d s hs hd
    refine ⟨_, h, fun w' _ => ?_⟩
    cases d <;> simp [convert, run_underlying hs, run_underlying hd]
  · rename_i E a n c hs hd
    obtain ⟨he, l, ⟨hl, hnil, hr⟩, hK⟩ := h
    refine ⟨_, hK, fun w' hw => ?_⟩
    rw [run_convert_bytes_string w' src dst E a n c hs he hd]
    cases a with
    | none =>
      have hn := hnil rfl
      subst hn
      have : l = [] := List.eq_nil_of_length_eq_zero hl
      subst this
      simp only [Conv.bytesToString, Sem.run_pure]
      rfl
    | some ad =>
      have hr' := (hr ad rfl).ext hw
      have e1 : bytesV l = (l.map fun b => (b.toNat : Int)).map (Value.int .u8) := by simp [bytesV]
      have hc := run_loadCells_reads (P := P) hr'
      have e2 : (bytesV l).length = n := by simp [bytesV, hl]
      rw [e2, e1] at hc
      rw [run_bytesToString w' ad n c (l.map fun b => (b.toNat : Int)) hc]
      rw [foldl_push]
      simp
  · exact h.elim

def vLen (P : Program) (T : TypeId) (x : Value) (K : Value → Prop) : Prop :=
  match P.underlying T, x with
  | some .string, .string s => K (.int .i64 (toL s).length)
  | some (.slice _), .slice _ n _ => K (.int .i64 n)
  | some (.array n _), _ => K (.int .i64 n)
  | some (.pointer A), _ => match P.underlying A with
    | some (.array n _) => K (.int .i64 n)
    | _ => False
  | _, _ => False

theorem run_vLen {P : Program} {T : TypeId} {x : Value} {K : Value → Prop} (h : vLen P T x K) {ts : Array TypeId} (ht : ts[0]? = some T) {ty : TypeId} :
    ∃ v, K v ∧ ∀ w, (Builtin.len_ ts ty #[x]).run P w = .ok v w := by
  unfold vLen at h
  split at h
  · rename_i s hu; exact ⟨_, h, fun w => by simp [Builtin.len_, ht, run_underlying hu, goInt, toL]⟩
  · rename_i hu; exact ⟨_, h, fun w => by simp [Builtin.len_, ht, run_underlying hu, goInt]⟩
  · rename_i hu; exact ⟨_, h, fun w => by simp [Builtin.len_, ht, run_underlying hu, goInt]⟩
  · rename_i hu
    split at h
    · rename_i hu2; exact ⟨_, h, fun w => by simp [Builtin.len_, ht, run_underlying hu, run_underlying hu2, goInt]⟩
    · exact h.elim
  · exact h.elim

def vMin : List Value → (Value → Prop) → Prop
  | [.int k x, .int _ y], K => K (.int k (min x y))
  | [.int k x, .int _ y, .int _ z], K => K (.int k (min (min x y) z))
  | _, _ => False
def vMax : List Value → (Value → Prop) → Prop
  | [.int k x, .int _ y], K => K (.int k (max x y))
  | [.int k x, .int _ y, .int _ z], K => K (.int k (max (max x y) z))
  | _, _ => False

theorem ite_min (x y : Int) : (if y < x then y else x) = min x y := by split <;> omega
theorem ite_max (x y : Int) : (if y > x then y else x) = max x y := by split <;> omega

theorem run_vMin {P : Program} {vs : List Value} {K : Value → Prop} (h : vMin vs K) {ts : Array TypeId} {ty : TypeId} : ∃ v, K v ∧ ∀ w, (Builtin.min_ ts ty vs.toArray).run P w = .ok v w := by
  unfold vMin at h
  split at h
  · exact ⟨_, h, fun w => by simp [Builtin.min_, Builtin.min2, ite_min]⟩
  · exact ⟨_, h, fun w => by simp [Builtin.min_, Builtin.min2, ite_min]⟩
  · exact h.elim
theorem run_vMax {P : Program} {vs : List Value} {K : Value → Prop} (h : vMax vs K) {ts : Array TypeId} {ty : TypeId} : ∃ v, K v ∧ ∀ w, (Builtin.max_ ts ty vs.toArray).run P w = .ok v w := by
  unfold vMax at h
  split at h
  · exact ⟨_, h, fun w => by simp [Builtin.max_, Builtin.max2]; split <;> omega⟩
  · exact ⟨_, h, fun w => by simp [Builtin.max_, Builtin.max2]; (repeat' split) <;> omega⟩
  · exact h.elim

/-- A load. -/
def vLoad (P : Program) (T : TypeId) (x : Value) (w : World) (K : Value → Prop) : Prop :=
  match x with
  | .pointer (some a) => match P.underlying T with
    | some (.struct _) | some (.array _ _) => match P.szo T with
      | some n => ∃ cs : List Value, (cs.length = n ∧ Reads w a cs) ∧ K (.agg cs.toArray)
      | none => False
    | some _ => ∃ v, w.cell? a = some v ∧ K v
    | none => False
  | _ => False

theorem run_load {P : Program} {w : World} {a : Addr} {v : Value} (h : w.cell? a = some v) : (load a).run P w = .ok v w := by
  simp [load, Sem.run, h]

theorem run_vLoad {P : Program} {T : TypeId} {x : Value} {w : World} {K : Value → Prop} (h : vLoad P T x w K) :
    ∃ v, K v ∧ ∀ w', Ext w w' → (Instr.loadAt T x).run P w' = .ok v w' := by
  have key : ∀ (a : Addr) (n : Nat), (P.szo T = some n) → (∀ w, (isAgg T).run P w = .ok true w) → ∀ cs : List Value, cs.length = n → Reads w a cs →
      ∀ w', Ext w w' → (Instr.loadAt T (.pointer (some a))).run P w' = .ok (.agg cs.toArray) w' := by
    intro a n hn hagg cs hl hr w' hw
    have := run_loadCells_reads (P := P) (hr.ext hw)
    rw [hl] at this
    simp [Instr.loadAt, Instr.sureAddr, loadVar, hagg, run_szo hn, this]
  unfold vLoad at h
  split at h
  · rename_i a
    split at h
    · rename_i hu
      split at h
      · rename_i n hn
        obtain ⟨cs, ⟨hl, hr⟩, hK⟩ := h
        exact ⟨_, hK, key a n hn (fun w => by simp [isAgg, run_underlying hu]) cs hl hr⟩
      · exact h.elim
    · rename_i hu
      split at h
      · rename_i n hn
        obtain ⟨cs, ⟨hl, hr⟩, hK⟩ := h
        exact ⟨_, hK, key a n hn (fun w => by simp [isAgg, run_underlying hu]) cs hl hr⟩
      · exact h.elim
    · rename_i d hd1 hd2 hu
      obtain ⟨v, hv, hK⟩ := h
      refine ⟨v, hK, fun w' hw => ?_⟩
      have hc : w'.cell? a = some v := hw.cell hv
      have : (isAgg T).run P w' = .ok false w' := by
        cases d <;> simp_all [isAgg, run_underlying hu]
      simp [Instr.loadAt, Instr.sureAddr, loadVar, this, hc]
    · exact h.elim
  · exact h.elim

def vNil (x : Value) (K : Value → Prop) : Prop :=
  match x with
  | .pointer (some a) => K (.pointer (some a))
  | .func (.func f) p c => K (.func (.func f) p c)
  | .iface t v => K (.iface t v)
  | _ => False

def vFieldAddr (P : Program) (S : TypeId) (x : Value) (f : Nat) (K : Value → Prop) : Prop :=
  match x with
  | .pointer (some a) => match P.underlying S with
    | some (.struct fields) => match fields[f]? with
      | some fd => match P.szo fd.type with
        | some (_ + 1) => K (.pointer (some (a.add fd.offset)))
        | _ => False
      | none => False
    | _ => False
  | _ => False

theorem run_vFieldAddr {P : Program} {S : TypeId} {x : Value} {f : Nat} {K : Value → Prop} (h : vFieldAddr P S x f K) : ∃ v, K v ∧ ∀ w, (Instr.fieldAt S x f).run P w = .ok v w := by
  unfold vFieldAddr at h
  split at h
  · split at h
    · rename_i hu
      split at h
      · rename_i fd hf
        split at h
        · rename_i n hn
          exact ⟨_, h, fun w => by simp [Instr.fieldAt, Instr.sureAddr, run_underlying hu, hf, fieldPlace, run_szo hn]⟩
        · exact h.elim
      · exact h.elim
    · exact h.elim
  · exact h.elim

def vField (P : Program) (S : TypeId) (x : Value) (f : Nat) (K : Value → Prop) : Prop :=
  match x with
  | .agg cs => match P.underlying S with
    | some (.struct fields) => match fields[f]? with
      | some fd => vPart P fd.type cs fd.offset K
      | none => False
    | _ => False
  | _ => False

theorem run_vField {P : Program} {S : TypeId} {x : Value} {f : Nat} {K : Value → Prop} (h : vField P S x f K) : ∃ v, K v ∧ ∀ w, (Instr.field S x f).run P w = .ok v w := by
  unfold vField at h
  split at h
  · split at h
    · rename_i hu
      split at h
      · rename_i fd hf
        obtain ⟨v, hv, hr⟩ := run_vPart h
        exact ⟨v, hv, fun w => by simp [Instr.field, run_underlying hu, hf, asAgg, hr]⟩
      · exact h.elim
    · exact h.elim
  · exact h.elim

def vIndexAddr (P : Program) (T : TypeId) (x i : Value) (K : Value → Prop) : Prop :=
  match i with
  | .int _ n => match P.underlying T, x with
    | some (.slice E), .slice (some a) len _ => match P.szo E with
      | some sz => (0 ≤ n ∧ n < len) ∧ K (.pointer (some (a.add (n.toNat * sz))))
      | none => False
    | some (.array len E), .pointer (some a) => match P.szo E with
      | some sz => (0 ≤ n ∧ n < len) ∧ K (.pointer (some (a.add (n.toNat * sz))))
      | none => False
    | _, _ => False
  | _ => False

theorem run_vIndexAddr {P : Program} {T : TypeId} {x i : Value} {K : Value → Prop} (h : vIndexAddr P T x i K) : ∃ v, K v ∧ ∀ w, (Instr.indexAt T x i).run P w = .ok v w := by
  unfold vIndexAddr at h
  split at h
  · split at h
    · rename_i hu
      split at h
      · rename_i sz hsz
        exact ⟨_, h.2, fun w => by simp [Instr.indexAt, asIntOf, run_underlying hu, h.1, run_szo hsz]⟩
      · exact h.elim
    · rename_i hu
      split at h
      · rename_i sz hsz
        exact ⟨_, h.2, fun w => by simp [Instr.indexAt, asIntOf, Instr.sureAddr, run_underlying hu, h.1, run_szo hsz]⟩
      · exact h.elim
    · exact h.elim
  · exact h.elim

def vExtract (x : Value) (i : Nat) (K : Value → Prop) : Prop :=
  match x with
  | .tuple vs => match vs[i]? with
    | some v => K v
    | none => False
  | _ => False

def vUn (op : UnOp) (x : Value) (K : Value → Prop) : Prop :=
  match op, x with
  | .not, .bool b => K (.bool (!b))
  | .neg, .int k n => vWrap k (-n) K
  | .xor, .int .u32 n => (0 ≤ n ∧ n ≤ 4294967295) ∧ K (.int .u32 (4294967295 - n))
  | .xor, .int .u64 n => (0 ≤ n ∧ n ≤ 18446744073709551615) ∧ K (.int .u64 (18446744073709551615 - n))
  | .xor, .int .u8 n => (0 ≤ n ∧ n ≤ 255) ∧ K (.int .u8 (255 - n))
  | _, _ => False

theorem xor_ones (n : Nat) (x : Int) (h0 : 0 ≤ x) (h1 : x.toNat < 2 ^ n) : ((BitVec.ofInt n ((2 ^ n : Nat) - 1 : Int)) ^^^ BitVec.ofInt n x).toNat = 2 ^ n - 1 - x.toNat := by
  have e : BitVec.ofInt n ((2 ^ n : Nat) - 1 : Int) = BitVec.allOnes n := by
    apply BitVec.eq_of_toNat_eq
    have hp : 0 < 2 ^ n := Nat.two_pow_pos n
    simp only [BitVec.toNat_ofInt, BitVec.toNat_allOnes]
    have : (((2 ^ n : Nat) : Int) - 1) % ((2 ^ n : Nat) : Int) = ((2 ^ n : Nat) : Int) - 1 := Int.emod_eq_of_lt (by omega) (by omega)
    rw [this]; omega
  rw [e, BitVec.allOnes_xor, BitVec.toNat_not, toNat_ofInt h0 h1]

theorem run_vUn {P : Program} {op : UnOp} {x : Value} {K : Value → Prop} (h : vUn op x K) : ∃ v, K v ∧ ∀ w, (Op.unary op x).run P w = .ok v w := by
  unfold vUn at h
  split at h
  · exact ⟨_, h, fun w => by simp [Op.unary]⟩
  · refine ⟨_, vWrap_sound h, fun w => by simp [Op.unary, Op.intArith]⟩
  · rename_i n
    refine ⟨_, h.2, fun w => ?_⟩
    have hx := xor_ones 32 n h.1.1 (by have := h.1; omega)
    have e : IntKind.u32.max = ((2 ^ 32 : Nat) - 1 : Int) := by decide
    simp only [Op.unary, IntKind.signed, Op.intBits, Sem.run_pure, Bool.false_eq_true, if_false, e]
    have hx' : (BitVec.ofInt IntKind.u32.bits ((2 ^ 32 : Nat) - 1 : Int) ^^^ BitVec.ofInt IntKind.u32.bits n).toNat = 2 ^ 32 - 1 - n.toNat := hx
    rw [hx', wrap_u32]
    congr 2
    have := h.1; omega
  · rename_i n
    refine ⟨_, h.2, fun w => ?_⟩
    have hx := xor_ones 64 n h.1.1 (by have := h.1; omega)
    have e : IntKind.u64.max = ((2 ^ 64 : Nat) - 1 : Int) := by decide
    simp only [Op.unary, IntKind.signed, Op.intBits, Sem.run_pure, Bool.false_eq_true, if_false, e]
    have hx' : (BitVec.ofInt IntKind.u64.bits ((2 ^ 64 : Nat) - 1 : Int) ^^^ BitVec.ofInt IntKind.u64.bits n).toNat = 2 ^ 64 - 1 - n.toNat := hx
    rw [hx', wrap_u64]
    congr 2
    have := h.1; omega
  · rename_i n
    refine ⟨_, h.2, fun w => ?_⟩
    have hx := xor_ones 8 n h.1.1 (by have := h.1; omega)
    have e : IntKind.u8.max = ((2 ^ 8 : Nat) - 1 : Int) := by decide
    simp only [Op.unary, IntKind.signed, Op.intBits, Sem.run_pure, Bool.false_eq_true, if_false, e]
    have hx' : (BitVec.ofInt IntKind.u8.bits ((2 ^ 8 : Nat) - 1 : Int) ^^^ BitVec.ofInt IntKind.u8.bits n).toNat = 2 ^ 8 - 1 - n.toNat := hx
    rw [hx', wrap_u8]
    congr 2
    have := h.1; omega
  · exact h.elim

end Go.Eng

/-! The engine, part 5: an operation by its kind; a region. -/
namespace Go.Eng
open Go

/-- Two values compared: neither numbers, nor strings, nor bools. -/
def EqR (P : Program) (op : BinOp) (T : TypeId) (xo yo : Operand) (x y : Value) (w : World) (K : Value → Prop) : Prop :=
  ∃ b : Bool, (∀ w', Ext w w' → (do eqGuard op T xo yo x y; binOp op T x y : Sem Value).run P w' = .ok (.bool b) w') ∧ K (.bool b)

def vBinO (P : Program) (op : BinOp) (T : TypeId) (xo yo : Operand) (x y : Value) (w : World) (K : Value → Prop) : Prop :=
  match x, y with
  | .int k a, .int k' b => vBin P op T (.int k a) (.int k' b) w K
  | .string s, .string t => vBin P op T (.string s) (.string t) w K
  | .bool a, .bool b => vBin P op T (.bool a) (.bool b) w K
  | x, y => EqR P op T xo yo x y w K

theorem run_vBinO {P : Program} {op : BinOp} {T : TypeId} {xo yo : Operand} {x y : Value} {w : World} {K : Value → Prop} (h : vBinO P op T xo yo x y w K) :
    ∃ v, K v ∧ ∀ w', Ext w w' → (do eqGuard op T xo yo x y; binOp op T x y : Sem Value).run P w' = .ok v w' := by
  unfold vBinO at h
  split at h
  · obtain ⟨v, hv, hr⟩ := run_vBin h
    exact ⟨v, hv, fun w' hw => by simp only [Sem.run_bind]; rw [run_eqGuard ⟨by simp, by simp⟩]; simp only [Result.andThen_ok]; exact hr w' hw⟩
  · obtain ⟨v, hv, hr⟩ := run_vBin h
    exact ⟨v, hv, fun w' hw => by simp only [Sem.run_bind]; rw [run_eqGuard ⟨by simp, by simp⟩]; simp only [Result.andThen_ok]; exact hr w' hw⟩
  · obtain ⟨v, hv, hr⟩ := run_vBin h
    exact ⟨v, hv, fun w' hw => by simp only [Sem.run_bind]; rw [run_eqGuard ⟨by simp, by simp⟩]; simp only [Result.andThen_ok]; exact hr w' hw⟩
  · obtain ⟨b, hr, hb⟩ := h
    exact ⟨_, hb, hr⟩

/-- Does a conversion leave the world alone? -/
def convPure (P : Program) (s d : TypeId) : Bool :=
  match P.underlying s, P.underlying d with
  | some .string, some (.slice _) => false
  | _, _ => true

/-- Does it leave the world alone? -/
def isPure (P : Program) : Op → Bool
  | .convert s d _ => convPure P s d
  | .move _ | .assign _ | .pick .. | .binOp .. | .unOp .. | .slice _ _ _ _ none | .fieldAddr .. | .field .. | .indexAddr .. | .index .. | .extract ..
  | .makeInterface .. | .makeFunc .. | .build .. | .load .. | .nilCheck .. => true
  | .call { callee := .builtin .len, .. } | .call { callee := .builtin .min, .. } | .call { callee := .builtin .max, .. } => true
  | _ => false

def argO (e : Env) (x : Option Operand) (K : Option Value → Prop) : Prop :=
  match x with
  | none => K none
  | some x => arg e x fun v => K (some v)

theorem argO_sound {N : Nat} {e : Env} {a : Act} {x : Option Operand} {K : Option Value → Prop} (ha : Fits N e a) (h : argO e x K) : K (x.map a.eval) := by
  cases x with
  | none => exact h
  | some x => exact arg_sound (K := fun v => K (some v)) ha h

def vPick (c : Value) (A B : Prop) : Prop :=
  match c with
  | .bool true => A
  | .bool false => B
  | _ => False

def vMakeIface (P : Program) (T : TypeId) (x : Value) (K : Value → Prop) : Prop :=
  match P.underlying T with
  | some (.interface _) => False
  | some _ => K (.iface T x)
  | none => False

/-- A struct or an array out of its parts. -/
def vBuild (P : Program) (T : TypeId) (parts : List (Nat × Value)) (K : Value → Prop) : Prop :=
  match P.built T parts with
  | some cells => K (.agg cells)
  | none => False

def vParts (e : Env) : List (Nat × Operand) → (List (Nat × Value) → Prop) → Prop
  | [], K => K []
  | p :: ps, K => arg e p.2 fun v => vParts e ps fun vs => K ((p.1, v) :: vs)

theorem vParts_sound {N : Nat} {e : Env} {a : Act} (ha : Fits N e a) {ps : List (Nat × Operand)} : ∀ {K : List (Nat × Value) → Prop}, vParts e ps K → K (ps.map fun p => (p.1, a.eval p.2)) := by
  induction ps with
  | nil => intro K h; exact h
  | cons p ps ih => intro K h; exact ih (arg_sound (K := fun v => vParts e ps fun vs => K ((p.1, v) :: vs)) ha h)

def vcOp (P : Program) (op : Op) (e : Env) (w : World) (K : Value → Prop) : Prop :=
  match op with
  | .move x => arg e x K
  | .assign x => arg e x K
  | .pick c a b => arg e c fun vc => vPick vc (arg e a K) (arg e b K)
  | .binOp op T x y _ => arg e x fun a => arg e y fun b => vBinO P op T x y a b w K
  | .unOp op _ x => arg e x fun a => vUn op a K
  | .convert s d x => arg e x fun a => vConv P s d a w K
  | .slice T x lo hi none => arg e x fun a => argO e lo fun l => argO e hi fun h => vSlice P T a l h K
  | .fieldAddr S x f => arg e x fun a => vFieldAddr P S a f K
  | .field S x f => arg e x fun a => vField P S a f K
  | .indexAddr T x i => arg e x fun a => arg e i fun n => vIndexAddr P T a n K
  | .index T x i => arg e x fun a => arg e i fun n => vIndex P T a n K
  | .extract t i => arg e t fun a => vExtract a i K
  | .makeInterface T x => arg e x fun a => vMakeIface P T a K
  | .makeFunc fn first captured => argL e first.toList fun fs => argL e captured.toList fun cs => K (.func fn fs.toArray cs.toArray)
  | .build T parts => vParts e parts.toList fun ps => vBuild P T ps K
  | .load T x => arg e x fun a => vLoad P T a w K
  | .nilCheck x => arg e x fun a => vNil a K
  | .call { callee := .builtin .len, args := as, argTypes := ts } => argL e as.toList fun vs => match vs, ts[0]? with
    | [v], some T => vLen P T v K
    | _, _ => False
  | .call { callee := .builtin .min, args := as, .. } => argL e as.toList fun vs => vMin vs K
  | .call { callee := .builtin .max, args := as, .. } => argL e as.toList fun vs => vMax vs K
  | _ => False

theorem map_eval (xs : Array Operand) (a : Act) : xs.map a.eval = (xs.toList.map a.eval).toArray := by
  apply Array.ext'; simp

theorem vcOp_sound {P : Program} {N : Nat} {o : Oper} {e : Env} {a : Act} {w : World} {K : Value → Prop} (ha : Fits N e a) (h : vcOp P o.op e w K) :
    ∃ v, K v ∧ ∀ w', Ext w w' → (execOp a.eval o).run P w' = .ok (.value v) w' := by
  unfold vcOp at h
  split at h
  case h_1 x ho => exact ⟨_, arg_sound ha h, fun w' _ => by simp [execOp, ho]⟩
  case h_2 x ho => exact ⟨_, arg_sound ha h, fun w' _ => by simp [execOp, ho]⟩
  case h_3 c x y ho =>
    have h1 := arg_sound (K := fun vc => vPick vc (arg e x K) (arg e y K)) ha h
    unfold vPick at h1
    split at h1
    · rename_i hc; exact ⟨_, arg_sound ha h1, fun w' _ => by simp [execOp, ho, hc, asBool]⟩
    · rename_i hc; exact ⟨_, arg_sound ha h1, fun w' _ => by simp [execOp, ho, hc, asBool]⟩
    · exact h1.elim
  case h_4 op T x y T' ho =>
    have h1 := arg_sound (K := fun b => vBinO P op T x y (a.eval x) b w K) ha (arg_sound (K := fun b => arg e y fun c => vBinO P op T x y b c w K) ha h)
    obtain ⟨v, hv, hr⟩ := run_vBinO h1
    refine ⟨v, hv, fun w' hw => ?_⟩
    simp only [execOp, ho]
    have := hr w' hw
    simp only [Sem.run_bind] at this ⊢
    simp only [this, Result.andThen_ok, Sem.run_pure]
  case h_5 op T x ho =>
    obtain ⟨v, hv, hr⟩ := run_vUn (P := P) (arg_sound (K := fun b => vUn op b K) ha h)
    exact ⟨v, hv, fun w' _ => by simp [execOp, ho, hr]⟩
  case h_6 s d x ho =>
    obtain ⟨v, hv, hr⟩ := run_vConv (arg_sound (K := fun b => vConv P s d b w K) ha h)
    exact ⟨v, hv, fun w' hw => by simp [execOp, ho, hr w' hw]⟩
  case h_7 T x lo hi ho =>
    have h1 := argO_sound (K := fun h => vSlice P T (a.eval x) (lo.map a.eval) h K) ha (argO_sound (K := fun l => argO e hi fun h => vSlice P T (a.eval x) l h K) ha (arg_sound (K := fun b => argO e lo fun l => argO e hi fun h => vSlice P T b l h K) ha h))
    obtain ⟨v, hv, hr⟩ := run_vSlice h1
    exact ⟨v, hv, fun w' _ => by simp only [execOp, ho, Sem.run_bind, Option.map_none, hr, Result.andThen_ok, Sem.run_pure]⟩
  case h_8 S x f ho =>
    obtain ⟨v, hv, hr⟩ := run_vFieldAddr (arg_sound (K := fun b => vFieldAddr P S b f K) ha h)
    exact ⟨v, hv, fun w' _ => by simp [execOp, ho, hr]⟩
  case h_9 S x f ho =>
    obtain ⟨v, hv, hr⟩ := run_vField (arg_sound (K := fun b => vField P S b f K) ha h)
    exact ⟨v, hv, fun w' _ => by simp [execOp, ho, hr]⟩
  case h_10 T x i ho =>
    have h1 := arg_sound (K := fun n => vIndexAddr P T (a.eval x) n K) ha (arg_sound (K := fun b => arg e i fun n => vIndexAddr P T b n K) ha h)
    obtain ⟨v, hv, hr⟩ := run_vIndexAddr h1
    exact ⟨v, hv, fun w' _ => by simp [execOp, ho, hr]⟩
  case h_11 T x i ho =>
    have h1 := arg_sound (K := fun n => vIndex P T (a.eval x) n K) ha (arg_sound (K := fun b => arg e i fun n => vIndex P T b n K) ha h)
    obtain ⟨v, hv, hr⟩ := run_vIndex h1
    exact ⟨v, hv, fun w' _ => by simp [execOp, ho, hr]⟩
  case h_12 t i ho =>
    have h1 := arg_sound (K := fun b => vExtract b i K) ha h
    unfold vExtract at h1
    split at h1
    · rename_i vs hx
      split at h1
      · rename_i v hv; exact ⟨v, h1, fun w' _ => by simp [execOp, ho, hx, Instr.extract, hv]⟩
      · exact h1.elim
    · exact h1.elim
  case h_13 T x ho =>
    have h1 := arg_sound (K := fun b => vMakeIface P T b K) ha h
    unfold vMakeIface at h1
    split at h1
    · exact h1.elim
    · rename_i d hd hu
      exact ⟨_, h1, fun w' _ => by cases d <;> simp_all [execOp, Instr.makeInterface, run_underlying hu]⟩
    · exact h1.elim
  case h_14 fn first captured ho =>
    have h1 := argL_sound (K := fun fs => argL e captured.toList fun cs => K (.func fn fs.toArray cs.toArray)) ha h
    have h2 := argL_sound (K := fun cs => K (.func fn (first.toList.map a.eval).toArray cs.toArray)) ha h1
    exact ⟨_, h2, fun w' _ => by simp [execOp, ho, Instr.makeFunc, map_eval]⟩
  case h_15 T parts ho =>
    have h1 := vParts_sound (K := fun ps => vBuild P T ps K) ha h
    unfold vBuild at h1
    split at h1
    · rename_i cells hb
      refine ⟨_, h1, fun w' _ => ?_⟩
      have := run_build (P := P) w' T (parts.map fun (i, x) => (i, a.eval x)) cells (by simpa using hb)
      simp [execOp, ho, this]
    · exact h1.elim
  case h_16 T x ho =>
    obtain ⟨v, hv, hr⟩ := run_vLoad (arg_sound (K := fun b => vLoad P T b w K) ha h)
    exact ⟨v, hv, fun w' hw => by simp [execOp, ho, hr w' hw]⟩
  case h_17 x ho =>
    have h1 := arg_sound (K := fun b => vNil b K) ha h
    unfold vNil at h1
    split at h1
    · rename_i ad hx; exact ⟨_, h1, fun w' _ => by simp [execOp, ho, hx]⟩
    · rename_i f p c hx; exact ⟨_, h1, fun w' _ => by simp [execOp, ho, hx]⟩
    · rename_i t v hx; exact ⟨_, h1, fun w' _ => by simp [execOp, ho, hx]⟩
    · exact h1.elim
  case h_18 as ts ho =>
    have h1 := argL_sound (K := fun vs => match vs, ts[0]? with | [v], some T => vLen P T v K | _, _ => False) ha h
    split at h1
    · rename_i v T hv hT
      obtain ⟨u, hu, hr⟩ := run_vLen h1 hT (ty := o.type)
      refine ⟨u, hu, fun w' _ => ?_⟩
      have hm : as.map a.eval = #[v] := by rw [map_eval, hv]
      simp [execOp, ho, resolve, invoke, builtin, hm, hr]
    · exact h1.elim
  case h_19 as ts ho =>
    obtain ⟨u, hu, hr⟩ := run_vMin (P := P) (argL_sound (K := fun vs => vMin vs K) ha h) (ts := ts) (ty := o.type)
    refine ⟨u, hu, fun w' _ => ?_⟩
    simp only [execOp, ho, resolve, invoke, builtin, map_eval, Sem.run_bind, Sem.run_pure, Result.andThen_ok, hr]
  case h_20 as ts ho =>
    obtain ⟨u, hu, hr⟩ := run_vMax (P := P) (argL_sound (K := fun vs => vMax vs K) ha h) (ts := ts) (ty := o.type)
    refine ⟨u, hu, fun w' _ => ?_⟩
    simp only [execOp, ho, resolve, invoke, builtin, map_eval, Sem.run_bind, Sem.run_pure, Result.andThen_ok, hr]
  case h_21 => exact h.elim

/-- An operation that may change the world, by what it must do. -/
def Mem (P : Program) (N : Nat) (o : Oper) (e : Env) (w : World) (K : Value → World → Prop) : Prop :=
  ∀ (a : Act) (n : Nat) (next : Act → World → Prop) (Q : Exit → Act → World → Prop), Fits N e a → (∀ v w' m, K v w' → next (a.put o.dst v) (w'.drewN m)) → o.wp P a (w.drewN n) next Q

/-- The same, and what is left of the region. -/
def MemK (P : Program) (N : Nat) (o : Oper) (e : Env) (w : World) (rest : Env → World → (Env → World → Prop) → Prop) (K : Env → World → Prop) : Prop :=
  Mem P N o e w fun v w' => rest (e.put o.dst v) w' K

/-- An operation in a region whose order is open: one value, and the world stays. -/
def QuietK (P : Program) (N : Nat) (o : Oper) (e : Env) (w : World) (rest : Env → World → (Env → Prop) → Prop) (K : Env → Prop) : Prop :=
  ∃ v, (∀ a n, Fits N e a → o.quietAt P a (fun w' => ∃ n, w' = w.drewN n) (w.drewN n) v) ∧ rest (e.put o.dst v) w K

def guardOf (ops : List Oper) (j : Nat) : Option Tmp := (ops[j]?).bind (·.dst)

def gB (b want : Bool) (A B : Prop) : Prop := (b = want → A) ∧ (b = (!want) → B)

/-- A guarded operation: what its guard's slot holds says whether it is carried out. -/
def vGuardV (t : Tmp) (want : Bool) (v : Value) (e : Env) (A B : Env → Prop) : Prop :=
  match v with
  | .bool b => gB b want (A ((t, .bool want) :: e)) (B ((t, .bool !want) :: e))
  | .tuple _ => B e
  | _ => False

def vGuard (ops : List Oper) (g : Option (Nat × Bool)) (e : Env) (A B : Env → Prop) : Prop :=
  match g with
  | none => A e
  | some p => match guardOf ops p.1 with
    | none => B e
    | some t => argT e t fun v => vGuardV t p.2 v e A B

def dstOk (N : Nat) (o : Oper) : Bool :=
  match o.dst with
  | none => true
  | some t => decide (t < N)

def vcStep (P : Program) (N : Nat) (p : Bool) (o : Oper) (e : Env) (w : World) (R : Env → World → (Env → World → Prop) → Prop) (K : Env → World → Prop) : Prop :=
  match p with
  | true => vcOp P o.op e w fun v => R (e.put o.dst v) w K
  | false => MemK P N o e w R K
def vcStepQ (P : Program) (N : Nat) (p : Bool) (o : Oper) (e : Env) (w : World) (R : Env → World → (Env → Prop) → Prop) (K : Env → Prop) : Prop :=
  match p with
  | true => vcOp P o.op e w fun v => R (e.put o.dst v) w K
  | false => QuietK P N o e w R K

/-- A region's operations, one behind the other; one that may change the world stops it. -/
def vcOps (P : Program) (N : Nat) (ops : List Oper) : List Oper → Env → World → (Env → World → Prop) → Prop
  | [], e, w, K => K e w
  | o :: rest, e, w, K => vGuard ops o.guard e
      (fun e => vcStep P N (isPure P o.op) o e w (vcOps P N ops rest) K)
      (fun e => vcOps P N ops rest (e.put o.dst undef) w K)

/-- The same in a region whose order is open. -/
def vcQ (P : Program) (N : Nat) (ops : List Oper) : List Oper → Env → World → (Env → Prop) → Prop
  | [], e, _, K => K e
  | o :: rest, e, w, K => vGuard ops o.guard e
      (fun e => vcStepQ P N (isPure P o.op) o e w (vcQ P N ops rest) K)
      (fun e => vcQ P N ops rest (e.put o.dst undef) w K)

theorem Fits.put' {N : Nat} {e : Env} {a : Act} (h : Fits N e a) {o : Oper} (ho : dstOk N o = true) (v : Value) : Fits N (e.put o.dst v) (a.put o.dst v) :=
  h.put o.dst v fun t ht => by simpa [dstOk, ht] using ho

theorem Fits.cons {N : Nat} {e : Env} {a : Act} (h : Fits N e a) {t : Tmp} {v : Value} (ht : a.tmps.getD t undef = v) : Fits N ((t, v) :: e) a :=
  ⟨h.size, h.defers, fun s u hs => by
    simp only [Env.find?_cons] at hs
    split at hs
    · rename_i hst; subst hst; simp at hs; rw [← hs]; exact ht
    · exact h.at_ s u hs⟩

/-- The guard, read off the frame. -/
theorem vGuard_sound {N : Nat} {ops : List Oper} {o : Oper} {e : Env} {a : Act} {A B : Env → Prop} (ha : Fits N e a) (h : vGuard ops o.guard e A B) :
    (∃ e', Fits N e' a ∧ A e' ∧ Region.wanted o (yielded ops.toArray a.tmps) = true) ∨ (∃ e', Fits N e' a ∧ B e' ∧ Region.wanted o (yielded ops.toArray a.tmps) = false) := by
  unfold vGuard at h
  split at h
  · rename_i hg; exact .inl ⟨e, ha, h, by simp [Region.wanted, hg]⟩
  · rename_i p hg
    obtain ⟨j, want⟩ := p
    simp only at h
    split at h
    · rename_i hn
      refine .inr ⟨e, ha, h, ?_⟩
      have : yielded ops.toArray a.tmps j = none := by
        unfold yielded
        have : ((ops.toArray[j]?).bind (·.dst)) = none := by simpa [guardOf] using hn
        rw [this]; rfl
      simp [Region.wanted, hg, this]
    · rename_i t ht
      obtain ⟨v, hv, h⟩ := argT_find h
      have hget := ha.at_ t v hv
      have hd : ((ops.toArray[j]?).bind (·.dst)) = some t := by simpa [guardOf] using ht
      unfold vGuardV at h
      split at h
      · rename_i b
        have hy : yielded ops.toArray a.tmps j = some b := by
          unfold yielded
          rw [hd]
          have : a.tmps[t]? = some (.bool b) := by
            rw [Array.getD_eq_getD_getElem?] at hget
            cases hc : a.tmps[t]? with
            | none => rw [hc] at hget; simp [undef] at hget
            | some x => rw [hc] at hget; simpa using hget
          simp [this]
        by_cases hb : b = want
        · refine .inl ⟨_, ha.cons (by rw [hget, hb]), h.1 hb, by simp [Region.wanted, hg, hy, hb]⟩
        · have hb' : b = !want := by cases b <;> cases want <;> simp_all
          refine .inr ⟨_, ha.cons (by rw [hget, hb']), h.2 hb', by simp [Region.wanted, hg, hy, hb']⟩
      · rename_i vs
        refine .inr ⟨e, ha, h, ?_⟩
        have hy : yielded ops.toArray a.tmps j = none := by
          unfold yielded
          rw [hd]
          rw [Array.getD_eq_getD_getElem?] at hget
          cases hc : a.tmps[t]? with
          | none => simp [hc]
          | some x => rw [hc] at hget; simp at hget; subst hget; simp [hc]
        simp [Region.wanted, hg, hy]
      · exact h.elim

theorem vcOps_sound {P : Program} {N : Nat} {ops : List Oper} {Q : Exit → Act → World → Prop} {K : Env → World → Prop}
    (hK : ∀ e a w n, Fits N e a → K e w → Q .normal a (w.drewN n)) (l : List Oper) : ∀ (e : Env) (a : Act) (w : World) (n : Nat), l.all (dstOk N) = true → Fits N e a →
      vcOps P N ops l e w K → wpList P ops.toArray Q l a (w.drewN n) := by
  induction l with
  | nil => intro e a w n _ ha h; exact hK e a w n ha h
  | cons o rest ih =>
    intro e a w n hl ha h
    simp only [List.all_cons, Bool.and_eq_true] at hl
    unfold wpList
    rcases vGuard_sound ha h with ⟨e', ha', h', hw⟩ | ⟨e', ha', h', hw⟩
    · rw [if_pos hw]
      refine .inl ?_
      unfold vcStep at h'
      split at h'
      · obtain ⟨v, hv, hr⟩ := vcOp_sound ha' h'
        unfold Oper.wp
        rw [hr (w.drewN n) (Ext.drewN w n)]
        exact ih _ _ w n hl.2 (ha'.put' hl.1 v) hv
      · exact h' a n _ Q ha' fun v w' m hv => ih _ _ w' m hl.2 (ha'.put' hl.1 v) hv
    · rw [if_neg (by rw [hw]; simp)]
      exact ih _ _ w n hl.2 (ha'.put' hl.1 undef) h'

theorem vcQ_sound {P : Program} {N : Nat} {ops : List Oper} {Q : Act → Prop} {K : Env → Prop} {w : World}
    (hK : ∀ e a, Fits N e a → K e → Q a) (l : List Oper) : ∀ (e : Env) (a : Act), l.all (dstOk N) = true → Fits N e a →
      vcQ P N ops l e w K → wpQuiet P ops.toArray (fun w' => ∃ n, w' = w.drewN n) Q l a := by
  induction l with
  | nil => intro e a _ ha h; exact hK e a ha h
  | cons o rest ih =>
    intro e a hl ha h
    simp only [List.all_cons, Bool.and_eq_true] at hl
    unfold wpQuiet
    rcases vGuard_sound ha h with ⟨e', ha', h', hw⟩ | ⟨e', ha', h', hw⟩
    · rw [if_pos hw]
      unfold vcStepQ at h'
      split at h'
      · obtain ⟨v, hv, hr⟩ := vcOp_sound ha' h'
        refine ⟨v, ?_, ih _ _ hl.2 (ha'.put' hl.1 v) hv⟩
        rintro w' ⟨n, rfl⟩
        unfold Oper.quietAt
        rw [hr (w.drewN n) (Ext.drewN w n)]
        exact ⟨rfl, rfl⟩
      · obtain ⟨v, hq, hv⟩ := h'
        refine ⟨v, ?_, ih _ _ hl.2 (ha'.put' hl.1 v) hv⟩
        rintro w' ⟨n, rfl⟩
        exact hq a n ha'
    · rw [if_neg (by rw [hw]; simp)]
      exact ih _ _ hl.2 (ha'.put' hl.1 undef) h'

/-- An equation that simp does not look into. -/
def Is {α : Sort _} (a b : α) : Prop := a = b
theorem Is.out {α : Sort _} {a b : α} (h : Is a b) : a = b := h

/-- A slot's value, if it is known. -/
def selT : Env → Nat → (Value → Prop) → Prop → Prop
  | [], _, _, B => B
  | p :: e, n, A, B => if n = p.1 then A p.2 else selT e n A B

/-- These slots alone, in this order. -/
def selK : List Nat → Env → (Env → Prop) → Prop
  | [], _, K => K []
  | k :: ks, e, K => selT e k (fun v => selK ks e fun e' => K ((k, v) :: e')) (selK ks e K)

/-- A continuation behind such a choice: opened where a region ends. -/
def selC (ks : List Nat) (K : Env → World → Prop) : Env → World → Prop := fun e w => selK ks e fun e => K e w
def selQ (ks : List Nat) (K : Env → Prop) : Env → Prop := fun e => selK ks e K

theorem selT_spec (e : Env) (n : Nat) (A : Value → Prop) (B : Prop) : selT e n A B ↔ match e.find? n with | some v => A v | none => B := by
  induction e with
  | nil => simp [selT, Env.find?]
  | cons p e ih =>
    simp only [selT, Env.find?_cons]
    by_cases h : n = p.1
    · simp [h]
    · simp only [h, if_false]; exact ih

def Env.sel (ks : List Nat) (e : Env) : Env := ks.filterMap fun k => (e.find? k).map fun v => (k, v)

theorem selK_spec (ks : List Nat) (e : Env) : ∀ (K : Env → Prop), selK ks e K ↔ K (e.sel ks) := by
  induction ks with
  | nil => intro K; rfl
  | cons k ks ih =>
    intro K
    simp only [selK, selT_spec]
    cases h : e.find? k with
    | none => simp only [ih]; simp [Env.sel, h]
    | some v => simp only [ih]; simp [Env.sel, h]

theorem Env.find?_sel (ks : List Nat) (e : Env) (t : Nat) (v : Value) (h : (e.sel ks).find? t = some v) : e.find? t = some v := by
  induction ks with
  | nil => simp [Env.sel, Env.find?] at h
  | cons k ks ih =>
    cases hk : e.find? k with
    | none => exact ih (by simpa [Env.sel, hk] using h)
    | some u =>
      have h' : Env.find? ((k, u) :: e.sel ks) t = some v := by simpa [Env.sel, hk] using h
      simp only [Env.find?_cons] at h'
      by_cases htk : t = k
      · simp only [htk, if_true] at h'; rw [htk, hk]; exact h'
      · simp only [htk, if_false] at h'; exact ih h'

theorem Fits.sel {N : Nat} {e : Env} {a : Act} (h : Fits N e a) (ks : List Nat) : Fits N (e.sel ks) a := h.weaken fun t v ht => Env.find?_sel ks e t v ht

section
variable {P : Program} {fn : Func} {F : Value → World → Prop} {N : Nat} {k : List It} {e : Env} {w : World}

/-- A region in the order of its text; of the frame these slots are known behind it. -/
theorem VC_region (ks : List Nat) {id : Nat} {ops : List Oper} (hN : ops.all (dstOk N) = true)
    (h : ∀ K : Env → World → Prop, (∀ e w, VC ⟨P, fn, F, N⟩ k e w → K e w) → vcOps P N ops ops e w (selC ks K)) : VC ⟨P, fn, F, N⟩ (.code (.region id ops.toArray false) :: k) e w := by
  intro a n ha
  refine wp_region_lit (vcOps_sound (K := fun e w => selK ks e fun e => VC ⟨P, fn, F, N⟩ k e w) (fun e a w n ha hv => ?_) ops e a w n hN ha (h _ fun _ _ hv => hv))
  exact ((selK_spec ks e _).1 hv) a n (ha.sel ks)

/-- A region whose order is open, and whose operations leave the world alone. -/
theorem VC_regionQ (ks : List Nat) {id : Nat} {ops : List Oper} (hm : P.follows .mixedOrders = true) (hB : Region.lexB .any ops.toArray = true) (hN : ops.all (dstOk N) = true)
    (h : ∀ K : Env → Prop, (∀ e, VC ⟨P, fn, F, N⟩ k e w → K e) → vcQ P N ops ops e w (selQ ks K)) : VC ⟨P, fn, F, N⟩ (.code (.region id ops.toArray true) :: k) e w := by
  intro a n ha
  refine wp_region_quiet (C := fun w' => ∃ n, w' = w.drewN n) hm hB ⟨n + 1, rfl⟩ ?_
  refine vcQ_sound (K := fun e => selK ks e fun e => VC ⟨P, fn, F, N⟩ k e w) (fun e a ha hv => ?_) ops e a hN ha (h _ fun _ hv => hv)
  rintro w' ⟨m, rfl⟩
  exact ((selK_spec ks e _).1 hv) a m (ha.sel ks)

/-- A loop: at its head these slots are known. -/
theorem VC_loopS (ks : List Nat) {body : Code} (I : Nat → Env → World → Prop) (n : Nat) (h0 : selK ks e fun e => I n e w)
    (round : ∀ n e w, I n e w → VC ⟨P, fn, F, N⟩ (.code body :: .again (fun e' w' => selK ks e' fun e' => ∃ m, m < n ∧ I m e' w') :: k) e w) : VC ⟨P, fn, F, N⟩ (.code (.loop body) :: k) e w := by
  have h0' : VC ⟨P, fn, F, N⟩ (.code (.loop body) :: k) (e.sel ks) w := by
    refine VC_loop I n ((selK_spec ks e _).1 h0) fun n e w hI => ?_
    intro a d ha
    have h1 := round n e w hI a d ha
    simp only [cont] at h1 ⊢
    refine wp_mono h1 fun ex a w hq => ?_
    cases ex with
    | normal => obtain ⟨e', w0, d', hw, hf, hI'⟩ := hq; exact ⟨e'.sel ks, w0, d', hw, hf.sel ks, (selK_spec ks e' _).1 hI'⟩
    | _ => exact hq
  exact fun a d ha => h0' a d (ha.sel ks)

/-- What comes behind is proved once, for all ways that lead there. -/
theorem VC_cut (ks : List Nat) {c : Code} (J : Env → World → Prop) (h : VC ⟨P, fn, F, N⟩ (.code c :: .again (fun e w => selK ks e fun e => J e w) :: k) e w)
    (hJ : ∀ e w, J e w → VC ⟨P, fn, F, N⟩ k e w) : VC ⟨P, fn, F, N⟩ (.code c :: k) e w := by
  intro a d ha
  have h1 := h a d ha
  simp only [cont] at h1 ⊢
  refine wp_mono h1 fun ex a w hq => ?_
  cases ex with
  | normal => obtain ⟨e', w0, d', rfl, hf, hI'⟩ := hq; exact hJ _ _ ((selK_spec ks e' _).1 hI') a d' (hf.sel ks)
  | _ => exact hq
end

/-- The first of a sequence. -/
def peel : Code → List It → List It
  | .seq a b, k => peel a (.code b :: k)
  | c, k => .code c :: k
theorem VC_peel {C : Ctx} {e : Env} {w : World} : ∀ (c : Code) (k : List It), VC C (peel c k) e w → VC C (.code c :: k) e w := by
  intro c
  induction c with
  | seq a b iha ihb => intro k h; exact VC_seq (iha _ h)
  | _ => intro k h; exact h
/-- A region at the head of a sequence. -/
theorem VR {P : Program} {fn : Func} {F : Value → World → Prop} {N : Nat} {k k' : List It} {e : Env} {w : World} (ks : List Nat) {c : Code} {id : Nat} {ops : List Oper} (hp : peel c k = .code (.region id ops.toArray false) :: k') (hN : ops.all (dstOk N) = true)
    (h : ∀ K : Env → World → Prop, (∀ e w, VC ⟨P, fn, F, N⟩ k' e w → K e w) → vcOps P N ops ops e w (selC ks K)) : VC ⟨P, fn, F, N⟩ (.code c :: k) e w :=
  VC_peel c k (hp ▸ VC_region ks hN h)
end Go.Eng

/-! The engine, part 6: the equations by which a region is gone through. -/
namespace Go.Eng
open Go
/-- The slot of a region's j-th operation, and what it holds. -/
def vGuardL : List Oper → Nat → Bool → Env → (Env → Prop) → (Env → Prop) → Prop
  | [], _, _, e, _, B => B e
  | o :: _, 0, b, e, A, B => match o.dst with
    | none => B e
    | some t => argT e t fun v => vGuardV t b v e A B
  | _ :: l, j + 1, b, e, A, B => vGuardL l j b e A B

theorem vGuardL_eq (ops : List Oper) : ∀ (j : Nat) (b : Bool) (e : Env) (A B : Env → Prop), vGuard ops (some (j, b)) e A B = vGuardL ops j b e A B := by
  induction ops with
  | nil => intro j b e A B; simp [vGuard, guardOf, vGuardL]
  | cons o l ih =>
    intro j b e A B
    cases j with
    | zero => cases h : o.dst <;> simp [vGuard, guardOf, vGuardL, h]
    | succ j => rw [vGuardL, ← ih]; simp [vGuard, guardOf]

def vLenL (P : Program) (T : Option TypeId) (vs : List Value) (K : Value → Prop) : Prop :=
  match vs, T with
  | [v], some T => vLen P T v K
  | _, _ => False

section
variable {P : Program} {N : Nat} {ops rest : List Oper} {d : Option Tmp} {r t ty : Nat} {op : Op} {pos : String} {af : Array Edge} {e : Env} {w : World} {K : Env → World → Prop} {KQ : Env → Prop} {KV : Value → Prop}

theorem o_nilS (ks : List Nat) : vcOps P N ops [] e w (selC ks K) = selK ks e fun e => K e w := rfl
theorem q_nilS (ks : List Nat) : vcQ P N ops [] e w (selQ ks KQ) = selK ks e KQ := rfl
theorem gl_zero {d' : Option (Nat × Bool)} {A B : Env → Prop} (b : Bool) : vGuardL (⟨some t, op, ty, pos, af, d'⟩ :: ops) 0 b e A B = argT e t fun v => vGuardV t b v e A B := rfl
theorem gl_succ {A B : Env → Prop} (o : Oper) (j : Nat) (b : Bool) : vGuardL (o :: ops) (j + 1) b e A B = vGuardL ops j b e A B := rfl
theorem gv_t {A B : Env → Prop} (b : Bool) : vGuardV t true (.bool b) e A B = gB b true (A ((t, .bool true) :: e)) (B ((t, .bool false) :: e)) := rfl
theorem gv_f {A B : Env → Prop} (b : Bool) : vGuardV t false (.bool b) e A B = gB b false (A ((t, .bool false) :: e)) (B ((t, .bool true) :: e)) := rfl
theorem sk_nil {KE : Env → Prop} : selK [] e KE = KE [] := rfl
theorem sk_cons {KE : Env → Prop} (ks : List Nat) : selK (t :: ks) e KE = selT e t (fun v => selK ks e fun e' => KE ((t, v) :: e')) (selK ks e KE) := rfl
theorem st_nil {A : Value → Prop} {B : Prop} : selT [] t A B = B := rfl
theorem st_hit {A : Value → Prop} {B : Prop} (v : Value) : selT ((t, v) :: e) t A B = A v := by simp [selT]
theorem st_cons {A : Value → Prop} {B : Prop} (s : Nat) (v : Value) : selT ((s, v) :: e) t A B = if t = s then A v else selT e t A B := rfl
theorem at_put {KV' : Value → Prop} (u : Value) (n : Nat) : argT (Env.put e (some t) u) n KV' = argT ((t, u) :: e) n KV' := rfl
theorem at_putn {KV' : Value → Prop} (u : Value) (n : Nat) : argT (Env.put e none u) n KV' = argT e n KV' := rfl
theorem sk_put {KE : Env → Prop} (u : Value) (ks : List Nat) : selK ks (Env.put e (some t) u) KE = selK ks ((t, u) :: e) KE := rfl
theorem sk_putn {KE : Env → Prop} (u : Value) (ks : List Nat) : selK ks (Env.put e none u) KE = selK ks e KE := rfl
theorem st_put {A : Value → Prop} {B : Prop} (u : Value) (n : Nat) : selT (Env.put e (some t) u) n A B = selT ((t, u) :: e) n A B := rfl
theorem st_putn {A : Value → Prop} {B : Prop} (u : Value) (n : Nat) : selT (Env.put e none u) n A B = selT e n A B := rfl
theorem gv_undef {A B : Env → Prop} (want : Bool) (vs : Array Value) : vGuardV t want (.tuple vs) e A B = B e := rfl
theorem gv_undef' {A B : Env → Prop} (want : Bool) : vGuardV t want undef e A B = B e := rfl
theorem gB_tt {A B : Prop} : gB true true A B = A := by simp [gB]
theorem gB_ff {A B : Prop} : gB false false A B = A := by simp [gB]
theorem gB_tf {A B : Prop} : gB true false A B = B := by simp [gB]
theorem gB_ft {A B : Prop} : gB false true A B = B := by simp [gB]
theorem gB_dt {p : Prop} [Decidable p] {A B : Prop} : gB (decide p) true A B = ((p → A) ∧ (¬ p → B)) := by simp [gB]
theorem gB_df {p : Prop} [Decidable p] {A B : Prop} : gB (decide p) false A B = ((¬ p → A) ∧ (p → B)) := by simp [gB]
theorem o_move (x : Operand) : vcOps P N ops (⟨some r, .move x, ty, pos, af, none⟩ :: rest) e w K = arg e x (fun v => vcOps P N ops rest ((r, v) :: e) w K) := rfl
theorem og_move (x : Operand) (jj : Nat) (bb : Bool) : vcOps P N ops (⟨some r, .move x, ty, pos, af, some (jj, bb)⟩ :: rest) e w K = vGuardL ops jj bb e (fun e => arg e x (fun v => vcOps P N ops rest ((r, v) :: e) w K)) (fun e => vcOps P N ops rest ((r, undef) :: e) w K) := by rw [← vGuardL_eq]; rfl
theorem q_move (x : Operand) : vcQ P N ops (⟨some r, .move x, ty, pos, af, none⟩ :: rest) e w KQ = arg e x (fun v => vcQ P N ops rest ((r, v) :: e) w KQ) := rfl
theorem qg_move (x : Operand) (jj : Nat) (bb : Bool) : vcQ P N ops (⟨some r, .move x, ty, pos, af, some (jj, bb)⟩ :: rest) e w KQ = vGuardL ops jj bb e (fun e => arg e x (fun v => vcQ P N ops rest ((r, v) :: e) w KQ)) (fun e => vcQ P N ops rest ((r, undef) :: e) w KQ) := by rw [← vGuardL_eq]; rfl
theorem o_assign (x : Operand) : vcOps P N ops (⟨some r, .assign x, ty, pos, af, none⟩ :: rest) e w K = arg e x (fun v => vcOps P N ops rest ((r, v) :: e) w K) := rfl
theorem og_assign (x : Operand) (jj : Nat) (bb : Bool) : vcOps P N ops (⟨some r, .assign x, ty, pos, af, some (jj, bb)⟩ :: rest) e w K = vGuardL ops jj bb e (fun e => arg e x (fun v => vcOps P N ops rest ((r, v) :: e) w K)) (fun e => vcOps P N ops rest ((r, undef) :: e) w K) := by rw [← vGuardL_eq]; rfl
theorem q_assign (x : Operand) : vcQ P N ops (⟨some r, .assign x, ty, pos, af, none⟩ :: rest) e w KQ = arg e x (fun v => vcQ P N ops rest ((r, v) :: e) w KQ) := rfl
theorem qg_assign (x : Operand) (jj : Nat) (bb : Bool) : vcQ P N ops (⟨some r, .assign x, ty, pos, af, some (jj, bb)⟩ :: rest) e w KQ = vGuardL ops jj bb e (fun e => arg e x (fun v => vcQ P N ops rest ((r, v) :: e) w KQ)) (fun e => vcQ P N ops rest ((r, undef) :: e) w KQ) := by rw [← vGuardL_eq]; rfl
theorem o_pick (c x y : Operand) : vcOps P N ops (⟨some r, .pick c x y, ty, pos, af, none⟩ :: rest) e w K = arg e c fun vc => vPick vc (arg e x (fun v => vcOps P N ops rest ((r, v) :: e) w K)) (arg e y (fun v => vcOps P N ops rest ((r, v) :: e) w K)) := rfl
theorem og_pick (c x y : Operand) (jj : Nat) (bb : Bool) : vcOps P N ops (⟨some r, .pick c x y, ty, pos, af, some (jj, bb)⟩ :: rest) e w K = vGuardL ops jj bb e (fun e => arg e c fun vc => vPick vc (arg e x (fun v => vcOps P N ops rest ((r, v) :: e) w K)) (arg e y (fun v => vcOps P N ops rest ((r, v) :: e) w K))) (fun e => vcOps P N ops rest ((r, undef) :: e) w K) := by rw [← vGuardL_eq]; rfl
theorem q_pick (c x y : Operand) : vcQ P N ops (⟨some r, .pick c x y, ty, pos, af, none⟩ :: rest) e w KQ = arg e c fun vc => vPick vc (arg e x (fun v => vcQ P N ops rest ((r, v) :: e) w KQ)) (arg e y (fun v => vcQ P N ops rest ((r, v) :: e) w KQ)) := rfl
theorem qg_pick (c x y : Operand) (jj : Nat) (bb : Bool) : vcQ P N ops (⟨some r, .pick c x y, ty, pos, af, some (jj, bb)⟩ :: rest) e w KQ = vGuardL ops jj bb e (fun e => arg e c fun vc => vPick vc (arg e x (fun v => vcQ P N ops rest ((r, v) :: e) w KQ)) (arg e y (fun v => vcQ P N ops rest ((r, v) :: e) w KQ))) (fun e => vcQ P N ops rest ((r, undef) :: e) w KQ) := by rw [← vGuardL_eq]; rfl
theorem o_binOp (op : BinOp) (T T' : TypeId) (x y : Operand) : vcOps P N ops (⟨some r, .binOp op T x y T', ty, pos, af, none⟩ :: rest) e w K = arg e x fun a => arg e y fun b => vBinO P op T x y a b w (fun v => vcOps P N ops rest ((r, v) :: e) w K) := rfl
theorem og_binOp (op : BinOp) (T T' : TypeId) (x y : Operand) (jj : Nat) (bb : Bool) : vcOps P N ops (⟨some r, .binOp op T x y T', ty, pos, af, some (jj, bb)⟩ :: rest) e w K = vGuardL ops jj bb e (fun e => arg e x fun a => arg e y fun b => vBinO P op T x y a b w (fun v => vcOps P N ops rest ((r, v) :: e) w K)) (fun e => vcOps P N ops rest ((r, undef) :: e) w K) := by rw [← vGuardL_eq]; rfl
theorem q_binOp (op : BinOp) (T T' : TypeId) (x y : Operand) : vcQ P N ops (⟨some r, .binOp op T x y T', ty, pos, af, none⟩ :: rest) e w KQ = arg e x fun a => arg e y fun b => vBinO P op T x y a b w (fun v => vcQ P N ops rest ((r, v) :: e) w KQ) := rfl
theorem qg_binOp (op : BinOp) (T T' : TypeId) (x y : Operand) (jj : Nat) (bb : Bool) : vcQ P N ops (⟨some r, .binOp op T x y T', ty, pos, af, some (jj, bb)⟩ :: rest) e w KQ = vGuardL ops jj bb e (fun e => arg e x fun a => arg e y fun b => vBinO P op T x y a b w (fun v => vcQ P N ops rest ((r, v) :: e) w KQ)) (fun e => vcQ P N ops rest ((r, undef) :: e) w KQ) := by rw [← vGuardL_eq]; rfl
theorem o_unOp (op : UnOp) (T : TypeId) (x : Operand) : vcOps P N ops (⟨some r, .unOp op T x, ty, pos, af, none⟩ :: rest) e w K = arg e x fun a => vUn op a (fun v => vcOps P N ops rest ((r, v) :: e) w K) := rfl
theorem og_unOp (op : UnOp) (T : TypeId) (x : Operand) (jj : Nat) (bb : Bool) : vcOps P N ops (⟨some r, .unOp op T x, ty, pos, af, some (jj, bb)⟩ :: rest) e w K = vGuardL ops jj bb e (fun e => arg e x fun a => vUn op a (fun v => vcOps P N ops rest ((r, v) :: e) w K)) (fun e => vcOps P N ops rest ((r, undef) :: e) w K) := by rw [← vGuardL_eq]; rfl
theorem q_unOp (op : UnOp) (T : TypeId) (x : Operand) : vcQ P N ops (⟨some r, .unOp op T x, ty, pos, af, none⟩ :: rest) e w KQ = arg e x fun a => vUn op a (fun v => vcQ P N ops rest ((r, v) :: e) w KQ) := rfl
theorem qg_unOp (op : UnOp) (T : TypeId) (x : Operand) (jj : Nat) (bb : Bool) : vcQ P N ops (⟨some r, .unOp op T x, ty, pos, af, some (jj, bb)⟩ :: rest) e w KQ = vGuardL ops jj bb e (fun e => arg e x fun a => vUn op a (fun v => vcQ P N ops rest ((r, v) :: e) w KQ)) (fun e => vcQ P N ops rest ((r, undef) :: e) w KQ) := by rw [← vGuardL_eq]; rfl
theorem o_convert_some (s d : TypeId) (x : Operand) : vcOps P N ops (⟨some r, .convert s d x, ty, pos, af, none⟩ :: rest) e w K = vcStep P N (convPure P s d) ⟨some r, .convert s d x, ty, pos, af, none⟩ e w (vcOps P N ops rest) K := rfl
theorem o_convert (s d : TypeId) (x : Operand) (hc : convPure P s d = true) : vcOps P N ops (⟨some r, .convert s d x, ty, pos, af, none⟩ :: rest) e w K = arg e x fun a => vConv P s d a w (fun v => vcOps P N ops rest ((r, v) :: e) w K) := by rw [o_convert_some, hc]; rfl
theorem o_convertM (s d : TypeId) (x : Operand) (hc : convPure P s d = false) : vcOps P N ops (⟨some r, .convert s d x, ty, pos, af, none⟩ :: rest) e w K = MemK P N ⟨some r, .convert s d x, ty, pos, af, none⟩ e w (vcOps P N ops rest) K := by rw [o_convert_some, hc]; rfl
theorem og_convert_some (s d : TypeId) (x : Operand) (jj : Nat) (bb : Bool) : vcOps P N ops (⟨some r, .convert s d x, ty, pos, af, some (jj, bb)⟩ :: rest) e w K = vGuardL ops jj bb e (fun e => vcStep P N (convPure P s d) ⟨some r, .convert s d x, ty, pos, af, some (jj, bb)⟩ e w (vcOps P N ops rest) K) (fun e => vcOps P N ops rest ((r, undef) :: e) w K) := by rw [← vGuardL_eq]; rfl
theorem og_convert (s d : TypeId) (x : Operand) (jj : Nat) (bb : Bool) (hc : convPure P s d = true) : vcOps P N ops (⟨some r, .convert s d x, ty, pos, af, some (jj, bb)⟩ :: rest) e w K = vGuardL ops jj bb e (fun e => arg e x fun a => vConv P s d a w (fun v => vcOps P N ops rest ((r, v) :: e) w K)) (fun e => vcOps P N ops rest ((r, undef) :: e) w K) := by rw [og_convert_some, hc]; rfl
theorem q_convert_some (s d : TypeId) (x : Operand) : vcQ P N ops (⟨some r, .convert s d x, ty, pos, af, none⟩ :: rest) e w KQ = vcStepQ P N (convPure P s d) ⟨some r, .convert s d x, ty, pos, af, none⟩ e w (vcQ P N ops rest) KQ := rfl
theorem q_convert (s d : TypeId) (x : Operand) (hc : convPure P s d = true) : vcQ P N ops (⟨some r, .convert s d x, ty, pos, af, none⟩ :: rest) e w KQ = arg e x fun a => vConv P s d a w (fun v => vcQ P N ops rest ((r, v) :: e) w KQ) := by rw [q_convert_some, hc]; rfl
theorem q_convertM (s d : TypeId) (x : Operand) (hc : convPure P s d = false) : vcQ P N ops (⟨some r, .convert s d x, ty, pos, af, none⟩ :: rest) e w KQ = QuietK P N ⟨some r, .convert s d x, ty, pos, af, none⟩ e w (vcQ P N ops rest) KQ := by rw [q_convert_some, hc]; rfl
theorem qg_convert_some (s d : TypeId) (x : Operand) (jj : Nat) (bb : Bool) : vcQ P N ops (⟨some r, .convert s d x, ty, pos, af, some (jj, bb)⟩ :: rest) e w KQ = vGuardL ops jj bb e (fun e => vcStepQ P N (convPure P s d) ⟨some r, .convert s d x, ty, pos, af, some (jj, bb)⟩ e w (vcQ P N ops rest) KQ) (fun e => vcQ P N ops rest ((r, undef) :: e) w KQ) := by rw [← vGuardL_eq]; rfl
theorem qg_convert (s d : TypeId) (x : Operand) (jj : Nat) (bb : Bool) (hc : convPure P s d = true) : vcQ P N ops (⟨some r, .convert s d x, ty, pos, af, some (jj, bb)⟩ :: rest) e w KQ = vGuardL ops jj bb e (fun e => arg e x fun a => vConv P s d a w (fun v => vcQ P N ops rest ((r, v) :: e) w KQ)) (fun e => vcQ P N ops rest ((r, undef) :: e) w KQ) := by rw [qg_convert_some, hc]; rfl
theorem o_slice (T : TypeId) (x : Operand) (lo hi : Option Operand) : vcOps P N ops (⟨some r, .slice T x lo hi none, ty, pos, af, none⟩ :: rest) e w K = arg e x fun a => argO e lo fun l => argO e hi fun h => vSlice P T a l h (fun v => vcOps P N ops rest ((r, v) :: e) w K) := rfl
theorem og_slice (T : TypeId) (x : Operand) (lo hi : Option Operand) (jj : Nat) (bb : Bool) : vcOps P N ops (⟨some r, .slice T x lo hi none, ty, pos, af, some (jj, bb)⟩ :: rest) e w K = vGuardL ops jj bb e (fun e => arg e x fun a => argO e lo fun l => argO e hi fun h => vSlice P T a l h (fun v => vcOps P N ops rest ((r, v) :: e) w K)) (fun e => vcOps P N ops rest ((r, undef) :: e) w K) := by rw [← vGuardL_eq]; rfl
theorem q_slice (T : TypeId) (x : Operand) (lo hi : Option Operand) : vcQ P N ops (⟨some r, .slice T x lo hi none, ty, pos, af, none⟩ :: rest) e w KQ = arg e x fun a => argO e lo fun l => argO e hi fun h => vSlice P T a l h (fun v => vcQ P N ops rest ((r, v) :: e) w KQ) := rfl
theorem qg_slice (T : TypeId) (x : Operand) (lo hi : Option Operand) (jj : Nat) (bb : Bool) : vcQ P N ops (⟨some r, .slice T x lo hi none, ty, pos, af, some (jj, bb)⟩ :: rest) e w KQ = vGuardL ops jj bb e (fun e => arg e x fun a => argO e lo fun l => argO e hi fun h => vSlice P T a l h (fun v => vcQ P N ops rest ((r, v) :: e) w KQ)) (fun e => vcQ P N ops rest ((r, undef) :: e) w KQ) := by rw [← vGuardL_eq]; rfl
theorem o_fieldAddr (S : TypeId) (x : Operand) (f : Nat) : vcOps P N ops (⟨some r, .fieldAddr S x f, ty, pos, af, none⟩ :: rest) e w K = arg e x fun a => vFieldAddr P S a f (fun v => vcOps P N ops rest ((r, v) :: e) w K) := rfl
theorem og_fieldAddr (S : TypeId) (x : Operand) (f : Nat) (jj : Nat) (bb : Bool) : vcOps P N ops (⟨some r, .fieldAddr S x f, ty, pos, af, some (jj, bb)⟩ :: rest) e w K = vGuardL ops jj bb e (fun e => arg e x fun a => vFieldAddr P S a f (fun v => vcOps P N ops rest ((r, v) :: e) w K)) (fun e => vcOps P N ops rest ((r, undef) :: e) w K) := by rw [← vGuardL_eq]; rfl
theorem q_fieldAddr (S : TypeId) (x : Operand) (f : Nat) : vcQ P N ops (⟨some r, .fieldAddr S x f, ty, pos, af, none⟩ :: rest) e w KQ = arg e x fun a => vFieldAddr P S a f (fun v => vcQ P N ops rest ((r, v) :: e) w KQ) := rfl
theorem qg_fieldAddr (S : TypeId) (x : Operand) (f : Nat) (jj : Nat) (bb : Bool) : vcQ P N ops (⟨some r, .fieldAddr S x f, ty, pos, af, some (jj, bb)⟩ :: rest) e w KQ = vGuardL ops jj bb e (fun e => arg e x fun a => vFieldAddr P S a f (fun v => vcQ P N ops rest ((r, v) :: e) w KQ)) (fun e => vcQ P N ops rest ((r, undef) :: e) w KQ) := by rw [← vGuardL_eq]; rfl
theorem o_field (S : TypeId) (x : Operand) (f : Nat) : vcOps P N ops (⟨some r, .field S x f, ty, pos, af, none⟩ :: rest) e w K = arg e x fun a => vField P S a f (fun v => vcOps P N ops rest ((r, v) :: e) w K) := rfl
theorem og_field (S : TypeId) (x : Operand) (f : Nat) (jj : Nat) (bb : Bool) : vcOps P N ops (⟨some r, .field S x f, ty, pos, af, some (jj, bb)⟩ :: rest) e w K = vGuardL ops jj bb e (fun e => arg e x fun a => vField P S a f (fun v => vcOps P N ops rest ((r, v) :: e) w K)) (fun e => vcOps P N ops rest ((r, undef) :: e) w K) := by rw [← vGuardL_eq]; rfl
theorem q_field (S : TypeId) (x : Operand) (f : Nat) : vcQ P N ops (⟨some r, .field S x f, ty, pos, af, none⟩ :: rest) e w KQ = arg e x fun a => vField P S a f (fun v => vcQ P N ops rest ((r, v) :: e) w KQ) := rfl
theorem qg_field (S : TypeId) (x : Operand) (f : Nat) (jj : Nat) (bb : Bool) : vcQ P N ops (⟨some r, .field S x f, ty, pos, af, some (jj, bb)⟩ :: rest) e w KQ = vGuardL ops jj bb e (fun e => arg e x fun a => vField P S a f (fun v => vcQ P N ops rest ((r, v) :: e) w KQ)) (fun e => vcQ P N ops rest ((r, undef) :: e) w KQ) := by rw [← vGuardL_eq]; rfl
theorem o_indexAddr (T : TypeId) (x i : Operand) : vcOps P N ops (⟨some r, .indexAddr T x i, ty, pos, af, none⟩ :: rest) e w K = arg e x fun a => arg e i fun n => vIndexAddr P T a n (fun v => vcOps P N ops rest ((r, v) :: e) w K) := rfl
theorem og_indexAddr (T : TypeId) (x i : Operand) (jj : Nat) (bb : Bool) : vcOps P N ops (⟨some r, .indexAddr T x i, ty, pos, af, some (jj, bb)⟩ :: rest) e w K = vGuardL ops jj bb e (fun e => arg e x fun a => arg e i fun n => vIndexAddr P T a n (fun v => vcOps P N ops rest ((r, v) :: e) w K)) (fun e => vcOps P N ops rest ((r, undef) :: e) w K) := by rw [← vGuardL_eq]; rfl
theorem q_indexAddr (T : TypeId) (x i : Operand) : vcQ P N ops (⟨some r, .indexAddr T x i, ty, pos, af, none⟩ :: rest) e w KQ = arg e x fun a => arg e i fun n => vIndexAddr P T a n (fun v => vcQ P N ops rest ((r, v) :: e) w KQ) := rfl
theorem qg_indexAddr (T : TypeId) (x i : Operand) (jj : Nat) (bb : Bool) : vcQ P N ops (⟨some r, .indexAddr T x i, ty, pos, af, some (jj, bb)⟩ :: rest) e w KQ = vGuardL ops jj bb e (fun e => arg e x fun a => arg e i fun n => vIndexAddr P T a n (fun v => vcQ P N ops rest ((r, v) :: e) w KQ)) (fun e => vcQ P N ops rest ((r, undef) :: e) w KQ) := by rw [← vGuardL_eq]; rfl
theorem o_index (T : TypeId) (x i : Operand) : vcOps P N ops (⟨some r, .index T x i, ty, pos, af, none⟩ :: rest) e w K = arg e x fun a => arg e i fun n => vIndex P T a n (fun v => vcOps P N ops rest ((r, v) :: e) w K) := rfl
theorem og_index (T : TypeId) (x i : Operand) (jj : Nat) (bb : Bool) : vcOps P N ops (⟨some r, .index T x i, ty, pos, af, some (jj, bb)⟩ :: rest) e w K = vGuardL ops jj bb e (fun e => arg e x fun a => arg e i fun n => vIndex P T a n (fun v => vcOps P N ops rest ((r, v) :: e) w K)) (fun e => vcOps P N ops rest ((r, undef) :: e) w K) := by rw [← vGuardL_eq]; rfl
theorem q_index (T : TypeId) (x i : Operand) : vcQ P N ops (⟨some r, .index T x i, ty, pos, af, none⟩ :: rest) e w KQ = arg e x fun a => arg e i fun n => vIndex P T a n (fun v => vcQ P N ops rest ((r, v) :: e) w KQ) := rfl
theorem qg_index (T : TypeId) (x i : Operand) (jj : Nat) (bb : Bool) : vcQ P N ops (⟨some r, .index T x i, ty, pos, af, some (jj, bb)⟩ :: rest) e w KQ = vGuardL ops jj bb e (fun e => arg e x fun a => arg e i fun n => vIndex P T a n (fun v => vcQ P N ops rest ((r, v) :: e) w KQ)) (fun e => vcQ P N ops rest ((r, undef) :: e) w KQ) := by rw [← vGuardL_eq]; rfl
theorem o_extract (x : Operand) (i : Nat) : vcOps P N ops (⟨some r, .extract x i, ty, pos, af, none⟩ :: rest) e w K = arg e x fun a => vExtract a i (fun v => vcOps P N ops rest ((r, v) :: e) w K) := rfl
theorem og_extract (x : Operand) (i : Nat) (jj : Nat) (bb : Bool) : vcOps P N ops (⟨some r, .extract x i, ty, pos, af, some (jj, bb)⟩ :: rest) e w K = vGuardL ops jj bb e (fun e => arg e x fun a => vExtract a i (fun v => vcOps P N ops rest ((r, v) :: e) w K)) (fun e => vcOps P N ops rest ((r, undef) :: e) w K) := by rw [← vGuardL_eq]; rfl
theorem q_extract (x : Operand) (i : Nat) : vcQ P N ops (⟨some r, .extract x i, ty, pos, af, none⟩ :: rest) e w KQ = arg e x fun a => vExtract a i (fun v => vcQ P N ops rest ((r, v) :: e) w KQ) := rfl
theorem qg_extract (x : Operand) (i : Nat) (jj : Nat) (bb : Bool) : vcQ P N ops (⟨some r, .extract x i, ty, pos, af, some (jj, bb)⟩ :: rest) e w KQ = vGuardL ops jj bb e (fun e => arg e x fun a => vExtract a i (fun v => vcQ P N ops rest ((r, v) :: e) w KQ)) (fun e => vcQ P N ops rest ((r, undef) :: e) w KQ) := by rw [← vGuardL_eq]; rfl
theorem o_makeInterface (T : TypeId) (x : Operand) : vcOps P N ops (⟨some r, .makeInterface T x, ty, pos, af, none⟩ :: rest) e w K = arg e x fun a => vMakeIface P T a (fun v => vcOps P N ops rest ((r, v) :: e) w K) := rfl
theorem og_makeInterface (T : TypeId) (x : Operand) (jj : Nat) (bb : Bool) : vcOps P N ops (⟨some r, .makeInterface T x, ty, pos, af, some (jj, bb)⟩ :: rest) e w K = vGuardL ops jj bb e (fun e => arg e x fun a => vMakeIface P T a (fun v => vcOps P N ops rest ((r, v) :: e) w K)) (fun e => vcOps P N ops rest ((r, undef) :: e) w K) := by rw [← vGuardL_eq]; rfl
theorem q_makeInterface (T : TypeId) (x : Operand) : vcQ P N ops (⟨some r, .makeInterface T x, ty, pos, af, none⟩ :: rest) e w KQ = arg e x fun a => vMakeIface P T a (fun v => vcQ P N ops rest ((r, v) :: e) w KQ) := rfl
theorem qg_makeInterface (T : TypeId) (x : Operand) (jj : Nat) (bb : Bool) : vcQ P N ops (⟨some r, .makeInterface T x, ty, pos, af, some (jj, bb)⟩ :: rest) e w KQ = vGuardL ops jj bb e (fun e => arg e x fun a => vMakeIface P T a (fun v => vcQ P N ops rest ((r, v) :: e) w KQ)) (fun e => vcQ P N ops rest ((r, undef) :: e) w KQ) := by rw [← vGuardL_eq]; rfl
theorem o_makeFunc (fn : Go.Fn) (a b : Array Operand) : vcOps P N ops (⟨some r, .makeFunc fn a b, ty, pos, af, none⟩ :: rest) e w K = argL e a.toList fun fs => argL e b.toList fun cs => ((fun v => vcOps P N ops rest ((r, v) :: e) w K)) (.func fn fs.toArray cs.toArray) := rfl
theorem og_makeFunc (fn : Go.Fn) (a b : Array Operand) (jj : Nat) (bb : Bool) : vcOps P N ops (⟨some r, .makeFunc fn a b, ty, pos, af, some (jj, bb)⟩ :: rest) e w K = vGuardL ops jj bb e (fun e => argL e a.toList fun fs => argL e b.toList fun cs => ((fun v => vcOps P N ops rest ((r, v) :: e) w K)) (.func fn fs.toArray cs.toArray)) (fun e => vcOps P N ops rest ((r, undef) :: e) w K) := by rw [← vGuardL_eq]; rfl
theorem q_makeFunc (fn : Go.Fn) (a b : Array Operand) : vcQ P N ops (⟨some r, .makeFunc fn a b, ty, pos, af, none⟩ :: rest) e w KQ = argL e a.toList fun fs => argL e b.toList fun cs => ((fun v => vcQ P N ops rest ((r, v) :: e) w KQ)) (.func fn fs.toArray cs.toArray) := rfl
theorem qg_makeFunc (fn : Go.Fn) (a b : Array Operand) (jj : Nat) (bb : Bool) : vcQ P N ops (⟨some r, .makeFunc fn a b, ty, pos, af, some (jj, bb)⟩ :: rest) e w KQ = vGuardL ops jj bb e (fun e => argL e a.toList fun fs => argL e b.toList fun cs => ((fun v => vcQ P N ops rest ((r, v) :: e) w KQ)) (.func fn fs.toArray cs.toArray)) (fun e => vcQ P N ops rest ((r, undef) :: e) w KQ) := by rw [← vGuardL_eq]; rfl
theorem o_build (T : TypeId) (ps : Array (Nat × Operand)) : vcOps P N ops (⟨some r, .build T ps, ty, pos, af, none⟩ :: rest) e w K = vParts e ps.toList fun vs => vBuild P T vs (fun v => vcOps P N ops rest ((r, v) :: e) w K) := rfl
theorem og_build (T : TypeId) (ps : Array (Nat × Operand)) (jj : Nat) (bb : Bool) : vcOps P N ops (⟨some r, .build T ps, ty, pos, af, some (jj, bb)⟩ :: rest) e w K = vGuardL ops jj bb e (fun e => vParts e ps.toList fun vs => vBuild P T vs (fun v => vcOps P N ops rest ((r, v) :: e) w K)) (fun e => vcOps P N ops rest ((r, undef) :: e) w K) := by rw [← vGuardL_eq]; rfl
theorem q_build (T : TypeId) (ps : Array (Nat × Operand)) : vcQ P N ops (⟨some r, .build T ps, ty, pos, af, none⟩ :: rest) e w KQ = vParts e ps.toList fun vs => vBuild P T vs (fun v => vcQ P N ops rest ((r, v) :: e) w KQ) := rfl
theorem qg_build (T : TypeId) (ps : Array (Nat × Operand)) (jj : Nat) (bb : Bool) : vcQ P N ops (⟨some r, .build T ps, ty, pos, af, some (jj, bb)⟩ :: rest) e w KQ = vGuardL ops jj bb e (fun e => vParts e ps.toList fun vs => vBuild P T vs (fun v => vcQ P N ops rest ((r, v) :: e) w KQ)) (fun e => vcQ P N ops rest ((r, undef) :: e) w KQ) := by rw [← vGuardL_eq]; rfl
theorem o_load (T : TypeId) (x : Operand) : vcOps P N ops (⟨some r, .load T x, ty, pos, af, none⟩ :: rest) e w K = arg e x fun a => vLoad P T a w (fun v => vcOps P N ops rest ((r, v) :: e) w K) := rfl
theorem og_load (T : TypeId) (x : Operand) (jj : Nat) (bb : Bool) : vcOps P N ops (⟨some r, .load T x, ty, pos, af, some (jj, bb)⟩ :: rest) e w K = vGuardL ops jj bb e (fun e => arg e x fun a => vLoad P T a w (fun v => vcOps P N ops rest ((r, v) :: e) w K)) (fun e => vcOps P N ops rest ((r, undef) :: e) w K) := by rw [← vGuardL_eq]; rfl
theorem q_load (T : TypeId) (x : Operand) : vcQ P N ops (⟨some r, .load T x, ty, pos, af, none⟩ :: rest) e w KQ = arg e x fun a => vLoad P T a w (fun v => vcQ P N ops rest ((r, v) :: e) w KQ) := rfl
theorem qg_load (T : TypeId) (x : Operand) (jj : Nat) (bb : Bool) : vcQ P N ops (⟨some r, .load T x, ty, pos, af, some (jj, bb)⟩ :: rest) e w KQ = vGuardL ops jj bb e (fun e => arg e x fun a => vLoad P T a w (fun v => vcQ P N ops rest ((r, v) :: e) w KQ)) (fun e => vcQ P N ops rest ((r, undef) :: e) w KQ) := by rw [← vGuardL_eq]; rfl
theorem o_nilCheck (x : Operand) : vcOps P N ops (⟨some r, .nilCheck x, ty, pos, af, none⟩ :: rest) e w K = arg e x fun a => vNil a (fun v => vcOps P N ops rest ((r, v) :: e) w K) := rfl
theorem og_nilCheck (x : Operand) (jj : Nat) (bb : Bool) : vcOps P N ops (⟨some r, .nilCheck x, ty, pos, af, some (jj, bb)⟩ :: rest) e w K = vGuardL ops jj bb e (fun e => arg e x fun a => vNil a (fun v => vcOps P N ops rest ((r, v) :: e) w K)) (fun e => vcOps P N ops rest ((r, undef) :: e) w K) := by rw [← vGuardL_eq]; rfl
theorem q_nilCheck (x : Operand) : vcQ P N ops (⟨some r, .nilCheck x, ty, pos, af, none⟩ :: rest) e w KQ = arg e x fun a => vNil a (fun v => vcQ P N ops rest ((r, v) :: e) w KQ) := rfl
theorem qg_nilCheck (x : Operand) (jj : Nat) (bb : Bool) : vcQ P N ops (⟨some r, .nilCheck x, ty, pos, af, some (jj, bb)⟩ :: rest) e w KQ = vGuardL ops jj bb e (fun e => arg e x fun a => vNil a (fun v => vcQ P N ops rest ((r, v) :: e) w KQ)) (fun e => vcQ P N ops rest ((r, undef) :: e) w KQ) := by rw [← vGuardL_eq]; rfl
theorem o_len (as : Array Operand) (ts : Array TypeId) : vcOps P N ops (⟨some r, .call { callee := .builtin .len, args := as, argTypes := ts }, ty, pos, af, none⟩ :: rest) e w K = argL e as.toList fun vs => vLenL P ts[0]? vs (fun v => vcOps P N ops rest ((r, v) :: e) w K) := rfl
theorem og_len (as : Array Operand) (ts : Array TypeId) (jj : Nat) (bb : Bool) : vcOps P N ops (⟨some r, .call { callee := .builtin .len, args := as, argTypes := ts }, ty, pos, af, some (jj, bb)⟩ :: rest) e w K = vGuardL ops jj bb e (fun e => argL e as.toList fun vs => vLenL P ts[0]? vs (fun v => vcOps P N ops rest ((r, v) :: e) w K)) (fun e => vcOps P N ops rest ((r, undef) :: e) w K) := by rw [← vGuardL_eq]; rfl
theorem q_len (as : Array Operand) (ts : Array TypeId) : vcQ P N ops (⟨some r, .call { callee := .builtin .len, args := as, argTypes := ts }, ty, pos, af, none⟩ :: rest) e w KQ = argL e as.toList fun vs => vLenL P ts[0]? vs (fun v => vcQ P N ops rest ((r, v) :: e) w KQ) := rfl
theorem qg_len (as : Array Operand) (ts : Array TypeId) (jj : Nat) (bb : Bool) : vcQ P N ops (⟨some r, .call { callee := .builtin .len, args := as, argTypes := ts }, ty, pos, af, some (jj, bb)⟩ :: rest) e w KQ = vGuardL ops jj bb e (fun e => argL e as.toList fun vs => vLenL P ts[0]? vs (fun v => vcQ P N ops rest ((r, v) :: e) w KQ)) (fun e => vcQ P N ops rest ((r, undef) :: e) w KQ) := by rw [← vGuardL_eq]; rfl
theorem o_min (as : Array Operand) (ts : Array TypeId) : vcOps P N ops (⟨some r, .call { callee := .builtin .min, args := as, argTypes := ts }, ty, pos, af, none⟩ :: rest) e w K = argL e as.toList fun vs => vMin vs (fun v => vcOps P N ops rest ((r, v) :: e) w K) := rfl
theorem og_min (as : Array Operand) (ts : Array TypeId) (jj : Nat) (bb : Bool) : vcOps P N ops (⟨some r, .call { callee := .builtin .min, args := as, argTypes := ts }, ty, pos, af, some (jj, bb)⟩ :: rest) e w K = vGuardL ops jj bb e (fun e => argL e as.toList fun vs => vMin vs (fun v => vcOps P N ops rest ((r, v) :: e) w K)) (fun e => vcOps P N ops rest ((r, undef) :: e) w K) := by rw [← vGuardL_eq]; rfl
theorem q_min (as : Array Operand) (ts : Array TypeId) : vcQ P N ops (⟨some r, .call { callee := .builtin .min, args := as, argTypes := ts }, ty, pos, af, none⟩ :: rest) e w KQ = argL e as.toList fun vs => vMin vs (fun v => vcQ P N ops rest ((r, v) :: e) w KQ) := rfl
theorem qg_min (as : Array Operand) (ts : Array TypeId) (jj : Nat) (bb : Bool) : vcQ P N ops (⟨some r, .call { callee := .builtin .min, args := as, argTypes := ts }, ty, pos, af, some (jj, bb)⟩ :: rest) e w KQ = vGuardL ops jj bb e (fun e => argL e as.toList fun vs => vMin vs (fun v => vcQ P N ops rest ((r, v) :: e) w KQ)) (fun e => vcQ P N ops rest ((r, undef) :: e) w KQ) := by rw [← vGuardL_eq]; rfl
theorem o_max (as : Array Operand) (ts : Array TypeId) : vcOps P N ops (⟨some r, .call { callee := .builtin .max, args := as, argTypes := ts }, ty, pos, af, none⟩ :: rest) e w K = argL e as.toList fun vs => vMax vs (fun v => vcOps P N ops rest ((r, v) :: e) w K) := rfl
theorem og_max (as : Array Operand) (ts : Array TypeId) (jj : Nat) (bb : Bool) : vcOps P N ops (⟨some r, .call { callee := .builtin .max, args := as, argTypes := ts }, ty, pos, af, some (jj, bb)⟩ :: rest) e w K = vGuardL ops jj bb e (fun e => argL e as.toList fun vs => vMax vs (fun v => vcOps P N ops rest ((r, v) :: e) w K)) (fun e => vcOps P N ops rest ((r, undef) :: e) w K) := by rw [← vGuardL_eq]; rfl
theorem q_max (as : Array Operand) (ts : Array TypeId) : vcQ P N ops (⟨some r, .call { callee := .builtin .max, args := as, argTypes := ts }, ty, pos, af, none⟩ :: rest) e w KQ = argL e as.toList fun vs => vMax vs (fun v => vcQ P N ops rest ((r, v) :: e) w KQ) := rfl
theorem qg_max (as : Array Operand) (ts : Array TypeId) (jj : Nat) (bb : Bool) : vcQ P N ops (⟨some r, .call { callee := .builtin .max, args := as, argTypes := ts }, ty, pos, af, some (jj, bb)⟩ :: rest) e w KQ = vGuardL ops jj bb e (fun e => argL e as.toList fun vs => vMax vs (fun v => vcQ P N ops rest ((r, v) :: e) w KQ)) (fun e => vcQ P N ops rest ((r, undef) :: e) w KQ) := by rw [← vGuardL_eq]; rfl
theorem o_append (as : Array Operand) (ts : Array TypeId) : vcOps P N ops (⟨d, .call { callee := .builtin .append, args := as, argTypes := ts }, ty, pos, af, none⟩ :: rest) e w K = MemK P N ⟨d, .call { callee := .builtin .append, args := as, argTypes := ts }, ty, pos, af, none⟩ e w (vcOps P N ops rest) K := rfl
theorem og_append (as : Array Operand) (ts : Array TypeId) (jj : Nat) (bb : Bool) : vcOps P N ops (⟨d, .call { callee := .builtin .append, args := as, argTypes := ts }, ty, pos, af, some (jj, bb)⟩ :: rest) e w K = vGuardL ops jj bb e (fun e => MemK P N ⟨d, .call { callee := .builtin .append, args := as, argTypes := ts }, ty, pos, af, some (jj, bb)⟩ e w (vcOps P N ops rest) K) (fun e => vcOps P N ops rest (e.put d undef) w K) := by rw [← vGuardL_eq]; rfl
theorem q_append (as : Array Operand) (ts : Array TypeId) : vcQ P N ops (⟨d, .call { callee := .builtin .append, args := as, argTypes := ts }, ty, pos, af, none⟩ :: rest) e w KQ = QuietK P N ⟨d, .call { callee := .builtin .append, args := as, argTypes := ts }, ty, pos, af, none⟩ e w (vcQ P N ops rest) KQ := rfl
theorem qg_append (as : Array Operand) (ts : Array TypeId) (jj : Nat) (bb : Bool) : vcQ P N ops (⟨d, .call { callee := .builtin .append, args := as, argTypes := ts }, ty, pos, af, some (jj, bb)⟩ :: rest) e w KQ = vGuardL ops jj bb e (fun e => QuietK P N ⟨d, .call { callee := .builtin .append, args := as, argTypes := ts }, ty, pos, af, some (jj, bb)⟩ e w (vcQ P N ops rest) KQ) (fun e => vcQ P N ops rest (e.put d undef) w KQ) := by rw [← vGuardL_eq]; rfl
theorem o_copy (as : Array Operand) (ts : Array TypeId) : vcOps P N ops (⟨d, .call { callee := .builtin .copy, args := as, argTypes := ts }, ty, pos, af, none⟩ :: rest) e w K = MemK P N ⟨d, .call { callee := .builtin .copy, args := as, argTypes := ts }, ty, pos, af, none⟩ e w (vcOps P N ops rest) K := rfl
theorem og_copy (as : Array Operand) (ts : Array TypeId) (jj : Nat) (bb : Bool) : vcOps P N ops (⟨d, .call { callee := .builtin .copy, args := as, argTypes := ts }, ty, pos, af, some (jj, bb)⟩ :: rest) e w K = vGuardL ops jj bb e (fun e => MemK P N ⟨d, .call { callee := .builtin .copy, args := as, argTypes := ts }, ty, pos, af, some (jj, bb)⟩ e w (vcOps P N ops rest) K) (fun e => vcOps P N ops rest (e.put d undef) w K) := by rw [← vGuardL_eq]; rfl
theorem q_copy (as : Array Operand) (ts : Array TypeId) : vcQ P N ops (⟨d, .call { callee := .builtin .copy, args := as, argTypes := ts }, ty, pos, af, none⟩ :: rest) e w KQ = QuietK P N ⟨d, .call { callee := .builtin .copy, args := as, argTypes := ts }, ty, pos, af, none⟩ e w (vcQ P N ops rest) KQ := rfl
theorem qg_copy (as : Array Operand) (ts : Array TypeId) (jj : Nat) (bb : Bool) : vcQ P N ops (⟨d, .call { callee := .builtin .copy, args := as, argTypes := ts }, ty, pos, af, some (jj, bb)⟩ :: rest) e w KQ = vGuardL ops jj bb e (fun e => QuietK P N ⟨d, .call { callee := .builtin .copy, args := as, argTypes := ts }, ty, pos, af, some (jj, bb)⟩ e w (vcQ P N ops rest) KQ) (fun e => vcQ P N ops rest (e.put d undef) w KQ) := by rw [← vGuardL_eq]; rfl
theorem o_recover (as : Array Operand) (ts : Array TypeId) : vcOps P N ops (⟨d, .call { callee := .builtin .recover, args := as, argTypes := ts }, ty, pos, af, none⟩ :: rest) e w K = MemK P N ⟨d, .call { callee := .builtin .recover, args := as, argTypes := ts }, ty, pos, af, none⟩ e w (vcOps P N ops rest) K := rfl
theorem og_recover (as : Array Operand) (ts : Array TypeId) (jj : Nat) (bb : Bool) : vcOps P N ops (⟨d, .call { callee := .builtin .recover, args := as, argTypes := ts }, ty, pos, af, some (jj, bb)⟩ :: rest) e w K = vGuardL ops jj bb e (fun e => MemK P N ⟨d, .call { callee := .builtin .recover, args := as, argTypes := ts }, ty, pos, af, some (jj, bb)⟩ e w (vcOps P N ops rest) K) (fun e => vcOps P N ops rest (e.put d undef) w K) := by rw [← vGuardL_eq]; rfl
theorem q_recover (as : Array Operand) (ts : Array TypeId) : vcQ P N ops (⟨d, .call { callee := .builtin .recover, args := as, argTypes := ts }, ty, pos, af, none⟩ :: rest) e w KQ = QuietK P N ⟨d, .call { callee := .builtin .recover, args := as, argTypes := ts }, ty, pos, af, none⟩ e w (vcQ P N ops rest) KQ := rfl
theorem qg_recover (as : Array Operand) (ts : Array TypeId) (jj : Nat) (bb : Bool) : vcQ P N ops (⟨d, .call { callee := .builtin .recover, args := as, argTypes := ts }, ty, pos, af, some (jj, bb)⟩ :: rest) e w KQ = vGuardL ops jj bb e (fun e => QuietK P N ⟨d, .call { callee := .builtin .recover, args := as, argTypes := ts }, ty, pos, af, some (jj, bb)⟩ e w (vcQ P N ops rest) KQ) (fun e => vcQ P N ops rest (e.put d undef) w KQ) := by rw [← vGuardL_eq]; rfl
theorem o_delete (as : Array Operand) (ts : Array TypeId) : vcOps P N ops (⟨d, .call { callee := .builtin .delete, args := as, argTypes := ts }, ty, pos, af, none⟩ :: rest) e w K = MemK P N ⟨d, .call { callee := .builtin .delete, args := as, argTypes := ts }, ty, pos, af, none⟩ e w (vcOps P N ops rest) K := rfl
theorem og_delete (as : Array Operand) (ts : Array TypeId) (jj : Nat) (bb : Bool) : vcOps P N ops (⟨d, .call { callee := .builtin .delete, args := as, argTypes := ts }, ty, pos, af, some (jj, bb)⟩ :: rest) e w K = vGuardL ops jj bb e (fun e => MemK P N ⟨d, .call { callee := .builtin .delete, args := as, argTypes := ts }, ty, pos, af, some (jj, bb)⟩ e w (vcOps P N ops rest) K) (fun e => vcOps P N ops rest (e.put d undef) w K) := by rw [← vGuardL_eq]; rfl
theorem q_delete (as : Array Operand) (ts : Array TypeId) : vcQ P N ops (⟨d, .call { callee := .builtin .delete, args := as, argTypes := ts }, ty, pos, af, none⟩ :: rest) e w KQ = QuietK P N ⟨d, .call { callee := .builtin .delete, args := as, argTypes := ts }, ty, pos, af, none⟩ e w (vcQ P N ops rest) KQ := rfl
theorem qg_delete (as : Array Operand) (ts : Array TypeId) (jj : Nat) (bb : Bool) : vcQ P N ops (⟨d, .call { callee := .builtin .delete, args := as, argTypes := ts }, ty, pos, af, some (jj, bb)⟩ :: rest) e w KQ = vGuardL ops jj bb e (fun e => QuietK P N ⟨d, .call { callee := .builtin .delete, args := as, argTypes := ts }, ty, pos, af, some (jj, bb)⟩ e w (vcQ P N ops rest) KQ) (fun e => vcQ P N ops rest (e.put d undef) w KQ) := by rw [← vGuardL_eq]; rfl
theorem o_cap (as : Array Operand) (ts : Array TypeId) : vcOps P N ops (⟨d, .call { callee := .builtin .cap, args := as, argTypes := ts }, ty, pos, af, none⟩ :: rest) e w K = MemK P N ⟨d, .call { callee := .builtin .cap, args := as, argTypes := ts }, ty, pos, af, none⟩ e w (vcOps P N ops rest) K := rfl
theorem og_cap (as : Array Operand) (ts : Array TypeId) (jj : Nat) (bb : Bool) : vcOps P N ops (⟨d, .call { callee := .builtin .cap, args := as, argTypes := ts }, ty, pos, af, some (jj, bb)⟩ :: rest) e w K = vGuardL ops jj bb e (fun e => MemK P N ⟨d, .call { callee := .builtin .cap, args := as, argTypes := ts }, ty, pos, af, some (jj, bb)⟩ e w (vcOps P N ops rest) K) (fun e => vcOps P N ops rest (e.put d undef) w K) := by rw [← vGuardL_eq]; rfl
theorem q_cap (as : Array Operand) (ts : Array TypeId) : vcQ P N ops (⟨d, .call { callee := .builtin .cap, args := as, argTypes := ts }, ty, pos, af, none⟩ :: rest) e w KQ = QuietK P N ⟨d, .call { callee := .builtin .cap, args := as, argTypes := ts }, ty, pos, af, none⟩ e w (vcQ P N ops rest) KQ := rfl
theorem qg_cap (as : Array Operand) (ts : Array TypeId) (jj : Nat) (bb : Bool) : vcQ P N ops (⟨d, .call { callee := .builtin .cap, args := as, argTypes := ts }, ty, pos, af, some (jj, bb)⟩ :: rest) e w KQ = vGuardL ops jj bb e (fun e => QuietK P N ⟨d, .call { callee := .builtin .cap, args := as, argTypes := ts }, ty, pos, af, some (jj, bb)⟩ e w (vcQ P N ops rest) KQ) (fun e => vcQ P N ops rest (e.put d undef) w KQ) := by rw [← vGuardL_eq]; rfl
theorem o_callv (x : Operand) (as : Array Operand) (ts : Array TypeId) : vcOps P N ops (⟨d, .call { callee := .value x, args := as, argTypes := ts }, ty, pos, af, none⟩ :: rest) e w K = MemK P N ⟨d, .call { callee := .value x, args := as, argTypes := ts }, ty, pos, af, none⟩ e w (vcOps P N ops rest) K := rfl
theorem og_callv (x : Operand) (as : Array Operand) (ts : Array TypeId) (jj : Nat) (bb : Bool) : vcOps P N ops (⟨d, .call { callee := .value x, args := as, argTypes := ts }, ty, pos, af, some (jj, bb)⟩ :: rest) e w K = vGuardL ops jj bb e (fun e => MemK P N ⟨d, .call { callee := .value x, args := as, argTypes := ts }, ty, pos, af, some (jj, bb)⟩ e w (vcOps P N ops rest) K) (fun e => vcOps P N ops rest (e.put d undef) w K) := by rw [← vGuardL_eq]; rfl
theorem q_callv (x : Operand) (as : Array Operand) (ts : Array TypeId) : vcQ P N ops (⟨d, .call { callee := .value x, args := as, argTypes := ts }, ty, pos, af, none⟩ :: rest) e w KQ = QuietK P N ⟨d, .call { callee := .value x, args := as, argTypes := ts }, ty, pos, af, none⟩ e w (vcQ P N ops rest) KQ := rfl
theorem qg_callv (x : Operand) (as : Array Operand) (ts : Array TypeId) (jj : Nat) (bb : Bool) : vcQ P N ops (⟨d, .call { callee := .value x, args := as, argTypes := ts }, ty, pos, af, some (jj, bb)⟩ :: rest) e w KQ = vGuardL ops jj bb e (fun e => QuietK P N ⟨d, .call { callee := .value x, args := as, argTypes := ts }, ty, pos, af, some (jj, bb)⟩ e w (vcQ P N ops rest) KQ) (fun e => vcQ P N ops rest (e.put d undef) w KQ) := by rw [← vGuardL_eq]; rfl
theorem o_invoke (x : Operand) (m : String) (as : Array Operand) (ts : Array TypeId) : vcOps P N ops (⟨d, .call { callee := .invoke x m, args := as, argTypes := ts }, ty, pos, af, none⟩ :: rest) e w K = MemK P N ⟨d, .call { callee := .invoke x m, args := as, argTypes := ts }, ty, pos, af, none⟩ e w (vcOps P N ops rest) K := rfl
theorem og_invoke (x : Operand) (m : String) (as : Array Operand) (ts : Array TypeId) (jj : Nat) (bb : Bool) : vcOps P N ops (⟨d, .call { callee := .invoke x m, args := as, argTypes := ts }, ty, pos, af, some (jj, bb)⟩ :: rest) e w K = vGuardL ops jj bb e (fun e => MemK P N ⟨d, .call { callee := .invoke x m, args := as, argTypes := ts }, ty, pos, af, some (jj, bb)⟩ e w (vcOps P N ops rest) K) (fun e => vcOps P N ops rest (e.put d undef) w K) := by rw [← vGuardL_eq]; rfl
theorem q_invoke (x : Operand) (m : String) (as : Array Operand) (ts : Array TypeId) : vcQ P N ops (⟨d, .call { callee := .invoke x m, args := as, argTypes := ts }, ty, pos, af, none⟩ :: rest) e w KQ = QuietK P N ⟨d, .call { callee := .invoke x m, args := as, argTypes := ts }, ty, pos, af, none⟩ e w (vcQ P N ops rest) KQ := rfl
theorem qg_invoke (x : Operand) (m : String) (as : Array Operand) (ts : Array TypeId) (jj : Nat) (bb : Bool) : vcQ P N ops (⟨d, .call { callee := .invoke x m, args := as, argTypes := ts }, ty, pos, af, some (jj, bb)⟩ :: rest) e w KQ = vGuardL ops jj bb e (fun e => QuietK P N ⟨d, .call { callee := .invoke x m, args := as, argTypes := ts }, ty, pos, af, some (jj, bb)⟩ e w (vcQ P N ops rest) KQ) (fun e => vcQ P N ops rest (e.put d undef) w KQ) := by rw [← vGuardL_eq]; rfl
theorem o_alloc (T : TypeId) : vcOps P N ops (⟨d, .alloc T, ty, pos, af, none⟩ :: rest) e w K = MemK P N ⟨d, .alloc T, ty, pos, af, none⟩ e w (vcOps P N ops rest) K := rfl
theorem og_alloc (T : TypeId) (jj : Nat) (bb : Bool) : vcOps P N ops (⟨d, .alloc T, ty, pos, af, some (jj, bb)⟩ :: rest) e w K = vGuardL ops jj bb e (fun e => MemK P N ⟨d, .alloc T, ty, pos, af, some (jj, bb)⟩ e w (vcOps P N ops rest) K) (fun e => vcOps P N ops rest (e.put d undef) w K) := by rw [← vGuardL_eq]; rfl
theorem q_alloc (T : TypeId) : vcQ P N ops (⟨d, .alloc T, ty, pos, af, none⟩ :: rest) e w KQ = QuietK P N ⟨d, .alloc T, ty, pos, af, none⟩ e w (vcQ P N ops rest) KQ := rfl
theorem qg_alloc (T : TypeId) (jj : Nat) (bb : Bool) : vcQ P N ops (⟨d, .alloc T, ty, pos, af, some (jj, bb)⟩ :: rest) e w KQ = vGuardL ops jj bb e (fun e => QuietK P N ⟨d, .alloc T, ty, pos, af, some (jj, bb)⟩ e w (vcQ P N ops rest) KQ) (fun e => vcQ P N ops rest (e.put d undef) w KQ) := by rw [← vGuardL_eq]; rfl
theorem o_box (T : TypeId) (x : Operand) : vcOps P N ops (⟨d, .box T x, ty, pos, af, none⟩ :: rest) e w K = MemK P N ⟨d, .box T x, ty, pos, af, none⟩ e w (vcOps P N ops rest) K := rfl
theorem og_box (T : TypeId) (x : Operand) (jj : Nat) (bb : Bool) : vcOps P N ops (⟨d, .box T x, ty, pos, af, some (jj, bb)⟩ :: rest) e w K = vGuardL ops jj bb e (fun e => MemK P N ⟨d, .box T x, ty, pos, af, some (jj, bb)⟩ e w (vcOps P N ops rest) K) (fun e => vcOps P N ops rest (e.put d undef) w K) := by rw [← vGuardL_eq]; rfl
theorem q_box (T : TypeId) (x : Operand) : vcQ P N ops (⟨d, .box T x, ty, pos, af, none⟩ :: rest) e w KQ = QuietK P N ⟨d, .box T x, ty, pos, af, none⟩ e w (vcQ P N ops rest) KQ := rfl
theorem qg_box (T : TypeId) (x : Operand) (jj : Nat) (bb : Bool) : vcQ P N ops (⟨d, .box T x, ty, pos, af, some (jj, bb)⟩ :: rest) e w KQ = vGuardL ops jj bb e (fun e => QuietK P N ⟨d, .box T x, ty, pos, af, some (jj, bb)⟩ e w (vcQ P N ops rest) KQ) (fun e => vcQ P N ops rest (e.put d undef) w KQ) := by rw [← vGuardL_eq]; rfl
theorem o_buildSlice (T : TypeId) (n : Nat) (ps : Array (Nat × Operand)) : vcOps P N ops (⟨d, .buildSlice T n ps, ty, pos, af, none⟩ :: rest) e w K = MemK P N ⟨d, .buildSlice T n ps, ty, pos, af, none⟩ e w (vcOps P N ops rest) K := rfl
theorem og_buildSlice (T : TypeId) (n : Nat) (ps : Array (Nat × Operand)) (jj : Nat) (bb : Bool) : vcOps P N ops (⟨d, .buildSlice T n ps, ty, pos, af, some (jj, bb)⟩ :: rest) e w K = vGuardL ops jj bb e (fun e => MemK P N ⟨d, .buildSlice T n ps, ty, pos, af, some (jj, bb)⟩ e w (vcOps P N ops rest) K) (fun e => vcOps P N ops rest (e.put d undef) w K) := by rw [← vGuardL_eq]; rfl
theorem q_buildSlice (T : TypeId) (n : Nat) (ps : Array (Nat × Operand)) : vcQ P N ops (⟨d, .buildSlice T n ps, ty, pos, af, none⟩ :: rest) e w KQ = QuietK P N ⟨d, .buildSlice T n ps, ty, pos, af, none⟩ e w (vcQ P N ops rest) KQ := rfl
theorem qg_buildSlice (T : TypeId) (n : Nat) (ps : Array (Nat × Operand)) (jj : Nat) (bb : Bool) : vcQ P N ops (⟨d, .buildSlice T n ps, ty, pos, af, some (jj, bb)⟩ :: rest) e w KQ = vGuardL ops jj bb e (fun e => QuietK P N ⟨d, .buildSlice T n ps, ty, pos, af, some (jj, bb)⟩ e w (vcQ P N ops rest) KQ) (fun e => vcQ P N ops rest (e.put d undef) w KQ) := by rw [← vGuardL_eq]; rfl
theorem o_store (T : TypeId) (x y : Operand) : vcOps P N ops (⟨d, .store T x y, ty, pos, af, none⟩ :: rest) e w K = MemK P N ⟨d, .store T x y, ty, pos, af, none⟩ e w (vcOps P N ops rest) K := rfl
theorem og_store (T : TypeId) (x y : Operand) (jj : Nat) (bb : Bool) : vcOps P N ops (⟨d, .store T x y, ty, pos, af, some (jj, bb)⟩ :: rest) e w K = vGuardL ops jj bb e (fun e => MemK P N ⟨d, .store T x y, ty, pos, af, some (jj, bb)⟩ e w (vcOps P N ops rest) K) (fun e => vcOps P N ops rest (e.put d undef) w K) := by rw [← vGuardL_eq]; rfl
theorem q_store (T : TypeId) (x y : Operand) : vcQ P N ops (⟨d, .store T x y, ty, pos, af, none⟩ :: rest) e w KQ = QuietK P N ⟨d, .store T x y, ty, pos, af, none⟩ e w (vcQ P N ops rest) KQ := rfl
theorem qg_store (T : TypeId) (x y : Operand) (jj : Nat) (bb : Bool) : vcQ P N ops (⟨d, .store T x y, ty, pos, af, some (jj, bb)⟩ :: rest) e w KQ = vGuardL ops jj bb e (fun e => QuietK P N ⟨d, .store T x y, ty, pos, af, some (jj, bb)⟩ e w (vcQ P N ops rest) KQ) (fun e => vcQ P N ops rest (e.put d undef) w KQ) := by rw [← vGuardL_eq]; rfl
theorem o_makeSlice (T : TypeId) (x y : Operand) : vcOps P N ops (⟨d, .makeSlice T x y, ty, pos, af, none⟩ :: rest) e w K = MemK P N ⟨d, .makeSlice T x y, ty, pos, af, none⟩ e w (vcOps P N ops rest) K := rfl
theorem og_makeSlice (T : TypeId) (x y : Operand) (jj : Nat) (bb : Bool) : vcOps P N ops (⟨d, .makeSlice T x y, ty, pos, af, some (jj, bb)⟩ :: rest) e w K = vGuardL ops jj bb e (fun e => MemK P N ⟨d, .makeSlice T x y, ty, pos, af, some (jj, bb)⟩ e w (vcOps P N ops rest) K) (fun e => vcOps P N ops rest (e.put d undef) w K) := by rw [← vGuardL_eq]; rfl
theorem q_makeSlice (T : TypeId) (x y : Operand) : vcQ P N ops (⟨d, .makeSlice T x y, ty, pos, af, none⟩ :: rest) e w KQ = QuietK P N ⟨d, .makeSlice T x y, ty, pos, af, none⟩ e w (vcQ P N ops rest) KQ := rfl
theorem qg_makeSlice (T : TypeId) (x y : Operand) (jj : Nat) (bb : Bool) : vcQ P N ops (⟨d, .makeSlice T x y, ty, pos, af, some (jj, bb)⟩ :: rest) e w KQ = vGuardL ops jj bb e (fun e => QuietK P N ⟨d, .makeSlice T x y, ty, pos, af, some (jj, bb)⟩ e w (vcQ P N ops rest) KQ) (fun e => vcQ P N ops rest (e.put d undef) w KQ) := by rw [← vGuardL_eq]; rfl
theorem o_makeMap (T : TypeId) (r : Option Operand) : vcOps P N ops (⟨d, .makeMap T r, ty, pos, af, none⟩ :: rest) e w K = MemK P N ⟨d, .makeMap T r, ty, pos, af, none⟩ e w (vcOps P N ops rest) K := rfl
theorem og_makeMap (T : TypeId) (r : Option Operand) (jj : Nat) (bb : Bool) : vcOps P N ops (⟨d, .makeMap T r, ty, pos, af, some (jj, bb)⟩ :: rest) e w K = vGuardL ops jj bb e (fun e => MemK P N ⟨d, .makeMap T r, ty, pos, af, some (jj, bb)⟩ e w (vcOps P N ops rest) K) (fun e => vcOps P N ops rest (e.put d undef) w K) := by rw [← vGuardL_eq]; rfl
theorem q_makeMap (T : TypeId) (r : Option Operand) : vcQ P N ops (⟨d, .makeMap T r, ty, pos, af, none⟩ :: rest) e w KQ = QuietK P N ⟨d, .makeMap T r, ty, pos, af, none⟩ e w (vcQ P N ops rest) KQ := rfl
theorem qg_makeMap (T : TypeId) (r : Option Operand) (jj : Nat) (bb : Bool) : vcQ P N ops (⟨d, .makeMap T r, ty, pos, af, some (jj, bb)⟩ :: rest) e w KQ = vGuardL ops jj bb e (fun e => QuietK P N ⟨d, .makeMap T r, ty, pos, af, some (jj, bb)⟩ e w (vcQ P N ops rest) KQ) (fun e => vcQ P N ops rest (e.put d undef) w KQ) := by rw [← vGuardL_eq]; rfl
theorem o_lookup (T : TypeId) (x y : Operand) (c : Bool) : vcOps P N ops (⟨d, .lookup T x y c, ty, pos, af, none⟩ :: rest) e w K = MemK P N ⟨d, .lookup T x y c, ty, pos, af, none⟩ e w (vcOps P N ops rest) K := rfl
theorem og_lookup (T : TypeId) (x y : Operand) (c : Bool) (jj : Nat) (bb : Bool) : vcOps P N ops (⟨d, .lookup T x y c, ty, pos, af, some (jj, bb)⟩ :: rest) e w K = vGuardL ops jj bb e (fun e => MemK P N ⟨d, .lookup T x y c, ty, pos, af, some (jj, bb)⟩ e w (vcOps P N ops rest) K) (fun e => vcOps P N ops rest (e.put d undef) w K) := by rw [← vGuardL_eq]; rfl
theorem q_lookup (T : TypeId) (x y : Operand) (c : Bool) : vcQ P N ops (⟨d, .lookup T x y c, ty, pos, af, none⟩ :: rest) e w KQ = QuietK P N ⟨d, .lookup T x y c, ty, pos, af, none⟩ e w (vcQ P N ops rest) KQ := rfl
theorem qg_lookup (T : TypeId) (x y : Operand) (c : Bool) (jj : Nat) (bb : Bool) : vcQ P N ops (⟨d, .lookup T x y c, ty, pos, af, some (jj, bb)⟩ :: rest) e w KQ = vGuardL ops jj bb e (fun e => QuietK P N ⟨d, .lookup T x y c, ty, pos, af, some (jj, bb)⟩ e w (vcQ P N ops rest) KQ) (fun e => vcQ P N ops rest (e.put d undef) w KQ) := by rw [← vGuardL_eq]; rfl
theorem o_mapUpdate (T : TypeId) (x y z : Operand) : vcOps P N ops (⟨d, .mapUpdate T x y z, ty, pos, af, none⟩ :: rest) e w K = MemK P N ⟨d, .mapUpdate T x y z, ty, pos, af, none⟩ e w (vcOps P N ops rest) K := rfl
theorem og_mapUpdate (T : TypeId) (x y z : Operand) (jj : Nat) (bb : Bool) : vcOps P N ops (⟨d, .mapUpdate T x y z, ty, pos, af, some (jj, bb)⟩ :: rest) e w K = vGuardL ops jj bb e (fun e => MemK P N ⟨d, .mapUpdate T x y z, ty, pos, af, some (jj, bb)⟩ e w (vcOps P N ops rest) K) (fun e => vcOps P N ops rest (e.put d undef) w K) := by rw [← vGuardL_eq]; rfl
theorem q_mapUpdate (T : TypeId) (x y z : Operand) : vcQ P N ops (⟨d, .mapUpdate T x y z, ty, pos, af, none⟩ :: rest) e w KQ = QuietK P N ⟨d, .mapUpdate T x y z, ty, pos, af, none⟩ e w (vcQ P N ops rest) KQ := rfl
theorem qg_mapUpdate (T : TypeId) (x y z : Operand) (jj : Nat) (bb : Bool) : vcQ P N ops (⟨d, .mapUpdate T x y z, ty, pos, af, some (jj, bb)⟩ :: rest) e w KQ = vGuardL ops jj bb e (fun e => QuietK P N ⟨d, .mapUpdate T x y z, ty, pos, af, some (jj, bb)⟩ e w (vcQ P N ops rest) KQ) (fun e => vcQ P N ops rest (e.put d undef) w KQ) := by rw [← vGuardL_eq]; rfl
theorem o_range (T : TypeId) (x : Operand) : vcOps P N ops (⟨d, .range T x, ty, pos, af, none⟩ :: rest) e w K = MemK P N ⟨d, .range T x, ty, pos, af, none⟩ e w (vcOps P N ops rest) K := rfl
theorem og_range (T : TypeId) (x : Operand) (jj : Nat) (bb : Bool) : vcOps P N ops (⟨d, .range T x, ty, pos, af, some (jj, bb)⟩ :: rest) e w K = vGuardL ops jj bb e (fun e => MemK P N ⟨d, .range T x, ty, pos, af, some (jj, bb)⟩ e w (vcOps P N ops rest) K) (fun e => vcOps P N ops rest (e.put d undef) w K) := by rw [← vGuardL_eq]; rfl
theorem q_range (T : TypeId) (x : Operand) : vcQ P N ops (⟨d, .range T x, ty, pos, af, none⟩ :: rest) e w KQ = QuietK P N ⟨d, .range T x, ty, pos, af, none⟩ e w (vcQ P N ops rest) KQ := rfl
theorem qg_range (T : TypeId) (x : Operand) (jj : Nat) (bb : Bool) : vcQ P N ops (⟨d, .range T x, ty, pos, af, some (jj, bb)⟩ :: rest) e w KQ = vGuardL ops jj bb e (fun e => QuietK P N ⟨d, .range T x, ty, pos, af, some (jj, bb)⟩ e w (vcQ P N ops rest) KQ) (fun e => vcQ P N ops rest (e.put d undef) w KQ) := by rw [← vGuardL_eq]; rfl
theorem o_next (x : Operand) (s : Bool) : vcOps P N ops (⟨d, .next x s, ty, pos, af, none⟩ :: rest) e w K = MemK P N ⟨d, .next x s, ty, pos, af, none⟩ e w (vcOps P N ops rest) K := rfl
theorem og_next (x : Operand) (s : Bool) (jj : Nat) (bb : Bool) : vcOps P N ops (⟨d, .next x s, ty, pos, af, some (jj, bb)⟩ :: rest) e w K = vGuardL ops jj bb e (fun e => MemK P N ⟨d, .next x s, ty, pos, af, some (jj, bb)⟩ e w (vcOps P N ops rest) K) (fun e => vcOps P N ops rest (e.put d undef) w K) := by rw [← vGuardL_eq]; rfl
theorem q_next (x : Operand) (s : Bool) : vcQ P N ops (⟨d, .next x s, ty, pos, af, none⟩ :: rest) e w KQ = QuietK P N ⟨d, .next x s, ty, pos, af, none⟩ e w (vcQ P N ops rest) KQ := rfl
theorem qg_next (x : Operand) (s : Bool) (jj : Nat) (bb : Bool) : vcQ P N ops (⟨d, .next x s, ty, pos, af, some (jj, bb)⟩ :: rest) e w KQ = vGuardL ops jj bb e (fun e => QuietK P N ⟨d, .next x s, ty, pos, af, some (jj, bb)⟩ e w (vcQ P N ops rest) KQ) (fun e => vcQ P N ops rest (e.put d undef) w KQ) := by rw [← vGuardL_eq]; rfl
theorem o_entry (x : Operand) : vcOps P N ops (⟨d, .entry x, ty, pos, af, none⟩ :: rest) e w K = MemK P N ⟨d, .entry x, ty, pos, af, none⟩ e w (vcOps P N ops rest) K := rfl
theorem og_entry (x : Operand) (jj : Nat) (bb : Bool) : vcOps P N ops (⟨d, .entry x, ty, pos, af, some (jj, bb)⟩ :: rest) e w K = vGuardL ops jj bb e (fun e => MemK P N ⟨d, .entry x, ty, pos, af, some (jj, bb)⟩ e w (vcOps P N ops rest) K) (fun e => vcOps P N ops rest (e.put d undef) w K) := by rw [← vGuardL_eq]; rfl
theorem q_entry (x : Operand) : vcQ P N ops (⟨d, .entry x, ty, pos, af, none⟩ :: rest) e w KQ = QuietK P N ⟨d, .entry x, ty, pos, af, none⟩ e w (vcQ P N ops rest) KQ := rfl
theorem qg_entry (x : Operand) (jj : Nat) (bb : Bool) : vcQ P N ops (⟨d, .entry x, ty, pos, af, some (jj, bb)⟩ :: rest) e w KQ = vGuardL ops jj bb e (fun e => QuietK P N ⟨d, .entry x, ty, pos, af, some (jj, bb)⟩ e w (vcQ P N ops rest) KQ) (fun e => vcQ P N ops rest (e.put d undef) w KQ) := by rw [← vGuardL_eq]; rfl
theorem o_typeAssert (x : Operand) (T T' : TypeId) (c : Bool) : vcOps P N ops (⟨d, .typeAssert x T T' c, ty, pos, af, none⟩ :: rest) e w K = MemK P N ⟨d, .typeAssert x T T' c, ty, pos, af, none⟩ e w (vcOps P N ops rest) K := rfl
theorem og_typeAssert (x : Operand) (T T' : TypeId) (c : Bool) (jj : Nat) (bb : Bool) : vcOps P N ops (⟨d, .typeAssert x T T' c, ty, pos, af, some (jj, bb)⟩ :: rest) e w K = vGuardL ops jj bb e (fun e => MemK P N ⟨d, .typeAssert x T T' c, ty, pos, af, some (jj, bb)⟩ e w (vcOps P N ops rest) K) (fun e => vcOps P N ops rest (e.put d undef) w K) := by rw [← vGuardL_eq]; rfl
theorem q_typeAssert (x : Operand) (T T' : TypeId) (c : Bool) : vcQ P N ops (⟨d, .typeAssert x T T' c, ty, pos, af, none⟩ :: rest) e w KQ = QuietK P N ⟨d, .typeAssert x T T' c, ty, pos, af, none⟩ e w (vcQ P N ops rest) KQ := rfl
theorem qg_typeAssert (x : Operand) (T T' : TypeId) (c : Bool) (jj : Nat) (bb : Bool) : vcQ P N ops (⟨d, .typeAssert x T T' c, ty, pos, af, some (jj, bb)⟩ :: rest) e w KQ = vGuardL ops jj bb e (fun e => QuietK P N ⟨d, .typeAssert x T T' c, ty, pos, af, some (jj, bb)⟩ e w (vcQ P N ops rest) KQ) (fun e => vcQ P N ops rest (e.put d undef) w KQ) := by rw [← vGuardL_eq]; rfl
theorem o_defer (c : Call) : vcOps P N ops (⟨d, .defer c, ty, pos, af, none⟩ :: rest) e w K = MemK P N ⟨d, .defer c, ty, pos, af, none⟩ e w (vcOps P N ops rest) K := rfl
theorem og_defer (c : Call) (jj : Nat) (bb : Bool) : vcOps P N ops (⟨d, .defer c, ty, pos, af, some (jj, bb)⟩ :: rest) e w K = vGuardL ops jj bb e (fun e => MemK P N ⟨d, .defer c, ty, pos, af, some (jj, bb)⟩ e w (vcOps P N ops rest) K) (fun e => vcOps P N ops rest (e.put d undef) w K) := by rw [← vGuardL_eq]; rfl
theorem q_defer (c : Call) : vcQ P N ops (⟨d, .defer c, ty, pos, af, none⟩ :: rest) e w KQ = QuietK P N ⟨d, .defer c, ty, pos, af, none⟩ e w (vcQ P N ops rest) KQ := rfl
theorem qg_defer (c : Call) (jj : Nat) (bb : Bool) : vcQ P N ops (⟨d, .defer c, ty, pos, af, some (jj, bb)⟩ :: rest) e w KQ = vGuardL ops jj bb e (fun e => QuietK P N ⟨d, .defer c, ty, pos, af, some (jj, bb)⟩ e w (vcQ P N ops rest) KQ) (fun e => vcQ P N ops rest (e.put d undef) w KQ) := by rw [← vGuardL_eq]; rfl
theorem o_panic (x : Operand) : vcOps P N ops (⟨d, .panic x, ty, pos, af, none⟩ :: rest) e w K = MemK P N ⟨d, .panic x, ty, pos, af, none⟩ e w (vcOps P N ops rest) K := rfl
theorem og_panic (x : Operand) (jj : Nat) (bb : Bool) : vcOps P N ops (⟨d, .panic x, ty, pos, af, some (jj, bb)⟩ :: rest) e w K = vGuardL ops jj bb e (fun e => MemK P N ⟨d, .panic x, ty, pos, af, some (jj, bb)⟩ e w (vcOps P N ops rest) K) (fun e => vcOps P N ops rest (e.put d undef) w K) := by rw [← vGuardL_eq]; rfl
theorem q_panic (x : Operand) : vcQ P N ops (⟨d, .panic x, ty, pos, af, none⟩ :: rest) e w KQ = QuietK P N ⟨d, .panic x, ty, pos, af, none⟩ e w (vcQ P N ops rest) KQ := rfl
theorem qg_panic (x : Operand) (jj : Nat) (bb : Bool) : vcQ P N ops (⟨d, .panic x, ty, pos, af, some (jj, bb)⟩ :: rest) e w KQ = vGuardL ops jj bb e (fun e => QuietK P N ⟨d, .panic x, ty, pos, af, some (jj, bb)⟩ e w (vcQ P N ops rest) KQ) (fun e => vcQ P N ops rest (e.put d undef) w KQ) := by rw [← vGuardL_eq]; rfl
theorem put_some (v : Value) : Env.put e (some t) v = (t, v) :: e := rfl
theorem put_none (v : Value) : Env.put e none v = e := rfl
theorem a_tmp : arg e (.tmp t) KV = argT e t KV := rfl
theorem a_const (v : Value) : arg e (.const v) KV = KV v := rfl
theorem a_global (g : Nat) : arg e (.global g) KV = KV (.pointer (some ⟨g, 0, none⟩)) := rfl
theorem a_func (f : Nat) : arg e (.func f) KV = KV (.func (.func f) #[] #[]) := rfl
theorem a_hit (v : Value) : argT ((t, v) :: e) t KV = KV v := by simp [argT]
theorem a_cons (s : Nat) (v : Value) : argT ((s, v) :: e) t KV = if t = s then KV v else argT e t KV := rfl
theorem al_nil {KL : List Value → Prop} : argL e [] KL = KL [] := rfl
theorem al_cons {KL : List Value → Prop} (x : Operand) (xs : List Operand) : argL e (x :: xs) KL = arg e x fun v => argL e xs fun vs => KL (v :: vs) := rfl
theorem al_arr {KL : List Value → Prop} (xs : List Operand) : argL e (List.toArray xs).toList KL = argL e xs KL := rfl
theorem vp_arr {KL : List (Nat × Value) → Prop} (xs : List (Nat × Operand)) : vParts e (List.toArray xs).toList KL = vParts e xs KL := rfl
theorem ao_none {KO : Option Value → Prop} : argO e none KO = KO none := rfl
theorem ao_some {KO : Option Value → Prop} (x : Operand) : argO e (some x) KO = arg e x fun v => KO (some v) := rfl
theorem vp_nil {KL : List (Nat × Value) → Prop} : vParts e [] KL = KL [] := rfl
theorem vp_cons {KL : List (Nat × Value) → Prop} (i : Nat) (x : Operand) (xs : List (Nat × Operand)) : vParts e ((i, x) :: xs) KL = arg e x fun v => vParts e xs fun vs => KL ((i, v) :: vs) := rfl
theorem pk_t {A B : Prop} : vPick (.bool true) A B = A := rfl
theorem pk_f {A B : Prop} : vPick (.bool false) A B = B := rfl
theorem lenl (T : TypeId) (ts : List TypeId) (v : Value) : vLenL P (List.toArray (T :: ts))[0]? [v] KV = vLen P T v KV := by simp [vLenL]
theorem b_add (T : TypeId) (x y : Operand) (k : IntKind) (a b : Int) : vBinO P .add T x y (.int k a) (.int k b) w KV = vWrap k (a + b) KV := by simp [vBinO, vBin, vInt]
theorem b_sub (T : TypeId) (x y : Operand) (k : IntKind) (a b : Int) : vBinO P .sub T x y (.int k a) (.int k b) w KV = vWrap k (a - b) KV := by simp [vBinO, vBin, vInt]
theorem b_mul (T : TypeId) (x y : Operand) (k : IntKind) (a b : Int) : vBinO P .mul T x y (.int k a) (.int k b) w KV = vWrap k (a * b) KV := by simp [vBinO, vBin, vInt]
theorem b_quo (T : TypeId) (x y : Operand) (k : IntKind) (a b : Int) : vBinO P .quo T x y (.int k a) (.int k b) w KV = (0 ≤ a ∧ 0 < b ∧ vWrap k (a / b) KV) := by simp [vBinO, vBin, vInt]
theorem b_rem (T : TypeId) (x y : Operand) (k : IntKind) (a b : Int) : vBinO P .rem T x y (.int k a) (.int k b) w KV = (0 ≤ a ∧ 0 < b ∧ KV (.int k (a % b))) := by simp [vBinO, vBin, vInt]
theorem b_and (T : TypeId) (x y : Operand) (k : IntKind) (a b : Int) : vBinO P .and T x y (.int k a) (.int k b) w KV = (Fit0 k a ∧ Fit0 k b ∧ KV (.int k ((a.toNat &&& b.toNat : Nat) : Int))) := by simp [vBinO, vBin, vInt, vBit]
theorem b_or (T : TypeId) (x y : Operand) (k : IntKind) (a b : Int) : vBinO P .or T x y (.int k a) (.int k b) w KV = (Fit0 k a ∧ Fit0 k b ∧ KV (.int k ((a.toNat ||| b.toNat : Nat) : Int))) := by simp [vBinO, vBin, vInt, vBit]
theorem b_xor (T : TypeId) (x y : Operand) (k : IntKind) (a b : Int) : vBinO P .xor T x y (.int k a) (.int k b) w KV = (Fit0 k a ∧ Fit0 k b ∧ KV (.int k ((a.toNat ^^^ b.toNat : Nat) : Int))) := by simp [vBinO, vBin, vInt, vBit]
theorem b_eql (T : TypeId) (x y : Operand) (k : IntKind) (a b : Int) : vBinO P .eql T x y (.int k a) (.int k b) w KV = KV (.bool (decide (a = b))) := by simp [vBinO, vBin, vInt]
theorem b_neq (T : TypeId) (x y : Operand) (k : IntKind) (a b : Int) : vBinO P .neq T x y (.int k a) (.int k b) w KV = KV (.bool (decide (¬ a = b))) := by simp [vBinO, vBin, vInt]
theorem b_lss (T : TypeId) (x y : Operand) (k : IntKind) (a b : Int) : vBinO P .lss T x y (.int k a) (.int k b) w KV = KV (.bool (decide (a < b))) := by simp [vBinO, vBin, vInt]
theorem b_leq (T : TypeId) (x y : Operand) (k : IntKind) (a b : Int) : vBinO P .leq T x y (.int k a) (.int k b) w KV = KV (.bool (decide (a ≤ b))) := by simp [vBinO, vBin, vInt]
theorem b_gtr (T : TypeId) (x y : Operand) (k : IntKind) (a b : Int) : vBinO P .gtr T x y (.int k a) (.int k b) w KV = KV (.bool (decide (b < a))) := by simp [vBinO, vBin, vInt]
theorem b_geq (T : TypeId) (x y : Operand) (k : IntKind) (a b : Int) : vBinO P .geq T x y (.int k a) (.int k b) w KV = KV (.bool (decide (b ≤ a))) := by simp [vBinO, vBin, vInt]
theorem b_shl (T : TypeId) (x y : Operand) (k k' : IntKind) (a b : Int) : vBinO P .shl T x y (.int k a) (.int k' b) w KV = (0 ≤ b ∧ vWrap k (a * 2 ^ shN k b) KV) := by simp [vBinO, vBin]
theorem b_shr (T : TypeId) (x y : Operand) (k k' : IntKind) (a b : Int) : vBinO P .shr T x y (.int k a) (.int k' b) w KV = (0 ≤ b ∧ KV (.int k (a / 2 ^ shN k b))) := by simp [vBinO, vBin]
theorem bs_add (T : TypeId) (x y : Operand) (s u : ByteArray) : vBinO P .add T x y (.string s) (.string u) w KV = (((toL s).length + (toL u).length : Int) ≤ 9223372036854775807 ∧ KV (Str (toL s ++ toL u))) := by simp [vBinO, vBin, vStr]
theorem bs_eql (T : TypeId) (x y : Operand) (s u : ByteArray) : vBinO P .eql T x y (.string s) (.string u) w KV = KV (.bool (decide (toL s = toL u))) := by simp [vBinO, vBin, vStr]
theorem bs_neq (T : TypeId) (x y : Operand) (s u : ByteArray) : vBinO P .neq T x y (.string s) (.string u) w KV = KV (.bool (decide (¬ toL s = toL u))) := by simp [vBinO, vBin, vStr]
theorem bs_lss (T : TypeId) (x y : Operand) (s u : ByteArray) : vBinO P .lss T x y (.string s) (.string u) w KV = KV (.bool (Op.bytesLess (toL s) (toL u))) := by simp [vBinO, vBin, vStr]
theorem bs_leq (T : TypeId) (x y : Operand) (s u : ByteArray) : vBinO P .leq T x y (.string s) (.string u) w KV = KV (.bool (!Op.bytesLess (toL u) (toL s))) := by simp [vBinO, vBin, vStr]
theorem bs_gtr (T : TypeId) (x y : Operand) (s u : ByteArray) : vBinO P .gtr T x y (.string s) (.string u) w KV = KV (.bool (Op.bytesLess (toL u) (toL s))) := by simp [vBinO, vBin, vStr]
theorem bs_geq (T : TypeId) (x y : Operand) (s u : ByteArray) : vBinO P .geq T x y (.string s) (.string u) w KV = KV (.bool (!Op.bytesLess (toL s) (toL u))) := by simp [vBinO, vBin, vStr]
theorem bb_eql (T : TypeId) (x y : Operand) (a b : Bool) (h : P.underlying T = some .bool) : vBinO P .eql T x y (.bool a) (.bool b) w KV = KV (.bool (decide (a = b))) := by simp [vBinO, vBin, h]
theorem bb_neq (T : TypeId) (x y : Operand) (a b : Bool) (h : P.underlying T = some .bool) : vBinO P .neq T x y (.bool a) (.bool b) w KV = KV (.bool (decide (¬ a = b))) := by simp [vBinO, vBin, h]
theorem w_i64 (n : Int) : vWrap .i64 n KV = (I64 n ∧ KV (.int .i64 n)) := rfl
theorem w_u8 (n : Int) : vWrap .u8 n KV = KV (.int .u8 (n % 256)) := rfl
theorem w_u16 (n : Int) : vWrap .u16 n KV = KV (.int .u16 (n % 65536)) := rfl
theorem w_u32 (n : Int) : vWrap .u32 n KV = KV (.int .u32 (n % 4294967296)) := rfl
theorem w_u64 (n : Int) : vWrap .u64 n KV = KV (.int .u64 (n % 18446744073709551616)) := rfl
theorem u_not (b : Bool) : vUn .not (.bool b) KV = KV (.bool (!b)) := rfl
theorem u_neg (k : IntKind) (n : Int) : vUn .neg (.int k n) KV = vWrap k (-n) KV := rfl
theorem u_x32 (n : Int) : vUn .xor (.int .u32 n) KV = ((0 ≤ n ∧ n ≤ 4294967295) ∧ KV (.int .u32 (4294967295 - n))) := rfl
theorem n_ptr (a : Addr) : vNil (.pointer (some a)) KV = KV (.pointer (some a)) := rfl
theorem n_fn (f : Nat) (p c : Array Value) : vNil (.func (.func f) p c) KV = KV (.func (.func f) p c) := rfl
theorem n_if (T : Nat) (v : Value) : vNil (.iface T v) KV = KV (.iface T v) := rfl
theorem mn2 (k k' : IntKind) (x y : Int) : vMin [.int k x, .int k' y] KV = KV (.int k (min x y)) := rfl
theorem mn3 (k k' k'' : IntKind) (x y z : Int) : vMin [.int k x, .int k' y, .int k'' z] KV = KV (.int k (min (min x y) z)) := rfl
theorem mx2 (k k' : IntKind) (x y : Int) : vMax [.int k x, .int k' y] KV = KV (.int k (max x y)) := rfl
theorem mx3 (k k' k'' : IntKind) (x y z : Int) : vMax [.int k x, .int k' y, .int k'' z] KV = KV (.int k (max (max x y) z)) := rfl
theorem ln_str (T : TypeId) (s : ByteArray) (h : P.underlying T = some .string) : vLen P T (.string s) KV = KV (.int .i64 (toL s).length) := by simp [vLen, h]
theorem ln_sl (T E : TypeId) (a : Option Addr) (n c : Nat) (h : P.underlying T = some (.slice E)) : vLen P T (.slice a n c) KV = KV (.int .i64 n) := by simp [vLen, h]
theorem ix_str (T : TypeId) (s : ByteArray) (k : IntKind) (n : Int) (h : P.underlying T = some .string) : vIndex P T (.string s) (.int k n) KV = ((0 ≤ n ∧ n < (toL s).length) ∧ KV (.int .u8 ((toL s).getD n.toNat 0).toNat)) := by simp [vIndex, h]
theorem ss_nn (T : TypeId) (s : ByteArray) (h : P.underlying T = some .string) : vSlice P T (.string s) none none KV = KV (.string s) := by simp [vSlice, h]
theorem ss_ln (T : TypeId) (s : ByteArray) (k : IntKind) (l : Int) (h : P.underlying T = some .string) : vSlice P T (.string s) (some (.int k l)) none KV = ((0 ≤ l ∧ l ≤ (toL s).length) ∧ KV (Str ((toL s).drop l.toNat))) := by simp [vSlice, h]
theorem ss_nh (T : TypeId) (s : ByteArray) (k : IntKind) (l : Int) (h : P.underlying T = some .string) : vSlice P T (.string s) none (some (.int k l)) KV = ((0 ≤ l ∧ l ≤ (toL s).length) ∧ KV (Str ((toL s).take l.toNat))) := by simp [vSlice, h]
theorem ss_lh (T : TypeId) (s : ByteArray) (k k' : IntKind) (l m : Int) (h : P.underlying T = some .string) : vSlice P T (.string s) (some (.int k l)) (some (.int k' m)) KV = ((0 ≤ l ∧ l ≤ m ∧ m ≤ (toL s).length) ∧ KV (Str (((toL s).drop l.toNat).take (m.toNat - l.toNat)))) := by simp [vSlice, h]
theorem sl_nn (T E : TypeId) (a : Option Addr) (n c z : Nat) (h : P.underlying T = some (.slice E)) (hz : P.szo E = some z) : vSlice P T (.slice a n c) none none KV = (n ≤ c ∧ KV (.slice a n c)) := by simp [vSlice, h, hz]
theorem sl_ln (T E : TypeId) (a : Option Addr) (n c z : Nat) (k : IntKind) (l : Int) (h : P.underlying T = some (.slice E)) (hz : P.szo E = some z) : vSlice P T (.slice a n c) (some (.int k l)) none KV = ((0 ≤ l ∧ l ≤ n ∧ n ≤ c) ∧ KV (.slice (if c = l.toNat then a else a.map (·.add (l.toNat * z))) (n - l.toNat) (c - l.toNat))) := by simp [vSlice, h, hz]
theorem sl_nh (T E : TypeId) (a : Option Addr) (n c z : Nat) (k : IntKind) (l : Int) (h : P.underlying T = some (.slice E)) (hz : P.szo E = some z) : vSlice P T (.slice a n c) none (some (.int k l)) KV = ((0 ≤ l ∧ l ≤ c) ∧ KV (.slice a l.toNat c)) := by simp [vSlice, h, hz]
theorem sl_lh (T E : TypeId) (a : Option Addr) (n c z : Nat) (k k' : IntKind) (l m : Int) (h : P.underlying T = some (.slice E)) (hz : P.szo E = some z) : vSlice P T (.slice a n c) (some (.int k l)) (some (.int k' m)) KV = ((0 ≤ l ∧ l ≤ m ∧ m ≤ c) ∧ KV (.slice (if c = l.toNat then a else a.map (·.add (l.toNat * z))) (m.toNat - l.toNat) (c - l.toNat))) := by simp [vSlice, h, hz]
theorem cv_int (s d : TypeId) (ds : TypeDesc) (k k' : IntKind) (n : Int) (h : P.underlying s = some ds) (h' : P.underlying d = some (.int k)) : vConv P s d (.int k' n) w KV = vWrap k n KV := by simp [vConv, h, h']
theorem cv_str (s d E : TypeId) (a : Option Addr) (n c : Nat) (h : P.underlying s = some (.slice E)) (h' : P.underlying d = some .string) (h'' : P.underlying E = some (.int .u8)) : vConv P s d (.slice a n c) w KV = ∃ l, ReadsBytes w a n l ∧ KV (Str l) := by simp [vConv, h, h', h'']
theorem ia_sl (T E : TypeId) (a : Addr) (n c z : Nat) (k : IntKind) (i : Int) (h : P.underlying T = some (.slice E)) (hz : P.szo E = some z) : vIndexAddr P T (.slice (some a) n c) (.int k i) KV = ((0 ≤ i ∧ i < n) ∧ KV (.pointer (some (a.add (i.toNat * z))))) := by simp [vIndexAddr, h, hz]
theorem ia_ar (T E : TypeId) (a : Addr) (n z : Nat) (k : IntKind) (i : Int) (h : P.underlying T = some (.array n E)) (hz : P.szo E = some z) : vIndexAddr P T (.pointer (some a)) (.int k i) KV = ((0 ≤ i ∧ i < n) ∧ KV (.pointer (some (a.add (i.toNat * z))))) := by simp [vIndexAddr, h, hz]
theorem fa_st (S f : Nat) (a : Addr) {fields : Array Field} {fd : Field} {m : Nat} (h : P.underlying S = some (.struct fields)) (hf : fields[f]? = some fd) (hz : P.szo fd.type = some (m + 1)) : vFieldAddr P S (.pointer (some a)) f KV = KV (.pointer (some (a.add fd.offset))) := by simp [vFieldAddr, h, hf, hz]
theorem ld_int (T : TypeId) (a : Addr) (k : IntKind) (h : P.underlying T = some (.int k)) : vLoad P T (.pointer (some a)) w KV = ∃ v, w.cell? a = some v ∧ KV v := by simp [vLoad, h]
theorem ld_bool (T : TypeId) (a : Addr) (h : P.underlying T = some .bool) : vLoad P T (.pointer (some a)) w KV = ∃ v, w.cell? a = some v ∧ KV v := by simp [vLoad, h]
theorem ld_str (T : TypeId) (a : Addr) (h : P.underlying T = some .string) : vLoad P T (.pointer (some a)) w KV = ∃ v, w.cell? a = some v ∧ KV v := by simp [vLoad, h]
theorem ld_sl (T E : TypeId) (a : Addr) (h : P.underlying T = some (.slice E)) : vLoad P T (.pointer (some a)) w KV = ∃ v, w.cell? a = some v ∧ KV v := by simp [vLoad, h]
theorem ld_ptr (T E : TypeId) (a : Addr) (h : P.underlying T = some (.pointer E)) : vLoad P T (.pointer (some a)) w KV = ∃ v, w.cell? a = some v ∧ KV v := by simp [vLoad, h]
theorem ld_fn (T : TypeId) (ps rs : Array TypeId) (vr : Bool) (a : Addr) (h : P.underlying T = some (.func ps rs vr)) : vLoad P T (.pointer (some a)) w KV = ∃ v, w.cell? a = some v ∧ KV v := by simp [vLoad, h]
theorem ld_st (T n : TypeId) (a : Addr) (fs : Array Field) (h : P.underlying T = some (.struct fs)) (hz : P.szo T = some n) : vLoad P T (.pointer (some a)) w KV = ∃ cs : List Value, (cs.length = n ∧ Reads w a cs) ∧ KV (.agg cs.toArray) := by simp [vLoad, h, hz]
theorem ld_ar (T n m E : TypeId) (a : Addr) (h : P.underlying T = some (.array m E)) (hz : P.szo T = some n) : vLoad P T (.pointer (some a)) w KV = ∃ cs : List Value, (cs.length = n ∧ Reads w a cs) ∧ KV (.agg cs.toArray) := by simp [vLoad, h, hz]
end
theorem toL_mk (l : List UInt8) : toL (ByteArray.mk l.toArray) = l := by simp [toL]
attribute [go_sem ↓] sk_put sk_putn at_put at_putn st_put st_putn o_nilS q_nilS gl_zero gl_succ gv_t gv_f sk_nil sk_cons st_nil st_hit st_cons gv_undef gv_undef' gB_tt gB_ff gB_tf gB_ft gB_dt gB_df o_move og_move q_move qg_move o_assign og_assign q_assign qg_assign o_pick og_pick q_pick qg_pick o_binOp og_binOp q_binOp qg_binOp o_unOp og_unOp q_unOp qg_unOp o_convert o_convertM og_convert q_convert q_convertM qg_convert o_slice og_slice q_slice qg_slice o_fieldAddr og_fieldAddr q_fieldAddr qg_fieldAddr o_field og_field q_field qg_field o_indexAddr og_indexAddr q_indexAddr qg_indexAddr o_index og_index q_index qg_index o_extract og_extract q_extract qg_extract o_makeInterface og_makeInterface q_makeInterface qg_makeInterface o_makeFunc og_makeFunc q_makeFunc qg_makeFunc o_build og_build q_build qg_build o_load og_load q_load qg_load o_nilCheck og_nilCheck q_nilCheck qg_nilCheck o_len og_len q_len qg_len o_min og_min q_min qg_min o_max og_max q_max qg_max o_append og_append q_append qg_append o_copy og_copy q_copy qg_copy o_recover og_recover q_recover qg_recover o_delete og_delete q_delete qg_delete o_cap og_cap q_cap qg_cap o_callv og_callv q_callv qg_callv o_invoke og_invoke q_invoke qg_invoke o_alloc og_alloc q_alloc qg_alloc o_box og_box q_box qg_box o_buildSlice og_buildSlice q_buildSlice qg_buildSlice o_store og_store q_store qg_store o_makeSlice og_makeSlice q_makeSlice qg_makeSlice o_makeMap og_makeMap q_makeMap qg_makeMap o_lookup og_lookup q_lookup qg_lookup o_mapUpdate og_mapUpdate q_mapUpdate qg_mapUpdate o_range og_range q_range qg_range o_next og_next q_next qg_next o_entry og_entry q_entry qg_entry o_typeAssert og_typeAssert q_typeAssert qg_typeAssert o_defer og_defer q_defer qg_defer o_panic og_panic q_panic qg_panic put_some put_none a_tmp a_const a_global a_func a_hit a_cons al_nil al_cons al_arr vp_arr ao_none ao_some vp_nil vp_cons pk_t pk_f lenl b_add b_sub b_mul b_quo b_rem b_and b_or b_xor b_eql b_neq b_lss b_leq b_gtr b_geq b_shl b_shr bs_add bs_eql bs_neq bs_lss bs_leq bs_gtr bs_geq w_i64 w_u8 w_u16 w_u32 w_u64 u_not u_neg u_x32 n_ptr n_fn n_if mn2 mn3 mx2 mx3
attribute [go_sem] toL_mk Nat.mul_one Nat.zero_add List.getElem_toArray List.getElem_cons_zero List.getElem_cons_succ
end Go.Eng
