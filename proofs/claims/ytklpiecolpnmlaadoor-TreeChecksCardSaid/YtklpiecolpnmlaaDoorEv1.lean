/- The evaluator: tries, strictness, the relation of its values to the model's. -/
import Derived.Test.YtklpiecolpnmlaaDoorEv0
namespace Go.Ev
open Go Go.Eng
set_option linter.unusedVariables false
set_option linter.constructorNameAsVariable false

theorem Tr.get_e {α : Type} (k : Nat) : (Tr.e : Tr α).get k = none := rfl
theorem Tr.get_z {α : Type} (v : Option α) (l r : Tr α) : (Tr.n v l r).get 0 = v := rfl
theorem Tr.get_s {α : Type} (v : Option α) (l r : Tr α) (k : Nat) : (Tr.n v l r).get (k + 1) = if k % 2 = 0 then l.get (k / 2) else r.get (k / 2) := by
  show (Bool.rec (r.get (k / 2)) (l.get (k / 2)) (Nat.beq (k % 2) 0) : Option α) = _
  cases h : Nat.beq (k % 2) 0 with
  | true => rw [if_pos (Nat.eq_of_beq_eq_true h)]
  | false => rw [if_neg (Nat.ne_of_beq_eq_false h)]

theorem Tr.put_spec {α : Type} : ∀ (f : Nat) (t : Tr α) (k : Nat) (x : Option α) (c : Tr α → Bool), Tr.put f t k x c = true → ∃ t' : Tr α, c t' = true ∧ ∀ j, t'.get j = if j = k then x else t.get j := by
  intro f
  induction f with
  | zero => intro t k x c h; cases h
  | succ f ih =>
    intro t k x c h
    have key : ∀ (v : Option α) (l r : Tr α), (Nat.rec (motive := fun _ => Bool) (c (.n x l r)) (fun k' _ => Bool.rec (Tr.put f r (k' / 2) x fun r => c (.n v l r)) (Tr.put f l (k' / 2) x fun l => c (.n v l r)) (Nat.beq (k' % 2) 0)) k) = true →
        (∀ j, t.get j = (Tr.n v l r).get j) → ∃ t' : Tr α, c t' = true ∧ ∀ j, t'.get j = if j = k then x else t.get j := by
      intro v l r h ht
      cases k with
      | zero =>
        refine ⟨_, h, fun j => ?_⟩
        rw [ht]
        cases j with
        | zero => rfl
        | succ j => rw [if_neg (by omega), Tr.get_s, Tr.get_s]
      | succ k =>
        have h : (Bool.rec (Tr.put f r (k / 2) x fun r => c (.n v l r)) (Tr.put f l (k / 2) x fun l => c (.n v l r)) (Nat.beq (k % 2) 0) : Bool) = true := h
        cases hb : Nat.beq (k % 2) 0 with
        | true =>
          rw [hb] at h
          have hb := Nat.eq_of_beq_eq_true hb
          obtain ⟨l', hc, hl⟩ := ih l (k / 2) x _ h
          refine ⟨_, hc, fun j => ?_⟩
          rw [ht]
          cases j with
          | zero => rw [if_neg (by omega)]; rfl
          | succ j =>
            rw [Tr.get_s, Tr.get_s]
            by_cases hj : j % 2 = 0
            · rw [if_pos hj, if_pos hj, hl]
              by_cases h2 : j / 2 = k / 2
              · rw [if_pos h2, if_pos (by omega)]
              · rw [if_neg h2, if_neg (by omega)]
            · rw [if_neg hj, if_neg hj, if_neg (by omega)]
        | false =>
          rw [hb] at h
          have hb := Nat.ne_of_beq_eq_false hb
          obtain ⟨l', hc, hl⟩ := ih r (k / 2) x _ h
          refine ⟨_, hc, fun j => ?_⟩
          rw [ht]
          cases j with
          | zero => rw [if_neg (by omega)]; rfl
          | succ j =>
            rw [Tr.get_s, Tr.get_s]
            by_cases hj : j % 2 = 0
            · rw [if_pos hj, if_pos hj, if_neg (by omega)]
            · rw [if_neg hj, if_neg hj, hl]
              by_cases h2 : j / 2 = k / 2
              · rw [if_pos h2, if_pos (by omega)]
              · rw [if_neg h2, if_neg (by omega)]
    cases t with
    | e =>
      refine key none .e .e h fun j => ?_
      cases j with
      | zero => rfl
      | succ j => rw [Tr.get_s]; split <;> rfl
    | n v l r => exact key v l r h fun _ => rfl

theorem forceN_eq (n : Nat) (k : Nat → Bool) : forceN n k = k n := by cases n <;> rfl
theorem forceI_eq (n : Int) (k : Int → Bool) : forceI n k = k n := by
  cases n with
  | ofNat m => show forceN m (fun m => k (.ofNat m)) = _; rw [forceN_eq]
  | negSucc m => show forceN m (fun m => k (.negSucc m)) = _; rw [forceN_eq]
theorem forceB_eq (b : Bool) (k : Bool → Bool) : forceB b k = k b := by cases b <;> rfl
theorem forceL_eq (l : List Nat) : ∀ k : List Nat → Bool, forceL l k = k l := by
  induction l with
  | nil => intro k; rfl
  | cons a l ih => intro k; show forceN a (fun a => forceL l fun l => k (a :: l)) = _; rw [forceN_eq]; exact ih _
theorem lenL_eq {α : Type} (l : List α) (k : Nat → Bool) : lenL l k = k l.length := by
  have : (List.rec 0 (fun _ _ n => Nat.succ n) l : Nat) = l.length := by
    induction l with
    | nil => rfl
    | cons a l ih => exact congrArg Nat.succ ih
  rw [lenL, forceN_eq, this]
theorem getL_eq {α : Type} (l : List α) : ∀ k, getL l k = l[k]? := by
  induction l with
  | nil => intro k; rfl
  | cons a l ih => intro k; cases k with
    | zero => rfl
    | succ k => exact ih k
theorem brec_t {a b c : Bool} (h : (Bool.rec a b c : Bool) = true) : (c = true ∧ b = true) ∨ (c = false ∧ a = true) := by cases c <;> simp_all
theorem brec_f {b c : Bool} (h : (Bool.rec false b c : Bool) = true) : c = true ∧ b = true := by cases c <;> simp_all
theorem orec_f {α : Type} {o : Option α} {f : α → Bool} (h : (Option.rec false f o : Bool) = true) : ∃ v, o = some v ∧ f v = true := by
  cases o with
  | none => cases h
  | some v => exact ⟨v, rfl, h⟩
theorem ltI_eq (a b : Int) : ltI a b = decide (a < b) := by
  cases a <;> cases b <;> simp only [ltI] <;> (rw [Bool.eq_iff_iff]; simp [Nat.blt_eq]) <;> omega
theorem eqI_eq (a b : Int) : eqI a b = decide (a = b) := by
  cases a <;> cases b <;> simp only [eqI] <;> (rw [Bool.eq_iff_iff]; simp) <;> omega
theorem fitsI64_eq {n : Int} (h : fitsI64 n = true) : -9223372036854775808 ≤ n ∧ n ≤ 9223372036854775807 := by
  cases n with
  | ofNat m => have h : m ≤ 9223372036854775807 := Nat.le_of_ble_eq_true h; simp only [Int.ofNat_eq_natCast]; omega
  | negSucc m => have h : m ≤ 9223372036854775807 := Nat.le_of_ble_eq_true h; omega

/-! ### The relation -/

/-- Which block stands for which number, and how many cells of capacity it has. -/
abbrev Mp := Nat → Option (Nat × Nat)
def Le (s t : Mp) : Prop := ∀ i p, s i = some p → t i = some p
theorem Le.refl (s : Mp) : Le s s := fun _ _ h => h
theorem Le.trans {a b c : Mp} (h : Le a b) (k : Le b c) : Le a c := fun i p hp => k i p (h i p hp)

def strV (l : List Nat) : Value := Str (l.map UInt8.ofNat)

mutual
inductive Rel (s : Mp) : AV → Value → Prop
  | int (k : IntKind) (n : Int) : Rel s (.int k n) (.int k n)
  | bool (b : Bool) : Rel s (.bool b) (.bool b)
  | str (l : List Nat) (h : ∀ x ∈ l, x < 256) : Rel s (.str l) (strV l)
  | nilp : Rel s .nilp (.pointer none)
  | ptr {i o b c : Nat} (h : s i = some (b, c)) : Rel s (.ptr i o) (.pointer (some ⟨b, o, none⟩))
  | nils : Rel s .nils (.slice none 0 0)
  | em (a : Addr) (c : Nat) : Rel s .em (.slice (some a) 0 c)
  | sl {i o n cap b c : Nat} (h : s i = some (b, c)) (hn : n ≤ cap) : Rel s (.sl i o n cap) (.slice (some ⟨b, o, none⟩) n cap)
  | os {i n b c : Nat} (h : s i = some (b, c)) (hn : n ≤ c) : Rel s (.os i n) (.slice (some ⟨b, 0, none⟩) n c)
  | su {i o n b c c' : Nat} (h : s i = some (b, c)) (hn : n ≤ c') : Rel s (.su i o n) (.slice (some ⟨b, o, none⟩) n c')
  | nilf : Rel s .nilf .nilFunc
  | fn {f : FuncId} {l m : List AV} {l' m' : List Value} (h : RelL s l l') (k : RelL s m m') : Rel s (.fn f l m) (.func (.func f) l'.toArray m'.toArray)
  | agg {l : List AV} {l' : List Value} (h : RelL s l l') : Rel s (.agg l) (.agg l'.toArray)
  | tup {l : List AV} {l' : List Value} (h : RelL s l l') : Rel s (.tup l) (.tuple l'.toArray)
  | nili : Rel s .nili .nilIface
  | ifc {t : TypeId} {v : AV} {x : Value} (h : Rel s v x) : Rel s (.ifc t v) (.iface t x)
  | yld {i d c : Nat} (h : s i = some (d, c)) : Rel s (.yld i) (.func (.yield (d + 1)) #[] #[])
inductive RelL (s : Mp) : List AV → List Value → Prop
  | nil : RelL s [] []
  | cons {a : AV} {v : Value} {l : List AV} {m : List Value} (h : Rel s a v) (k : RelL s l m) : RelL s (a :: l) (v :: m)
end

mutual
theorem Rel.mono {s t : Mp} (hs : Le s t) : ∀ {a : AV} {v : Value}, Rel s a v → Rel t a v
  | _, _, .int k n => .int k n
  | _, _, .bool b => .bool b
  | _, _, .str l h => .str l h
  | _, _, .nilp => .nilp
  | _, _, .ptr h => .ptr (hs _ _ h)
  | _, _, .nils => .nils
  | _, _, .em a c => .em a c
  | _, _, .sl h hn => .sl (hs _ _ h) hn
  | _, _, .os h hn => .os (hs _ _ h) hn
  | _, _, .su h hn => .su (hs _ _ h) hn
  | _, _, .nilf => .nilf
  | _, _, .fn h k => .fn (h.mono hs) (k.mono hs)
  | _, _, .agg h => .agg (h.mono hs)
  | _, _, .tup h => .tup (h.mono hs)
  | _, _, .nili => .nili
  | _, _, .ifc h => .ifc (h.mono hs)
  | _, _, .yld h => .yld (hs _ _ h)
theorem RelL.mono {s t : Mp} (hs : Le s t) : ∀ {l : List AV} {m : List Value}, RelL s l m → RelL t l m
  | _, _, .nil => .nil
  | _, _, .cons h k => .cons (h.mono hs) (k.mono hs)
end

theorem RelL.length {s : Mp} : ∀ {l : List AV} {m : List Value}, RelL s l m → l.length = m.length := by
  intro l
  induction l with
  | nil => intro m h; cases h; rfl
  | cons a l ih => intro m h; cases h with | cons h k => simp [ih k]
theorem RelL.get {s : Mp} : ∀ {l : List AV} {m : List Value}, RelL s l m → ∀ (i : Nat) (a : AV), l[i]? = some a → ∃ v, m[i]? = some v ∧ Rel s a v := by
  intro l
  induction l with
  | nil => intro m h i a hi; cases hi
  | cons x l ih => intro m h i a hi; cases h with
    | cons h k => cases i with
      | zero => cases hi; exact ⟨_, rfl, h⟩
      | succ i => exact ih k i a hi
theorem RelL.append {s : Mp} : ∀ {l : List AV} {m : List Value} {l' : List AV} {m' : List Value}, RelL s l m → RelL s l' m' → RelL s (l ++ l') (m ++ m') := by
  intro l
  induction l with
  | nil => intro m l' m' h k; cases h; exact k
  | cons x l ih => intro m l' m' h k; cases h with | cons h h2 => exact .cons h (ih h2 k)
theorem RelL.drop {s : Mp} (n : Nat) : ∀ {l : List AV} {m : List Value}, RelL s l m → RelL s (l.drop n) (m.drop n) := by
  induction n with
  | zero => intro l m h; exact h
  | succ n ih => intro l m h; cases h with | nil => exact .nil | cons h k => exact ih k
theorem RelL.take {s : Mp} (n : Nat) : ∀ {l : List AV} {m : List Value}, RelL s l m → RelL s (l.take n) (m.take n) := by
  induction n with
  | zero => intro l m h; exact .nil
  | succ n ih => intro l m h; cases h with | nil => exact .nil | cons h k => exact .cons h (ih k)
theorem RelL.of_get {s : Mp} : ∀ {l : List AV} {m : List Value}, l.length = m.length → (∀ (i : Nat) (a : AV) (v : Value), l[i]? = some a → m[i]? = some v → Rel s a v) → RelL s l m := by
  intro l
  induction l with
  | nil => intro m h _; cases m with | nil => exact .nil | cons => simp at h
  | cons a l ih => intro m h k; cases m with
    | nil => simp at h
    | cons v m => exact .cons (k 0 a v rfl rfl) (ih (by simpa using h) fun i a v h1 h2 => k (i + 1) a v h1 h2)
theorem RelL.cons_inv {s : Mp} {a : AV} {l : List AV} {m : List Value} (h : RelL s (a :: l) m) : ∃ v m', m = v :: m' ∧ Rel s a v ∧ RelL s l m' := by
  cases h with | cons h k => exact ⟨_, _, rfl, h, k⟩
theorem RelL.nil_inv {s : Mp} {m : List Value} (h : RelL s [] m) : m = [] := by cases h; rfl
theorem Rel.int_inv {s : Mp} {k : IntKind} {n : Int} {v : Value} (h : Rel s (.int k n) v) : v = .int k n := by cases h; rfl

/-- From these numbers on, to those, nothing else has come to stand for a number. -/
def Ls (n : Rg) (s : Mp) (n' : Rg) (s' : Mp) : Prop := Le s s' ∧ (∀ i, i < n.1 ∨ n.2 ≤ i → s' i = s i) ∧ n.1 ≤ n'.1 ∧ n'.2 = n.2
theorem Ls.refl (n : Rg) (s : Mp) : Ls n s n s := ⟨Le.refl s, fun _ _ => rfl, Nat.le_refl _, rfl⟩
theorem Ls.trans {n n1 n2 : Rg} {a b c : Mp} (h : Ls n a n1 b) (k : Ls n1 b n2 c) : Ls n a n2 c :=
  ⟨h.1.trans k.1, fun i hi => (k.2.1 i (by have := h.2.2; omega)).trans (h.2.1 i hi), Nat.le_trans h.2.2.1 k.2.2.1, k.2.2.2.trans h.2.2.2⟩
theorem nx_s {n : Rg} {c : Nat → Rg → Bool} (h : nx n c = true) : n.1 < n.2 ∧ c n.1 (n.1 + 1, n.2) = true := by
  obtain ⟨lo, hi⟩ := n
  obtain ⟨h1, h2⟩ := brec_f (show (Bool.rec false (forceN (Nat.succ lo) fun l => c lo (l, hi)) (Nat.blt lo hi) : Bool) = true from h)
  rw [forceN_eq] at h2
  exact ⟨Nat.blt_eq.mp h1, h2⟩
/-- A frame's values: the newest count. -/
theorem Env'.get_mk (cr : Nat) (l : List (Nat × AV)) (t : Tr AV) (df : Option (List Nat)) (j : Nat) : (Env'.mk cr l t df).get j = findL l j (if bit cr j then t.get j else none) := by
  show findL l j (Bool.rec none (t.get j) (bit cr j)) = _
  cases bit cr j <;> rfl
theorem findL_nil (j : Nat) (d : Option AV) : findL [] j d = d := rfl
theorem findL_cons (p : Nat × AV) (l : List (Nat × AV)) (j : Nat) (d : Option AV) : findL (p :: l) j d = if p.1 = j then some p.2 else findL l j d := by
  show (Bool.rec (findL l j d) (some p.2) (Nat.beq p.1 j) : Option AV) = _
  cases h : Nat.beq p.1 j with
  | true => rw [if_pos (Nat.eq_of_beq_eq_true h)]
  | false => rw [if_neg (Nat.ne_of_beq_eq_false h)]
theorem flushL_s {cr : Nat} : ∀ {l : List (Nat × AV)} {t : Tr AV} {c : Tr AV → Bool}, flushL cr l t c = true → ∃ t' : Tr AV, c t' = true ∧ ∀ j, bit cr j = true → t'.get j = findL l j (t.get j) := by
  intro l
  induction l with
  | nil => intro t c h; exact ⟨t, h, fun j _ => rfl⟩
  | cons p l ih =>
    intro t c h
    obtain ⟨t1, h1, h2⟩ := ih (show flushL cr l t (fun t => Bool.rec (c t) (Tr.put 64 t p.1 (some p.2) c) (bit cr p.1)) = true from h)
    rcases brec_t h1 with ⟨h3, h4⟩ | ⟨h3, h4⟩
    · obtain ⟨t2, h5, h6⟩ := Tr.put_spec _ _ _ _ _ h4
      refine ⟨t2, h5, fun j hj => ?_⟩
      rw [h6, findL_cons, h2 j hj]
      by_cases hp : j = p.1
      · rw [if_pos hp, if_pos hp.symm]
      · rw [if_neg hp, if_neg (Ne.symm hp)]
    · refine ⟨t1, h4, fun j hj => ?_⟩
      rw [findL_cons, h2 j hj, if_neg (fun hp => by rw [hp, hj] at h3; cases h3)]
theorem flushK_s {e : Env'} {c : Env' → Bool} (h : flushK e c = true) : ∃ e' : Env', c e' = true ∧ (∀ j v, e'.get j = some v → e.get j = some v) ∧ e'.df = e.df := by
  obtain ⟨cr, l, t, df⟩ := e
  obtain ⟨t', h1, h2⟩ := flushL_s (show flushL cr l t (fun t => c ⟨cr, [], t, df⟩) = true from h)
  refine ⟨_, h1, fun j v hv => ?_, rfl⟩
  rw [Env'.get_mk, findL_nil] at hv
  split at hv
  · rename_i hb; rw [Env'.get_mk, if_pos hb, ← h2 j hb]; exact hv
  · cases hv
theorem Hp.put_spec {h : Hp} {i : Nat} {b : Option Blk} {c : Hp → Bool} (hk : h.put i b c = true) : ∃ h' : Hp, c h' = true ∧ (∀ j, h'.get j = if j = i then b else h.get j) ∧ h'.lp = h.lp := by
  obtain ⟨t, lp⟩ := h
  obtain ⟨t', h1, h2⟩ := Tr.put_spec _ _ _ _ _ (show Tr.put 64 t i b (fun t => c ⟨t, lp⟩) = true from hk)
  exact ⟨_, h1, h2, rfl⟩
theorem Hp.putL_spec {h : Hp} {i : Nat} {b : Option Lp} {c : Hp → Bool} (hk : h.putL i b c = true) : ∃ h' : Hp, c h' = true ∧ (∀ j, h'.get j = h.get j) ∧ ∀ j, h'.lp.get j = if j = i then b else h.lp.get j := by
  obtain ⟨t, lp⟩ := h
  obtain ⟨t', h1, h2⟩ := Tr.put_spec _ _ _ _ _ (show Tr.put 64 lp i b (fun lp => c ⟨t, lp⟩) = true from hk)
  exact ⟨_, h1, fun _ => rfl, h2⟩
end Go.Ev
