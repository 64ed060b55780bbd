/- Runs of bytes: what the program's functions of this layer compute. Plain lists. No conditions. -/
import Derived.Test.YtgepfjlecmmokaaFacts
namespace Go.Proofs.Ytgepfjlecmmokaa
open Go Go.Eng

def lead (b : UInt8) : List UInt8 → Nat
  | [] => 0
  | c :: l => if c = b then lead b l + 1 else 0
/-- How many bytes a text begins with that are one, at most 255. -/
def runOf : List UInt8 → Nat
  | [] => 0
  | b :: l => min 255 (lead b l + 1)

/-- What a run of n bytes b is written as. -/
def encRun (n : Nat) (l : List UInt8) : List UInt8 := if n < 4 then l.take n else l.take 4 ++ [UInt8.ofNat (n - 4)]

def encF : Nat → List UInt8 → List UInt8
  | 0, _ => []
  | _, [] => []
  | f + 1, b :: l => encRun (runOf (b :: l)) (b :: l) ++ encF f ((b :: l).drop (runOf (b :: l)))
def enc (l : List UInt8) : List UInt8 := encF l.length l

theorem lead_spec (b : UInt8) (l : List UInt8) : ∀ n, (∀ j, j < n → l[j]? = some b) → (l[n]? ≠ some b) → lead b l = n := by
  induction l with
  | nil =>
    intro n h1 _
    cases n with
    | zero => rfl
    | succ n => have := h1 0 (by omega); simp at this
  | cons c l ih =>
    intro n h1 h2
    cases n with
    | zero =>
      have : ¬ c = b := by simpa using h2
      simp [lead, this]
    | succ n =>
      have : c = b := by simpa using h1 0 (by omega)
      simp only [lead, this, if_true]
      rw [ih n (fun j hj => by simpa using h1 (j + 1) (by omega)) (by simpa using h2)]
theorem lead_ge (b : UInt8) (l : List UInt8) : ∀ n, (∀ j, j < n → l[j]? = some b) → n ≤ lead b l := by
  induction l with
  | nil =>
    intro n h1
    cases n with
    | zero => omega
    | succ n => have := h1 0 (by omega); simp at this
  | cons c l ih =>
    intro n h1
    cases n with
    | zero => omega
    | succ n =>
      have : c = b := by simpa using h1 0 (by omega)
      simp only [lead, this, if_true]
      have := ih n (fun j hj => by simpa using h1 (j + 1) (by omega))
      omega
theorem lead_le (b : UInt8) (l : List UInt8) : lead b l ≤ l.length := by
  induction l with
  | nil => simp [lead]
  | cons c l ih => simp only [lead]; split <;> simp <;> omega
theorem lead_all (b : UInt8) (l : List UInt8) : ∀ j, j < lead b l → l[j]? = some b := by
  induction l with
  | nil => intro j h; simp [lead] at h
  | cons c l ih =>
    intro j h
    simp only [lead] at h
    split at h
    · rename_i hc
      cases j with
      | zero => simp [hc]
      | succ j => simpa using ih j (by omega)
    · omega
theorem lead_end (b : UInt8) (l : List UInt8) : l[lead b l]? ≠ some b := by
  induction l with
  | nil => simp [lead]
  | cons c l ih =>
    simp only [lead]
    split
    · simpa using ih
    · rename_i hc; simpa using hc

/-- n bytes from i on are one. -/
def Same (l : List UInt8) (i n : Nat) : Prop := ∀ j, j < n → l[i + j]? = l[i]?

theorem runOf_eq (l : List UInt8) (i n : Nat) (hi : i < l.length) (h1 : 1 ≤ n) (h2 : n ≤ 255) (hs : Same l i n) (he : n = 255 ∨ l[i + n]? ≠ l[i]?) : runOf (l.drop i) = n := by
  have hd : l.drop i = l[i] :: l.drop (i + 1) := List.drop_eq_getElem_cons hi
  rw [hd]
  simp only [runOf]
  have hg : l[i]? = some l[i] := List.getElem?_eq_getElem hi
  have hj : ∀ j, j < n - 1 → (l.drop (i + 1))[j]? = some l[i] := fun j hj => by
    rw [List.getElem?_drop, show i + 1 + j = i + (j + 1) by omega, hs (j + 1) (by omega), hg]
  rcases he with he | he
  · have := lead_ge _ _ _ hj; omega
  · have := lead_spec l[i] (l.drop (i + 1)) (n - 1) hj (by rw [List.getElem?_drop, show i + 1 + (n - 1) = i + n by omega, ← hg]; exact he)
    omega

theorem runOf_pos (l : List UInt8) (h : l ≠ []) : 1 ≤ runOf l := by
  cases l with
  | nil => exact absurd rfl h
  | cons b l => simp only [runOf]; omega
theorem runOf_le (l : List UInt8) : runOf l ≤ l.length ∧ runOf l ≤ 255 := by
  cases l with
  | nil => simp [runOf]
  | cons b l => have := lead_le b l; simp only [runOf, List.length_cons]; omega
theorem runOf_same (l : List UInt8) : Same l 0 (runOf l) := by
  cases l with
  | nil => intro j hj; simp [runOf] at hj
  | cons b l =>
    intro j hj
    cases j with
    | zero => rfl
    | succ j =>
      have := lead_all b l j (by simp only [runOf] at hj; omega)
      simpa using this

theorem encF_step (l : List UInt8) (h : l ≠ []) (f : Nat) : encF (f + 1) l = encRun (runOf l) l ++ encF f (l.drop (runOf l)) := by
  cases l with
  | nil => exact absurd rfl h
  | cons b l => rfl
theorem encF_fuel : ∀ (f g : Nat) (l : List UInt8), l.length ≤ f → l.length ≤ g → encF f l = encF g l := by
  intro f
  induction f with
  | zero =>
    intro g l hf _
    have : l = [] := List.eq_nil_of_length_eq_zero (by omega)
    subst this
    cases g <;> rfl
  | succ f ih =>
    intro g l hf hg
    by_cases hl : l = []
    · subst hl; cases g <;> rfl
    · cases g with
      | zero => exact absurd (List.eq_nil_of_length_eq_zero (by omega)) hl
      | succ g =>
        rw [encF_step l hl, encF_step l hl]
        have := runOf_pos l hl
        rw [ih g _ (by simp; omega) (by simp; omega)]
theorem enc_step (l : List UInt8) (h : l ≠ []) : enc l = encRun (runOf l) l ++ enc (l.drop (runOf l)) := by
  have hp : 0 < l.length := List.length_pos_iff.2 h
  have hr := runOf_pos l h
  unfold enc
  rw [show l.length = (l.length - 1) + 1 by omega, encF_step l h]
  rw [encF_fuel (l.length - 1) (l.drop (runOf l)).length _ (by simp; omega) (Nat.le_refl _)]
theorem enc_nil : enc [] = [] := rfl

theorem encRun_length (n : Nat) (l : List UInt8) (h : n ≤ l.length) : (encRun n l).length = if n < 4 then n else 5 := by
  unfold encRun
  split <;> simp <;> omega
theorem enc_length (l : List UInt8) : (enc l).length ≤ l.length + l.length / 4 := by
  induction hn : l.length using Nat.strongRecOn generalizing l with
  | _ n ih =>
    subst hn
    by_cases hl : l = []
    · subst hl; simp [enc_nil]
    · rw [enc_step l hl]
      have h1 := runOf_pos l hl
      have h2 := (runOf_le l).1
      have := ih (l.drop (runOf l)).length (by simp; omega) _ rfl
      rw [List.length_append, encRun_length _ _ h2]
      simp only [List.length_drop] at this
      split <;> omega
end Go.Proofs.Ytgepfjlecmmokaa
