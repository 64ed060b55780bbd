/- Trees: names: the walk of both functions. -/
import Derived.Test.YtklpiecolpnmlaaDoorTr1
namespace Go.Proofs.YtklpiecolpnmlaaDoor
open Go Go.Eng
set_option maxRecDepth 100000
set_option linter.unusedSimpArgs false
set_option linter.unusedVariables false

theorem ok_iff (b : UInt8) : okByte b = true ↔ ¬ ((b.toNat : Int) = 47 ∨ (b.toNat : Int) < 32 ∨ 126 < (b.toNat : Int)) := by
  have h47 : b = 47 ↔ b.toNat = 47 := by
    constructor
    · rintro rfl; rfl
    · intro h; exact UInt8.toNat_inj.1 h
  simp [okByte, h47]
  omega
theorem all_take {s : List UInt8} {i : Nat} (hi : i < s.length) (h : (s.take i).all okByte = true) : (s.take (i + 1)).all okByte = okByte (s.getD i 0) := by
  rw [take_snoc (List.getElem?_eq_getElem hi), List.all_append, h]
  simp [List.getD_eq_getElem?_getD, hi]
theorem all_not {s : List UInt8} {i : Nat} (hi : i < s.length) (h : okByte (s.getD i 0) = false) : namedS s = false := by
  have : s.all okByte = false := by
    rw [List.all_eq_false]
    refine ⟨s[i], List.getElem_mem hi, ?_⟩
    have : s.getD i 0 = s[i] := by simp [List.getD_eq_getElem?_getD, hi]
    rw [this] at h
    simp [h]
  simp [namedS, this]

theorem tnamed_does (s : List UInt8) (w : World) (hs : s.length ≤ 140737488355328) : Does Tryd.prog 38 #[Str s] w fun v w' => w' = w ∧ v = .bool (namedS s) := by
  refine Does_enter (args := [Str s]) 39 Tryd.func38 rfl rfl (of_decide_eq_true rfl) ?_
  simp only [Env.ofArgs]
  refine VR [0] rfl rfl fun K hK => ?_; simp only [go_sem,↓reduceIte,Nat.reduceEqDiff]
  ((repeat refine And.intro (by omega) ?_); refine hK _ _ ?_; clear hK)
  refine VC_scope ?_
  (repeat refine VC_seq ?_)
  refine VC_label ?_
  refine VR [0, 5, 6] rfl rfl fun K hK => ?_; simp only [go_sem,↓reduceIte,Nat.reduceEqDiff]
  ((repeat refine And.intro (by omega) ?_); refine hK _ _ ?_; clear hK)
  ((repeat refine VC_seq ?_); refine VC_block ?_)
  refine VC_loopS [0, 5, 6] (fun m e w' => ∃ (i : Nat), Is e [(0, Str s), (5, .int .i64 s.length), (6, .int .i64 i)] ∧ Is w' w ∧ (i < s.length ∨ s = []) ∧ (s.take i).all okByte = true ∧ m = s.length - i) s.length ?_ ?_ -- LOOP
  · simp only [go_sem,↓reduceIte,Nat.reduceEqDiff]
    refine ⟨0, rfl, rfl, ?_, by simp, rfl⟩
    cases s <;> simp
  rintro m e w' ⟨i, rfl, rfl, hi, hall, rfl⟩
  refine VR [0, 5, 6, 7] rfl rfl fun K hK => ?_; simp only [go_sem,↓reduceIte,Nat.reduceEqDiff]
  ((repeat refine And.intro (by omega) ?_); refine hK _ _ ?_; clear hK)
  (repeat refine VC_seq ?_)
  refine VC_cond rfl rfl (fun h => ?_) (fun h => ?_) -- t7
  · simp only [decide_eq_true_eq] at h
    have hi : i < s.length := by omega
    refine VC_skip ?_
    ((repeat refine VC_seq ?_); refine VC_block ?_)
    refine VR [0, 3, 5, 6] rfl rfl fun K hK => ?_; simp only [go_sem,↓reduceIte,Nat.reduceEqDiff]
    ((repeat refine And.intro (by omega) ?_); refine hK _ _ ?_; clear hK)
    ((repeat refine VC_seq ?_); refine VC_block ?_)
    refine VR [0, 3, 5, 6, 9] rfl rfl fun K hK => ?_; simp only [go_sem,↓reduceIte,Nat.reduceEqDiff]
    suffices out : ∀ b : Bool, (b = true ↔ okByte (s.getD i 0) = false) → K [(0, Str s), (3, .int .i64 i), (5, .int .i64 s.length), (6, .int .i64 i), (9, .bool b)] w' by
      have hb := ok_iff (s.getD i 0)
      refine ⟨⟨by omega, by omega⟩, ?_⟩
      (try simp only [go_sem,↓reduceIte,Nat.reduceEqDiff])
      have e2 : okByte (s.getD i 0) = false ↔ ¬ okByte (s.getD i 0) = true := by simp
      repeat' (first | refine And.intro (fun _ => ?_) (fun _ => ?_) | (refine And.intro (And.intro (by omega) (by omega)) ?_; (try simp only [go_sem,↓reduceIte,Nat.reduceEqDiff])))
      all_goals (refine out _ ?_; rw [e2, hb]; simp only [decide_eq_true_eq, true_iff]; omega)
    intro b hb
    (refine hK _ _ ?_; clear hK)
    refine VC_cond rfl rfl (fun h3 => ?_) (fun h3 => ?_) -- t9
    · have h4 := all_not hi (hb.1 h3)
      refine VC_exit rfl ?_
      refine VR [2] rfl rfl fun K hK => ?_; simp only [go_sem,↓reduceIte,Nat.reduceEqDiff]
      ((repeat refine And.intro (by omega) ?_); refine hK _ _ ?_; clear hK)
      exact VC_ret (VX_ret1 rfl rfl ⟨rfl, by rw [h4]⟩) -- RET (2, t2)
    have h4 : okByte (s.getD i 0) = true := by
      cases h5 : okByte (s.getD i 0)
      · have := hb.2 h5; simp_all
      · rfl
    have h5 := all_take hi hall
    rw [h4] at h5
    clear hb h3
    refine VR [0, 5, 6, 26] rfl rfl fun K hK => ?_; simp only [go_sem,↓reduceIte,Nat.reduceEqDiff]
    ((repeat refine And.intro (by omega) ?_); refine hK _ _ ?_; clear hK)
    refine VC_cond rfl rfl (fun h6 => ?_) (fun h6 => VC_skip ?_) -- t26
    · simp only [decide_eq_true_eq] at h6
      have h7 : s.all okByte = true := by
        rw [← h5, List.take_of_length_le (by omega)]
      have h8 : s ≠ [] := by rintro rfl; simp at hi
      refine VR [2] rfl rfl fun K hK => ?_; simp only [go_sem,↓reduceIte,Nat.reduceEqDiff]
      suffices out : ∀ b : Bool, b = namedS s → K [(2, .bool b)] w' by
        repeat' (refine And.intro (fun _ => ?_) (fun _ => ?_))
        all_goals (refine out _ ?_; simp_all [namedS])
      rintro b rfl
      (refine hK _ _ ?_; clear hK)
      exact VC_ret (VX_ret1 rfl rfl ⟨rfl, rfl⟩) -- RET (2, t2)
    refine VC_blk ?_
    refine VC_blk ?_
    refine VR [0, 5, 6] rfl rfl fun K hK => ?_; simp only [go_sem,↓reduceIte,Nat.reduceEqDiff]
    ((repeat refine And.intro (by omega) ?_); refine hK _ _ ?_; clear hK)
    refine VC_again ?_
    simp only [go_sem,↓reduceIte,Nat.reduceEqDiff]
    simp only [decide_eq_false_iff_not] at h6
    exact ⟨s.length - (i + 1), by omega, i + 1, rfl, rfl, .inl (by omega), h5, rfl⟩
  · simp only [decide_eq_false_iff_not] at h
    have h8 : s = [] := by
      rcases hi with hi | hi
      · omega
      · exact hi
    refine VC_exit rfl ?_
    refine VR [2] rfl rfl fun K hK => ?_; simp only [go_sem,↓reduceIte,Nat.reduceEqDiff]
    ((repeat refine And.intro (by omega) ?_); refine hK _ _ ?_; clear hK)
    exact VC_ret (VX_ret1 rfl rfl ⟨rfl, by rw [h8]; rfl⟩) -- RET (2, t2)

theorem rnamed_does (s : List UInt8) (w : World) (hs : s.length ≤ 140737488355328) : Does Tryd.prog 39 #[Str s] w fun v w' => w' = w ∧ v = .bool (namedS s) := by
  refine Does_enter (args := [Str s]) 36 Tryd.func39 rfl rfl (of_decide_eq_true rfl) ?_
  simp only [Env.ofArgs]
  refine VR [0] rfl rfl fun K hK => ?_; simp only [go_sem,↓reduceIte,Nat.reduceEqDiff]
  ((repeat refine And.intro (by omega) ?_); refine hK _ _ ?_; clear hK)
  refine VR [0, 3] rfl rfl fun K hK => ?_; simp only [go_sem,↓reduceIte,Nat.reduceEqDiff]
  ((repeat refine And.intro (by omega) ?_); refine hK _ _ ?_; clear hK)
  ((repeat refine VC_seq ?_); refine VC_block ?_)
  refine VC_loopS [0, 3] (fun m e w' => ∃ (i : Nat), Is e [(0, Str s), (3, .int .i64 i)] ∧ Is w' w ∧ i ≤ s.length ∧ (s.take i).all okByte = true ∧ m = s.length - i) s.length ?_ ?_ -- LOOP
  · simp only [go_sem,↓reduceIte,Nat.reduceEqDiff]
    exact ⟨0, rfl, rfl, by omega, by simp, rfl⟩
  rintro m e w' ⟨i, rfl, rfl, hi, hall, rfl⟩
  refine VR [0, 3, 7] rfl rfl fun K hK => ?_; simp only [go_sem,↓reduceIte,Nat.reduceEqDiff]
  ((repeat refine And.intro (by omega) ?_); refine hK _ _ ?_; clear hK)
  refine VC_cond rfl rfl (fun h => ?_) (fun h => ?_) -- t7
  · simp only [decide_eq_true_eq] at h
    have hi : i < s.length := by omega
    refine VC_skip ?_
    ((repeat refine VC_seq ?_); refine VC_block ?_)
    refine VR [0, 3, 25] rfl rfl fun K hK => ?_; simp only [go_sem,↓reduceIte,Nat.reduceEqDiff]
    suffices out : ∀ b : Bool, (b = true ↔ okByte (s.getD i 0) = false) → K [(0, Str s), (3, .int .i64 i), (25, .bool b)] w' by
      have hb := ok_iff (s.getD i 0)
      refine ⟨⟨by omega, by omega⟩, ?_⟩
      (try simp only [go_sem,↓reduceIte,Nat.reduceEqDiff])
      have e2 : okByte (s.getD i 0) = false ↔ ¬ okByte (s.getD i 0) = true := by simp
      repeat' (first | refine And.intro (fun _ => ?_) (fun _ => ?_) | (refine And.intro (And.intro (by omega) (by omega)) ?_; (try simp only [go_sem,↓reduceIte,Nat.reduceEqDiff])))
      all_goals (refine out _ ?_; rw [e2, hb]; simp only [decide_eq_true_eq, true_iff]; omega)
    intro b hb
    (refine hK _ _ ?_; clear hK)
    refine VC_cond rfl rfl (fun h3 => ?_) (fun h3 => VC_skip ?_) -- t25
    · have h4 := all_not hi (hb.1 h3)
      refine VR [2] rfl rfl fun K hK => ?_; simp only [go_sem,↓reduceIte,Nat.reduceEqDiff]
      ((repeat refine And.intro (by omega) ?_); refine hK _ _ ?_; clear hK)
      exact VC_ret (VX_ret1 rfl rfl ⟨rfl, by rw [h4]⟩) -- RET (2, t2)
    have h4 : okByte (s.getD i 0) = true := by
      cases h5 : okByte (s.getD i 0)
      · have := hb.2 h5; simp_all
      · rfl
    have h5 := all_take hi hall
    rw [h4] at h5
    clear hb h3
    refine VC_blk ?_
    refine VR [0, 3] rfl rfl fun K hK => ?_; simp only [go_sem,↓reduceIte,Nat.reduceEqDiff]
    ((repeat refine And.intro (by omega) ?_); refine hK _ _ ?_; clear hK)
    refine VC_again ?_
    simp only [go_sem,↓reduceIte,Nat.reduceEqDiff]
    exact ⟨s.length - (i + 1), by omega, i + 1, rfl, rfl, by omega, h5, rfl⟩
  · simp only [decide_eq_false_iff_not] at h
    have h7 : s.all okByte = true := by
      rw [← hall, List.take_of_length_le (by omega)]
    refine VC_exit rfl ?_
    refine VR [2] rfl rfl fun K hK => ?_; simp only [go_sem,↓reduceIte,Nat.reduceEqDiff]
    suffices out : ∀ b : Bool, b = namedS s → K [(2, .bool b)] w' by
      repeat' (refine And.intro (fun _ => ?_) (fun _ => ?_))
      all_goals (refine out _ ?_; simp_all [namedS])
    rintro b rfl
    (refine hK _ _ ?_; clear hK)
    exact VC_ret (VX_ret1 rfl rfl ⟨rfl, rfl⟩) -- RET (2, t2)
end Go.Proofs.YtklpiecolpnmlaaDoor
