/- What the proof leans on, part 6: no conditions. -/
import Derived.Test.YtoioaddfachjhaaGreatDoorS5
import Derived.Shelf.Strings.Repeat
import Derived.Test.YtoioaddfachjhaaGreatDoorChecked
namespace Go.Proofs.YtoioaddfachjhaaGreatDoor
open Go Go.Eng
set_option maxRecDepth 100000
set_option linter.unusedSimpArgs false
set_option linter.unusedVariables false
theorem unary_does (g gs : Nat) (s : List UInt8) (at_ most : Nat) (w : World) (hm : most ≤ 1000) (ha : at_ ≤ 8 * s.length) (hs : s.length ≤ 1000000000000000)
    (hL : Heap w (rd g gs s at_).foot w [rd g gs s at_]) : Does Tryz.prog 169 #[.pointer (some ⟨g, 0, none⟩), .int .i64 most] w fun x w' =>
      x = .tuple #[.int .i64 (unS ((bytesB s).drop at_) most 0).1, .int .i64 (unS ((bytesB s).drop at_) most 0).2] ∧ (((unS ((bytesB s).drop at_) most 0).2 ≠ 0 ∧ w' = w) ∨ ((unS ((bytesB s).drop at_) most 0).2 = 0 ∧ at_ + (unS ((bytesB s).drop at_) most 0).1 + 1 ≤ 8 * s.length ∧ (unS ((bytesB s).drop at_) most 0).1 ≤ most ∧ Heap w (rd g gs s at_).foot w' [rd g gs s (at_ + (unS ((bytesB s).drop at_) most 0).1 + 1)])) := by
  have hH := hL.unpair
  have hbl := bytesB_length s
  refine Does_enter (args := [.pointer (some ⟨g, 0, none⟩), .int .i64 most]) 56 Tryz.func169 rfl rfl (of_decide_eq_true rfl) ?_
  simp only [Env.ofArgs]
  refine VR [0, 1] rfl rfl fun K hK => ?_; simp only [go_sem,↓reduceIte,Nat.reduceEqDiff]
  (refine hK _ _ ?_; clear hK)
  refine VR [0, 1, 15] rfl rfl fun K hK => ?_; simp only [go_sem,↓reduceIte,Nat.reduceEqDiff]
  refine ⟨_, blk_cell (hH.at 0 rfl) rfl, ?_⟩
  simp only [go_sem,↓reduceIte,Nat.reduceEqDiff]
  (refine hK _ _ ?_; clear hK)
  refine VC_cond rfl rfl (fun h => by cases h) (fun h => VC_skip ?_)
  refine VR [0, 1, 17] rfl rfl fun K hK => ?_; simp only [go_sem,↓reduceIte,Nat.reduceEqDiff]
  (refine hK _ _ ?_; clear hK)
  refine VC_cond rfl rfl (fun h => by simp at h; omega) (fun h => VC_skip ?_)
  refine VR [0, 1, 6] rfl rfl fun K hK => ?_; simp only [go_sem,↓reduceIte,Nat.reduceEqDiff]
  (refine hK _ _ ?_; clear hK)
  ((repeat refine VC_seq ?_); refine VC_block ?_)
  generalize hu : unS ((bytesB s).drop at_) most 0 = u at *
  refine VC_loopS [0, 1, 6] (fun m e w' => ∃ (k : Nat), Is e [(0, .pointer (some ⟨g, 0, none⟩)), (1, .int .i64 most), (6, .int .i64 k)] ∧ Is w' w ∧ k ≤ most ∧ at_ + k ≤ 8 * s.length ∧ unS ((bytesB s).drop (at_ + k)) most k = u ∧ m = 8 * s.length - (at_ + k)) (8 * s.length - at_) ?_ ?_
  · simp only [go_sem,↓reduceIte,Nat.reduceEqDiff]
    exact ⟨0, rfl, rfl, by omega, by omega, hu, rfl⟩
  rintro m e w' ⟨k, rfl, rfl, hk, hk2, hk3, rfl⟩
  (repeat refine VC_seq ?_); refine VC_regionQ [0, 1, 6, 28] (by kernel_rfl) (by kernel_rfl) rfl fun K hK => ?_; simp only [go_sem,↓reduceIte,Nat.reduceEqDiff]
  (repeat (first | refine And.intro (by omega) ?_ | refine ⟨⟨by omega, by omega⟩, ?_⟩ | (refine ⟨_, (by first | exact blk_cell (hH.at 0 rfl) rfl | exact row_cell (hH.at 0 rfl) (bytesV_get (by omega)) | exact row_cell (hH.at 0 rfl) (intsV_get (by omega)) | exact blk_cell (hH.at 1 rfl) rfl | exact row_cell (hH.at 1 rfl) (bytesV_get (by omega)) | exact row_cell (hH.at 1 rfl) (intsV_get (by omega)) | exact blk_cell (hH.at 2 rfl) rfl | exact row_cell (hH.at 2 rfl) (bytesV_get (by omega)) | exact row_cell (hH.at 2 rfl) (intsV_get (by omega)) | exact blk_cell (hH.at 3 rfl) rfl | exact row_cell (hH.at 3 rfl) (bytesV_get (by omega)) | exact row_cell (hH.at 3 rfl) (intsV_get (by omega))), ?_⟩; (try simp only [go_sem,↓reduceIte,Nat.reduceEqDiff]))))
  (refine hK _ ?_; clear hK)
  refine VC_cond rfl rfl (fun h => ?_) (fun h => ?_)
  · simp only [decide_eq_true_eq] at h
    refine VC_skip ?_
    ((repeat refine VC_seq ?_); refine VC_block ?_)
    have hdr := drop_getD false (l := bytesB s) (i := at_ + k) (by omega)
    rw [hdr] at hk3
    have hbd := bit_does s gs (at_ + k) w' (by omega) (by omega) (blk_cell (hH.at 1 rfl) rfl)
    rw [Int.natCast_add] at hbd
    (repeat refine VC_seq ?_); refine VC_regionL [0, 1, 6, 42] 10 (by kernel_rfl) (by kernel_rfl) (by kernel_rfl) rfl fun K hK => ?_; simp only [go_sem,↓reduceIte,Nat.reduceEqDiff]
    (repeat (first | refine And.intro (by omega) ?_ | refine ⟨⟨by omega, by omega⟩, ?_⟩ | (refine ⟨_, (by first | exact blk_cell (hH.at 0 rfl) rfl | exact row_cell (hH.at 0 rfl) (bytesV_get (by omega)) | exact row_cell (hH.at 0 rfl) (intsV_get (by omega)) | exact blk_cell (hH.at 1 rfl) rfl | exact row_cell (hH.at 1 rfl) (bytesV_get (by omega)) | exact row_cell (hH.at 1 rfl) (intsV_get (by omega)) | exact blk_cell (hH.at 2 rfl) rfl | exact row_cell (hH.at 2 rfl) (bytesV_get (by omega)) | exact row_cell (hH.at 2 rfl) (intsV_get (by omega)) | exact blk_cell (hH.at 3 rfl) rfl | exact row_cell (hH.at 3 rfl) (bytesV_get (by omega)) | exact row_cell (hH.at 3 rfl) (intsV_get (by omega))), ?_⟩; (try simp only [go_sem,↓reduceIte,Nat.reduceEqDiff]))))
    refine MemK_callv ?_; simp only [go_sem,↓reduceIte,Nat.reduceEqDiff]; refine FnK.mk Tryz.call159 hbd ?_
    rintro v w3 ⟨rfl, rfl⟩
    simp only [go_sem,↓reduceIte,Nat.reduceEqDiff]
    (refine hK _ _ ?_; clear hK)
    generalize (bytesB s).getD (at_ + k) false = b at *
    cases b with
    | false =>
      refine VC_cond rfl rfl (fun h => ?_) (fun h => by simp at h)
      rw [unS] at hk3
      subst hk3
      refine VR [6] rfl rfl fun K hK => ?_; simp only [go_sem,↓reduceIte,Nat.reduceEqDiff]
      (repeat (first | refine And.intro (by omega) ?_ | refine ⟨⟨by omega, by omega⟩, ?_⟩ | (refine ⟨_, (by first | exact blk_cell (hH.at 0 rfl) rfl | exact row_cell (hH.at 0 rfl) (bytesV_get (by omega)) | exact row_cell (hH.at 0 rfl) (intsV_get (by omega)) | exact blk_cell (hH.at 1 rfl) rfl | exact row_cell (hH.at 1 rfl) (bytesV_get (by omega)) | exact row_cell (hH.at 1 rfl) (intsV_get (by omega)) | exact blk_cell (hH.at 2 rfl) rfl | exact row_cell (hH.at 2 rfl) (bytesV_get (by omega)) | exact row_cell (hH.at 2 rfl) (intsV_get (by omega)) | exact blk_cell (hH.at 3 rfl) rfl | exact row_cell (hH.at 3 rfl) (bytesV_get (by omega)) | exact row_cell (hH.at 3 rfl) (intsV_get (by omega))), ?_⟩; (try simp only [go_sem,↓reduceIte,Nat.reduceEqDiff]))))
      refine MemK_store ?_; simp only [go_sem,↓reduceIte,Nat.reduceEqDiff]; refine StoreK_blk hH 0 (vs := [.int .i64 (at_ + k + 1 : Nat)]) rfl rfl (by kernel_rfl) (by first | decide | (simp; done) | (simp; omega)) (by simp [Value.oneCell']) fun w6 hH2 => ?_; (try simp only [go_sem,↓reduceIte,Nat.reduceEqDiff])
      (refine hK _ _ ?_; clear hK)
      refine VR [4, 5] rfl rfl fun K hK => ?_; simp only [go_sem,↓reduceIte,Nat.reduceEqDiff]
      (refine hK _ _ ?_; clear hK)
      exact VC_ret (VX_ret2 rfl rfl rfl ⟨rfl, .inr ⟨rfl, by simp only; omega, hk, hH2.pair⟩⟩)
    | true =>
      refine VC_cond rfl rfl (fun h => by simp at h) (fun h => VC_skip ?_)
      rw [unS] at hk3
      refine VR [0, 1, 6, 55] rfl rfl fun K hK => ?_; simp only [go_sem,↓reduceIte,Nat.reduceEqDiff]
      (refine hK _ _ ?_; clear hK)
      refine VC_cond rfl rfl (fun h => ?_) (fun h => VC_skip ?_)
      · simp only [decide_eq_true_eq] at h
        rw [if_pos (by omega)] at hk3
        subst hk3
        refine VR [4, 5] rfl rfl fun K hK => ?_; simp only [go_sem,↓reduceIte,Nat.reduceEqDiff]
        (refine hK _ _ ?_; clear hK)
        exact VC_ret (VX_ret2 rfl rfl rfl ⟨rfl, .inl ⟨by simp, rfl⟩⟩)
      simp only [decide_eq_false_iff_not] at h
      rw [if_neg (by omega)] at hk3
      refine VC_blk ?_
      refine VR [0, 1, 6] rfl rfl fun K hK => ?_; simp only [go_sem,↓reduceIte,Nat.reduceEqDiff]
      ((repeat refine And.intro (by omega) ?_); refine hK _ _ ?_; clear hK)
      refine VC_again ?_
      simp only [go_sem,↓reduceIte,Nat.reduceEqDiff]
      exact ⟨8 * s.length - (at_ + (k + 1)), by omega, k + 1, rfl, rfl, by omega, by omega, hk3, rfl⟩
  · simp only [decide_eq_false_iff_not] at h
    refine VC_exit rfl ?_
    rw [List.drop_of_length_le (by omega), unS] at hk3
    subst hk3
    refine VR [4, 5] rfl rfl fun K hK => ?_; simp only [go_sem,↓reduceIte,Nat.reduceEqDiff]
    (refine hK _ _ ?_; clear hK)
    exact VC_ret (VX_ret2 rfl rfl rfl ⟨rfl, .inl ⟨by simp, rfl⟩⟩)
def bitsV (l : List Bool) : List Value := [Str (textB l), .int .i64 l.length]
def BitsV (l : List Bool) : Value := .agg (bitsV l).toArray
theorem last_byte (l : List Bool) (h : l.length % 8 ≠ 0) : ((textB l).getD ((textB l).length - 1) 0).toNat * 2 ^ (l.length % 8) % 256 = 0 := by
  have e : l = l.take (8 * (l.length / 8)) ++ l.drop (8 * (l.length / 8)) := (List.take_append_drop _ _).symm
  have h1 : (l.take (8 * (l.length / 8))).length % 8 = 0 := by rw [List.length_take]; omega
  have h2 : (l.drop (8 * (l.length / 8))).length = l.length % 8 := by rw [List.length_drop]; omega
  have h3 : textB l = textB (l.take (8 * (l.length / 8))) ++ textB (l.drop (8 * (l.length / 8))) := by
    conv => lhs; rw [e]
    exact textB_append8 _ _ h1
  generalize l.drop (8 * (l.length / 8)) = m at *
  generalize l.take (8 * (l.length / 8)) = q at *
  have h4 : (textB m).length = 1 := by rw [textB_length, h2]; omega
  have h5 := textB_bits m
  match hm : textB m, h4 with
  | [x], _ =>
    rw [h3, hm]
    have : ((textB q ++ [x]).getD ((textB q ++ [x]).length - 1) 0) = x := by simp [List.getD_eq_getElem?_getD]
    rw [this]
    rw [hm, bytesB_cons, bytesB_nil, List.append_nil] at h5
    have h6 := congrArg numB h5
    rw [numB_bitsN, numB_append, List.length_replicate] at h6
    have hz : numB (List.replicate (8 * ((m.length + 7) / 8) - m.length) false) = 0 := by
      rw [← bitsN_zero, numB_bitsN, Nat.zero_mod]
    rw [hz, h2, Nat.mod_eq_of_lt x.toNat_lt, Nat.add_zero, show 8 * ((l.length % 8 + 7) / 8) - l.length % 8 = 8 - l.length % 8 by omega] at h6
    rw [h6, Nat.mul_assoc, ← Nat.pow_add, show 8 - l.length % 8 + l.length % 8 = 8 by omega]
    exact Nat.mul_mod_left _ _
theorem may_does (l : List Bool) (w : World) (hl : l.length ≤ 1000000000000000000) : Does Tryz.prog 103 #[BitsV l] w fun x w' => Heap w [] w' [] ∧ x = .bool true := by
  have htl := textB_length l
  refine Does_enter (args := [BitsV l]) 40 Tryz.func103 rfl rfl (of_decide_eq_true rfl) ?_
  simp only [Env.ofArgs]
  refine VR [1] rfl rfl fun K hK => ?_; simp only [go_sem,↓reduceIte,Nat.reduceEqDiff]
  refine MemK_box ?_
  simp only [go_sem,↓reduceIte,Nat.reduceEqDiff]
  have hH := (Heap.start w).box 100 (bitsV l)
  rw [BitsV]
  simp only [go_sem,↓reduceIte,Nat.reduceEqDiff]
  generalize w.alloc (Obj.cells (bitsV l).toArray 100) = w1 at *
  (refine hK _ _ ?_; clear hK)
  generalize w.heap.size = g at *
  refine VR [1, 20] rfl rfl fun K hK => ?_; simp only [go_sem,↓reduceIte,Nat.reduceEqDiff]
  (repeat (first | refine And.intro (by omega) ?_ | refine ⟨⟨by omega, by omega⟩, ?_⟩ | (refine ⟨_, (by first | exact blk_cell (hH.at 0 rfl) rfl | exact row_cell (hH.at 0 rfl) (bytesV_get (by omega)) | exact row_cell (hH.at 0 rfl) (intsV_get (by omega)) | exact blk_cell (hH.at 1 rfl) rfl | exact row_cell (hH.at 1 rfl) (bytesV_get (by omega)) | exact row_cell (hH.at 1 rfl) (intsV_get (by omega)) | exact blk_cell (hH.at 2 rfl) rfl | exact row_cell (hH.at 2 rfl) (bytesV_get (by omega)) | exact row_cell (hH.at 2 rfl) (intsV_get (by omega)) | exact blk_cell (hH.at 3 rfl) rfl | exact row_cell (hH.at 3 rfl) (bytesV_get (by omega)) | exact row_cell (hH.at 3 rfl) (intsV_get (by omega))), ?_⟩; (try simp only [go_sem,↓reduceIte,Nat.reduceEqDiff]))))
  suffices out : ∀ b : Bool, (b = true ↔ False) → K [(1, .pointer (some ⟨g, 0, none⟩)), (20, .bool b)] w1 by
    refine ⟨fun _ => ?_, fun h => absurd h (by omega)⟩
    (repeat (first | refine And.intro (by omega) ?_ | refine ⟨⟨by omega, by omega⟩, ?_⟩ | (refine ⟨_, (by first | exact blk_cell (hH.at 0 rfl) rfl | exact row_cell (hH.at 0 rfl) (bytesV_get (by omega)) | exact row_cell (hH.at 0 rfl) (intsV_get (by omega)) | exact blk_cell (hH.at 1 rfl) rfl | exact row_cell (hH.at 1 rfl) (bytesV_get (by omega)) | exact row_cell (hH.at 1 rfl) (intsV_get (by omega)) | exact blk_cell (hH.at 2 rfl) rfl | exact row_cell (hH.at 2 rfl) (bytesV_get (by omega)) | exact row_cell (hH.at 2 rfl) (intsV_get (by omega)) | exact blk_cell (hH.at 3 rfl) rfl | exact row_cell (hH.at 3 rfl) (bytesV_get (by omega)) | exact row_cell (hH.at 3 rfl) (intsV_get (by omega))), ?_⟩; (try simp only [go_sem,↓reduceIte,Nat.reduceEqDiff]))))
    exact out _ (by simp; omega)
  intro b hb
  (refine hK _ _ ?_; clear hK)
  refine VC_cond rfl rfl (fun h => (hb.1 h).elim) (fun h => VC_skip ?_)
  clear h hb
  (repeat refine VC_seq ?_); refine VC_regionQ [2] (by kernel_rfl) (by kernel_rfl) rfl fun K hK => ?_; simp only [go_sem,↓reduceIte,Nat.reduceEqDiff]
  (repeat (first | refine And.intro (by omega) ?_ | refine ⟨⟨by omega, by omega⟩, ?_⟩ | (refine ⟨_, (by first | exact blk_cell (hH.at 0 rfl) rfl | exact row_cell (hH.at 0 rfl) (bytesV_get (by omega)) | exact row_cell (hH.at 0 rfl) (intsV_get (by omega)) | exact blk_cell (hH.at 1 rfl) rfl | exact row_cell (hH.at 1 rfl) (bytesV_get (by omega)) | exact row_cell (hH.at 1 rfl) (intsV_get (by omega)) | exact blk_cell (hH.at 2 rfl) rfl | exact row_cell (hH.at 2 rfl) (bytesV_get (by omega)) | exact row_cell (hH.at 2 rfl) (intsV_get (by omega)) | exact blk_cell (hH.at 3 rfl) rfl | exact row_cell (hH.at 3 rfl) (bytesV_get (by omega)) | exact row_cell (hH.at 3 rfl) (intsV_get (by omega))), ?_⟩; (try simp only [go_sem,↓reduceIte,Nat.reduceEqDiff]))))
  suffices out : K [(2, .bool true)] by
    refine ⟨fun h => ?_, fun h => ?_⟩
    · have hlb := last_byte l (by omega)
      (repeat (first | refine And.intro (by omega) ?_ | refine ⟨⟨by omega, by omega⟩, ?_⟩ | (refine ⟨_, (by first | exact blk_cell (hH.at 0 rfl) rfl | exact row_cell (hH.at 0 rfl) (bytesV_get (by omega)) | exact row_cell (hH.at 0 rfl) (intsV_get (by omega)) | exact blk_cell (hH.at 1 rfl) rfl | exact row_cell (hH.at 1 rfl) (bytesV_get (by omega)) | exact row_cell (hH.at 1 rfl) (intsV_get (by omega)) | exact blk_cell (hH.at 2 rfl) rfl | exact row_cell (hH.at 2 rfl) (bytesV_get (by omega)) | exact row_cell (hH.at 2 rfl) (intsV_get (by omega)) | exact blk_cell (hH.at 3 rfl) rfl | exact row_cell (hH.at 3 rfl) (bytesV_get (by omega)) | exact row_cell (hH.at 3 rfl) (intsV_get (by omega))), ?_⟩; (try simp only [go_sem,↓reduceIte,Nat.reduceEqDiff]))))
      have hsh : shN IntKind.u8 (((l.length : Int) % 8) % 18446744073709551616) = l.length % 8 := shN_u (by omega) (by simp [IntKind.bits]; omega) (by decide)
      rw [hsh, shl_cast, show (((textB l).getD ((textB l).length - 1) 0).toNat * 2 ^ (l.length % 8) : Nat) = _ from rfl]
      have e : ((((textB l).getD ((textB l).length - 1) 0).toNat * 2 ^ (l.length % 8) : Nat) : Int) % 256 = 0 := by omega
      rw [e]
      exact out
    · exact out
  (refine hK _ ?_; clear hK)
  exact VC_ret (VX_ret1 rfl rfl ⟨hH.sub (by simp), rfl⟩)
def piecesV (ls : List (List Bool)) : List Value := ls.flatMap bitsV
theorem piecesV_length (ls : List (List Bool)) : (piecesV ls).length = ls.length * 2 := by
  induction ls with
  | nil => rfl
  | cons l ls ih => simp only [piecesV, List.flatMap_cons, List.length_append] at ih ⊢; rw [ih]; simp [bitsV]; omega
theorem piecesV_get (ls : List (List Bool)) : ∀ (i : Nat) (l : List Bool), ls[i]? = some l → ∀ j u, (bitsV l)[j]? = some u → (piecesV ls)[i * 2 + j]? = some u := by
  induction ls with
  | nil => intro i l h; simp at h
  | cons x ls ih =>
    intro i l h j u hu
    have hj : j < 2 := by have := (List.getElem?_eq_some_iff.1 hu).1; simpa [bitsV] using this
    cases i with
    | zero =>
      simp at h; subst h
      simp only [piecesV, List.flatMap_cons]
      rw [List.getElem?_append_left (by simp [bitsV]; omega)]
      simpa using hu
    | succ i =>
      have := ih i l (by simpa using h) j u hu
      simp only [piecesV, List.flatMap_cons] at this ⊢
      rw [List.getElem?_append_right (by simp [bitsV]; omega)]
      rw [← this]
      congr 1
      simp [bitsV]; omega
theorem join_does (ls : List (List Bool)) (p : Addr) (hp : p.spot = none) (cap : Nat) (w : World) (hl : RS w (some p) ls.length 2 (piecesV ls)) (hs : ls.flatten.length ≤ 10000000000000) (hls : ls.length ≤ 1000000000) :
    Does Tryz.prog 59 #[.slice (some p) ls.length cap] w fun x w' => Heap w [] w' [] ∧ x = .tuple #[BitsV ls.flatten, .int .i64 0] := by
  refine Does_enter (args := [.slice (some p) ls.length cap]) 43 Tryz.func59 rfl rfl (of_decide_eq_true rfl) ?_
  simp only [Env.ofArgs]
  refine VR [0, 2] rfl rfl fun K hK => ?_; simp only [go_sem,↓reduceIte,Nat.reduceEqDiff]
  refine MemK_alloc (.agg #[.string ⟨#[]⟩, .int .i64 0]) (by kernel_rfl) ?_
  simp only [go_sem,↓reduceIte,Nat.reduceEqDiff]
  have hH := (Heap.start w).box 100 [.string ⟨#[]⟩, .int .i64 0]
  generalize w.alloc (Obj.cells [Value.string ⟨#[]⟩, .int .i64 0].toArray 100) = w1 at *
  generalize w.heap.size = gr at *
  (refine hK _ _ ?_; clear hK)
  refine VR [0, 2, 4] rfl rfl fun K hK => ?_; simp only [go_sem,↓reduceIte,Nat.reduceEqDiff]
  refine MemK_call Tryz.call56 ?_; simp only [go_sem,↓reduceIte,Nat.reduceEqDiff]; refine CallK.mk (newWriter_does w1) ?_
  rintro v w2 ⟨gw, hH2, rfl⟩
  (refine hK _ _ ?_; clear hK)
  have hH3 := hH.call0 hH2
  clear hH hH2
  refine VR [2, 4, 11, 12, 13] rfl rfl fun K hK => ?_; simp only [go_sem,↓reduceIte,Nat.reduceEqDiff]
  (refine hK _ _ ?_; clear hK)
  ((repeat refine VC_seq ?_); refine VC_block ?_)
  refine VC_loopS [2, 4, 11, 12, 13] (fun m e w' => ∃ (i : Nat) (a : Option Addr) (c : Nat), Is e [(2, .pointer (some ⟨gr, 0, none⟩)), (4, .pointer (some ⟨gw, 0, none⟩)), (11, .slice (some p) ls.length cap), (12, .int .i64 ls.length), (13, .int .i64 i)] ∧ Heap w [] w' [wr gw a c (ls.take i).flatten, Res.blk gr 100 [.string ⟨#[]⟩, .int .i64 0]] ∧ i ≤ ls.length ∧ m = ls.length - i) ls.length ?_ ?_
  · simp only [go_sem,↓reduceIte,Nat.reduceEqDiff]
    exact ⟨0, none, 0, rfl, hH3, by omega, rfl⟩
  clear hH3
  rintro m e w' ⟨i, a, c, rfl, hH, hi, rfl⟩
  refine VR [2, 4, 11, 12, 13, 14] rfl rfl fun K hK => ?_; simp only [go_sem,↓reduceIte,Nat.reduceEqDiff]
  (refine hK _ _ ?_; clear hK)
  (repeat refine VC_seq ?_)
  refine VC_cond rfl rfl (fun h => ?_) (fun h => ?_)
  · simp only [decide_eq_true_eq] at h
    refine VC_skip ?_
    ((repeat refine VC_seq ?_); refine VC_block ?_)
    have hi' : i < ls.length := by omega
    have hli : ls[i]? = some ls[i] := List.getElem?_eq_getElem hi'
    have htk : (ls.take (i + 1)).flatten = (ls.take i).flatten ++ ls[i] := by rw [List.take_add_one, hli, Option.toList_some, List.flatten_append, List.flatten_singleton]
    have hfl : (ls.take (i + 1)).flatten.length ≤ ls.flatten.length := by
      have : ls.flatten = (ls.take (i + 1)).flatten ++ (ls.drop (i + 1)).flatten := by rw [← List.flatten_append, List.take_append_drop]
      rw [this]; simp
    rw [htk, List.length_append] at hfl
    generalize hlx : ls[i] = l at *
    generalize (ls.take i).flatten = acc at *
    have htl := textB_length l
    have hrd := rs_part (hH.rs' hl) hp (i * 2) (bitsV l) (fun j u hu => piecesV_get ls i l hli j u hu)
    refine VR [2, 4, 6, 11, 12, 13] rfl rfl fun K hK => ?_; simp only [go_sem,↓reduceIte,Nat.reduceEqDiff]
    refine ⟨⟨by omega, by omega⟩, bitsV l, ⟨rfl, hrd⟩, ?_⟩
    refine MemK_alloc (.agg #[.string ⟨#[]⟩, .int .i64 0]) (by kernel_rfl) ?_
    simp only [go_sem,↓reduceIte,Nat.reduceEqDiff]
    have hH1 := hH.box 100 [.string ⟨#[]⟩, .int .i64 0]
    generalize w'.alloc (Obj.cells [Value.string ⟨#[]⟩, .int .i64 0].toArray 100) = w1 at *
    generalize w'.heap.size = gb at *
    refine MemK_store ?_
    simp only [go_sem,↓reduceIte,Nat.reduceEqDiff]
    refine StoreK_blk hH1 0 (vs := bitsV l) rfl rfl (by kernel_rfl) (by simp [bitsV]) (by simp [bitsV, Value.oneCell']) fun w2 hH2 => ?_
    have hH2 : Heap w [] w2 [Res.blk gb 100 (bitsV l), wr gw a c acc, Res.blk gr 100 [.string ⟨#[]⟩, .int .i64 0]] := hH2
    clear hH1 hH
    (refine hK _ _ ?_; clear hK)
    refine VR [2, 4, 6, 11, 12, 13, 19] rfl rfl fun K hK => ?_; simp only [go_sem,↓reduceIte,Nat.reduceEqDiff]
    refine ⟨bitsV l, ⟨rfl, blk_reads (hH2.at 0 rfl)⟩, ?_⟩
    refine MemK_call Tryz.call103 ?_; simp only [go_sem,↓reduceIte,Nat.reduceEqDiff]; refine CallK.mk (may_does l w2 (by omega)) ?_
    rintro v w3 ⟨hHm, rfl⟩
    simp only [go_sem,↓reduceIte,Nat.reduceEqDiff]
    (refine hK _ _ ?_; clear hK)
    have hH3 := hH2.call0 hHm
    clear hH2 hHm
    refine VC_cond rfl rfl (fun h => by simp at h) (fun h => VC_skip ?_)
    refine VR [2, 4, 6, 7, 11, 12, 13] rfl rfl fun K hK => ?_; simp only [go_sem,↓reduceIte,Nat.reduceEqDiff]
    (repeat (first | refine And.intro (by omega) ?_ | refine ⟨⟨by omega, by omega⟩, ?_⟩ | (refine ⟨_, (by first | exact blk_cell (hH3.at 0 rfl) rfl | exact row_cell (hH3.at 0 rfl) (bytesV_get (by omega)) | exact row_cell (hH3.at 0 rfl) (intsV_get (by omega)) | exact blk_cell (hH3.at 1 rfl) rfl | exact row_cell (hH3.at 1 rfl) (bytesV_get (by omega)) | exact row_cell (hH3.at 1 rfl) (intsV_get (by omega)) | exact blk_cell (hH3.at 2 rfl) rfl | exact row_cell (hH3.at 2 rfl) (bytesV_get (by omega)) | exact row_cell (hH3.at 2 rfl) (intsV_get (by omega)) | exact blk_cell (hH3.at 3 rfl) rfl | exact row_cell (hH3.at 3 rfl) (bytesV_get (by omega)) | exact row_cell (hH3.at 3 rfl) (intsV_get (by omega))), ?_⟩; (try simp only [go_sem,↓reduceIte,Nat.reduceEqDiff]))))
    refine MemK_call Tryz.call104 ?_; simp only [go_sem,↓reduceIte,Nat.reduceEqDiff]; refine CallK.mk (newReader_does (textB l) 0 w3 (I64.mk (by omega) (by omega)) (by omega)) ?_
    rintro v w4 (⟨hbad, _⟩ | ⟨_, grd, gs, hHr, rfl⟩)
    · exact absurd hbad (by omega)
    (refine hK _ _ ?_; clear hK)
    have hH4 := hH3.call0 hHr
    clear hH3 hHr
    refine VR [2, 4, 7, 11, 12, 13, 25, 26] rfl rfl fun K hK => ?_; simp only [go_sem,↓reduceIte,Nat.reduceEqDiff]
    (repeat (first | refine And.intro (by omega) ?_ | refine ⟨⟨by omega, by omega⟩, ?_⟩ | (refine ⟨_, (by first | exact blk_cell (hH4.at 0 rfl) rfl | exact row_cell (hH4.at 0 rfl) (bytesV_get (by omega)) | exact row_cell (hH4.at 0 rfl) (intsV_get (by omega)) | exact blk_cell (hH4.at 1 rfl) rfl | exact row_cell (hH4.at 1 rfl) (bytesV_get (by omega)) | exact row_cell (hH4.at 1 rfl) (intsV_get (by omega)) | exact blk_cell (hH4.at 2 rfl) rfl | exact row_cell (hH4.at 2 rfl) (bytesV_get (by omega)) | exact row_cell (hH4.at 2 rfl) (intsV_get (by omega)) | exact blk_cell (hH4.at 3 rfl) rfl | exact row_cell (hH4.at 3 rfl) (bytesV_get (by omega)) | exact row_cell (hH4.at 3 rfl) (intsV_get (by omega))), ?_⟩; (try simp only [go_sem,↓reduceIte,Nat.reduceEqDiff]))))
    (refine hK _ _ ?_; clear hK)
    have hH5 : Heap w [] w4 [rd grd gs (textB l) 0, wr gw a c acc, Res.blk gr 100 [.string ⟨#[]⟩, .int .i64 0]] := hH4.sub (by simp)
    clear hH4
    ((repeat refine VC_seq ?_); refine VC_block ?_)
    refine VC_loopS [2, 4, 7, 11, 12, 13, 25, 26] (fun m e w' => ∃ (k : Nat) (a : Option Addr) (c : Nat), Is e [(2, .pointer (some ⟨gr, 0, none⟩)), (4, .pointer (some ⟨gw, 0, none⟩)), (7, .pointer (some ⟨grd, 0, none⟩)), (11, .slice (some p) ls.length cap), (12, .int .i64 ls.length), (13, .int .i64 i), (25, .int .i64 l.length), (26, .int .i64 k)] ∧ Heap w [] w' [rd grd gs (textB l) k, wr gw a c (acc ++ l.take k), Res.blk gr 100 [.string ⟨#[]⟩, .int .i64 0]] ∧ k ≤ l.length ∧ m = l.length - k) l.length ?_ ?_
    · simp only [go_sem,↓reduceIte,Nat.reduceEqDiff]
      exact ⟨0, a, c, rfl, by simpa using hH5, by omega, rfl⟩
    clear hH5
    rintro m e w5 ⟨k, a1, c1, rfl, hH, hk, rfl⟩
    refine VR [2, 4, 7, 11, 12, 13, 25, 26, 27] rfl rfl fun K hK => ?_; simp only [go_sem,↓reduceIte,Nat.reduceEqDiff]
    (refine hK _ _ ?_; clear hK)
    (repeat refine VC_seq ?_)
    refine VC_cond rfl rfl (fun h => ?_) (fun h => ?_)
    · simp only [decide_eq_true_eq] at h
      refine VC_skip ?_
      ((repeat refine VC_seq ?_); refine VC_block ?_)
      have htb : (bytesB (textB l)).getD k false = l.getD k false := by
        rw [textB_bits, List.getD_eq_getElem?_getD, List.getElem?_append_left (by omega), List.getD_eq_getElem?_getD]
      have hbl := bytesB_length (textB l)
      have hnum : numB (((bytesB (textB l)).drop k).take 1) = (l.getD k false).toNat := by
        rw [drop_getD false (by omega), htb]; cases l.getD k false <;> rfl
      refine VR [2, 4, 7, 8, 11, 12, 13, 25, 26] rfl rfl fun K hK => ?_; simp only [go_sem,↓reduceIte,Nat.reduceEqDiff]
      refine MemK_call Tryz.call105 ?_; simp only [go_sem,↓reduceIte,Nat.reduceEqDiff]; refine CallK.mk (rtake_does grd gs (textB l) k 1 w5 (by omega) (by omega) (by omega) (hH.focus 0 rfl)) ?_
      rintro v w6 (⟨hbad, _⟩ | ⟨_, hHr, rfl⟩)
      · exact absurd hbad (by omega)
      rw [hnum]
      (refine hK _ _ ?_; clear hK)
      have hH2 := hH.call1 0 rfl hHr
      clear hHr hH
      have htl2 := textB_length (acc ++ l.take k)
      have hbt : (l.getD k false).toNat < 2 ^ 1 := by cases l.getD k false <;> simp
      refine VR [2, 4, 7, 11, 12, 13, 25, 26] rfl rfl fun K hK => ?_; simp only [go_sem,↓reduceIte,Nat.reduceEqDiff]
      refine MemK_call Tryz.call57 ?_; simp only [go_sem,↓reduceIte,Nat.reduceEqDiff]; refine CallK.mk (put_does gw a1 c1 (acc ++ l.take k) (l.getD k false).toNat 1 w6 (by omega) hbt (by simp; omega) (hH2.focus 1 rfl)) ?_
      rintro v w7 ⟨a2, c2, hHw, rfl⟩
      (refine hK _ _ ?_; clear hK)
      have hH3 := hH2.call1 1 rfl hHw
      clear hHw hH2
      have hb1 : bitsN 1 (l.getD k false).toNat = [l.getD k false] := by cases l.getD k false <;> rfl
      rw [hb1, List.append_assoc, ← take_getD false (show k < l.length by omega)] at hH3
      refine VC_blk ?_
      refine VR [2, 4, 7, 11, 12, 13, 25, 26] rfl rfl fun K hK => ?_; simp only [go_sem,↓reduceIte,Nat.reduceEqDiff]
      ((repeat refine And.intro (by omega) ?_); refine hK _ _ ?_; clear hK)
      refine VC_again ?_
      simp only [go_sem,↓reduceIte,Nat.reduceEqDiff]
      exact ⟨l.length - (k + 1), by omega, k + 1, a2, c2, rfl, hH3, by omega, rfl⟩
    · simp only [decide_eq_false_iff_not] at h
      refine VC_exit rfl ?_
      refine VC_blk ?_
      refine VR [2, 4, 11, 12, 13] rfl rfl fun K hK => ?_; simp only [go_sem,↓reduceIte,Nat.reduceEqDiff]
      ((repeat refine And.intro (by omega) ?_); refine hK _ _ ?_; clear hK)
      refine VC_again ?_
      simp only [go_sem,↓reduceIte,Nat.reduceEqDiff]
      rw [List.take_of_length_le (by omega), ← htk] at hH
      exact ⟨ls.length - (i + 1), by omega, i + 1, a1, c1, rfl, hH.sub (by simp), by omega, rfl⟩
  · simp only [decide_eq_false_iff_not] at h
    refine VC_exit rfl ?_
    rw [List.take_of_length_le (by omega)] at hH
    refine VR [2, 3] rfl rfl fun K hK => ?_; simp only [go_sem,↓reduceIte,Nat.reduceEqDiff]
    refine MemK_call Tryz.call60 ?_; simp only [go_sem,↓reduceIte,Nat.reduceEqDiff]; refine CallK.mk (text_does gw a c _ w' (hH.at 0 rfl)) ?_
    rintro v w2 ⟨rfl, rfl⟩
    refine MemK_call Tryz.call61 ?_; simp only [go_sem,↓reduceIte,Nat.reduceEqDiff]; refine CallK.mk (len_does gw a c _ w2 (hH.at 0 rfl)) ?_
    rintro v w3 ⟨rfl, rfl⟩
    simp only [go_sem,↓reduceIte,Nat.reduceEqDiff]
    refine MemK_store ?_
    simp only [go_sem,↓reduceIte,Nat.reduceEqDiff]
    refine StoreK_blk hH 1 (vs := bitsV ls.flatten) rfl rfl (by kernel_rfl) (by simp [bitsV]) (by simp [bitsV, Value.oneCell']) fun w4 hH2 => ?_
    have hH2 : Heap w [] w4 [wr gw a c ls.flatten, Res.blk gr 100 (bitsV ls.flatten)] := hH2
    (refine hK _ _ ?_; clear hK)
    refine VC_ret (VX_retC2 rfl rfl rfl (vLoad_blk (hH2.at 1 rfl) (by kernel_rfl) (by kernel_rfl) rfl ?_))
    exact ⟨hH2.sub (by simp), rfl⟩
end Go.Proofs.YtoioaddfachjhaaGreatDoor
namespace Go.Ev
open Go Go.Eng Go.Proofs Go.Proofs.YtoioaddfachjhaaGreatDoor
set_option linter.unusedVariables false
set_option linter.constructorNameAsVariable false
set_option linter.unusedSimpArgs false
noncomputable section
def forceBL (l : List Bool) : (List Bool → Bool) → Bool := List.rec (motive := fun _ => (List Bool → Bool) → Bool) (fun k => k []) (fun a _ ih k => forceB a fun a => ih fun l => k (a :: l)) l
def bytesBK (l : List Nat) : (List Bool → Bool) → Bool := List.rec (motive := fun _ => (List Bool → Bool) → Bool) (fun c => c [])
  (fun a _ ih c => ih fun r => forceBL [bit a 7, bit a 6, bit a 5, bit a 4, bit a 3, bit a 2, bit a 1, bit a 0] fun b => c (List.append b r)) l
def textK (l : List Bool) : Nat → Nat → (List Nat → Bool) → Bool := List.rec (motive := fun _ => Nat → Nat → (List Nat → Bool) → Bool)
  (fun a k c => Bool.rec (forceN (Nat.mul a (Nat.pow 2 (Nat.sub 8 k))) fun x => Bool.rec false (c [x]) (Nat.blt x 256)) (c []) (Nat.beq k 0))
  (fun b _ ih a k c => forceN (Nat.add (Nat.mul 2 a) (Bool.rec 0 1 b)) fun x => Bool.rec (forceN (Nat.succ k) fun k => ih x k c) (ih 0 0 fun r => Bool.rec false (c (x :: r)) (Nat.blt x 256)) (Nat.beq k 7)) l
def pieceK (ih : List AV → (List Bool → Bool) → Bool) (l : List AV) (c : List Bool → Bool) : Bool := match l with
    | [] => c []
    | .str t :: .int .i64 (.ofNat n) :: r => bytesBK t fun bs => forceBL (bs.take n) fun p => textK p 0 0 fun t' => lenL p fun k => Bool.rec false (Bool.rec false (ih r fun q => forceBL (List.append p q) c) (Nat.beq k n)) (eqL t t')
    | _ => false
def piecesK (fuel : Nat) : List AV → (List Bool → Bool) → Bool := Nat.rec (motive := fun _ => List AV → (List Bool → Bool) → Bool) (fun _ _ => false)
  (fun _ ih => pieceK ih) fuel
def joinK (m : Nat) (l : List AV) (c : KV) : Bool :=
  Bool.rec false (lenL l fun k => piecesK (Nat.succ k) l fun bs => textK bs 0 0 fun t => lenL bs fun k => Bool.rec false (c (.tup [.agg [.str t, .int .i64 (.ofNat k)], .int .i64 (.ofNat 0)])) (Nat.ble k 10000000000000)) (Nat.blt 0 m && Nat.ble m 1000000000)
end
theorem forceBL_eq (l : List Bool) : ∀ k : List Bool → Bool, forceBL l k = k l := by
  induction l with
  | nil => intro k; rfl
  | cons a l ih => intro k; show forceB a (fun a => forceBL l fun l => k (a :: l)) = _; rw [forceB_eq]; exact ih _
theorem bitsN8 {a : Nat} (ha : a < 256) : bitsN 8 (UInt8.ofNat a).toNat = [bit a 7, bit a 6, bit a 5, bit a 4, bit a 3, bit a 2, bit a 1, bit a 0] := by
  rw [ofNat_toNat ha]
  simp only [testBit_bit]; rfl
theorem bytesBK_s : ∀ (l : List Nat) (c : List Bool → Bool), (∀ x ∈ l, x < 256) → bytesBK l c = c (bytesB (l.map UInt8.ofNat)) := by
  intro l
  induction l with
  | nil => intro c _; rfl
  | cons a l ih =>
    intro c h
    show bytesBK l (fun r => forceBL [bit a 7, bit a 6, bit a 5, bit a 4, bit a 3, bit a 2, bit a 1, bit a 0] fun b => c (List.append b r)) = _
    rw [ih _ fun x hx => h x (List.mem_cons_of_mem _ hx), forceBL_eq, List.map_cons, bytesB_cons, bitsN8 (h a List.mem_cons_self)]
    rfl
theorem textK_s : ∀ (l : List Bool) (a k : Nat) {c : List Nat → Bool}, textK l a k c = true → ∃ t, c t = true ∧ (∀ x ∈ t, x < 256) ∧ t.map UInt8.ofNat = textGo l a k := by
  intro l
  induction l with
  | nil =>
    intro a k c h
    rcases brec_t (show (Bool.rec (forceN (a * 2 ^ (8 - k)) fun x => Bool.rec false (c [x]) (Nat.blt x 256)) (c []) (Nat.beq k 0) : Bool) = true from h) with ⟨h1, h2⟩ | ⟨h1, h2⟩
    · have := Nat.eq_of_beq_eq_true h1; subst this
      exact ⟨[], h2, by simp, by simp [textGo]⟩
    · have h1 := Nat.ne_of_beq_eq_false h1
      rw [forceN_eq] at h2
      obtain ⟨h3, h4⟩ := brec_f h2
      exact ⟨_, h4, fun x hx => by simp at hx; subst hx; exact Nat.blt_eq.mp h3, by simp [textGo, h1]⟩
  | cons b l ih =>
    intro a k c h
    have h : forceN (Nat.add (Nat.mul 2 a) (Bool.rec 0 1 b)) (fun x => Bool.rec (forceN (Nat.succ k) fun k => textK l x k c) (textK l 0 0 fun r => Bool.rec false (c (x :: r)) (Nat.blt x 256)) (Nat.beq k 7)) = true := h
    rw [forceN_eq] at h
    have e : (Nat.add (Nat.mul 2 a) (Bool.rec 0 1 b) : Nat) = 2 * a + b.toNat := by cases b <;> rfl
    rw [e] at h
    rcases brec_t h with ⟨h1, h2⟩ | ⟨h1, h2⟩
    · have h1 := Nat.eq_of_beq_eq_true h1
      obtain ⟨t, h3, h4, h5⟩ := ih 0 0 h2
      obtain ⟨h6, h7⟩ := brec_f h3
      exact ⟨_, h7, fun x hx => by
        rcases List.mem_cons.1 hx with rfl | hx
        · exact Nat.blt_eq.mp h6
        · exact h4 x hx, by simp [textGo, h1, h5]⟩
    · have h1 := Nat.ne_of_beq_eq_false h1
      rw [forceN_eq] at h2
      obtain ⟨t, h3, h4, h5⟩ := ih _ _ h2
      exact ⟨t, h3, h4, by simp [textGo, h1]; exact h5⟩
theorem piecesK_s {s : Mp} : ∀ (f : Nat) {l : List AV} {vs : List Value} {c : List Bool → Bool}, piecesK f l c = true → RelL s l vs → ∃ ls : List (List Bool), vs = piecesV ls ∧ c ls.flatten = true := by
  intro f
  induction f with
  | zero => intro l vs c h; cases h
  | succ f ih =>
    intro l vs c h hr
    have h : pieceK (piecesK f) l c = true := h
    unfold pieceK at h
    split at h
    · obtain rfl := hr.nil_inv
      exact ⟨[], rfl, h⟩
    · rename_i t n r _
      obtain ⟨u, vs', rfl, h1, h2⟩ := hr.cons_inv
      obtain ⟨u2, vs2, rfl, h3, h4⟩ := h2.cons_inv
      obtain rfl := h3.int_inv
      cases h1 with | str _ ht =>
      rw [bytesBK_s _ _ ht, forceBL_eq] at h
      obtain ⟨t', h5, h6, h7⟩ := textK_s _ _ _ h
      rw [lenL_eq] at h5
      obtain ⟨h8, h9⟩ := brec_f h5
      obtain ⟨h10, h11⟩ := brec_f h9
      rw [eqL_eq] at h8
      have h8 := of_decide_eq_true h8
      subst h8
      have h10 := Nat.eq_of_beq_eq_true h10
      obtain ⟨ls, h12, h13⟩ := ih h11 h4
      rw [forceBL_eq] at h13
      refine ⟨(bytesB (t.map UInt8.ofNat)).take n :: ls, ?_, h13⟩
      rw [h12]
      show _ = bitsV _ ++ piecesV ls
      have e1 : strV t = Str (textB ((bytesB (t.map UInt8.ofNat)).take n)) := by
        exact congrArg Str h7
      rw [bitsV, ← e1, h10]
      rfl
    · cases h
theorem join_row (he : ∀ (w : World) (vs : Array Value), (callFunc 59 vs).run Tryz.prog w = .ok (.enter 59 vs) w) : RwFact Tryz.prog 59 (2, joinK) := by
  intro m l c hk s w vs a cap hr hrs hsp
  refine ⟨he, ?_⟩
  obtain ⟨h1, h2⟩ := brec_f (show (Bool.rec false (lenL l fun k => piecesK (Nat.succ k) l fun bs => textK bs 0 0 fun t => lenL bs fun k => Bool.rec false (c (.tup [.agg [.str t, .int .i64 (.ofNat k)], .int .i64 (.ofNat 0)])) (Nat.ble k 10000000000000)) (Nat.blt 0 m && Nat.ble m 1000000000) : Bool) = true from hk)
  simp only [Bool.and_eq_true] at h1
  have h0 : 0 < m := Nat.blt_eq.mp h1.1
  have hm : m ≤ 1000000000 := Nat.le_of_ble_eq_true h1.2
  rw [lenL_eq] at h2
  obtain ⟨ls, rfl, h3⟩ := piecesK_s _ h2 hr
  obtain ⟨t, h4, h5, h6⟩ := textK_s _ _ _ h3
  rw [lenL_eq] at h4
  obtain ⟨h7, h8⟩ := brec_f h4
  have h7 : ls.flatten.length ≤ 10000000000000 := Nat.le_of_ble_eq_true h7
  obtain ⟨r1, r2, r3⟩ := hrs
  cases a with
  | none => have := r2 rfl; omega
  | some p =>
  have hp : p.spot = none := by
    rcases hsp with h | h
    · omega
    · exact h p rfl
  have hm2 : ls.length = m := by rw [piecesV_length] at r1; omega
  subst hm2
  have hj := join_does ls p hp cap w ⟨r1, r2, r3⟩ h7 hm 0
  rw [drewN0] at hj
  refine hj.mono fun e w' hx => ?_
  obtain ⟨v, w1, k, rfl, rfl, hH, rfl⟩ := hx
  refine ⟨_, _, rfl, ?_, h8, hH.upd.drewN 0 k⟩
  have e1 : BitsV ls.flatten = .agg #[strV t, .int .i64 (.ofNat ls.flatten.length)] := by
    show Value.agg #[Str (textB ls.flatten), .int .i64 ls.flatten.length] = _
    rw [show Str (textB ls.flatten) = strV t from congrArg Str h6.symm]
    rfl
  rw [e1]
  exact .tup (.cons (.agg (.cons (.str t h5) (.cons (.int _ _) .nil))) (.cons (.int _ _) .nil))
end Go.Ev
namespace Go.Proofs.YtoioaddfachjhaaGreatDoor
open Go.Shelf
def laysRep_ren : Go.Shelf.Ren := ⟨fun | 105 => 62 | 212 => 106 | 99 => 38 | 165 => 107 | 166 => 89 | 170 => 108 | 169 => 90 | 263 => 160 | 264 => 161 | 206 => 69 | 240 => 143 | 241 => 162 | 276 => 186 | 277 => 199 | n => n, fun | 9 => 9 | 3 => 3 | 4 => 4 | 20 => 20 | 0 => 0 | 46 => 90 | 109 => 171 | 5 => 5 | 72 => 144 | 76 => 148 | 51 => 108 | 146 => 221 | 53 => 113 | 148 => 223 | 70 => 142 | 37 => 60 | 75 => 147 | 127 => 205 | 164 => 242 | 80 => 116 | n => n, fun | n => n⟩
theorem laysRep : Go.Proofs.Lays.n105 Tryz.prog laysRep_ren := {
  mixed := by kernel_rfl
  f99 := Tryz.func38.trans (congrArg some (by kernel_rfl))
  f105 := Tryz.func62.trans (congrArg some (by kernel_rfl))
  f165 := Tryz.func107.trans (congrArg some (by kernel_rfl))
  f166 := Tryz.func89.trans (congrArg some (by kernel_rfl))
  f169 := Tryz.func90.trans (congrArg some (by kernel_rfl))
  f170 := Tryz.func108.trans (congrArg some (by kernel_rfl))
  f206 := Tryz.func69.trans (congrArg some (by kernel_rfl))
  f212 := Tryz.func106.trans (congrArg some (by kernel_rfl))
  f240 := Tryz.func143.trans (congrArg some (by kernel_rfl))
  f241 := Tryz.func162.trans (congrArg some (by kernel_rfl))
  f263 := Tryz.func160.trans (congrArg some (by kernel_rfl))
  f264 := Tryz.func161.trans (congrArg some (by kernel_rfl))
  f276 := Tryz.func186.trans (congrArg some (by kernel_rfl))
  f277 := Tryz.func199.trans (congrArg some (by kernel_rfl))
  t0 := Tryz.underlying0
  a0 := Tryz.isAgg0
  z0 := Tryz.sizeOf0
  v0 := Tryz.zeroValue0
  t3 := Tryz.underlying3
  a3 := Tryz.isAgg3
  z3 := Tryz.sizeOf3
  v3 := Tryz.zeroValue3
  t4 := Tryz.underlying4
  a4 := Tryz.isAgg4
  z4 := Tryz.sizeOf4
  v4 := Tryz.zeroValue4
  t5 := Tryz.underlying5
  a5 := Tryz.isAgg5
  z5 := Tryz.sizeOf5
  v5 := Tryz.zeroValue5
  t9 := Tryz.underlying9
  a9 := Tryz.isAgg9
  z9 := Tryz.sizeOf9
  v9 := Tryz.zeroValue9
  t20 := Tryz.underlying20
  a20 := Tryz.isAgg20
  z20 := Tryz.sizeOf20
  v20 := Tryz.zeroValue20
  t37 := Tryz.underlying60
  a37 := Tryz.isAgg60
  z37 := Tryz.sizeOf60
  v37 := Tryz.zeroValue60
  t46 := Tryz.underlying90
  a46 := Tryz.isAgg90
  z46 := Tryz.sizeOf90
  v46 := Tryz.zeroValue90
  t51 := Tryz.underlying108
  a51 := Tryz.isAgg108
  z51 := Tryz.sizeOf108
  v51 := Tryz.zeroValue108
  t53 := Tryz.underlying113
  a53 := Tryz.isAgg113
  z53 := Tryz.sizeOf113
  v53 := Tryz.zeroValue113
  t70 := Tryz.underlying142
  a70 := Tryz.isAgg142
  z70 := Tryz.sizeOf142
  v70 := Tryz.zeroValue142
  t72 := Tryz.underlying144
  a72 := Tryz.isAgg144
  z72 := Tryz.sizeOf144
  v72 := Tryz.zeroValue144
  t75 := Tryz.underlying147
  a75 := Tryz.isAgg147
  z75 := Tryz.sizeOf147
  v75 := Tryz.zeroValue147
  t76 := Tryz.underlying148
  a76 := Tryz.isAgg148
  z76 := Tryz.sizeOf148
  v76 := Tryz.zeroValue148
  t109 := Tryz.underlying171
  a109 := Tryz.isAgg171
  z109 := Tryz.sizeOf171
  v109 := Tryz.zeroValue171
  t127 := Tryz.underlying205
  a127 := Tryz.isAgg205
  z127 := Tryz.sizeOf205
  v127 := Tryz.zeroValue205
  t146 := Tryz.underlying221
  a146 := Tryz.isAgg221
  z146 := Tryz.sizeOf221
  v146 := Tryz.zeroValue221
  t148 := Tryz.underlying223
  a148 := Tryz.isAgg223
  z148 := Tryz.sizeOf223
  v148 := Tryz.zeroValue223
  t164 := Tryz.underlying242
  a164 := Tryz.isAgg242
  z164 := Tryz.sizeOf242
  v164 := Tryz.zeroValue242 }
theorem extraRep : Go.Proofs.Builder.Extra Tryz.prog laysRep_ren where
  sizeBuilder := by kernel_rfl
  liesBuilder := by kernel_rfl
  t5 := Tryz.underlying5
  a5 := Tryz.isAgg5
  z5 := Tryz.sizeOf5
  v5 := Tryz.zeroValue5
  infoByte := by kernel_rfl
  cellsByte := by kernel_rfl
  sizeByte := by kernel_rfl
  neB5 := by decide
end Go.Proofs.YtoioaddfachjhaaGreatDoor
namespace Go.Ev
open Go Go.Eng Go.Proofs Go.Proofs.YtoioaddfachjhaaGreatDoor
set_option linter.unusedVariables false
noncomputable def repL (l : List Nat) (n : Nat) : List Nat := Nat.rec (motive := fun _ => List Nat) [] (fun _ ih => List.append l ih) n
noncomputable def repeatK (l : List AV) : Option AV := match l with
  | [.str s, .int .i64 (.ofNat n)] => Bool.rec none (some (.str (repL s n))) (Nat.ble n 65536 && Nat.ble s.length 65536)
  | _ => none
theorem repL_s (l : List Nat) (n : Nat) : (repL l n).map UInt8.ofNat = Lib.repeatL (l.map UInt8.ofNat) n ∧ ((∀ x ∈ l, x < 256) → ∀ x ∈ repL l n, x < 256) := by
  induction n with
  | zero => exact ⟨rfl, fun _ x hx => (by cases hx)⟩
  | succ n ih =>
    have e : repL l (n + 1) = l ++ repL l n := rfl
    rw [e]
    refine ⟨?_, fun h x hx => ?_⟩
    · rw [List.map_append, ih.1]
      simp [Lib.repeatL]
    · rcases List.mem_append.1 hx with hx | hx
      · exact h x hx
      · exact ih.2 h x hx
theorem repeat_fn : TabFact Tryz.prog 62 repeatK := by
  intro l v hk
  unfold repeatK at hk
  split at hk
  · rename_i s n
    cases hb : (Nat.ble n 65536 && Nat.ble s.length 65536) with
    | false => rw [hb] at hk; cases hk
    | true =>
      rw [hb] at hk
      cases hk
      simp only [Bool.and_eq_true] at hb
      have h1 : n ≤ 65536 := Nat.le_of_ble_eq_true hb.1
      have h2 : s.length ≤ 65536 := Nat.le_of_ble_eq_true hb.2
      intro t w vs hr
      obtain ⟨u, vs', rfl, g1, g2⟩ := hr.cons_inv
      obtain ⟨u2, vs2, rfl, g3, g4⟩ := g2.cons_inv
      obtain rfl := g4.nil_inv
      obtain rfl := g3.int_inv
      cases g1 with | str _ hs =>
      refine ⟨fun w vs => enters_s Tryz.func62 rfl (by kernel_rfl) w vs, ?_⟩
      have hz : (⟨(s.map UInt8.ofNat).toArray⟩ : ByteArray).size = s.length := by simp [ByteArray.size]
      have hm := Any.strings_Repeat laysRep extraRep ⟨(s.map UInt8.ofNat).toArray⟩ n w (by omega) (by rw [hz]; exact Nat.le_trans (Nat.mul_le_mul h2 h1) (by decide))
      refine hm.mono fun e w' ⟨he, hw⟩ => ⟨_, he, ?_, ?_⟩
      · have e1 : strV (repL s n) = Value.string ⟨(Lib.repeatL (s.map UInt8.ofNat) n).toArray⟩ := by
          show Str _ = _
          rw [(repL_s s n).1]
        have := Rel.str (s := t) (repL s n) ((repL_s s n).2 hs)
        rw [e1] at this
        exact this
      · exact ⟨hw.os, hw.tape, hw.output, hw.size, fun k hk _ => hw.block k hk⟩
  · cases hk
end Go.Ev
