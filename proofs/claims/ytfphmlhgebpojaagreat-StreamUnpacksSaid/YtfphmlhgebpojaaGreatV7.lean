/- What the proof leans on, part 7: no conditions. -/
import Derived.Test.YtfphmlhgebpojaaGreatV6
open Nat (reduceEqDiff)
namespace Go.Proofs.YtfphmlhgebpojaaGreat
open Go Go.Eng Go.Ev
set_option maxRecDepth 100000
theorem awake13_does (w : World) : Does Tryz.prog 23 #[] w fun v w' => Heap w [] w' [] ∧ v = .bool true :=
  fact_true (((((((knownB.add make_ab).add make_c).add crc_ab).add crc_c).add unpack_0).add unpack_2).add unpack_abc) (by kernel_rfl) w
end Go.Proofs.YtfphmlhgebpojaaGreat
namespace Go.Proofs.YtfphmlhgebpojaaGreat
open Go Go.Eng
set_option maxRecDepth 100000
set_option maxHeartbeats 4000000
set_option linter.unusedSimpArgs false
set_option linter.unusedVariables false
theorem streamTakes_law (s : List UInt8) (at_ : Int) (ha : I64 at_) (w : World) :
    Does Tryz.prog 9 #[Str s, .int .i64 at_] w fun v w' => Heap w [] w' [] ∧ v = .bool true := by
  refine En [Str s, .int .i64 at_] 45 Tryz.func9 ?_
  refine VS [0, 1] ?_
  refine VS [0, 1, 13] ?_
  refine Vi (fun h => ?_) (fun h => VC_skip ?_)
  · refine VQ [4] fun K hK => ?_
    refine MemK_call Tryz.call23 ?_; refine Qs ?_; refine CallK.mk (awake13_does w) ?_
    rintro v w2 ⟨hH, rfl⟩
    (try refine Qs ?_)
    apply hK; clear hK
    exact VC_ret (VX_ret1 rfl rfl ⟨hH, rfl⟩)
  simp only [decide_eq_false_iff_not] at h
  have hs : s.length ≤ 500 := by omega
  clear h
  have hdt := fun w3 => dtake13_does s at_ w3 ha (by omega)
  refine VQ [0, 1, 5, 6, 7] fun K hK => ?_
  refine MemK_call Tryz.call26 ?_; refine Qs ?_; refine CallK.mk (streamTake_does s at_ w ha (by omega)) ?_
  rintro v w2 ⟨hH, rfl⟩
  generalize takeT s at_ = r at *
  obtain ⟨a1, a2, a3, hr⟩ : ∃ (a1 : List UInt8) (a2 a3 : Int), takeTV r = .tuple #[Str a1, .int .i64 a2, .int .i64 a3] := by
    cases r with
    | error e => exact ⟨_, _, _, rfl⟩
    | ok r => exact ⟨_, _, _, rfl⟩
  rw [hr] at hdt ⊢
  (try refine Qs ?_)
  apply hK; clear hK
  refine VQ [5, 6, 7, 8, 9, 10] fun K hK => ?_
  refine MemK_call Tryz.call27 ?_; refine Qs ?_; refine CallK.mk (hdt w2) ?_
  rintro v w4 ⟨hHt, rfl⟩
  have hH3 := hH.call0 hHt
  simp only [List.nil_append] at hH3
  clear hH hHt
  (try refine Qs ?_)
  apply hK; clear hK
  refine VQ [4] fun K hK => ?_
  (repeat refine ⟨fun _ => ?_, fun h => absurd trivial h⟩)
  refine MemK_call Tryz.call23 ?_; refine Qs ?_; refine CallK.mk (awake13_does w4) ?_
  rintro v w5 ⟨hHa, rfl⟩
  have hH4 := hH3.call0 hHa
  (try refine Qs ?_)
  apply hK; clear hK
  exact VC_ret (VX_ret1 rfl rfl ⟨hH4.sub (by simp), rfl⟩)
theorem streamUnpacks_law (s : List UInt8) (w : World) :
    Does Tryz.prog 10 #[Str s] w fun v w' => Heap w [] w' [] ∧ v = .bool true := by
  refine En [Str s] 32 Tryz.func10 ?_
  refine VS [0] ?_
  refine VS [0, 9] ?_
  refine Vi (fun h => ?_) (fun h => VC_skip ?_)
  · refine VQ [2] fun K hK => ?_
    refine MemK_call Tryz.call23 ?_; refine Qs ?_; refine CallK.mk (awake13_does w) ?_
    rintro v w2 ⟨hH, rfl⟩
    (try refine Qs ?_)
    apply hK; clear hK
    exact VC_ret (VX_ret1 rfl rfl ⟨hH, rfl⟩)
  simp only [decide_eq_false_iff_not] at h
  have hs : s.length ≤ 500 := by omega
  clear h
  have hdt := fun w3 => dunpack13_does s w3 (by omega)
  refine VQ [0, 3, 4] fun K hK => ?_
  refine MemK_call Tryz.call28 ?_; refine Qs ?_; refine CallK.mk (unpackT_does s w (by omega)) ?_
  rintro v w2 ⟨hH, rfl⟩
  generalize unpackT s = r at *
  obtain ⟨a1, a2, hr⟩ : ∃ (a1 : List UInt8) (a2 : Int), unpackV r = .tuple #[Str a1, .int .i64 a2] := by
    cases r with
    | error e => exact ⟨_, _, rfl⟩
    | ok r => exact ⟨_, _, rfl⟩
  rw [hr] at hdt ⊢
  (try refine Qs ?_)
  apply hK; clear hK
  refine VQ [3, 4, 5, 6] fun K hK => ?_
  refine MemK_call Tryz.call29 ?_; refine Qs ?_; refine CallK.mk (hdt w2) ?_
  rintro v w4 ⟨hHt, rfl⟩
  have hH3 := hH.call0 hHt
  simp only [List.nil_append] at hH3
  clear hH hHt
  (try refine Qs ?_)
  apply hK; clear hK
  refine VQ [2] fun K hK => ?_
  (repeat refine ⟨fun _ => ?_, fun h => absurd trivial h⟩)
  refine MemK_call Tryz.call23 ?_; refine Qs ?_; refine CallK.mk (awake13_does w4) ?_
  rintro v w5 ⟨hHa, rfl⟩
  have hH4 := hH3.call0 hHa
  (try refine Qs ?_)
  apply hK; clear hK
  exact VC_ret (VX_ret1 rfl rfl ⟨hH4.sub (by simp), rfl⟩)
end Go.Proofs.YtfphmlhgebpojaaGreat
