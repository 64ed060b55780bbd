/- What the proof leans on, part 4: no conditions. -/
import Derived.Test.YtfphmlhgebpojaaGreatV3
open Nat (reduceEqDiff)
namespace Go.Proofs.YtfphmlhgebpojaaGreat
open Go Go.Eng
set_option maxRecDepth 100000
set_option maxHeartbeats 4000000
set_option linter.unusedSimpArgs false
set_option linter.unusedVariables false
theorem blockTakes_law (s : List UInt8) (at_ most : Int) (ha : I64 at_) (hm : I64 most) (w : World) :
    Does Tryz.prog 4 #[Str s, .int .i64 at_, .int .i64 most] w fun v w' => Heap w [] w' [] ∧ v = .bool true := by
  refine En [Str s, .int .i64 at_, .int .i64 most] 67 Tryz.func4 ?_
  refine VS [0, 1, 2] ?_
  refine VQ [0, 1, 2, 25] fun K hK => ?_
  suffices out : ∀ b : Bool, (b = true ↔ 400 < s.length ∨ (3000 < most ∧ most ≤ 262144)) → K [(0, Str s), (1, .int .i64 at_), (2, .int .i64 most), (25, .bool b)] w by
    refine ⟨fun h => ⟨fun h2 => out _ (by simp at h h2 ⊢; omega), fun h2 => out _ (by simp at h h2 ⊢; omega)⟩, fun h => out _ (by simp at h ⊢; omega)⟩
  intro b hb
  apply hK; clear hK
  refine Vi (fun h => ?_) (fun h => VC_skip ?_)
  · refine VQ [6] fun K hK => ?_
    refine MemK_call Tryz.call15 ?_; refine Qs ?_; refine CallK.mk (awake12_does w) ?_
    rintro v w2 ⟨hH, rfl⟩
    (try refine Qs ?_)
    apply hK; clear hK
    exact VC_ret (VX_ret1 rfl rfl ⟨hH, rfl⟩)
  have hg : ¬ (400 < s.length ∨ (3000 < most ∧ most ≤ 262144)) := fun hh => by rw [hb.2 hh] at h; cases h
  clear hb h
  have hs : s.length ≤ 400 := by omega
  have hbl := bytesB_length s
  refine VQ [0, 1, 2, 7, 8, 9, 10] fun K hK => ?_
  refine MemK_call Tryz.call18 ?_; refine Qs ?_; refine CallK.mk (blockTake_does s at_ most w ha hm (by omega)) ?_
  rintro v w2 ⟨hH, rfl⟩
  have hdt := fun a c w3 h => dblockTake_does s a c at_ most ha hm (by omega) w3 h
  generalize takeF s at_ most = r at *
  obtain ⟨a1, a2, a3, a4, hr⟩ : ∃ (a1 : List UInt8) (a2 a3 a4 : Int), takeV r = .tuple #[Str a1, .int .u32 a2, .int .i64 a3, .int .i64 a4] := by
    cases r with
    | error e => exact ⟨_, _, _, _, rfl⟩
    | ok r => exact ⟨_, _, _, _, rfl⟩
  rw [hr] at hdt ⊢
  (try refine Qs ?_)
  apply hK; clear hK
  refine VQ [7, 8, 9, 10, 11, 12, 13, 14] fun K hK => ?_
  refine MemK_call Tryz.call20 ?_; refine Qs ?_; refine CallK.mk (dof_does s (by omega) w2) ?_
  rintro v w3 ⟨al, cl, hHl, rfl⟩
  rw [bI_len] at hHl ⊢
  have hH2 := hH.call0 hHl
  simp only [List.append_nil] at hH2
  clear hH hHl
  (try refine Qs ?_)
  refine MemK_call Tryz.call19 ?_; refine Qs ?_; refine CallK.mk (hdt al cl w3 (row_SL (hH2.at 0 rfl))) ?_
  rintro v w4 ⟨hHt, rfl⟩
  have hH3 := hH2.call0 hHt
  simp only [List.nil_append] at hH3
  clear hH2 hHt
  (try refine Qs ?_)
  apply hK; clear hK
  refine VQ [6] fun K hK => ?_
  (repeat refine ⟨fun _ => ?_, fun h => absurd trivial h⟩)
  refine MemK_call Tryz.call15 ?_; refine Qs ?_; refine CallK.mk (awake12_does w4) ?_
  rintro v w5 ⟨hHa, rfl⟩
  have hH4 := hH3.call0 hHa
  (try refine Qs ?_)
  apply hK; clear hK
  exact VC_ret (VX_ret1 rfl rfl ⟨hH4.sub (by simp), rfl⟩)
end Go.Proofs.YtfphmlhgebpojaaGreat
namespace Go.Proofs.YtfphmlhgebpojaaGreat
open Go Go.Eng Go.Ev
set_option maxRecDepth 100000
theorem unpack_0 : KnFact Tryz.prog 28 [.str []] (.tup [.str [], .int .i64 10]) := unpack_err (e := 10) (by kernel_rfl) (by kernel_rfl)
theorem unpack_2 : KnFact Tryz.prog 28 [.str [66, 90, 104, 49, 23, 114, 69, 56, 80, 144, 0, 0, 0, 0, 66, 90, 104, 49, 23, 114, 69, 56, 80, 144, 0, 0, 0, 0]] (.tup [.str [], .int .i64 0]) := unpack_fact (t := []) (by kernel_rfl) (by kernel_rfl) (by kernel_rfl)
theorem unpack_abc : KnFact Tryz.prog 28 [.str [66, 90, 104, 57, 49, 65, 89, 38, 83, 89, 233, 147, 253, 205, 0, 0, 0, 1, 0, 48, 0, 32, 0, 33, 0, 130, 179, 20, 21, 146, 101, 53, 145, 1, 26, 0, 80, 0, 0, 0, 16, 0, 128, 2, 0, 2, 17, 132, 104, 46, 228, 138, 112, 161, 33, 134, 108, 183, 60]] (.tup [.str [97, 98, 99], .int .i64 0]) := unpack_fact (t := [97, 98, 99]) (by kernel_rfl) (by kernel_rfl) (by kernel_rfl)
end Go.Proofs.YtfphmlhgebpojaaGreat
