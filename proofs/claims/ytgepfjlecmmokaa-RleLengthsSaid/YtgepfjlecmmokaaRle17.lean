/- Runs of bytes: the walk of the law on lengths. -/
import Derived.Test.YtgepfjlecmmokaaRle16
import Derived.Test.YtgepfjlecmmokaaEngE
namespace Go.Proofs.Ytgepfjlecmmokaa
open Go Go.Eng
set_option maxRecDepth 100000
set_option linter.unusedSimpArgs false
set_option linter.unusedVariables false

@[go_sem] theorem h_nilK {P : Program} {N : Nat} {ops : List Oper} {w0 w : World} {e : Env} {K : Env → World → Prop} : vcH P N ops w0 [] e w K = K e w := rfl

theorem law7_does (l : List UInt8) (b : UInt8) (w : World) (hs : l.length ≤ 140737488355327) :
    Does Try.prog 7 #[Str l, .int .u8 b.toNat] w fun v w' => Heap w [] w' [] ∧ v = .bool true := by
  have hel := enc_length l
  have hsn := enc_snoc' l b
  have hel2 := enc_length (l ++ [b])
  simp only [List.length_append, List.length_cons, List.length_nil] at hel2
  refine Does_enter (args := [Str l, .int .u8 b.toNat]) 39 Try.func7 rfl rfl (of_decide_eq_true rfl) ?_
  simp only [Env.ofArgs]
  (repeat refine VC_seq ?_); refine VC_region [0, 1] rfl fun K hK => ?_; simp only [go_sem, ↓reduceIte, Nat.reduceEqDiff, Nat.mul_one, Nat.zero_add]
  ((repeat (first | refine ⟨by omega, ?_⟩ | refine ⟨I64.mk (by omega) (by omega), ?_⟩)); refine hK _ _ ?_; clear hK; try clear K)
  (repeat refine VC_seq ?_)
  refine VC_regionT w (Ext.refl _) [0, 5, 6] (.two [(0, true), (3, true), (4, true)] 1 5 (.seq [(2, true), (5, false), (6, false), (7, true), (8, false), (9, true), (10, true), (11, true)]) (.two [] 1 6 (.seq [(2, true), (6, false), (7, true), (8, false), (9, true), (10, true), (11, true)]) (.seq [(7, true), (1, false), (2, true), (8, false), (9, true), (10, true), (11, true)]))) (by kernel_rfl) (by kernel_rfl) rfl fun K hK => ?_
  have last : ∀ w1, Heap w [] w1 [] → K [(0, Str l), (5, .int .i64 (enc l).length), (6, .int .i64 (enc (l ++ [b])).length)] w1 := by
    intro w1 hH
    (refine hK _ _ ?_; clear hK; try clear K)
    (repeat refine VC_seq ?_); refine VC_region [4] rfl fun K hK => ?_; simp only [go_sem, ↓reduceIte, Nat.reduceEqDiff, Nat.mul_one, Nat.zero_add]
    refine ⟨by omega, by omega, I64.mk (by omega) (by omega), I64.mk (by omega) (by omega), fun g1 => ⟨fun g2 => ⟨I64.mk (by omega) (by omega), fun g3 => ?_, fun h => absurd (by omega) h⟩, fun h => absurd (by omega) h⟩, fun h => absurd (by omega) h⟩
    simp only [decide_eq_true g1, decide_eq_true g2, decide_eq_true g3]
    refine MemK_call Try.call16 ?_; simp only [go_sem, ↓reduceIte, Nat.reduceEqDiff, Nat.mul_one, Nat.zero_add]
    refine CallK.mk (awake_does w1) ?_
    rintro v w4 ⟨hH4, rfl⟩
    (try simp only [go_sem, ↓reduceIte, Nat.reduceEqDiff, Nat.mul_one, Nat.zero_add])
    (refine hK _ _ ?_; clear hK; try clear K)
    exact VC_ret (VX_ret1 rfl rfl ⟨hH.call0 hH4, rfl⟩)
  clear hK
  simp only [vcT, planned, List.filterMap_cons, List.filterMap_nil, List.getElem?_cons_succ, List.getElem?_cons_zero, Option.map_some]
  simp only [go_sem, ↓reduceIte, Nat.reduceEqDiff, Nat.mul_one, Nat.zero_add]
  refine ⟨?_, ?_⟩
  · refine MemK_call Try.call14 ?_; simp only [go_sem, ↓reduceIte, Nat.reduceEqDiff, Nat.mul_one, Nat.zero_add]
    refine CallK.mk (enc_does l w (by omega)) ?_
    rintro v w2 ⟨hH, rfl⟩
    (try simp only [go_sem, ↓reduceIte, Nat.reduceEqDiff, Nat.mul_one, Nat.zero_add])
    refine ⟨hH.ext, ?_⟩
    refine MemK_lit (xs := [.tmp 11]) Try.underlying32 sz5 rfl rfl rfl (by omega) ?_
    simp only [go_sem, ↓reduceIte, Nat.reduceEqDiff, Nat.mul_one, Nat.zero_add]
    refine ⟨by simp [Value.cells], ?_⟩
    have hH' := hH.row 5 (n := 1) (cap := 1) (sz := 1) [Value.int .u8 b.toNat] [] (by simp) (by simp) (by omega) (by omega)
    simp only [List.append_nil] at hH'
    have hb : [Value.int .u8 b.toNat] = bytesV [b] := rfl
    rw [hb] at hH' ⊢
    generalize w2.alloc (Obj.cells (bytesV [b]).toArray 5) = w3 at hH' ⊢
    refine ⟨hH'.ext, [b], hH'.readsBytes 0 rfl, ?_⟩
    (try simp only [go_sem, ↓reduceIte, Nat.reduceEqDiff, Nat.mul_one, Nat.zero_add])
    refine ⟨by simp; omega, ?_⟩
    refine MemK_call Try.call14 ?_; simp only [go_sem, ↓reduceIte, Nat.reduceEqDiff, Nat.mul_one, Nat.zero_add]
    refine CallK.mk (enc_does (l ++ [b]) w3 (by simp; omega)) ?_
    rintro v w4 ⟨hH4, rfl⟩
    (try simp only [go_sem, ↓reduceIte, Nat.reduceEqDiff, Nat.mul_one, Nat.zero_add])
    refine ⟨(hH'.call0 hH4).ext, ?_⟩
    exact last _ ((hH'.call0 hH4).sub (by simp))
  · refine MemK_lit (xs := [.tmp 11]) Try.underlying32 sz5 rfl rfl rfl (by omega) ?_
    simp only [go_sem, ↓reduceIte, Nat.reduceEqDiff, Nat.mul_one, Nat.zero_add]
    refine ⟨by simp [Value.cells], ?_⟩
    have hH' := (Heap.start w).row 5 (n := 1) (cap := 1) (sz := 1) [Value.int .u8 b.toNat] [] (by simp) (by simp) (by omega) (by omega)
    simp only [List.append_nil] at hH'
    have hb : [Value.int .u8 b.toNat] = bytesV [b] := rfl
    rw [hb] at hH' ⊢
    generalize w.alloc (Obj.cells (bytesV [b]).toArray 5) = w3 at hH' ⊢
    refine ⟨hH'.ext, ?_⟩
    (try simp only [go_sem, ↓reduceIte, Nat.reduceEqDiff, Nat.mul_one, Nat.zero_add])
    refine ⟨?_, ?_⟩
    · refine MemK_call Try.call14 ?_; simp only [go_sem, ↓reduceIte, Nat.reduceEqDiff, Nat.mul_one, Nat.zero_add]
      refine CallK.mk (enc_does l w3 (by omega)) ?_
      rintro v w4 ⟨hH4, rfl⟩
      (try simp only [go_sem, ↓reduceIte, Nat.reduceEqDiff, Nat.mul_one, Nat.zero_add])
      have hH5 := hH'.call0 hH4
      refine ⟨hH5.ext, [b], hH5.readsBytes 0 rfl, ?_⟩
      (try simp only [go_sem, ↓reduceIte, Nat.reduceEqDiff, Nat.mul_one, Nat.zero_add])
      refine ⟨by simp; omega, ?_⟩
      refine MemK_call Try.call14 ?_; simp only [go_sem, ↓reduceIte, Nat.reduceEqDiff, Nat.mul_one, Nat.zero_add]
      refine CallK.mk (enc_does (l ++ [b]) w4 (by simp; omega)) ?_
      rintro v w6 ⟨hH6, rfl⟩
      (try simp only [go_sem, ↓reduceIte, Nat.reduceEqDiff, Nat.mul_one, Nat.zero_add])
      refine ⟨(hH5.call0 hH6).ext, ?_⟩
      exact last _ ((hH5.call0 hH6).sub (by simp))
    · refine ⟨[b], hH'.readsBytes 0 rfl, ?_⟩
      (try simp only [go_sem, ↓reduceIte, Nat.reduceEqDiff, Nat.mul_one, Nat.zero_add])
      refine ⟨by simp; omega, ?_⟩
      refine MemK_call Try.call14 ?_; simp only [go_sem, ↓reduceIte, Nat.reduceEqDiff, Nat.mul_one, Nat.zero_add]
      refine CallK.mk (enc_does l w3 (by omega)) ?_
      rintro v w4 ⟨hH4, rfl⟩
      (try simp only [go_sem, ↓reduceIte, Nat.reduceEqDiff, Nat.mul_one, Nat.zero_add])
      have hH5 := hH'.call0 hH4
      refine ⟨hH5.ext, ?_⟩
      refine MemK_call Try.call14 ?_; simp only [go_sem, ↓reduceIte, Nat.reduceEqDiff, Nat.mul_one, Nat.zero_add]
      refine CallK.mk (enc_does (l ++ [b]) w4 (by simp; omega)) ?_
      rintro v w6 ⟨hH6, rfl⟩
      (try simp only [go_sem, ↓reduceIte, Nat.reduceEqDiff, Nat.mul_one, Nat.zero_add])
      refine ⟨(hH5.call0 hH6).ext, ?_⟩
      exact last _ ((hH5.call0 hH6).sub (by simp))
end Go.Proofs.Ytgepfjlecmmokaa
