/-
  A block whose sum is changed by one of four bytes answers 121, and the untouched one comes back.
  Conditions: none beyond the statement.
-/
import Derived.Test.YtfphmlhgebpojaaGreatS6
import Derived.Test.YtfphmlhgebpojaaGreatRows
import Derived.WalkKit
import Derived.ProofKit
import Derived.OpenShut
import Derived.ShutString
import Derived.ChangeOld
import Derived.Below
import Derived.SizedLaws
namespace Go.Proofs.YtfphmlhgebpojaaGreat.blockSums
open Go.ChangeShapes Go.WideShapes Go.ChangeAt Go.RowKit
open Go.ChangeMaps (open_string shut_string)
set_option linter.unusedVariables false

theorem own : ownKnob Tryz.prog.godebug = none := by kernel_rfl
theorem laidOut : laidOutB Tryz.prog = true := by kernel_rfl

theorem u8_of {n : Int} (h : (Lit.int .u8 n).wf = true) : ∃ b : UInt8, n = ((b.toNat : Nat) : Int) := by
  simp [Lit.wf, IntKind.min, IntKind.max, IntKind.signed, IntKind.bits] at h
  refine ⟨UInt8.ofNat n.toNat, ?_⟩
  rw [UInt8.toNat_ofNat']
  omega

/-- An array of four bytes that came in: four bytes, and its data read the same in every world. -/
theorem open_arr4 {H : Type} {enc : TypeId × Value → H} {P : Program} {k e : TypeId} {W : World} {base b0 : Nat} {sp : Nat → Bool} {held : Bool} {r : Reach} {v : Value} {d : DataW H} {ps : List MemPlace}
    (hu : P.underlying k = some (.array 4 e)) (he : P.underlying e = some (.int .u8)) (hc : P.cellsOf e = 1) (hk : P.cellsOf k = 4)
    (hv : Value.okWide P W r b0 k v) (h : DataW.Trod enc P W base sp held k v d ps) :
    ∃ x0 x1 x2 x3 : UInt8, v = .agg #[.int .u8 x0.toNat, .int .u8 x1.toNat, .int .u8 x2.toNat, .int .u8 x3.toNat] ∧ ps = [] ∧
      ∀ (W' : World) (base' : Nat) (sp' : Nat → Bool) (held' : Bool), DataW.Trod enc P W' base' sp' held' k v d [] := by
  simp only [Value.okWide, hu] at hv
  obtain ⟨cs, rfl, h2, _⟩ := hv
  rw [hk] at h2
  obtain ⟨l⟩ := cs
  obtain ⟨fuel, hf⟩ := h
  cases fuel with
  | zero => simp [DataW.trod] at hf
  | succ m =>
    rw [DataW.trod_step] at hf
    unfold DataW.trodStep at hf
    simp only [hu, Value.cells, hc, hk] at hf
    rw [if_pos (by simpa using h2)] at hf
    match l, h2 with
    | [c0, c1, c2, c3], _ =>
      rw [show List.range 4 = [0, 1, 2, 3] from rfl] at hf
      simp only [List.mapM_cons, List.mapM_nil, bind, Option.bind_eq_some_iff, pure, Option.some.injEq, Option.map_eq_some_iff] at hf
      obtain ⟨ys, ⟨y0, e0, r0, ⟨y1, e1, r1, ⟨y2, e2, r2, ⟨y3, e3, r3, rfl, rfl⟩, rfl⟩, rfl⟩, rfl⟩, hd⟩ := hf
      obtain ⟨n0, f0, rfl, q0⟩ := DataW.trod_int he e0
      obtain ⟨n1, f1, rfl, q1⟩ := DataW.trod_int he e1
      obtain ⟨n2, f2, rfl, q2⟩ := DataW.trod_int he e2
      obtain ⟨n3, f3, rfl, q3⟩ := DataW.trod_int he e3
      simp at f0 f1 f2 f3
      subst f0 f1 f2 f3
      simp at hd
      obtain ⟨rfl, rfl⟩ := hd
      obtain ⟨b0, rfl⟩ := u8_of q0
      obtain ⟨b1, rfl⟩ := u8_of q1
      obtain ⟨b2, rfl⟩ := u8_of q2
      obtain ⟨b3, rfl⟩ := u8_of q3
      refine ⟨b0, b1, b2, b3, rfl, rfl, fun W' base' sp' held' => ⟨2, ?_⟩⟩
      rw [DataW.trod_step]
      unfold DataW.trodStep
      simp only [hu, Value.cells, hc, hk]
      rw [if_pos (by rfl), show List.range 4 = [0, 1, 2, 3] from rfl]
      simp only [List.mapM_cons, List.mapM_nil]
      simp [trod_int_mk 0 he q0, trod_int_mk 0 he q1, trod_int_mk 0 he q2, trod_int_mk 0 he q3]

/-! ### STEP 1: THE WALK -/
theorem walk (a0 : ByteArray) (b0 b1 b2 b3 : UInt8) (w : World) (w0 : a0.data.toList.length ≤ reachBytes) :
    Calls Tryz.prog 6 #[.string a0, .agg #[.int .u8 b0.toNat, .int .u8 b1.toNat, .int .u8 b2.toNat, .int .u8 b3.toNat]] w fun e w' => e = .returned (.bool true) ∧ Below w.heap.size w w' := by
  refine (blockSums_law a0.data.toList b0 b1 b2 b3 w (Nat.le_trans w0 (of_decide_eq_true (by kernel_rfl))) 0).mono fun e w' hw => ?_
  obtain ⟨v, w1, n, rfl, rfl, hH, rfl⟩ := hw
  exact ⟨rfl, (hH.upd.drewN 0 n).below⟩

/-! ### THE ROW's STEP: WRITTEN OUT: LEAVE IT -/
set_option maxRecDepth 100000 in
theorem lifted (os : Os) (started : os.Started) (H : Type) (enc : TypeId × Value → H) :
    ReturnsInHanded {} Tryz.checked os 6 .any (Rows.blockSumsSpec.pre6 enc Tryz.prog Tryz.f6 Rows.blockSumsRow.domain false) (Rows.blockSumsSpec.post enc Tryz.prog Tryz.f6 false true false false) := by
  refine returnsInHanded_of_change_sized (C := Tryz.checked) own started (by kernel_rfl) Tryz.func6
    (ChangeSpec.witness6 (enc := enc) (C := Tryz.checked) false ⟨#[], #[.string ByteArray.empty, .agg #[.int .u8 0, .int .u8 0, .int .u8 0, .int .u8 0]], []⟩ 8 (by kernel_rfl) (by kernel_rfl) (by kernel_rfl) (by kernel_rfl)) ?_
  intro W base args ds gs before hval0 hW hcnd hsz _
  have hval : ∀ (j : Nat) t v, Tryz.f6.params[j]? = some t → args[j]? = some v → Value.okWide Tryz.prog W .any base t v := hval0
  have hW' := hW
  obtain ⟨p, q, hA0, hV, rfl, hfz, hnd⟩ := hW
  have hA : DataW.TrodAll enc Tryz.prog W 0 (fun _ => true) true Tryz.f6.params.toList args.toList ds p := hA0
  rw [Tryz.params6] at hA hval
  obtain ⟨v0, vs0, d0, ds0, p0, q0, hargs, rfl, rfl, h0, r0⟩ := trodAll_cons hA
  obtain ⟨v1, vs1, d1, ds1, p1, q1, rfl, rfl, rfl, h1, r1⟩ := trodAll_cons r0
  obtain ⟨rfl, rfl, rfl⟩ := trodAll_nil r1
  obtain rfl : args = #[v0, v1] := by cases args; simp_all
  obtain ⟨rfl, rfl⟩ := trodVars_none hV
  obtain ⟨a0, rfl, rfl, rfl, w0⟩ := open_string Tryz.underlying9 (hval 0 9 v0 rfl rfl) h0
  obtain ⟨b0, b1, b2, b3, rfl, rfl, hsh⟩ := open_arr4 Tryz.underlying42 Tryz.underlying5 (by kernel_rfl) (by kernel_rfl) (hval 1 42 v1 rfl rfl) h1
  have s0 : a0.data.toList.length ≤ reachBytes := sized_string hsz (j := 0) rfl rfl
  clear hA0 hval0
  refine (walk a0 b0 b1 b2 b3 W s0).mono fun e W' ⟨he, bel⟩ => ?_
  subst he
  exact ⟨_, rfl, _, _, _, [], _, [], hW', trodAll_mk1 (shut_bool Tryz.underlying4 _), (trodAll_cons_mk (shut_string Tryz.underlying9 w0) (trodAll_cons_mk (hsh _ _ _ _) trodAll_mk0)), rfl, bel.frame _, fun h => by cases h⟩

theorem over : Rows.blockSumsRow.holds Tryz.pinned (OpenSpec.ofChange Rows.blockSumsSpec) :=
  OpenClaim.holds_of_wide 6 Tryz.f6 rfl rfl rfl rfl rfl rfl rfl ⟨rfl, rfl, rfl, rfl, rfl⟩ rfl rfl rfl rfl rfl (by kernel_rfl) Tryz.func6 (by kernel_rfl)
    (of_decide_eq_true (by kernel_rfl)) (by unfold Func.isWrapper; first | (rw [if_pos (by decide +kernel)]; kernel_rfl) | (rw [if_neg (by decide +kernel)]; exact ⟨rfl, rfl⟩))
    (fun os started H enc _ => lifted os started H enc)

/-- The statement. -/
theorem proved : Rows.BlockSumsSaid := over
#print axioms proved
end Go.Proofs.YtfphmlhgebpojaaGreat.blockSums
