/-
  Where it is said to fit an extent may be beside the others, and no earlier; all extents and all room are all sectors, each once.
  Conditions: none beyond the statement.
-/
import Derived.Test.YtoioaddfachjhaaGreatDoorR1
import Derived.Test.YtoioaddfachjhaaGreatDoorRows
import Derived.Test.YtoioaddfachjhaaGreatDoorCards
import Derived.Test.YtoioaddfachjhaaGreatDoorTie
import Derived.WalkKit
import Derived.ProofKit
import Derived.OpenShut
import Derived.ShutString
import Derived.ChangeOld
import Derived.Carry
import Derived.Below
import Derived.SizedLaws
import Derived.LaidMore
import Derived.Stop.Joined
import Derived.SevenTiedAt
namespace Go.Proofs.YtoioaddfachjhaaGreatDoor.spaceFits
open Go.ChangeShapes Go.WideShapes Go.ChangeAt Go.RowKit
set_option linter.unusedVariables false

theorem own : ownKnob Tryz.prog.godebug = none := by kernel_rfl
theorem laidOut : laidOutB Tryz.prog = true := by kernel_rfl

/-! ### STEP 1: THE WALK -/
theorem walk (a0 : Option Addr) (cap : Nat) (l : List Ex) (n1 : Int) (n2 : Int) (w : World) (hl : Go.Eng.RS w a0 l.length 2 (extsV l)) (hn : l.length * 16 ≤ reachBytes) (hok : ∀ x ∈ l, XOk x) (wn1 : (Lit.int .i64 n1).wf = true) (wn2 : (Lit.int .i64 n2).wf = true) :
    Calls Tryz.prog 6 #[.slice a0 l.length cap, .int .i64 n1, .int .i64 n2] w fun e w' => e = .returned (.bool true) ∧ Below w.heap.size w w' := by
  have hn : l.length * 16 ≤ 140737488355328 := Nat.le_trans hn (of_decide_eq_true (by kernel_rfl))
  refine (spaceFits_law l a0 cap n1 n2 w hl (by omega) hok (by simpa [Go.Eng.I64, Lit.wf, IntKind.min, IntKind.max, IntKind.signed, IntKind.bits] using wn1) (by simpa [Go.Eng.I64, Lit.wf, IntKind.min, IntKind.max, IntKind.signed, IntKind.bits] using wn2) 0).mono fun e w' hw => ?_
  obtain ⟨v, w1, n, rfl, rfl, hH, rfl⟩ := hw
  exact ⟨rfl, (hH.upd.drewN 0 n).below⟩

/-! ### THE ROW's STEP -/
/-- The heap that the initialisers leave holds what the row lists. -/
theorem door_met (os : Os) (args : Array Value) : laidMetH Tryz.prog Rows.spaceFitsRow.laid ((World.doorLaid Tryz.prog 34 os).forCall (fun _ _ => 0) ⟨#[], args, []⟩).memory :=
  laidMetH_of_parts3 (fuel := 8) (laidMet_of_run' 8 (by kernel_rfl) (by kernel_rfl)) (by kernel_rfl) (by kernel_rfl)

set_option maxRecDepth 100000 in
theorem lifted (os : Os) (started : os.Started) (H : Type) (enc : TypeId × Value → H) :
    ReturnsInHanded {} Tryz.checked os 6 .any (fun w args => (Rows.spaceFitsSpec.pre enc Tryz.prog Tryz.f6 [] false w args ∧ laidMetH Tryz.prog Rows.spaceFitsRow.laid w) ∧ sizedMet enc Tryz.prog Tryz.f6 (OpenSpec.ofChange Rows.spaceFitsSpec) false w args)
      (Rows.spaceFitsSpec.post enc Tryz.prog Tryz.f6 false true false false) := by
  refine returnsInHanded_of_change_and (C := Tryz.checked) (X := fun w _ => laidMetH Tryz.prog Rows.spaceFitsRow.laid w) (fun _ _ _ hh h => h.of_heap hh) own started (by kernel_rfl) Tryz.func6
    (ChangeSpec.witness_shaped (enc := enc) (C := Tryz.checked) (os := os) (X := fun w _ => laidMetH Tryz.prog Rows.spaceFitsRow.laid w) false (World.doorLaid Tryz.prog 34 os) #[.slice none 0 0, .int .i64 0, .int .i64 0] 8 rfl (World.shaped_of_RefB (by kernel_rfl) (by kernel_rfl)) (by kernel_rfl) (by kernel_rfl) (by kernel_rfl) (door_met os _)) ?_
  intro W base args ds gs before hval0 hW _ hsz hL _
  have hval : ∀ (j : Nat) t v, Tryz.f6.params[j]? = some t → args[j]? = some v → Value.okWide Tryz.prog W .any base t v := hval0
  have hW' := hW
  obtain ⟨p, q, hA0, hV, rfl, hfz, hnd⟩ := hW
  have hA : DataW.TrodAll enc Tryz.prog W 0 (fun _ => true) true Tryz.f6.params.toList args.toList ds p := hA0
  rw [Tryz.params6] at hA hval
  obtain ⟨v0, vs0, d0, ds0, p0, q0, hargs, rfl, rfl, h0, r0⟩ := trodAll_cons hA
  obtain ⟨v1, vs1, d1, ds1, p1, q1, rfl, rfl, rfl, h1, r1⟩ := trodAll_cons r0
  obtain ⟨v2, vs2, d2, ds2, p2, q2, rfl, rfl, rfl, h2, r2⟩ := trodAll_cons r1
  obtain ⟨rfl, rfl, rfl⟩ := trodAll_nil r2
  obtain rfl : args = #[v0, v1, v2] := by cases args; simp_all
  obtain ⟨rfl, rfl⟩ := trodVars_none hV
  obtain ⟨a0, len0, cap0, rfl⟩ := okWide_slice Tryz.underlying22 (hval 0 22 v0 rfl rfl)
  obtain ⟨n1, rfl, rfl, rfl, wn1⟩ := open_int Tryz.underlying3 (hval 1 3 v1 rfl rfl) h1
  obtain ⟨n2, rfl, rfl, rfl, wn2⟩ := open_int Tryz.underlying3 (hval 2 3 v2 rfl rfl) h2
  have k0 := h0
  have lt0 : ∀ x ∈ p0, x.block < W.heap.size := by obtain ⟨m, hm⟩ := k0; exact DataW.trod_lt m _ _ _ hm
  obtain ⟨l, rfl, hl, hok, hn⟩ : ∃ l : List Ex, len0 = l.length ∧ Go.Eng.RS W a0 l.length 2 (extsV l) ∧ (∀ y ∈ l, XOk y) ∧ l.length * 16 ≤ reachBytes := by
    obtain ⟨fuel, hf⟩ := h0
    obtain ⟨l, rfl, h2, h3, h4⟩ := open_exts Tryz.underlying22 Tryz.underlying35 (by kernel_rfl) Tryz.underlying3 Tryz.underlying3 rfl rfl (by kernel_rfl) (by kernel_rfl) hf
    refine ⟨l, rfl, h2, h3, ?_⟩
    rcases h4 with h4 | ⟨el, rs, h4, h5⟩
    · rw [h4, Nat.zero_mul]; exact Nat.zero_le _
    · have h4 : d0 = .slice el rs := h4
      subst h4
      have hb := sized_slice hsz (j := 0) rfl (show _ = some (DataW.slice el rs) from rfl) Tryz.underlying22
      have hb8 : Tryz.checked.prog.bytesOf 35 = 16 := by kernel_rfl
      rw [hb8, h5] at hb
      omega
  clear hA0 hval0
  refine (walk a0 cap0 l n1 n2 W hl hn hok wn1 wn2).mono fun e W' ⟨he, bel⟩ => ?_
  subst he
  exact ⟨_, rfl, _, _, _, [], _, [], hW', trodAll_mk1 (shut_bool Tryz.underlying4 _), (trodAll_cons_mk (Below.trod laidOut (by kernel_rfl) (of_decide_eq_true (by kernel_rfl)) k0 bel lt0) (trodAll_cons_mk (shut_int Tryz.underlying3 wn1) (trodAll_cons_mk (shut_int Tryz.underlying3 wn2) trodAll_mk0))), rfl, bel.frame _, fun h => by cases h⟩

theorem over : Rows.spaceFitsRow.holds Tryz.pinned (OpenSpec.ofChange Rows.spaceFitsSpec) :=
  OpenClaim.holds_of_wide 6 Tryz.f6 rfl rfl rfl rfl rfl rfl rfl ⟨rfl, rfl, rfl, rfl, rfl⟩ rfl rfl rfl rfl rfl (by kernel_rfl) Tryz.func6 (by kernel_rfl)
    (of_decide_eq_true (by kernel_rfl)) (by unfold Func.isWrapper; first | (rw [if_pos (by decide +kernel)]; kernel_rfl) | (rw [if_neg (by decide +kernel)]; exact ⟨rfl, rfl⟩))
    (fun os started H enc _ => lifted os started H enc)

/-- The statement: the card, its listed variables tied to the program's text. -/
theorem proved : Rows.SpaceFitsCardSaid :=
  Claim7.holds_tied_plain_at .later [] [.data, .data, .data] true (true, "7945f244b91635006a46ccf51535d10d9ed5aaa4743e081587f6e886e7e01b0b") true
    over (fun _ h => by cases h) (by kernel_rfl) (fun _ h => by cases h) spaceFits_row_tie rfl ⟨rfl, rfl⟩ (by kernel_rfl) rfl
    (fun f fn hf hfn => by
      obtain rfl : f = 6 := Option.some.inj ((show Tryz.prog.funcNamed "kist/kistlaw22.SpaceFits" = some 6 by kernel_rfl).symm.trans hf) |>.symm
      obtain rfl : fn = Tryz.f6 := (Option.some.inj (Tryz.func6.symm.trans hfn)).symm
      exact ⟨by kernel_rfl, fun j t ht => by
        rw [Tryz.params6] at ht
        have hm : t ∈ [22, 3, 3] := by simpa using Array.mem_of_getElem? ht
        have hall : ([22, 3, 3].all fun u => !Tryz.prog.wantsStandIn u) = true := by kernel_rfl
        exact (show Tryz.prog.wantsStandIn t = false by simpa using List.all_eq_true.1 hall t hm)⟩)
    (by kernel_rfl)
#print axioms proved
end Go.Proofs.YtoioaddfachjhaaGreatDoor.spaceFits
