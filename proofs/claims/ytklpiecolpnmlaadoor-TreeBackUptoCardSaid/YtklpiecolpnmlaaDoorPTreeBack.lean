/-
  kistlaw28.TreeBack, second form: building a made tree's files gives the tree back.
  Conditions: none beyond the statement.
-/
import Derived.Test.YtklpiecolpnmlaaDoorC6
import Derived.Test.YtklpiecolpnmlaaDoorRows
import Derived.Test.YtklpiecolpnmlaaDoorCards
import Derived.Test.YtklpiecolpnmlaaDoorTie
import Derived.WalkKit
import Derived.ProofKit
import Derived.OpenShut
import Derived.ShutString
import Derived.ChangeOld
import Derived.Carry
import Derived.Below
import Derived.SizedLaws
import Derived.LaidMore
import Derived.Lay
import Derived.Stop.Joined
import Derived.Deep.DeepHandedRow
import Derived.SevenTiedAt
namespace Go.Proofs.YtklpiecolpnmlaaDoor.treeBack
open Go.ChangeShapes Go.WideShapes Go.ChangeAt Go.RowKit
set_option linter.unusedVariables false

theorem own : ownKnob Tryd.prog.godebug = none := by kernel_rfl
theorem laidOut : laidOutB Tryd.prog = true := by kernel_rfl

/-! ### STEP 1: THE WALK -/
theorem walk (t0 : NT) (l1 : List En) (a1 : Option Addr) (c1 : Nat) (w : World) (h0 : Lies w t0) (h1 : Go.Eng.RS w a1 l1.length 2 (ensV l1)) (b1 : ∀ x ∈ l1, EnS x) :
    Calls Tryd.prog 5 #[nodeA t0, .slice a1 l1.length c1] w fun e w' => e = .returned (.bool true) ∧ Below w.heap.size w w' := by
  refine (treeBack_law t0 l1 a1 c1 w h0 h1 b1 0).mono fun e w' hw => ?_
  obtain ⟨v, w1, n, rfl, rfl, hH, rfl⟩ := hw
  exact ⟨rfl, (hH.upd.drewN 0 n).below⟩

/-! ### A WORLD FOR THE WITNESS -/
noncomputable abbrev laidWorld (os : Os) : World := World.laidAll Tryd.prog os Rows.treeBackUptoRow.laid
abbrev wit : Array Value := #[.agg #[.string ⟨#[]⟩, .bool false, .string ⟨#[]⟩, .slice none 0 0], .slice none 0 0]
theorem laid_met (os : Os) : laidMetH Tryd.prog Rows.treeBackUptoRow.laid ((laidWorld os).forCall (fun _ _ => 0) ⟨#[], wit, []⟩).memory := by
  rw [MakeChecks.laidMetH_plain _ _ _ (by kernel_rfl)]
  exact laidMet_laidAll _ (by kernel_rfl) (by kernel_rfl)
theorem reads (os : Os) {H : Type} (enc : TypeId × Value → H) : ∃ places, DataW.whole enc Tryd.prog ((laidWorld os).forCall (fun _ _ => 0) ⟨#[], wit, []⟩).memory Tryd.f5.params.toList (Rows.OpenSpec.upto Rows.treeBackSpec).vars false wit.toList 8 = some ([.agg [.lit (.string []), .lit (.bool false), .lit (.string []), .nil], .nil], [], places) :=
  ⟨[], by kernel_rfl⟩

/-! ### THE ROW's STEP -/
set_option maxRecDepth 100000 in
theorem lifted (os : Os) (started : os.Started) (H : Type) (enc : TypeId × Value → H) (Fo : Stop.Interp) :
    ReturnsInHanded {} Tryd.checked os 5 .any ((Rows.OpenSpec.upto Rows.treeBackSpec).preRow enc Tryd.prog Tryd.f5 Rows.treeBackUptoRow.domain false Rows.treeBackUptoRow.laid) (((Rows.OpenSpec.upto Rows.treeBackSpec).at Fo).post enc Tryd.prog Tryd.f5 false true false false) := by
  obtain ⟨places, hx⟩ := reads os enc
  refine returnsInHanded_of_row (C := Tryd.checked) (s := Rows.OpenSpec.upto Rows.treeBackSpec) own started (by kernel_rfl) Tryd.func5
    (witness_row_at (enc := enc) (C := Tryd.checked) false (laidWorld os) wit (World.laidAll_os _ _ _) (by kernel_rfl) (by kernel_rfl) (by kernel_rfl)
      (OpenSpec.preRow_of_cond 8 hx (by kernel_rfl) (fun k hk => by cases hk; kernel_rfl) (by kernel_rfl) (laid_met os))) ?_
  intro W base args ds gs before hval0 hW _ hcond hsz hL _ _
  have hval : ∀ (j : Nat) t v, Tryd.f5.params[j]? = some t → args[j]? = some v → Value.okWide Tryd.prog W .any base t v := hval0
  have hbulk0 : Rows.uptoBulkAll (ds ++ gs) ≤ 1048576 := of_decide_eq_true (hcond _ rfl)
  have hW' := hW
  obtain ⟨p, q, hA0, hV, rfl, hfz, hnd⟩ := hW
  have hA : DataW.TrodAll enc Tryd.prog W 0 (fun _ => true) true Tryd.f5.params.toList args.toList ds p := hA0
  rw [Tryd.params5] at hA hval
  obtain ⟨v0, vs0, d0, ds0, p0, q0, hargs, rfl, rfl, r0, q'0⟩ := trodAll_cons hA
  obtain ⟨v1, vs1, d1, ds1, p1, q1, rfl, rfl, rfl, r1, q'1⟩ := trodAll_cons q'0
  obtain ⟨rfl, rfl, rfl⟩ := trodAll_nil q'1
  obtain rfl : args = #[v0, v1] := by cases args; simp_all
  obtain ⟨rfl, rfl⟩ := trodVars_none hV
  have hbulk : Rows.uptoBulkAll [d0, d1] ≤ 1048576 := by simpa only [List.append_nil] using hbulk0
  have k0 := r0
  have lt0 : ∀ x ∈ p0, x.block < W.heap.size := by obtain ⟨m, hm⟩ := k0; exact DataW.trod_lt m _ _ _ hm
  have k1 := r1
  have lt1 : ∀ x ∈ p1, x.block < W.heap.size := by obtain ⟨m, hm⟩ := k1; exact DataW.trod_lt m _ _ _ hm
  obtain ⟨c0, rfl, _⟩ := okWide_struct Tryd.underlying24 (hval 0 24 v0 rfl rfl)
  obtain ⟨t0, e0, h0⟩ : ∃ t, c0.toList = nodeV t ∧ Lies W t := by
    obtain ⟨fuel, hf⟩ := r0
    exact open_node fuel _ _ hf fun n hn => Nat.le_trans (by simpa using List.all_eq_true.1 hsz n (DataW.weights_mem_each (j := 0) rfl rfl n hn)) (of_decide_eq_true (by kernel_rfl))
  obtain rfl : c0 = (nodeV t0).toArray := by rw [← e0]
  obtain ⟨a1, n1, c1, rfl⟩ := okWide_slice Tryd.underlying27 (hval 1 27 v1 rfl rfl)
  obtain ⟨l1, rfl, h1, b1⟩ : ∃ l : List En, n1 = l.length ∧ Go.Eng.RS W a1 l.length 2 (ensV l) ∧ ∀ x ∈ l, EnS x := by
    obtain ⟨fuel, hf⟩ := r1
    obtain ⟨l, e1, e2, e3⟩ := open_entsB (B := 1048576) hf (Nat.le_trans (bulk_part (by simp)) hbulk)
    exact ⟨l, e1, e2, fun x hx => ⟨Nat.le_trans (e3 x hx).1 (of_decide_eq_true (by kernel_rfl)), Nat.le_trans (e3 x hx).2 (of_decide_eq_true (by kernel_rfl))⟩⟩
  clear hA0 hval0
  refine (walk t0 l1 a1 c1 W h0 h1 b1).mono fun e W' ⟨he, bel⟩ => ?_
  subst he
  exact ⟨_, rfl, _, _, _, [], _, [], hW', trodAll_mk1 (shut_bool Tryd.underlying4 _), (trodAll_cons_mk (Below.trod laidOut (by kernel_rfl) (of_decide_eq_true (by kernel_rfl)) k0 bel lt0) (trodAll_cons_mk (Below.trod laidOut (by kernel_rfl) (of_decide_eq_true (by kernel_rfl)) k1 bel lt1) trodAll_mk0)), rfl, bel.frame _, fun h => by cases h⟩

theorem over : Rows.TreeBackUptoSaid :=
  OpenClaim.holds_of_cond 5 Tryd.f5 rfl rfl rfl rfl rfl rfl rfl ⟨rfl, rfl, rfl, rfl, rfl⟩ rfl rfl rfl rfl rfl (by kernel_rfl) Tryd.func5 (by kernel_rfl)
    (of_decide_eq_true (by kernel_rfl)) (by unfold Func.isWrapper; first | (rw [if_pos (by decide +kernel)]; kernel_rfl) | (rw [if_neg (by decide +kernel)]; exact ⟨rfl, rfl⟩))
    (fun os started H enc _ Fo => by rw [OpenClaim.pre_eq_preRow]; exact lifted os started H enc Fo)

/-- The statement: the card of the second form, its listed variables tied to the program's text. -/
theorem proved : Rows.TreeBackUptoCardSaid :=
  Claim7.holds_tied_plain_at .later [] [.data, .pinned] true (true, "f1b13e3f9d2f0b21944ee52ba7c527cccc63ee4f7f61e3407806e72d56628a2f") false
    over (fun _ h => by cases h) (by kernel_rfl) (fun _ h => by cases h) treeBackUpto_row_tie rfl ⟨rfl, rfl⟩ (by kernel_rfl) rfl
    (fun f fn hf hfn => by
      obtain rfl : f = 5 := Option.some.inj ((show Tryd.prog.funcNamed "kist/kistlaw28.TreeBack" = some 5 by kernel_rfl).symm.trans hf) |>.symm
      obtain rfl : fn = Tryd.f5 := (Option.some.inj (Tryd.func5.symm.trans hfn)).symm
      exact ⟨by kernel_rfl, fun j t ht => by
        rw [Tryd.params5] at ht
        have hm : t ∈ [24, 27] := by simpa using Array.mem_of_getElem? ht
        have hall : ([24, 27].all fun u => !Tryd.prog.wantsStandIn u) = true := by kernel_rfl
        exact (show Tryd.prog.wantsStandIn t = false by simpa using List.all_eq_true.1 hall t hm)⟩)
    (by kernel_rfl)
#print axioms proved
end Go.Proofs.YtklpiecolpnmlaaDoor.treeBack
