/- The evaluator: what its word on a call means. -/
import Derived.Test.YtklpiecolpnmlaaDoorEvB
namespace Go.Ev
open Go Go.Eng
set_option linter.unusedVariables false
def noM : Mp := fun _ => none
theorem run_s {C : Cfg} (hm : C.P.follows .mixedOrders = true) (hkn : KnOk C) {f : FuncId} {args : List AV} {c : AV → Bool} (hk : run C f args c = true) {vs : List Value} (hr : RelL noM args vs) (w : World) :
    Does C.P f vs.toArray w fun v w' => ∃ s av, Rel s av v ∧ c av = true ∧ Heap w [] w' [] := by
  intro n
  have H : SH C.P w noM (⟨.e, .e⟩ : Hp) (0, 1000000000) (w.drewN n) := ⟨⟨rfl, rfl, rfl, Nat.le_refl _, fun _ _ _ => rfl⟩, fun i B hi => (by cases hi), fun i j B C b c c' hi => (by cases hi), fun _ _ _ => rfl, fun i p hi => (by cases hi), fun i j p q d c c' hi => (by cases hi)⟩
  obtain ⟨_, h2⟩ := callK_s (codeK_s (w0 := w) hm hkn 1000000 none).1 f args ⟨.e, .e⟩ (0, 1000000000) _ hk noM (w.drewN n) vs H hr
  refine h2.mono fun e w' => ?_
  rintro ⟨v, s', av, h', n', rfl, g1, g2, g3, g4⟩
  exact ⟨v, w', 0, rfl, rfl, s', av, g2, g4, ⟨g3.upd, by simp, by simp, .nil⟩⟩
theorem noKn (P : Program) : KnOk ⟨P, fun _ _ => none, fun _ => none⟩ := ⟨fun f args av h => (by cases h), fun f q h => (by cases h)⟩
/-- A call that answers true. -/
theorem run_true {C : Cfg} (hm : C.P.follows .mixedOrders = true) (hkn : KnOk C) {f : FuncId} {args : List AV} (hk : run C f args isT = true) {vs : List Value} (hr : RelL noM args vs) (w : World) :
    Does C.P f vs.toArray w fun v w' => Heap w [] w' [] ∧ v = .bool true := by
  refine (run_s hm hkn hk hr w).mono fun v w' ⟨s, av, h1, h2, h3⟩ => ⟨h3, ?_⟩
  cases h1 with
  | bool b => cases b with
    | true => rfl
    | false => cases h2
  | _ => cases h2
end Go.Ev
