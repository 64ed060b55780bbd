/- A program logic over the model: what is left to do, what is known of the frame, what the call holds of memory. No conditions: a library of lemmas. -/
import Derived.Test.YtklpiecolpnmlaaDoorEngJ
set_option linter.unusedSimpArgs false
set_option linter.unusedVariables false
/-! The engine, part 24: short forms, more. -/
namespace Go.Eng
open Go
/-- A region with nothing to show but bounds. -/
theorem VS {P : Program} {fn : Func} {F : Value → World → Prop} {N : Nat} {k k' : List It} {e e' : Env} {w w' : World} (ks : List Nat) {c : Code} {id : Nat} {ops : List Oper} (h : VC ⟨P, fn, F, N⟩ k' e' w')
    (hp : peel c k = .code (.region id ops.toArray false) :: k' := by rfl) (hN : ops.all (dstOk N) = true := by rfl)
    (hY : ∀ K : Env → World → Prop, K e' w' → vcOps P N ops ops e w (selC ks K) := by intro K h; simp only [go_sem,↓reduceIte,Nat.reduceEqDiff]; (repeat refine Qo ?_); exact h) : VC ⟨P, fn, F, N⟩ (.code c :: k) e w :=
  VR ks hp hN fun K hK => hY K (hK _ _ h)
theorem GS {C : CtxG} {k k' : List It} {e e' : Env} {w w' : World} (ks : List Nat) {c : Code} {id : Nat} {ops : List Oper} (h : VG C k' e' w')
    (hp : peel c k = .code (.region id ops.toArray false) :: k' := by rfl) (hN : (ops.all (dstOk C.N) && ops.all noDefer) = true := by kernel_rfl)
    (hY : ∀ K : Env → World → Prop, K e' w' → vcOps C.P C.N ops ops e w (selC ks K) := by intro K h; simp only [go_sem,↓reduceIte,Nat.reduceEqDiff]; (repeat refine Qo ?_); exact h) : VG C (.code c :: k) e w :=
  VG_peel c k (hp ▸ VG_region ks hN fun K hK => hY K (hK _ _ h))
end Go.Eng
