/- A slice of integers that came in, as the walks read it. -/
import Derived.Test.YtgepfjlecmmokaaZrun12
import Derived.ProofKit
namespace Go.Proofs.Ytgepfjlecmmokaa
open Go Go.Eng

theorem i64_wf {v : Int} (h : (Lit.int .i64 v).wf = true) : I64 v := by
  simpa [Go.Eng.I64, Lit.wf, IntKind.min, IntKind.max, IntKind.signed, IntKind.bits] using h

theorem rs_of_row {w : World} {a : Option Addr} {len cap : Nat} {zs : List Int}
    (h : (a = none ∧ len = 0 ∧ cap = 0 ∧ zs = []) ∨ ∃ x, a = some x ∧ len ≤ cap ∧ cap ≤ maxLen ∧ zs.length = cap ∧ (∀ i, i < zs.length → w.cell? (x.add i) = some (.int .i64 (zs.getD i 0))) ∧ ∀ n ∈ zs, (Lit.int .i64 n).wf = true) :
    ∃ l : List Int, l.length = len ∧ RS w a l.length 1 (intsV l) ∧ ∀ v ∈ l, I64 v := by
  rcases h with ⟨rfl, rfl, rfl, rfl⟩ | ⟨x, rfl, h1, h2, h3, h4, h5⟩
  · exact ⟨[], rfl, ⟨rfl, fun _ => rfl, fun ad h => by cases h⟩, by simp⟩
  · refine ⟨zs.take len, by simp; omega, ⟨by simp [intsV], by simp, fun ad had => ?_⟩, fun v hv => i64_wf (h5 v (List.mem_of_mem_take hv))⟩
    cases had
    intro j u hu
    simp only [intsV, List.getElem?_map] at hu
    cases hj : (zs.take len)[j]? with
    | none => simp [hj] at hu
    | some v =>
      simp [hj] at hu
      subst hu
      rw [List.getElem?_take] at hj
      split at hj
      · have hlt := (List.getElem?_eq_some_iff.1 hj).1
        rw [h4 j hlt, List.getD_eq_getElem?_getD, hj]; rfl
      · cases hj
end Go.Proofs.Ytgepfjlecmmokaa
