/- Trees that come in: what a node reads as. -/
import Derived.Test.YtklpiecolpnmlaaDoorTr6
import Derived.ChangeSame
import Derived.SizedLaws
import Derived.Lib.SmallJoins
namespace Go.Proofs.YtklpiecolpnmlaaDoor
open Go Go.Eng Go.ChangeShapes Go.WideShapes
set_option linter.unusedVariables false
set_option linter.unusedSimpArgs false
set_option maxRecDepth 100000

theorem weightsAll_mem {H : Type} {P : Program} {e : TypeId} : ∀ {l : List (DataW H)} {d : DataW H}, d ∈ l → ∀ n ∈ d.weights P e, n ∈ DataW.weightsAll P e l
  | x :: l, d, hd, n, hn => by
    rw [DataW.weightsAll, List.mem_append]
    rcases List.mem_cons.1 hd with rfl | hd
    · exact .inl hn
    · exact .inr (weightsAll_mem hd n hn)
  | [], _, hd, _, _ => by cases hd

theorem strOf (s : ByteArray) : Value.string s = Str s.data.toList := rfl

theorem open_node {H : Type} {enc : TypeId × Value → H} {W : World} {base : Nat} {sp : Nat → Bool} {held : Bool} : ∀ (fuel : Nat) (cs : List Value) (x : DataW H × List MemPlace),
    DataW.trod enc Tryd.prog W base sp held fuel 24 cs = some x → (∀ n ∈ x.1.weights Tryd.prog 24, n ≤ 140737488355328) → ∃ t : NT, cs = nodeV t ∧ Lies W t := by
  intro fuel
  induction fuel using Nat.strongRecOn with
  | _ fuel ih =>
  intro cs x h hw
  have hfu : 0 < fuel := by
    cases fuel with
    | zero => simp [DataW.trod] at h
    | succ n => omega
  obtain ⟨xs, n, rfl, rfl, hcl, hlen, hf⟩ := DataW.trod_struct Tryd.underlying24 h
  have hc4 : Tryd.prog.cellsOf 24 = 4 := by kernel_rfl
  have s9 : Tryd.prog.cellsOf 9 = 1 := by kernel_rfl
  have s4 : Tryd.prog.cellsOf 4 = 1 := by kernel_rfl
  have s22 : Tryd.prog.cellsOf 22 = 1 := by kernel_rfl
  rw [hc4] at hcl
  match xs, hlen with
  | [y0, y1, y2, y3], _ =>
  match cs, hcl with
  | [v0, v1, v2, v3], _ =>
  have h0 := hf 0 _ rfl
  have h1 := hf 1 _ rfl
  have h2 := hf 2 _ rfl
  have h3 := hf 3 _ rfl
  simp only [s9, s4, s22, List.drop_zero, List.drop_succ_cons, List.take_succ_cons, List.take_zero, List.getElem?_cons_zero, List.getElem?_cons_succ] at h0 h1 h2 h3
  obtain ⟨sn, e0, e0x, hn⟩ := DataW.trod_string Tryd.underlying9 h0
  obtain ⟨bd, e1, e1x⟩ := DataW.trod_bool Tryd.underlying4 h1
  obtain ⟨sd, e2, e2x, hd⟩ := DataW.trod_string Tryd.underlying9 h2
  cases e0
  cases e1
  cases e2
  have hwe : ∀ n ∈ DataW.weightsEach Tryd.prog [9, 4, 9, 22] [y0.1, y1.1, y2.1, y3.1], n ≤ 140737488355328 := by
    intro n hn
    apply hw
    simp only [List.map_cons, List.map_nil, DataW.weights, Tryd.underlying24]
    exact hn
  have w0 : sn.data.toList.length ≤ 140737488355328 := by
    apply hwe
    refine DataW.weights_mem_each (j := 0) rfl rfl _ ?_
    rw [e0x]
    simp [DataW.weights]
  have w2 : sd.data.toList.length ≤ 140737488355328 := by
    apply hwe
    refine DataW.weights_mem_each (j := 2) rfl rfl _ ?_
    rw [e2x]
    simp [DataW.weights]
  rcases DataW.trod_slice Tryd.underlying22 h3 with ⟨hcs, _⟩ | ⟨a, len', cap', elems, rest, n', hn', hcs, hx, hb, hl, hm, hlen, hel, _, _⟩
  · cases hcs
    refine ⟨.mk sn.data.toList bd sd.data.toList none 0 [], rfl, ?_⟩
    rw [Lies_iff]
    exact ⟨⟨w0, w2, by simp [NT.kids]⟩, ⟨rfl, fun _ => rfl, fun ad h => by cases h⟩, by simp [NT.kids]⟩
  · cases hcs
    have hw3 : ∀ n ∈ y3.1.weights Tryd.prog 22, n ≤ 140737488355328 := fun n hn => hwe n (DataW.weights_mem_each (j := 3) rfl rfl n hn)
    rw [hx] at hw3
    simp only [DataW.weights, Tryd.underlying22] at hw3
    have hbt : Tryd.prog.bytesOf 24 = 64 := by kernel_rfl
    have hlb : len' ≤ 140737488355328 := by
      have := hw3 _ (List.mem_cons_self ..)
      rw [hbt] at this
      simp at this
      omega
    have each : ∀ i, ∃ y : NT, i < len' → Lies W y ∧ ∀ j u, (nodeV y)[j]? = some u → W.cell? ((a.add (i * 4)).add j) = some u := by
      intro i
      by_cases hi : i < len'
      · have h2 := hel i hi
        rw [List.getElem?_eq_getElem (by omega), hc4, Option.bind_eq_some_iff] at h2
        obtain ⟨cs, h3, h4⟩ := h2
        obtain ⟨y, hy, hL⟩ := ih n' (by omega) cs _ h4 (fun n hn => by
          apply hw3
          refine List.mem_cons_of_mem _ (List.mem_append_left _ ?_)
          exact weightsAll_mem (List.mem_map.2 ⟨elems[i]'(by omega), List.getElem_mem _, rfl⟩) n hn)
        refine ⟨y, fun _ => ⟨hL, fun j u hu => ?_⟩⟩
        have h11 := (World.cells?_some h3).2
        have hj : j < 4 := by
          have := (List.getElem?_eq_some_iff.1 hu).1
          rwa [nodeV_len] at this
        rw [h11.2 j hj, hy, hu]
      · exact ⟨default, fun h => absurd h hi⟩
    obtain ⟨f, hf⟩ := Classical.axiomOfChoice each
    have hll : ((List.range len').map f).length = len' := by simp
    refine ⟨.mk sn.data.toList bd sd.data.toList (some a) cap' ((List.range len').map f), ?_, ?_⟩
    · simp only [nodeV, NT.name, NT.dir, NT.data, NT.place, NT.kids, NT.cap, hll]
    · rw [Lies_iff]
      refine ⟨⟨w0, w2, by simpa [NT.kids] using hlb⟩, ⟨by rw [nodesV_len], fun h => (by cases h), fun ad had => ?_⟩, fun k hk => ?_⟩
      · cases had
        intro j u hu
        have hj : j < len' * 4 := by
          have := (List.getElem?_eq_some_iff.1 hu).1
          rw [nodesV_len] at this
          simpa [NT.kids] using this
        have hi : j / 4 < len' := by omega
        have hg : ((List.range len').map f)[j / 4]? = some (f (j / 4)) := by simp [hi]
        obtain ⟨_, hc⟩ := hf (j / 4) hi
        have hj4 : j % 4 < (nodeV (f (j / 4))).length := by rw [nodeV_len]; omega
        have hg2 := rowsV_get (k := 4) nodeV_len _ (j / 4) _ hg (j % 4) _ (List.getElem?_eq_getElem hj4)
        rw [show j / 4 * 4 + j % 4 = j by omega] at hg2
        have hg3 : (nodesV ((List.range len').map f))[j]? = some ((nodeV (f (j / 4)))[j % 4]'hj4) := hg2
        have hu' : (nodesV ((List.range len').map f))[j]? = some u := hu
        rw [hg3] at hu'
        cases hu'
        have := hc (j % 4) _ (List.getElem?_eq_getElem hj4)
        rw [addr_add_add, show j / 4 * 4 + j % 4 = j by omega] at this
        exact this
      · obtain ⟨i, hi, rfl⟩ := List.mem_map.1 hk
        exact (hf i (List.mem_range.1 hi)).1
end Go.Proofs.YtklpiecolpnmlaaDoor
