/- What the proof leans on, part 15: no conditions. -/
import Derived.Test.YtoioaddfachjhaaGreatDoorS14
import Derived.ChangeSame
import Derived.ChangeArms
import Derived.SizedLaws
namespace Go.Proofs.YtoioaddfachjhaaGreatDoor
open Go Go.Eng
set_option maxRecDepth 100000
set_option maxHeartbeats 1000000
set_option linter.unusedSimpArgs false
set_option linter.unusedVariables false
theorem eq_enS (a : En) (w' : World) : (Op.equalIn 9999 43 (enA a) (enA a)).run Tryz.prog w' = .ok true w' := by
  have hS : Tryz.prog.underlying 43 = some (.struct (Tryz.prog.fieldsOf 43)) := by kernel_rfl
  have hp : Tryz.prog.stoodInHeld 43 = false := by kernel_rfl
  rw [show (9999 : Nat) = 9998 + 1 from rfl, run_equalIn_agg w' 9998 43 _ _ hS hp]
  simp only [Program.fieldsOf, Tryz.underlying43]
  clear hS hp
  have u3 := Tryz.underlying9
  have a3 := Tryz.isAgg9
  have z3 := Tryz.sizeOf9
  simp only [enV]
  go_simp
theorem neq_fo (a : Fo) (xo yo : Operand) (w : World) (KV : Value → Prop) : vBinO Tryz.prog .neq 45 xo yo (foA a) (foA a) w KV = KV (.bool false) := by
  refine EqR_of fun w' => ?_
  have hS : Tryz.prog.underlying 45 = some (.struct (Tryz.prog.fieldsOf 45)) := by kernel_rfl
  have hp : Tryz.prog.stoodInHeld 45 = false := by kernel_rfl
  have hg : Tryz.prog.eqGuardType Tryz.prog.depth 45 = false := by kernel_rfl
  simp only [Sem.run_bind]
  rw [run_eqGuard_agg _ _ _ _ _ _ _ hg]
  simp only [Result.andThen_ok]
  rw [run_neq_struct, show (10000 : Nat) = 9999 + 1 from rfl, run_equalIn_agg w' 9999 45 _ _ hS hp]
  simp only [Program.fieldsOf, Tryz.underlying45]
  clear hS hp hg
  have u4 := Tryz.underlying3
  have a4 := Tryz.isAgg3
  have z4 := Tryz.sizeOf3
  have a5 := Tryz.isAgg43
  have z5 := Tryz.sizeOf43
  have hE : ∀ w', (Op.equalIn 9999 43 (.agg #[Str a.2.1, Str a.2.2]) (.agg #[Str a.2.1, Str a.2.2])).run Tryz.prog w' = .ok true w' := fun w' => eq_enS a.2 w'
  simp only [foV]
  go_simp
theorem same26_does (l : List Fo) (a b : Option Addr) (c c' : Nat) (w : World) (hl : RS w a l.length 3 (fosV l)) (hl2 : RS w b l.length 3 (fosV l)) (hlen : l.length ≤ 1000000) :
    Does Tryz.prog 22 #[.slice a l.length c, .slice b l.length c'] w fun v w' => w' = w ∧ v = .bool true := by
  refine Does_enter (args := [.slice a l.length c, .slice b l.length c']) 26 Tryz.func22 rfl rfl (of_decide_eq_true rfl) ?_
  simp only [Env.ofArgs]
  refine VR [0, 1] rfl rfl fun K hK => ?_; simp only [go_sem,↓reduceIte,Nat.reduceEqDiff]
  ((repeat refine And.intro (by omega) ?_); refine hK _ _ ?_; clear hK)
  refine VR [0, 1, 10] rfl rfl fun K hK => ?_; simp only [go_sem,↓reduceIte,Nat.reduceEqDiff]
  ((repeat refine And.intro (by omega) ?_); refine hK _ _ ?_; clear hK)
  refine VC_cond rfl rfl (fun h => by simp at h) (fun h => VC_skip ?_)
  clear h
  refine VR [0, 1, 5] rfl rfl fun K hK => ?_; simp only [go_sem,↓reduceIte,Nat.reduceEqDiff]
  ((repeat refine And.intro (by omega) ?_); refine hK _ _ ?_; clear hK)
  ((repeat refine VC_seq ?_); refine VC_block ?_)
  refine VC_loopS [0, 1, 5] (fun m e w' => ∃ (i : Nat), Is e [(0, .slice a l.length c), (1, .slice b l.length c'), (5, .int .i64 i)] ∧ Is w' w ∧ i ≤ l.length ∧ m = l.length - i) l.length ?_ ?_
  · simp only [go_sem,↓reduceIte,Nat.reduceEqDiff]
    exact ⟨0, rfl, rfl, by omega, rfl⟩
  rintro m e w3 ⟨i, rfl, rfl, hi, rfl⟩
  refine VR [0, 1, 5, 14] rfl rfl fun K hK => ?_; simp only [go_sem,↓reduceIte,Nat.reduceEqDiff]
  ((repeat refine And.intro (by omega) ?_); refine hK _ _ ?_; clear hK)
  refine VC_cond rfl rfl (fun h => ?_) (fun h => ?_)
  · simp only [decide_eq_true_eq] at h
    refine VC_skip ?_
    ((repeat refine VC_seq ?_); refine VC_block ?_)
    have hi' : i < l.length := by omega
    obtain ⟨x, hx⟩ : ∃ x, l[i]? = some x := ⟨_, List.getElem?_eq_getElem hi'⟩
    obtain ⟨p, rfl⟩ := rs_pos hl (by omega)
    obtain ⟨q, rfl⟩ := rs_pos hl2 (by omega)
    have hr1 := fo_get hl hx
    have hr2 := fo_get hl2 hx
    (repeat refine VC_seq ?_); refine VC_regionQ [0, 1, 5, 25] (by kernel_rfl) (by kernel_rfl) rfl fun K hK => ?_; simp only [go_sem,↓reduceIte,Nat.reduceEqDiff]
    refine ⟨⟨by omega, by omega⟩, foV x, ⟨rfl, hr1⟩, ⟨by omega, by omega⟩, foV x, ⟨rfl, hr2⟩, ?_⟩
    rw [neq_fo]
    (refine hK _ ?_; clear hK)
    refine VC_cond rfl rfl (fun h => by simp at h) (fun h => VC_skip ?_)
    clear h
    refine VC_blk ?_
    refine VR [0, 1, 5] rfl rfl fun K hK => ?_; simp only [go_sem,↓reduceIte,Nat.reduceEqDiff]
    ((repeat refine And.intro (by omega) ?_); refine hK _ _ ?_; clear hK)
    refine VC_again ?_
    simp only [go_sem,↓reduceIte,Nat.reduceEqDiff]
    exact ⟨l.length - (i + 1), by omega, i + 1, rfl, rfl, by omega, rfl⟩
  · simp only [decide_eq_false_iff_not] at h
    obtain rfl : i = l.length := by omega
    refine VC_exit rfl ?_
    refine VR [4] rfl rfl fun K hK => ?_; simp only [go_sem,↓reduceIte,Nat.reduceEqDiff]
    ((repeat refine And.intro (by omega) ?_); refine hK _ _ ?_; clear hK)
    exact VC_ret (VX_ret1 rfl rfl ⟨rfl, rfl⟩)
theorem salvageLasts_law (l : List Fo) (a : Option Addr) (c : Nat) (w : World) (hl : RS w a l.length 3 (fosV l)) : Does Tryz.prog 7 #[.slice a l.length c] w fun v w' => Heap w [] w' [] ∧ v = .bool true := by
  refine Does_enter (args := [.slice a l.length c]) 40 Tryz.func7 rfl rfl (of_decide_eq_true rfl) ?_
  simp only [Env.ofArgs]
  refine VR [0, 2] rfl rfl fun K hK => ?_; simp only [go_sem,↓reduceIte,Nat.reduceEqDiff]
  ((repeat refine And.intro (by omega) ?_); refine hK _ _ ?_; clear hK)
  refine VR [0, 2, 7] rfl rfl fun K hK => ?_; simp only [go_sem,↓reduceIte,Nat.reduceEqDiff]
  ((repeat refine And.intro (by omega) ?_); refine hK _ _ ?_; clear hK)
  refine VC_cond rfl rfl (fun h => ?_) (fun h => VC_skip ?_)
  · refine VR [2] rfl rfl fun K hK => ?_; simp only [go_sem,↓reduceIte,Nat.reduceEqDiff]
    refine MemK_callD Tryz.call18 (awake26_does w) (by simp only [go_sem,↓reduceIte,Nat.reduceEqDiff] <;> rfl) ?_
    rintro v w2 ⟨hH, rfl⟩
    (try simp only [go_sem,↓reduceIte,Nat.reduceEqDiff])
    (refine hK _ _ ?_; clear hK)
    exact VC_ret (VX_ret1 rfl rfl ⟨hH, rfl⟩)
  have hlen : l.length ≤ 100 := by
    have : ¬ (100 : Int) < l.length := by simpa using h
    omega
  clear h
  refine VR [0, 3] rfl rfl fun K hK => ?_; simp only [go_sem,↓reduceIte,Nat.reduceEqDiff]
  ((repeat refine And.intro (by omega) ?_); refine hK _ _ ?_; clear hK)
  ((repeat refine VC_seq ?_); refine VC_block ?_)
  refine VC_loopS [0, 3] (fun m e w' => ∃ (i : Nat), Is e [(0, .slice a l.length c), (3, .int .i64 i)] ∧ Is w' w ∧ i ≤ l.length ∧ (∀ x ∈ l.take i, x.2.1.length ≤ 200) ∧ m = l.length - i) l.length ?_ ?_
  · simp only [go_sem,↓reduceIte,Nat.reduceEqDiff]
    exact ⟨0, rfl, rfl, by omega, by simp, rfl⟩
  rintro m e w' ⟨i, rfl, rfl, hi, hpre, rfl⟩
  refine VR [0, 3, 12] rfl rfl fun K hK => ?_; simp only [go_sem,↓reduceIte,Nat.reduceEqDiff]
  ((repeat refine And.intro (by omega) ?_); refine hK _ _ ?_; clear hK)
  refine VC_cond rfl rfl (fun h => ?_) (fun h => ?_)
  · simp only [decide_eq_true_eq] at h
    have hi2 : i < l.length := by omega
    clear h
    refine VC_skip ?_
    ((repeat refine VC_seq ?_); refine VC_block ?_)
    obtain ⟨x, hx⟩ : ∃ x, l[i]? = some x := ⟨_, List.getElem?_eq_getElem hi2⟩
    obtain ⟨p, rfl⟩ := rs_pos hl (by omega)
    have hx1 := fo_get hl hx
    refine VR [0, 3, 22] rfl rfl fun K hK => ?_; simp only [go_sem,↓reduceIte,Nat.reduceEqDiff]
    refine ⟨⟨by omega, by omega⟩, _, fo_path hx1, ?_⟩
    (try simp only [go_sem,↓reduceIte,Nat.reduceEqDiff])
    (refine hK _ _ ?_; clear hK)
    refine VC_cond rfl rfl (fun h => ?_) (fun h => VC_skip ?_)
    · refine VR [2] rfl rfl fun K hK => ?_; simp only [go_sem,↓reduceIte,Nat.reduceEqDiff]
      refine MemK_callD Tryz.call18 (awake26_does w') (by simp only [go_sem,↓reduceIte,Nat.reduceEqDiff] <;> rfl) ?_
      rintro v w2 ⟨hH, rfl⟩
      (try simp only [go_sem,↓reduceIte,Nat.reduceEqDiff])
      (refine hK _ _ ?_; clear hK)
      exact VC_ret (VX_ret1 rfl rfl ⟨hH, rfl⟩)
    have hx2 : x.2.1.length ≤ 200 := by
      have : ¬ (200 : Int) < x.2.1.length := by simpa using h
      omega
    refine VC_blk ?_
    refine VR [0, 3] rfl rfl fun K hK => ?_; simp only [go_sem,↓reduceIte,Nat.reduceEqDiff]
    ((repeat refine And.intro (by omega) ?_); refine hK _ _ ?_; clear hK)
    refine VC_again ?_
    simp only [go_sem,↓reduceIte,Nat.reduceEqDiff]
    refine ⟨l.length - (i + 1), by omega, i + 1, rfl, rfl, by omega, ?_, rfl⟩
    rw [take_snoc hx]
    intro y hy
    rcases List.mem_append.1 hy with h | h
    · exact hpre y h
    · simp at h; rw [h]; exact hx2
  simp only [decide_eq_false_iff_not] at h
  obtain rfl : i = l.length := by omega
  rw [List.take_length] at hpre
  have hok2 : ∀ x ∈ l, x.2.1.length ≤ 1000000000 := fun x hx => Nat.le_trans (hpre x hx) (by omega)
  clear h hi
  refine VC_exit rfl ?_
  refine VR [0, 4] rfl rfl fun K hK => ?_; simp only [go_sem,↓reduceIte,Nat.reduceEqDiff]
  refine MemK_lit0 (Heap.start w') 3 Tryz.underlying41 sz45 (z := .agg #[.int .i64 0, .string ⟨#[]⟩, .string ⟨#[]⟩]) (by kernel_rfl) rfl fun g w1 hH => ?_
  (try simp only [go_sem,↓reduceIte,Nat.reduceEqDiff])
  refine MemK_append ?_
  simp only [go_sem,↓reduceIte,Nat.reduceEqDiff]
  refine AppK_row (zs := #[.int .i64 0, .string ⟨#[]⟩, .string ⟨#[]⟩]) (bytes := 40) hH 0 rfl Tryz.underlying41 (by kernel_rfl) rfl (m := l.length) (news := fosV l) ⟨rfl, hH.rs' hl, 45, Tryz.underlying41⟩ (fosV_one l) (fun h => by omega) fun ao co w2 hc' hH2 => ?_
  simp only [List.set_cons_zero, List.nil_append, Nat.zero_add] at hH2
  rw [Nat.zero_add]
  clear hH
  (try simp only [go_sem,↓reduceIte,Nat.reduceEqDiff])
  (refine hK _ _ ?_; clear hK)
  refine VR [2] rfl rfl fun K hK => ?_; simp only [go_sem,↓reduceIte,Nat.reduceEqDiff]
  refine MemK_callD Tryz.call20 (slast_does l ao co w2 (row_rs (hH2.at 0 rfl)) (by omega) hok2) (by simp only [go_sem,↓reduceIte,Nat.reduceEqDiff] <;> rfl) ?_
  rintro v w3 ⟨T, a3, c3, L, cl, hM, hTp, hTs, hTl, rfl, hHc⟩
  have hH3 := hH2.call0 hHc
  clear hHc hH2
  (try simp only [go_sem,↓reduceIte,Nat.reduceEqDiff])
  refine MemK_callD Tryz.call21 (rlast26_does l a c w3 (hH3.rs' hl) (by omega) hok2) (by simp only [go_sem,↓reduceIte,Nat.reduceEqDiff] <;> rfl) ?_
  rintro v w4 ⟨all, out, a4, c4, hS, hO, hol, rfl, hHc⟩
  obtain rfl := last_one hM hTp hTs hS hO
  have hH4 := hH3.call0 hHc
  clear hHc hH3
  (try simp only [go_sem,↓reduceIte,Nat.reduceEqDiff])
  refine MemK_callD Tryz.call19 (same_does T a3 a4 c3 c4 w4 (row_rs (hH4.at 1 rfl)) (row_rs (hH4.at 0 rfl)) (by omega)) (by simp only [go_sem,↓reduceIte,Nat.reduceEqDiff] <;> rfl) ?_
  rintro v w5 ⟨rfl, rfl⟩
  (try simp only [go_sem,↓reduceIte,Nat.reduceEqDiff])
  refine MemK_callD Tryz.call22 (same26_does l ao a co c w5 (row_rs (hH4.at 2 rfl)) (hH4.rs' hl) (by omega)) (by simp only [go_sem,↓reduceIte,Nat.reduceEqDiff] <;> rfl) ?_
  rintro v w6 ⟨rfl, rfl⟩
  (try simp only [go_sem,↓reduceIte,Nat.reduceEqDiff])
  refine MemK_callD Tryz.call18 (awake26_does w6) (by simp only [go_sem,↓reduceIte,Nat.reduceEqDiff] <;> rfl) ?_
  rintro v w7 ⟨hHz, rfl⟩
  (try simp only [go_sem,↓reduceIte,Nat.reduceEqDiff])
  (refine hK _ _ ?_; clear hK)
  exact VC_ret (VX_ret1 rfl rfl ⟨(hH4.sub (List.nil_sublist _)).call0 hHz, rfl⟩)
end Go.Proofs.YtoioaddfachjhaaGreatDoor
namespace Go.Proofs.YtoioaddfachjhaaGreatDoor
open Go Go.Eng Go.ChangeShapes Go.WideShapes
set_option linter.unusedVariables false
set_option linter.unusedSimpArgs false
set_option maxRecDepth 100000
theorem open_en {H : Type} {enc : TypeId × Value → H} {W : World} {base : Nat} {sp : Nat → Bool} {held : Bool} (fuel : Nat) (cs : List Value) (x : DataW H × List MemPlace)
    (h : DataW.trod enc Tryz.prog W base sp held fuel 43 cs = some x) : ∃ y : En, cs = enV y := by
  obtain ⟨xs, n, rfl, rfl, hcl, hlen, hf⟩ := DataW.trod_struct Tryz.underlying43 h
  have hc2 : Tryz.prog.cellsOf 43 = 2 := by kernel_rfl
  have s9 : Tryz.prog.cellsOf 9 = 1 := by kernel_rfl
  rw [hc2] at hcl
  match xs, hlen with
  | [y0, y1], _ =>
  match cs, hcl with
  | [v0, v1], _ =>
  have h0 := hf 0 _ rfl
  have h1 := hf 1 _ rfl
  simp only [s9, List.drop_zero, List.drop_succ_cons, List.take_succ_cons, List.take_zero, List.getElem?_cons_zero, List.getElem?_cons_succ] at h0 h1
  obtain ⟨sn, e0, e0x, hn⟩ := DataW.trod_string Tryz.underlying9 h0
  obtain ⟨sd, e1, e1x, hd⟩ := DataW.trod_string Tryz.underlying9 h1
  cases e0
  cases e1
  exact ⟨(sn.data.toList, sd.data.toList), rfl⟩
theorem open_fo {H : Type} {enc : TypeId × Value → H} {W : World} {base : Nat} {sp : Nat → Bool} {held : Bool} (fuel : Nat) (cs : List Value) (x : DataW H × List MemPlace)
    (h : DataW.trod enc Tryz.prog W base sp held fuel 45 cs = some x) : ∃ y : Fo, cs = foV y := by
  obtain ⟨xs, n, rfl, rfl, hcl, hlen, hf⟩ := DataW.trod_struct Tryz.underlying45 h
  have hc3 : Tryz.prog.cellsOf 45 = 3 := by kernel_rfl
  have hc2 : Tryz.prog.cellsOf 43 = 2 := by kernel_rfl
  have s3 : Tryz.prog.cellsOf 3 = 1 := by kernel_rfl
  rw [hc3] at hcl
  match xs, hlen with
  | [y0, y1], _ =>
  match cs, hcl with
  | [v0, v1, v2], _ =>
  have h0 := hf 0 _ rfl
  have h1 := hf 1 _ rfl
  have h0 : DataW.trod enc Tryz.prog W base sp held n 3 (List.take (Tryz.prog.cellsOf 3) (List.drop 0 [v0, v1, v2])) = some y0 := h0
  have h1 : DataW.trod enc Tryz.prog W base sp held n 43 (List.take (Tryz.prog.cellsOf 43) (List.drop 1 [v0, v1, v2])) = some y1 := h1
  rw [s3] at h0
  rw [hc2] at h1
  simp only [List.drop_zero, List.drop_succ_cons, List.take_succ_cons, List.take_zero] at h0 h1
  obtain ⟨n0, e0, _, _⟩ := DataW.trod_int Tryz.underlying3 h0
  obtain ⟨e, he⟩ := open_en _ _ _ h1
  cases e0
  refine ⟨(n0, e), ?_⟩
  show _ = Value.int .i64 n0 :: enV e
  rw [← he]
theorem open_fos {H : Type} {enc : TypeId × Value → H} {W : World} {base : Nat} {sp : Nat → Bool} {held : Bool} {fuel : Nat} {a0 : Option Addr} {len cap : Nat} {x : DataW H × List MemPlace}
    (hf : DataW.trod enc Tryz.prog W base sp held fuel 41 (Value.slice a0 len cap).cells.toList = some x) : ∃ l : List Fo, len = l.length ∧ Go.Eng.RS W a0 l.length 3 (fosV l) := by
  have hc3 : Tryz.prog.cellsOf 45 = 3 := by kernel_rfl
  rcases DataW.trod_slice Tryz.underlying41 hf with ⟨hcs, _⟩ | ⟨a, len', cap', elems, rest, n, _, hcs, hx, hb, hl, hm, hlen, hel, _, _⟩
  · simp [Value.cells] at hcs
    obtain ⟨rfl, rfl, rfl⟩ := hcs
    exact ⟨[], rfl, ⟨rfl, fun _ => rfl, fun ad h => (by cases h)⟩⟩
  · simp [Value.cells] at hcs
    obtain ⟨rfl, rfl, rfl⟩ := hcs
    have each : ∀ i, ∃ y : Fo, i < len → ∀ j u, (foV y)[j]? = some u → W.cell? ((a.add (i * 3)).add j) = some u := by
      intro i
      by_cases hi : i < len
      · have h2 := hel i hi
        rw [List.getElem?_eq_getElem (by omega), hc3, Option.bind_eq_some_iff] at h2
        obtain ⟨cs, h3, h4⟩ := h2
        obtain ⟨y, hy⟩ := open_fo n cs _ h4
        refine ⟨y, fun _ => fun j u hu => ?_⟩
        have h11 := (World.cells?_some h3).2
        have hj : j < 3 := by
          have := (List.getElem?_eq_some_iff.1 hu).1
          rwa [foV_len] at this
        rw [h11.2 j hj, hy, hu]
      · exact ⟨(0, [], []), fun h => absurd h hi⟩
    obtain ⟨f, hf⟩ := Classical.axiomOfChoice each
    have hll : ((List.range len).map f).length = len := by simp
    refine ⟨(List.range len).map f, hll.symm, ⟨by rw [fosV_len], fun h => (by cases h), fun ad had => ?_⟩⟩
    cases had
    intro j u hu
    have hj : j < len * 3 := by
      have := (List.getElem?_eq_some_iff.1 hu).1
      rw [fosV_len] at this
      simpa using this
    have hi : j / 3 < len := by omega
    have hg : ((List.range len).map f)[j / 3]? = some (f (j / 3)) := by simp [hi]
    have hc := hf (j / 3) hi
    have hj4 : j % 3 < (foV (f (j / 3))).length := by rw [foV_len]; omega
    have hg2 := rowsV_get (k := 3) foV_len _ (j / 3) _ hg (j % 3) _ (List.getElem?_eq_getElem hj4)
    rw [show j / 3 * 3 + j % 3 = j by omega] at hg2
    have hg3 : (fosV ((List.range len).map f))[j]? = some ((foV (f (j / 3)))[j % 3]'hj4) := hg2
    rw [hg3] at hu
    cases hu
    have := hc (j % 3) _ (List.getElem?_eq_getElem hj4)
    rw [addr_add_add, show j / 3 * 3 + j % 3 = j by omega] at this
    exact this
end Go.Proofs.YtoioaddfachjhaaGreatDoor
