/- What the proof leans on, part 1: no conditions. -/
import Derived.Test.YtoioaddfachjhaaGreatDoorM1
namespace Go.Proofs.YtoioaddfachjhaaGreatDoor
open Go Go.Eng Go.Ev
set_option maxRecDepth 100000
set_option linter.unusedSimpArgs false
set_option linter.unusedVariables false
theorem rcheck_does (l : List Ex) (a : Option Addr) (c : Nat) (cap : Int) (w : World) (hl : RS w a l.length 2 (extsV l)) (hlen : l.length ≤ 1000000) (hok : ∀ x ∈ l, XOk x) (hcap : I64 cap) :
    Does Tryz.prog 13 #[.slice a l.length c, .int .i64 cap] w fun v w' => Heap w [] w' [] ∧ ∃ n : Int, v = .int .i64 n ∧ CkV cap l n := by
  refine En [.slice a l.length c, .int .i64 cap] 15 Tryz.func13 ?_
  refine VS [0, 1] ?_
  refine VQ [6] fun K hK => ?_
  refine MemK_call Tryz.call26 ?_; refine Qs ?_; refine CallK.mk (taken_does l a c cap w hl hlen hok hcap) ?_
  rintro v w2 (⟨hno, rfl, hH⟩ | ⟨hmc, gu, rfl, hH⟩)
  · (try refine Qs ?_)
    apply hK; clear hK
    refine VS [14] ?_
    refine VC_cond rfl rfl (fun h => ?_) (fun h => by simp at h)
    refine VS [4] ?_
    exact VC_ret (VX_ret1 rfl rfl ⟨hH, _, rfl, .inr ⟨hno, rfl⟩⟩)
  (try refine Qs ?_)
  apply hK; clear hK
  refine VS [14] ?_
  refine VC_cond rfl rfl (fun h => by simp at h) (fun h => VC_skip ?_)
  refine VS [4] ?_
  exact VC_ret (VX_ret1 rfl rfl ⟨hH.sub (List.nil_sublist _), _, rfl, .inl ⟨hmc, rfl⟩⟩)
def endGo (u : Nat → Bool) : Nat → Int
  | 0 => 30
  | d + 1 => if u (30 + d) then ((30 + d : Nat) : Int) + 1 else endGo u d
theorem endGo_spec (u : Nat → Bool) : ∀ d, ∃ e : Nat, endGo u d = e ∧ 30 ≤ e ∧ e ≤ 30 + d ∧ (e = 30 ∨ u (e - 1) = true) ∧ ∀ k, e ≤ k → k < 30 + d → u k = false := by
  intro d
  induction d with
  | zero => exact ⟨30, rfl, Nat.le_refl _, Nat.le_refl _, .inl rfl, fun k h1 h2 => by omega⟩
  | succ d ih =>
    obtain ⟨e, h1, h2, h3, h4, h5⟩ := ih
    rw [endGo]
    by_cases hu : u (30 + d) = true
    · rw [if_pos hu]
      exact ⟨30 + d + 1, by omega, by omega, by omega, .inr hu, fun k h6 h7 => by omega⟩
    · rw [if_neg hu]
      refine ⟨e, h1, h2, by omega, h4, fun k h6 h7 => ?_⟩
      by_cases hk : k = 30 + d
      · subst hk
        simpa using hu
      · exact h5 k h6 (by omega)
theorem endGo_end {l : List Ex} (hm : May 4096 l) : endGo (us l) 4066 = endS l := by
  obtain ⟨e1, e2, e3⟩ := foldl_ge l 30
  obtain ⟨b1, b2⟩ := endS_le fun x hx => (hm.1 x hx).2.2
  have e2 : ∀ x ∈ l, x.1 + x.2 ≤ endS l := e2
  have e3 : endS l = 30 ∨ ∃ x ∈ l, x.1 + x.2 = endS l := e3
  obtain ⟨e, h1, h2, h3, h4, h5⟩ := endGo_spec (us l) 4066
  rw [h1]
  have g1 : (e : Int) ≤ endS l := by
    rcases h4 with h4 | h4
    · omega
    · obtain ⟨x, hx, h6, h7⟩ := us_iff.1 h4
      have := e2 x hx
      omega
  have g2 : endS l ≤ e := by
    rcases e3 with h6 | ⟨x, hx, h6⟩
    · omega
    · obtain ⟨q1, q2, q3⟩ := hm.1 x hx
      by_cases hlt : (e : Int) < endS l
      · have h8 := h5 (endS l - 1).toNat (by omega) (by omega)
        have h9 : us l (endS l - 1).toNat = true := us_iff.2 ⟨x, hx, by omega, by omega⟩
        rw [h9] at h8; cases h8
      · omega
  omega
theorem rend_does (l : List Ex) (a : Option Addr) (c : Nat) (w : World) (hl : RS w a l.length 2 (extsV l)) (hlen : l.length ≤ 1000000) (hok : ∀ x ∈ l, XOk x) :
    Does Tryz.prog 15 #[.slice a l.length c] w fun v w' => Heap w [] w' [] ∧ ∃ n : Int, v = .int .i64 n ∧ (May 4096 l ∧ n = endS l ∨ ¬ May 4096 l ∧ n = 30) := by
  refine En [.slice a l.length c] 26 Tryz.func15 ?_
  refine VS [0] ?_
  refine VQ [3, 4] fun K hK => ?_
  refine MemK_call Tryz.call26 ?_; refine Qs ?_; refine CallK.mk (taken_does l a c 4096 w hl hlen hok (by unfold I64; omega)) ?_
  rintro v w2 (⟨hno, rfl, hH⟩ | ⟨hmc, gu, rfl, hH⟩)
  · (try refine Qs ?_)
    apply hK; clear hK
    refine VS [3, 4, 5] ?_
    refine VS [3, 4, 5, 6] ?_
    refine VB ?_
    refine VC_loopS [3, 4, 5, 6] (fun m e w' => Is e [(3, .slice none 0 0), (4, .bool false), (5, .int .i64 30), (6, .int .i64 30)] ∧ w' = w2 ∧ m = 0) 0 ?_ ?_
    · refine Qs ?_
      exact ⟨rfl, trivial, trivial⟩
    rintro m e w3 ⟨rfl, rfl, rfl⟩
    refine VS [3, 4, 5, 6, 16] ?_
    refine VC_cond rfl rfl (fun h => by simp at h) (fun h => ?_)
    refine VC_exit rfl ?_
    refine VS [2] ?_
    exact VC_ret (VX_ret1 rfl rfl ⟨hH, _, rfl, .inr ⟨fun h => hno ⟨by omega, by omega, h⟩, rfl⟩⟩)
  obtain ⟨_, _, hm⟩ := hmc
  have hH : Heap w [] w2 [Res.row 4 1 (some ⟨gu, 0, none⟩) 4096 4096 (blsV (usedL l 4096))] := hH
  (try refine Qs ?_)
  apply hK; clear hK
  refine VS [3, 4, 5] ?_
  refine VS [3, 4, 5, 6] ?_
  refine VB ?_
  refine VC_loopS [3, 4, 5, 6] (fun m e w' => ∃ (d : Nat), Is e [(3, .slice (some ⟨gu, 0, none⟩) 4096 4096), (4, .bool true), (5, .int .i64 (endGo (us l) d)), (6, .int .i64 (30 + d : Nat))] ∧ Heap w [] w' [Res.row 4 1 (some ⟨gu, 0, none⟩) 4096 4096 (blsV (usedL l 4096))] ∧ d ≤ 4066 ∧ m = 4066 - d) 4066 ?_ ?_
  · refine Qs ?_
    exact ⟨0, rfl, hH, by omega, rfl⟩
  clear hH
  rintro m e w3 ⟨d, rfl, hH, hd, rfl⟩
  refine VS [3, 4, 5, 6, 16] ?_
  refine VD (fun h => ?_) (fun h => ?_)
  ·
    refine VC_skip ?_
    refine VB ?_
    have hkn : 30 + d < 4096 := by omega
    have hcell := row_cell (hH.at 0 rfl) (blsV_get (l := usedL l 4096) (i := 30 + d) (by rw [usedL_len]; exact hkn))
    rw [usedL_get _ hkn] at hcell
    have hgo : endGo (us l) (d + 1) = if us l (30 + d) then ((30 + d : Nat) : Int) + 1 else endGo (us l) d := rfl
    refine VQ [3, 4, 5, 6, 22] fun K hK => ?_
    refine ⟨⟨by omega, by omega⟩, _, hcell, ?_⟩
    (try refine Qs ?_)
    apply hK; clear hK
    refine VC_cond rfl rfl (fun h2 => ?_) (fun h2 => ?_)
    · rw [if_pos h2] at hgo
      refine VS [3, 4, 5, 6] ?_
      refine VC_blk ?_
      refine VS [3, 4, 5, 6] ?_
      refine VC_again ?_
      refine Qs ?_
      exact ⟨4066 - (d + 1), by omega, d + 1, by rw [hgo]; rfl, hH, by omega, rfl⟩
    · rw [h2] at hgo
      refine VC_skip (VC_blk ?_)
      refine VS [3, 4, 5, 6] ?_
      refine VC_again ?_
      refine Qs ?_
      exact ⟨4066 - (d + 1), by omega, d + 1, by rw [hgo]; rfl, hH, by omega, rfl⟩
  ·
    obtain rfl : d = 4066 := by omega
    refine VC_exit rfl ?_
    refine VS [2] ?_
    exact VC_ret (VX_ret1 rfl rfl ⟨hH.sub (List.nil_sublist _), _, rfl, .inl ⟨hm, endGo_end hm⟩⟩)
theorem neq_ext (a b : Ex) (xo yo : Operand) (w : World) (KV : Value → Prop) : vBinO Tryz.prog .neq 35 xo yo (.agg (extV a).toArray) (.agg (extV b).toArray) w KV = KV (.bool (!decide (a = b))) := by
  refine EqR_of fun w' => ?_
  have hS : Tryz.prog.underlying 35 = some (.struct (Tryz.prog.fieldsOf 35)) := by kernel_rfl
  have hp : Tryz.prog.stoodInHeld 35 = false := by kernel_rfl
  have hg : Tryz.prog.eqGuardType Tryz.prog.depth 35 = false := by kernel_rfl
  simp only [Sem.run_bind]
  rw [run_eqGuard_agg _ _ _ _ _ _ _ hg]
  simp only [Result.andThen_ok]
  rw [run_neq_struct, show (10000 : Nat) = 9999 + 1 from rfl, run_equalIn_agg w' 9999 35 _ _ hS hp]
  simp only [Program.fieldsOf, Tryz.underlying35]
  have u3 := Tryz.underlying3
  have a3 := Tryz.isAgg3
  have z3 := Tryz.sizeOf3
  simp only [extV]
  go_simp
  obtain ⟨a1, a2⟩ := a
  obtain ⟨b1, b2⟩ := b
  simp only [Prod.mk.injEq]
  by_cases h1 : a1 = b1
  · by_cases h2 : a2 = b2
    · subst h1 h2; simp
    · have h3 : ¬ (a2 = b2) := by omega
      simp [h1, h2, h3]
  · simp [h1]
theorem same_does (l : List Ex) (a b : Option Addr) (c c' : Nat) (w : World) (hl : RS w a l.length 2 (extsV l)) (hl2 : RS w b l.length 2 (extsV l)) (hlen : l.length ≤ 1000000) :
    Does Tryz.prog 11 #[.slice a l.length c, .slice b l.length c'] w fun v w' => Heap w [] w' [] ∧ v = .bool true := by
  refine En [.slice a l.length c, .slice b l.length c'] 26 Tryz.func11 ?_
  refine VS [0, 1] ?_
  refine VS [0, 1, 10] ?_
  refine VC_cond rfl rfl (fun h => by simp at h) (fun h => VC_skip ?_)
  clear h
  refine VS [0, 1, 5] ?_
  refine VB ?_
  refine VC_loopS [0, 1, 5] (fun m e w' => ∃ (i : Nat), Is e [(0, .slice a l.length c), (1, .slice b l.length c'), (5, .int .i64 i)] ∧ Heap w [] w' [] ∧ i ≤ l.length ∧ m = l.length - i) l.length ?_ ?_
  · refine Qs ?_
    exact ⟨0, rfl, Heap.start w, by omega, rfl⟩
  rintro m e w3 ⟨i, rfl, hH, hi, rfl⟩
  refine VS [0, 1, 5, 14] ?_
  refine VD (fun h => ?_) (fun h => ?_)
  ·
    refine VC_skip ?_
    refine VB ?_
    have hi' : i < l.length := by omega
    obtain ⟨x, hx⟩ : ∃ x, l[i]? = some x := ⟨_, List.getElem?_eq_getElem hi'⟩
    obtain ⟨p, rfl⟩ := rs_pos hl (by omega)
    obtain ⟨q, rfl⟩ := rs_pos hl2 (by omega)
    have hr1 := rs_ext (hH.rs' hl) hx
    have hr2 := rs_ext (hH.rs' hl2) hx
    refine Vq [0, 1, 5, 25] fun K hK => ?_
    refine ⟨⟨by omega, by omega⟩, extV x, ⟨rfl, hr1⟩, ⟨by omega, by omega⟩, extV x, ⟨rfl, hr2⟩, ?_⟩
    rw [neq_ext]
    apply hK; clear hK
    refine VC_cond rfl rfl (fun h => by simp at h) (fun h => VC_skip ?_)
    clear h
    refine VC_blk ?_
    refine VS [0, 1, 5] ?_
    refine VC_again ?_
    refine Qs ?_
    exact ⟨l.length - (i + 1), by omega, i + 1, rfl, hH, by omega, rfl⟩
  ·
    obtain rfl : i = l.length := by omega
    refine VC_exit rfl ?_
    refine VS [4] ?_
    exact VC_ret (VX_ret1 rfl rfl ⟨hH, rfl⟩)
end Go.Proofs.YtoioaddfachjhaaGreatDoor
namespace Go.Proofs.YtoioaddfachjhaaGreatDoor
open Go Go.Eng Go.Ev
set_option maxRecDepth 100000
set_option linter.unusedSimpArgs false
set_option linter.unusedVariables false
def FrV (cap : Int) (l : List Ex) (F : List Ex) (n : Int) : Prop := ¬ (1 ≤ cap ∧ cap ≤ 4096 ∧ May cap l) ∧ F = [] ∧ n = 220 ∨ (1 ≤ cap ∧ cap ≤ 4096 ∧ May cap l) ∧ F = runsGo (us l) 30 (cap.toNat - 30) ∧ n = 0
theorem FrV.same {cap : Int} {l F G : List Ex} {n m : Int} (h : FrV cap l F n) (h2 : FrV cap l G m) : F = G ∧ n = m := by
  rcases h with ⟨h, rfl, rfl⟩ | ⟨h, rfl, rfl⟩ <;> rcases h2 with ⟨h2, rfl, rfl⟩ | ⟨h2, rfl, rfl⟩
  · exact ⟨rfl, rfl⟩
  · exact absurd h2 h
  · exact absurd h h2
  · exact ⟨rfl, rfl⟩
theorem FrV.len {cap : Int} {l F : List Ex} {n : Int} (h : FrV cap l F n) : F.length ≤ 4096 := by
  rcases h with ⟨h, rfl, rfl⟩ | ⟨h, rfl, rfl⟩
  · simp
  · obtain ⟨h1, _⟩ := runs_bound (u := us l) (a := 30) (cap.toNat - 30)
    omega
theorem free_does' (l : List Ex) (a : Option Addr) (c : Nat) (cap : Int) (w : World) (hl : RS w a l.length 2 (extsV l)) (hlen : l.length ≤ 1000000) (hok : ∀ x ∈ l, XOk x) (hcap : I64 cap) :
    Does Tryz.prog 9 #[.slice a l.length c, .int .i64 cap] w fun v w' => ∃ (F : List Ex) (n : Int) (a' : Option Addr) (c' : Nat), v = .tuple #[.slice a' F.length c', .int .i64 n] ∧ Heap w [] w' [Res.row 35 2 a' F.length c' (extsV F)] ∧ FrV cap l F n := by
  refine (free_does l a c cap w hl hlen hok hcap).mono fun v w' h => ?_
  rcases h with ⟨h, rfl, hH⟩ | ⟨h, T, a', c', hp, hs, rfl, hH⟩
  · exact ⟨[], 220, none, 0, rfl, hH.nilRow _ _, .inl ⟨h, rfl, rfl⟩⟩
  · refine ⟨freeS cap T, 0, a', c', rfl, hH, .inr ⟨h, ?_, rfl⟩⟩
    obtain ⟨m, rfl⟩ : ∃ m : Nat, cap = m := ⟨cap.toNat, by omega⟩
    rw [Int.toNat_natCast, ← freeS_runs hp hs h.2.2]
theorem rfree_does' (l : List Ex) (a : Option Addr) (c : Nat) (cap : Int) (w : World) (hl : RS w a l.length 2 (extsV l)) (hlen : l.length ≤ 1000000) (hok : ∀ x ∈ l, XOk x) (hcap : I64 cap) :
    Does Tryz.prog 10 #[.slice a l.length c, .int .i64 cap] w fun v w' => ∃ (F : List Ex) (n : Int) (a' : Option Addr) (c' : Nat), v = .tuple #[.slice a' F.length c', .int .i64 n] ∧ Heap w [] w' [Res.row 35 2 a' F.length c' (extsV F)] ∧ FrV cap l F n := by
  refine (rfree_does l a c cap w hl hlen hok hcap).mono fun v w' h => ?_
  rcases h with ⟨h, rfl, hH⟩ | ⟨h, a', c', rfl, hH⟩
  · exact ⟨[], 220, none, 0, rfl, hH.nilRow _ _, .inl ⟨h, rfl, rfl⟩⟩
  · exact ⟨_, 0, a', c', rfl, hH, .inr ⟨h, rfl, rfl⟩⟩
theorem spaceFrees_law (l : List Ex) (a : Option Addr) (c : Nat) (cap : Int) (w : World) (hl : RS w a l.length 2 (extsV l)) (hlen : l.length ≤ 8796093022208) (hok : ∀ x ∈ l, XOk x) (hcap : I64 cap) :
    Does Tryz.prog 3 #[.slice a l.length c, .int .i64 cap] w fun v w' => Heap w [] w' [] ∧ v = .bool true := by
  refine En [.slice a l.length c, .int .i64 cap] 61 Tryz.func3 ?_
  refine VS [0, 1] ?_
  refine VS [0, 1, 12] ?_
  refine Vi (fun h => ?_) (fun h => VC_skip ?_)
  · refine VQ [4] fun K hK => ?_
    refine MemK_call Tryz.call8 ?_; refine Qs ?_; refine CallK.mk (awake22_does w) ?_
    rintro v w3 ⟨hH2, rfl⟩
    (try refine Qs ?_)
    apply hK; clear hK
    exact VC_ret (VX_ret1 rfl rfl ⟨hH2, rfl⟩)
  simp only [decide_eq_false_iff_not] at h
  have hln : l.length ≤ 500 := by omega
  clear h hlen
  refine VQ [0, 1, 5] fun K hK => ?_
  refine MemK_lit0 (Heap.start w) 2 Tryz.underlying22 sz35 (z := .agg #[.int .i64 0, .int .i64 0]) (by kernel_rfl) rfl fun g w1 hH => ?_
  (try refine Qs ?_)
  refine MemK_append ?_
  refine Qs ?_
  refine AppK_row (zs := #[.int .i64 0, .int .i64 0]) (bytes := 16) hH 0 rfl Tryz.underlying22 (by kernel_rfl) rfl (m := l.length) (news := extsV l) ⟨rfl, hH.rs' hl, 35, Tryz.underlying22⟩ (extsV_one l) (fun h => by omega) fun ao co w2 hc' hH2 => ?_
  simp only [List.set_cons_zero, List.nil_append, Nat.zero_add] at hH2
  rw [Nat.zero_add]
  clear hH
  (try refine Qs ?_)
  apply hK; clear hK
  refine VQ [0, 1, 5, 6, 7] fun K hK => ?_
  refine MemK_call Tryz.call9 ?_; refine Qs ?_; refine CallK.mk (free_does' l ao co cap w2 (row_rs (hH2.at 0 rfl)) (by omega) hok hcap) ?_
  rintro v w3 ⟨F, n, a1, c1, rfl, hH3, hF⟩
  have hH3 := hH2.call0 hH3
  clear hH2
  (try refine Qs ?_)
  apply hK; clear hK
  refine VQ [0, 1, 5, 6, 7, 8, 9] fun K hK => ?_
  refine MemK_call Tryz.call10 ?_; refine Qs ?_; refine CallK.mk (rfree_does' l a c cap w3 (hH3.rs' hl) (by omega) hok hcap) ?_
  rintro v w4 ⟨F', n', a2, c2, rfl, hH4, hF'⟩
  have hH4 := hH3.call0 hH4
  clear hH3
  obtain ⟨rfl, rfl⟩ := hF.same hF'
  have hFl := hF.len
  clear hF hF'
  (try refine Qs ?_)
  apply hK; clear hK
  refine VQ [4] fun K hK => ?_
  refine MemK_call Tryz.call11 ?_; refine Qs ?_; refine CallK.mk (same_does F a1 a2 c1 c2 w4 (row_rs (hH4.at 1 rfl)) (row_rs (hH4.at 0 rfl)) (by omega)) ?_
  rintro v w5 ⟨hH5, rfl⟩
  have hH5 := hH4.call0 hH5
  clear hH4
  (try refine Qs ?_)
  refine ⟨fun _ => ?_, fun h => absurd trivial h⟩
  refine MemK_call Tryz.call12 ?_; refine Qs ?_; refine CallK.mk (check_does l ao co cap w5 (row_rs (hH5.at 2 rfl)) (by omega) hok hcap) ?_
  rintro v w6 ⟨hH6, n1, rfl, hc1⟩
  have hH6 := hH5.call0 hH6
  clear hH5
  (try refine Qs ?_)
  refine MemK_call Tryz.call13 ?_; refine Qs ?_; refine CallK.mk (rcheck_does l a c cap w6 (hH6.rs' hl) (by omega) hok hcap) ?_
  rintro v w7 ⟨hH7, n2, rfl, hc2⟩
  have hH7 := hH6.call0 hH7
  clear hH6
  obtain rfl : n1 = n2 := by
    rcases hc1 with ⟨h1, rfl⟩ | ⟨h1, rfl⟩ <;> rcases hc2 with ⟨h2, rfl⟩ | ⟨h2, rfl⟩
    · rfl
    · exact absurd h1 h2
    · exact absurd h2 h1
    · rfl
  clear hc1 hc2
  (try refine Qs ?_)
  refine ⟨fun _ => ?_, fun h => absurd trivial h⟩
  refine MemK_call Tryz.call14 ?_; refine Qs ?_; refine CallK.mk (end_does l ao co w7 (row_rs (hH7.at 2 rfl)) (by omega) hok) ?_
  rintro v w8 ⟨hH8, n3, rfl, hc1⟩
  have hH8 := hH7.call0 hH8
  clear hH7
  (try refine Qs ?_)
  refine MemK_call Tryz.call15 ?_; refine Qs ?_; refine CallK.mk (rend_does l a c w8 (hH8.rs' hl) (by omega) hok) ?_
  rintro v w9 ⟨hH9, n4, rfl, hc2⟩
  have hH9 := hH8.call0 hH9
  clear hH8
  obtain rfl : n3 = n4 := by
    rcases hc1 with ⟨h1, rfl⟩ | ⟨h1, rfl⟩ <;> rcases hc2 with ⟨h2, rfl⟩ | ⟨h2, rfl⟩
    · rfl
    · exact absurd h1 h2
    · exact absurd h2 h1
    · rfl
  clear hc1 hc2
  (try refine Qs ?_)
  refine ⟨fun _ => ?_, fun h => absurd trivial h⟩
  refine MemK_call Tryz.call11 ?_; refine Qs ?_; refine CallK.mk (same_does l ao a co c w9 (row_rs (hH9.at 2 rfl)) (hH9.rs' hl) (by omega)) ?_
  rintro v w10 ⟨hH10, rfl⟩
  have hH10 := hH9.call0 hH10
  clear hH9
  (try refine Qs ?_)
  refine MemK_call Tryz.call8 ?_; refine Qs ?_; refine CallK.mk (awake22_does w10) ?_
  rintro v w11 ⟨hH11, rfl⟩
  (try refine Qs ?_)
  apply hK; clear hK
  exact VC_ret (VX_ret1 rfl rfl ⟨(hH10.call0 hH11).sub (List.nil_sublist _), rfl⟩)
end Go.Proofs.YtoioaddfachjhaaGreatDoor
