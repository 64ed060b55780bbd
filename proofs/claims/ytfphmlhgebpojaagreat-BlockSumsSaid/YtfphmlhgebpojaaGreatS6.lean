/- A program logic over the model, and what this program's functions do by it: part 6. No conditions: a library of lemmas. -/
import Derived.Test.YtfphmlhgebpojaaGreatS5
import Derived.RangeFuncLeaves
import Derived.RangeFuncNested
import Derived.RangeFuncRecord
import Derived.RecoverIn
import Derived.TacticsIn
open Nat (reduceEqDiff)
set_option linter.unusedSimpArgs false
set_option linter.unusedVariables false
set_option maxRecDepth 100000
namespace Go.Proofs.YtfphmlhgebpojaaGreat
open Go Go.Eng
set_option maxHeartbeats 4000000
theorem Qdj {P : Program} {N : Nat} {ops : List Oper} {w0 : World} {e : Env} {w : World} {K : Env -> World -> Prop} : vcH P N ops w0 [] e w K = K e w := rfl
abbrev QMa : Value := .agg (Qau none 0 0 none 0 0).toArray
def QMb (r : Except Int ((List (List Nat) × List Nat) × Nat)) (w : World) (v : Value) (w' : World) : Prop := match r with
 | .ok q => ∃ pv, Heap w [] w' [] /\ PlanAt w' pv q.1.1 q.1.2 /\ v = .tuple #[pv, .int .i64 q.2, .int .i64 0]
 | .error e => Heap w [] w' [] /\ v = .tuple #[QMa, .int .i64 0, .int .i64 e]
theorem Qq7 (s : List UInt8) (at_ n : Nat) (ha : at_ <= 8 * s.length) (hs : s.length <= 100000000000000) (hn : 3 <= n /\ n <= 258) (w : World) :
  Does Tryz.prog 47 #[Str s, .int .i64 at_, .int .i64 n] w (QMb (Qef (Qas s) at_ n) w) := by
 have hbl := Qbe s
 generalize hres : Qef (Qas s) at_ n = res
 unfold Qef at hres
 refine Qak (args := [Str s, .int .i64 at_, .int .i64 n]) 122 Tryz.func47 rfl rfl (of_decide_eq_true rfl) ?_
 simp only [Env.ofArgs]
 refine VR [0, 1, 2, 6] rfl rfl fun K hK => ?_;simp only [go_sem,↓reduceIte,reduceEqDiff]
 refine Qat (.agg #[.slice none 0 0, .slice none 0 0]) (by kernel_rfl) ?_
 simp only [go_sem,↓reduceIte,reduceEqDiff]
 have hH := (Heap.start w).box 65 (Qau none 0 0 none 0 0)
 have hpl : [Value.slice none 0 0, Value.slice none 0 0] = Qau none 0 0 none 0 0 := rfl
 rw [hpl]
 generalize w.alloc (Obj.cells (Qau none 0 0 none 0 0).toArray 65) = w1 at *
 generalize w.heap.size = gr at *
 (refine hK _ _ ?_;clear hK)
 refine VR [0, 2, 6, 9] rfl rfl fun K hK => ?_;simp only [go_sem,↓reduceIte,reduceEqDiff]
 refine Qag Tryz.call86 ?_;simp only [go_sem,↓reduceIte,reduceEqDiff];refine CallK.mk (Qdr s at_ w1 (I64.mk (by omega) (by omega)) (by omega)) ?_
 rintro v w2 (⟨hbad, _⟩ | ⟨_, gd, gs, hHr, rfl⟩)
 ·
  omega
 rw [Int.toNat_natCast] at hHr
 have hH2 := hH.call0 hHr
 simp only [List.singleton_append] at hH2
 clear hH hHr
 (refine hK _ _ ?_;clear hK)
 refine VR [0, 2, 6, 9, 32] rfl rfl fun K hK => ?_;simp only [go_sem,↓reduceIte,reduceEqDiff]
 suffices out : ∀ b : Bool, (b = true ↔ False) -> K [(0, Str s), (2, .int .i64 n), (6, .pointer (some ⟨gr, 0, none⟩)), (9, .pointer (some ⟨gd, 0, none⟩)), (32, .bool b)] w2 by (repeat' (first | exact out _ _ (by first | omega | (simp;done) | (simp;omega)) | exact out _ (by first | omega | (simp;done) | (simp;omega)) | refine ⟨fun _ => ?_, fun _ => ?_⟩ | refine And.intro (by omega) ?_))
 intro b hb
 (refine hK _ _ ?_;clear hK)
 refine Qab rfl rfl (fun h => (hb.1 h).elim) (fun h => Qaf ?_)
 clear hb h
 refine VR [0, 2, 6, 9, 10, 11] rfl rfl fun K hK => ?_;simp only [go_sem,↓reduceIte,reduceEqDiff]
 refine Qag Tryz.call87 ?_;simp only [go_sem,↓reduceIte,reduceEqDiff];refine CallK.mk (Qes gd gs s at_ 3 w2 (by omega) (by omega) (by omega) (hH2.focus 0 rfl)) ?_
 rintro v w3 (⟨h1, rfl, rfl⟩ | ⟨h1, hHt, rfl⟩)
 ·
  rw [Qj6 (by omega), if_pos (by simp)] at hres
  subst hres
  (refine hK _ _ ?_;clear hK)
  refine VR [0, 2, 6, 9, 10, 11, 40] rfl rfl fun K hK => ?_;simp only [go_sem,↓reduceIte,reduceEqDiff]
  (refine hK _ _ ?_;clear hK)
  refine Qab rfl rfl (fun h => ?_) (fun h => by simp at h)
  refine VR [6, 7, 8] rfl rfl fun K hK => ?_;simp only [go_sem,↓reduceIte,reduceEqDiff]
  (refine Qae ?_;simp only [go_sem,↓reduceIte,reduceEqDiff])
  refine Qal hH2 1 (vs := Qau none 0 0 none 0 0) rfl rfl (by kernel_rfl) (by simp [Qau]) (Qb7 _ _ _ _ _ _) fun w4 hH3 => ?_
  simp only [List.set_cons_zero, List.set_cons_succ] at hH3
  (refine hK _ _ ?_;clear hK)
  refine Qan (Qgi rfl rfl rfl rfl (Qbu (hH3.at 1 rfl) (by kernel_rfl) (by kernel_rfl) rfl ?_))
  exact ⟨hH3.sub (by simp), rfl⟩
 have hH3 := hH2.call1 0 rfl hHt
 simp only [List.set_cons_zero, List.nil_append] at hH3
 clear hH2 hHt
 rw [Qlb (by omega), if_neg (by simp)] at hres
 simp only at hres
 have hm7 := Qe1 (((Qas s).drop at_).take 3)
 have hfl : (((Qas s).drop at_).take 3).length = 3 := by simp;omega
 rw [hfl] at hm7
 generalize numB (((Qas s).drop at_).take 3) = many at *
 (refine hK _ _ ?_;clear hK)
 refine VR [0, 2, 6, 9, 10, 11, 40] rfl rfl fun K hK => ?_;simp only [go_sem,↓reduceIte,reduceEqDiff]
 (refine hK _ _ ?_;clear hK)
 refine Qab rfl rfl (fun h => by simp at h) (fun h => Qaf ?_)
 clear h
 refine VR [0, 2, 6, 9, 10, 48] rfl rfl fun K hK => ?_;simp only [go_sem,↓reduceIte,reduceEqDiff]
 suffices out : ∀ b : Bool, (b = true ↔ (many < 2 ∨ 6 < many)) -> K [(0, Str s), (2, .int .i64 n), (6, .pointer (some ⟨gr, 0, none⟩)), (9, .pointer (some ⟨gd, 0, none⟩)), (10, .int .u64 many), (48, .bool b)] w3 by (repeat' (first | exact out _ _ (by first | omega | (simp;done) | (simp;omega)) | exact out _ (by first | omega | (simp;done) | (simp;omega)) | refine ⟨fun _ => ?_, fun _ => ?_⟩ | refine And.intro (by omega) ?_))
 intro b hb
 (refine hK _ _ ?_;clear hK)
 refine Qab rfl rfl (fun h => ?_) (fun h => ?_)
 ·
  rw [if_pos (hb.1 h)] at hres
  subst hres
  refine VR [6, 7, 8] rfl rfl fun K hK => ?_;simp only [go_sem,↓reduceIte,reduceEqDiff]
  (refine Qae ?_;simp only [go_sem,↓reduceIte,reduceEqDiff])
  refine Qal hH3 1 (vs := Qau none 0 0 none 0 0) rfl rfl (by kernel_rfl) (by simp [Qau]) (Qb7 _ _ _ _ _ _) fun w4 hH4 => ?_
  simp only [List.set_cons_zero, List.set_cons_succ] at hH4
  (refine hK _ _ ?_;clear hK)
  refine Qan (Qgi rfl rfl rfl rfl (Qbu (hH4.at 1 rfl) (by kernel_rfl) (by kernel_rfl) rfl ?_))
  exact ⟨hH4.sub (by simp), rfl⟩
 have hb2 : ¬ (many < 2 ∨ 6 < many) := fun hc => by rw [hb.2 hc] at h;cases h
 rw [if_neg hb2] at hres
 clear hb h
 refine Qaf ?_
 refine VR [0, 2, 6, 9, 10, 11, 12] rfl rfl fun K hK => ?_;simp only [go_sem,↓reduceIte,reduceEqDiff]
 refine Qag Tryz.call87 ?_;simp only [go_sem,↓reduceIte,reduceEqDiff];refine CallK.mk (Qes gd gs s (at_ + 3) 15 w3 (by omega) (by omega) (by omega) (hH3.focus 0 rfl)) ?_
 rintro v w4 (⟨h2, rfl, rfl⟩ | ⟨h2, hHt, rfl⟩)
 ·
  rw [Qj6 (by omega), if_pos (by simp)] at hres
  subst hres
  (refine hK _ _ ?_;clear hK)
  refine VR [0, 2, 6, 9, 10, 11, 12, 56] rfl rfl fun K hK => ?_;simp only [go_sem,↓reduceIte,reduceEqDiff]
  (refine hK _ _ ?_;clear hK)
  refine Qab rfl rfl (fun h => ?_) (fun h => by simp at h)
  refine VR [6, 7, 8] rfl rfl fun K hK => ?_;simp only [go_sem,↓reduceIte,reduceEqDiff]
  (refine Qae ?_;simp only [go_sem,↓reduceIte,reduceEqDiff])
  refine Qal hH3 1 (vs := Qau none 0 0 none 0 0) rfl rfl (by kernel_rfl) (by simp [Qau]) (Qb7 _ _ _ _ _ _) fun w4 hH4 => ?_
  simp only [List.set_cons_zero, List.set_cons_succ] at hH4
  (refine hK _ _ ?_;clear hK)
  refine Qan (Qgi rfl rfl rfl rfl (Qbu (hH4.at 1 rfl) (by kernel_rfl) (by kernel_rfl) rfl ?_))
  exact ⟨hH4.sub (by simp), rfl⟩
 have hH4 := hH3.call1 0 rfl hHt
 simp only [List.set_cons_zero, List.nil_append] at hH4
 clear hH3 hHt
 rw [Qlb (by omega), if_neg (by simp)] at hres
 simp only at hres
 have hm7b := Qe1 (((Qas s).drop (at_ + 3)).take 15)
 have hflb : (((Qas s).drop (at_ + 3)).take 15).length = 15 := by simp;omega
 rw [hflb] at hm7b
 generalize numB (((Qas s).drop (at_ + 3)).take 15) = np at *
 (refine hK _ _ ?_;clear hK)
 refine VR [0, 2, 6, 9, 10, 11, 12, 56] rfl rfl fun K hK => ?_;simp only [go_sem,↓reduceIte,reduceEqDiff]
 (refine hK _ _ ?_;clear hK)
 refine Qab rfl rfl (fun h => by simp at h) (fun h => Qaf ?_)
 clear h
 refine VR [0, 2, 6, 9, 10, 12, 60] rfl rfl fun K hK => ?_;simp only [go_sem,↓reduceIte,reduceEqDiff]
 (refine hK _ _ ?_;clear hK)
 refine Qab rfl rfl (fun h => ?_) (fun h => Qaf ?_)
 ·
  simp only [decide_eq_true_eq] at h
  rw [if_pos (by omega)] at hres
  subst hres
  refine VR [6, 7, 8] rfl rfl fun K hK => ?_;simp only [go_sem,↓reduceIte,reduceEqDiff]
  (refine Qae ?_;simp only [go_sem,↓reduceIte,reduceEqDiff])
  refine Qal hH4 1 (vs := Qau none 0 0 none 0 0) rfl rfl (by kernel_rfl) (by simp [Qau]) (Qb7 _ _ _ _ _ _) fun w5 hH5 => ?_
  simp only [List.set_cons_zero, List.set_cons_succ] at hH5
  (refine hK _ _ ?_;clear hK)
  refine Qan (Qgi rfl rfl rfl rfl (Qbu (hH5.at 1 rfl) (by kernel_rfl) (by kernel_rfl) rfl ?_))
  exact ⟨hH5.sub (by simp), rfl⟩
 simp only [decide_eq_false_iff_not] at h
 rw [if_neg (by omega), show at_ + 3 + 15 = at_ + 18 by omega] at *
 have hat2 : at_ + 18 <= 8 * s.length := by omega
 refine VR [0, 2, 6, 9, 10, 12, 13] rfl rfl fun K hK => ?_;simp only [go_sem,↓reduceIte,reduceEqDiff]
 refine Qat (.agg #[.slice none 0 0, .slice none 0 0]) (by kernel_rfl) ?_
 simp only [go_sem,↓reduceIte,reduceEqDiff]
 have hH5 := hH4.box 65 (Qau none 0 0 none 0 0)
 rw [hpl]
 generalize w4.alloc (Obj.cells (Qau none 0 0 none 0 0).toArray 65) = w5 at *
 generalize w4.heap.size = gp at *
 clear hH4
 (refine hK _ _ ?_;clear hK)
 refine VR [0, 2, 6, 9, 10, 12, 13, 14] rfl rfl fun K hK => ?_;simp only [go_sem,↓reduceIte,reduceEqDiff]
 (repeat first | refine And.intro (by omega) ?_ | refine ⟨⟨by omega, by omega⟩, ?_⟩)
 refine Qag Tryz.call80 ?_;simp only [go_sem,↓reduceIte,reduceEqDiff];refine CallK.mk (Qlv many (by omega) (by omega) w5) ?_
 rintro v w6 ⟨go, hHo, rfl⟩
 have hH6 := hH5.call0 hHo
 simp only [List.singleton_append] at hH6
 clear hH5 hHo
 (refine hK _ _ ?_;clear hK)
 have hH7 : Heap w [] w6 [Res.row 3 1 (some ⟨go, 0, none⟩) many many (Qaq (List.range many)), rd gd gs s (at_ + 18), Res.row 3 1 none 0 0 (Qaq []), Res.blk gp 65 (Qau none 0 0 none 0 0), Res.blk gr 65 (Qau none 0 0 none 0 0)] :=
  (hH6.nilRow 3 1).perm ((List.Perm.swap _ _ _).trans (List.Perm.cons _ ((List.Perm.cons _ (List.Perm.swap _ _ _)).trans (List.Perm.swap _ _ _))))
 clear hH6
 refine VR [0, 2, 6, 9, 10, 13, 14, 65, 66] rfl rfl fun K hK => ?_;simp only [go_sem,↓reduceIte,reduceEqDiff]
 (refine hK _ _ ?_;clear hK)
 generalize hpt : ptGo (Qas s) many (List.range many) np (at_ + 18) = rp at *
 have hpok := fun q => Qvs (bits := Qas s) (many := many) (by omega) np (List.range many) (at_ + 18) q (by simp) (by omega)
 have hperr := fun e => Qqm (bits := Qas s) (many := many) np (List.range many) (at_ + 18) e
 rw [hpt] at hpok hperr
 refine Qad ?_
 refine Qam [0, 2, 6, 9, 10, 13, 14, 65, 66] (fun m e w' => ∃ (i at2 cP : Nat) (aP : Option Addr) (li D : List Nat), Is e [(0, Str s), (2, .int .i64 n), (6, .pointer (some ⟨gr, 0, none⟩)), (9, .pointer (some ⟨gd, 0, none⟩)), (10, .int .u64 many), (13, .pointer (some ⟨gp, 0, none⟩)), (14, .slice (some ⟨go, 0, none⟩) many many), (65, .int .u64 np), (66, .int .u64 i)] /\ Heap w [] w' [Res.row 3 1 (some ⟨go, 0, none⟩) many many (Qaq li), rd gd gs s at2, Res.row 3 1 aP D.length cP (Qaq D), Res.blk gp 65 (Qau none 0 0 aP D.length cP), Res.blk gr 65 (Qau none 0 0 none 0 0)] /\ li.length = many /\ D.length = i /\ at2 <= 8 * s.length /\ (match ptGo (Qas s) many li (np - i) at2 with | .error e => .error e | .ok q => .ok (D ++ q.1, q.2)) = rp /\ i <= np /\ m = np - i) np ?_ ?_
 ·
  simp only [go_sem,↓reduceIte,reduceEqDiff]
  refine ⟨0, at_ + 18, 0, none, List.range many, [], rfl, hH7, by simp, rfl, hat2, ?_, by omega, rfl⟩
  rw [Nat.sub_zero, hpt]
  cases rp <;> rfl
 clear hH7 hpt
 rintro m e w7 ⟨i, at2, cP, aP, li, D, rfl, hH, hlil, hDl, hat, hrp, hi, rfl⟩
 refine VR [0, 2, 6, 9, 10, 13, 14, 65, 66, 67] rfl rfl fun K hK => ?_;simp only [go_sem,↓reduceIte,reduceEqDiff]
 (refine hK _ _ ?_;clear hK)
 (repeat refine Qai ?_)
 refine Qab rfl rfl (fun h => ?_) (fun h => ?_)
 ·
  simp only [decide_eq_true_eq] at h
  obtain ⟨k, hk⟩ : ∃ k, np - i = k + 1 := ⟨np - i - 1, by omega⟩
  rw [hk, ptGo] at hrp
  have hud := Qyl gd gs s at2 (many - 1) w7 (by omega) hat (by omega) (hH.focus 1 rfl)
  generalize hU : unS ((Qas s).drop at2) (many - 1) 0 = U at *
  obtain ⟨u, ue⟩ := U
  simp only at hrp hud
  refine Qaf ?_
  ((repeat refine Qai ?_);refine Qad ?_)
  refine VR [0, 2, 6, 9, 10, 13, 14, 15, 16, 65, 66] rfl rfl fun K hK => ?_;simp only [go_sem,↓reduceIte,reduceEqDiff]
  (repeat first | refine And.intro (by omega) ?_ | refine ⟨⟨by omega, by omega⟩, ?_⟩)
  rw [show ((many : Int) - 1) = ((many - 1 : Nat) : Int) by omega]
  refine Qag Tryz.call101 ?_;simp only [go_sem,↓reduceIte,reduceEqDiff];refine CallK.mk hud ?_
  rintro v w8 ⟨rfl, hcs⟩
  (refine hK _ _ ?_;clear hK)
  refine VR [0, 2, 6, 9, 10, 13, 14, 15, 16, 65, 66, 77] rfl rfl fun K hK => ?_;simp only [go_sem,↓reduceIte,reduceEqDiff]
  (refine hK _ _ ?_;clear hK)
  refine Qdf [0, 2, 6, 9, 10, 13, 14, 15, 16, 65, 66] (fun e w' => Is e [(0, Str s), (2, .int .i64 n), (6, .pointer (some ⟨gr, 0, none⟩)), (9, .pointer (some ⟨gd, 0, none⟩)), (10, .int .u64 many), (13, .pointer (some ⟨gp, 0, none⟩)), (14, .slice (some ⟨go, 0, none⟩) many many), (15, .int .i64 u), (16, .int .i64 (if ue = 3 then 110 else ue)), (65, .int .u64 np), (66, .int .u64 i)] /\ Is w' w8) ?_ ?_
  ·
   refine Qab rfl rfl (fun h => ?_) (fun h => ?_)
   ·
    simp only [decide_eq_true_eq] at h
    refine VR [0, 2, 6, 9, 10, 13, 14, 15, 16, 65, 66] rfl rfl fun K hK => ?_;simp only [go_sem,↓reduceIte,reduceEqDiff]
    (refine hK _ _ ?_;clear hK)
    refine Qah ?_
    simp only [go_sem,↓reduceIte,reduceEqDiff]
    exact ⟨by rw [if_pos h];rfl, rfl⟩
   ·
    simp only [decide_eq_false_iff_not] at h
    refine Qaf ?_
    refine Qah ?_
    simp only [go_sem,↓reduceIte,reduceEqDiff]
    exact ⟨by rw [if_neg h];rfl, rfl⟩
  rintro e w9 ⟨rfl, rfl⟩
  refine VR [0, 2, 6, 9, 10, 13, 14, 15, 16, 65, 66, 79] rfl rfl fun K hK => ?_;simp only [go_sem,↓reduceIte,reduceEqDiff]
  (refine hK _ _ ?_;clear hK)
  rcases hcs with ⟨hne, rfl⟩ | ⟨hue, hul, hum, hHu⟩
  ·
   rw [if_pos hne] at hrp
   subst hrp
   subst hres
   have hx : (if ue = 3 then 110 else ue) ≠ 0 := by split <;> omega
   generalize (if ue = 3 then 110 else ue) = x at *
   refine Qab rfl rfl (fun h => ?_) (fun h => by simp at h;exact absurd h hx)
   refine VR [6, 7, 8] rfl rfl fun K hK => ?_;simp only [go_sem,↓reduceIte,reduceEqDiff]
   (refine Qae ?_;simp only [go_sem,↓reduceIte,reduceEqDiff])
   refine Qal hH 4 (vs := Qau none 0 0 none 0 0) rfl rfl (by kernel_rfl) (by simp [Qau]) (Qb7 _ _ _ _ _ _) fun w5 hH5 => ?_
   simp only [List.set_cons_zero, List.set_cons_succ] at hH5
   (refine hK _ _ ?_;clear hK)
   refine Qan (Qgi rfl rfl rfl rfl (Qbu (hH5.at 4 rfl) (by kernel_rfl) (by kernel_rfl) rfl ?_))
   exact ⟨hH5.sub (by simp), rfl⟩
  subst hue
  rw [if_neg (by simp)] at hrp
  have hH2 := hH.call1 1 rfl hHu
  simp only [List.set_cons_zero, List.set_cons_succ, List.nil_append] at hH2
  clear hH hHu
  have hmvl := Qgu (li := li) (at_ := u) (by omega)
  have hmd := Qlw li go many u (by omega) (by omega) w w9 [] _ (by rw [hlil];exact hH2)
  rw [hlil] at hmd
  refine Qab rfl rfl (fun h => by simp at h) (fun h => Qaf ?_)
  clear h
  (repeat refine Qai ?_);refine Qhb (bare w9) (Qqb _ _) [0, 2, 6, 9, 10, 13, 14, 65, 66] (.two [(0, true), (2, true), (3, true)] 1 4 (.seq [(4, false), (5, false), (6, false), (7, true), (8, false)]) (.two [] 1 5 (.seq [(5, false), (6, false), (7, true), (8, false)]) (.seq [(1, false), (6, false), (7, true), (8, false)]))) (by kernel_rfl) (by kernel_rfl) rfl fun K hK => ?_
  suffices out : ∀ a' c' w10, Heap w [] w10 [Res.row 3 1 (some ⟨go, 0, none⟩) many many (Qaq (Qfk li u)), rd gd gs s (at2 + u + 1), Res.row 3 1 a' (D ++ [li.getD u 0]).length c' (Qaq (D ++ [li.getD u 0])), Res.blk gp 65 (Qau none 0 0 a' (D ++ [li.getD u 0]).length c'), Res.blk gr 65 (Qau none 0 0 none 0 0)] -> K [(0, Str s), (2, .int .i64 n), (6, .pointer (some ⟨gr, 0, none⟩)), (9, .pointer (some ⟨gd, 0, none⟩)), (10, .int .u64 many), (13, .pointer (some ⟨gp, 0, none⟩)), (14, .slice (some ⟨go, 0, none⟩) many many), (65, .int .u64 np), (66, .int .u64 i)] w10 by
   generalize hx : li.getD u 0 = x at *
   have c0 : w9.cell? ⟨gp, 1, none⟩ = some (.slice aP D.length cP) := Qac (hH2.at 3 rfl) (show (Qau none 0 0 aP D.length cP)[1]? = some _ from rfl)
   simp only [vcT3, Qay, List.filterMap_cons, List.filterMap_nil, List.getElem?_cons_succ, List.getElem?_cons_zero, Option.map_some];simp only [go_sem,↓reduceIte,reduceEqDiff]
   simp only [Qdj]
   simp only [go_sem,↓reduceIte,reduceEqDiff]
   refine And.intro ?_ ?_
   ·
    refine ⟨_, c0, ?_⟩
    (try simp only [Qdj])
    refine Qag Tryz.call81 ?_;simp only [go_sem,↓reduceIte,reduceEqDiff];refine CallK.mk hmd ?_
    rintro v w10 ⟨hH3, rfl⟩
    (try simp only [Qdj])
    refine Qfn hH3 (Qaq [x]) (xs := [.tmp 86]) Tryz.underlying36 sz3 rfl rfl rfl (by omega) ?_;simp only [go_sem,↓reduceIte,reduceEqDiff];refine ⟨rfl, by simp [Value.cells], fun g w4 hH4 => ?_⟩;(try simp only [go_sem,↓reduceIte,reduceEqDiff])
    (try simp only [Qdj])
    refine Qa6 ?_;simp only [go_sem,↓reduceIte,reduceEqDiff];refine Qd8 (zs := #[.int .i64 0]) (bytes := 8) hH4 3 rfl Tryz.underlying36 (by kernel_rfl) rfl ⟨rfl, Qbo (hH4.at 0 rfl), 3, Tryz.underlying36⟩ (Qf9 _) (fun h => by omega) fun a' cap' w12 hc' hH5 => ?_;simp only [List.set_cons_succ, List.set_cons_zero] at hH5;skip;(try simp only [Qdj]);skip;refine Qae ?_;simp only [go_sem,↓reduceIte,reduceEqDiff];refine Qal hH5 4 (vs := [.slice a' (D.length + 1) cap']) rfl rfl (by kernel_rfl) (by simp [Qau]) (by simp [Value.oneCell']) fun w13 hH6 => ?_;simp only [List.set_cons_succ, List.set_cons_zero] at hH6;skip;(try simp only [Qdj]);skip;refine out a' cap' w13 ?_;rw [Qer, List.length_append];exact hH6.sub (List.sublist_cons_self _ _)
   ·
    refine Qag Tryz.call81 ?_;simp only [go_sem,↓reduceIte,reduceEqDiff];refine CallK.mk hmd ?_
    rintro v w10 ⟨hH3, rfl⟩
    have c1 : w10.cell? ⟨gp, 1, none⟩ = some (.slice aP D.length cP) := Qac (hH3.at 3 rfl) (show (Qau none 0 0 aP D.length cP)[1]? = some _ from rfl)
    (try simp only [Qdj])
    simp only [go_sem,↓reduceIte,reduceEqDiff]
    refine And.intro ?_ ?_
    ·
     refine ⟨_, c1, ?_⟩
     (try simp only [Qdj])
     refine Qfn hH3 (Qaq [x]) (xs := [.tmp 86]) Tryz.underlying36 sz3 rfl rfl rfl (by omega) ?_;simp only [go_sem,↓reduceIte,reduceEqDiff];refine ⟨rfl, by simp [Value.cells], fun g w4 hH4 => ?_⟩;(try simp only [go_sem,↓reduceIte,reduceEqDiff])
     (try simp only [Qdj])
     refine Qa6 ?_;simp only [go_sem,↓reduceIte,reduceEqDiff];refine Qd8 (zs := #[.int .i64 0]) (bytes := 8) hH4 3 rfl Tryz.underlying36 (by kernel_rfl) rfl ⟨rfl, Qbo (hH4.at 0 rfl), 3, Tryz.underlying36⟩ (Qf9 _) (fun h => by omega) fun a' cap' w12 hc' hH5 => ?_;simp only [List.set_cons_succ, List.set_cons_zero] at hH5;skip;(try simp only [Qdj]);skip;refine Qae ?_;simp only [go_sem,↓reduceIte,reduceEqDiff];refine Qal hH5 4 (vs := [.slice a' (D.length + 1) cap']) rfl rfl (by kernel_rfl) (by simp [Qau]) (by simp [Value.oneCell']) fun w13 hH6 => ?_;simp only [List.set_cons_succ, List.set_cons_zero] at hH6;skip;(try simp only [Qdj]);skip;refine out a' cap' w13 ?_;rw [Qer, List.length_append];exact hH6.sub (List.sublist_cons_self _ _)
    ·
     refine Qfn hH3 (Qaq [x]) (xs := [.tmp 86]) Tryz.underlying36 sz3 rfl rfl rfl (by omega) ?_;simp only [go_sem,↓reduceIte,reduceEqDiff];refine ⟨rfl, by simp [Value.cells], fun g w4 hH4 => ?_⟩;(try simp only [go_sem,↓reduceIte,reduceEqDiff])
     have c2 : w4.cell? ⟨gp, 1, none⟩ = some (.slice aP D.length cP) := Qac (hH4.at 4 rfl) (show (Qau none 0 0 aP D.length cP)[1]? = some _ from rfl)
     (try simp only [Qdj])
     simp only [go_sem,↓reduceIte,reduceEqDiff]
     refine ⟨_, c2, ?_⟩
     (try simp only [Qdj])
     refine Qa6 ?_;simp only [go_sem,↓reduceIte,reduceEqDiff];refine Qd8 (zs := #[.int .i64 0]) (bytes := 8) hH4 3 rfl Tryz.underlying36 (by kernel_rfl) rfl ⟨rfl, Qbo (hH4.at 0 rfl), 3, Tryz.underlying36⟩ (Qf9 _) (fun h => by omega) fun a' cap' w12 hc' hH5 => ?_;simp only [List.set_cons_succ, List.set_cons_zero] at hH5;skip;(try simp only [Qdj]);skip;refine Qae ?_;simp only [go_sem,↓reduceIte,reduceEqDiff];refine Qal hH5 4 (vs := [.slice a' (D.length + 1) cap']) rfl rfl (by kernel_rfl) (by simp [Qau]) (by simp [Value.oneCell']) fun w13 hH6 => ?_;simp only [List.set_cons_succ, List.set_cons_zero] at hH6;skip;(try simp only [Qdj]);skip;refine out a' cap' w13 ?_;rw [Qer, List.length_append];exact hH6.sub (List.sublist_cons_self _ _)
  intro a' c' w10 hH3
  clear hH2 hmd
  (refine hK _ _ ?_;clear hK)
  refine Qav ?_
  refine VR [0, 2, 6, 9, 10, 13, 14, 65, 66] rfl rfl fun K hK => ?_;simp only [go_sem,↓reduceIte,reduceEqDiff]
  (refine hK _ _ ?_;clear hK)
  refine Qah ?_
  simp only [go_sem,↓reduceIte,reduceEqDiff]
  rw [show (((i : Int) + 1) % 18446744073709551616) = ((i + 1 : Nat) : Int) by omega]
  refine ⟨np - (i + 1), by omega, i + 1, at2 + u + 1, c', a', Qfk li u, D ++ [li.getD u 0], rfl, hH3, by omega, by simp [hDl], by omega, ?_, by omega, rfl⟩
  rw [<- hrp, show np - (i + 1) = k by omega]
  cases ptGo (Qas s) many (Qfk li u) k (at2 + u + 1) with
  | error e => rfl
  | ok y => simp
 simp only [decide_eq_false_iff_not] at h
 have hi2 : i = np := by omega
 rw [hi2, Nat.sub_self, ptGo] at hrp
 rw [hi2] at hDl
 simp only [List.append_nil] at hrp
 clear h hi hi2
 subst hrp
 obtain ⟨hp1, hp2, hp3⟩ := hpok _ rfl
 simp only at hres
 clear hpok hperr hlil
 refine Qap rfl ?_
 refine VR [0, 1, 2, 6, 10, 13] rfl rfl fun K hK => ?_;simp only [go_sem,↓reduceIte,reduceEqDiff]
 refine Qag Tryz.call100 ?_;simp only [go_sem,↓reduceIte,reduceEqDiff];refine CallK.mk (Qnf gd gs at2 s w7 (hH.at 1 rfl)) ?_
 rintro v w8 ⟨rfl, rfl⟩
 (refine hK _ _ ?_;clear hK)
 refine VR [0, 1, 2, 6, 13, 93, 94] rfl rfl fun K hK => ?_;simp only [go_sem,↓reduceIte,reduceEqDiff]
 (refine hK _ _ ?_;clear hK)
 have htok := fun q => Qvt (bits := Qas s) (n := n) many at2 q (by omega)
 have hterr := fun e => Qqn (bits := Qas s) (n := n) many at2 e
 generalize htt : ttGo (Qas s) n many at2 = rt at *
 refine Qad ?_
 refine Qam [0, 1, 2, 6, 13, 93, 94] (fun m e w' => ∃ (t at3 cT : Nat) (aT : Option Addr) (us : List (Option Addr × Nat)) (T : List (List Nat)), Is e [(0, Str s), (1, .int .i64 at3), (2, .int .i64 n), (6, .pointer (some ⟨gr, 0, none⟩)), (13, .pointer (some ⟨gp, 0, none⟩)), (93, .int .u64 many), (94, .int .u64 t)] /\ Heap w [] w' (Res.row 36 1 aT t cT (Qb4 us T) :: Res.row 3 1 aP np cP (Qaq D) :: Res.blk gp 65 (Qau aT t cT aP np cP) :: Res.blk gr 65 (Qau none 0 0 none 0 0) :: Qnl us T) /\ us.length = t /\ T.length = t /\ at3 <= 8 * s.length /\ (match ttGo (Qas s) n (many - t) at3 with | .error e => .error e | .ok q => .ok (T ++ q.1, q.2)) = rt /\ t <= many /\ m = many - t) many ?_ ?_
 ·
  simp only [go_sem,↓reduceIte,reduceEqDiff]
  refine ⟨0, at2, 0, none, [], [], rfl, ?_, rfl, rfl, hat, ?_, by omega, rfl⟩
  ·
   have h7 := (hH.sub (.cons _ (.cons _ (.refl _)))).nilRow 36 1
   rw [hDl] at h7
   exact h7
  ·
   rw [Nat.sub_zero, htt]
   cases rt <;> rfl
 clear hH htt
 rintro m e w9 ⟨t, at3, cT, aT, us, T, rfl, hH, hus, hTl, hat3, hrt, ht, rfl⟩
 refine VR [0, 1, 2, 6, 13, 93, 94, 95] rfl rfl fun K hK => ?_;simp only [go_sem,↓reduceIte,reduceEqDiff]
 (refine hK _ _ ?_;clear hK)
 (repeat refine Qai ?_)
 refine Qab rfl rfl (fun h => ?_) (fun h => ?_)
 ·
  simp only [decide_eq_true_eq] at h
  obtain ⟨k, hk⟩ : ∃ k, many - t = k + 1 := ⟨many - t - 1, by omega⟩
  rw [hk, ttGo] at hrt
  have hdt := Qog s at3 n hat3 hs (by omega) w9
  have hdok := fun q => Ql0 (bits := Qas s) (at_ := at3) (n := n) (q := q)
  have hderr := fun e => Qj7 (bits := Qas s) (at_ := at3) (n := n) (e := e)
  generalize Qc8 (Qas s) at3 n = rd1 at *
  refine Qaf ?_
  ((repeat refine Qai ?_);refine Qad ?_)
  refine VR [0, 2, 6, 13, 17, 18, 19, 93, 94] rfl rfl fun K hK => ?_;simp only [go_sem,↓reduceIte,reduceEqDiff]
  refine Qag Tryz.call102 ?_;simp only [go_sem,↓reduceIte,reduceEqDiff];refine CallK.mk hdt ?_
  intro v w10 hEx
  cases rd1 with
  | error e =>
   obtain ⟨hHe, rfl⟩ := hEx
   have hne := hderr e rfl
   subst hrt
   subst hres
   have hH2 := hH.call0 hHe
   simp only [List.nil_append] at hH2
   (refine hK _ _ ?_;clear hK)
   refine VR [0, 2, 6, 13, 17, 18, 19, 93, 94, 105] rfl rfl fun K hK => ?_;simp only [go_sem,↓reduceIte,reduceEqDiff]
   (refine hK _ _ ?_;clear hK)
   (repeat refine Qai ?_)
   refine Qdf [0, 2, 6, 13, 19, 93, 94] (fun e' w' => Is e' [(0, Str s), (2, .int .i64 n), (6, .pointer (some ⟨gr, 0, none⟩)), (13, .pointer (some ⟨gp, 0, none⟩)), (19, .int .i64 e), (93, .int .u64 many), (94, .int .u64 t)] /\ Is w' w10) ?_ ?_
   ·
    refine Qab rfl rfl (fun h => by simp at h;exact absurd h hne) (fun h => ?_)
    refine Qaf ?_
    refine Qah ?_
    simp only [go_sem,↓reduceIte,reduceEqDiff]
    exact ⟨rfl, rfl⟩
   rintro e' w' ⟨rfl, rfl⟩
   refine VR [0, 2, 6, 13, 19, 93, 94, 109] rfl rfl fun K hK => ?_;simp only [go_sem,↓reduceIte,reduceEqDiff]
   (refine hK _ _ ?_;clear hK)
   refine Qab rfl rfl (fun h => ?_) (fun h => by simp at h;exact absurd h hne)
   refine VR [6, 7, 8] rfl rfl fun K hK => ?_;simp only [go_sem,↓reduceIte,reduceEqDiff]
   (refine Qae ?_;simp only [go_sem,↓reduceIte,reduceEqDiff])
   refine Qal hH2 3 (vs := Qau none 0 0 none 0 0) rfl rfl (by kernel_rfl) (by simp [Qau]) (Qb7 _ _ _ _ _ _) fun w5 hH5 => ?_
   simp only [List.set_cons_zero, List.set_cons_succ] at hH5
   (refine hK _ _ ?_;clear hK)
   refine Qan (Qgi rfl rfl rfl rfl (Qbu (hH5.at 3 rfl) (by kernel_rfl) (by kernel_rfl) rfl ?_))
   exact ⟨hH5.sub (by simp), rfl⟩
  | ok q =>
   obtain ⟨aq, cq, hHq, rfl⟩ := hEx
   obtain ⟨q1, q2⟩ := hdok q rfl
   simp only at hrt
   have hH2 := hH.call0 hHq
   simp only [List.singleton_append] at hH2
   clear hH hHq
   have hck := Qhd q.1 aq cq w10 (Qbo (hH2.at 0 rfl))
   (refine hK _ _ ?_;clear hK)
   refine VR [0, 2, 6, 13, 17, 18, 19, 93, 94, 105] rfl rfl fun K hK => ?_;simp only [go_sem,↓reduceIte,reduceEqDiff]
   (refine hK _ _ ?_;clear hK)
   (repeat refine Qai ?_)
   refine Qdf [0, 2, 6, 13, 17, 18, 19, 93, 94] (fun e' w' => Is e' [(0, Str s), (2, .int .i64 n), (6, .pointer (some ⟨gr, 0, none⟩)), (13, .pointer (some ⟨gp, 0, none⟩)), (17, .slice aq q.1.length cq), (18, .int .i64 q.2), (19, .int .i64 (if okLB q.1 = true then 0 else 80)), (93, .int .u64 many), (94, .int .u64 t)] /\ Is w' w10) ?_ ?_
   ·
    refine Qab rfl rfl (fun h => ?_) (fun h => by simp at h)
    refine VR [0, 2, 6, 13, 17, 18, 19, 93, 94] rfl rfl fun K hK => ?_;simp only [go_sem,↓reduceIte,reduceEqDiff]
    refine Qag Tryz.call103 ?_;simp only [go_sem,↓reduceIte,reduceEqDiff];refine CallK.mk hck ?_
    rintro v w11 ⟨rfl, rfl⟩
    (refine hK _ _ ?_;clear hK)
    refine Qah ?_
    simp only [go_sem,↓reduceIte,reduceEqDiff]
    exact ⟨rfl, rfl⟩
   rintro e' w' ⟨rfl, rfl⟩
   refine VR [0, 2, 6, 13, 17, 18, 19, 93, 94, 109] rfl rfl fun K hK => ?_;simp only [go_sem,↓reduceIte,reduceEqDiff]
   (refine hK _ _ ?_;clear hK)
   by_cases hokb : okLB q.1 = true
   ·
    rw [if_pos hokb]
    rw [if_neg (by simp [hokb])] at hrt
    refine Qab rfl rfl (fun h => by simp at h) (fun h => Qaf ?_)
    clear h
    have hrR : Qnl (us ++ [(aq, cq)]) (T ++ [q.1]) = Qnl us T ++ [Res.row 3 1 aq q.1.length cq (Qaq q.1)] := (Qpf (by omega) _ _ _).symm
    have hsS : Qb4 (us ++ [(aq, cq)]) (T ++ [q.1]) = Qb4 us T ++ Qb4 [(aq, cq)] [q.1] := by rw [<- Qsv (by omega)];rfl
    refine VR [0, 2, 6, 13, 18, 93, 94] rfl rfl fun K hK => ?_;simp only [go_sem,↓reduceIte,reduceEqDiff]
    refine ⟨_, Qac (hH2.at 3 rfl) (show (Qau aT t cT aP np cP)[0]? = some _ from rfl), ?_⟩
    refine Qfn hH2 (Qb4 [(aq, cq)] [q.1]) (xs := [.tmp 114]) Tryz.underlying63 sz36 rfl rfl rfl (by omega) ?_
    simp only [go_sem,↓reduceIte,reduceEqDiff]
    refine ⟨rfl, by simp [Value.cells], fun gl w12 hH3 => ?_⟩
    refine Qa6 ?_
    simp only [go_sem,↓reduceIte,reduceEqDiff]
    refine Qd8 (zs := #[.slice none 0 0]) (bytes := 24) hH3 2 rfl Tryz.underlying63 (by kernel_rfl) rfl ⟨rfl, Qbo (hH3.at 0 rfl), 36, Tryz.underlying63⟩ (Qvf _ _) (fun h => by omega) fun a' cap' w13 hc' hH4 => ?_
    simp only [List.set_cons_succ, List.set_cons_zero] at hH4
    rw [<- hsS] at hH4
    refine Qae ?_
    simp only [go_sem,↓reduceIte,reduceEqDiff]
    refine Qal hH4 4 (vs := [.slice a' (t + 1) cap']) rfl rfl (by kernel_rfl) (by simp [Qau]) (by simp [Value.oneCell']) fun w14 hH5 => ?_
    simp only [List.set_cons_succ, List.set_cons_zero] at hH5
    have hH6 := (hH5.sub (List.sublist_cons_self _ _)).perm (List.perm_append_singleton _ _).symm
    simp only [List.cons_append] at hH6
    rw [<- hrR] at hH6
    clear hH2 hH3 hH4 hH5
    (refine hK _ _ ?_;clear hK)
    refine VR [0, 1, 2, 6, 13, 93, 94] rfl rfl fun K hK => ?_;simp only [go_sem,↓reduceIte,reduceEqDiff]
    (refine hK _ _ ?_;clear hK)
    refine Qav ?_
    refine VR [0, 1, 2, 6, 13, 93, 94] rfl rfl fun K hK => ?_;simp only [go_sem,↓reduceIte,reduceEqDiff]
    (refine hK _ _ ?_;clear hK)
    refine Qah ?_
    simp only [go_sem,↓reduceIte,reduceEqDiff]
    rw [show (((t : Int) + 1) % 18446744073709551616) = ((t + 1 : Nat) : Int) by omega]
    refine ⟨many - (t + 1), by omega, t + 1, q.2, cap', a', us ++ [(aq, cq)], T ++ [q.1], rfl, hH6, by simp [hus], by simp [hTl], by omega, ?_, by omega, rfl⟩
    rw [<- hrt, show many - (t + 1) = k by omega]
    cases ttGo (Qas s) n k q.2 with
    | error e => rfl
    | ok y => simp
   ·
    have hokf : okLB q.1 = false := by simpa using hokb
    rw [if_neg hokb]
    rw [if_pos hokf] at hrt
    subst hrt
    subst hres
    refine Qab rfl rfl (fun h => ?_) (fun h => by simp at h)
    refine VR [6, 7, 8] rfl rfl fun K hK => ?_;simp only [go_sem,↓reduceIte,reduceEqDiff]
    (refine Qae ?_;simp only [go_sem,↓reduceIte,reduceEqDiff])
    refine Qal hH2 4 (vs := Qau none 0 0 none 0 0) rfl rfl (by kernel_rfl) (by simp [Qau]) (Qb7 _ _ _ _ _ _) fun w5 hH5 => ?_
    simp only [List.set_cons_zero, List.set_cons_succ] at hH5
    (refine hK _ _ ?_;clear hK)
    refine Qan (Qgi rfl rfl rfl rfl (Qbu (hH5.at 4 rfl) (by kernel_rfl) (by kernel_rfl) rfl ?_))
    exact ⟨hH5.sub (by simp), rfl⟩
 simp only [decide_eq_false_iff_not] at h
 have ht2 : t = many := by omega
 rw [ht2, Nat.sub_self, ttGo] at hrt
 simp only [List.append_nil] at hrt
 subst hrt
 subst hres
 rw [ht2] at hH hus hTl
 clear h ht ht2
 refine Qap rfl ?_
 refine VR [6, 7, 8] rfl rfl fun K hK => ?_;simp only [go_sem,↓reduceIte,reduceEqDiff]
 refine ⟨Qau aT many cT aP np cP, ⟨rfl, Qa1 (hH.at 2 rfl)⟩, ?_⟩
 (refine Qae ?_;simp only [go_sem,↓reduceIte,reduceEqDiff])
 refine Qal hH 3 (vs := Qau aT many cT aP np cP) rfl rfl (by kernel_rfl) (by simp [Qau]) (Qb7 _ _ _ _ _ _) fun w10 hH6 => ?_
 simp only [List.set_cons_zero, List.set_cons_succ] at hH6
 (refine hK _ _ ?_;clear hK)
 refine Qan (Qgi rfl rfl rfl rfl (Qbu (hH6.at 3 rfl) (by kernel_rfl) (by kernel_rfl) rfl ?_))
 refine ⟨_, hH6.sub (by simp), Qnn rfl hTl hDl hus (Qbo (hH6.at 0 rfl)) (Qbo (hH6.at 1 rfl)) (fun i h t h6 h7 => ?_), rfl⟩
 exact Qbo (hH6.at (i + 4) (show _ = some (Res.row 3 1 h.1 t.length h.2 (Qaq t)) from Qsx h6 h7))
set_option maxHeartbeats 2000000
def unpS (used : List UInt8) (list : List Nat) (row most : Int) : List UInt8 × Int :=
 if (Qec used.length most (ni list)).2 ≠ 0 then ([], (Qec used.length most (ni list)).2)
 else if (Qdi used (Qec used.length most (ni list)).1).2 ≠ 0 then ([], (Qdi used (Qec used.length most (ni list)).1).2)
 else if (bckS (Qdi used (Qec used.length most (ni list)).1).1 row).2 ≠ 0 then ([], (bckS (Qdi used (Qec used.length most (ni list)).1).1 row).2)
 else decS [] 0 (bckS (Qdi used (Qec used.length most (ni list)).1).1 row).1
theorem Qq8 (used : List UInt8) (list : List Nat) (row most : Int) (la : Option Addr) (lc : Nat) (hu : used.length <= 256) (hl : list.length <= 2147483640) (hx : ∀ x ∈ list, x <= 1000) (hr : I64 row) (hm : I64 most) (w : World) (hrs : RS w la list.length 1 (Qaq list)) :
  Does Tryz.prog 49 #[Str used, .slice la list.length lc, .int .i64 row, .int .i64 most] w fun v w' => Heap w [] w' [] /\ v = .tuple #[Str (unpS used list row most).1, .int .i64 (unpS used list row most).2] := by
 have hnl : (ni list).length = list.length := by simp [ni]
 have hzd := QCp used.length most (ni list) la lc (I64.mk (by omega) (by omega)) hm w (by rw [hnl, <- QD5];exact hrs) (by omega) (fun v hv => by
  simp only [ni, List.mem_map] at hv
  obtain ⟨x, hx2, rfl⟩ := hv
  have := hx x hx2
  exact I64.mk (by omega) (by omega))
 obtain ⟨z1, z2⟩ := Qzo (n := used.length) (most := most) (ni list)
 rw [hnl] at hzd
 have hS : unpS used list row most = unpS used list row most := rfl
 conv at hS => rhs;unfold unpS
 rw [hS]
 clear hS
 generalize Qec used.length most (ni list) = Z at *
 have hsb := fun a c w h => Qth Z.1 used a c (by omega) (by omega) (fun v hv => by have := z2 v hv;exact I64.mk (by omega) (by omega)) w h
 have s1 := Qts used Z.1
 generalize Qdi used Z.1 = C at *
 have hbk := fun w => QCj C.1 row hr (by omega) w
 have b1 := QE8 C.1 row
 generalize bckS C.1 row = T at *
 have hdc := fun w => QE6 T.1 w (by omega)
 generalize decS [] 0 T.1 = X at *
 refine Qak (args := [Str used, .slice la list.length lc, .int .i64 row, .int .i64 most]) 47 Tryz.func49 rfl rfl (of_decide_eq_true rfl) ?_
 simp only [Env.ofArgs]
 refine VR [0, 1, 2, 3] rfl rfl fun K hK => ?_;simp only [go_sem,↓reduceIte,reduceEqDiff]
 (refine hK _ _ ?_;clear hK)
 refine VR [0, 2, 10, 11] rfl rfl fun K hK => ?_;simp only [go_sem,↓reduceIte,reduceEqDiff]
 refine Qag Tryz.call105 ?_;simp only [go_sem,↓reduceIte,reduceEqDiff];refine CallK.mk hzd ?_
 rintro v w2 ⟨ap, cp, hH, rfl⟩
 (refine hK _ _ ?_;clear hK)
 refine VR [0, 2, 10, 11, 23] rfl rfl fun K hK => ?_;simp only [go_sem,↓reduceIte,reduceEqDiff]
 (refine hK _ _ ?_;clear hK)
 refine Qab rfl rfl (fun h => ?_) (fun h => ?_)
 ·
  simp only [decide_eq_true_eq] at h
  refine VR [8, 9] rfl rfl fun K hK => ?_;simp only [go_sem,↓reduceIte,reduceEqDiff]
  (refine hK _ _ ?_;clear hK)
  refine Qan (Qa9 rfl rfl rfl ⟨hH.sub (by simp), ?_⟩)
  rw [if_pos h]
 simp only [decide_eq_false_iff_not] at h
 rw [if_neg h]
 refine Qaf ?_
 refine VR [2, 11, 12] rfl rfl fun K hK => ?_;simp only [go_sem,↓reduceIte,reduceEqDiff]
 refine Qag Tryz.call106 ?_;simp only [go_sem,↓reduceIte,reduceEqDiff];refine CallK.mk (hsb _ _ w2 (Qbo (hH.at 0 rfl))) ?_
 rintro v w3 ⟨hHs, rfl⟩
 have hH2 := hH.call0 hHs
 clear hH hHs
 (refine hK _ _ ?_;clear hK)
 refine VR [2, 11, 12, 32] rfl rfl fun K hK => ?_;simp only [go_sem,↓reduceIte,reduceEqDiff]
 (refine hK _ _ ?_;clear hK)
 refine Qab rfl rfl (fun h => ?_) (fun h => ?_)
 ·
  simp only [decide_eq_true_eq] at h
  refine VR [8, 9] rfl rfl fun K hK => ?_;simp only [go_sem,↓reduceIte,reduceEqDiff]
  (refine hK _ _ ?_;clear hK)
  refine Qan (Qa9 rfl rfl rfl ⟨hH2.sub (by simp), ?_⟩)
  rw [if_pos h]
 simp only [decide_eq_false_iff_not] at h
 rw [if_neg h]
 refine Qaf ?_
 refine VR [11, 13] rfl rfl fun K hK => ?_;simp only [go_sem,↓reduceIte,reduceEqDiff]
 refine Qag Tryz.call107 ?_;simp only [go_sem,↓reduceIte,reduceEqDiff];refine CallK.mk (hbk w3) ?_
 rintro v w4 ⟨hHs, rfl⟩
 have hH3 := hH2.call0 hHs
 clear hH2 hHs
 (refine hK _ _ ?_;clear hK)
 refine VR [11, 13, 41] rfl rfl fun K hK => ?_;simp only [go_sem,↓reduceIte,reduceEqDiff]
 (refine hK _ _ ?_;clear hK)
 refine Qab rfl rfl (fun h => ?_) (fun h => ?_)
 ·
  simp only [decide_eq_true_eq] at h
  refine VR [8, 9] rfl rfl fun K hK => ?_;simp only [go_sem,↓reduceIte,reduceEqDiff]
  (refine hK _ _ ?_;clear hK)
  refine Qan (Qa9 rfl rfl rfl ⟨hH3.sub (by simp), ?_⟩)
  rw [if_pos h]
 simp only [decide_eq_false_iff_not] at h
 rw [if_neg h]
 refine Qaf ?_
 refine VR [8, 9] rfl rfl fun K hK => ?_;simp only [go_sem,↓reduceIte,reduceEqDiff]
 refine Qag Tryz.call108 ?_;simp only [go_sem,↓reduceIte,reduceEqDiff];refine CallK.mk (hdc w4) ?_
 rintro v w5 ⟨hHs, rfl⟩
 have hH4 := hH3.call0 hHs
 (refine hK _ _ ?_;clear hK)
 exact Qan (Qa9 rfl rfl rfl ⟨hH4.sub (by simp), rfl⟩)
end Go.Proofs.YtfphmlhgebpojaaGreat
namespace Go.Eng
open Go
def Qhr (L : Option Nat) : Fence := { Fence.wide with round := L }
theorem Qq9 {L : Option Nat} {P : Program} {m m' : Machine} {e : Ending} (h : Comes P m m' e) : ComesIn (Machine.fenced P (Qhr L)) P m m' e := comesIn_wide.2 h
theorem Qki {L : Option Nat} {n : Nat} {P : Program} {f : FuncId} {args : Array Value} {w : World} {R : Ending -> World -> Prop} (h : Calls P f args w R) : CallsIn (Qhr L) n P f args w R :=
 ⟨trivial, fun cs _ => let ⟨e, w', fr, r, s, x⟩ := h cs;⟨e, w', fr, r, Qq9 s, x⟩⟩
theorem Qra {L : Option Nat} {P : Program} {m m' : Machine} (h : Steps P m m') : StepsIn (Machine.fenced P (Qhr L)) P m m' := stepsIn_wide.2 h
theorem Qtv {L : Option Nat} {n : Nat} {P : Program} {row : String} {args : Array Value} {w : World} {R : Value -> World -> Prop} (h : Rows P row args w R) : RowsIn (Qhr L) n P row args w R :=
 fun c cs _ => let ⟨v, w', r, s⟩ := h c cs;⟨v, w', r, Qra s⟩
def Qfh (o : Oper) : Bool := match o.op with | .defer _ => false | _ => true
theorem Qtw {o : Oper} (h : Qfh o = true) : ∀ c, o.op ≠ .defer c := by
 intro c hc;simp [Qfh, hc] at h
def _root_.Go.Act.app (a : Act) (D : List Deferred) : Act := { a with defers := a.defers ++ D }
theorem Qii (a : Act) (D : List Deferred) (d : Option Tmp) (v : Value) : (a.put d v).app D = (a.app D).put d v := by cases d <;> rfl
theorem QFa (a : Act) (D : List Deferred) : (a.app D).eval = a.eval := by funext x;cases x <;> rfl
def Qapp (D : List Deferred) (Q : Exit -> Act -> World -> Prop) : Exit -> Act -> World -> Prop
 | .normal, a, w => a.defers = [] /\ Q .normal (a.app D) w
 | .panic c, a, w => Q (.panic c) (a.app D) w
 | _, _, _ => False
theorem QFq {P : Program} {L : Option Nat} {D : List Deferred} {Q : Exit -> Act -> World -> Prop} {o : Oper} {a : Act} {w : World} {next next' : Act -> World -> Prop} (hd : Qfh o = true)
  (hn : ∀ a w, next a w -> next' (a.app D) w) (h : o.wp P a w next (Qapp D Q)) : o.wpIn (Qhr L) 0 P (a.app D) w next' Q := by
 refine ⟨fun _ _ => trivial, ?_⟩
 rw [Oper.semAt_eq _ _ _ (Qtw hd), QFa]
 unfold Oper.wp at h
 generalize (execOp a.eval o).run P w = r at *
 have hdep : (Qhr L).depth.isSome = true -> 1 <= 0 := by simp [Qhr, Fence.wide]
 cases r with
 | ok x w' =>
  cases x <;> simp only [Oper.upon, Oper.uponIn] at h ⊢
  case value v => rw [<- Qii];exact hn _ _ h
  case skip => rw [<- Qii];exact hn _ _ h
  case defer d => have h2 := hn _ _ h;rw [Qii] at h2;exact h2
  case enter f args =>
   refine ⟨hdep, Qki (h.mono fun e w'' he => ?_)⟩
   cases e with
   | returned v => have h2 := hn _ _ he;rw [Qii] at h2;exact h2
   | panicked c => exact he
   | outgrown => obtain ⟨_, _, he⟩ := he;exact he.elim
  case row row args => exact ⟨hdep, Qtv (h.mono fun v w'' he => by have h2 := hn _ _ he;rw [Qii] at h2;exact h2)⟩
 | halt x w' => cases x <;> simp only [Oper.upon, Oper.uponIn] at h ⊢ <;> exact h
theorem Qtx {P : Program} {L : Option Nat} {D : List Deferred} {Q : Exit -> Act -> World -> Prop} {ops : Array Oper} (hd : ops.toList.all Qfh = true) : ∀ (l : List Nat) (a : Act) (w : World),
  wpOps P ops (Qapp D Q) l a w -> wpOpsIn (Qhr L) 0 P ops Q l (a.app D) w := by
 intro l
 induction l with
 | nil => intro a w h;exact h.2
 | cons i rest ih =>
  intro a w h
  simp only [wpOps, wpOpsIn] at h ⊢
  cases ho : ops[i]? with
  | none => simp only [ho] at h ⊢;exact ih _ _ h
  | some o =>
   simp only [ho] at h ⊢
   have hdo : Qfh o = true := by
    rw [List.all_eq_true] at hd
    exact hd o (by rw [Array.mem_toList_iff];exact Array.mem_of_getElem? ho)
   have ht : (a.app D).tmps = a.tmps := rfl
   rw [ht]
   split
   ·
    rename_i hw
    rw [if_pos hw] at h
    rcases h with h | ⟨_, _, _, h⟩
    ·
     exact QFq hdo ih h
    ·
     exact h.elim
   ·
    rename_i hw
    rw [if_neg hw] at h
    have h2 := ih _ _ h;rw [Qii] at h2;exact ⟨fun _ _ => trivial, h2⟩
theorem Qzq {P : Program} {L : Option Nat} {D : List Deferred} {Q : Exit -> Act -> World -> Prop} {id : Nat} {l : List Oper} {a : Act} {w : World} (hd : l.all Qfh = true)
  (h : wpList P l.toArray (Qapp D Q) l a w) : (Code.region id l.toArray false).wpIn (Qhr L) 0 P Q (a.app D) w := by
 refine wpIn_region (Qtx (by simpa using hd) _ a w ?_)
 rw [List.range_eq_range', <- Array.length_toList, wpOps_eq_wpList l.toArray.toList 0 (by simp)]
 simpa using h
theorem Qoo {P : Program} {L : Option Nat} {D : List Deferred} {Q : Exit -> Act -> World -> Prop} {id : Nat} {ops : Array Oper} {a : Act} {w : World} (hm : P.follows .mixedOrders = true) (hd : ops.toList.all Qfh = true)
  (h : wpAny P .any ops (Qapp D Q) ops.size (Array.replicate ops.size false) a { w with drawn := w.drawn + 1 }) : (Code.region id ops true).wpIn (Qhr L) 0 P Q (a.app D) w :=
 wpIn_region_draw fun t => Qtx hd _ a _ (by
  simp only [Region.schedule, hm, Bool.true_or, if_true]
  exact wpAny_sound ops.size t _ a _ h)
structure CtxG where
 P : Program
 N : Nat
 L : Option Nat
 D : List Deferred
 post : Exit -> Act -> World -> Prop
structure FitsG (N : Nat) (D : List Deferred) (e : Env) (a : Act) : Prop where
 size : a.tmps.size = N
 defers : a.defers = D
 at_ : ∀ t v, e.find? t = some v -> a.tmps.getD t undef = v
theorem FitsG.bare {N : Nat} {D : List Deferred} {e : Env} {a : Act} (h : FitsG N D e a) : Fits N e { a with defers := [] } := ⟨h.size, rfl, h.at_⟩
theorem FitsG.of {N : Nat} {D : List Deferred} {e : Env} {a : Act} (h : Fits N e a) : FitsG N D e (a.app D) := ⟨h.size, by simp [Act.app, h.defers], h.at_⟩
theorem FitsG.app {N : Nat} {D : List Deferred} {e : Env} {a : Act} (h : FitsG N D e a) : ({ a with defers := [] } : Act).app D = a := by
 cases a;have := h.defers;simp only at this;subst this;rfl
theorem FitsG.weaken {N : Nat} {D : List Deferred} {e e' : Env} {a : Act} (h : FitsG N D e a) (hs : ∀ t v, e'.find? t = some v -> e.find? t = some v) : FitsG N D e' a :=
 ⟨h.size, h.defers, fun t v ht => h.at_ t v (hs t v ht)⟩
theorem FitsG.sel {N : Nat} {D : List Deferred} {e : Env} {a : Act} (h : FitsG N D e a) (ks : List Nat) : FitsG N D (e.sel ks) a := h.weaken fun t v ht => Env.find?_sel ks e t v ht
theorem FitsG.eval {N : Nat} {D : List Deferred} {e : Env} {a : Act} {x : Operand} {K : Value -> Prop} (ha : FitsG N D e a) (h : arg e x K) : K (a.eval x) := by
 have h1 := Qa7 ha.bare h
 cases x <;> exact h1
def Qhs (C : CtxG) : List It -> Exit -> Act -> World -> Prop
 | [], ex, a, w => C.post ex a w
 | .code c :: k, ex, a, w => match ex with
  | .normal => c.wpIn (Qhr C.L) 0 C.P (fun ex a w => Qhs C k ex a w) a w
  | ex => Qhs C k ex a w
 | .blk id :: k, ex, a, w => match ex with
  | .exit id' => if id' = id then Qhs C k .normal a w else Qhs C k (.exit id') a w
  | ex => Qhs C k ex a w
 | .again I :: k, ex, a, w => match ex with
  | .normal => ∃ e w0 n, w = w0.drewN n /\ FitsG C.N C.D e a /\ I e w0
  | ex => Qhs C k ex a w
def VG (C : CtxG) (k : List It) (e : Env) (w : World) : Prop := ∀ a n, FitsG C.N C.D e a -> Qhs C k .normal a (w.drewN n)
section
variable {C : CtxG} {k : List It} {e : Env} {w : World}
theorem Qco {x y : Code} (h : VG C (.code x :: .code y :: k) e w) : VG C (.code (.seq x y) :: k) e w := by
 intro a n ha
 have h1 := h a n ha
 simp only [Qhs] at h1 ⊢
 refine wpIn_seq (wpIn_mono h1 fun ex a w hq => ?_)
 cases ex <;> exact hq
theorem Qn0 (h : VG C k e w) : VG C (.code .skip :: k) e w := fun a n ha => wpIn_skip (h a n ha)
theorem QCq {k : List It} {a : Act} (h : C.post .ret a w) : Qhs C k .ret a w := by
 induction k with
 | nil => exact h
 | cons x k ih => cases x <;> exact ih
theorem Qwa {k : List It} {c : List PanicEntry} {a : Act} : Qhs C k (.panic c) a w ↔ C.post (.panic c) a w := by
 induction k with
 | nil => exact Iff.rfl
 | cons x k ih => cases x <;> exact ih
theorem QFr (h : ∀ a n, FitsG C.N C.D e a -> C.post .ret a (w.drewN n)) : VG C (.code .ret :: k) e w := fun a n ha => wpIn_ret (QCq (h a n ha))
theorem QCr (h : ∀ a n, FitsG C.N C.D e a -> C.post .normal a (w.drewN n)) : VG C [] e w := fun a n ha => h a n ha
theorem Qij {c : Operand} {t : Tmp} {b : Bool} {x y : Code} (hc : c = .tmp t) (hv : e.find? t = some (.bool b))
  (ht : b = true -> VG C (.code x :: k) e w) (hf : b = false -> VG C (.code y :: k) e w) : VG C (.code (.cond c x y) :: k) e w := by
 intro a n ha
 subst hc
 exact wpIn_cond_split (t := b) (ha.at_ t _ hv) (fun h => ht h a n ha) (fun h => hf h a n ha)
end
section
variable {C : CtxG} {k : List It} {e : Env} {w : World}
def endG (C : CtxG) (k : List It) : Exit -> Act -> World -> Prop := fun ex a w => match ex with | .normal => Qhs C k .normal a w | _ => False
theorem Qty (ex : Exit) (a : Act) (w : World) (h : endG C k ex a w) : Qhs C k ex a w := by
 cases ex <;> first | exact h | exact h.elim
theorem Qn1 (ks : List Nat) {e : Env} {a : Act} {w : World} {n : Nat} (ha : Fits C.N e a) (hv : selC ks (VG C k) e w) : Qapp C.D (endG C k) .normal a (w.drewN n) :=
 ⟨ha.defers, ((Qc9 ks e _).1 hv) _ n ((FitsG.of ha).sel ks)⟩
theorem Qcm (ks : List Nat) {id : Nat} {ops : List Oper} (hN : (ops.all (Qfa C.N) && ops.all Qfh) = true)
  (h : ∀ K : Env -> World -> Prop, (∀ e w, VG C k e w -> K e w) -> Qa3 C.P C.N ops ops e w (selC ks K)) : VG C (.code (.region id ops.toArray false) :: k) e w := by
 intro a n ha
 simp only [Bool.and_eq_true] at hN
 rw [<- ha.app]
 refine wpIn_mono (Qzq (Q := endG C k) hN.2 ?_) Qty
 exact Qff (K := selC ks (VG C k)) (fun e a w n ha hv => Qn1 ks ha hv) ops e _ w n hN.1 ha.bare (h _ fun _ _ hv => hv)
theorem Qpr (w0 : World) (hx : Ext w0 w) (ks : List Nat) (plan : List (Nat × Bool)) {id : Nat} {ops : List Oper} {l : List (Bool × Oper)}
  (hm : C.P.follows .mixedOrders = true) (hB : (Qo6 ops.toArray plan (Array.replicate ops.toArray.size false) && Region.noSelect ops.toArray && decide (plan.length <= ops.length)) = true) (hN : (ops.all (Qfa C.N) && ops.all Qfh) = true) (hl : Qay ops plan = l)
  (h : ∀ K : Env -> World -> Prop, (∀ e w, VG C k e w -> K e w) -> vcH C.P C.N ops w0 l e w (selC ks K)) : VG C (.code (.region id ops.toArray true) :: k) e w := by
 intro a n ha
 simp only [Bool.and_eq_true, decide_eq_true_eq] at hB hN
 obtain ⟨⟨hB1, hB2⟩, hB3⟩ := hB
 rw [<- ha.app]
 refine wpIn_mono (Qoo (Q := endG C k) hm (by simpa using hN.2) (wpAny_of_held (S := fun w' => Ext w0 w') _ _ _ _ ?_)) Qty
 subst hl
 exact Qr8 (K := selC ks (VG C k)) hN.1 hB2 (fun c a w d v hq => hq.elim) (fun e a w n ha hv => Qn1 ks ha hv) plan _ _ e _ w (n + 1) (by simpa using hB3) hB1 ha.bare hx (h _ fun _ _ hv => hv)
end
def QFb (F : Value -> World -> Prop) (Pn : List PanicEntry -> World -> Prop) (e : Ending) (w' : World) : Prop :=
 match e with
 | .returned v => ∃ w n, w' = w.drewN n /\ F v w
 | .panicked c => ∃ w n, w' = w.drewN n /\ Pn c w
 | .outgrown => False
def DoesP (P : Program) (f : FuncId) (args : Array Value) (w : World) (F : Value -> World -> Prop) (Pn : List PanicEntry -> World -> Prop) : Prop :=
 ∀ n, Calls P f args (w.drewN n) (QFb F Pn)
def noPn : List PanicEntry -> World -> Prop := fun _ _ => False
theorem DoesP.does {P : Program} {f : FuncId} {args : Array Value} {w : World} {F : Value -> World -> Prop} (h : DoesP P f args w F noPn) : Does P f args w F :=
 fun n => (h n).mono fun e w' he => by
  cases e with
  | returned v => obtain ⟨w1, m, rfl, hF⟩ := he;exact ⟨v, w1, m, rfl, rfl, hF⟩
  | panicked c => obtain ⟨_, _, _, hF⟩ := he;exact hF.elim
  | outgrown => exact he.elim
theorem DoesP.mono {P : Program} {f : FuncId} {args : Array Value} {w : World} {F G : Value -> World -> Prop} {Pn Qn : List PanicEntry -> World -> Prop} (h : DoesP P f args w F Pn) (hg : ∀ v w', F v w' -> G v w') (hp : ∀ c w', Pn c w' -> Qn c w') : DoesP P f args w G Qn :=
 fun n => (h n).mono fun e w' he => by
  cases e with
  | returned v => obtain ⟨w1, m, hw, hF⟩ := he;exact ⟨w1, m, hw, hg _ _ hF⟩
  | panicked c => obtain ⟨w1, m, hw, hF⟩ := he;exact ⟨w1, m, hw, hp _ _ hF⟩
  | outgrown => exact he.elim
abbrev Qwb (P : Program) (fn : Func) (F : Value -> World -> Prop) (Pn : List PanicEntry -> World -> Prop) : Exit -> Act -> World -> Prop := bodyPostM Fence.wide 0 P fn (QFb F Pn)
theorem Qju {P : Program} {f : FuncId} {fn : Func} {c : Code} {args : List Value} {w : World} {F : Value -> World -> Prop} {Pn : List PanicEntry -> World -> Prop} (N : Nat)
  (hf : P.funcs[f]? = some fn) (hb : fn.body = some c) (hN : fn.ntmps = N) (hle : args.length <= N)
  (h : VG ⟨P, N, none, [], Qwb P fn F Pn⟩ [.code c] (Env.ofArgs 0 args) w) : DoesP P f args.toArray w F Pn := by
 intro n
 refine callsIn_wide.1 (callsIn_of_wp_marks (F := Fence.wide) (n := 0) hf hb trivial ?_ rfl)
 have h1 := h { tmps := args.toArray ++ Array.replicate (fn.ntmps - args.toArray.size) undef, defers := [] } n ⟨by simp [hN];omega, rfl, fun t v ht => ?_⟩
 ·
  exact wpIn_mono (F := Fence.wide) h1 fun ex a w hq => hq
 ·
  have := (Env.find?_ofArgs args 0 t v ht).2
  rw [Array.getD_eq_getD_getElem?, Array.getElem?_append]
  have hlt : t < args.toArray.size := by
   have h2 := (List.getElem?_eq_some_iff.1 this).1
   simpa using h2
  simp only [hlt, if_true]
  simp at this ⊢
  simp [this]
theorem Qwc {P : Program} {f : FuncId} {fn : Func} {c : Code} {args : List Value} {w : World} {F : Value -> World -> Prop} (N : Nat)
  (hf : P.funcs[f]? = some fn) (hb : fn.body = some c) (hN : fn.ntmps = N) (hle : args.length <= N)
  (h : VG ⟨P, N, none, [], Qwb P fn F noPn⟩ [.code c] (Env.ofArgs 0 args) w) : Does P f args.toArray w F := (Qju N hf hb hN hle h).does
theorem Qxi {P : Program} {fn : Func} {F : Value -> World -> Prop} {Pn : List PanicEntry -> World -> Prop} {N : Nat} {e : Env} {w : World} {D : List Deferred} (hx : VX ⟨P, fn, F, N⟩ [] .ret e w) {a : Act} {n : Nat} (ha : FitsG N D e a) :
  LeavesInM Fence.wide 0 P fn a.tmps (QFb F Pn) [] .returning (w.drewN n) := by
 obtain ⟨_, v, hr, v', w1, m, he, hw, hF⟩ := hx _ n ha.bare
 cases he
 exact ⟨v, hr, w1, m, hw, hF⟩
theorem ret0 {P : Program} {fn : Func} {F : Value -> World -> Prop} {Pn : List PanicEntry -> World -> Prop} {N : Nat} {e : Env} {w : World} (hx : VX ⟨P, fn, F, N⟩ [] .ret e w) :
  ∀ a n, FitsG N [] e a -> Qwb P fn F Pn .ret a (w.drewN n) := fun a n ha => by
 show LeavesInM _ _ _ _ _ _ a.defers _ _
 rw [ha.defers]
 exact Qxi hx ha
theorem nil0 {P : Program} {fn : Func} {F : Value -> World -> Prop} {Pn : List PanicEntry -> World -> Prop} {N : Nat} {e : Env} {w : World} (hx : VX ⟨P, fn, F, N⟩ [] .ret e w) :
  ∀ a n, FitsG N [] e a -> Qwb P fn F Pn .normal a (w.drewN n) := ret0 hx
theorem QFs {P : Program} {fn : Func} {F : Value -> World -> Prop} {Pn : List PanicEntry -> World -> Prop} {N : Nat} {e : Env} {w : World} {c : List PanicEntry} (hx : Pn c w) :
  ∀ a n, FitsG N [] e a -> Qwb P fn F Pn (.panic c) a (w.drewN n) := fun a n ha => by
 show LeavesInM _ _ _ _ _ _ a.defers _ _
 rw [ha.defers]
 exact ⟨w, n, rfl, hx⟩
def Qzr (C : CtxG) (o : Oper) (e : Env) (w : World) (R : Value -> World -> Prop) : Prop :=
 ∀ (a : Act) (n : Nat) (next : Act -> World -> Prop) (Q : Exit -> Act -> World -> Prop), FitsG C.N C.D e a -> (∀ (v : Value) (w' : World) (m : Nat), R v w' -> next (a.put o.dst v) (w'.drewN m)) ->
  (∀ (c : List PanicEntry) (w' : World) (m : Nat), C.post (.panic c) a (w'.drewN m) -> Q (.panic c) a (w'.drewN m)) -> o.wpIn (Qhr C.L) 0 C.P a (w.drewN n) next Q
def spC (A : Env -> World -> Prop) : Env -> World -> Prop := A
theorem QJd {P : Program} {N : Nat} {ops : List Oper} {e : Env} {w : World} (A : Env -> World -> Prop) : Qa3 P N ops [] e w (spC A) = A e w := rfl
theorem Qik {F : Fence} {n : Nat} {P : Program} {ops : Array Oper} {Q : Exit -> Act -> World -> Prop} (l2 : List Oper) : ∀ (l1 : List Oper) (a : Act) (w : World),
  wpListIn F n P ops (Exit.then (wpListIn F n P ops Q l2) Q) l1 a w -> wpListIn F n P ops Q (l1 ++ l2) a w := by
 intro l1
 induction l1 with
 | nil => intro a w h;exact h
 | cons o l1 ih =>
  intro a w h
  simp only [wpListIn, List.cons_append] at h ⊢
  split
  ·
   rename_i hw
   rw [if_pos hw] at h
   obtain ⟨h1, h2⟩ := h
   refine ⟨h1, ?_⟩
   revert h2
   generalize (o.semAt F.round a.eval).run P w = r
   intro h2
   cases r with
   | ok x w' =>
    cases x <;> simp only [Oper.uponIn] at h2 ⊢ <;>
     first
      | exact ih _ _ h2
      | exact ⟨h2.1, CallsIn.mono h2.2 (fun e w'' he => by cases e <;> first | exact ih _ _ he | exact he | (obtain ⟨a0, w0, he⟩ := he;exact ⟨a0, w0, he⟩))⟩
      | exact ⟨h2.1, RowsIn.mono h2.2 (fun _ _ he => ih _ _ he)⟩
      | exact ⟨h2.1, RoundIn.mono h2.2 (fun e w'' he => by cases e <;> first | exact ih _ _ he | exact he | (obtain ⟨a0, w0, he⟩ := he;exact ⟨a0, w0, he⟩))⟩
      | exact h2
   | halt x w' => cases x <;> simp only [Oper.uponIn] at h2 ⊢ <;> exact h2
  ·
   rename_i hw
   rw [if_neg hw] at h
   exact ⟨h.1, ih _ _ h.2⟩
theorem Qlk {P : Program} {L : Option Nat} {D : List Deferred} {Q : Exit -> Act -> World -> Prop} {ops : Array Oper} : ∀ (l : List Oper) (a : Act) (w : World), l.all Qfh = true ->
  wpList P ops (Qapp D Q) l a w -> wpListIn (Qhr L) 0 P ops Q l (a.app D) w := by
 intro l
 induction l with
 | nil => intro a w _ h;exact h.2
 | cons o l ih =>
  intro a w hd h
  simp only [List.all_cons, Bool.and_eq_true] at hd
  simp only [wpList, wpListIn] at h ⊢
  have ht : (a.app D).tmps = a.tmps := rfl
  rw [ht]
  split
  ·
   rename_i hw
   rw [if_pos hw] at h
   rcases h with h | ⟨_, _, _, h⟩
   ·
    exact QFq hd.1 (fun a w => ih a w hd.2) h
   ·
    exact h.elim
  ·
   rename_i hw
   rw [if_neg hw] at h
   have h2 := ih _ _ hd.2 h;rw [Qii] at h2;exact ⟨fun _ _ => trivial, h2⟩
theorem Qhn {F : Fence} {n : Nat} {P : Program} {ops : Array Oper} {Q Q' : Exit -> Act -> World -> Prop} (hq : ∀ ex a w, Q ex a w -> Q' ex a w) : ∀ (l : List Oper) (a : Act) (w : World), wpListIn F n P ops Q l a w -> wpListIn F n P ops Q' l a w := by
 intro l
 induction l with
 | nil => intro a w h;exact hq _ _ _ h
 | cons x l ih =>
  intro a w h
  simp only [wpListIn] at h ⊢
  split
  ·
   rename_i hw
   rw [if_pos hw] at h
   obtain ⟨g1, g2⟩ := h
   refine ⟨g1, ?_⟩
   revert g2
   generalize (x.semAt F.round a.eval).run P w = r
   intro g2
   cases r with
   | ok y w' =>
    cases y <;> simp only [Oper.uponIn] at g2 ⊢ <;>
     first
      | exact ih _ _ g2
      | exact ⟨g2.1, CallsIn.mono g2.2 (fun e w'' he => by cases e <;> first | exact ih _ _ he | exact hq _ _ _ he | (obtain ⟨a0, w0, he⟩ := he;exact ⟨a0, w0, hq _ _ _ he⟩))⟩
      | exact ⟨g2.1, RowsIn.mono g2.2 (fun _ _ he => ih _ _ he)⟩
      | exact ⟨g2.1, RoundIn.mono g2.2 (fun e w'' he => by cases e <;> first | exact ih _ _ he | exact hq _ _ _ he | (obtain ⟨a0, w0, he⟩ := he;exact ⟨a0, w0, hq _ _ _ he⟩))⟩
      | exact g2
   | halt y w' => cases y <;> simp only [Oper.uponIn] at g2 ⊢ <;> first | exact hq _ _ _ g2 | exact g2
  ·
   rename_i hw
   rw [if_neg hw] at h
   exact ⟨h.1, ih _ _ h.2⟩
def Qt0 (C : CtxG) (ops : List Oper) (R : List Oper -> Env -> World -> Prop) (l : List Oper) (e : Env) (w : World) : Prop :=
 match l with
 | o :: l' => Qh8 ops o.guard e (fun e => Qzr C o e w fun v w => R l' (e.put o.dst v) w) (fun e => R l' (e.put o.dst undef) w)
 | [] => False
def Qkj (C : CtxG) (ops : List Oper) (K : Env -> World -> Prop) : List Nat -> List Oper -> Env -> World -> Prop
 | [], l, e, w => Qa3 C.P C.N ops l e w K
 | i :: is, l, e, w => Qa3 C.P C.N ops (l.take i) e w (spC fun e w => Qt0 C ops (Qkj C ops K is) (l.drop i) e w)
def Qt1 (N : Nat) : List Nat -> List Oper -> Bool
 | [], l => l.all (Qfa N) && l.all Qfh
 | i :: is, l => (l.take i).all (Qfa N) && (l.take i).all Qfh && match l.drop i with
  | o :: l' => Qfa N o && Qt1 N is l'
  | [] => false
theorem QMc {C : CtxG} {ops l : List Oper} {K : Env -> World -> Prop} {e : Env} {w : World} : Qkj C ops K [] l e w = Qa3 C.P C.N ops l e w K := rfl
theorem QCs {C : CtxG} {ops l : List Oper} {K : Env -> World -> Prop} {e : Env} {w : World} (i : Nat) (is : List Nat) : Qkj C ops K (i :: is) l e w = Qa3 C.P C.N ops (l.take i) e w (spC fun e w => Qt0 C ops (Qkj C ops K is) (l.drop i) e w) := rfl
theorem QP0 {C : CtxG} {ops l : List Oper} {R : List Oper -> Env -> World -> Prop} {e : Env} {w : World} (d : Option Tmp) (op : Op) (ty : Nat) (pos : String) (af : Array Edge) : Qt0 C ops R (⟨d, op, ty, pos, af, none⟩ :: l) e w = Qzr C ⟨d, op, ty, pos, af, none⟩ e w fun v w => R l (e.put d v) w := rfl
theorem QMd {C : CtxG} {ops l : List Oper} {R : List Oper -> Env -> World -> Prop} {e : Env} {w : World} (d : Option Tmp) (op : Op) (ty : Nat) (pos : String) (af : Array Edge) (j : Nat) (b : Bool) : Qt0 C ops R (⟨d, op, ty, pos, af, some (j, b)⟩ :: l) e w = Qbc ops j b e (fun e => Qzr C ⟨d, op, ty, pos, af, some (j, b)⟩ e w fun v w => R l (e.put d v) w) (fun e => R l (e.put d undef) w) := by
 rw [<- Qaz];rfl
theorem Qzs {C : CtxG} {ops : List Oper} {Q : Exit -> Act -> World -> Prop} {K : Env -> World -> Prop} (hQ : ∀ c a w, C.post (.panic c) a w -> Q (.panic c) a w)
  (hK : ∀ e a w n, FitsG C.N C.D e a -> K e w -> Q .normal a (w.drewN n)) : ∀ (is : List Nat) (l : List Oper) (e : Env) (a : Act) (w : World) (n : Nat), Qt1 C.N is l = true -> FitsG C.N C.D e a ->
   Qkj C ops K is l e w -> wpListIn (Qhr C.L) 0 C.P ops.toArray Q l a (w.drewN n) := by
 intro is
 induction is with
 | nil =>
  intro l e a w n hl ha h
  simp only [Qt1, Bool.and_eq_true] at hl
  have hA := Qff (P := C.P) (N := C.N) (ops := ops) (Q := Qapp C.D fun ex a w => match ex with | .normal => Q .normal a w | _ => False) (K := K)
   (fun e a w n ha hv => ⟨ha.defers, hK e _ w n (FitsG.of ha) hv⟩) l e _ w n hl.1 ha.bare h
  have hB := Qlk (L := C.L) _ _ _ hl.2 hA
  rw [ha.app] at hB
  refine Qhn (fun ex a w hq => ?_) _ _ _ hB
  cases ex <;> first | exact hq | exact hq.elim
 | cons i is ih =>
  intro l e a w n hl ha h
  simp only [Qt1, Bool.and_eq_true] at hl
  obtain ⟨⟨h1, h2⟩, h3⟩ := hl
  cases hd : l.drop i with
  | nil => rw [hd] at h3;cases h3
  | cons o l' =>
   rw [hd] at h3
   simp only [Bool.and_eq_true] at h3
   rw [<- List.take_append_drop i l, hd]
   refine Qik _ _ _ _ ?_
   rw [QCs, hd] at h
   have hA := Qff (P := C.P) (N := C.N) (ops := ops) (Q := Qapp C.D fun ex a w => match ex with
     | .normal => ∃ e w0 n, w = w0.drewN n /\ FitsG C.N C.D e a /\ Qt0 C ops (Qkj C ops K is) (o :: l') e w0
     | _ => False)
    (fun e a w n ha hv => ⟨ha.defers, e, w, n, rfl, FitsG.of ha, hv⟩) (l.take i) e _ w n h1 ha.bare h
   have hB := Qlk (L := C.L) _ _ _ h2 hA
   rw [ha.app] at hB
   refine Qhn (fun ex a w hq => ?_) _ _ _ hB
   cases ex with
   | normal =>
    obtain ⟨e1, w1, m, rfl, hf, hs⟩ := hq
    show wpListIn _ _ _ _ _ (o :: l') a _
    simp only [wpListIn]
    have hput : ∀ (e2 : Env) (v : Value), FitsG C.N C.D e2 a -> FitsG C.N C.D (e2.put o.dst v) (a.put o.dst v) := fun e2 v hf2 => by
     have g1 := hf2.bare.put' h3.1 v
     have g2 := FitsG.of (D := C.D) g1
     rw [Qii, hf2.app] at g2
     exact g2
    have hfa : ∀ e2, Fits C.N e2 { a with defers := [] } -> FitsG C.N C.D e2 a := fun e2 g => ⟨g.size, hf.defers, g.at_⟩
    have hs' : Qh8 ops o.guard e1 (fun e => Qzr C o e w1 fun v w => Qkj C ops K is l' (e.put o.dst v) w) (fun e => Qkj C ops K is l' (e.put o.dst undef) w1) := hs
    rcases Qde hf.bare hs' with ⟨e2, g1, g2, hw⟩ | ⟨e2, g1, g2, hw⟩
    ·
     rw [if_pos hw]
     exact g2 a m _ _ (hfa e2 g1) (fun v w' m' hv => ih l' _ _ w' m' h3.2 (hput e2 v (hfa e2 g1)) hv) (fun c w' m' hp => hQ _ _ _ hp)
    ·
     rw [if_neg (by rw [hw];simp)]
     exact ⟨fun _ _ => trivial, ih l' _ _ w1 m h3.2 (hput e2 undef (hfa e2 g1)) g2⟩
   | _ => exact hq.elim
section
variable {C : CtxG} {k : List It} {e : Env} {w : World}
theorem Qfi (ks : List Nat) (is : List Nat) {id : Nat} {ops : List Oper} (hN : Qt1 C.N is ops = true)
  (h : ∀ K : Env -> World -> Prop, (∀ e w, VG C k e w -> K e w) -> Qkj C ops (selC ks K) is ops e w) : VG C (.code (.region id ops.toArray false) :: k) e w := by
 intro a n ha
 refine wpIn_region_lit ?_
 exact Qzs (Q := fun ex a w => Qhs C k ex a w) (K := selC ks (VG C k)) (fun c a w hp => Qwa.2 hp) (fun e a w n ha hv => ((Qc9 ks e _).1 hv) a n (ha.sel ks)) is ops e a w n hN ha (h _ fun _ _ hv => hv)
variable {d : Option Tmp} {ty : Nat} {pos : String} {af : Array Edge} {gd : Option (Nat × Bool)} {R : Value -> World -> Prop}
def CallP (C : CtxG) (e : Env) (fv : Value) (vs : List Value) (w : World) (R : Value -> World -> Prop) : Prop :=
 ∃ f first cs, fv = .func (.func f) first cs /\ (∀ args w, (callFunc f args).run C.P w = .ok (.enter f args) w) /\ ∃ F Pn, DoesP C.P f (first.toList ++ vs ++ cs.toList).toArray w F Pn /\ (∀ v w', F v w' -> R v w') /\ (∀ c w', Pn c w' -> ∀ a n, FitsG C.N C.D e a -> C.post (.panic c) a (w'.drewN n))
theorem CallP.mk {f : FuncId} {first cs : Array Value} {vs : List Value} {F : Value -> World -> Prop} {Pn : List PanicEntry -> World -> Prop} (hf : ∀ args w, (callFunc f args).run C.P w = .ok (.enter f args) w)
  (h : DoesP C.P f (first.toList ++ vs ++ cs.toList).toArray w F Pn) (hc : ∀ v w', F v w' -> R v w') (hp : ∀ c w', Pn c w' -> ∀ a n, FitsG C.N C.D e a -> C.post (.panic c) a (w'.drewN n)) : CallP C e (.func (.func f) first cs) vs w R :=
 ⟨f, first, cs, rfl, hf, F, Pn, h, hc, hp⟩
theorem Qfj {x : Operand} {az : Array Operand} {ts : Array TypeId}
  (h : arg e x fun fv => argL e az.toList fun vs => CallP C e fv vs w R) :
  Qzr C ⟨d, .call { callee := .value x, args := az, argTypes := ts }, ty, pos, af, gd⟩ e w R := by
 intro a n next Q ha hK hP
 have h0 := Qa7 ha.bare h
 have h1 := Qcp ha.bare h0
 obtain ⟨f, first, cs, hx, hf, F, Pn, hD, hC, hpn⟩ := h1
 have ev : ({ a with defers := [] } : Act).eval = a.eval := by funext x;cases x <;> rfl
 rw [ev] at hx hD
 have hm : (az.map a.eval) = (az.toList.map a.eval).toArray := Qe3 az a
 have e1 : first ++ (az.toList.map a.eval).toArray ++ cs = (first.toList ++ az.toList.map a.eval ++ cs.toList).toArray := by
  apply Array.ext';simp
 have hrun : (execOp a.eval ⟨d, .call { callee := .value x, args := az, argTypes := ts }, ty, pos, af, gd⟩).run C.P (w.drewN n) = .ok (.enter f (first.toList ++ az.toList.map a.eval ++ cs.toList).toArray) (w.drewN n) := by
  simp only [execOp, resolve, hx, Deferred.ofValue, Sem.run_bind, Sem.run_pure, Result.andThen_ok, invoke, hm, e1]
  simp [hf]
 refine ⟨fun _ _ => trivial, ?_⟩
 rw [Oper.semAt_eq _ _ _ (fun c hc => by cases hc), hrun]
 refine ⟨by simp [Qhr, Fence.wide], Qki ((hD n).mono fun e' w' he => ?_)⟩
 cases e' with
 | returned v => obtain ⟨w1, m, rfl, hF⟩ := he;exact hK v w1 m (hC v w1 hF)
 | panicked c => obtain ⟨w1, m, rfl, hF⟩ := he;exact hP c w1 m (hpn c w1 hF a m ha)
 | outgrown => exact he.elim
def YieldK (P : Program) (l : Nat) (vs : List Value) (w : World) (R : Value -> World -> Prop) : Prop :=
 ∀ n, ∃ fn tmps assign body, (Instr.yield l vs.toArray).run P (w.drewN n) = .ok (.round l fn tmps assign body) (w.drewN n) /\
  RoundIn Fence.wide 0 P l fn tmps assign body (w.drewN n) fun e w' => ∃ v w1 m, e = .returned v /\ w' = w1.drewN m /\ R v w1
theorem YieldK.mono {P : Program} {l : Nat} {vs : List Value} {w : World} {R R' : Value -> World -> Prop} (h : YieldK P l vs w R) (hr : ∀ v w', R v w' -> R' v w') : YieldK P l vs w R' := fun n => by
 obtain ⟨fn, tmps, az, bd, h1, h2⟩ := h n
 exact ⟨fn, tmps, az, bd, h1, h2.mono fun e w' ⟨v, w1, m, he, hw, hR⟩ => ⟨v, w1, m, he, hw, hr _ _ hR⟩⟩
theorem Qjv {x : Operand} (h : arg e x fun v => (∃ t u, v = .iface t u) /\ ∀ a n, FitsG C.N C.D e a -> C.post (.panic [{ v := v, recovered := false }]) a (w.drewN n)) :
  Qzr C ⟨d, .panic x, ty, pos, af, gd⟩ e w R := by
 intro a n next Q ha hK hP
 obtain ⟨⟨t, u, hx⟩, hp⟩ := Qa7 ha.bare h
 have ev : ({ a with defers := [] } : Act).eval = a.eval := by funext x;cases x <;> rfl
 rw [ev] at hx hp
 have hrun : (execOp a.eval ⟨d, .panic x, ty, pos, af, gd⟩).run C.P (w.drewN n) = .halt (.panic (a.eval x)) (w.drewN n) := by
  simp only [execOp, hx, Instr.panic]
  rfl
 refine ⟨fun _ _ => trivial, ?_⟩
 rw [Oper.semAt_eq _ _ _ (fun c hc => by cases hc), hrun]
 exact hP _ w n (hp a n ha)
def Qwd : List It -> Bool
 | [] => true
 | .again _ :: _ => false
 | _ :: k => Qwd k
theorem QJe (D : List Deferred) {k : List It} (hk : Qwd k = true) : ∀ {ex : Exit} {a : Act} {w : World}, Qhs { C with D := D } k ex a w ↔ Qhs C k ex a w := by
 induction k with
 | nil => intro ex a w;exact Iff.rfl
 | cons x k ih =>
  intro ex a w
  cases x with
  | again I => cases hk
  | blk id =>
   have ih := fun {ex a w} => @ih hk ex a w
   cases ex <;> first | exact ih | skip
   rename_i id'
   simp only [Qhs]
   split
   ·
    exact ih
   ·
    exact ih
  | code c =>
   have ih := fun {ex a w} => @ih hk ex a w
   cases ex <;> first | exact ih | skip
   simp only [Qhs]
   constructor
   ·
    exact fun h => wpIn_mono h fun ex a w hq => ih.1 hq
   ·
    exact fun h => wpIn_mono h fun ex a w hq => ih.2 hq
theorem Qzt {P : Program} {N : Nat} {D : List Deferred} {post : Exit -> Act -> World -> Prop} (ks : List Nat) (i : Nat) {id : Nat} {ops : List Oper} {x : Operand} {az : Array Operand} {ts : Array TypeId} (hk : Qwd k = true)
  (hN : ((ops.take i).all (Qfa N) && (ops.take i).all Qfh) = true) (hl : ops.drop i = [⟨none, .defer { callee := .value x, args := az, argTypes := ts }, ty, pos, af, none⟩])
  (h : ∀ K : Deferred -> Env -> World -> Prop, (∀ d e w, VG ⟨P, N, none, d :: D, post⟩ k e w -> K d e w) ->
   Qa3 P N ops (ops.take i) e w (spC fun e w => arg e x fun fv => argL e az.toList fun vs => ∃ f first cs, fv = .func (.func f) first cs /\ selK ks e fun e => K { target := .fn (.func f) cs, args := first ++ vs.toArray } e w)) : VG ⟨P, N, none, D, post⟩ (.code (.region id ops.toArray false) :: k) e w := by
 intro a n ha
 simp only [Bool.and_eq_true] at hN
 refine wpIn_region_lit ?_
 have key : wpListIn (Qhr none) 0 P ops.toArray (fun ex a w => Qhs ⟨P, N, none, D, post⟩ k ex a w) (ops.take i ++ [⟨none, .defer { callee := .value x, args := az, argTypes := ts }, ty, pos, af, none⟩]) a (w.drewN n) := by
  refine Qik _ _ _ _ ?_
  have hA := Qff (P := P) (N := N) (ops := ops) (Q := Qapp D fun ex a w => match ex with
    | .normal => ∃ e w0 n, w = w0.drewN n /\ FitsG N D e a /\ arg e x fun fv => argL e az.toList fun vs => ∃ f first cs, fv = .func (.func f) first cs /\ selK ks e fun e => VG ⟨P, N, none, { target := .fn (.func f) cs, args := first ++ vs.toArray } :: D, post⟩ k e w0
    | _ => False)
   (fun e a w n ha hv => ⟨ha.defers, e, w, n, rfl, FitsG.of ha, hv⟩) (ops.take i) e _ w n hN.1 ha.bare (h _ fun _ _ _ hv => hv)
  have hB := Qlk (L := none) _ _ _ hN.2 hA
  rw [FitsG.app ha] at hB
  refine Qhn (fun ex a w hq => ?_) _ _ _ hB
  cases ex with
  | normal =>
   obtain ⟨e1, w1, m, rfl, hf, hs⟩ := hq
   show wpListIn _ _ _ _ _ [_] a _
   simp only [wpListIn]
   rw [if_pos (by simp [Region.wanted])]
   have h0 := Qa7 hf.bare hs
   have h1 := Qcp hf.bare h0
   obtain ⟨f, first, cs, hx, hv⟩ := h1
   have ev : ({ a with defers := [] } : Act).eval = a.eval := by funext x;cases x <;> rfl
   rw [ev] at hx hv
   have hm : (az.map a.eval) = (az.toList.map a.eval).toArray := Qe3 az a
   refine ⟨fun _ _ => trivial, ?_⟩
   have hrun : (Oper.semAt (Qhr none).round a.eval ⟨none, .defer { callee := .value x, args := az, argTypes := ts }, ty, pos, af, none⟩).run P (w1.drewN m) = .ok (.defer { target := .fn (.func f) cs, args := first ++ (az.toList.map a.eval).toArray }) (w1.drewN m) := by
    rw [show (Qhr none).round = none from rfl, Oper.semAt_none]
    simp only [execOp, resolve, hx, Deferred.ofValue, Sem.run_bind, Sem.run_pure, Result.andThen_ok, hm]
   rw [hrun]
   refine (QJe (C := ⟨P, N, none, D, post⟩) _ hk).1 (((Qc9 ks e1 _).1 hv) _ m (FitsG.sel ?_ ks))
   exact ⟨hf.size, by simp [Act.put, hf.defers], hf.at_⟩
  | _ => exact hq.elim
 rw [<- hl, List.take_append_drop] at key
 exact key
end
attribute [go_sem ↓] QJd QMc QCs QP0 QMd
theorem Qps {P : Program} {f : FuncId} {fn : Func} {id : Nat} {t s : Tmp} {ts : Array TypeId} {ty1 ty2 : Nat} {p1 p2 : String} {a1 a2 : Array Edge} {rest : Code} {N : Nat} {args : List Value} {u u' : FrameMode} {v : Value} {w : World} {R : World -> Prop}
  (hf : P.funcs[f]? = some fn) (hb : fn.body = some (.seq (.region id #[⟨some t, .call { callee := .builtin .recover, args := #[], argTypes := ts }, ty1, p1, a1, none⟩, ⟨some s, .assign (.tmp t), ty2, p2, a2, none⟩] false) rest)) (hres : fn.results = #[]) (hN : fn.ntmps = N) (hle : args.length <= N) (ht : t < N) (hs : s < N)
  (hu : u = .returning /\ u' = .returning /\ v = .nilIface ∨ u = .panicking [{ v := v, recovered := false }] /\ u' = .panicking [{ v := v, recovered := true }])
  (h : VG ⟨P, N, none, [], fun ex a w' => (ex = .normal ∨ ex = .ret) /\ a.defers = [] /\ ∃ w1 m, w' = w1.drewN m /\ R w1⟩ [.code rest] ((s, v) :: (t, v) :: Env.ofArgs 0 args) w) :
  ∀ n, CallsDIn Fence.wide 0 P f args.toArray u (w.drewN n) (fun e u2 w' => (∃ x, e = .returned x) /\ u2 = u' /\ ∃ w1 m, w' = w1.drewN m /\ R w1) := by
 intro n
 refine callsDIn_of_wpSIn hf hb trivial fun c₀ cs hm => ?_
 generalize ha0 : ({ tmps := args.toArray ++ Array.replicate (fn.ntmps - args.toArray.size) undef, defers := [] } : Act) = a0
 have hfit0 : Fits N (Env.ofArgs 0 args) a0 := by
  subst ha0
  refine ⟨by simp [hN];omega, rfl, fun t v ht => ?_⟩
  have := (Env.find?_ofArgs args 0 t v ht).2
  rw [Array.getD_eq_getD_getElem?, Array.getElem?_append]
  have hlt : t < args.toArray.size := by
   have h2 := (List.getElem?_eq_some_iff.1 this).1
   simpa using h2
  simp only [hlt, if_true]
  simp at this ⊢
  simp [this]
 refine wpSIn_seq (wpSIn_region ?_)
 have hfit1 : Fits N ((t, v) :: Env.ofArgs 0 args) (a0.put (some t) v) := hfit0.put (some t) v fun x hx => by cases hx;exact ht
 have hfit2 : Fits N ((s, v) :: (t, v) :: Env.ofArgs 0 args) ((a0.put (some t) v).put (some s) v) := hfit1.put (some s) v fun x hx => by cases hx;exact hs
 have hev : (a0.put (some t) v).eval (.tmp t) = v := hfit1.at_ t v (by simp [Env.find?])
 have hcs : ∃ cs', (recoverD (c₀ :: cs) = some (v, cs') ∨ recoverD (c₀ :: cs) = none /\ v = .nilIface /\ cs' = c₀ :: cs) /\ cs' = { c₀ with mode := u' } :: cs := by
  rcases hu with ⟨h1, h2, h3⟩ | ⟨h1, h2⟩
  ·
   refine ⟨c₀ :: cs, .inr ⟨?_, h3, rfl⟩, ?_⟩
   ·
    simp only [recoverD, hm, h1]
   ·
    have : c₀.mode = u' := by rw [hm, h1, h2]
    cases c₀;simp only at this;subst this;rfl
  ·
   refine ⟨{ c₀ with mode := u' } :: cs, .inl ?_, rfl⟩
   simp only [recoverD, hm, h1, h2]
 obtain ⟨cs', hrec, hcs'⟩ := hcs
 have hrun2 : ∀ w, (execOp (a0.put (some t) v).eval ⟨some s, .assign (.tmp t), ty2, p2, a2, none⟩).run P w = .ok (.value v) w := fun w => by
  simp only [execOp, hev]
  rfl
 have hlast : Exit.thenS (rest.wpSIn Fence.wide 0 P (bodyPostS P fn c₀ cs fun e u2 w' => (∃ x, e = .returned x) /\ u2 = u' /\ ∃ w1 m, w' = w1.drewN m /\ R w1)) (bodyPostS P fn c₀ cs fun e u2 w' => (∃ x, e = .returned x) /\ u2 = u' /\ ∃ w1 m, w' = w1.drewN m /\ R w1) .normal ((a0.put (some t) v).put (some s) v) cs' (w.drewN n) := by
  refine wpSIn_of_wpIn rfl (wpIn_mono (F := Fence.wide) (h _ n ⟨hfit2.size, hfit2.defers, hfit2.at_⟩) fun ex a w' hq => ?_)
  obtain ⟨hex, hd, w1, m, rfl, hR⟩ := hq
  have hr := results_none hres a.tmps P (w1.drewN m)
  rcases hex with rfl | rfl
  ·
   exact ⟨hd, u', hcs', _, hr, ⟨_, rfl⟩, rfl, w1, m, rfl, hR⟩
  ·
   exact ⟨hd, u', hcs', _, hr, ⟨_, rfl⟩, rfl, w1, m, rfl, hR⟩
 have hsz : (#[⟨some t, .call { callee := .builtin .recover, args := #[], argTypes := ts }, ty1, p1, a1, none⟩, ⟨some s, .assign (.tmp t), ty2, p2, a2, none⟩] : Array Oper).size = 2 := rfl
 rw [hsz]
 simp only [show List.range 2 = [0, 1] from rfl, wpOpsSIn, List.getElem?_toArray, List.getElem?_cons_zero, List.getElem?_cons_succ]
 refine ⟨fun _ _ => trivial, ?_⟩
 rw [if_pos (by simp [Region.wanted])]
 have hrun1 : (execOp a0.eval ⟨some t, .call { callee := .builtin .recover, args := #[], argTypes := ts }, ty1, p1, a1, none⟩).run P (w.drewN n) = .ok .recover (w.drewN n) := by
  simp only [execOp, resolve, invoke, builtin, Sem.run_bind, Sem.run_pure, Result.andThen_ok]
 rw [hrun1]
 simp only []
 rcases hrec with hrec | ⟨hrec, hv, rfl⟩
 ·
  rw [hrec]
  simp only []
  refine ⟨fun _ _ => trivial, ?_⟩
  rw [if_pos (by simp [Region.wanted]), hrun2]
  exact hlast
 ·
  rw [hrec]
  simp only []
  refine ⟨fun _ _ => trivial, ?_⟩
  rw [<- hv]
  rw [if_pos (by simp [Region.wanted]), hrun2]
  exact hlast
theorem Qt2 {P : Program} {fn : Func} {F : Value -> World -> Prop} {Pn : List PanicEntry -> World -> Prop} {N : Nat} {e : Env} {w : World} {D : List Deferred} {f : FuncId} {cs : Array Value} {args : Array Value} {R : World -> Prop} {u : FrameMode}
  (hi : ∀ args w, (callFunc f args).run P w = .ok (.enter f args) w) (hu : u ≠ .run) (hD : D = [{ target := .fn (.func f) cs, args := args }])
  (hc : ∀ n, CallsDIn Fence.wide 0 P f (args ++ cs) u (w.drewN n) (fun e u2 w' => (∃ x, e = .returned x) /\ settle u2 = .returning /\ ∃ w1 m, w' = w1.drewN m /\ R w1))
  (hx : ∀ w1, R w1 -> VX ⟨P, fn, F, N⟩ [] .ret e w1) : ∀ a n, FitsG N D e a -> LeavesInM Fence.wide 0 P fn a.tmps (QFb F Pn) a.defers u (w.drewN n) := by
 intro a n ha
 rw [ha.defers, hD]
 refine ⟨hu, .inr ⟨by simp [Fence.wide], .func f, cs, f, args ++ cs, rfl, ?_, fun _ _ => trivial, ?_⟩⟩
 ·
  simp only [invoke];exact hi _ _
 ·
  obtain ⟨_, hc⟩ := hc n
  refine ⟨trivial, fun c cs hm hroom => ?_⟩
  obtain ⟨e2, u2, w2, fr, hR, h1, h2, h3, h4⟩ := hc c cs hm hroom
  refine ⟨e2, u2, w2, fr, ?_, h1, h2, h3, h4⟩
  obtain ⟨⟨x, rfl⟩, hs, w1, m, rfl, hR⟩ := hR
  show LeavesInM _ _ _ _ _ _ [] (settle u2) _
  rw [hs]
  exact Qxi (hx w1 hR) ha
def QFc (d : Option TypeDesc) : Bool :=
 match d with
 | some (.interface _) => false
 | some _ => true
 | none => false
theorem Qwe {P : Program} {N : Nat} {d : Option Tmp} {ty : Nat} {pos : String} {af : Array Edge} {gd : Option (Nat × Bool)} {e : Env} {w : World} {R : Env -> World -> (Env -> World -> Prop) -> Prop} {K : Env -> World -> Prop} {x : Operand} {T T' : TypeId}
  (h : arg e x fun u => ∃ v, u = .iface T' v /\ QFc (P.underlying T') = true /\ R (e.put d (.tuple #[v, .bool true])) w K) : MemK P N ⟨d, .typeAssert x T T' true, ty, pos, af, gd⟩ e w R K :=
 Qdn fun a n ha => by
  obtain ⟨v, hx, hu, hR⟩ := Qa7 ha h
  refine ⟨_, w, n, ?_, hR⟩
  simp only [execOp, hx, Instr.typeAssert]
  cases hd : P.underlying T' with
  | none => rw [hd] at hu;cases hu
  | some t => cases t <;> first | (rw [hd] at hu;cases hu;done) | simp [run_underlying hd]
section
variable {P : Program} {w : World} {KV : Value -> Prop}
theorem Qwf {T : TypeId} {ms : Array (String × TypeId)} (hu : P.underlying T = some (.interface ms)) (d : Nat) (t : TypeId) (v : Value) (w : World) : (Op.equalIn (d + 1) T (.iface t v) .nilIface).run P w = .ok false w := by
 unfold Op.equalIn
 simp [run_underlying hu]
theorem QCt {T : TypeId} {ms : Array (String × TypeId)} (hu : P.underlying T = some (.interface ms)) (t : TypeId) (v : Value) (w : World) : (Op.equal T (.iface t v) .nilIface).run P w = .ok false w := Qwf hu 9999 t v w
theorem Qt3 {T : TypeId} {ms : Array (String × TypeId)} (hu : P.underlying T = some (.interface ms)) (d : Nat) (w : World) : (Op.equalIn (d + 1) T .nilIface .nilIface).run P w = .ok true w := by
 unfold Op.equalIn
 simp [run_underlying hu]
theorem Qzu {T : TypeId} {ms : Array (String × TypeId)} (hu : P.underlying T = some (.interface ms)) (w : World) : (Op.equal T .nilIface .nilIface).run P w = .ok true w := Qt3 hu 9999 w
theorem QP1 {T : TypeId} {ms : Array (String × TypeId)} (hu : P.underlying T = some (.interface ms)) (t : TypeId) (v : Value) (xo yo : Operand) : Qbr P .neq T xo yo (.iface t v) .nilIface w KV = KV (.bool true) := by
 refine Qlq fun w' => ?_
 simp only [Sem.run_bind]
 rw [Qfo ⟨by simp, by simp⟩]
 simp only [Result.andThen_ok, binOp, Sem.run_bind, QCt hu, Sem.run_pure]
 rfl
theorem QMf {T : TypeId} {ms : Array (String × TypeId)} (hu : P.underlying T = some (.interface ms)) (xo : Operand) (c : Value) : Qbr P .neq T xo (.const c) .nilIface .nilIface w KV = KV (.bool false) := by
 refine Qlq fun w' => ?_
 have hg : (eqGuard .neq T xo (.const c) .nilIface .nilIface).run P w' = .ok () w' := by
  unfold eqGuard
  simp
 simp only [Sem.run_bind]
 rw [hg]
 simp only [Result.andThen_ok, binOp, Sem.run_bind, Qzu hu, Sem.run_pure]
 rfl
end
end Go.Eng
namespace Go.Proofs.YtfphmlhgebpojaaGreat
open Go Go.Eng
abbrev QCu (e : Int) : Value := .iface 141 (.agg #[.int .i64 e])
abbrev Qt4 (e : Int) : List PanicEntry := [{ v := QCu e, recovered := false }]
theorem Qkk (b : Bool) (w : World) : DoesP Tryz.prog 99 #[.bool b] w (fun _ w' => w' = w /\ b = true) (fun c w' => w' = w /\ b = false /\ c = Qt4 120) := by
 refine Qju (args := [.bool b]) 6 Tryz.func99 rfl rfl (of_decide_eq_true rfl) ?_
 simp only [Env.ofArgs]
 (repeat with_reducible refine Qco ?_);refine Qcm [3] (by kernel_rfl) fun K hK => ?_;simp only [go_sem,↓reduceIte,reduceEqDiff]
 (refine hK _ _ ?_;clear hK)
 refine Qij rfl rfl (fun h => ?_) (fun h => ?_)
 ·
  (repeat with_reducible refine Qco ?_);refine Qfi [] [2] (by kernel_rfl) fun K hK => ?_;simp only [go_sem, List.take_succ_cons, List.take_zero, List.drop_succ_cons, List.drop_zero,↓reduceIte,reduceEqDiff]
  refine Qjv ?_
  simp only [go_sem,↓reduceIte,reduceEqDiff]
  exact ⟨⟨_, _, rfl⟩, QFs ⟨rfl, by simpa using h, rfl⟩⟩
 ·
  refine Qn0 (QCr (nil0 (Qf5 rfl ⟨rfl, by simpa using h⟩)))
theorem Qfy (g gs gr at_ n : Nat) (s : List UInt8) (w : World) (hn : n <= 64) (ha : at_ <= 8 * s.length) (hs : s.length <= 1000000000000000)
  (hL : Heap w (rd g gs s at_).foot w [rd g gs s at_]) (hc : w.cell? ⟨gr, 0, none⟩ = some (.pointer (some ⟨g, 0, none⟩))) :
  DoesP Tryz.prog 98 #[.int .i64 n, .pointer (some ⟨gr, 0, none⟩)] w
   (fun v w' => at_ + n <= 8 * s.length /\ Heap w (rd g gs s at_).foot w' [rd g gs s (at_ + n)] /\ v = .int .u64 (numB (((Qas s).drop at_).take n)))
   (fun c w' => w' = w /\ 8 * s.length < at_ + n /\ c = Qt4 10) := by
 refine Qju (args := [.int .i64 n, .pointer (some ⟨gr, 0, none⟩)]) 18 Tryz.func98 rfl rfl (of_decide_eq_true rfl) ?_
 simp only [Env.ofArgs]
 (repeat with_reducible refine Qco ?_);refine Qcm [0, 1] (by kernel_rfl) fun K hK => ?_;simp only [go_sem,↓reduceIte,reduceEqDiff]
 (refine hK _ _ ?_;clear hK)
 (repeat with_reducible refine Qco ?_);refine Qcm [4, 5] (by kernel_rfl) fun K hK => ?_;simp only [go_sem,↓reduceIte,reduceEqDiff]
 refine ⟨_, hc, ?_⟩
 refine Qag Tryz.call87 ?_;simp only [go_sem,↓reduceIte,reduceEqDiff];refine CallK.mk (Qes g gs s at_ n w hn ha hs hL) ?_
 rintro v w2 (⟨h1, rfl, rfl⟩ | ⟨h1, hH, rfl⟩)
 ·
  skip
  (refine hK _ _ ?_;clear hK)
  (repeat with_reducible refine Qco ?_);refine Qcm [4, 5, 13] (by kernel_rfl) fun K hK => ?_;simp only [go_sem,↓reduceIte,reduceEqDiff]
  (refine hK _ _ ?_;clear hK)
  (repeat with_reducible refine Qco ?_)
  refine Qij rfl rfl (fun h => ?_) (fun h => by simp at h)
  (repeat with_reducible refine Qco ?_);refine Qfi [] [3] (by kernel_rfl) fun K hK => ?_;simp only [go_sem, List.take_succ_cons, List.take_zero, List.drop_succ_cons, List.drop_zero,↓reduceIte,reduceEqDiff]
  refine Qjv ?_
  simp only [go_sem,↓reduceIte,reduceEqDiff]
  exact ⟨⟨_, _, rfl⟩, QFs ⟨rfl, h1, rfl⟩⟩
 ·
  skip
  (refine hK _ _ ?_;clear hK)
  (repeat with_reducible refine Qco ?_);refine Qcm [4, 5, 13] (by kernel_rfl) fun K hK => ?_;simp only [go_sem,↓reduceIte,reduceEqDiff]
  (refine hK _ _ ?_;clear hK)
  (repeat with_reducible refine Qco ?_)
  refine Qij rfl rfl (fun h => by simp at h) (fun h => Qn0 ?_)
  (repeat with_reducible refine Qco ?_);refine Qcm [3] (by kernel_rfl) fun K hK => ?_;simp only [go_sem,↓reduceIte,reduceEqDiff]
  (refine hK _ _ ?_;clear hK)
  exact QFr (ret0 (Qax rfl rfl ⟨h1, hH, rfl⟩))
set_option maxHeartbeats 2000000
abbrev pt (g : Nat) : Value := .pointer (some ⟨g, 0, none⟩)
abbrev Qll (gA gB gC gD : Nat) (sum row to e : Value) : Res := Res.bag [Res.blk gA 31 [sum], Res.blk gB 3 [row], Res.blk gC 3 [to], Res.blk gD 25 [e]]
theorem Qop (gA gB gC gD : Nat) (w : World) : ∀ n, CallsDIn Fence.wide 0 Tryz.prog 97 #[pt gA, pt gB, pt gC, pt gD] .returning (w.drewN n) (fun e2 u2 w' => (∃ x, e2 = .returned x) /\ u2 = .returning /\ ∃ w1 m, w' = w1.drewN m /\ w1 = w) := by
 refine Qps (args := [pt gA, pt gB, pt gC, pt gD]) (v := .nilIface) (N := 20) Tryz.func97 rfl rfl rfl (by simp) (of_decide_eq_true rfl) (of_decide_eq_true rfl) (.inl ⟨rfl, rfl, rfl⟩) ?_
 simp only [Env.ofArgs]
 (repeat with_reducible refine Qco ?_);refine Qcm [0, 1, 2, 3, 4, 9] (by kernel_rfl) fun K hK => ?_;simp only [go_sem,↓reduceIte,reduceEqDiff]
 rw [QMf (P := Tryz.prog) (T := 20) (ms := #[]) rfl]
 (refine hK _ _ ?_;clear hK)
 refine Qij rfl rfl (fun h => by simp at h) (fun h => Qn0 (QCr fun a n ha => ⟨.inl rfl, ha.defers, w, n, rfl, rfl⟩))
theorem Qt5 (e : Int) (gA gB gC gD : Nat) (a b c d : Value) (w : World) (hB : Heap w (Qll gA gB gC gD a b c d).foot w [Qll gA gB gC gD a b c d]) :
  ∀ n, CallsDIn Fence.wide 0 Tryz.prog 97 #[pt gA, pt gB, pt gC, pt gD] (.panicking (Qt4 e)) (w.drewN n) (fun e2 u2 w' => (∃ x, e2 = .returned x) /\ u2 = .panicking [{ v := QCu e, recovered := true }] /\
   ∃ w1 m, w' = w1.drewN m /\ Heap w (Qll gA gB gC gD a b c d).foot w1 [Qll gA gB gC gD (.int .u32 0) (.int .i64 0) (.int .i64 0) (.int .i64 e)]) := by
 refine Qps (args := [pt gA, pt gB, pt gC, pt gD]) (v := QCu e) (N := 20) Tryz.func97 rfl rfl rfl (by simp) (of_decide_eq_true rfl) (of_decide_eq_true rfl) (.inr ⟨rfl, rfl⟩) ?_
 simp only [Env.ofArgs]
 (repeat with_reducible refine Qco ?_);refine Qcm [0, 1, 2, 3, 4, 9] (by kernel_rfl) fun K hK => ?_;simp only [go_sem,↓reduceIte,reduceEqDiff]
 rw [QP1 (P := Tryz.prog) (T := 20) (ms := #[]) rfl]
 (refine hK _ _ ?_;clear hK)
 refine Qij rfl rfl (fun h => ?_) (fun h => by simp at h)
 (repeat with_reducible refine Qco ?_);refine Qcm [0, 1, 2, 3, 4, 5, 6] (by kernel_rfl) fun K hK => ?_;simp only [go_sem,↓reduceIte,reduceEqDiff]
 refine Qwe ?_
 simp only [go_sem,↓reduceIte,reduceEqDiff]
 refine ⟨_, rfl, by kernel_rfl, ?_⟩
 refine Qat (.agg #[.int .i64 0]) (by kernel_rfl) ?_
 simp only [go_sem,↓reduceIte,reduceEqDiff]
 have hH := hB.box 141 [.int .i64 0]
 generalize w.alloc (Obj.cells [Value.int IntKind.i64 0].toArray 141) = w1 at *
 generalize w.heap.size = g5 at *
 refine Qae ?_
 simp only [go_sem,↓reduceIte,reduceEqDiff]
 refine Qal hH 0 (vs := [.int .i64 e]) rfl rfl (by kernel_rfl) (by simp) (by simp [Value.oneCell']) fun w2 hH2 => ?_
 simp only [List.set_cons_zero, List.set_cons_succ] at hH2
 (refine hK _ _ ?_;clear hK)
 clear hH
 (repeat with_reducible refine Qco ?_)
 (repeat with_reducible refine Qco ?_);refine Qcm [0, 1, 2, 3, 5, 16] (by kernel_rfl) fun K hK => ?_;simp only [go_sem,↓reduceIte,reduceEqDiff]
 (refine hK _ _ ?_;clear hK)
 (repeat with_reducible refine Qco ?_)
 refine Qij rfl rfl (fun h => by simp at h) (fun h => Qn0 ?_)
 have hH3 := hH2.perm (.swap _ _ _)
 have hF := (hH3.focus 0 rfl).unbag
 simp only [List.append_nil] at hF
 (repeat with_reducible refine Qco ?_);refine Qpr (holes (Qll gA gB gC gD a b c d).foot w2) (Ext.hole _ _) [] [(0, true), (1, true), (2, false), (3, false), (4, false), (5, false)] (by kernel_rfl) (by kernel_rfl) (by kernel_rfl) (by simp only [Qay, List.filterMap_cons, List.filterMap_nil, List.getElem?_cons_succ, List.getElem?_cons_zero, Option.map_some];rfl) fun K hK => ?_;simp only [go_sem,↓reduceIte,reduceEqDiff]
 refine ⟨_, hH3.hole_at 0 1 rfl rfl (by omega) rfl, ?_⟩
 refine Qae ?_
 simp only [go_sem,↓reduceIte,reduceEqDiff]
 refine Qal hF 0 (vs := [.int .u32 0]) rfl rfl (by kernel_rfl) (by simp) (by simp [Value.oneCell']) fun w3 hF1 => ?_
 simp only [List.set_cons_zero, List.set_cons_succ] at hF1
 refine ⟨hF1.upd.extH, ?_⟩
 refine Qae ?_
 simp only [go_sem,↓reduceIte,reduceEqDiff]
 refine Qal hF1 1 (vs := [.int .i64 0]) rfl rfl (by kernel_rfl) (by simp) (by simp [Value.oneCell']) fun w4 hF2 => ?_
 simp only [List.set_cons_zero, List.set_cons_succ] at hF2
 refine ⟨hF2.upd.extH, ?_⟩
 refine Qae ?_
 simp only [go_sem,↓reduceIte,reduceEqDiff]
 refine Qal hF2 2 (vs := [.int .i64 0]) rfl rfl (by kernel_rfl) (by simp) (by simp [Value.oneCell']) fun w5 hF3 => ?_
 simp only [List.set_cons_zero, List.set_cons_succ] at hF3
 refine ⟨hF3.upd.extH, ?_⟩
 refine Qae ?_
 simp only [go_sem,↓reduceIte,reduceEqDiff]
 refine Qal hF3 3 (vs := [.int .i64 e]) rfl rfl (by kernel_rfl) (by simp) (by simp [Value.oneCell']) fun w6 hF4 => ?_
 simp only [List.set_cons_zero, List.set_cons_succ] at hF4
 refine ⟨hF4.upd.extH, ?_⟩
 (refine hK _ _ ?_;clear hK)
 have hF5 := Heap.bag (G := []) [Res.blk gA 31 [.int .u32 0], Res.blk gB 3 [.int .i64 0], Res.blk gC 3 [.int .i64 0], Res.blk gD 25 [.int .i64 e]] (by simpa using hF4)
 have hH4 := hH3.call1 0 rfl hF5
 simp only [List.nil_append, List.set_cons_zero] at hH4
 exact QCr fun a n ha => ⟨.inl rfl, ha.defers, w6, n, rfl, hH4.sub (.cons_cons _ (.cons _ (.refl _)))⟩
set_option maxHeartbeats 4000000
def hdS (l : List Bool) (a : Nat) : Nat × Nat × Nat × Nat :=
 if l.length < a + 48 then (0, 0, 0, 10)
 else if numB ((l.drop a).take 48) ≠ 54156738319193 then (0, 0, 0, 120)
 else if l.length < a + 80 then (0, 0, 0, 10)
 else if l.length < a + 81 then (0, 0, 0, 10)
 else if numB ((l.drop (a + 80)).take 1) ≠ 0 then (0, 0, 0, 120)
 else if l.length < a + 105 then (0, 0, 0, 10)
 else (numB ((l.drop (a + 48)).take 32), numB ((l.drop (a + 81)).take 24), a + 105, 0)
def hdV (x : Nat × Nat × Nat × Nat) : Value := .tuple #[.int .u32 x.1, .int .i64 x.2.1, .int .i64 x.2.2.1, .int .i64 x.2.2.2]
theorem QFd {C : Ctx} {e : Env} {w : World} {t u s r : Tmp} {T U S R : TypeId} {a b c d : Addr} (hr : C.fn.results = #[.cell t T, .cell u U, .cell s S, .cell r R]) (ht : e.find? t = some (.pointer (some a))) (hu : e.find? u = some (.pointer (some b))) (hs : e.find? s = some (.pointer (some c))) (hq : e.find? r = some (.pointer (some d)))
  (h : Qb0 C.P T (.pointer (some a)) w fun v => Qb0 C.P U (.pointer (some b)) w fun x => Qb0 C.P S (.pointer (some c)) w fun y => Qb0 C.P R (.pointer (some d)) w fun z => C.F (.tuple #[v, x, y, z]) w) : VX C [] .ret e w := by
 intro ac n ha
 obtain ⟨v, hv, r1⟩ := Qd3 h
 obtain ⟨x, hv, r2⟩ := Qd3 hv
 obtain ⟨y, hv, r3⟩ := Qd3 hv
 obtain ⟨z, hv, r4⟩ := Qd3 hv
 refine ⟨ha.defers, .tuple #[v, x, y, z], ?_, _, w, n, rfl, rfl, hv⟩
 have h1 := ha.at_ t _ ht
 rw [Array.getD_eq_getD_getElem?] at h1
 have h2 := ha.at_ u _ hu
 rw [Array.getD_eq_getD_getElem?] at h2
 have h3 := ha.at_ s _ hs
 rw [Array.getD_eq_getD_getElem?] at h3
 have h4 := ha.at_ r _ hq
 rw [Array.getD_eq_getD_getElem?] at h4
 have q1 := r1 (w.drewN n) (Ext.drewN w n)
 have q2 := r2 (w.drewN n) (Ext.drewN w n)
 have q3 := r3 (w.drewN n) (Ext.drewN w n)
 have q4 := r4 (w.drewN n) (Ext.drewN w n)
 simp [results, hr, h1, h2, h3, h4, asAddr, q1, q2, q3, q4]
theorem Qiz {P : Program} {T : TypeId} {g T' : Nat} {v : Value} {w : World} {K : Value -> Prop} (h : (Res.blk g T' [v]).holds w) (hd : Qft (P.underlying T) = false) (hs : (P.underlying T).isSome = true) (hk : K v) : Qb0 P T (.pointer (some ⟨g, 0, none⟩)) w K := by
 have hc : w.cell? ⟨g, 0, none⟩ = some v := Qac h rfl
 unfold Qb0
 cases hu : P.underlying T with
 | none => simp [hu] at hs
 | some d =>
  cases d <;> first
   | (exfalso;simp [Qft, hu] at hd;done)
   | exact ⟨v, hc, hk⟩
theorem Qxj {w w1 : World} {N g4 g5 g6 g7 : Nat} {v x y z : Value} {G : List Res} {F : Value -> World -> Prop} (hH : Heap w [] w1 (Qll g4 g5 g6 g7 v x y z :: G)) (hF : F (.tuple #[v, x, y, z]) w1) :
  VX ⟨Tryz.prog, Tryz.f45, F, N⟩ [] .ret [(4, pt g4), (5, pt g5), (6, pt g6), (7, pt g7)] w1 := by
 have hU := hH.unbag
 refine QFd rfl rfl rfl rfl rfl ?_
 refine Qiz (hU.at 0 rfl) (by kernel_rfl) (by kernel_rfl) ?_
 refine Qiz (hU.at 1 rfl) (by kernel_rfl) (by kernel_rfl) ?_
 refine Qiz (hU.at 2 rfl) (by kernel_rfl) (by kernel_rfl) ?_
 exact Qiz (hU.at 3 rfl) (by kernel_rfl) (by kernel_rfl) hF
theorem Qgb {w w1 : World} {N g4 g5 g6 g7 : Nat} {v x y z : Value} {G : List Res} {F : Value -> World -> Prop} (e : Nat) (hH : Heap w [] w1 (Qll g4 g5 g6 g7 v x y z :: G)) (hF : ∀ w', Heap w [] w' [] -> F (hdV (0, 0, 0, e)) w') :
  ∀ a n, FitsG N [{ target := .fn (.func 97) #[pt g4, pt g5, pt g6, pt g7], args := #[] }] [(4, pt g4), (5, pt g5), (6, pt g6), (7, pt g7)] a ->
   Qwb Tryz.prog Tryz.f45 F noPn (.panic (Qt4 e)) a (w1.drewN n) := by
 refine Qt2 (args := #[]) (cs := #[pt g4, pt g5, pt g6, pt g7]) (u := .panicking (Qt4 e)) (R := fun w2 => Heap w1 (Qll g4 g5 g6 g7 v x y z).foot w2 [Qll g4 g5 g6 g7 (.int .u32 0) (.int .i64 0) (.int .i64 0) (.int .i64 e)]) Tryz.call97 (by simp) rfl (fun n => ?_) fun w2 hR => ?_
 ·
  have h := Qt5 e g4 g5 g6 g7 v x y z w1 (hH.focus 0 rfl) n
  obtain ⟨h1, h2⟩ := h
  refine ⟨h1, fun c cs hm hr => ?_⟩
  obtain ⟨e2, u2, w2, fr, ⟨hx, hu, hw⟩, rest⟩ := h2 c cs hm hr
  exact ⟨e2, u2, w2, fr, ⟨hx, by rw [hu];rfl, hw⟩, rest⟩
 ·
  have hH2 := hH.call1 0 rfl hR
  simp only [List.nil_append, List.set_cons_zero] at hH2
  exact Qxj hH2 (hF _ (hH2.sub (List.nil_sublist _)))
theorem QFe {w w1 : World} {N g4 g5 g6 g7 : Nat} {v x y z : Value} {G : List Res} {F : Value -> World -> Prop} (hH : Heap w [] w1 (Qll g4 g5 g6 g7 v x y z :: G)) (hF : F (.tuple #[v, x, y, z]) w1) :
  ∀ a n, FitsG N [{ target := .fn (.func 97) #[pt g4, pt g5, pt g6, pt g7], args := #[] }] [(4, pt g4), (5, pt g5), (6, pt g6), (7, pt g7)] a ->
   Qwb Tryz.prog Tryz.f45 F noPn .ret a (w1.drewN n) := by
 refine Qt2 (args := #[]) (cs := #[pt g4, pt g5, pt g6, pt g7]) (u := .returning) (R := fun w2 => w2 = w1) Tryz.call97 (by simp) rfl (fun n => ?_) fun w2 hR => ?_
 ·
  have h := Qop g4 g5 g6 g7 w1 n
  obtain ⟨h1, h2⟩ := h
  refine ⟨h1, fun c cs hm hr => ?_⟩
  obtain ⟨e2, u2, w2, fr, ⟨hx, hu, hw⟩, rest⟩ := h2 c cs hm hr
  exact ⟨e2, u2, w2, fr, ⟨hx, by rw [hu];rfl, hw⟩, rest⟩
 ·
  subst hR
  exact Qxj hH hF
set_option maxHeartbeats 4000000
theorem Qn2 {P : Program} {w0 w : World} {B : List Nat} {G : List Res} (hH : Heap w0 B w G) (i : Nat) {g : Nat} {T T' : TypeId} {cs : List Value} {v : Value} {C : World -> Prop} (hi : G[i]? = some (Res.blk g T' cs)) (hv : v.cells = cs.toArray) (hsz : P.szo T = some cs.length) (h1 : ∀ u ∈ cs, u.oneCell' = true)
  (h : C w) : Qho P T (.pointer (some ⟨g, 0, none⟩)) v w C := by
 obtain ⟨fz, hg, hfz⟩ := hH.at i hi
 obtain ⟨hlt, hget⟩ := Array.getElem?_eq_some_iff.1 hg
 refine ⟨w, fun n => ?_, h⟩
 rw [Qfr (o := 0) hv hsz hg hfz (by simp) h1 n]
 have hc : cs.take 0 ++ cs ++ cs.drop (0 + cs.length) = cs := by simp
 rw [hc]
 have : Qd9 w g cs T' fz = w := by
  unfold Qd9
  have : w.heap.setIfInBounds g (.cells cs.toArray T' fz) = w.heap := by
   refine Array.ext_getElem? fun i => ?_
   rw [Array.getElem?_setIfInBounds]
   split
   ·
    rename_i hi2;subst hi2;exact hg.symm
   ·
    rfl
  rw [this]
 rw [this]
theorem Qoq (s : List UInt8) (at_ : Int) (w : World) (ha : I64 at_) (hs : s.length <= 1000000000000000) :
  Does Tryz.prog 45 #[Str s, .int .i64 at_] w fun v w' => Heap w [] w' [] /\ v = if at_ < 0 ∨ 8 * (s.length : Int) < at_ then hdV (0, 0, 0, 2) else hdV (hdS (Qas s) at_.toNat) := by
 have hbl := Qbe s
 refine Qwc (args := [Str s, .int .i64 at_]) 40 Tryz.func45 rfl rfl (of_decide_eq_true rfl) ?_
 simp only [Env.ofArgs]
 (repeat with_reducible refine Qco ?_);refine Qcm [0, 1, 4, 5, 6, 7] (by kernel_rfl) fun K hK => ?_;simp only [go_sem,↓reduceIte,reduceEqDiff]
 refine Qat (.int .u32 0) (by kernel_rfl) ?_
 simp only [go_sem,↓reduceIte,reduceEqDiff]
 have hH := (Heap.start w).box 31 [.int .u32 0]
 generalize w.alloc (Obj.cells [Value.int IntKind.u32 0].toArray 31) = w1 at *
 generalize w.heap.size = g4 at *
 refine Qat (.int .i64 0) (by kernel_rfl) ?_
 simp only [go_sem,↓reduceIte,reduceEqDiff]
 have hH2 := hH.box 3 [.int .i64 0]
 generalize w1.alloc (Obj.cells [Value.int IntKind.i64 0].toArray 3) = w2 at *
 generalize w1.heap.size = g5 at *
 refine Qat (.int .i64 0) (by kernel_rfl) ?_
 simp only [go_sem,↓reduceIte,reduceEqDiff]
 have hH3 := hH2.box 3 [.int .i64 0]
 generalize w2.alloc (Obj.cells [Value.int IntKind.i64 0].toArray 3) = w3 at *
 generalize w2.heap.size = g6 at *
 refine Qat (.int .i64 0) (by kernel_rfl) ?_
 simp only [go_sem,↓reduceIte,reduceEqDiff]
 have hH4 := hH3.box 25 [.int .i64 0]
 generalize w3.alloc (Obj.cells [Value.int IntKind.i64 0].toArray 25) = w4 at *
 generalize w3.heap.size = g7 at *
 (refine hK _ _ ?_;clear hK)
 have hHB : Heap w [] w4 [Qll g4 g5 g6 g7 (.int .u32 0) (.int .i64 0) (.int .i64 0) (.int .i64 0)] := Heap.bag (G := []) _ (by
  refine hH4.perm ?_
  exact (List.reverse_perm [_, _, _, _]).symm)
 clear hH hH2 hH3 hH4
 (repeat with_reducible refine Qco ?_);refine Qzt [0, 1, 4, 5, 6, 7] 1 rfl (by kernel_rfl) rfl fun K hK => ?_;simp only [go_sem, List.take_succ_cons, List.take_zero, List.drop_succ_cons, List.drop_zero,↓reduceIte,reduceEqDiff]
 refine ⟨_, _, _, rfl, ?_⟩
 refine hK _ _ _ ?_
 clear hK K
 (repeat with_reducible refine Qco ?_);refine Qcm [4, 5, 6, 7, 8] (by kernel_rfl) fun K hK => ?_;simp only [go_sem,↓reduceIte,reduceEqDiff]
 refine Qag Tryz.call86 ?_;simp only [go_sem,↓reduceIte,reduceEqDiff];refine CallK.mk (Qdr s at_ w4 ha (by omega)) ?_
 rintro v w5 (⟨hbad, hHr, rfl⟩ | ⟨hgood, g, gs, hHr, rfl⟩)
 ·
  have hH5 := hHB.call0 hHr
  simp only [List.nil_append] at hH5
  clear hHB hHr
  refine Qat (.pointer none) (by kernel_rfl) ?_
  simp only [go_sem,↓reduceIte,reduceEqDiff]
  have hH6 := hH5.box 130 [.pointer none]
  generalize w5.alloc (Obj.cells [Value.pointer none].toArray 130) = w6 at *
  generalize w5.heap.size = g8 at *
  refine Qae ?_
  simp only [go_sem,↓reduceIte,reduceEqDiff]
  refine Qal hH6 0 (vs := [.pointer none]) rfl rfl (by kernel_rfl) (by simp) (by simp [Value.oneCell']) fun w7 hH7 => ?_
  simp only [List.set_cons_zero, List.set_cons_succ] at hH7
  (refine hK _ _ ?_;clear hK)
  clear hH5 hH6
  (repeat with_reducible refine Qco ?_);refine Qcm [4, 5, 6, 7, 8, 16] (by kernel_rfl) fun K hK => ?_;simp only [go_sem,↓reduceIte,reduceEqDiff]
  refine ⟨_, Qac (hH7.at 0 rfl) rfl, ?_⟩
  simp only [go_sem,↓reduceIte,reduceEqDiff]
  try rw [Qww (P := Tryz.prog) (T := 130) rfl]
  (refine hK _ _ ?_;clear hK)
  (repeat with_reducible refine Qco ?_)
  refine Qij rfl rfl (fun h => ?_) (fun h => by simp at h)
  (repeat with_reducible refine Qco ?_);refine Qfi [] [2] (by kernel_rfl) fun K hK => ?_;simp only [go_sem, List.take_succ_cons, List.take_zero, List.drop_succ_cons, List.drop_zero,↓reduceIte,reduceEqDiff]
  refine Qjv ?_
  simp only [go_sem,↓reduceIte,reduceEqDiff]
  refine ⟨⟨_, _, rfl⟩, fun a n hf => Qgb 2 (hH7.perm (.swap _ _ _)) ?_ a n (hf.sel [4, 5, 6, 7])⟩
  intro w' hw'
  rw [if_pos hbad]
  exact ⟨hw', rfl⟩
 obtain ⟨at_, rfl⟩ : ∃ n : Nat, at_ = n := ⟨at_.toNat, by omega⟩
 rw [if_neg hgood, Int.toNat_natCast] at *
 have hat : at_ <= 8 * s.length := by omega
 clear hgood ha
 have hH5 := hHB.call0 hHr
 simp only [List.cons_append, List.nil_append] at hH5
 clear hHB hHr
 refine Qat (.pointer none) (by kernel_rfl) ?_
 simp only [go_sem,↓reduceIte,reduceEqDiff]
 have hH6 := hH5.box 130 [.pointer none]
 generalize w5.alloc (Obj.cells [Value.pointer none].toArray 130) = w6 at *
 generalize w5.heap.size = g8 at *
 refine Qae ?_
 simp only [go_sem,↓reduceIte,reduceEqDiff]
 refine Qal hH6 0 (vs := [pt g]) rfl rfl (by kernel_rfl) (by simp) (by simp [Value.oneCell']) fun w7 hH7 => ?_
 simp only [List.set_cons_zero, List.set_cons_succ] at hH7
 (refine hK _ _ ?_;clear hK)
 clear hH5 hH6
 (repeat with_reducible refine Qco ?_);refine Qcm [4, 5, 6, 7, 8, 16] (by kernel_rfl) fun K hK => ?_;simp only [go_sem,↓reduceIte,reduceEqDiff]
 refine ⟨_, Qac (hH7.at 0 rfl) rfl, ?_⟩
 simp only [go_sem,↓reduceIte,reduceEqDiff]
 try rw [Qww (P := Tryz.prog) (T := 130) rfl]
 (refine hK _ _ ?_;clear hK)
 (repeat with_reducible refine Qco ?_)
 refine Qij rfl rfl (fun h => by simp at h) (fun h => Qn0 ?_)
 (repeat with_reducible refine Qco ?_);refine Qcm [4, 5, 6, 7, 8, 9] (by kernel_rfl) fun K hK => ?_;simp only [go_sem,↓reduceIte,reduceEqDiff]
 (refine hK _ _ ?_;clear hK)
 (repeat with_reducible refine Qco ?_);refine Qcm [4, 5, 6, 7, 8, 9, 10] (by kernel_rfl) fun K hK => ?_;simp only [go_sem,↓reduceIte,reduceEqDiff]
 (refine hK _ _ ?_;clear hK)
 (repeat with_reducible refine Qco ?_);refine Qfi [4, 5, 6, 7, 8, 9, 10] [2, 1] (by kernel_rfl) fun K hK => ?_;simp only [go_sem, List.take_succ_cons, List.take_zero, List.drop_succ_cons, List.drop_zero,↓reduceIte,reduceEqDiff]
 refine Qfj ?_
 simp only [go_sem,↓reduceIte,reduceEqDiff]
 refine CallP.mk Tryz.call98 (Qfy g gs g8 at_ 48 s w7 (by omega) hat hs (hH7.focus 1 rfl) (Qac (hH7.at 0 rfl) rfl)) ?_ ?_
 case' refine_2 =>
  rintro c w8 ⟨rfl, h1, rfl⟩ a n hf
  refine Qgb 10 (hH7.perm (List.reverse_perm [_, _, _]).symm) ?_ a n (hf.sel [4, 5, 6, 7])
  intro w' hw'
  have : hdS (Qas s) at_ = (0, 0, 0, 10) := by rw [hdS, if_pos (by omega)]
  rw [this]
  exact ⟨hw', rfl⟩
 rintro v w8 ⟨h1, hHt, rfl⟩
 have hH8 := hH7.call1 1 rfl hHt
 simp only [List.nil_append, List.set_cons_zero, List.set_cons_succ] at hH8
 clear hH7 hHt
 generalize hm : numB (((Qas s).drop at_).take 48) = mg at *
 simp only [go_sem, List.take_succ_cons, List.take_zero, List.drop_succ_cons, List.drop_zero,↓reduceIte,reduceEqDiff]
 refine Qfj ?_
 simp only [go_sem,↓reduceIte,reduceEqDiff]
 refine CallP.mk Tryz.call99 (Qkk (decide ((mg : Int) = 54156738319193)) w8) ?_ ?_
 case' refine_2 =>
  rintro c w9 ⟨rfl, h2, rfl⟩ a n hf
  simp only [decide_eq_false_iff_not] at h2
  refine Qgb 120 (hH8.perm (List.reverse_perm [_, _, _]).symm) ?_ a n (hf.sel [4, 5, 6, 7])
  intro w' hw'
  have : hdS (Qas s) at_ = (0, 0, 0, 120) := by rw [hdS, if_neg (by omega), if_pos (by rw [hm];omega)]
  rw [this]
  exact ⟨hw', rfl⟩
 rintro v w9 ⟨rfl, h2⟩
 simp only [decide_eq_true_eq] at h2
 obtain rfl : mg = 54156738319193 := by omega
 clear h2
 have hS : hdS (Qas s) at_ = if (Qas s).length < at_ + 80 then (0, 0, 0, 10)
   else if (Qas s).length < at_ + 81 then (0, 0, 0, 10)
   else if numB (((Qas s).drop (at_ + 80)).take 1) ≠ 0 then (0, 0, 0, 120)
   else if (Qas s).length < at_ + 105 then (0, 0, 0, 10)
   else (numB (((Qas s).drop (at_ + 48)).take 32), numB (((Qas s).drop (at_ + 81)).take 24), at_ + 105, 0) := by
  rw [hdS, if_neg (by omega), if_neg (by rw [hm];omega)]
 (refine hK _ _ ?_;clear hK)
 rw [hS]
 clear hS hm
 (repeat with_reducible refine Qco ?_);refine Qfi [4, 5, 6, 7, 8, 9, 10] [1] (by kernel_rfl) fun K hK => ?_;simp only [go_sem, List.take_succ_cons, List.take_zero, List.drop_succ_cons, List.drop_zero,↓reduceIte,reduceEqDiff]
 refine Qfj ?_
 simp only [go_sem,↓reduceIte,reduceEqDiff]
 refine CallP.mk Tryz.call98 (Qfy g gs g8 (at_ + 48) 32 s w9 (by omega) (by omega) hs (hH8.focus 1 rfl) (Qac (hH8.at 0 rfl) rfl)) ?_ ?_
 case' refine_2 =>
  rintro c w8 ⟨rfl, h1, rfl⟩ a n hf
  refine Qgb 10 (hH8.perm (List.reverse_perm [_, _, _]).symm) ?_ a n (hf.sel [4, 5, 6, 7])
  intro w' hw'
  rw [if_pos (by omega)]
  exact ⟨hw', rfl⟩
 rintro v w10 ⟨h2, hHt, rfl⟩
 have hH9 := hH8.call1 1 rfl hHt
 simp only [List.nil_append, List.set_cons_zero, List.set_cons_succ] at hH9
 clear hH8 hHt
 have hlt := Qe1 (((Qas s).drop (at_ + 48)).take 32)
 have hlt2 := Nat.pow_le_pow_right (show 0 < 2 by omega) (show (((Qas s).drop (at_ + 48)).take 32).length <= 32 by rw [List.length_take];omega)
 generalize hsum : numB (((Qas s).drop (at_ + 48)).take 32) = sum at *
 have hHA := hH9.perm (List.reverse_perm [_, _, _]).symm
 simp only [List.reverse_cons, List.reverse_nil, List.nil_append, List.cons_append] at hHA
 have hHA := hHA.unbag
 simp only [List.cons_append, List.nil_append] at hHA
 simp only [go_sem, List.take_succ_cons, List.take_zero, List.drop_succ_cons, List.drop_zero,↓reduceIte,reduceEqDiff]
 rw [show ((sum : Int) % 4294967296) = sum by omega]
 refine Qae ?_
 simp only [go_sem,↓reduceIte,reduceEqDiff]
 refine Qal hHA 0 (vs := [.int .u32 (sum : Nat)]) rfl rfl (by kernel_rfl) (by simp) (by simp [Value.oneCell']) fun w11 hHC => ?_
 simp only [List.set_cons_zero, List.set_cons_succ] at hHC
 (refine hK _ _ ?_;clear hK)
 rw [if_neg (by omega)]
 have hHD : Heap w [] w11 (Qll g4 g5 g6 g7 (.int .u32 sum) (.int .i64 0) (.int .i64 0) (.int .i64 0) :: rd g gs s (at_ + 48 + 32) :: [Res.blk g8 130 [pt g]]) := Heap.bag _ hHC
 clear hHC hHA hH9
 (repeat with_reducible refine Qco ?_);refine Qfi [4, 5, 6, 7, 8, 9] [2, 1] (by kernel_rfl) fun K hK => ?_;simp only [go_sem, List.take_succ_cons, List.take_zero, List.drop_succ_cons, List.drop_zero,↓reduceIte,reduceEqDiff]
 refine Qfj ?_
 simp only [go_sem,↓reduceIte,reduceEqDiff]
 refine CallP.mk Tryz.call98 (Qfy g gs g8 (at_ + 48 + 32) 1 s w11 (by omega) (by omega) hs (hHD.focus 1 rfl) (Qac (hHD.at 2 rfl) rfl)) ?_ ?_
 case' refine_2 =>
  rintro c w8 ⟨rfl, h1, rfl⟩ a n hf
  refine Qgb 10 hHD ?_ a n (hf.sel [4, 5, 6, 7])
  intro w' hw'
  rw [if_pos (by omega)]
  exact ⟨hw', rfl⟩
 rintro v w12 ⟨h3, hHt, rfl⟩
 have hHE := hHD.call1 1 rfl hHt
 simp only [List.nil_append, List.set_cons_zero, List.set_cons_succ] at hHE
 clear hHD hHt
 rw [show at_ + 48 + 32 = at_ + 80 by omega] at hHE h3 ⊢
 generalize hbt : numB (((Qas s).drop (at_ + 80)).take 1) = bt at *
 simp only [go_sem, List.take_succ_cons, List.take_zero, List.drop_succ_cons, List.drop_zero,↓reduceIte,reduceEqDiff]
 refine Qfj ?_
 simp only [go_sem,↓reduceIte,reduceEqDiff]
 refine CallP.mk Tryz.call99 (Qkk (decide ((bt : Int) = 0)) w12) ?_ ?_
 case' refine_2 =>
  rintro c w9 ⟨rfl, h2, rfl⟩ a n hf
  simp only [decide_eq_false_iff_not] at h2
  refine Qgb 120 hHE ?_ a n (hf.sel [4, 5, 6, 7])
  intro w' hw'
  rw [if_neg (by omega), if_pos (by omega)]
  exact ⟨hw', rfl⟩
 rintro v w13 ⟨rfl, h4⟩
 simp only [decide_eq_true_eq] at h4
 obtain rfl : bt = 0 := by omega
 (refine hK _ _ ?_;clear hK)
 rw [if_neg (by omega), if_neg (by simp)]
 (repeat with_reducible refine Qco ?_);refine Qfi [4, 5, 6, 7, 8] [1] (by kernel_rfl) fun K hK => ?_;simp only [go_sem, List.take_succ_cons, List.take_zero, List.drop_succ_cons, List.drop_zero,↓reduceIte,reduceEqDiff]
 refine Qfj ?_
 simp only [go_sem,↓reduceIte,reduceEqDiff]
 refine CallP.mk Tryz.call98 (Qfy g gs g8 (at_ + 80 + 1) 24 s w13 (by omega) (by omega) hs (hHE.focus 1 rfl) (Qac (hHE.at 2 rfl) rfl)) ?_ ?_
 case' refine_2 =>
  rintro c w8 ⟨rfl, h1, rfl⟩ a n hf
  refine Qgb 10 hHE ?_ a n (hf.sel [4, 5, 6, 7])
  intro w' hw'
  rw [if_pos (by omega)]
  exact ⟨hw', rfl⟩
 rintro v w14 ⟨h5, hHt, rfl⟩
 have hHG := hHE.call1 1 rfl hHt
 simp only [List.nil_append, List.set_cons_zero, List.set_cons_succ] at hHG
 clear hHE hHt hbt h4
 rw [show at_ + 80 + 1 = at_ + 81 by omega] at hHG h5 ⊢
 have hlt3 := Qe1 (((Qas s).drop (at_ + 81)).take 24)
 have hlt4 := Nat.pow_le_pow_right (show 0 < 2 by omega) (show (((Qas s).drop (at_ + 81)).take 24).length <= 24 by rw [List.length_take];omega)
 generalize hrow : numB (((Qas s).drop (at_ + 81)).take 24) = row at *
 have hHI := hHG.unbag
 simp only [List.cons_append, List.nil_append] at hHI
 simp only [go_sem, List.take_succ_cons, List.take_zero, List.drop_succ_cons, List.drop_zero,↓reduceIte,reduceEqDiff]
 refine ⟨I64.mk (by omega) (by omega), ?_⟩
 refine Qae ?_
 simp only [go_sem,↓reduceIte,reduceEqDiff]
 refine Qal hHI 1 (vs := [.int .i64 (row : Nat)]) rfl rfl (by kernel_rfl) (by simp) (by simp [Value.oneCell']) fun w15 hHJ => ?_
 simp only [List.set_cons_zero, List.set_cons_succ] at hHJ
 (refine hK _ _ ?_;clear hK)
 rw [if_neg (by omega)]
 clear hHI hHG
 have hHM : Heap w [] w15 (Res.bag [Res.blk g7 25 [.int .i64 0], Res.blk g6 3 [.int .i64 0]] :: [Res.blk g4 31 [.int .u32 (sum : Nat)], Res.blk g5 3 [.int .i64 (row : Nat)], rd g gs s (at_ + 81 + 24), Res.blk g8 130 [pt g]]) :=
  Heap.bag [_, _] ((hHJ.front 2 rfl).front 3 rfl)
 clear hHJ
 have hF := (hHM.focus 0 rfl).unbag
 simp only [List.append_nil] at hF
 (repeat with_reducible refine Qco ?_);refine Qpr (holes (Res.bag [Res.blk g7 25 [.int .i64 0], Res.blk g6 3 [.int .i64 0]]).foot w15) (Ext.hole _ _) [4, 5, 6, 7] [(0, true), (1, true), (2, true), (3, false), (4, false), (5, false), (6, false), (7, false)] (by kernel_rfl) (by kernel_rfl) (by kernel_rfl) (by simp only [Qay, List.filterMap_cons, List.filterMap_nil, List.getElem?_cons_succ, List.getElem?_cons_zero, Option.map_some];rfl) fun K hK => ?_;simp only [go_sem,↓reduceIte,reduceEqDiff]
 refine ⟨_, hHM.hole_at 0 1 rfl rfl (by omega) rfl, ?_⟩
 refine ⟨_, hHM.hole_at 0 2 rfl rfl (by omega) rfl, ?_⟩
 refine ⟨_, hHM.hole_at 0 4 rfl rfl (by omega) rfl, ?_⟩
 refine Qag Tryz.call100 ?_;simp only [go_sem,↓reduceIte,reduceEqDiff];refine CallK.mk (Qnf g gs (at_ + 81 + 24) s w15 (hHM.at 3 rfl)) ?_
 rintro v w16 ⟨rfl, rfl⟩
 refine ⟨Ext.hole _ _, ?_⟩
 refine Qae ?_
 simp only [go_sem,↓reduceIte,reduceEqDiff]
 refine Qn2 hHM 1 (cs := [.int .u32 (sum : Nat)]) rfl rfl (by kernel_rfl) (by simp [Value.oneCell']) ?_
 refine ⟨Ext.hole _ _, ?_⟩
 refine Qae ?_
 simp only [go_sem,↓reduceIte,reduceEqDiff]
 refine Qn2 hHM 2 (cs := [.int .i64 (row : Nat)]) rfl rfl (by kernel_rfl) (by simp [Value.oneCell']) ?_
 refine ⟨Ext.hole _ _, ?_⟩
 refine Qae ?_
 simp only [go_sem,↓reduceIte,reduceEqDiff]
 refine Qal hF 1 (vs := [.int .i64 (at_ + 81 + 24 : Nat)]) rfl rfl (by kernel_rfl) (by simp) (by simp [Value.oneCell']) fun w17 hF1 => ?_
 simp only [List.set_cons_zero, List.set_cons_succ] at hF1
 refine ⟨hF1.upd.extH, ?_⟩
 refine Qae ?_
 simp only [go_sem,↓reduceIte,reduceEqDiff]
 refine Qal hF1 0 (vs := [.int .i64 0]) rfl rfl (by kernel_rfl) (by simp) (by simp [Value.oneCell']) fun w18 hF2 => ?_
 simp only [List.set_cons_zero, List.set_cons_succ] at hF2
 refine ⟨hF2.upd.extH, ?_⟩
 (refine hK _ _ ?_;clear hK)
 have hF3 : Heap w16 (Res.bag [Res.blk g7 25 [.int .i64 0], Res.blk g6 3 [.int .i64 0]]).foot w18 [Res.bag [Res.blk g7 25 [.int .i64 0], Res.blk g6 3 [.int .i64 (at_ + 81 + 24 : Nat)]]] := Heap.bag [_, _] hF2
 have hHN := (hHM.call1 0 rfl hF3).unbag
 simp only [List.nil_append, List.set_cons_zero, List.cons_append] at hHN
 have hHO : Heap w [] w18 (Qll g4 g5 g6 g7 (.int .u32 (sum : Nat)) (.int .i64 (row : Nat)) (.int .i64 (at_ + 81 + 24 : Nat)) (.int .i64 0) :: [rd g gs s (at_ + 81 + 24), Res.blk g8 130 [pt g]]) :=
  Heap.bag [_, _, _, _] ((((hHN.front 0 rfl).front 1 rfl).front 3 rfl).front 3 rfl)
 refine QFr fun a n hf => QFe hHO ?_ a n hf
 refine ⟨hHO.sub (List.nil_sublist _), ?_⟩
 rw [show at_ + 81 + 24 = at_ + 105 by omega]
 rfl
set_option maxHeartbeats 4000000
def Qn3 (bits : List Bool) (at_ : Nat) (most : Int) : Except Int (List UInt8 × Nat × Nat) :=
 if (hdS bits at_).2.2.2 ≠ 0 then .error (hdS bits at_).2.2.2 else
 match Qe8 bits (hdS bits at_).2.2.1 with
 | .error e => .error e
 | .ok u => match Qef bits u.2 (u.1.length + 2) with
  | .error e => .error e
  | .ok p => match Qgn p.1.1 bits ((p.1.1.getD 0 []).length - 1) p.1.2 p.2 with
   | .error e => .error e
   | .ok q =>
    if (unpS u.1 q.1 (hdS bits at_).2.1 most).2 ≠ 0 then .error (unpS u.1 q.1 (hdS bits at_).2.1 most).2
    else if Qd6 (unpS u.1 q.1 (hdS bits at_).2.1 most).1 ≠ (hdS bits at_).1 then .error 121
    else .ok ((unpS u.1 q.1 (hdS bits at_).2.1 most).1, (hdS bits at_).1, q.2)
def Qn4 (s : List UInt8) (at_ most : Int) : Except Int (List UInt8 × Nat × Nat) :=
 if most < 1 ∨ 262144 < most ∨ at_ < 0 ∨ 8 * (s.length : Int) < at_ then .error 2 else Qn3 (Qas s) at_.toNat most
def QJf (r : Except Int (List UInt8 × Nat × Nat)) : Value := match r with
 | .ok r => .tuple #[Str r.1, .int .u32 r.2.1, .int .i64 r.2.2, .int .i64 0]
 | .error e => .tuple #[Str [], .int .u32 0, .int .i64 0, .int .i64 e]
theorem QMg (l : List Bool) (a : Nat) : ((hdS l a).2.2.2 = 0 /\ a + 105 <= l.length /\ (hdS l a).2.2.1 = a + 105 /\ (hdS l a).1 < 4294967296 /\ (hdS l a).2.1 < 16777216) ∨ ((hdS l a).2.2.2 = 10 ∨ (hdS l a).2.2.2 = 120) := by
 unfold hdS
 have h1 := Qe1 ((l.drop (a + 48)).take 32)
 have h2 := Nat.pow_le_pow_right (show 0 < 2 by omega) (show ((l.drop (a + 48)).take 32).length <= 32 by rw [List.length_take];omega)
 have h3 := Qe1 ((l.drop (a + 81)).take 24)
 have h4 := Nat.pow_le_pow_right (show 0 < 2 by omega) (show ((l.drop (a + 81)).take 24).length <= 24 by rw [List.length_take];omega)
 repeat' split
 all_goals first
  | (exact .inr (.inl rfl))
  | (exact .inr (.inr rfl))
  | (refine .inl ⟨rfl, by omega, rfl, ?_, ?_⟩ <;> simp only <;> omega)
theorem QFf : ∀ (l out : List UInt8) (k : Nat), (decS out k l).2 = 0 ∨ (decS out k l).1 = [] := by
 intro l
 induction l with
 | nil => intro out k;rw [decS];split <;> simp
 | cons c l ih =>
  intro out k
  rw [decS]
  repeat' split
  all_goals first | (right;rfl) | exact ih _ _
theorem QFg (u : List UInt8) (l : List Nat) (row most : Int) : (unpS u l row most).2 = 0 ∨ (unpS u l row most).1 = [] := by
 unfold unpS
 repeat' split
 all_goals first | (right;rfl) | exact QFf _ _ _
theorem QFh (u : List UInt8) (l : List Nat) (row most : Int) : (unpS u l row most).1.length <= 262144 := by
 unfold unpS
 repeat' split
 all_goals first | simp | exact QJb _ _ _ (by simp)
theorem Qgr (s : List UInt8) (at_ most : Int) (w : World) (ha : I64 at_) (hm : I64 most) (hs : s.length <= 100000000000000) :
  Does Tryz.prog 18 #[Str s, .int .i64 at_, .int .i64 most] w fun v w' => Heap w [] w' [] /\ v = QJf (Qn4 s at_ most) := by
 have hbl := Qbe s
 have hhd := fun w => Qoq s at_ w ha (by omega)
 refine Qak (args := [Str s, .int .i64 at_, .int .i64 most]) 90 Tryz.func18 rfl rfl (of_decide_eq_true rfl) ?_
 simp only [Env.ofArgs]
 refine VR [0, 1, 2] rfl rfl fun K hK => ?_;simp only [go_sem,↓reduceIte,reduceEqDiff]
 (refine hK _ _ ?_;clear hK)
 refine VR [0, 1, 2, 22] rfl rfl fun K hK => ?_;simp only [go_sem,↓reduceIte,reduceEqDiff]
 suffices out : ∀ b : Bool, (b = true ↔ most < 1 ∨ 262144 < most) -> K [(0, Str s), (1, .int .i64 at_), (2, .int .i64 most), (22, .bool b)] w by
  refine ⟨fun h => out _ (by simp at h ⊢;omega), fun h => out _ (by simp at h ⊢;omega)⟩
 intro b hb
 (refine hK _ _ ?_;clear hK)
 refine Qab rfl rfl (fun h => ?_) (fun h => Qaf ?_)
 ·
  have hb := hb.1 h
  refine VR [6, 7, 8, 9] rfl rfl fun K hK => ?_;simp only [go_sem,↓reduceIte,reduceEqDiff]
  (refine hK _ _ ?_;clear hK)
  refine Qan (Qh3 rfl rfl rfl rfl rfl ⟨Heap.start w, ?_⟩)
  rw [Qn4, if_pos (by omega)]
  rfl
 have hmo : ¬ (most < 1 ∨ 262144 < most) := fun hh => by rw [hb.2 hh] at h;cases h
 clear hb h
 refine VR [0, 1, 2, 10, 11, 12] rfl rfl fun K hK => ?_;simp only [go_sem,↓reduceIte,reduceEqDiff]
 refine Qag Tryz.call45 ?_;simp only [go_sem,↓reduceIte,reduceEqDiff];refine CallK.mk (hhd w) ?_
 rintro v w2 ⟨hH, rfl⟩
 by_cases hat : at_ < 0 ∨ 8 * (s.length : Int) < at_
 ·
  rw [if_pos hat]
  unfold hdV
  simp only [go_sem,↓reduceIte,reduceEqDiff]
  (refine hK _ _ ?_;clear hK)
  refine VR [0, 1, 2, 10, 11, 12, 32] rfl rfl fun K hK => ?_;simp only [go_sem,↓reduceIte,reduceEqDiff]
  (refine hK _ _ ?_;clear hK)
  refine Qab rfl rfl (fun h => ?_) (fun h => by simp at h)
  refine VR [6, 7, 8, 9] rfl rfl fun K hK => ?_;simp only [go_sem,↓reduceIte,reduceEqDiff]
  (refine hK _ _ ?_;clear hK)
  refine Qan (Qh3 rfl rfl rfl rfl rfl ⟨hH, ?_⟩)
  rw [Qn4, if_pos (by omega)]
  rfl
 rw [if_neg hat]
 have hF : Qn4 s at_ most = Qn3 (Qas s) at_.toNat most := by rw [Qn4, if_neg (by omega)]
 rw [hF] at hK
 obtain ⟨at_, rfl⟩ : ∃ n : Nat, at_ = n := ⟨at_.toNat, by omega⟩
 rw [Int.toNat_natCast] at hK ⊢
 have hok := QMg (Qas s) at_
 have hE : Qn3 (Qas s) at_ most = Qn3 (Qas s) at_ most := rfl
 conv at hE => rhs;unfold Qn3
 generalize Qn3 (Qas s) at_ most = res at *
 clear hF hat hhd
 generalize hdS (Qas s) at_ = hd at *
 obtain ⟨sum, row, to, e⟩ := hd
 simp only at hok hE
 unfold hdV
 simp only [go_sem,↓reduceIte,reduceEqDiff]
 (refine hK _ _ ?_;clear hK)
 refine VR [0, 1, 2, 10, 11, 12, 32] rfl rfl fun K hK => ?_;simp only [go_sem,↓reduceIte,reduceEqDiff]
 (refine hK _ _ ?_;clear hK)
 refine Qab rfl rfl (fun h => ?_) (fun h => ?_)
 ·
  simp only [decide_eq_true_eq] at h
  refine VR [6, 7, 8, 9] rfl rfl fun K hK => ?_;simp only [go_sem,↓reduceIte,reduceEqDiff]
  (refine hK _ _ ?_;clear hK)
  refine Qan (Qh3 rfl rfl rfl rfl rfl ⟨hH, ?_⟩)
  rw [hE, if_pos (by omega)]
  rfl
 simp only [decide_eq_false_iff_not] at h
 obtain rfl : e = 0 := by omega
 rw [if_neg (by simp)] at hE
 obtain ⟨_, h1, rfl, h2, h3⟩ : (0 : Nat) = 0 /\ at_ + 105 <= (Qas s).length /\ to = at_ + 105 /\ sum < 4294967296 /\ row < 16777216 := by
  rcases hok with hok | hok
  ·
   exact hok
  ·
   omega
 clear hok h
 refine Qaf ?_
 have hst := fun w => Qtk s (at_ + 105) (by omega) (by omega) w
 generalize hbits : Qas s = bits at *
 refine VR [0, 1, 2, 10, 11, 12, 13] rfl rfl fun K hK => ?_;simp only [go_sem,↓reduceIte,reduceEqDiff]
 refine Qag Tryz.call46 ?_;simp only [go_sem,↓reduceIte,reduceEqDiff];refine CallK.mk (hst w2) ?_
 rintro v w3 ⟨hHs, rfl⟩
 have hH2 := hH.call0 hHs
 clear hH hHs hst
 cases hU : Qe8 bits (at_ + 105) with
 | error e =>
  rw [hU] at hE
  have he := Qtu hU
  unfold exV
  simp only [go_sem,↓reduceIte,reduceEqDiff]
  (refine hK _ _ ?_;clear hK)
  refine VR [0, 1, 2, 10, 11, 12, 13, 42] rfl rfl fun K hK => ?_;simp only [go_sem,↓reduceIte,reduceEqDiff]
  (refine hK _ _ ?_;clear hK)
  refine Qab rfl rfl (fun h => ?_) (fun h => by simp at h;exact absurd h he)
  refine VR [6, 7, 8, 9] rfl rfl fun K hK => ?_;simp only [go_sem,↓reduceIte,reduceEqDiff]
  (refine hK _ _ ?_;clear hK)
  refine Qan (Qh3 rfl rfl rfl rfl rfl ⟨hH2, ?_⟩)
  rw [hE]
  rfl
 | ok u =>
  rw [hU] at hE
  obtain ⟨u1, u2, u3⟩ := Qv9 hU
  obtain ⟨u, at2⟩ := u
  simp only at hE u1 u2 u3
  unfold exV
  simp only [go_sem,↓reduceIte,reduceEqDiff]
  (refine hK _ _ ?_;clear hK)
  refine VR [0, 1, 2, 10, 11, 12, 13, 42] rfl rfl fun K hK => ?_;simp only [go_sem,↓reduceIte,reduceEqDiff]
  (refine hK _ _ ?_;clear hK)
  refine Qab rfl rfl (fun h => by simp at h) (fun h => Qaf ?_)
  have hpt := fun w => Qq7 s at2 (u.length + 2) (by omega) (by omega) (by omega) w
  rw [hbits] at hpt
  refine VR [0, 1, 2, 10, 11, 12, 13, 14] rfl rfl fun K hK => ?_;simp only [go_sem,↓reduceIte,reduceEqDiff]
  (repeat first | refine And.intro (by omega) ?_ | refine ⟨⟨by omega, by omega⟩, ?_⟩)
  rw [show ((u.length : Int) + 2) = ((u.length + 2 : Nat) : Int) by push_cast;rfl]
  refine Qag Tryz.call47 ?_;simp only [go_sem,↓reduceIte,reduceEqDiff];refine CallK.mk (hpt w3) ?_
  cases hP : Qef bits at2 (u.length + 2) with
  | error e =>
   rw [hP] at hE
   have he := Qs9 hP
   rintro v w4 ⟨hHs, rfl⟩
   have hH3 := hH2.call0 hHs
   simp only [List.append_nil] at hH3
   clear hH2 hHs
   refine Qat (.agg #[.slice none 0 0, .slice none 0 0]) (by kernel_rfl) ?_
   simp only [go_sem,↓reduceIte,reduceEqDiff]
   have hH4 := hH3.box 65 (Qau none 0 0 none 0 0)
   have hpl : [Value.slice none 0 0, Value.slice none 0 0] = Qau none 0 0 none 0 0 := rfl
   rw [hpl]
   generalize w4.alloc (Obj.cells (Qau none 0 0 none 0 0).toArray 65) = w5 at *
   generalize w4.heap.size = gp at *
   refine Qae ?_
   simp only [go_sem,↓reduceIte,reduceEqDiff]
   refine Qal hH4 0 (vs := Qau none 0 0 none 0 0) rfl rfl (by kernel_rfl) (by simp [Qau]) (Qb7 _ _ _ _ _ _) fun w6 hH5 => ?_
   (refine hK _ _ ?_;clear hK)
   refine VR [0, 1, 2, 10, 11, 12, 13, 14, 55] rfl rfl fun K hK => ?_;simp only [go_sem,↓reduceIte,reduceEqDiff]
   (refine hK _ _ ?_;clear hK)
   refine Qab rfl rfl (fun h => ?_) (fun h => by simp at h;exact absurd h he)
   refine VR [6, 7, 8, 9] rfl rfl fun K hK => ?_;simp only [go_sem,↓reduceIte,reduceEqDiff]
   (refine hK _ _ ?_;clear hK)
   refine Qan (Qh3 rfl rfl rfl rfl rfl ⟨hH5.sub (by simp), ?_⟩)
   rw [hE]
   rfl
  | ok p =>
   rw [hP] at hE
   obtain ⟨m1, m2, m3⟩ := Qvu (by omega) hP
   obtain ⟨⟨T, P⟩, at3⟩ := p
   simp only at hE m1 m2 m3
   rintro v w4 ⟨pv, hHs, hpa, rfl⟩
   have hH3 := hH2.call0 hHs
   simp only [List.append_nil] at hH3
   clear hH2 hHs
   obtain ⟨ta, tc, pa, pc, us, rfl, _⟩ := id hpa
   have hpv : Value.agg #[.slice ta T.length tc, .slice pa P.length pc] = .agg (Qau ta T.length tc pa P.length pc).toArray := rfl
   simp only at hpa
   rw [hpv] at hpa ⊢
   simp only [go_sem,↓reduceIte,reduceEqDiff]
   refine Qat (.agg #[.slice none 0 0, .slice none 0 0]) (by kernel_rfl) ?_
   simp only [go_sem,↓reduceIte,reduceEqDiff]
   have hHz := (Heap.start w4).box 65 (Qau none 0 0 none 0 0)
   have hpl : [Value.slice none 0 0, Value.slice none 0 0] = Qau none 0 0 none 0 0 := rfl
   rw [hpl]
   generalize w4.alloc (Obj.cells (Qau none 0 0 none 0 0).toArray 65) = w5 at *
   generalize w4.heap.size = gp at *
   refine Qae ?_
   simp only [go_sem,↓reduceIte,reduceEqDiff]
   refine Qal hHz 0 (vs := Qau ta T.length tc pa P.length pc) rfl rfl (by kernel_rfl) (by simp [Qau]) (Qb7 _ _ _ _ _ _) fun w6 hHy => ?_
   have hHx : Heap w4 [] w6 [Res.blk gp 65 (Qau ta T.length tc pa P.length pc)] := hHy
   have hH4 := hH3.call0 hHx
   simp only [List.singleton_append] at hH4
   have hpa2 := hpa.keep hHx
   clear hHz hHy hHx hH3 hpa
   (refine hK _ _ ?_;clear hK)
   refine VR [0, 1, 2, 10, 11, 12, 13, 14, 55] rfl rfl fun K hK => ?_;simp only [go_sem,↓reduceIte,reduceEqDiff]
   (refine hK _ _ ?_;clear hK)
   refine Qab rfl rfl (fun h => by simp at h) (fun h => Qaf ?_)
   have hgt := Qs0 _ T P m1 s at3 (by omega) (by omega) w6 hpa2
   rw [hbits] at hgt
   refine VR [1, 2, 10, 11, 12, 13, 15] rfl rfl fun K hK => ?_;simp only [go_sem,↓reduceIte,reduceEqDiff]
   refine ⟨Qau ta T.length tc pa P.length pc, ⟨rfl, Qa1 (hH4.at 0 rfl)⟩, ?_⟩
   refine Qag Tryz.call48 ?_;simp only [go_sem,↓reduceIte,reduceEqDiff];refine CallK.mk hgt ?_
   cases hG : Qgn T bits ((T.getD 0 []).length - 1) P at3 with
   | error e =>
    rw [hG] at hE
    have he := Qzn _ _ _ hG
    rintro v w7 ⟨hHs, rfl⟩
    have hH5 := hH4.call0 hHs
    (refine hK _ _ ?_;clear hK)
    refine VR [1, 2, 10, 11, 12, 13, 15, 66] rfl rfl fun K hK => ?_;simp only [go_sem,↓reduceIte,reduceEqDiff]
    (refine hK _ _ ?_;clear hK)
    refine Qab rfl rfl (fun h => ?_) (fun h => by simp at h;exact absurd h he)
    refine VR [6, 7, 8, 9] rfl rfl fun K hK => ?_;simp only [go_sem,↓reduceIte,reduceEqDiff]
    (refine hK _ _ ?_;clear hK)
    refine Qan (Qh3 rfl rfl rfl rfl rfl ⟨hH5.sub (by simp), ?_⟩)
    rw [hE]
    rfl
   | ok q =>
    rw [hG] at hE
    obtain ⟨n1, n2, n3, n4, n5, n6⟩ := m1
    obtain ⟨g1, g2, g3⟩ := QCo (N := (T.getD 0 []).length) (fun t ht => (n5 _ (by rw [List.getD_eq_getElem?_getD, List.getElem?_eq_getElem ht];exact List.getElem_mem ht)).1) _ _ _ n6 (by omega) hG
    obtain ⟨q, at4⟩ := q
    simp only at hE g1 g2 g3
    rintro v w7 ⟨aq, cq, hHs, rfl⟩
    have hH5 := hH4.call0 hHs
    simp only [List.singleton_append] at hH5
    clear hH4 hHs hgt hpa2
    simp only [go_sem,↓reduceIte,reduceEqDiff]
    (refine hK _ _ ?_;clear hK)
    refine VR [1, 2, 10, 11, 12, 13, 15, 66] rfl rfl fun K hK => ?_;simp only [go_sem,↓reduceIte,reduceEqDiff]
    (refine hK _ _ ?_;clear hK)
    refine Qab rfl rfl (fun h => by simp at h) (fun h => Qaf ?_)
    have hup := fun w h => Qq8 u q row most aq cq (by omega) (by omega) (fun x hx => by have := g1 x hx;omega) (I64.mk (by omega) (by omega)) hm w h
    have hue := QFg u q row most
    have hul := QFh u q row most
    generalize unpS u q row most = X at *
    obtain ⟨txt, e⟩ := X
    simp only at hE hue hul hup
    refine VR [1, 10, 12, 16] rfl rfl fun K hK => ?_;simp only [go_sem,↓reduceIte,reduceEqDiff]
    refine Qag Tryz.call49 ?_;simp only [go_sem,↓reduceIte,reduceEqDiff];refine CallK.mk (hup w7 (Qbo (hH5.at 0 rfl))) ?_
    rintro v w8 ⟨hHs, rfl⟩
    have hH6 := hH5.call0 hHs
    simp only [List.nil_append] at hH6
    clear hH5 hHs hup
    (refine hK _ _ ?_;clear hK)
    refine VR [1, 10, 12, 16, 83] rfl rfl fun K hK => ?_;simp only [go_sem,↓reduceIte,reduceEqDiff]
    suffices out : ∀ b : Bool, ∀ w9, Heap w [] w9 [] -> (b = true ↔ e = 0 /\ Qd6 txt ≠ sum) -> K [(1, .int .i64 at4), (10, .int .u32 sum), (12, .int .i64 e), (16, Str txt), (83, .bool b)] w9 by
     refine ⟨fun h => ?_, fun h => out _ _ (hH6.sub (by simp)) (by simp at h ⊢;intro h';exact absurd h' h)⟩
     refine Qag Tryz.call21 ?_;simp only [go_sem,↓reduceIte,reduceEqDiff];refine CallK.mk (Qto txt w8 (by omega)) ?_
     rintro v w9 ⟨hHs, rfl⟩
     have hH7 := hH6.call0 hHs
     simp only [go_sem,↓reduceIte,reduceEqDiff]
     exact out _ _ (hH7.sub (by simp)) (by simp [h];omega)
    intro b w9 hH7 hb
    (refine hK _ _ ?_;clear hK)
    (repeat refine Qai ?_)
    refine Qdf [1, 10, 12, 16] (fun e' w' => ∃ x : Int, Is e' [(1, .int .i64 at4), (10, .int .u32 sum), (12, .int .i64 x), (16, Str txt)] /\ Is w' w9 /\ x = if b = true then 121 else e) ?_ ?_
    ·
     refine Qab rfl rfl (fun h => ?_) (fun h => ?_)
     ·
      refine VR [1, 10, 12, 16] rfl rfl fun K hK => ?_;simp only [go_sem,↓reduceIte,reduceEqDiff]
      (refine hK _ _ ?_;clear hK)
      refine Qah ?_
      simp only [go_sem,↓reduceIte,reduceEqDiff]
      exact ⟨121, rfl, rfl, by simp [h]⟩
     ·
      refine Qaf (Qah ?_)
      simp only [go_sem,↓reduceIte,reduceEqDiff]
      exact ⟨e, rfl, rfl, by simp [h]⟩
    rintro e' w' ⟨x, rfl, rfl, hx⟩
    refine VR [1, 10, 12, 16, 85] rfl rfl fun K hK => ?_;simp only [go_sem,↓reduceIte,reduceEqDiff]
    (refine hK _ _ ?_;clear hK)
    refine Qab rfl rfl (fun h => ?_) (fun h => Qaf ?_)
    ·
     simp only [decide_eq_true_eq] at h
     refine VR [6, 7, 8, 9] rfl rfl fun K hK => ?_;simp only [go_sem,↓reduceIte,reduceEqDiff]
     (refine hK _ _ ?_;clear hK)
     refine Qan (Qh3 rfl rfl rfl rfl rfl ⟨hH7, ?_⟩)
     rw [hE]
     by_cases hb2 : b = true
     ·
      have h2 := hb.1 hb2
      rw [if_pos hb2] at hx
      rw [if_neg (by simp [h2.1]), if_pos h2.2, hx]
      rfl
     ·
      rw [if_neg hb2] at hx
      rw [if_pos (by rw [<- hx];exact h), hx]
      rfl
    simp only [decide_eq_false_iff_not] at h
    refine VR [6, 7, 8, 9] rfl rfl fun K hK => ?_;simp only [go_sem,↓reduceIte,reduceEqDiff]
    (refine hK _ _ ?_;clear hK)
    refine Qan (Qh3 rfl rfl rfl rfl rfl ⟨hH7, ?_⟩)
    have hb2 : ¬ b = true := fun hb2 => by rw [if_pos hb2] at hx;omega
    rw [if_neg hb2] at hx
    have he0 : e = 0 := by omega
    rw [hE, if_neg (by simp [he0]), if_neg (fun hc => hb2 (hb.2 ⟨he0, hc⟩))]
    rfl
theorem Qn5 (n most : Int) (hn : 1 <= n) : ∀ (f z : Nat), z <= f -> ∀ (wt : Nat) (out r : List Int), 1 <= wt -> (out.length : Int) <= most ->
  zdec n most out wt (dig z ++ r) = if (out.length : Int) + wt * z <= most then zdec n most (out ++ List.replicate (wt * z) 0) (wt * 2 ^ (dig z).length) r else ([], 3) := by
 intro f
 induction f with
 | zero =>
  intro z hz wt out r h1 h2
  have : z = 0 := by omega
  subst this
  simp [Qhi, h2]
 | succ f ih =>
  intro z hz wt out r h1 h2
  cases z with
  | zero => simp [Qhi, h2]
  | succ k =>
   have hk : ((k % 2 : Nat) : Int) = 0 ∨ ((k % 2 : Nat) : Int) = 1 := by omega
   have e1 : (((k % 2 : Nat) : Int) + 1) * wt = ((wt * (k % 2 + 1) : Nat) : Int) := by push_cast;rw [Int.mul_comm]
   have e2 : wt * (k + 1) = wt * (k % 2 + 1) + 2 * wt * (k / 2) := by
    have : k + 1 = k % 2 + 1 + 2 * (k / 2) := by omega
    rw [this, Nat.mul_add]
    have : wt * (2 * (k / 2)) = 2 * wt * (k / 2) := by rw [Nat.mul_left_comm, Nat.mul_assoc]
    omega
   rw [Qml, List.cons_append, zdec, if_neg (by omega), if_pos (by omega), e1, Int.toNat_natCast]
   have e2' : (wt : Int) * ((k + 1 : Nat) : Int) = ((wt * (k % 2 + 1) : Nat) : Int) + ((2 * wt * (k / 2) : Nat) : Int) := by
    rw [<- Int.natCast_mul, e2];simp
   have e3 : ((2 * wt : Nat) : Int) * ((k / 2 : Nat) : Int) = ((2 * wt * (k / 2) : Nat) : Int) := by rw [<- Int.natCast_mul]
   rw [e2', e2]
   clear e1 e2 e2'
   generalize wt * (k % 2 + 1) = p
   have ihk := ih (k / 2) (by omega) (2 * wt) (out ++ List.replicate p 0) r (by omega)
   rw [e3] at ihk
   generalize 2 * wt * (k / 2) = q at *
   by_cases h3 : most - (out.length : Int) < (p : Int)
   ·
    rw [if_pos h3, if_neg (by omega)]
   ·
    rw [if_neg h3, ihk (by simp;omega)]
    rw [List.length_append, List.length_replicate]
    by_cases h4 : (out.length : Int) + ((p : Int) + (q : Int)) <= most
    ·
     rw [if_pos (by omega), if_pos h4, List.append_assoc, List.replicate_append_replicate, List.length_cons, Nat.pow_succ]
     congr 1
     rw [Nat.mul_comm 2 wt, Nat.mul_assoc, Nat.mul_comm 2]
    ·
     rw [if_neg (by omega), if_neg h4]
theorem Qrb (n : Int) (hn : 1 <= n) (hn2 : n <= 256) : ∀ (l : List Int) (o : List Int) (z : Nat) (s : List Int), zgo n o z l = (s, 0) ->
  ∃ t, s = o ++ t /\ ∀ (out : List Int) (most : Int), (out.length : Int) <= most -> zdec n most out 1 t = if (out.length : Int) + z + l.length <= most then (out ++ List.replicate z 0 ++ l, 0) else ([], 3)
 | [], o, z, s, h => by
  rw [zgo] at h
  obtain ⟨rfl, _⟩ := Prod.mk.inj h
  refine ⟨dig z ++ [n + 1], by simp, fun out most ho => ?_⟩
  rw [Qn5 n most hn z z (Nat.le_refl _) 1 out _ (Nat.le_refl _) ho]
  have e : ((1 : Nat) : Int) * (z : Int) = z := by simp
  rw [e, Nat.one_mul]
  simp only [List.length_nil, Int.natCast_zero, Int.add_zero, List.append_nil]
  split
  ·
   rw [zdec, if_neg (by omega), if_neg (by omega), if_pos rfl, zend]
  ·
   rfl
 | v :: r, o, z, s, h => by
  rw [zgo] at h
  split at h
  ·
   rename_i hv
   subst hv
   obtain ⟨t, ht, hd⟩ := Qrb n hn hn2 r o (z + 1) s h
   refine ⟨t, ht, fun out most ho => ?_⟩
   rw [hd out most ho]
   have e : List.replicate (z + 1) (0 : Int) ++ r = List.replicate z 0 ++ 0 :: r := by
    rw [List.replicate_succ', List.append_assoc];rfl
   rw [List.append_assoc, e, <- List.append_assoc]
   simp only [List.length_cons]
   by_cases hc : (out.length : Int) + ((z + 1 : Nat) : Int) + r.length <= most
   ·
    rw [if_pos hc, if_pos (by omega)]
   ·
    rw [if_neg hc, if_neg (by omega)]
  ·
   rename_i hv
   split at h
   ·
    cases h
   ·
    rename_i hr
    obtain ⟨t, ht, hd⟩ := Qrb n hn hn2 r _ 0 s h
    refine ⟨dig z ++ (v + 1) :: t, by rw [ht];simp, fun out most ho => ?_⟩
    rw [Qn5 n most hn z z (Nat.le_refl _) 1 out _ (Nat.le_refl _) ho]
    have e : ((1 : Nat) : Int) * (z : Int) = z := by simp
    rw [e, Nat.one_mul]
    simp only [List.length_cons]
    by_cases hc : (out.length : Int) + z <= most
    ·
     rw [if_pos hc, zdec, if_neg (by omega), if_neg (by omega), if_neg (by omega), show v + 1 - 1 = v by omega]
     simp only [List.length_append, List.length_replicate]
     by_cases hc2 : most <= ((out.length + z : Nat) : Int)
     ·
      rw [if_pos hc2, if_neg (by omega)]
     ·
      rw [if_neg hc2, hd _ most (by simp;omega)]
      simp only [List.length_append, List.length_replicate, List.length_cons, List.length_nil, List.replicate_zero, List.append_nil]
      by_cases hc3 : (out.length : Int) + z + ((r.length + 1 : Nat) : Int) <= most
      ·
       rw [if_pos (by omega), if_pos hc3, List.append_assoc];rfl
      ·
       rw [if_neg (by omega), if_neg hc3]
    ·
     rw [if_neg hc, if_neg (by omega)]
theorem QP2 (n : Int) (l s : List Int) (h : zenc n l = (s, 0)) (most : Int) (h0 : 0 <= most) (h1 : most <= 262144) :
  Qec n most s = if (l.length : Int) <= most then (l, 0) else ([], 3) := by
 rw [zenc] at h
 split at h
 ·
  cases h
 ·
  rename_i hc
  obtain ⟨t, ht, hd⟩ := Qrb n (by omega) (by omega) l [] 0 s h
  have := hd [] most (by simpa using h0)
  rw [List.nil_append] at ht
  subst ht
  rw [Qec, if_neg (by omega), this]
  simp
theorem QCv (out : List UInt8) (same : Nat) (c : UInt8) (s : List UInt8) (h : same ≠ 4) (hl : out.length < 262144) :
  decS out same (c :: s) = decS (out ++ [c]) (if 0 < same /\ out.getLastD 0 = c then same + 1 else 1) s := by
 rw [decS, if_neg h, if_neg (by omega)]
theorem Qmq (out : List UInt8) (c : UInt8) : (out ++ [c]).getLastD 0 = c := by simp
theorem Qxk (b : UInt8) (s : List UInt8) : ∀ (m j : Nat) (out : List UInt8), 1 <= j -> j + m <= 4 -> out.getLastD 0 = b -> out.length + m <= 262144 ->
  decS out j (List.replicate m b ++ s) = decS (out ++ List.replicate m b) (j + m) s
 | 0, j, out, _, _, _, _ => by simp
 | m + 1, j, out, h1, h2, h3, h4 => by
  rw [List.replicate_succ, List.cons_append, QCv _ _ _ _ (by omega) (by omega), if_pos ⟨by omega, h3⟩,
   Qxk b s m (j + 1) (out ++ [b]) (by omega) (by omega) (Qmq _ _) (by simp;omega), List.append_assoc]
  rw [show j + 1 + m = j + (m + 1) by omega]
  rfl
theorem QCw (b : UInt8) (s out : List UInt8) (m same : Nat) (h1 : 1 <= m) (h2 : m <= 4) (hs : same <= 3) (hb : 0 < same -> out.getLastD 0 ≠ b) (hl : out.length + m <= 262144) :
  decS out same (List.replicate m b ++ s) = decS (out ++ List.replicate m b) m s := by
 obtain ⟨m, rfl⟩ : ∃ k, m = k + 1 := ⟨m - 1, by omega⟩
 rw [List.replicate_succ, List.cons_append, QCv _ _ _ _ (by omega) (by omega), if_neg (fun h => hb h.1 h.2),
  Qxk b s m 1 (out ++ [b]) (by omega) (by omega) (Qmq _ _) (by simp;omega), List.append_assoc, Nat.add_comm 1 m]
 rfl
theorem Qt6 (b : UInt8) : ∀ (l : List UInt8) (n : Nat), n <= lead b l -> l.take n = List.replicate n b
 | [], n, h => by simp [lead] at h;subst h;rfl
 | c :: l, 0, _ => rfl
 | c :: l, n + 1, h => by
  simp only [lead] at h
  by_cases hc : c = b
  ·
   rw [if_pos hc] at h
   rw [List.take_succ_cons, Qt6 b l n (by omega), hc]
   rfl
  ·
   rw [if_neg hc] at h;omega
theorem Qxl (b : UInt8) (l : List UInt8) (n : Nat) (h : n <= Qe6 (b :: l)) : (b :: l).take n = List.replicate n b := by
 simp only [Qe6] at h
 cases n with
 | zero => rfl
 | succ n => rw [List.take_succ_cons, Qt6 b l n (by omega)];rfl
theorem QJg (b : UInt8) (l : List UInt8) (h : Qe6 (b :: l) < 255) : (b :: l)[Qe6 (b :: l)]? ≠ some b := by
 simp only [Qe6] at h ⊢
 rw [show min 255 (lead b l + 1) = lead b l + 1 by omega]
 exact QEn b l
theorem QJh : ∀ (f : Nat) (l out : List UInt8) (same : Nat), l.length <= f -> out.length + l.length <= 262144 -> same <= 3 -> (0 < same -> ∀ b, l[0]? = some b -> out.getLastD 0 ≠ b) ->
  decS out same (enc l) = (out ++ l, 0) := by
 intro f
 induction f with
 | zero =>
  intro l out same h1 h2 h3 h4
  have : l = [] := List.eq_nil_of_length_eq_zero (by omega)
  subst this
  rw [Qqp, decS, if_neg (by omega), List.append_nil]
 | succ f ih =>
  intro l out same h1 h2 h3 h4
  cases l with
  | nil => rw [Qqp, decS, if_neg (by omega), List.append_nil]
  | cons b l =>
   have hp := Qfq (b :: l) (by simp)
   have hle := Qiu (b :: l)
   have htk := Qxl b l (Qe6 (b :: l)) (Nat.le_refl _)
   have htk4 := Qxl b l 4
   have hend := QJg b l
   rw [Qiv (b :: l) (by simp)]
   generalize Qe6 (b :: l) = n at *
   have hd : (b :: l).take n ++ (b :: l).drop n = b :: l := List.take_append_drop _ _
   rw [htk] at hd
   have hdl : ((b :: l).drop n).length = (b :: l).length - n := List.length_drop
   simp only [List.length_cons] at h1 h2 hle hdl
   have h4' : 0 < same -> out.getLastD 0 ≠ b := fun h => h4 h b rfl
   by_cases hn : n < 4
   ·
    rw [Qfp, if_pos hn, htk, QCw b _ out n same hp (by omega) h3 h4' (by omega),
     ih _ (out ++ List.replicate n b) n (by omega) (by simp only [List.length_append, List.length_replicate];omega) (by omega) ?_, List.append_assoc, hd]
    intro _ c hc hlast
    have e : (out ++ List.replicate n b).getLastD 0 = b := by
     obtain ⟨k, rfl⟩ : ∃ k, n = k + 1 := ⟨n - 1, by omega⟩
     rw [List.replicate_succ', <- List.append_assoc, Qmq]
    rw [e] at hlast
    rw [List.getElem?_drop, Nat.add_zero] at hc
    exact hend (by omega) (by rw [hc, hlast])
   ·
    rw [Qfp, if_neg hn, htk4 (by omega), List.append_assoc, QCw b _ out 4 same (by omega) (by omega) h3 h4' (by omega)]
    rw [List.singleton_append, decS, if_pos rfl]
    have e1 : (UInt8.ofNat (n - 4)).toNat = n - 4 := by simp;omega
    have e2 : (out ++ List.replicate 4 b).getLastD 0 = b := by
     rw [show List.replicate 4 b = List.replicate 3 b ++ [b] from rfl, <- List.append_assoc, Qmq]
    rw [e1, e2, if_neg (by simp only [List.length_append, List.length_replicate];omega),
     ih _ _ 0 (by omega) (by simp only [List.length_append, List.length_replicate];omega) (by omega) (fun h => by omega)]
    rw [List.append_assoc, List.append_assoc, <- List.append_assoc (List.replicate 4 b), List.replicate_append_replicate, show 4 + (n - 4) = n by omega, hd]
theorem Qzv (l : List UInt8) (h : l.length <= 262144) : decS [] 0 (enc l) = (l, 0) := by
 have := QJh l.length l [] 0 (Nat.le_refl _) (by simpa using h) (by omega) (fun h => by omega)
 simpa using this
theorem Qkl {n v : Nat} {bits : List Bool} {at_ : Nat} {r : List Bool} (h0 : 0 < n) (hv : v < 2 ^ n) (hb : bits.drop at_ = Qbh n v ++ r) : at_ + n <= bits.length /\ numB ((bits.drop at_).take n) = v /\ bits.drop (at_ + n) = r := by
 have hl := congrArg List.length hb
 rw [List.length_drop, List.length_append, Qaw] at hl
 refine ⟨by omega, ?_, ?_⟩
 ·
  rw [hb, List.take_left' (Qaw n v), Qd7, Nat.mod_eq_of_lt hv]
 ·
  rw [<- List.drop_drop, hb, List.drop_left' (Qaw n v)]
theorem Qrc {n : Int} (hn : 1 <= n) : ∀ (l out : List Int) (z : Nat), (∀ v ∈ l, 0 <= v /\ v < n) -> (∀ x ∈ out, 0 <= x /\ x <= n) -> ∃ t, zgo n out z l = (t ++ [n + 1], 0) /\ ∀ x ∈ t, 0 <= x /\ x <= n
 | [], out, z, _, ho => by
  have h1 := Qnz z z (Nat.le_refl _)
  refine ⟨out ++ dig z, rfl, fun x hx => ?_⟩
  rcases List.mem_append.1 hx with hx | hx
  ·
   exact ho x hx
  ·
   have := h1 x hx;omega
 | v :: r, out, z, hl, ho => by
  have hv := hl v (by simp)
  rw [zgo]
  split
  ·
   exact Qrc hn r out (z + 1) (fun v hv => hl v (by simp [hv])) ho
  ·
   rw [if_neg (by omega)]
   have h1 := Qnz z z (Nat.le_refl _)
   refine Qrc hn r _ 0 (fun v hv => hl v (by simp [hv])) fun x hx => ?_
   simp only [List.mem_append, List.mem_singleton] at hx
   rcases hx with (hx | hx) | rfl
   ·
    exact ho x hx
   ·
    have := h1 x hx;omega
   ·
    omega
theorem QMh {l : List Int} (h : ∀ v ∈ l, 0 <= v) : ni (toN l) = l := by
 unfold ni toN
 rw [List.map_map]
 conv => rhs;rw [<- List.map_id l]
 apply List.map_congr_left
 intro v hv
 have := h v hv
 simp only [Function.comp, id]
 omega
theorem QCx {t : List UInt8} {σ : List Nat} (ho : Ordered t σ) (ht : t ≠ []) : ∃ body, Qc2 t σ = body ++ [(Qbk t).length + 1] /\ ∀ x ∈ body, x < (Qbk t).length + 2 /\ x ≠ (Qbk t).length + 1 := by
 obtain ⟨u1, u2⟩ := Qhm ht
 obtain ⟨p1, p2, p3⟩ := Qkh ho
 obtain ⟨b, hb, hx⟩ := Qrc (n := ((Qbk t).length : Nat)) (by omega) (Qdu t σ) [] 0 p3 (by simp)
 have he : zenc ((Qbk t).length : Nat) (Qdu t σ) = (b ++ [((Qbk t).length : Int) + 1], 0) := by rw [zenc, if_neg (by omega)];exact hb
 refine ⟨toN b, ?_, fun x hx2 => ?_⟩
 ·
  unfold Qc2
  rw [he]
  simp only [toN, List.map_append, List.map_cons, List.map_nil]
  congr 2
 ·
  obtain ⟨y, hy, rfl⟩ := List.mem_map.1 hx2
  have := hx y hy
  omega
theorem QCy {s : List UInt8} {σ : List Nat} (ho : Ordered (enc s) σ) (hs : s ≠ []) (hl : s.length <= 262144) (hel : (enc s).length <= 262144) (hne : enc s ≠ []) {most : Int} (h0 : 1 <= most) (h1 : most <= 262144) :
  unpS (Qbk (enc s)) (Qc2 (enc s) σ) (σ.idxOf 0) most = if ((enc s).length : Int) <= most then (s, 0) else ([], 3) := by
 obtain ⟨u1, u2⟩ := Qhm hne
 obtain ⟨p1, p2, p3⟩ := Qkh ho
 obtain ⟨z1, z2, z3, z4, z5, z6⟩ := Qq3 ho hne
 have hz : ∀ v ∈ (zenc ((Qbk (enc s)).length : Nat) (Qdu (enc s) σ)).1, 0 <= v := fun v hv => (QCd (n := ((Qbk (enc s)).length : Nat)) (by omega) (by omega) p3).2.1 v hv |>.1
 have hni : ni (Qc2 (enc s) σ) = (zenc ((Qbk (enc s)).length : Nat) (Qdu (enc s) σ)).1 := QMh hz
 have hzb := QP2 ((Qbk (enc s)).length : Nat) (Qdu (enc s) σ) (zenc ((Qbk (enc s)).length : Nat) (Qdu (enc s) σ)).1 (by rw [<- z1]) most (by omega) h1
 have hfb := Qpm _ _ _ p1
 have hmu := Qjt hne
 have hcl := Qli ho
 have hrow : σ.idxOf 0 < (enc s).length := by
  have hm : 0 ∈ σ := by
   refine ho.perm.mem_iff.2 ?_
   have : 0 < (enc s).length := by cases h : enc s with
    | nil => exact absurd h hne
    | cons => simp
   simpa using this
  have := List.idxOf_lt_length_of_mem hm
  have h2 := ho.perm.length_eq
  simp at h2
  omega
 have hbk : bckS (Qbt (enc s) σ) (σ.idxOf 0 : Nat) = (enc s, 0) := by
  unfold bckS
  rw [if_neg (by omega), if_neg (by omega), Int.toNat_natCast, hcl, QEy ho hne]
 have hsy : Qdi (Qbk (enc s)) (Qdu (enc s) σ) = (Qbt (enc s) σ, 0) := by
  unfold Qdi
  rw [if_pos hmu, hfb]
 unfold unpS
 rw [hni, hzb, p2]
 by_cases hm : ((enc s).length : Int) <= most
 ·
  simp only [if_pos hm]
  rw [if_neg (by simp), hsy, if_neg (by simp), hbk, if_neg (by simp), Qzv s hl]
 ·
  simp only [if_neg hm]
  rw [if_pos (by simp)]
theorem QCz {s : List UInt8} (hs : s ≠ []) : enc s ≠ [] := by
 intro e
 obtain ⟨c, r, rfl⟩ : ∃ c r, s = c :: r := by cases s with
  | nil => exact absurd rfl hs
  | cons c r => exact ⟨c, r, rfl⟩
 have h1 := Qiv (c :: r) (by simp)
 have h2 := Qfq (c :: r) (by simp)
 have h3 := (Qiu (c :: r)).1
 have h4 := Qdh (Qe6 (c :: r)) (c :: r) h3
 rw [e] at h1
 have h5 := congrArg List.length h1
 simp only [List.length_append, List.length_nil] at h5
 split at h4 <;> omega
theorem Qwg (s : List UInt8) : Qd6 s < 4294967296 := by
 have := Qiy s (r := 4294967295) (by omega)
 unfold Qd6
 first | omega | exact Nat.xor_lt_two_pow (n := 32) this (by omega)
def Qzw (s : List UInt8) (σ : List Nat) : List Bool := Qfx (Qbk (enc s)) ++ (Qbx (Qcf (enc s) σ).1 (Qcf (enc s) σ).2 ++ Qf3 (Qcf (enc s) σ).1 (Qcf (enc s) σ).2 (Qc2 (enc s) σ) 0)
theorem Qkm (s : List UInt8) (σ : List Nat) : Qcu s σ = Qtp s (σ.idxOf 0) ++ Qzw s σ := by
 simp [Qcu, Qzw]
theorem Qxm {s : List UInt8} {σ : List Nat} (ho : Ordered (enc s) σ) (hs : s ≠ []) (hl : s.length <= 262144) (hel : (enc s).length <= 262144) {bits : List Bool} {at_ sum : Nat} {r : List Bool} (hsum : sum < 4294967296) (hb : bits.drop at_ = Qbh 48 54156738319193 ++ (Qbh 32 sum ++ (Qbh 1 0 ++ (Qbh 24 (σ.idxOf 0) ++ (Qzw s σ ++ r))))) {most : Int} (h0 : 1 <= most) (h1 : most <= 262144) :
  Qn3 bits at_ most = if ((enc s).length : Int) <= most then (if Qd6 s ≠ sum then .error 121 else .ok (s, sum, at_ + (Qcu s σ).length)) else .error 3 := by
 have hne := QCz hs
 obtain ⟨u1, u2⟩ := Qhm hne
 have hmay := Qq4 ho hne hel
 obtain ⟨bm, bn⟩ := Qwr hmay
 have hbg := Qm2 (Qc2 (enc s) σ) ((Qbk (enc s)).length + 2)
 have hrow : σ.idxOf 0 < 2 ^ 24 := by
  have h1 := List.idxOf_le_length (l := σ) (a := 0)
  have h2 := ho.perm.length_eq
  simp at h2
  omega
 obtain ⟨a1, a2, a3⟩ := Qkl (by omega) (by decide) hb
 obtain ⟨b1, b2, b3⟩ := Qkl (by omega) hsum a3
 obtain ⟨c1, c2, c3⟩ := Qkl (by omega) (by decide) b3
 obtain ⟨d1, d2, d3⟩ := Qkl (by omega) hrow c3
 have hhd : hdS bits at_ = (sum, σ.idxOf 0, at_ + 105, 0) := by
  unfold hdS
  rw [if_neg (by omega), if_neg (by rw [a2];simp), if_neg (by omega), if_neg (by omega)]
  rw [show at_ + 48 + 32 = at_ + 80 by omega] at c2
  rw [show at_ + 48 + 32 + 1 = at_ + 81 by omega] at d2
  rw [c2, if_neg (by simp), if_neg (by omega), b2, d2]
 have e1 : bits.drop (at_ + 105) = Qfx (Qbk (enc s)) ++ ((Qbx (Qcf (enc s) σ).1 (Qcf (enc s) σ).2 ++ Qf3 (Qcf (enc s) σ).1 (Qcf (enc s) σ).2 (Qc2 (enc s) σ) 0) ++ r) := by
  rw [show at_ + 105 = at_ + 48 + 32 + 1 + 24 by omega, d3, Qzw]
  simp
 have hst := QE2 hne e1
 have e2 := Qbl e1
 rw [List.append_assoc] at e2
 have hpt : Qef bits (at_ + 105 + (Qfx (Qbk (enc s))).length) ((Qbk (enc s)).length + 2) = .ok (((Qcf (enc s) σ).1, (Qcf (enc s) σ).2), at_ + 105 + (Qfx (Qbk (enc s))).length + (Qbx (Qcf (enc s) σ).1 (Qcf (enc s) σ).2).length) := by
  have := Qz5 bm e2
  rw [bn] at this
  exact this
 have e3 := Qbl e2
 obtain ⟨body, hbody, hbx⟩ := QCx ho hne
 obtain ⟨n1, n2, n3, n4, n5, n6⟩ := bm
 have hgl : (Qc2 (enc s) σ).length <= 50 * (Qcf (enc s) σ).2.length := by
  show _ <= 50 * (Qfw _ _).2.length
  rw [hbg]
  unfold Qca
  omega
 have hpc : Qf3 (Qcf (enc s) σ).1 (Qcf (enc s) σ).2 (Qc2 (enc s) σ) 0 = putC (Qcf (enc s) σ).1 (Qcf (enc s) σ).2 (Qc2 (enc s) σ) :=
  Qoy (Qcf (enc s) σ).1 (Qcf (enc s) σ).2 (Qcf (enc s) σ).2 0 (Qc2 (enc s) σ) rfl hgl
 have hT : ∀ t, t < (Qcf (enc s) σ).1.length -> ((Qcf (enc s) σ).1.getD t []).length = (Qbk (enc s)).length + 2 /\ okL ((Qcf (enc s) σ).1.getD t []) := fun t ht => by
  have hm : (Qcf (enc s) σ).1.getD t [] ∈ (Qcf (enc s) σ).1 := by
   rw [List.getD_eq_getElem?_getD, List.getElem?_eq_getElem ht];exact List.getElem_mem ht
  obtain ⟨q1, q2, q3⟩ := n5 _ hm
  exact ⟨by rw [q1];exact bn, q3⟩
 have hgp : Qgn (Qcf (enc s) σ).1 bits ((Qbk (enc s)).length + 1) (Qcf (enc s) σ).2 (at_ + 105 + (Qfx (Qbk (enc s))).length + (Qbx (Qcf (enc s) σ).1 (Qcf (enc s) σ).2).length) = .ok (Qc2 (enc s) σ, at_ + 105 + (Qfx (Qbk (enc s))).length + (Qbx (Qcf (enc s) σ).1 (Qcf (enc s) σ).2).length + (putC (Qcf (enc s) σ).1 (Qcf (enc s) σ).2 (Qc2 (enc s) σ)).length) := by
  rw [hpc, hbody] at e3
  rw [hbody]
  exact Qz6 (by omega) hT _ body n6 hbx (by rw [<- hbody];exact hgl) e3
 have hun := QCy ho hs hl hel hne h0 h1
 have hlen : (Qcu s σ).length = 105 + (Qfx (Qbk (enc s))).length + (Qbx (Qcf (enc s) σ).1 (Qcf (enc s) σ).2).length + (putC (Qcf (enc s) σ).1 (Qcf (enc s) σ).2 (Qc2 (enc s) σ)).length := by
  rw [Qkm, Qzw, <- hpc]
  simp [Qmp]
  omega
 have hbn : ((Qcf (enc s) σ).1.getD 0 []).length = (Qbk (enc s)).length + 2 := bn
 unfold Qn3
 rw [hhd]
 simp only [ne_eq, not_true_eq_false, if_false]
 rw [hst]
 simp only
 rw [hpt]
 simp only
 rw [hbn, show (Qbk (enc s)).length + 2 - 1 = (Qbk (enc s)).length + 1 by omega, hgp]
 simp only
 rw [hun, hlen]
 by_cases hm : ((enc s).length : Int) <= most
 ·
  simp only [if_pos hm, not_true_eq_false, if_false]
  split
  ·
   rfl
  ·
   rw [show at_ + 105 + (Qfx (Qbk (enc s))).length + (Qbx (Qcf (enc s) σ).1 (Qcf (enc s) σ).2).length + (putC (Qcf (enc s) σ).1 (Qcf (enc s) σ).2 (Qc2 (enc s) σ)).length = at_ + (105 + (Qfx (Qbk (enc s))).length + (Qbx (Qcf (enc s) σ).1 (Qcf (enc s) σ).2).length + (putC (Qcf (enc s) σ).1 (Qcf (enc s) σ).2 (Qc2 (enc s) σ)).length) by omega]
 ·
  simp only [if_neg hm]
  rfl
theorem Qzx {s : List UInt8} {σ : List Nat} (ho : Ordered (enc s) σ) (hs : s ≠ []) (hl : s.length <= 262144) (hel : (enc s).length <= 262144) {bits : List Bool} {at_ : Nat} {r : List Bool} (hb : bits.drop at_ = Qcu s σ ++ r) {most : Int} (h0 : 1 <= most) (h1 : most <= 262144) :
  Qn3 bits at_ most = if ((enc s).length : Int) <= most then .ok (s, Qd6 s, at_ + (Qcu s σ).length) else .error 3 := by
 rw [Qxm (r := r) ho hs hl hel (Qwg s) (by rw [hb, Qkm, Qtp];simp [List.append_assoc]) h0 h1]
 simp
theorem Qn6 (s : List UInt8) (σ : List Nat) : 138 <= (Qcu s σ).length := by
 rw [Qkm]
 simp only [List.length_append, Qmp, Qzw, Qfx, Qbx, List.length_map, List.length_range, Qaw]
 omega
theorem QC0 (a : List UInt8) (l : List Bool) : (Qas (a ++ Qby l)).drop (8 * a.length) = l ++ List.replicate (8 * ((l.length + 7) / 8) - l.length) false := by
 rw [Qg6, List.drop_left' (Qbe a), Qc7]
theorem QC1 {s : List UInt8} (hs : s ≠ []) (hl : s.length <= 200000) {v : Value} (h : Ql3 s v) : (enc s).length <= 262144 /\ ∃ σ, Ordered (enc s) σ /\ v = .tuple #[Qjh (Qcu s σ), .int .i64 0] := by
 have hel := Qiw s
 rw [Ql3, if_neg hs, if_neg (by omega)] at h
 exact ⟨by omega, h⟩
theorem Qwh {s a : List UInt8} {σ : List Nat} (ho : Ordered (enc s) σ) (hs : s ≠ []) (hl : s.length <= 262144) (hel : (enc s).length <= 262144) {most : Int} (h0 : 1 <= most) (h1 : most <= 262144) :
  Qn4 (a ++ Qby (Qcu s σ)) (8 * a.length : Nat) most = if ((enc s).length : Int) <= most then .ok (s, Qd6 s, 8 * a.length + (Qcu s σ).length) else .error 3 := by
 rw [Qn4, if_neg (by simp;omega), Int.toNat_natCast]
 exact Qzx ho hs hl hel (QC0 a _) h0 h1
theorem Ql4 (w : World) : Does Tryz.prog 15 #[] w fun v w' => Heap w [] w' [] /\ v = .bool true := by
 have hel := Qiw [97]
 simp only [List.length_cons, List.length_nil] at hel
 have he1 : (enc [97]).length = 1 := by
  have := List.length_pos_iff.2 (QCz (s := [97]) (by simp))
  omega
 have hcrc : Qd6 [97] = 429103979 := by kernel_rfl
 refine Qak (args := []) 58 Tryz.func15 rfl rfl (of_decide_eq_true rfl) ?_
 simp only [Env.ofArgs]
 refine VR [] rfl rfl fun K hK => ?_;simp only [go_sem,↓reduceIte,reduceEqDiff]
 (refine hK _ _ ?_;clear hK)
 refine VR [1, 2] rfl rfl fun K hK => ?_;simp only [go_sem,↓reduceIte,reduceEqDiff]
 refine Qag Tryz.call16 ?_;simp only [go_sem,↓reduceIte,reduceEqDiff];refine CallK.mk (Qi8 [97] (by simp) w) ?_
 rintro v w2 ⟨hH, hv⟩
 obtain ⟨-, σ, ho, rfl⟩ := QC1 (by simp) (by simp) hv
 have hpos := Qn6 [97] σ
 have htk := Qwh (a := []) (most := 1) ho (by simp) (by simp) (by omega) (by omega) (by omega)
 rw [if_pos (by omega), hcrc] at htk
 simp only [List.nil_append, List.length_nil, Nat.mul_zero, Nat.zero_add, Int.natCast_zero] at htk
 have hbl := Qtq ho (by simp) (by simp)
 simp only [List.length_cons, List.length_nil] at hbl
 generalize hB : Qcu [97] σ = B at *
 refine Qat (.agg #[.string ⟨#[]⟩, .int .i64 0]) (by kernel_rfl) ?_
 simp only [go_sem,↓reduceIte,reduceEqDiff]
 have hH2 := hH.box 24 [.string ⟨#[]⟩, .int .i64 0]
 generalize w2.alloc (Obj.cells [Value.string ⟨#[]⟩, .int .i64 0].toArray 24) = w3 at *
 generalize w2.heap.size = gb at *
 refine Qae ?_
 simp only [go_sem,↓reduceIte,reduceEqDiff]
 refine Qal hH2 0 (vs := Qbg B) rfl rfl (by kernel_rfl) (by simp [Qbg]) (Qdc _) fun w4 hH3 => ?_
 have hH4 : Heap w [] w4 [Res.blk gb 24 (Qbg B)] := hH3
 clear hH hH2 hH3
 (refine hK _ _ ?_;clear hK)
 refine VR [1, 2, 3, 4, 5, 6] rfl rfl fun K hK => ?_;simp only [go_sem,↓reduceIte,reduceEqDiff]
 refine ⟨_, Qac (hH4.at 0 rfl) (show (Qbg B)[0]? = some _ from rfl), ?_⟩
 refine Qag Tryz.call18 ?_;simp only [go_sem,↓reduceIte,reduceEqDiff];refine CallK.mk (Qgr (Qby B) 0 1 w4 (I64.mk (by omega) (by omega)) (I64.mk (by omega) (by omega)) (by rw [Qcb];omega)) ?_
 rintro v w5 ⟨hHt, rfl⟩
 have hH5 := hH4.call0 hHt
 simp only [List.nil_append] at hH5
 clear hH4 hHt
 rw [htk]
 unfold QJf
 simp only [go_sem,↓reduceIte,reduceEqDiff]
 (refine hK _ _ ?_;clear hK)
 refine VR [1, 2, 3, 4, 5, 6, 10] rfl rfl fun K hK => ?_;simp only [go_sem,↓reduceIte,reduceEqDiff]
 refine Qag Tryz.call18 ?_;simp only [go_sem,↓reduceIte,reduceEqDiff];refine CallK.mk (Qgr [0, 0, 0, 0, 0, 0] 0 1 w5 (I64.mk (by omega) (by omega)) (I64.mk (by omega) (by omega)) (by simp)) ?_
 rintro v w6 ⟨hHt, rfl⟩
 have hH6 := hH5.call0 hHt
 simp only [List.nil_append] at hH6
 clear hH5 hHt
 have hz : Qn4 [0, 0, 0, 0, 0, 0] 0 1 = .error 120 := by
  have h1 : hdS (Qas [0, 0, 0, 0, 0, 0]) 0 = (0, 0, 0, 120) := by decide
  rw [Qn4, if_neg (by simp), Qn3, show Int.toNat 0 = 0 from rfl, h1]
  rfl
 rw [hz]
 (refine hK _ _ ?_;clear hK)
 refine VR [0] rfl rfl fun K hK => ?_;simp only [go_sem,↓reduceIte,reduceEqDiff]
 (repeat (first | (refine ⟨fun _ => ?_, fun h => by first | omega | (simp at h;done) | (simp at h;omega)⟩;(try simp only [go_sem,↓reduceIte,reduceEqDiff])) | (refine ⟨_, Qac (hH6.at 0 rfl) (show ((Qbg B))[0]? = some _ from rfl), ?_⟩;(try simp only [go_sem,↓reduceIte,reduceEqDiff])) | (refine ⟨_, Qac (hH6.at 0 rfl) (show ((Qbg B))[1]? = some _ from rfl), ?_⟩;(try simp only [go_sem,↓reduceIte,reduceEqDiff])) ))
 (refine hK _ _ ?_;clear hK)
 exact Qan (Qax rfl rfl ⟨hH6.sub (by simp), by simp⟩)
theorem Qkn {P : Program} {T : TypeId} {cs : Array Value} {off : Nat} {v : Value} (hd : Qft (P.underlying T) = false) (hs : (P.underlying T).isSome = true) (hv : cs[off]? = some v) (w : World) : (part T cs off).run P w = .ok v w := by
 cases hu : P.underlying T with
 | none => simp [hu] at hs
 | some d =>
  have : (isAgg T).run P w = .ok false w := by
   cases d <;> first
    | (exfalso;simp [Qft, hu] at hd;done)
    | simp [isAgg, run_underlying hu]
  simp [part, this, hv]
def xorN (t b : List UInt8) : Nat -> List UInt8
 | 0 => t
 | i + 1 => (xorN t b i).set (6 + i) (t.getD (6 + i) 0 ^^^ b.getD i 0)
theorem Qxn (t b : List UInt8) (i : Nat) : (xorN t b i).length = t.length := by
 induction i with
 | zero => rfl
 | succ i ih => simp [xorN, ih]
theorem QFi (t b : List UInt8) : ∀ (i j : Nat), 6 + i <= j -> (xorN t b i).getD j 0 = t.getD j 0 := by
 intro i
 induction i with
 | zero => intro j _;rfl
 | succ i ih =>
  intro j hj
  rw [xorN, List.getD_eq_getElem?_getD, List.getElem?_set_ne (by omega), <- List.getD_eq_getElem?_getD]
  exact ih j (by omega)
theorem Qmr {a b : UInt8} (h : a ^^^ b = a) : b = 0 := by
 have h2 := congrArg (fun x => a ^^^ x) h
 simp only [<- UInt8.xor_assoc, UInt8.xor_self, UInt8.zero_xor] at h2
 exact h2
theorem ten {t : List UInt8} (h : 10 <= t.length) : ∃ a0 a1 a2 a3 a4 a5 a6 a7 a8 a9 r, t = a0 :: a1 :: a2 :: a3 :: a4 :: a5 :: a6 :: a7 :: a8 :: a9 :: r := by
 match t, h with
 | a0 :: a1 :: a2 :: a3 :: a4 :: a5 :: a6 :: a7 :: a8 :: a9 :: r, _ => exact ⟨a0, a1, a2, a3, a4, a5, a6, a7, a8, a9, r, rfl⟩
theorem QC2 {s : List UInt8} {σ : List Nat} (ho : Ordered (enc s) σ) (hs : s ≠ []) (hl : s.length <= 262144) (hel : (enc s).length <= 262144) {b0 b1 b2 b3 : UInt8} (hb : ¬ (b0 = 0 /\ b1 = 0 /\ b2 = 0 /\ b3 = 0)) :
  Qn3 (Qas (xorN (Qby (Qcu s σ)) [b0, b1, b2, b3] 4)) 0 262144 = .error 121 := by
 have hlen := Qcb (Qcu s σ)
 have hpos := Qn6 s σ
 obtain ⟨a0, a1, a2, a3, a4, a5, a6, a7, a8, a9, r, ht⟩ := ten (t := Qby (Qcu s σ)) (by omega)
 have hbits := Qc7 (Qcu s σ)
 generalize hpad : List.replicate (8 * (((Qcu s σ).length + 7) / 8) - (Qcu s σ).length) false = pad at hbits
 rw [ht, Qkm, Qtp] at hbits
 have e1 : Qas (a0 :: a1 :: a2 :: a3 :: a4 :: a5 :: a6 :: a7 :: a8 :: a9 :: r) = Qas [a0, a1, a2, a3, a4, a5] ++ (Qas [a6, a7, a8, a9] ++ Qas r) := by
  simp [Qas]
 rw [e1] at hbits
 simp only [List.append_assoc] at hbits
 obtain ⟨h1, h2⟩ := List.append_inj hbits (by rw [Qbe, Qaw];rfl)
 obtain ⟨h3, h4⟩ := List.append_inj h2 (by rw [Qbe, Qaw];rfl)
 have e2 : Qas (xorN (Qby (Qcu s σ)) [b0, b1, b2, b3] 4) = Qas [a0, a1, a2, a3, a4, a5] ++ (Qas [a6 ^^^ b0, a7 ^^^ b1, a8 ^^^ b2, a9 ^^^ b3] ++ Qas r) := by
  rw [ht]
  simp [xorN, Qas]
 have hY := Qim (Qas [a6 ^^^ b0, a7 ^^^ b1, a8 ^^^ b2, a9 ^^^ b3])
 have hYl := Qbe [a6 ^^^ b0, a7 ^^^ b1, a8 ^^^ b2, a9 ^^^ b3]
 simp only [List.length_cons, List.length_nil] at hYl
 have hlt := Qe1 (Qas [a6 ^^^ b0, a7 ^^^ b1, a8 ^^^ b2, a9 ^^^ b3])
 rw [hYl] at hY hlt
 generalize hsum : numB (Qas [a6 ^^^ b0, a7 ^^^ b1, a8 ^^^ b2, a9 ^^^ b3]) = sum at *
 have hne : Qd6 s ≠ sum := by
  rintro rfl
  have := Qks _ _ (hY.symm.trans h3.symm)
  simp only [List.cons.injEq, and_true] at this
  obtain ⟨q0, q1, q2, q3⟩ := this
  exact hb ⟨Qmr q0, Qmr q1, Qmr q2, Qmr q3⟩
 rw [Qxm (r := pad) (sum := sum) ho hs hl hel (by simpa using hlt) (by rw [List.drop_zero, e2, h1, <- hY, h4]) (by omega) (by omega), if_pos (by omega), if_pos hne]
theorem Qt7 (d : Nat) (b0 b1 b2 b3 : UInt8) (w : World) : (Op.equalIn (d + 2) 42 (.agg (Qao [b0, b1, b2, b3]).toArray) (.agg (Qao [0, 0, 0, 0]).toArray)).run Tryz.prog w = .ok (decide (b0 = 0 /\ b1 = 0 /\ b2 = 0 /\ b3 = 0)) w := by
 have hu := Tryz.underlying42
 have ui : Tryz.prog.underlying 5 = some (.int .u8) := by kernel_rfl
 have hz : Tryz.prog.szo 5 = some 1 := by kernel_rfl
 have a1 : Qft (Tryz.prog.underlying 5) = false := by rw [ui];rfl
 have a2 : (Tryz.prog.underlying 5).isSome = true := by rw [ui];rfl
 have q0 : ∀ (c0 c1 c2 c3 : Value) w, (part 5 #[c0, c1, c2, c3] 0).run Tryz.prog w = .ok c0 w := fun c0 c1 c2 c3 w => Qkn (P := Tryz.prog) (T := 5) (cs := #[c0, c1, c2, c3]) (off := 0) a1 a2 rfl w
 have q1 : ∀ (c0 c1 c2 c3 : Value) w, (part 5 #[c0, c1, c2, c3] 1).run Tryz.prog w = .ok c1 w := fun c0 c1 c2 c3 w => Qkn (P := Tryz.prog) (T := 5) (cs := #[c0, c1, c2, c3]) (off := 1) a1 a2 rfl w
 have q2 : ∀ (c0 c1 c2 c3 : Value) w, (part 5 #[c0, c1, c2, c3] 2).run Tryz.prog w = .ok c2 w := fun c0 c1 c2 c3 w => Qkn (P := Tryz.prog) (T := 5) (cs := #[c0, c1, c2, c3]) (off := 2) a1 a2 rfl w
 have q3 : ∀ (c0 c1 c2 c3 : Value) w, (part 5 #[c0, c1, c2, c3] 3).run Tryz.prog w = .ok c3 w := fun c0 c1 c2 c3 w => Qkn (P := Tryz.prog) (T := 5) (cs := #[c0, c1, c2, c3]) (off := 3) a1 a2 rfl w
 have he : ∀ (d : Nat) (n m : Int) (w : World), (Op.equalIn (d + 1) 5 (.int .u8 n) (.int .u8 m)).run Tryz.prog w = .ok (decide (n = m)) w := fun d n m w => by
  unfold Op.equalIn
  simp only [Sem.run_bind, run_underlying ui, Result.andThen_ok, Sem.run_pure, if_true]
  congr 1
 have hn : ∀ b : UInt8, ((b.toNat : Int) = 0) ↔ b = 0 := fun b => by
  constructor
  ·
   intro h;exact UInt8.toNat_inj.1 (show b.toNat = (0 : UInt8).toNat from (by have : (0 : UInt8).toNat = 0 := rfl;omega))
  ·
   rintro rfl;rfl
 have hm : ∀ b : UInt8, (b.toNat = 0) ↔ b = 0 := fun b => by rw [<- hn b];omega
 unfold Op.equalIn
 simp only [Sem.run_bind, run_underlying hu, Result.andThen_ok, Qd0 hz]
 simp only [Qao, List.map_cons, List.map_nil]
 simp
 simp only [show List.range' 0 4 = [0, 1, 2, 3] from rfl, List.forIn_cons, List.forIn_nil]
 by_cases c0 : b0 = 0
 ·
  by_cases c1 : b1 = 0
  ·
   by_cases c2 : b2 = 0
   ·
    by_cases c3 : b3 = 0 <;> simp [q0, q1, q2, q3, he, hn, hm, c0, c1, c2, c3, Sem.run_bind, Sem.run_pure]
   ·
    simp [q0, q1, q2, q3, he, hn, hm, c0, c1, c2, Sem.run_bind, Sem.run_pure]
  ·
   simp [q0, q1, q2, q3, he, hn, hm, c0, c1, Sem.run_bind, Sem.run_pure]
 ·
  simp [q0, q1, q2, q3, he, hn, hm, c0, Sem.run_bind, Sem.run_pure]
theorem Qzy (b0 b1 b2 b3 : UInt8) (w : World) : (Op.equal 42 (.agg (Qao [b0, b1, b2, b3]).toArray) (.agg (Qao [0, 0, 0, 0]).toArray)).run Tryz.prog w = .ok (decide (b0 = 0 /\ b1 = 0 /\ b2 = 0 /\ b3 = 0)) w := Qt7 9998 b0 b1 b2 b3 w
theorem QMi {w : World} {KV : Value -> Prop} (b0 b1 b2 b3 : UInt8) (xo yo : Operand) : Qbr Tryz.prog .eql 42 xo yo (.agg (Qao [b0, b1, b2, b3]).toArray) (.agg (Qao [0, 0, 0, 0]).toArray) w KV = KV (.bool (decide (b0 = 0 /\ b1 = 0 /\ b2 = 0 /\ b3 = 0))) := by
 refine Qlq fun w' => ?_
 have hg : (eqGuard .eql 42 xo yo (.agg (Qao [b0, b1, b2, b3]).toArray) (.agg (Qao [0, 0, 0, 0]).toArray)).run Tryz.prog w' = .ok () w' := by
  have h1 : Tryz.prog.eqGuardType Tryz.prog.depth 42 = false := by kernel_rfl
  have hpr : (program).run Tryz.prog w' = .ok Tryz.prog w' := rfl
  unfold eqGuard
  simp [Sem.run_bind, hpr, h1]
 simp only [Sem.run_bind]
 rw [hg]
 simp only [Result.andThen_ok, binOp, Sem.run_bind, Qzy, Sem.run_pure]
theorem QMj {KV : Value -> Prop} : Qc0 Tryz.prog 42 [] KV = KV (.agg (Qao [0, 0, 0, 0]).toArray) := Qha (by kernel_rfl)
set_option maxHeartbeats 2000000
theorem blockSums_law (s : List UInt8) (b0 b1 b2 b3 : UInt8) (w : World) (hs : s.length <= 140737488355328) : Does Tryz.prog 6 #[Str s, .agg (Qao [b0, b1, b2, b3]).toArray] w fun v w' => Heap w [] w' [] /\ v = .bool true := by
 refine Qak (args := [Str s, .agg (Qao [b0, b1, b2, b3]).toArray]) 81 Tryz.func6 rfl rfl (of_decide_eq_true rfl) ?_
 simp only [Env.ofArgs]
 refine VR [0, 3] rfl rfl fun K hK => ?_;simp only [go_sem,↓reduceIte,reduceEqDiff]
 refine Qcg ?_
 simp only [go_sem,↓reduceIte,reduceEqDiff]
 have hH := (Heap.start w).box 42 (Qao [b0, b1, b2, b3])
 generalize w.alloc (Obj.cells (Qao [b0, b1, b2, b3]).toArray 42) = w1 at *
 generalize w.heap.size = g3 at *
 (refine hK _ _ ?_;clear hK)
 refine VR [0, 3, 24] rfl rfl fun K hK => ?_;simp only [go_sem,↓reduceIte,reduceEqDiff]
 suffices out : ∀ b : Bool, (b = true ↔ s = [] ∨ 2000 < s.length ∨ (b0 = 0 /\ b1 = 0 /\ b2 = 0 /\ b3 = 0)) -> K [(0, Str s), (3, .pointer (some ⟨g3, 0, none⟩)), (24, .bool b)] w1 by
  refine ⟨fun h1 => ⟨fun h2 => ⟨Qao [b0, b1, b2, b3], ⟨rfl, Qa1 (hH.at 0 rfl)⟩, ?_⟩, fun h2 => out _ ?_⟩, fun h1 => out _ (by simp [h1])⟩
  ·
   rw [QMj, QMi]
   exact out _ (by simp [h1, show ¬ 2000 < s.length by omega])
  ·
   have : 2000 < s.length := by omega
   simp [this]
 intro b hb
 (refine hK _ _ ?_;clear hK)
 refine Qab rfl rfl (fun h => ?_) (fun h => Qaf ?_)
 ·
  refine VR [4] rfl rfl fun K hK => ?_;simp only [go_sem,↓reduceIte,reduceEqDiff]
  refine Qag Tryz.call15 ?_;simp only [go_sem,↓reduceIte,reduceEqDiff];refine CallK.mk (Ql4 w1) ?_
  rintro v w2 ⟨hH2, rfl⟩
  (try simp only [go_sem,↓reduceIte,reduceEqDiff])
  (refine hK _ _ ?_;clear hK)
  exact Qan (Qax rfl rfl ⟨(hH.call0 hH2).sub (by simp), rfl⟩)
 have hne : s ≠ [] := fun e => by rw [hb.2 (.inl e)] at h;cases h
 have hl : s.length <= 2000 := Nat.le_of_not_lt fun e => by rw [hb.2 (.inr (.inl e))] at h;cases h
 have hby : ¬ (b0 = 0 /\ b1 = 0 /\ b2 = 0 /\ b3 = 0) := fun e => by rw [hb.2 (.inr (.inr e))] at h;cases h
 clear hb h
 refine VR [3, 5, 6] rfl rfl fun K hK => ?_;simp only [go_sem,↓reduceIte,reduceEqDiff]
 refine Qag Tryz.call16 ?_;simp only [go_sem,↓reduceIte,reduceEqDiff];refine CallK.mk (Qi8 s (by omega) w1) ?_
 rintro v w2 ⟨hHm, hv⟩
 obtain ⟨hel, σ, ho, rfl⟩ := QC1 hne (by omega) hv
 have hbl := Qtq ho hne (by omega)
 have hpos := Qn6 s σ
 have hst := QC2 ho hne (by omega) hel hby
 have htl := Qcb (Qcu s σ)
 have hH2 := hH.call0 hHm
 simp only [List.nil_append] at hH2
 clear hH hHm
 generalize Qcu s σ = B at *
 (try simp only [go_sem,↓reduceIte,reduceEqDiff])
 refine Qat (.agg #[.string ⟨#[]⟩, .int .i64 0]) (by kernel_rfl) ?_
 simp only [go_sem,↓reduceIte,reduceEqDiff]
 have hH3 := hH2.box 24 [.string ⟨#[]⟩, .int .i64 0]
 generalize w2.alloc (Obj.cells [Value.string ⟨#[]⟩, .int .i64 0].toArray 24) = w3 at *
 generalize w2.heap.size = gb at *
 refine Qae ?_
 simp only [go_sem,↓reduceIte,reduceEqDiff]
 refine Qal hH3 0 (vs := Qbg B) rfl rfl (by kernel_rfl) (by simp [Qbg]) (Qdc _) fun w4 hH4 => ?_
 have hH5 : Heap w [] w4 (Res.blk gb 24 (Qbg B) :: [Res.blk g3 42 (Qao [b0, b1, b2, b3])]) := hH4
 clear hH2 hH3 hH4
 (try simp only [go_sem,↓reduceIte,reduceEqDiff])
 (refine hK _ _ ?_;clear hK)
 refine VR [3, 5, 38] rfl rfl fun K hK => ?_;simp only [go_sem,↓reduceIte,reduceEqDiff]
 refine ⟨fun _ => ⟨_, Qac (hH5.at 0 rfl) (show (Qbg B)[0]? = some _ from rfl), ?_⟩, fun h => by simp at h⟩
 (try simp only [go_sem,↓reduceIte,reduceEqDiff])
 (refine hK _ _ ?_;clear hK)
 refine Qab rfl rfl (fun h => by simp at h;omega) (fun h => Qaf ?_)
 clear h
 generalize ht : Qby B = t at *
 refine VR [3, 7] rfl rfl fun K hK => ?_;simp only [go_sem,↓reduceIte,reduceEqDiff]
 refine ⟨_, Qac (hH5.at 0 rfl) (show (Qbg B)[0]? = some _ from rfl), ?_⟩
 rw [ht]
 (try simp only [go_sem,↓reduceIte,reduceEqDiff])
 refine Qk1 ?_
 simp only [go_sem,↓reduceIte,reduceEqDiff]
 refine Qk2 hH5 Tryz.underlying9 Tryz.underlying43 Tryz.underlying5 (by omega) fun gt ct w5 hH6 => ?_
 have hH7 := hH6.perm (.swap _ _ _)
 have hH8 := (hH7.sub (List.sublist_cons_self _ _))
 clear hH5 hH6 hH7
 (try simp only [go_sem,↓reduceIte,reduceEqDiff])
 (refine hK _ _ ?_;clear hK)
 generalize hn : t.length = n at *
 refine VR [3, 7, 8] rfl rfl fun K hK => ?_;simp only [go_sem,↓reduceIte,reduceEqDiff]
 ((repeat refine And.intro (by omega) ?_);refine hK _ _ ?_;clear hK)
 refine Qad ?_
 refine Qam [3, 7, 8] (fun m e w' => ∃ (i : Nat), Is e [(3, .pointer (some ⟨g3, 0, none⟩)), (7, .slice (some ⟨gt, 0, none⟩) n ct), (8, .int .i64 i)] /\ Heap w [] w' [Res.row 5 1 (some ⟨gt, 0, none⟩) n ct (Qao (xorN t [b0, b1, b2, b3] i)), Res.blk g3 42 (Qao [b0, b1, b2, b3])] /\ i <= 4 /\ m = 4 - i) 4 ?_ ?_
 ·
  simp only [go_sem,↓reduceIte,reduceEqDiff]
  exact ⟨0, rfl, hH8, by omega, rfl⟩
 clear hH8
 rintro m e w6 ⟨i, rfl, hH, hi, rfl⟩
 refine VR [3, 7, 8, 43] rfl rfl fun K hK => ?_;simp only [go_sem,↓reduceIte,reduceEqDiff]
 ((repeat refine And.intro (by omega) ?_);refine hK _ _ ?_;clear hK)
 (repeat refine Qai ?_)
 refine Qab rfl rfl (fun h => ?_) (fun h => ?_)
 ·
  simp only [decide_eq_true_eq] at h
  refine Qaf ?_
  ((repeat refine Qai ?_);refine Qad ?_)
  have hln := Qxn t [b0, b1, b2, b3] i
  have hgt := QFi t [b0, b1, b2, b3] i (6 + i) (Nat.le_refl _)
  (repeat refine Qai ?_);refine Qa8 [3, 7, 8] 10 (by kernel_rfl) (by kernel_rfl) (by kernel_rfl) rfl fun K hK => ?_;simp only [go_sem,↓reduceIte,reduceEqDiff]
  rw [show ((6 : Int) + i).toNat = 6 + i by omega]
  refine ⟨I64.mk (by omega) (by omega), ⟨by omega, by omega⟩, _, Qaa (hH.at 0 rfl) (bytesV_get (by omega)), ⟨by omega, by omega⟩, _, Qac (hH.at 1 rfl) (bytesV_get (by simp;omega)), ?_⟩
  (try simp only [go_sem,↓reduceIte,reduceEqDiff])
  rw [hgt]
  have hx1 := (t.getD (6 + i) 0).toNat_lt
  have hx2 := ([b0, b1, b2, b3].getD i 0).toNat_lt
  have hxx : xorN t [b0, b1, b2, b3] (i + 1) = (xorN t [b0, b1, b2, b3] i).set (6 + i) (t.getD (6 + i) 0 ^^^ [b0, b1, b2, b3].getD i 0) := rfl
  refine ⟨⟨by omega, by omega⟩, ⟨by omega, by omega⟩, ⟨by omega, by omega⟩, ?_⟩
  rw [<- UInt8.toNat_xor]
  generalize t.getD (6 + i) 0 ^^^ [b0, b1, b2, b3].getD i 0 = z at *
  generalize hX : xorN t [b0, b1, b2, b3] i = X at *
  refine Qae ?_;simp only [go_sem,↓reduceIte,reduceEqDiff];refine Qbd hH 0 (o := (6 + i)) (vs := [.int .u8 z.toNat]) rfl (by first | exact (Qbp _ _ _).symm | rfl | simp [Qbp]) rfl (by kernel_rfl) (by first | omega | (simp;omega) | (simp [Qao, Qbm];omega) | (rw [Qar];simp;omega)) (by simp [Value.oneCell']) fun w6 hH2 => ?_;(try simp only [go_sem,↓reduceIte,reduceEqDiff])
  simp only [List.length_singleton, Qb1 (Qao X) _ _ (show 6 + i < (Qao X).length by rw [Qeq];omega), Qg1, <- hxx, List.set_cons_zero] at hH2
  clear hH
  (refine hK _ _ ?_;clear hK)
  refine Qav ?_
  refine VR [3, 7, 8] rfl rfl fun K hK => ?_;simp only [go_sem,↓reduceIte,reduceEqDiff]
  ((repeat refine And.intro (by omega) ?_);refine hK _ _ ?_;clear hK)
  refine Qah ?_
  simp only [go_sem,↓reduceIte,reduceEqDiff]
  exact ⟨4 - (i + 1), by omega, i + 1, rfl, hH2, by omega, rfl⟩
 simp only [decide_eq_false_iff_not] at h
 obtain rfl : i = 4 := by omega
 have hX4 := Qxn t [b0, b1, b2, b3] 4
 generalize hX : xorN t [b0, b1, b2, b3] 4 = X at *
 have hXl : X.length = n := by omega
 have htk : Qn4 X 0 262144 = .error 121 := by
  rw [Qn4, if_neg (by omega)]
  exact hst
 subst hXl
 refine Qap rfl ?_
 refine VR [9, 10, 11, 12] rfl rfl fun K hK => ?_;simp only [go_sem,↓reduceIte,reduceEqDiff]
 refine ⟨X, Qe4 (Qbo (hH.at 0 rfl)), ?_⟩
 (try simp only [go_sem,↓reduceIte,reduceEqDiff])
 refine Qag Tryz.call18 ?_;simp only [go_sem,↓reduceIte,reduceEqDiff];refine CallK.mk (Qgr X 0 262144 w6 (I64.mk (by omega) (by omega)) (I64.mk (by omega) (by omega)) (by omega)) ?_
 rintro v w7 ⟨hHt, rfl⟩
 have hH7 := hH.call0 hHt
 simp only [List.nil_append] at hH7
 clear hH hHt
 rw [htk]
 unfold QJf
 (try simp only [go_sem,↓reduceIte,reduceEqDiff])
 (refine hK _ _ ?_;clear hK)
 refine VR [4] rfl rfl fun K hK => ?_;simp only [go_sem,↓reduceIte,reduceEqDiff]
 (repeat (first | (refine ⟨fun _ => ?_, fun h => by first | omega | (simp at h;done) | (simp at h;omega)⟩;(try simp only [go_sem,↓reduceIte,reduceEqDiff])) | (refine ⟨_, Qac (hH7.at 1 rfl) (show ((Qao [b0, b1, b2, b3]))[0]? = some _ from rfl), ?_⟩;(try simp only [go_sem,↓reduceIte,reduceEqDiff])) | (refine ⟨_, Qac (hH7.at 1 rfl) (show ((Qao [b0, b1, b2, b3]))[1]? = some _ from rfl), ?_⟩;(try simp only [go_sem,↓reduceIte,reduceEqDiff])) ))
 refine Qag Tryz.call15 ?_;simp only [go_sem,↓reduceIte,reduceEqDiff];refine CallK.mk (Ql4 w7) ?_
 rintro v w8 ⟨hH8, rfl⟩
 (try simp only [go_sem,↓reduceIte,reduceEqDiff])
 (refine hK _ _ ?_;clear hK)
 exact Qan (Qax rfl rfl ⟨(hH7.call0 hH8).sub (by simp), rfl⟩)
end Go.Proofs.YtfphmlhgebpojaaGreat
