/- A program logic over the model, and what this program's functions do by it: part 6. No conditions: a library of lemmas. -/
import Derived.Test.YtfphmlhgebpojaaGreatK5
open Nat (reduceEqDiff)
set_option linter.unusedSimpArgs false
set_option linter.unusedVariables false
set_option maxRecDepth 100000
namespace Go.Proofs.YtfphmlhgebpojaaGreat
open Go Go.Eng
set_option maxHeartbeats 4000000
theorem QFm {C : Ctx} {e : Env} {w : World} {t u : Tmp} {T U : TypeId} {a b : Addr} (hr : C.fn.results = #[.cell t T, .cell u U]) (ht : e.find? t = some (.pointer (some a))) (hu : e.find? u = some (.pointer (some b)))
  (h : Qby C.P T (.pointer (some a)) w fun v => Qby C.P U (.pointer (some b)) w fun x => C.F (.tuple #[v, x]) w) : VX C [] .ret e w := by
 intro ac n ha
 obtain ⟨v, hv, r1⟩ := Qc2 h
 obtain ⟨x, hv, r2⟩ := Qc2 hv
 refine ⟨ha.defers, .tuple #[v, x], ?_, _, w, n, rfl, rfl, hv⟩
 have h1 := ha.at_ t _ ht
 rw [Array.getD_eq_getD_getElem?] at h1
 have h2 := ha.at_ u _ hu
 rw [Array.getD_eq_getD_getElem?] at h2
 have q1 := r1 (w.drewN n) (Ext.drewN w n)
 have q2 := r2 (w.drewN n) (Ext.drewN w n)
 simp [results, hr, h1, h2, asAddr, q1, q2]
theorem Qzo {w1 : World} {N g6 g7 : Nat} {x y : Value} {F : Value -> World -> Prop} (h6 : (Res.blk g6 9 [x]).holds w1) (h7 : (Res.blk g7 25 [y]).holds w1) (hF : F (.tuple #[x, y]) w1) :
  VX ⟨Tryz.prog, Tryz.f24, F, N⟩ [] .ret [(6, pt g6), (7, pt g7)] w1 := by
 refine QFm rfl rfl rfl ?_
 refine Qgb h6 (by kernel_rfl) (by kernel_rfl) ?_
 exact Qgb h7 (by kernel_rfl) (by kernel_rfl) hF
def QL8 (s : List UInt8) (most : Int) (hd : List Bool) (r : Loop) (dr g6 g7 g8 g9 : Nat) (rest : List UInt8) (G : List Res) : Prop :=
 ∃ (ps : List (List UInt8)) (bs : List (List Bool)) (ga c1 : Nat) (a2 : Option Addr) (c2 : Nat), PBs ps bs /\ ps ++ cutS rest most = cutS s most /\ rest.length <= 262144 /\
  G = [Res.obj (dr + 1) (.loop r), Res.obj dr (.deferred (some [])), Res.blk g9 102 [.slice a2 ps.length c2], Res.row 31 1 a2 ps.length c2 (u32V (ps.map Qbk)),
   Res.blk g8 101 [.slice (some ⟨ga, 0, none⟩) (ps.length + 1) c1], Res.row 24 2 (some ⟨ga, 0, none⟩) (ps.length + 1) c1 (Qcu (hd :: bs)), Res.blk g7 25 [.int .i64 0], Res.blk g6 9 [.string ⟨#[]⟩]]
theorem Qhl (s : List UInt8) (level most : Int) (w : World) (hl : I64 level) (hm : I64 most) (hs : s.length <= 140737488355328) :
  Does Tryz.prog 24 #[Str s, .int .i64 level, .int .i64 most] w fun v w' => Heap w [] w' [] /\ PackOk s level most v := by
 refine Qn0 (args := [Str s, .int .i64 level, .int .i64 most]) 87 Tryz.func24 rfl rfl (of_decide_eq_true rfl) ?_
 simp only [Env.ofArgs, Nat.reduceAdd]
 refine GQ [0, 1, 2, 6, 7] fun K hK => ?_
 refine Qal (.string ⟨#[]⟩) (by kernel_rfl) ?_
 refine Qs ?_
 have hH := (Heap.start w).box 9 [.string ⟨#[]⟩]
 generalize w.alloc (Obj.cells [Value.string ⟨#[]⟩].toArray 9) = w1 at *
 generalize w.heap.size = g6 at *
 refine Qal (.int .i64 0) (by kernel_rfl) ?_
 refine Qs ?_
 have hH2 : Heap w [] _ _ := hH.box 25 [.int .i64 0]
 generalize w1.alloc (Obj.cells [Value.int IntKind.i64 0].toArray 25) = w2 at *
 generalize w1.heap.size = g7 at *
 apply hK;clear hK
 clear hH
 have bad : ∀ (e : Int) {N : Nat} {w4 : World}, PackOk s level most (.tuple #[Str [], .int .i64 e]) -> Heap w [] w4 [Res.blk g7 25 [.int .i64 e], Res.blk g6 9 [Str []]] ->
   VX ⟨Tryz.prog, Tryz.f24, fun v w' => Heap w [] w' [] /\ PackOk s level most v, N⟩ [] .ret [(6, pt g6), (7, pt g7)] w4 :=
  fun e N w4 hp hh => Qzo (hh.at 1 rfl) (hh.at 0 rfl) ⟨hh.sub (by simp), hp⟩
 refine GQ [0, 1, 2, 6, 7, 31] fun K hK => ?_
 suffices out : ∀ b : Bool, (b = true ↔ level < 1 ∨ 9 < level ∨ most < 1 ∨ min (level * 100000) 262144 < most) -> K [(0, Str s), (1, .int .i64 level), (2, .int .i64 most), (6, pt g6), (7, pt g7), (31, .bool b)] w2 by
  refine ⟨fun h1 => ⟨fun h2 => ⟨fun h3 => ?_, fun h3 => out _ (by simp;omega)⟩, fun h2 => out _ (by simp;omega)⟩, fun h1 => out _ (by simp;omega)⟩
  refine Qaa Tryz.call61 ?_;refine Qs ?_;refine CallK.mk (Qt4 level w2 (by omega)) ?_
  rintro v w3 ⟨rfl, rfl⟩
  (try refine Qs ?_)
  exact out _ (by simp;omega)
 intro b hb
 apply hK;clear hK
 (repeat with_reducible refine Qcz ?_)
 refine Qfp rfl rfl (fun h => ?_) (fun h => Qg6 ?_)
 ·
  have hbad := hb.1 h
  refine GQ [6, 7] fun K hK => ?_
  refine Qab ?_
  refine Qs ?_
  refine Qae hH2 1 (vs := [Str []]) rfl rfl (by kernel_rfl) (by simp) (by simp [Value.oneCell']) fun w3 hH3 => ?_
  (try refine Qs ?_)
  refine Qab ?_
  refine Qs ?_
  refine Qae hH3 0 (vs := [.int .i64 2]) rfl rfl (by kernel_rfl) (by simp) (by simp [Value.oneCell']) fun w4 hH4 => ?_
  (try refine Qs ?_)
  apply hK;clear hK
  exact Qts (ret0 (bad 2 (by rw [PackOk, if_pos hbad]) hH4))
 have hg : ¬ (level < 1 ∨ 9 < level ∨ most < 1 ∨ min (level * 100000) 262144 < most) := fun hh => by rw [hb.2 hh] at h;cases h
 clear hb h
 refine GS [0, 1, 2, 6, 7, 34] ?_
 (repeat with_reducible refine Qcz ?_)
 refine Qfp rfl rfl (fun h => ?_) (fun h => Qg6 ?_)
 ·
  simp only [decide_eq_true_eq] at h
  refine GQ [6, 7] fun K hK => ?_
  refine Qab ?_
  refine Qs ?_
  refine Qae hH2 1 (vs := [Str []]) rfl rfl (by kernel_rfl) (by simp) (by simp [Value.oneCell']) fun w3 hH3 => ?_
  (try refine Qs ?_)
  refine Qab ?_
  refine Qs ?_
  refine Qae hH3 0 (vs := [.int .i64 3]) rfl rfl (by kernel_rfl) (by simp) (by simp [Value.oneCell']) fun w4 hH4 => ?_
  (try refine Qs ?_)
  apply hK;clear hK
  exact Qts (ret0 (bad 3 (by rw [PackOk, if_neg hg, if_pos (by omega)]) hH4))
 simp only [decide_eq_false_iff_not] at h
 have hsl : s.length <= 262144 := by omega
 clear h bad
 obtain ⟨lv, rfl⟩ : ∃ n : Nat, level = n := ⟨level.toNat, by omega⟩
 have hc0 : (UInt8.ofNat (48 + lv)).toNat = 48 + lv := Qgj (by omega)
 obtain ⟨hd, hhd⟩ : ∃ hd, hd = Qap [66, 90, 104, UInt8.ofNat (48 + lv)] := ⟨_, rfl⟩
 have hbv : Qa7 hd = [Str [66, 90, 104, UInt8.ofNat (48 + lv)], .int .i64 32] := by
  unfold Qa7
  rw [hhd, Qma, Qax]
  rfl
 refine GQ [0, 2, 6, 7, 8] fun K hK => ?_
 (repeat first | refine Qo ?_ | refine Qp ?_)
 rw [show ((48 : Int) + lv) % 256 = ((UInt8.ofNat (48 + lv)).toNat : Int) by omega]
 refine Qc1 hH2 (Qao [UInt8.ofNat (48 + lv)]) (xs := [.tmp 37]) Tryz.underlying43 sz5 rfl rfl rfl (by omega) ?_;refine Qs ?_;refine ⟨rfl, by simp [Value.cells], fun g w4 hH3 => ?_⟩;(try refine Qs ?_)
 refine ⟨[UInt8.ofNat (48 + lv)], hH3.readsBytes 0 rfl, ?_⟩
 (try refine Qs ?_)
 refine And.intro (by simp) ?_
 refine Qd7 hH3 2 (Qa7 hd) (xs := [.tmp 41]) Tryz.underlying101 sz24 rfl rfl rfl (by omega) (by omega) ?_
 refine Qs ?_
 refine ⟨by rw [hbv];simp [Value.cells], by simp [Value.cells], fun ga w4 hH4 => ?_⟩
 (try refine Qs ?_)
 refine Qal (.slice none 0 0) (by kernel_rfl) ?_
 refine Qs ?_
 have hH5 := hH4.box 101 [.slice none 0 0]
 generalize w4.alloc (Obj.cells [Value.slice none 0 0].toArray 101) = w5 at *
 generalize w4.heap.size = g8 at *
 refine Qab ?_
 refine Qs ?_
 refine Qae hH5 0 (vs := [.slice (some ⟨ga, 0, none⟩) 1 1]) rfl rfl (by kernel_rfl) (by simp) (by simp [Value.oneCell']) fun w6 hH6 => ?_
 (try refine Qs ?_)
 apply hK;clear hK
 have hH6 := hH6.sub (.cons_cons _ (.cons_cons _ (.cons _ (.refl _))))
 clear hH2 hH3 hH4 hH5
 refine GQ [0, 2, 6, 7, 8, 9] fun K hK => ?_
 refine Qal (.slice none 0 0) (by kernel_rfl) ?_
 refine Qs ?_
 have hH7 := (hH6.nilRow 31 1).box 102 [.slice none 0 0]
 generalize w6.alloc (Obj.cells [Value.slice none 0 0].toArray 102) = w7 at *
 generalize w6.heap.size = g9 at *
 apply hK;clear hK
 refine GQ [6, 7, 8, 9, 45] fun K hK => ?_
 refine Qaa Tryz.call62 ?_;refine Qs ?_;refine CallK.mk (QB3 s most w7) ?_
 rintro v w8 ⟨gs, gm, hHp, rfl⟩
 have hH8 := hH7.call0 hHp
 clear hHp hH7 hH6
 have hH9 : Heap w [] w8 [Res.blk gs 9 [Str s], Res.blk gm 3 [.int .i64 most], Res.blk g9 102 [.slice none 0 0], Res.row 31 1 none 0 0 [], Res.blk g8 101 [.slice (some ⟨ga, 0, none⟩) 1 1], Res.row 24 2 (some ⟨ga, 0, none⟩) 1 1 (Qa7 hd), Res.blk g7 25 [.int .i64 0], Res.blk g6 9 [.string ⟨#[]⟩]] := hH8
 clear hH8
 (try refine Qs ?_)
 apply hK;clear hK
 ((repeat with_reducible refine Qcz ?_);refine Qm4 ?_)
 refine Qtz rfl rfl (fun _ _ => rfl) fun r r1 r2 r3 r4 r5 r6 r7 r8 => ?_
 generalize hdr : w8.heap.size = dr at *
 have hH10 := (hH9.newObj (.deferred (some []))).newObj (.loop r)
 rw [show (w8.alloc (.deferred (some []))).heap.size = dr + 1 by rw [<- hdr];show (w8.heap.push _).size = _;rw [Array.size_push], hdr] at hH10
 clear r6
 generalize (w8.alloc (Obj.deferred (some []))).alloc (Obj.loop r) = wl at *
 have hH11 := (hH10.front 3 rfl).front 3 rfl
 clear hH10 hH9
 refine (Qsv (dr + 1) gs gm most w [] (QL8 s most hd r dr g6 g7 g8 g9) ?_ s hs ⟨by omega, by omega⟩ (fun t ht => ⟨(Ql7 ht (by omega)).1, (Ql7 ht (by omega)).2.1⟩) _ ⟨[], [], ga, 1, none, 0, trivial, rfl, hsl, by simp [Qcu, u32V]⟩ wl hH11).mono ?_ (fun _ _ h => h)
 ·
  clear hH11 hdr w8 wl
  rintro rest G w9 hne ⟨ps, bs, ga, c1, a2, c2, hpb, hcut, hrl, rfl⟩ hHr
  obtain ⟨f1, f2, f3⟩ := Ql7 hne (show 1 <= most by omega)
  have hcs := Qo8 hne (show 1 <= most by omega)
  have hpl : ps.length <= 262144 := by
   have h1 := congrArg List.length hcut
   have h2 := (Qsq (show 1 <= most by omega) s.length s (Nat.le_refl _)).2.1
   rw [List.length_append] at h1
   omega
  have hbl := Qo9 _ _ hpb
  have hdl : (rest.drop (fit rest most)).length <= 262144 := by rw [List.length_drop];omega
  have hp1 : (rest.take (fit rest most)).length <= 262144 := by rw [List.length_take];omega
  have hp2 : rest.take (fit rest most) ≠ [] := by
   intro h0
   have := congrArg List.length h0
   rw [List.length_take, List.length_nil] at this
   omega
  generalize rest.take (fit rest most) = part at *
  generalize rest.drop (fit rest most) = rest2 at *
  rw [hcs, List.append_cons] at hcut
  clear hcs f1 f2 hne hrl
  refine Qt0 (N := 87) (e := (46, Str part) :: [(6, pt g6), (7, pt g7), (8, pt g8), (9, pt g9), (45, .func (.func 122) #[] #[pt gs, pt gm])]) (hHr.at 2 rfl) r1 r7 (by rw [r3];rfl) ?_ ?_
  ·
   intro t v ht
   rw [r3, show (#[46].zip [Str part].toArray) = #[(46, Str part)] by first | rfl | simp | (apply Array.ext';simp)]
   show (r.tmps.setIfInBounds 46 (Str part)).getD t undef = v
   rw [Env.find?] at ht
   split at ht
   ·
    rename_i h46
    subst h46
    cases ht
    rw [Array.getD_eq_getD_getElem?, Array.getElem?_setIfInBounds_self_of_lt (by rw [r7];decide)]
    rfl
   ·
    rename_i h46
    rw [Array.getD_eq_getD_getElem?, Array.getElem?_setIfInBounds_ne (by exact fun h => h46 h.symm), <- Array.getD_eq_getD_getElem?]
    exact r8 t v ht
  refine (congrArg (fun c => VG _ [.code c] _ _) r4).mpr ?_
  refine GS [6, 7, 8, 9, 10] ?_
  refine Qqc fun a n hf => ⟨rfl, _, _, n, rfl, hf, hHr.at 2 rfl, ?_⟩
  have hHb := (hHr.front 2 rfl).put (.loop { r with state := .busy })
  generalize w9.putObj (dr + 1) (Obj.loop { r with state := .busy }) = wb at *
  clear hHr hf a n w9
  refine (congrArg (fun c => VG _ [.code c] _ _) r5).mpr ?_
  clear r3 r4 r5 r7 r8
  ((repeat with_reducible refine Qcz ?_);refine Qm4 ?_)
  refine GQ [6, 7, 8, 9, 10, 11, 12] fun K hK => ?_
  refine Qaa Tryz.call16 ?_;refine Qs ?_;refine CallK.mk (Qpy part (by omega) wb) ?_
  rintro v w1 ⟨hHm, hv⟩
  have hHc := hHb.call0 hHm
  simp only [List.nil_append] at hHc
  clear hHm hHb
  rw [Qo7, if_neg hp2, if_neg (by omega)] at hv
  obtain ⟨σ, ho, rfl⟩ := hv
  have hPB : PB part (Qe6 part σ) := ⟨σ, ho, rfl⟩
  generalize Qe6 part σ = B at *
  (try refine Qs ?_)
  refine Qal (.agg #[.string ⟨#[]⟩, .int .i64 0]) (by kernel_rfl) ?_
  refine Qs ?_
  have hHd := hHc.box 24 [.string ⟨#[]⟩, .int .i64 0]
  generalize w1.alloc (Obj.cells [Value.string ⟨#[]⟩, .int .i64 0].toArray 24) = w2 at *
  generalize w1.heap.size = g11 at *
  refine Qab ?_
  refine Qs ?_
  refine Qae hHd 0 (vs := Qa7 B) rfl rfl (by kernel_rfl) (by simp [Qa7]) (Qbt _) fun w3 hHe => ?_
  clear hHc hHd
  (try refine Qs ?_)
  apply hK;clear hK
  refine GS [6, 7, 8, 9, 10, 11, 53] ?_
  (repeat with_reducible refine Qcz ?_)
  refine Qfp rfl rfl (fun h => by simp at h) (fun h => Qg6 ?_)
  clear h
  refine GQ [6, 7, 8, 9, 10] fun K hK => ?_
  refine ⟨_, Qaf (hHe.at 7 rfl) rfl, ?_⟩
  (try refine Qs ?_)
  refine ⟨Qa7 B, ⟨rfl, Qa1 (hHe.at 0 rfl)⟩, ?_⟩
  (try refine Qs ?_)
  refine Qd7 hHe 2 (Qa7 B) (xs := [.tmp 56]) Tryz.underlying101 sz24 rfl rfl rfl (by omega) (by omega) ?_
  refine Qs ?_
  refine ⟨by simp [Qa7, Value.cells], by simp [Qa7, Value.cells], fun gl w4 hHf => ?_⟩
  (try refine Qs ?_)
  refine Qau ?_
  refine Qs ?_
  refine Qca (zs := #[.string ⟨#[]⟩, .int .i64 0]) (bytes := 24) hHf 9 rfl Tryz.underlying101 (by kernel_rfl) rfl ⟨rfl, Qa8 (hHf.at 0 rfl), 24, Tryz.underlying101⟩ (Qbt _) (fun h => by omega) fun a' cap' w5 hc' hHg => ?_
  (try refine Qs ?_)
  refine Qab ?_
  refine Qs ?_
  refine Qae hHg 8 (vs := [.slice a' (ps.length + 1 + 1) cap']) rfl rfl (by kernel_rfl) (by simp) (by simp [Value.oneCell']) fun w6 hHh => ?_
  simp only [List.set_cons_succ, List.set_cons_zero] at hHh
  rw [Qec, List.cons_append] at hHh
  have hHi : Heap w [] w6 [Res.obj (dr + 1) (.loop { r with state := .busy }), Res.blk gs 9 [Str rest], Res.blk gm 3 [.int .i64 most], Res.obj dr (.deferred (some [])), Res.blk g9 102 [.slice a2 ps.length c2], Res.row 31 1 a2 ps.length c2 (u32V (ps.map Qbk)),
   Res.blk g8 101 [.slice a' (ps.length + 1 + 1) cap'], Res.row 24 2 a' (ps.length + 1 + 1) cap' (Qcu (hd :: (bs ++ [B]))), Res.blk g7 25 [.int .i64 0], Res.blk g6 9 [.string ⟨#[]⟩]] := hHh.sub (.cons _ (.cons _ (.refl _)))
  obtain ⟨gp, rfl⟩ := Qdz (hHi.at 7 rfl) (by omega)
  clear hHe hHf hHg hHh hc'
  (try refine Qs ?_)
  apply hK;clear hK
  (repeat with_reducible refine Qcz ?_);refine Qqe (bare w6) (Qm3 _ _) [6, 7, 8, 9] (.two [(1, true)] 0 2 (.seq [(2, false), (3, false), (4, false), (5, false)]) (.two [] 0 3 (.seq [(3, false), (4, false), (5, false)]) (.seq [(0, false), (4, false), (5, false)]))) (by kernel_rfl) (by kernel_rfl) (by kernel_rfl) fun K hK => ?_
  suffices out : ∀ (a' : Option Addr) (c' : Nat) (w10 : World), Heap w [] w10 [Res.obj (dr + 1) (.loop { r with state := .busy }), Res.blk gs 9 [Str rest], Res.blk gm 3 [.int .i64 most], Res.obj dr (.deferred (some [])), Res.blk g9 102 [.slice a' (ps.length + 1) c'], Res.row 31 1 a' (ps.length + 1) c' (u32V (ps.map Qbk) ++ u32V [Qbk part]),
   Res.blk g8 101 [.slice (some ⟨gp, 0, none⟩) (ps.length + 1 + 1) cap'], Res.row 24 2 (some ⟨gp, 0, none⟩) (ps.length + 1 + 1) cap' (Qcu (hd :: (bs ++ [B]))), Res.blk g7 25 [.int .i64 0], Res.blk g6 9 [.string ⟨#[]⟩]] -> K [(6, pt g6), (7, pt g7), (8, pt g8), (9, pt g9)] w10 by
   have c0 : w6.cell? ⟨g9, 0, none⟩ = some (.slice a2 ps.length c2) := Qaf (hHi.at 4 rfl) rfl
   simp only [vcT, Qa9, List.filterMap_cons, List.filterMap_nil, List.getElem?_cons_succ, List.getElem?_cons_zero, Option.map_some];refine Qs ?_
   simp only [Qav]
   (try refine Qs ?_)
   refine And.intro ?_ ?_
   ·
    refine ⟨_, c0, ?_⟩
    (try refine Qs ?_)
    (try simp only [Qav])
    (try refine Qs ?_)
    refine Qaa Tryz.call21 ?_;refine Qs ?_;refine CallK.mk (Qk4 part w6 (by omega)) ?_
    rintro v w7 ⟨hHz, rfl⟩
    have hHj := hHi.call0 hHz
    simp only [List.nil_append] at hHj
    (try refine Qs ?_)
    (try simp only [Qav])
    (try refine Qs ?_)
    refine Qc1 hHj (u32V [Qbk part]) (xs := [.tmp 61]) Tryz.underlying102 sz31 rfl rfl rfl (by omega) ?_;refine Qs ?_;refine ⟨rfl, by simp [Value.cells], fun g w4 hHk => ?_⟩;(try refine Qs ?_)
    (try simp only [Qav])
    (try refine Qs ?_)
    refine Qau ?_;refine Qs ?_;refine Qca (zs := #[.int .u32 0]) (bytes := 4) hHk 6 rfl Tryz.underlying102 (by kernel_rfl) rfl ⟨rfl, Qa8 (hHk.at 0 rfl), 31, Tryz.underlying102⟩ (by simp [u32V];rfl) (fun h => by omega) fun a' cap' w12 hc' hHl => ?_;(try refine Qs ?_);(try simp only [Qav]);(try refine Qs ?_);refine Qab ?_;refine Qs ?_;refine Qae hHl 5 (vs := [.slice a' (ps.length + 1) cap']) rfl rfl (by kernel_rfl) (by simp) (by simp [Value.oneCell']) fun w13 hHm => ?_;simp only [List.set_cons_succ, List.set_cons_zero] at hHm;(try refine Qs ?_);(try simp only [Qav]);(try refine Qs ?_);refine out a' cap' w13 ?_;exact hHm.sub (List.sublist_cons_self _ _)
   ·
    refine Qaa Tryz.call21 ?_;refine Qs ?_;refine CallK.mk (Qk4 part w6 (by omega)) ?_
    rintro v w7 ⟨hHz, rfl⟩
    have hHj := hHi.call0 hHz
    simp only [List.nil_append] at hHj
    have c1 : w7.cell? ⟨g9, 0, none⟩ = some (.slice a2 ps.length c2) := Qaf (hHj.at 4 rfl) rfl
    (try refine Qs ?_)
    (try simp only [Qav])
    (try refine Qs ?_)
    refine And.intro ?_ ?_
    ·
     refine ⟨_, c1, ?_⟩
     (try refine Qs ?_)
     (try simp only [Qav])
     (try refine Qs ?_)
     refine Qc1 hHj (u32V [Qbk part]) (xs := [.tmp 61]) Tryz.underlying102 sz31 rfl rfl rfl (by omega) ?_;refine Qs ?_;refine ⟨rfl, by simp [Value.cells], fun g w4 hHk => ?_⟩;(try refine Qs ?_)
     (try simp only [Qav])
     (try refine Qs ?_)
     refine Qau ?_;refine Qs ?_;refine Qca (zs := #[.int .u32 0]) (bytes := 4) hHk 6 rfl Tryz.underlying102 (by kernel_rfl) rfl ⟨rfl, Qa8 (hHk.at 0 rfl), 31, Tryz.underlying102⟩ (by simp [u32V];rfl) (fun h => by omega) fun a' cap' w12 hc' hHl => ?_;(try refine Qs ?_);(try simp only [Qav]);(try refine Qs ?_);refine Qab ?_;refine Qs ?_;refine Qae hHl 5 (vs := [.slice a' (ps.length + 1) cap']) rfl rfl (by kernel_rfl) (by simp) (by simp [Value.oneCell']) fun w13 hHm => ?_;simp only [List.set_cons_succ, List.set_cons_zero] at hHm;(try refine Qs ?_);(try simp only [Qav]);(try refine Qs ?_);refine out a' cap' w13 ?_;exact hHm.sub (List.sublist_cons_self _ _)
    ·
     refine Qc1 hHj (u32V [Qbk part]) (xs := [.tmp 61]) Tryz.underlying102 sz31 rfl rfl rfl (by omega) ?_;refine Qs ?_;refine ⟨rfl, by simp [Value.cells], fun g w4 hHk => ?_⟩;(try refine Qs ?_)
     have c2' : w4.cell? ⟨g9, 0, none⟩ = some (.slice a2 ps.length c2) := Qaf (hHk.at 5 rfl) rfl
     (try simp only [Qav])
     (try refine Qs ?_)
     refine ⟨_, c2', ?_⟩
     (try refine Qs ?_)
     (try simp only [Qav])
     (try refine Qs ?_)
     refine Qau ?_;refine Qs ?_;refine Qca (zs := #[.int .u32 0]) (bytes := 4) hHk 6 rfl Tryz.underlying102 (by kernel_rfl) rfl ⟨rfl, Qa8 (hHk.at 0 rfl), 31, Tryz.underlying102⟩ (by simp [u32V];rfl) (fun h => by omega) fun a' cap' w12 hc' hHl => ?_;(try refine Qs ?_);(try simp only [Qav]);(try refine Qs ?_);refine Qab ?_;refine Qs ?_;refine Qae hHl 5 (vs := [.slice a' (ps.length + 1) cap']) rfl rfl (by kernel_rfl) (by simp) (by simp [Value.oneCell']) fun w13 hHm => ?_;simp only [List.set_cons_succ, List.set_cons_zero] at hHm;(try refine Qs ?_);(try simp only [Qav]);(try refine Qs ?_);refine out a' cap' w13 ?_;exact hHm.sub (List.sublist_cons_self _ _)
  intro a' c' w10 hHn
  apply hK;clear hK
  have hr : ({ r with state := .ready, pending := none } : Loop) = r := by
   cases r
   simp only at r1 r2
   subst r1 r2
   rfl
  refine QC1 (Qqc fun a n hf => ⟨_, n, rfl, hHn.at 0 rfl, rfl, ?_⟩)
  rw [hr]
  refine ⟨_, ⟨ps ++ [part], bs ++ [B], gp, cap', a', c', Qzh hPB _ _ hpb, hcut, hdl, rfl⟩, ?_⟩
  have hHo := ((hHn.put (.loop r)).front 2 rfl).front 2 rfl
  rw [show (ps ++ [part]).length = ps.length + 1 by simp, show u32V ((ps ++ [part]).map Qbk) = u32V (ps.map Qbk) ++ u32V [Qbk part] by simp [u32V]]
  exact hHo
 rintro _ w9 ⟨G, ⟨ps, bs, ga, c1, a2, c2, hpb, hcut, _, rfl⟩, hHr⟩
 have hr : ({ r with state := .ready, pending := none } : Loop) = r := by
  cases r
  simp only at r1 r2
  subst r1 r2
  rfl
 refine ⟨.ready, none, ?_, by simp, ?_⟩
 ·
  rw [hr]
  exact hHr.at 2 rfl
 simp only
 have hHs := (hHr.front 2 rfl).put (.loop { r with state := .exhausted, pending := none })
 generalize w9.putObj (dr + 1) (Obj.loop { r with state := .exhausted, pending := none }) = wb at *
 generalize Obj.loop { r with state := .exhausted, pending := none } = ro at *
 clear hHr r1 r2 r3 r4 r5 r7 r8 hr hH11 w9
 rw [Qjg, List.append_nil] at hcut
 subst hcut
 have hok := Qsq (show 1 <= most by omega) s.length s (Nat.le_refl _)
 have hps : (cutS s most).length <= 262144 := by omega
 have hfl := Qsr _ _ hpb fun p hp => by
  obtain ⟨a, b, c⟩ := hok.2.2 p hp
  exact ⟨a, by omega⟩
 have hbl := Qo9 _ _ hpb
 have h32 : ∀ x ∈ (cutS s most).map Qbk, x < 4294967296 := by
  intro x hx
  obtain ⟨p, _, rfl⟩ := List.mem_map.1 hx
  exact Qke p
 have hcl := Qg4 _ h32
 have hend : PackOk s lv most (.tuple #[Str (Qbv ((hd :: (bs ++ [Qbc 48 25779555029136 ++ Qbc 32 (Qcb ((cutS s most).map Qbk))])).flatten)), .int .i64 0]) := by
  rw [PackOk, if_neg hg, if_neg (by omega)]
  refine ⟨bs, hpb, ?_⟩
  rw [hhd, Int.toNat_natCast]
  unfold Qi5
  simp only [List.flatten_cons, List.flatten_append, List.flatten_nil, List.append_nil, List.append_assoc]
 have hlL : ((cutS s most).map Qbk).length = (cutS s most).length := List.length_map ..
 generalize hsum : (cutS s most).map Qbk = sums at *
 generalize (cutS s most).length = m at *
 refine QC1 ?_
 refine GQ [6, 7, 8, 9, 13] fun K hK => ?_
 refine Qaa Tryz.call35 ?_;refine Qs ?_;refine CallK.mk (Qc7 wb) ?_
 rintro v w11 ⟨gw, hHw, rfl⟩
 have hHt := hHs.call0 hHw
 clear hHs hHw
 (try refine Qs ?_)
 apply hK;clear hK
 refine GQ [6, 7, 8, 9, 13] fun K hK => ?_
 refine Qaa Tryz.call36 ?_;refine Qs ?_;refine CallK.mk (Qcv gw none 0 [] 25779555029136 48 w11 (by omega) (by decide) (by simp) (hHt.focus 0 rfl)) ?_
 rintro v w12 ⟨a', c', hHp, rfl⟩
 have hHu := hHt.call1 0 rfl hHp
 clear hHt hHp
 (try refine Qs ?_)
 apply hK;clear hK
 have hHv : Heap w [] w12 [wr gw a' c' (Qbc 48 25779555029136), Res.obj (dr + 1) ro, Res.blk gs 9 [Str []], Res.blk gm 3 [.int .i64 most], Res.obj dr (.deferred (some [])), Res.blk g9 102 [.slice a2 m c2], Res.row 31 1 a2 m c2 (u32V sums),
   Res.blk g8 101 [.slice (some ⟨ga, 0, none⟩) (m + 1) c1], Res.row 24 2 (some ⟨ga, 0, none⟩) (m + 1) c1 (Qcu (hd :: bs)), Res.blk g7 25 [.int .i64 0], Res.blk g6 9 [.string ⟨#[]⟩]] := hHu
 clear hHu
 refine GQ [6, 7, 8, 13] fun K hK => ?_
 refine ⟨_, Qaf (hHv.at 5 rfl) rfl, ?_⟩
 (try refine Qs ?_)
 have hcs := Qmq sums a2 c2 w12 (by rw [hlL];exact Qa8 (hHv.at 6 rfl)) h32 (by omega)
 rw [hlL] at hcs
 refine Qaa Tryz.call63 ?_;refine Qs ?_;refine CallK.mk hcs ?_
 rintro v w13 ⟨rfl, rfl⟩
 (try refine Qs ?_)
 rw [show ((Qcb sums : Nat) : Int) % 18446744073709551616 = ((Qcb sums : Nat) : Int) by omega]
 refine Qaa Tryz.call36 ?_;refine Qs ?_;refine CallK.mk (Qcv gw a' c' (Qbc 48 25779555029136) (Qcb sums) 32 w13 (by omega) (by simpa using hcl) (by rw [Qas];omega) (hHv.focus 0 rfl)) ?_
 rintro v w14 ⟨a3, c3, hHp, rfl⟩
 (try refine Qs ?_)
 apply hK;clear hK
 have hBl : (Qbc 48 25779555029136 ++ Qbc 32 (Qcb sums)).length = 80 := by simp [Qas]
 generalize Qbc 48 25779555029136 ++ Qbc 32 (Qcb sums) = B at *
 have hHw : Heap w [] w14 [wr gw a3 c3 B, Res.obj (dr + 1) ro, Res.blk gs 9 [Str []], Res.blk gm 3 [.int .i64 most], Res.obj dr (.deferred (some [])), Res.blk g9 102 [.slice a2 m c2], Res.row 31 1 a2 m c2 (u32V sums),
   Res.blk g8 101 [.slice (some ⟨ga, 0, none⟩) (m + 1) c1], Res.row 24 2 (some ⟨ga, 0, none⟩) (m + 1) c1 (Qcu (hd :: bs)), Res.blk g7 25 [.int .i64 0], Res.blk g6 9 [.string ⟨#[]⟩]] := hHv.call1 0 rfl hHp
 clear hHv hHp hcs hcl h32 hlL hok hpb
 have hf := hHw.focus 8 rfl
 have hW := hHw.at 0 rfl
 have hlen : (hd :: (bs ++ [B])).length = m + 1 + 1 := by simp;omega
 have hjn := fun (gp cap : Nat) (w : World) hl => Qn5 (hd :: (bs ++ [B])) ⟨gp, 0, none⟩ rfl cap w hl (by
  have : hd.length = 32 := by rw [hhd, Qax];rfl
  simp only [List.flatten_cons, List.flatten_append, List.flatten_nil, List.append_nil, List.length_append]
  omega) (by omega)
 rw [hlen] at hjn
 generalize hls : (hd :: (bs ++ [B])) = ls at *
 clear hlen
 obtain ⟨w0, hx0, c0, hE⟩ : ∃ w0, Ext w0 w14 /\ w0.cell? ⟨g8, 0, none⟩ = some (.slice (some ⟨ga, 0, none⟩) (m + 1) c1) /\ ∀ w' G, Heap w14 (Res.row 24 2 (some ⟨ga, 0, none⟩) (m + 1) c1 (Qcu (hd :: bs))).foot w' G -> Ext w0 w' := ⟨holes (Res.row 24 2 (some ⟨ga, 0, none⟩) (m + 1) c1 (Qcu (hd :: bs))).foot w14, Ext.hole _ _, hHw.hole_at 8 7 rfl rfl (by omega) rfl, fun w' G h => h.upd.extH⟩
 (repeat with_reducible refine Qcz ?_);refine Qqe w0 hx0 [6, 7, 14, 15] (.two [(0, true), (1, true), (3, true)] 2 12 (.two [] 4 12 (.two [(5, true)] 6 12 (.two [] 7 12 (.two [] 8 12 (.seq [(9, true), (10, true), (11, true), (12, false), (13, false), (14, true)]) (.seq [(8, false), (9, true), (10, true), (11, true), (13, false), (14, true)])) (.seq [(7, false), (8, false), (9, true), (10, true), (11, true), (13, false), (14, true)])) (.seq [(6, false), (7, false), (8, false), (9, true), (10, true), (11, true), (13, false), (14, true)])) (.seq [(4, false), (5, true), (6, false), (7, false), (8, false), (9, true), (10, true), (11, true), (13, false), (14, true)])) (.seq [(2, false), (4, false), (5, true), (6, false), (7, false), (8, false), (9, true), (10, true), (11, true), (13, false), (14, true)])) (by kernel_rfl) (by kernel_rfl) (by kernel_rfl) fun K hK => ?_
 suffices out : ∀ (g14 : Nat) (w' : World), Heap w [] w' [Res.blk g14 24 (Qa7 ls.flatten), Res.obj dr (.deferred (some [])), Res.blk g7 25 [.int .i64 0], Res.blk g6 9 [.string ⟨#[]⟩]] -> K [(6, pt g6), (7, pt g7), (14, pt g14), (15, .int .i64 0)] w' by
  simp only [vcT, Qa9, List.filterMap_cons, List.filterMap_nil, List.getElem?_cons_succ, List.getElem?_cons_zero, Option.map_some];refine Qs ?_
  refine ⟨_, c0, ?_⟩
  (try simp only [Qav]);(try refine Qs ?_)
  refine And.intro ?_ ?_
  ·
   refine Qaa Tryz.call37 ?_;refine Qs ?_;refine CallK.mk (Qfv gw a3 c3 B _ hW) ?_;rintro v wt ⟨rfl, rfl⟩;(try simp only [Qf1]);refine ⟨hE _ _ hf, ?_⟩;(try simp only [Qav]);(try refine Qs ?_)
   refine And.intro ?_ ?_
   ·
    refine Qaa Tryz.call38 ?_;refine Qs ?_;refine CallK.mk (Qf4 gw a3 c3 B _ hW) ?_;rintro v wt ⟨rfl, rfl⟩;(try simp only [Qf1]);refine ⟨hE _ _ hf, ?_⟩;(try simp only [Qav]);(try refine Qs ?_)
    refine And.intro ?_ ?_
    ·
     refine Qd7 hf 2 (Qa7 B) (xs := [.tmp 78]) Tryz.underlying101 sz24 rfl rfl rfl (by omega) (by omega) ?_;refine Qs ?_;refine ⟨by simp [Qa7, Value.cells], by simp [Qa7, Value.cells], fun gl wl hf => ?_⟩;refine ⟨hE _ _ hf, ?_⟩;(try simp only [Qav]);(try refine Qs ?_)
     refine And.intro ?_ ?_
     ·
      refine Qau ?_;refine Qs ?_;refine Qca (zs := #[.string ⟨#[]⟩, .int .i64 0]) (bytes := 24) hf 1 rfl Tryz.underlying101 (by kernel_rfl) rfl ⟨rfl, Qa8 (hf.at 0 rfl), 24, Tryz.underlying101⟩ (Qbt _) (fun h => by omega) fun a' cap' wp hc' hf => ?_;obtain ⟨gp, rfl⟩ := Qdz (hf.at 1 rfl) (by omega);refine ⟨hE _ _ hf, ?_⟩;simp only [List.set_cons_succ, List.set_cons_zero] at hf;rw [Qec, List.cons_append, hls] at hf;(try simp only [Qav]);(try refine Qs ?_)
      refine And.intro ?_ ?_
      ·
       refine Qaa Tryz.call42 ?_;refine Qs ?_;refine CallK.mk (hjn gp cap' _ (Qa8 (hf.at 1 rfl))) ?_;rintro v wj ⟨hJ, rfl⟩;have hf := hf.call0 hJ;simp only [List.nil_append] at hf;(try simp only [Qf1]);refine ⟨hE _ _ hf, ?_⟩;(try simp only [Qav]);(try refine Qs ?_)
       refine Qal (.agg #[.string ⟨#[]⟩, .int .i64 0]) (by kernel_rfl) ?_;refine Qs ?_;have hf := hf.box 24 [.string ⟨#[]⟩, .int .i64 0];refine ⟨hE _ _ hf, ?_⟩;(try simp only [Qav]);(try refine Qs ?_)
       refine Qab ?_;refine Qs ?_;refine Qae hf 0 (vs := Qa7 ls.flatten) rfl rfl (by kernel_rfl) (by simp [Qa7]) (Qbt _) fun ws hf => ?_;refine ⟨hE _ _ hf, ?_⟩;simp only [List.set_cons_succ, List.set_cons_zero] at hf;(try simp only [Qav]);(try refine Qs ?_);exact out _ _ ((hHw.call1 8 rfl (hf.perm (.swap _ _ _))).sub (.cons_cons _ (.cons _ (.cons _ (.cons _ (.cons _ (.cons _ (.cons_cons _ (.cons _ (.cons _ (.cons _ (.cons _ (.refl _)))))))))))))
      ·
       refine Qal (.agg #[.string ⟨#[]⟩, .int .i64 0]) (by kernel_rfl) ?_;refine Qs ?_;have hf := hf.box 24 [.string ⟨#[]⟩, .int .i64 0];refine ⟨hE _ _ hf, ?_⟩;(try simp only [Qav]);(try refine Qs ?_)
       refine Qaa Tryz.call42 ?_;refine Qs ?_;refine CallK.mk (hjn gp cap' _ (Qa8 (hf.at 2 rfl))) ?_;rintro v wj ⟨hJ, rfl⟩;have hf := hf.call0 hJ;simp only [List.nil_append] at hf;(try simp only [Qf1]);refine ⟨hE _ _ hf, ?_⟩;(try simp only [Qav]);(try refine Qs ?_)
       refine Qab ?_;refine Qs ?_;refine Qae hf 0 (vs := Qa7 ls.flatten) rfl rfl (by kernel_rfl) (by simp [Qa7]) (Qbt _) fun ws hf => ?_;refine ⟨hE _ _ hf, ?_⟩;simp only [List.set_cons_succ, List.set_cons_zero] at hf;(try simp only [Qav]);(try refine Qs ?_);exact out _ _ ((hHw.call1 8 rfl (hf.perm (.swap _ _ _))).sub (.cons_cons _ (.cons _ (.cons _ (.cons _ (.cons _ (.cons _ (.cons_cons _ (.cons _ (.cons _ (.cons _ (.cons _ (.refl _)))))))))))))
     ·
      refine Qal (.agg #[.string ⟨#[]⟩, .int .i64 0]) (by kernel_rfl) ?_;refine Qs ?_;have hf := hf.box 24 [.string ⟨#[]⟩, .int .i64 0];refine ⟨hE _ _ hf, ?_⟩;(try simp only [Qav]);(try refine Qs ?_)
      refine Qau ?_;refine Qs ?_;refine Qca (zs := #[.string ⟨#[]⟩, .int .i64 0]) (bytes := 24) hf 2 rfl Tryz.underlying101 (by kernel_rfl) rfl ⟨rfl, Qa8 (hf.at 1 rfl), 24, Tryz.underlying101⟩ (Qbt _) (fun h => by omega) fun a' cap' wp hc' hf => ?_;obtain ⟨gp, rfl⟩ := Qdz (hf.at 2 rfl) (by omega);refine ⟨hE _ _ hf, ?_⟩;simp only [List.set_cons_succ, List.set_cons_zero] at hf;rw [Qec, List.cons_append, hls] at hf;(try simp only [Qav]);(try refine Qs ?_)
      refine Qaa Tryz.call42 ?_;refine Qs ?_;refine CallK.mk (hjn gp cap' _ (Qa8 (hf.at 2 rfl))) ?_;rintro v wj ⟨hJ, rfl⟩;have hf := hf.call0 hJ;simp only [List.nil_append] at hf;(try simp only [Qf1]);refine ⟨hE _ _ hf, ?_⟩;(try simp only [Qav]);(try refine Qs ?_)
      refine Qab ?_;refine Qs ?_;refine Qae hf 0 (vs := Qa7 ls.flatten) rfl rfl (by kernel_rfl) (by simp [Qa7]) (Qbt _) fun ws hf => ?_;refine ⟨hE _ _ hf, ?_⟩;simp only [List.set_cons_succ, List.set_cons_zero] at hf;(try simp only [Qav]);(try refine Qs ?_);exact out _ _ ((hHw.call1 8 rfl (hf.perm (.swap _ _ _))).sub (.cons_cons _ (.cons _ (.cons _ (.cons _ (.cons _ (.cons _ (.cons_cons _ (.cons _ (.cons _ (.cons _ (.cons _ (.refl _)))))))))))))
    ·
     refine Qal (.agg #[.string ⟨#[]⟩, .int .i64 0]) (by kernel_rfl) ?_;refine Qs ?_;have hf := hf.box 24 [.string ⟨#[]⟩, .int .i64 0];refine ⟨hE _ _ hf, ?_⟩;(try simp only [Qav]);(try refine Qs ?_)
     refine Qd7 hf 2 (Qa7 B) (xs := [.tmp 78]) Tryz.underlying101 sz24 rfl rfl rfl (by omega) (by omega) ?_;refine Qs ?_;refine ⟨by simp [Qa7, Value.cells], by simp [Qa7, Value.cells], fun gl wl hf => ?_⟩;refine ⟨hE _ _ hf, ?_⟩;(try simp only [Qav]);(try refine Qs ?_)
     refine Qau ?_;refine Qs ?_;refine Qca (zs := #[.string ⟨#[]⟩, .int .i64 0]) (bytes := 24) hf 2 rfl Tryz.underlying101 (by kernel_rfl) rfl ⟨rfl, Qa8 (hf.at 0 rfl), 24, Tryz.underlying101⟩ (Qbt _) (fun h => by omega) fun a' cap' wp hc' hf => ?_;obtain ⟨gp, rfl⟩ := Qdz (hf.at 2 rfl) (by omega);refine ⟨hE _ _ hf, ?_⟩;simp only [List.set_cons_succ, List.set_cons_zero] at hf;rw [Qec, List.cons_append, hls] at hf;(try simp only [Qav]);(try refine Qs ?_)
     refine Qaa Tryz.call42 ?_;refine Qs ?_;refine CallK.mk (hjn gp cap' _ (Qa8 (hf.at 2 rfl))) ?_;rintro v wj ⟨hJ, rfl⟩;have hf := hf.call0 hJ;simp only [List.nil_append] at hf;(try simp only [Qf1]);refine ⟨hE _ _ hf, ?_⟩;(try simp only [Qav]);(try refine Qs ?_)
     refine Qab ?_;refine Qs ?_;refine Qae hf 1 (vs := Qa7 ls.flatten) rfl rfl (by kernel_rfl) (by simp [Qa7]) (Qbt _) fun ws hf => ?_;refine ⟨hE _ _ hf, ?_⟩;simp only [List.set_cons_succ, List.set_cons_zero] at hf;(try simp only [Qav]);(try refine Qs ?_);exact out _ _ ((hHw.call1 8 rfl hf).sub (.cons_cons _ (.cons _ (.cons _ (.cons _ (.cons _ (.cons _ (.cons_cons _ (.cons _ (.cons _ (.cons _ (.cons _ (.refl _)))))))))))))
   ·
    refine Qal (.agg #[.string ⟨#[]⟩, .int .i64 0]) (by kernel_rfl) ?_;refine Qs ?_;have hf := hf.box 24 [.string ⟨#[]⟩, .int .i64 0];refine ⟨hE _ _ hf, ?_⟩;(try simp only [Qav]);(try refine Qs ?_)
    have hW := (hHw.call1 8 rfl hf).at 1 rfl
    refine Qaa Tryz.call38 ?_;refine Qs ?_;refine CallK.mk (Qf4 gw a3 c3 B _ hW) ?_;rintro v wt ⟨rfl, rfl⟩;(try simp only [Qf1]);refine ⟨hE _ _ hf, ?_⟩;(try simp only [Qav]);(try refine Qs ?_)
    refine Qd7 hf 2 (Qa7 B) (xs := [.tmp 78]) Tryz.underlying101 sz24 rfl rfl rfl (by omega) (by omega) ?_;refine Qs ?_;refine ⟨by simp [Qa7, Value.cells], by simp [Qa7, Value.cells], fun gl wl hf => ?_⟩;refine ⟨hE _ _ hf, ?_⟩;(try simp only [Qav]);(try refine Qs ?_)
    refine Qau ?_;refine Qs ?_;refine Qca (zs := #[.string ⟨#[]⟩, .int .i64 0]) (bytes := 24) hf 2 rfl Tryz.underlying101 (by kernel_rfl) rfl ⟨rfl, Qa8 (hf.at 0 rfl), 24, Tryz.underlying101⟩ (Qbt _) (fun h => by omega) fun a' cap' wp hc' hf => ?_;obtain ⟨gp, rfl⟩ := Qdz (hf.at 2 rfl) (by omega);refine ⟨hE _ _ hf, ?_⟩;simp only [List.set_cons_succ, List.set_cons_zero] at hf;rw [Qec, List.cons_append, hls] at hf;(try simp only [Qav]);(try refine Qs ?_)
    refine Qaa Tryz.call42 ?_;refine Qs ?_;refine CallK.mk (hjn gp cap' _ (Qa8 (hf.at 2 rfl))) ?_;rintro v wj ⟨hJ, rfl⟩;have hf := hf.call0 hJ;simp only [List.nil_append] at hf;(try simp only [Qf1]);refine ⟨hE _ _ hf, ?_⟩;(try simp only [Qav]);(try refine Qs ?_)
    refine Qab ?_;refine Qs ?_;refine Qae hf 1 (vs := Qa7 ls.flatten) rfl rfl (by kernel_rfl) (by simp [Qa7]) (Qbt _) fun ws hf => ?_;refine ⟨hE _ _ hf, ?_⟩;simp only [List.set_cons_succ, List.set_cons_zero] at hf;(try simp only [Qav]);(try refine Qs ?_);exact out _ _ ((hHw.call1 8 rfl hf).sub (.cons_cons _ (.cons _ (.cons _ (.cons _ (.cons _ (.cons _ (.cons_cons _ (.cons _ (.cons _ (.cons _ (.cons _ (.refl _)))))))))))))
  ·
   refine Qal (.agg #[.string ⟨#[]⟩, .int .i64 0]) (by kernel_rfl) ?_;refine Qs ?_;have hf := hf.box 24 [.string ⟨#[]⟩, .int .i64 0];refine ⟨hE _ _ hf, ?_⟩;(try simp only [Qav]);(try refine Qs ?_)
   have hW := (hHw.call1 8 rfl hf).at 1 rfl
   refine Qaa Tryz.call37 ?_;refine Qs ?_;refine CallK.mk (Qfv gw a3 c3 B _ hW) ?_;rintro v wt ⟨rfl, rfl⟩;(try simp only [Qf1]);refine ⟨hE _ _ hf, ?_⟩;(try simp only [Qav]);(try refine Qs ?_)
   refine Qaa Tryz.call38 ?_;refine Qs ?_;refine CallK.mk (Qf4 gw a3 c3 B _ hW) ?_;rintro v wt ⟨rfl, rfl⟩;(try simp only [Qf1]);refine ⟨hE _ _ hf, ?_⟩;(try simp only [Qav]);(try refine Qs ?_)
   refine Qd7 hf 2 (Qa7 B) (xs := [.tmp 78]) Tryz.underlying101 sz24 rfl rfl rfl (by omega) (by omega) ?_;refine Qs ?_;refine ⟨by simp [Qa7, Value.cells], by simp [Qa7, Value.cells], fun gl wl hf => ?_⟩;refine ⟨hE _ _ hf, ?_⟩;(try simp only [Qav]);(try refine Qs ?_)
   refine Qau ?_;refine Qs ?_;refine Qca (zs := #[.string ⟨#[]⟩, .int .i64 0]) (bytes := 24) hf 2 rfl Tryz.underlying101 (by kernel_rfl) rfl ⟨rfl, Qa8 (hf.at 0 rfl), 24, Tryz.underlying101⟩ (Qbt _) (fun h => by omega) fun a' cap' wp hc' hf => ?_;obtain ⟨gp, rfl⟩ := Qdz (hf.at 2 rfl) (by omega);refine ⟨hE _ _ hf, ?_⟩;simp only [List.set_cons_succ, List.set_cons_zero] at hf;rw [Qec, List.cons_append, hls] at hf;(try simp only [Qav]);(try refine Qs ?_)
   refine Qaa Tryz.call42 ?_;refine Qs ?_;refine CallK.mk (hjn gp cap' _ (Qa8 (hf.at 2 rfl))) ?_;rintro v wj ⟨hJ, rfl⟩;have hf := hf.call0 hJ;simp only [List.nil_append] at hf;(try simp only [Qf1]);refine ⟨hE _ _ hf, ?_⟩;(try simp only [Qav]);(try refine Qs ?_)
   refine Qab ?_;refine Qs ?_;refine Qae hf 1 (vs := Qa7 ls.flatten) rfl rfl (by kernel_rfl) (by simp [Qa7]) (Qbt _) fun ws hf => ?_;refine ⟨hE _ _ hf, ?_⟩;simp only [List.set_cons_succ, List.set_cons_zero] at hf;(try simp only [Qav]);(try refine Qs ?_);exact out _ _ ((hHw.call1 8 rfl hf).sub (.cons_cons _ (.cons _ (.cons _ (.cons _ (.cons _ (.cons _ (.cons_cons _ (.cons _ (.cons _ (.cons _ (.cons _ (.refl _)))))))))))))
 intro g14 w15 hHy
 apply hK;clear hK
 clear hf hW hx0 c0 hE hjn hHw
 refine GQ [6, 7] fun K hK => ?_
 refine ⟨_, Qaf (hHy.at 0 rfl) (show (Qa7 ls.flatten)[0]? = some _ from rfl), ?_⟩
 (try refine Qs ?_)
 refine Qab ?_
 refine Qs ?_
 refine Qae hHy 3 (vs := [Str (Qbv ls.flatten)]) rfl rfl (by kernel_rfl) (by simp) (by simp [Value.oneCell']) fun w16 hHz => ?_
 (try refine Qs ?_)
 refine Qab ?_
 refine Qs ?_
 refine Qae hHz 2 (vs := [.int .i64 0]) rfl rfl (by kernel_rfl) (by simp) (by simp [Value.oneCell']) fun w17 hHq => ?_
 (try refine Qs ?_)
 apply hK;clear hK
 have hHr : Heap w [] w17 [Res.obj dr (.deferred (some [])), Res.blk g7 25 [.int .i64 0], Res.blk g6 9 [Str (Qbv ls.flatten)]] := hHq.sub (.cons _ (.refl _))
 have hHp2 := hHr.put (.deferred none)
 exact Qts (ret1 (hHr.at 0 rfl) (Qzo (hHp2.at 2 rfl) (hHp2.at 1 rfl) ⟨hHp2.sub (by simp), hend⟩))
theorem Qcl (w : World) : Does Tryz.prog 23 #[] w fun v w' => Heap w [] w' [] /\ v = .bool true := by
 refine En [] 65 Tryz.func23 ?_
 refine VS [] ?_
 refine VQ [1, 2] fun K hK => ?_
 refine Qaa Tryz.call24 ?_;refine Qs ?_;refine CallK.mk (Qhl [] 1 1 w (I64.mk (by omega) (by omega)) (I64.mk (by omega) (by omega)) (by simp)) ?_
 rintro v w2 ⟨hH, hv⟩
 obtain ⟨T, hT, rfl⟩ := hv.pk (by omega) (by simp)
 have he : T = [66, 90, 104, 49, 23, 114, 69, 56, 80, 144, 0, 0, 0, 0] := by
  rw [PackOk, if_neg (by omega), if_neg (by simp)] at hv
  obtain ⟨bs, hb, hv⟩ := hv
  rw [Qjg] at hb hv
  cases bs with
  | cons b bs => exact hb.elim
  | nil =>
   simp [Str] at hv
   rw [hv]
   kernel_rfl
 have hun := Qkf (ss := [[], []]) (Ts := [T, T]) ⟨hT, hT, trivial⟩ (by simp) (by simp)
 simp only [List.flatten_cons, List.flatten_nil, List.append_nil] at hun
 have hlen := hT.len
 simp only [List.length_nil] at hlen
 (try refine Qs ?_)
 apply hK;clear hK
 refine VQ [1, 2, 3, 4] fun K hK => ?_
 (repeat first | refine Qo ?_ | refine Qp ?_)
 refine Qaa Tryz.call28 ?_;refine Qs ?_;refine CallK.mk (Qed (T ++ T) w2 (by rw [List.length_append];omega)) ?_
 rintro v w3 ⟨hHt, rfl⟩
 have hH2 := hH.call0 hHt
 simp only [List.nil_append] at hH2
 clear hH hHt
 rw [hun]
 unfold Qh4
 (try refine Qs ?_)
 apply hK;clear hK
 refine VQ [1, 2, 3, 4, 6] fun K hK => ?_
 refine Qaa Tryz.call28 ?_;refine Qs ?_;refine CallK.mk (Qed [] w3 (by simp)) ?_
 rintro v w4 ⟨hHt, rfl⟩
 have hH3 := hH2.call0 hHt
 simp only [List.nil_append] at hH3
 clear hH2 hHt
 have hz : Qgp [] = .error 10 := by first | rfl | kernel_rfl
 rw [hz]
 unfold Qh4
 (try refine Qs ?_)
 apply hK;clear hK
 refine VQ [1, 2, 3, 4, 6, 7, 8] fun K hK => ?_
 refine Qaa Tryz.call24 ?_;refine Qs ?_;refine CallK.mk (Qhl [97, 98, 99] 9 2 w4 (I64.mk (by omega) (by omega)) (I64.mk (by omega) (by omega)) (by simp)) ?_
 rintro v w5 ⟨hHt, hv⟩
 have hH4 := hH3.call0 hHt
 simp only [List.nil_append] at hH4
 clear hH3 hHt
 obtain ⟨U, hU, rfl⟩ := hv.pk (by omega) (by simp)
 have hun2 := Qq8 hU (by simp)
 have hlen2 := hU.len
 simp only [List.length_cons, List.length_nil] at hlen2
 (try refine Qs ?_)
 apply hK;clear hK
 refine VQ [1, 2, 3, 4, 6, 8, 9, 10] fun K hK => ?_
 refine Qaa Tryz.call28 ?_;refine Qs ?_;refine CallK.mk (Qed U w5 (by omega)) ?_
 rintro v w6 ⟨hHt, rfl⟩
 have hH5 := hH4.call0 hHt
 simp only [List.nil_append] at hH5
 clear hH4 hHt
 rw [hun2]
 unfold Qh4
 (try refine Qs ?_)
 apply hK;clear hK
 refine VQ [0] fun K hK => ?_
 suffices out : K [(0, .bool true)] w6 by simpa [he] using out
 apply hK;clear hK
 exact Qah (Qat rfl rfl ⟨hH5, rfl⟩)
set_option maxHeartbeats 2000000
theorem Ch {A P Q : Prop} (p : P) (a : A := by first | exact True.intro | omega | assumption) : (A -> P) /\ (¬A -> Q) := ⟨fun _ => p, fun h => absurd a h⟩
theorem streamSmall_law (s : List UInt8) (w : World) (hs : s.length <= 140737488355328) : Does Tryz.prog 14 #[Str s] w fun v w' => Heap w [] w' [] /\ v = .bool true := by
 refine En [Str s] 36 Tryz.func14 ?_
 refine VS [0] ?_
 refine VS [0, 7] ?_
 refine Vi (fun h => ?_) (fun h => Qac ?_)
 ·
  refine VQ [2] fun K hK => ?_
  refine Qaa Tryz.call23 ?_;refine Qs ?_;refine CallK.mk (Qcl w) ?_
  rintro v w2 ⟨hH, rfl⟩
  (try refine Qs ?_)
  apply hK;clear hK
  exact Qah (Qat rfl rfl ⟨hH, rfl⟩)
 simp only [decide_eq_false_iff_not] at h
 refine VQ [0, 3, 4] fun K hK => ?_
 refine Qaa Tryz.call24 ?_;refine Qs ?_;refine CallK.mk (Qhl s 1 20000 w (I64.mk (by omega) (by omega)) (I64.mk (by omega) (by omega)) hs) ?_
 rintro v w2 ⟨hH, hv⟩
 obtain ⟨T, hT, rfl, hlT⟩ := QB2 hv (by omega) (by omega) (by omega) (by omega) (by omega)
 have hlen := hT.len
 (try refine Qs ?_)
 apply hK;clear hK
 refine VQ [2] fun K hK => ?_
 (repeat (first | with_reducible refine Ch ?_ | with_reducible refine Qo ?_))
 refine Qaa Tryz.call23 ?_;refine Qs ?_;refine CallK.mk (Qcl w2) ?_
 rintro v w3 ⟨hHa, rfl⟩
 (try refine Qs ?_)
 apply hK;clear hK
 exact Qah (Qat rfl rfl ⟨(hH.call0 hHa).sub (by simp), rfl⟩)
theorem streamBack_law (s : List UInt8) (level most : Int) (hl : I64 level) (hm : I64 most) (w : World) (hs : s.length <= 140737488355328) :
  Does Tryz.prog 11 #[Str s, .int .i64 level, .int .i64 most] w fun v w' => Heap w [] w' [] /\ v = .bool true := by
 refine En [Str s, .int .i64 level, .int .i64 most] 72 Tryz.func11 ?_
 refine VS [0, 1, 2] ?_
 refine VS [0, 1, 2, 16] ?_
 refine Vi (fun h => ?_) (fun h => Qac ?_)
 ·
  refine VQ [6] fun K hK => ?_
  refine Qaa Tryz.call23 ?_;refine Qs ?_;refine CallK.mk (Qcl w) ?_
  rintro v w2 ⟨hH, rfl⟩
  (try refine Qs ?_)
  apply hK;clear hK
  exact Qah (Qat rfl rfl ⟨hH, rfl⟩)
 simp only [decide_eq_false_iff_not] at h
 refine VQ [0, 7, 8] fun K hK => ?_
 refine Qaa Tryz.call24 ?_;refine Qs ?_;refine CallK.mk (Qhl s level most w hl hm hs) ?_
 rintro v w2 ⟨hH, hv⟩
 by_cases hbad : level < 1 ∨ 9 < level ∨ most < 1 ∨ min (level * 100000) 262144 < most
 ·
  rw [PackOk, if_pos hbad] at hv
  subst hv
  (try refine Qs ?_)
  apply hK;clear hK
  refine VS [0, 7, 8, 26] ?_
  refine Qai rfl rfl (fun h => ?_) (fun h => by simp at h)
  refine VQ [6] fun K hK => ?_
  (repeat (first | with_reducible refine Ch ?_ | with_reducible refine Qo ?_))
  refine Qaa Tryz.call23 ?_;refine Qs ?_;refine CallK.mk (Qcl w2) ?_
  rintro v w3 ⟨hHa, rfl⟩
  (try refine Qs ?_)
  apply hK;clear hK
  exact Qah (Qat rfl rfl ⟨(hH.call0 hHa).sub (by simp), rfl⟩)
 obtain ⟨T, hT, rfl⟩ := hv.pk hbad (by omega)
 have hlen := hT.len
 have hun := Qq8 hT (by omega)
 have htk := hT.take [] []
 simp only [List.nil_append, List.append_nil, List.length_nil, Int.natCast_zero, Nat.zero_add] at htk
 (try refine Qs ?_)
 apply hK;clear hK
 refine VS [0, 7, 8, 26] ?_
 refine Qai rfl rfl (fun h => by simp at h) (fun h => Qac ?_)
 refine VQ [0, 7, 9, 10] fun K hK => ?_
 refine Qaa Tryz.call28 ?_;refine Qs ?_;refine CallK.mk (Qed T w2 (by omega)) ?_
 rintro v w3 ⟨hHt, rfl⟩
 have hH2 := hH.call0 hHt
 simp only [List.nil_append] at hH2
 clear hH hHt
 rw [hun]
 unfold Qh4
 (try refine Qs ?_)
 apply hK;clear hK
 refine VQ [0, 7, 9, 10, 11, 12, 13] fun K hK => ?_
 refine Qaa Tryz.call26 ?_;refine Qs ?_;refine CallK.mk (Qi4 T 0 w3 (I64.mk (by omega) (by omega)) (by omega)) ?_
 rintro v w4 ⟨hHt, rfl⟩
 have hH3 := hH2.call0 hHt
 simp only [List.nil_append] at hH3
 clear hH2 hHt
 rw [htk]
 unfold Qvg
 (try refine Qs ?_)
 apply hK;clear hK
 refine VQ [6] fun K hK => ?_
 (repeat (first | with_reducible refine Ch ?_ | with_reducible refine Qo ?_))
 refine Qaa Tryz.call23 ?_;refine Qs ?_;refine CallK.mk (Qcl w4) ?_
 rintro v w5 ⟨hHa, rfl⟩
 (try refine Qs ?_)
 apply hK;clear hK
 exact Qah (Qat rfl rfl ⟨(hH3.call0 hHa).sub (by simp), rfl⟩)
theorem streamCuts_law (s : List UInt8) (at_ : Int) (odd : UInt8) (ha : I64 at_) (w : World) (hs : s.length <= 140737488355328) :
  Does Tryz.prog 13 #[Str s, .int .i64 at_, .int .u8 odd.toNat] w fun v w' => Heap w [] w' [] /\ v = .bool true := by
 refine En [Str s, .int .i64 at_, .int .u8 odd.toNat] 77 Tryz.func13 ?_
 refine VS [0, 1, 2] ?_
 refine VQ [0, 1, 2, 19] fun K hK => ?_
 suffices out : ∀ b : Bool, (b = true ↔ 300 < s.length ∨ odd.toNat = 66) -> K [(0, Str s), (1, .int .i64 at_), (2, .int .u8 odd.toNat), (19, .bool b)] w by
  (repeat' (first | exact out _ _ (by first | omega | (simp;done) | (simp;omega)) | exact out _ (by first | omega | (simp;done) | (simp;omega)) | refine ⟨fun _ => ?_, fun _ => ?_⟩ | refine Qo ?_))
 intro b hb
 apply hK;clear hK
 refine Vi (fun h => ?_) (fun h => Qac ?_)
 ·
  refine VQ [6] fun K hK => ?_
  refine Qaa Tryz.call23 ?_;refine Qs ?_;refine CallK.mk (Qcl w) ?_
  rintro v w2 ⟨hH, rfl⟩
  (try refine Qs ?_)
  apply hK;clear hK
  exact Qah (Qat rfl rfl ⟨hH, rfl⟩)
 have hg : ¬ (300 < s.length ∨ odd.toNat = 66) := fun hh => by rw [hb.2 hh] at h;cases h
 have hodd : odd ≠ 66 := fun e => hg (.inr (by rw [e];rfl))
 clear hb h
 refine VQ [1, 2, 7, 8] fun K hK => ?_
 refine Qaa Tryz.call24 ?_;refine Qs ?_;refine CallK.mk (Qhl s 1 100 w (I64.mk (by omega) (by omega)) (I64.mk (by omega) (by omega)) hs) ?_
 rintro v w2 ⟨hH, hv⟩
 obtain ⟨T, hT, rfl⟩ := hv.pk (by omega) (by omega)
 have hlen := hT.len
 (try refine Qs ?_)
 apply hK;clear hK
 refine VQ [1, 2, 7, 32] fun K hK => ?_
 suffices out : K [(1, .int .i64 at_), (2, .int .u8 odd.toNat), (7, Str T), (32, .bool false)] w2 by
  exact ⟨fun _ => by rw [decide_eq_false (by omega)];exact out, fun h => absurd trivial h⟩
 apply hK;clear hK
 refine Qai rfl rfl (fun h => by cases h) (fun h => Qac ?_)
 refine VQ [1, 2, 7, 40] fun K hK => ?_
 suffices out : ∀ b : Bool, (b = true ↔ at_ < 0 ∨ (T.length : Int) <= at_) -> K [(1, .int .i64 at_), (2, .int .u8 odd.toNat), (7, Str T), (40, .bool b)] w2 by
  (repeat' (first | exact out _ _ (by first | omega | (simp;done) | (simp;omega)) | exact out _ (by first | omega | (simp;done) | (simp;omega)) | refine ⟨fun _ => ?_, fun _ => ?_⟩ | refine Qo ?_))
 intro b hb
 apply hK;clear hK
 (repeat refine Qaw ?_)
 refine Qdb [1, 2, 7] (fun e w' => ∃ a : Nat, Is e [(1, .int .i64 a), (2, .int .u8 odd.toNat), (7, Str T)] /\ Is w' w2 /\ a < T.length) ?_ ?_
 ·
  refine Vi (fun h => ?_) (fun h => Qac ?_)
  ·
   refine VS [1, 2, 7] ?_
   refine Qad ?_
   refine Qs ?_
   exact ⟨T.length - 1, by rw [Int.natCast_sub (by omega)];rfl, rfl, by omega⟩
  ·
   have hg2 : ¬ (at_ < 0 ∨ (T.length : Int) <= at_) := fun hh => by rw [hb.2 hh] at h;cases h
   refine Qad ?_
   refine Qs ?_
   exact ⟨at_.toNat, by rw [Int.toNat_of_nonneg (by omega)];rfl, rfl, by omega⟩
 rintro e w' ⟨a, rfl, rfl, hat⟩
 clear hb
 have hsplit := (List.take_append_drop a T).symm
 obtain ⟨e, hcut, he0⟩ := QB0 hT hsplit (by
  intro h0
  have := congrArg List.length h0
  rw [List.length_drop, List.length_nil] at this
  omega)
 have hod := QB1 hT (by omega) hodd
 refine VQ [2, 7, 9, 10] fun K hK => ?_
 (repeat first | refine Qo ?_ | refine Qp ?_)
 refine Qaa Tryz.call28 ?_;refine Qs ?_;refine CallK.mk (Qed (T.take a) w' (by rw [List.length_take];omega)) ?_
 rintro v w3 ⟨hHt, rfl⟩
 have hH2 := hH.call0 hHt
 simp only [List.nil_append] at hH2
 clear hH hHt
 rw [hcut]
 unfold Qh4
 (try refine Qs ?_)
 apply hK;clear hK
 refine VQ [9, 10, 11, 12] fun K hK => ?_
 refine Qc1 hH2 (Qao [odd]) (xs := [.tmp 53]) Tryz.underlying43 sz5 rfl rfl rfl (by omega) ?_;refine Qs ?_;refine ⟨rfl, by simp [Value.cells], fun g w4 hH3 => ?_⟩;(try refine Qs ?_)
 refine ⟨[odd], hH3.readsBytes 0 rfl, ?_⟩
 (try refine Qs ?_)
 refine And.intro (by simp;omega) ?_
 refine Qaa Tryz.call28 ?_;refine Qs ?_;refine CallK.mk (Qed (T ++ [odd]) _ (by rw [List.length_append];simp;omega)) ?_
 rintro v w5 ⟨hHt, rfl⟩
 have hH4 := hH3.call0 hHt
 simp only [List.nil_append] at hH4
 clear hH3 hHt
 rw [hod]
 unfold Qh4
 (try refine Qs ?_)
 apply hK;clear hK
 refine VQ [6] fun K hK => ?_
 (repeat (first | with_reducible refine Ch ?_ | with_reducible refine Qo ?_))
 refine Qaa Tryz.call23 ?_;refine Qs ?_;refine CallK.mk (Qcl _) ?_
 rintro v w9 ⟨hHa, rfl⟩
 (try refine Qs ?_)
 apply hK;clear hK
 exact Qah (Qat rfl rfl ⟨(hH4.call0 hHa).sub (by simp), rfl⟩)
set_option maxHeartbeats 2000000
theorem streamJoins_law (l : List (List UInt8)) (la : Option Addr) (lc : Nat) (level : Int) (hlv : I64 level) (w : World) (hl : RS w la l.length 1 (l.map fun x => Str x)) :
  Does Tryz.prog 12 #[.slice la l.length lc, .int .i64 level] w fun v w' => Heap w [] w' [] /\ v = .bool true := by
 refine En [.slice la l.length lc, .int .i64 level] 85 Tryz.func12 ?_
 refine VS [0, 1] ?_
 refine VQ [0, 1, 17] fun K hK => ?_
 suffices out : ∀ b : Bool, (b = true ↔ level < 1 ∨ 9 < level) -> K [(0, .slice la l.length lc), (1, .int .i64 level), (17, .bool b)] w by
  (repeat' (first | exact out _ _ (by first | omega | (simp;done) | (simp;omega)) | exact out _ (by first | omega | (simp;done) | (simp;omega)) | refine ⟨fun _ => ?_, fun _ => ?_⟩ | refine Qo ?_))
 intro b hb
 apply hK;clear hK
 refine Vi (fun h => ?_) (fun h => Qac ?_)
 ·
  refine VQ [4] fun K hK => ?_
  refine Qaa Tryz.call23 ?_;refine Qs ?_;refine CallK.mk (Qcl w) ?_
  rintro v w2 ⟨hH, rfl⟩
  (try refine Qs ?_)
  apply hK;clear hK
  exact Qah (Qat rfl rfl ⟨hH, rfl⟩)
 have hg : ¬ (level < 1 ∨ 9 < level) := fun hh => by rw [hb.2 hh] at h;cases h
 clear hb h
 refine VS [0, 1, 5, 6] ?_
 refine VS [0, 1, 5, 6, 7] ?_
 refine VB ?_
 refine Qaj [0, 1, 5, 6, 7] (fun m e w' => ∃ (i : Nat) (Ts : List (List UInt8)), Is e [(0, .slice la l.length lc), (1, .int .i64 level), (5, Str Ts.flatten), (6, Str (l.take i).flatten), (7, .int .i64 i)] /\ Heap w [] w' [] /\ Pks (l.take i) Ts /\ i <= l.length /\ i <= 10 /\ (l.take i).flatten.length <= 1000 * i /\ m = l.length - i) l.length ?_ ?_
 ·
  refine Qs ?_
  exact ⟨0, [], rfl, Heap.start w, trivial, by omega, by omega, by simp, rfl⟩
 rintro m e w' ⟨i, Ts, rfl, hH, hP, hi, hi10, hfl, rfl⟩
 have hPl := Qsu _ _ hP
 rw [List.length_take] at hPl
 refine VS [0, 1, 5, 6, 7, 22] ?_
 (repeat refine Qaw ?_)
 refine VD (fun h => ?_) (fun h => ?_)
 ·
  refine Qac ?_
  refine VB ?_
  have hli : l[i]? = some l[i] := List.getElem?_eq_getElem (by omega)
  have htk : l.take (i + 1) = l.take i ++ [l[i]] := by rw [List.take_add_one, hli];rfl
  have hmi := List.getElem_mem (l := l) (n := i) (by omega)
  obtain ⟨p, rfl⟩ : ∃ p, la = some p := by
   cases la with
   | some p => exact ⟨p, rfl⟩
   | none =>
    have := hl.2.1 rfl
    omega
  have hget : ∀ w', Heap w [] w' [] -> w'.cell? (p.add i) = some (Str l[i]) := fun w' hH => by
   have := (hH.rs' hl).2.2 p rfl i (Str l[i]) (by rw [List.getElem?_map, hli];rfl)
   simpa using this
  generalize l[i] = x at *
  refine VQ [0, 1, 5, 6, 7, 34] fun K hK => ?_
  suffices out : ∀ b : Bool, (b = true ↔ 1000 < x.length ∨ 10 <= i) -> K [(0, .slice (some p) l.length lc), (1, .int .i64 level), (5, Str Ts.flatten), (6, Str (l.take i).flatten), (7, .int .i64 i), (34, .bool b)] w' by
   refine ⟨⟨by omega, by omega⟩, _, hget w' hH, ?_⟩
   (try refine Qs ?_)
   exact ⟨fun h1 => out _ (by simp;omega), fun h1 => out _ (by simp;omega)⟩
  intro b hb
  apply hK;clear hK
  refine Vi (fun h => ?_) (fun h => Qac ?_)
  ·
   refine VQ [4] fun K hK => ?_
   refine Qaa Tryz.call23 ?_;refine Qs ?_;refine CallK.mk (Qcl w') ?_
   rintro v w2 ⟨hHa, rfl⟩
   (try refine Qs ?_)
   apply hK;clear hK
   exact Qah (Qat rfl rfl ⟨(hH.call0 hHa).sub (by simp), rfl⟩)
  have hg2 : ¬ (1000 < x.length ∨ 10 <= i) := fun hh => by rw [hb.2 hh] at h;cases h
  clear hb h
  refine VQ [0, 1, 5, 6, 7, 8, 9] fun K hK => ?_
  refine ⟨⟨by omega, by omega⟩, _, hget w' hH, ?_⟩
  (try refine Qs ?_)
  (repeat first | refine Qo ?_ | refine Qp ?_)
  refine Qaa Tryz.call24 ?_;refine Qs ?_;refine CallK.mk (Qhl x level (50 + i) w' hlv (I64.mk (by omega) (by omega)) (by omega)) ?_
  rintro v w2 ⟨hHt, hv⟩
  have hH2 := hH.call0 hHt
  simp only [List.nil_append] at hH2
  clear hH hHt
  obtain ⟨T, hT, rfl⟩ := hv.pk (by omega) (by omega)
  have hlen := hT.len
  (try refine Qs ?_)
  apply hK;clear hK
  refine VS [0, 1, 5, 6, 7, 8, 48] ?_
  refine Qai rfl rfl (fun h => by simp at h) (fun h => Qac ?_)
  clear h
  refine VQ [0, 1, 5, 6, 7] fun K hK => ?_
  refine Qo ?_
  apply hK;clear hK
  refine VQ [0, 1, 5, 6, 7] fun K hK => ?_
  refine ⟨⟨by omega, by omega⟩, _, hget w2 hH2, ?_⟩
  (try refine Qs ?_)
  refine Qo ?_
  apply hK;clear hK
  refine Qar ?_
  refine VS [0, 1, 5, 6, 7] ?_
  refine Qad ?_
  refine Qs ?_
  refine ⟨l.length - (i + 1), by omega, i + 1, Ts ++ [T], ?_, hH2, by rw [htk];exact Qzm hT _ _ hP, by omega, by omega, ?_, rfl⟩
  ·
   rw [htk, List.flatten_append, List.flatten_append, List.flatten_singleton, List.flatten_singleton]
   rfl
  ·
   rw [htk, List.flatten_append, List.flatten_singleton, List.length_append]
   omega
 ·
  refine Qak rfl ?_
  obtain rfl : i = l.length := by omega
  rw [List.take_length] at *
  refine VQ [0, 6, 10, 11] fun K hK => ?_
  refine Qaa Tryz.call28 ?_;refine Qs ?_;refine CallK.mk (Qed Ts.flatten w' (by omega)) ?_
  rintro v w2 ⟨hHt, rfl⟩
  have hH2 := hH.call0 hHt
  simp only [List.nil_append] at hH2
  clear hH hHt
  by_cases hn : l = []
  ·
   subst hn
   have : Ts = [] := by
    cases Ts with
    | nil => rfl
    | cons T Ts => exact hP.elim
   subst this
   have hz : Qgp ([] : List (List UInt8)).flatten = .error 10 := by first | rfl | kernel_rfl
   rw [hz]
   unfold Qh4
   (try refine Qs ?_)
   apply hK;clear hK
   refine VS [6, 10, 11, 65] ?_
   refine Qai rfl rfl (fun h => ?_) (fun h => by simp at h)
   refine VQ [4] fun K hK => ?_
   (repeat (first | with_reducible refine Ch ?_ | with_reducible refine Qo ?_))
   refine Qaa Tryz.call23 ?_;refine Qs ?_;refine CallK.mk (Qcl w2) ?_
   rintro v w3 ⟨hHa, rfl⟩
   (try refine Qs ?_)
   apply hK;clear hK
   exact Qah (Qat rfl rfl ⟨(hH2.call0 hHa).sub (by simp), rfl⟩)
  have hun := Qkf hP hn (by omega)
  rw [hun]
  unfold Qh4
  have hlp := List.length_pos_iff.2 hn
  (try refine Qs ?_)
  apply hK;clear hK
  refine VS [6, 10, 11, 65] ?_
  refine Qai rfl rfl (fun h => by simp at h;exact absurd h hn) (fun h => Qac ?_)
  refine VQ [4] fun K hK => ?_
  (repeat (first | with_reducible refine Ch ?_ | with_reducible refine Qo ?_))
  refine Qaa Tryz.call23 ?_;refine Qs ?_;refine CallK.mk (Qcl w2) ?_
  rintro v w3 ⟨hHa, rfl⟩
  (try refine Qs ?_)
  apply hK;clear hK
  exact Qah (Qat rfl rfl ⟨(hH2.call0 hHa).sub (by simp), rfl⟩)
end Go.Proofs.YtfphmlhgebpojaaGreat
