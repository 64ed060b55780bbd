/- A program logic over the model, and what this program's functions do by it: part 7. No conditions: a library of lemmas. -/
import Derived.Test.YtfinjnahapbemaaGreatDoorK6
import Derived.ChangeSame
open Nat (reduceEqDiff)
set_option linter.unusedSimpArgs false
set_option linter.unusedVariables false
set_option maxRecDepth 100000
open Go.Eng.CallK renaming mk->Ya
open Go.Proofs.Tryz renaming prog->Yb,underlying9->Yg,underlying61->Yl,underlying3->Yo,call16->Yp,call7->Yz,call5->Y0
open List renaming getElem?_eq_getElem->Yc,nil_sublist->Yd,perm_singleton->Ye,getElem?_eq_some_iff->Yf,drop_succ_cons->Yh,take_succ_cons->Yi,length_append->Yj,mem_singleton->Yk,take_length->Ym,not_mem_nil->Yn,mem_of_mem_take->Yr,drop_zero->Ys,take_zero->Yt,mem_cons->Yv,take_add_one->Yx,append_assoc->Yy,range->Y1
open Go.Eng.I64 renaming mk->Yq
open Go.Eng.Res renaming blk->Yu
open Go.Eng.Heap renaming start->Yw
namespace Go.Proofs.YtfinjnahapbemaaGreatDoor
open Go Go.Eng
set_option maxHeartbeats 1000000
section
variable {w0 w:World}{B:LN}{G:List Res}
theorem Qxp (U:List Ex) (ax:OA) (cx:Nat) (m:Mb) (hU:U.length<=1000000000) (hH:Heap w0 B w (Fj ax cx U::G)):Does Yb 23 #[.slice ax U.length cx,Ik m] w fun v w'=>∃ a' c',v=.slice a' (U++[A9 m]).length c'/\Heap w0 B w' (Fj a' c' (U++[A9 m])::G):=by
 refine En [.slice ax U.length cx,Ik m] 13 Tryz.func23 ?_;refine VQ [0,3] fun K hK=>?_;refine Iq hH (Ar m) ?_;refine Qs ?_;refine ⟨trivial,fun g w1 hH1=>?_⟩;apply hK;clear hK;refine VQ [4] fun K hK=>?_;refine ⟨_,Af (hH1.at 0 rfl) (k:=1) rfl,_,Af (hH1.at 0 rfl) (k:=2) rfl,?_⟩;refine Qs ?_;refine C2 hH1 2 (Bx (A9 m)) (xs:=[.tmp 10]) Yl N6 rfl rfl rfl (by omega) (by omega) ?_;refine Qs ?_;refine ⟨by simp [Bx,A9,Value.cells],by simp [Bx,A9,Value.cells],fun gl w7 hH4=>?_⟩;refine Ce ?_;refine Qs ?_;refine C3 (zs:=#[.int .i64 0,.int .i64 0]) (bytes:=16) hH4 2 rfl Yl (by kernel_rfl) rfl (m:=1) ⟨rfl,As (hH4.at 0 rfl),64,Yl⟩ (La _) (fun h=>by simp;omega) fun a' cap' w8 hc' hH5=>?_;rw [<- Sh,<- Sa] at hH5;rw [show U.length+1=(U++[A9 m]).length by simp] at hH5 ⊢;apply hK;clear hK;exact Ae (Al rfl rfl ⟨a',cap',rfl,hH5.sub (.cons _ (.cons _ (.refl _)))⟩)
abbrev cxF:Value:=.func (.func 23) #[] #[]
theorem Qs7 (l:List Mb) (a:OA) (c:Nat) (w:World) (hl0:(Dw a c l).holds w) (hlen:l.length<=100000000) :
  Does Yb 22 #[.slice a l.length c,.slice none 0 0,cxF] w fun v w'=>∃ a' c',v=.slice a' (l.map A9).length c'/\Heap w [] w' [Fj a' c' (l.map A9)]:=by
 refine En [.slice a l.length c,.slice none 0 0,cxF] 21 Tryz.func22 ?_;refine VS [0,1,2] ?_;refine VS [1,2,9,10,11] ?_;refine Aq ?_;refine Ay [1,2,9,10,11] (fun m e w'=>∃ (i:Nat) (ax:OA) (cx:Nat),Is e [(1,.slice ax ((l.take i).map A9).length cx),(2,cxF),(9,.slice a l.length c),(10,.int .i64 l.length),(11,.int .i64 i)]/\Heap w [] w' [Fj ax cx ((l.take i).map A9)]/\i<=l.length/\m=l.length - i) l.length ?_ ?_
 ·
  refine Qs ?_;exact ⟨0,none,0,rfl,(Yw w).nilRow 64 2,by omega,rfl⟩
 rintro m e w1 ⟨i,ax,cx,rfl,hH,hi,rfl⟩;refine VS [1,2,9,10,11,12] ?_;(repeat refine Aw ?_);refine VD (fun h=>?_) (fun h=>?_)
 ·
  refine Ad ?_;refine VB ?_;obtain ⟨m,hm⟩:∃ m,l[i]? = some m:=⟨_,Yc (show i < l.length by omega)⟩;have hl1:=Lb hl0 hH;obtain ⟨g2,rfl⟩:=Cw hl1 (by omega);have hrd:=M8 (As hl1) hm;refine VQ [1,2,8,9,10,11] fun K hK=>?_;refine ⟨⟨by omega,by omega⟩,Ar m,⟨rfl,hrd⟩,?_⟩;refine Dg hH (Ar Kx) fun gx w2 hH1=>?_;refine Qs ?_;refine Ag ?_;refine Qs ?_;refine Ap hH1 0 (vs:=Ar m) rfl rfl (by kernel_rfl) (by simp [Ar]) (Ic m) fun w3 hH2=>?_;have hH3:Heap w [] w3 [Yu gx 54 (Ar m),Fj ax cx ((l.take i).map A9)]:=hH2;clear hH1 hH2 hl1 hrd hH;apply hK;clear hK;refine VQ [1,2,9,10,11] fun K hK=>?_;refine ⟨Ar m,⟨rfl,Bu (hH3.at 0 rfl)⟩,?_⟩;refine Er ?_;refine Qs ?_;refine FnK.mk Tryz.call23 (Qxp ((l.take i).map A9) ax cx m (by simp;omega) (hH3.sub (List.sublist_cons_self _ _))) ?_;rintro v w4 ⟨a',c',rfl,hH4⟩;rw [show (l.take i).map A9++[A9 m]=(l.take (i+1)).map A9 by rw [Yx,hm];simp] at hH4 ⊢;apply hK;clear hK;refine An ?_;refine VS [1,2,9,10,11] ?_;refine Ah ?_;refine Qs ?_;exact ⟨l.length - (i+1),by omega,i+1,a',c',rfl,hH4,by omega,rfl⟩
 obtain rfl:i=l.length:=by omega
 rw [Ym] at hH ⊢;refine Ax rfl ?_;refine VS [6] ?_;exact Ae (Al rfl rfl ⟨ax,cx,rfl,hH⟩)
theorem Qh8 (l:List Mb) (a:OA) (c:Nat) (n0:Int) (fv:Value) (f:Int->Mb->Int) (w:World) (hl0:(Dw a c l).holds w) (hlen:l.length<=100000000)
  (hf:∀ (n:Int) (i:Nat) (m:Mb) (w':World),n=(l.take i).foldl f n0->l[i]? = some m->FnK Yb fv [.int .i64 n,Ik m] w' fun v w2=>v=.int .i64 (f n m)/\Heap w' [] w2 []) :
  Does Yb 39 #[.slice a l.length c,.int .i64 n0,fv] w fun v w'=>v=.int .i64 (l.foldl f n0)/\Heap w [] w' []:=by
 refine En [.slice a l.length c,.int .i64 n0,fv] 21 Tryz.func39 ?_;refine VS [0,1,2] ?_;refine VS [1,2,9,10,11] ?_;refine Aq ?_;refine Ay [1,2,9,10,11] (fun m e w'=>∃ (i:Nat) (n:Int),Is e [(1,.int .i64 n),(2,fv),(9,.slice a l.length c),(10,.int .i64 l.length),(11,.int .i64 i)]/\Heap w [] w' []/\n=(l.take i).foldl f n0/\i<=l.length/\m=l.length - i) l.length ?_ ?_
 ·
  refine Qs ?_;exact ⟨0,n0,rfl,Yw w,rfl,by omega,rfl⟩
 rintro m e w1 ⟨i,n,rfl,hH,hn,hi,rfl⟩;refine VS [1,2,9,10,11,12] ?_;(repeat refine Aw ?_);refine VD (fun h=>?_) (fun h=>?_)
 ·
  refine Ad ?_;refine VB ?_;obtain ⟨m,hm⟩:∃ m,l[i]? = some m:=⟨_,Yc (show i < l.length by omega)⟩;have hl1:=Lb hl0 hH;obtain ⟨g2,rfl⟩:=Cw hl1 (by omega);have hrd:=M8 (As hl1) hm;refine VQ [1,2,8,9,10,11] fun K hK=>?_;refine ⟨⟨by omega,by omega⟩,Ar m,⟨rfl,hrd⟩,?_⟩;refine Dg hH (Ar Kx) fun gx w2 hH1=>?_;refine Qs ?_;refine Ag ?_;refine Qs ?_;refine Ap hH1 0 (vs:=Ar m) rfl rfl (by kernel_rfl) (by simp [Ar]) (Ic m) fun w3 hH2=>?_;have hH3:Heap w [] w3 [Yu gx 54 (Ar m)]:=hH2;clear hH1 hH2 hl1 hrd hH;apply hK;clear hK;refine VQ [1,2,9,10,11] fun K hK=>?_;refine ⟨Ar m,⟨rfl,Bu (hH3.at 0 rfl)⟩,?_⟩;refine Er ?_;refine Qs ?_;refine FnK.to (hf n i m w3 hn hm) ?_;rintro v w4 ⟨rfl,hA⟩;have hH4:=(hH3.call0 hA).sub (Yd _);apply hK;clear hK;refine An ?_;refine VS [1,2,9,10,11] ?_;refine Ah ?_;refine Qs ?_;exact ⟨l.length - (i+1),by omega,i+1,f n m,rfl,hH4,by rw [Yx,hm,List.foldl_append,hn];rfl,by omega,rfl⟩
 obtain rfl:i=l.length:=by omega
 rw [Ym] at hn;refine Ax rfl ?_;refine VS [6] ?_;exact Ae (Al rfl rfl ⟨by rw [hn],hH⟩)
theorem Qs8 (n:Int) (m:Mb) (w:World) (hm:I64 (1 * m.n)) (hn:I64 (n+1 * m.n)):Does Yb 41 #[.int .i64 1,.int .i64 n,Ik m] w fun v w'=>v=.int .i64 (n+m.n)/\Heap w [] w' []:=by
 refine En [.int .i64 1,.int .i64 n,Ik m] 13 Tryz.func41 ?_;refine VQ [0,1,5] fun K hK=>?_;refine Iq (Yw w) (Ar m) ?_;refine Qs ?_;refine ⟨trivial,fun g w1 hH1=>?_⟩;apply hK;clear hK;refine VQ [6] fun K hK=>?_;refine ⟨_,Af (hH1.at 0 rfl) (k:=2) rfl,?_⟩;refine Qs ?_;refine ⟨hm,hn,?_⟩;rw [Int.one_mul];apply hK;clear hK;exact Ae (Al rfl rfl ⟨rfl,hH1.sub (Yd _)⟩)
def Qus (n:Int) (m:Mb):Int:=if m.s≠n then -1 else n+m.n
theorem Qs9 (n:Int) (m:Mb) (w:World) (hn:m.s=n->I64 (n+m.n)):Does Yb 40 #[.int .i64 n,Ik m] w fun v w'=>v=.int .i64 (Qus n m)/\Heap w [] w' []:=by
 unfold Qus;refine En [.int .i64 n,Ik m] 13 Tryz.func40 ?_;refine VQ [0,3] fun K hK=>?_;refine Iq (Yw w) (Ar m) ?_;refine Qs ?_;refine ⟨trivial,fun g w1 hH1=>?_⟩;apply hK;clear hK;refine VQ [0,3,8] fun K hK=>?_;refine ⟨_,Af (hH1.at 0 rfl) (k:=1) rfl,?_⟩;refine Qs ?_;apply hK;clear hK;refine VD (fun h=>?_) (fun h=>Ad ?_)
 ·
  refine VS [4] ?_;exact Ae (Al rfl rfl ⟨by rw [if_pos h],hH1.sub (Yd _)⟩)
 refine VQ [4] fun K hK=>?_;refine ⟨_,Af (hH1.at 0 rfl) (k:=2) rfl,?_⟩;refine Qs ?_;refine ⟨hn (by simpa using h),?_⟩;apply hK;clear hK;exact Ae (Al rfl rfl ⟨by rw [if_neg h],hH1.sub (Yd _)⟩)
end
section
variable {w0 w:World}{B:LN}{G:List Res}{V:Vt}{k:Nat}
theorem Qk8 (hV:V.ok k) (hH:Heap w0 B w (dL V.d++(vH V++G))):Does Yb 21 #[pV V.g] w fun v w'=>∃ (a:OA) (c:Nat) (T:List Mb),v=.slice a T.length c/\T.Perm V.ml/\(T.Pairwise fun x y=>x.s<=y.s)/\Heap w [] w' [Dw a c T]:=by
 refine En [pV V.g] 9 Tryz.func21 ?_;refine VS [0] ?_;refine VQ [3] fun K hK=>?_;refine Aa Yp ?_;refine Qs ?_;refine Ya (W5 hV hH) ?_;rintro v w2 ⟨a,c,rfl,hA⟩;apply hK;clear hK;refine VQ [3] fun K hK=>?_;refine Aa Tryz.call55 ?_;refine Qs ?_;refine Ya (Qhp 56 Tryz.call56 _ QS7 Qzn V.ml (by have:=hV.l;omega) hV.m a c w w2 [] _ hA) ?_;rintro v w3 ⟨T,hp,hs,hA2⟩;apply hK;clear hK;rw [<- hp.length_eq];refine VS [2] ?_;refine Ae (Al rfl rfl ⟨a,c,T,rfl,hp,?_,hA2⟩);rw [List.pairwise_iff_getElem];intro i j hi hj hij;have h:=hs i j ⟨T[i],hV.m _ (hp.mem_iff.1 (List.getElem_mem hi))⟩ ⟨T[j],hV.m _ (hp.mem_iff.1 (List.getElem_mem hj))⟩ hij (Yc hi) (Yc hj);simp only at h;omega
abbrev wgF:Value:=.func (.func 41) #[.int .i64 1] #[]
abbrev pkF:Value:=.func (.func 40) #[] #[]
theorem Qta {b:Mb} (hV:V.ok k) (hb:V.ml=[b]) (hH:Heap w0 B w (dL V.d++(vH V++G))):Does Yb 15 #[pV V.g] w fun v w'=>v=.int .i64 b.n/\Heap w [] w' []:=by
 have ho:=hV.m b (by rw [hb];exact .head _);have h1:=ho.n;have h2:=ho.n2;refine En [pV V.g] 7 Tryz.func15 ?_;refine VS [0] ?_;refine VQ [2] fun K hK=>?_;refine Aa Yp ?_;refine Qs ?_;refine Ya (W5 hV hH) ?_;rintro v w2 ⟨a,c,rfl,hA⟩;rw [hb] at hA;rw [hb]
 refine Aa Tryz.call39 ?_;refine Qs ?_;refine Ya (Qh8 [b] a c 0 wgF (fun n m=>n+m.n) w2 (hA.at 0 rfl) (by simp) fun n i m w' hn hm=>by
  cases i with
  | succ i=>simp at hm
  | zero =>
   simp at hn hm;subst hn hm;exact FnK.mk (first:=#[.int .i64 1]) (cs:=#[]) Tryz.call41 (Qs8 0 b w' (Yq (by omega) (by omega)) (Yq (by omega) (by omega))) fun _ _ h=>h) ?_
 rintro v w3 ⟨rfl,hA2⟩;apply hK;clear hK;exact Ae (Al rfl rfl ⟨by simp,(hA.call0 hA2).sub (Yd _)⟩)
theorem Qfr {b:Mb} (hV:V.ok k) (hb:V.ml=[b]) (hH:Heap w0 B w (dL V.d++(vH V++G))):Does Yb 14 #[pV V.g] w fun v w'=>v=.bool (decide (b.s=30))/\Heap w [] w' []:=by
 have ho:=hV.m b (by rw [hb];exact .head _);have h1:=ho.n;have h2:=ho.n2;refine En [pV V.g] 7 Tryz.func14 ?_;refine VS [0] ?_;refine VQ [2] fun K hK=>?_;refine Aa Tryz.call21 ?_;refine Qs ?_;refine Ya (Qk8 hV hH) ?_;rintro v w2 ⟨a,c,T,rfl,hp,-,hA⟩;rw [hb] at hp;obtain rfl:=Ye.1 hp
 refine Aa Tryz.call39 ?_;refine Qs ?_;refine Ya (Qh8 [b] a c 30 pkF Qus w2 (hA.at 0 rfl) (by simp) fun n i m w' hn hm=>by
  cases i with
  | succ i=>simp at hm
  | zero =>
   simp at hn hm;subst hn hm;exact FnK.mk (first:=#[]) (cs:=#[]) Tryz.call40 (Qs9 30 b w' fun _=>Yq (by omega) (by omega)) fun _ _ h=>h) ?_
 rintro v w3 ⟨rfl,hA2⟩;refine Qs ?_;apply hK;clear hK;refine Ae (Al rfl rfl ⟨?_,(hA.call0 hA2).sub (Yd _)⟩)
 congr 1
 simp only [List.foldl_cons,List.foldl_nil,Qus];by_cases h:b.s=30
 ·
  simp [h];omega
 simp [h]
end
structure R1 (V:Vt):Prop where
 br:V.br=false
 pk:PkM V.ml
 ln:V.ml.length<=16
 en:∃ n,EndV (V.ml.map A9) n/\((V.d.nl.length / 512:Nat):Int)<=n
structure Tv (V:Vt) (b:Mb):Prop where
 br:V.br=false
 ml:V.ml=[b]
 pc:If b.p=0
 pl:b.p.length<=400
 nx:V.next<=17
 far:b.n<=b.s - 30
 may:May V.d.cap ([b].map A9++[(30,b.n)])
 ok:Mb.ok { b with s:=30 }
 ln:(b.s+b.n) * 512<=V.d.nl.length
 en:EndV [(30,b.n)] (30+b.n)
theorem Qxq {U:List Ex}{n cap:Int}{v:Value} (hc:30<=cap)
  (h:(n < 1/\v=.tuple #[.int .i64 0,.int .i64 2])∨(1<=n/\¬ (1<=cap/\cap<=4096/\May cap U)/\v=.tuple #[.int .i64 0,.int .i64 220]) ∨
   (1<=n/\(1<=cap/\cap<=4096/\May cap U)/\∃ T:List Ex,T.Perm U/\Oq T/\v=.tuple #[.int .i64 (Fl n (Fr cap T)).1,.int .i64 (Fl n (Fr cap T)).2])) :
  ∃ s0 e2:Int,v=.tuple #[.int .i64 s0,.int .i64 e2]/\(e2=0->30<=s0/\s0+n<=cap):=by
 rcases h with ⟨h1,rfl⟩ | ⟨h1,h2,rfl⟩ | ⟨h1,h2,T,h3,h4,rfl⟩
 ·
  exact ⟨0,2,rfl,by omega⟩
 ·
  exact ⟨0,220,rfl,by omega⟩
 exact ⟨_,_,rfl,fun h0=>Qqe hc ((Vu h3).2 h2.2.2) h0⟩
section
variable {w0 w:World}{G:List Res}{V:Vt}{k:Nat}
theorem Qi2 (hT:Tb w0) (hV:V.ok (k+300000)) (hH:Heap w0 [] w (dL V.d++(vH V++G))):Does Yb 7 #[pV V.g] w fun v w' =>
  ∃ (e:Int) (V':Vt),v=.int .i64 e/\(V'.ok k/\V'.g=V.g/\V'.d.g=V.d.g/\V'.d.cap=V.d.cap)/\Heap w0 [] w' (dL V'.d++(vH V'++G))/\(e=0->R1 V')/\(R1 V->e=0/\V'=V) /\
   ∀ b,Tv V b->e=0/\V'.ml=[{ b with s:=30 }]/\((V'.d.nl.length / 512:Nat):Int)=30+b.n:=by
 have hc1:=hV.d.c1;have hc2:=hV.d.c2;have hll:=hV.l;refine En [pV V.g] 79 Tryz.func7 ?_;refine VS [0] ?_;have hHn:Heap w0 [] w (Ih none 0 []::(dL V.d++(vH V++G))):=hH.nilRow 43 2;have hH0:=R0 hHn;have hV5:V.ok (k+295000+5000):=hV.mono (by show k+295000+5000<=k+300000;rw [Nat.add_assoc];exact Nat.le_refl _);generalize k+295000=k5 at hV5;refine VQ [0,3] fun K hK=>?_;refine Aa Tryz.call20 ?_;refine Qs ?_;refine Ya (Qk5 (k:=k5) hT hV5 [] none 0 (by simp) (by simp) (.head _) hH0) ?_;rintro v w2 ⟨e,V1,rfl,-,hH1,hR,-⟩;obtain ⟨h1,he⟩:=hR rfl;obtain rfl:V=V1:=h1.symm;replace hH1:=I1 hH1;clear hH hH0 hHn hR h1;apply hK;clear hK;refine VS [0,3,15] ?_;refine Vi (fun h=>?_) (fun h=>Ad ?_)
 ·
  simp only [decide_eq_true_eq] at h;refine VS [2] ?_;exact Ae (Al rfl rfl ⟨e,V,rfl,⟨hV.mono (by omega),rfl,rfl,rfl⟩,hH1,fun h2=>absurd h2 h,fun hf=>absurd (he.2 ⟨hf.br,hf.ln⟩) h,fun b hb=>absurd (he.2 ⟨hb.br,by rw [hb.ml];simp⟩) h⟩)
 replace h:e=0:=by simpa using h
 subst h;obtain ⟨hb,hl16⟩:=he.1 rfl;clear he;refine VS [0,4] ?_;refine VQ [0,4,18,19,20] fun K hK=>?_;refine Aa Tryz.call21 ?_;refine Qs ?_;refine Ya (Qk8 hV hH1) ?_;rintro v w3 ⟨a,c,S,rfl,hp,hs,hA⟩;have hH2:Heap w0 [] w3 (dL V.d++(vH V++(Dw a c S::G))):=Pw hH1 hA;have hSl:S.length=V.ml.length:=hp.length_eq;refine Qs ?_;apply hK;clear hK;have hSm:∀ m∈S,m.ok:=fun m hm=>hV.m m (hp.mem_iff.1 hm)
 have hes:∀ i,30<=Ii 30 (S.take i)/\Ii 30 (S.take i)<=30+4096 * 16:=fun i=>by
  have:=QAs (S.take i) 30 fun m hm=>⟨(hSm m (Yr hm)).n,(hSm m (Yr hm)).n2⟩;have h2:(S.take i).length<=16:=by rw [List.length_take];omega
  omega
 have hpa:R1 V->Ea 30 S=S:=fun h=>Qwb h.pk hp hs;have hSb:∀ b,Tv V b->S=[b]:=fun b h=>Ye.1 (h.ml ▸ hp);have h0:SameM V.ml S:=⟨hV.n,(hp.map _).nodup_iff.2 hV.n,fun m=>hp.mem_iff.symm⟩;refine Aq ?_;refine Ay [0,4,18,19,20] (fun q e w'=>∃ (i:Nat) (V1:Vt),Is e [(0,pV V.g),(4,.int .i64 (Ii 30 (S.take i))),(18,.slice a S.length c),(19,.int .i64 S.length),(20,.int .i64 i)]/\Heap w0 [] w' (dL V1.d++(vH V1++(Dw a c S::G)))/\V.nx V1 (k+100+18000 * (S.length - i))/\V1.br=false/\SameM V1.ml (Ea 30 (S.take i)++S.drop i)/\(R1 V->V1=V)/\(∀ b,Tv V b->i=0->V1=V)/\i<=S.length/\q=S.length - i) S.length ?_ ?_
 ·
  refine Qs ?_;exact ⟨0,V,rfl,hH2,⟨hV.mono (by omega),rfl,rfl,rfl,Nat.le_refl _⟩,hb,h0,fun _=>rfl,fun _ _ _=>rfl,by omega,rfl⟩
 clear hH1 hH2 hA h0 hs;rintro q e w4 ⟨i,V1,rfl,hH,hn1,b1,hS1,hf1,ha1,hi,rfl⟩;refine VS [0,4,18,19,20,21] ?_;(repeat refine Aw ?_);refine VD (fun h=>?_) (fun h=>?_)
 ·
  refine Ad ?_;refine VB ?_;obtain ⟨x,hx⟩:∃ x,S[i]? = some x:=⟨_,Yc (show i < S.length by omega)⟩;have ox:=hSm x (List.mem_of_getElem? hx);have o1:=ox.n;have o2:=ox.n2;have o3:=ox.s;have o4:=ox.s2;have hl1:=hH.at 6 rfl;obtain ⟨g2,rfl⟩:=Cw hl1 (by omega);have hrd:=M8 (As hl1) hx;refine VQ [0,4,6,18,19,20] fun K hK=>?_;refine ⟨⟨by omega,by omega⟩,Ar x,⟨rfl,hrd⟩,?_⟩;refine Dg hH (Ar Kx) fun gx w5 hH3=>?_;refine Qs ?_;refine Ag ?_;refine Qs ?_;refine Ap hH3 0 (vs:=Ar x) rfl rfl (by kernel_rfl) (by simp [Ar]) (Ic x) fun w6 hH4=>?_;have hH5:Heap w0 [] w6 (dL V1.d++(vH V1++(Yu gx 54 (Ar x)::Dw (some ⟨g2,0,none⟩) c S::G))):=R0 hH4;clear hH hH3 hH4 hl1 hrd;apply hK;clear hK
  have hdr:S.drop i=x::S.drop (i+1):=by
   obtain ⟨h1,h2⟩:=Yf.1 hx;rw [<- h2,<- List.drop_eq_getElem_cons h1]
  rw [hdr] at hS1;have hfin:R1 V->x.s=Ii 30 (S.take i):=fun h=>QP8 (hpa h) hx
  have haw:∀ b,Tv V b->i=0/\x=b/\Ii 30 (S.take i)=30:=fun b hb=>by
   have h1:=hSb b hb;subst h1;cases i with
   | zero=>exact ⟨rfl,by simpa using hx.symm,rfl⟩
   | succ i=>simp at hx
  have hst:=Qwc S hx;have hen:=Qzq S hx;obtain ⟨he1,he2⟩:=hes i;have he3:=hes (i+1);generalize Ii 30 (S.take i)=at0 at *;refine VQ [0,4,6,18,19,20,36] fun K hK=>?_;refine ⟨_,Af (hH5.at 6 rfl) (k:=1) rfl,?_⟩;refine Qs ?_;refine ⟨Yq (by omega) (by omega),_,Af (hH5.at 6 rfl) (k:=2) rfl,?_⟩;refine Qs ?_
  suffices out:∀ bb:Bool,(bb=true->x.s≠at0/\x.s - at0 < x.n)->K [(0,pV V.g),(4,.int .i64 at0),(6,pV gx),(18,.slice (some ⟨g2,0,none⟩) S.length c),(19,.int .i64 S.length),(20,.int .i64 i),(36,.bool bb)] w6 by
   refine ⟨fun h2=>⟨_,Af (hH5.at 6 rfl) (k:=1) rfl,?_⟩,fun h2=>out _ (by simp)⟩;refine Qs ?_;exact out _ fun h3=>⟨by simpa using h3,h2⟩
  intro bb hbb;apply hK;clear hK;refine Do [0,4,6,18,19,20] (fun e w'=>∃ V2:Vt,Is e [(0,pV V.g),(4,.int .i64 at0),(6,pV gx),(18,.slice (some ⟨g2,0,none⟩) S.length c),(19,.int .i64 S.length),(20,.int .i64 i)]/\Heap w0 [] w' (dL V2.d++(vH V2++(Yu gx 54 (Ar x)::Dw (some ⟨g2,0,none⟩) c S::G)))/\V.nx V2 (k+100+18000 * (S.length - (i+1))+9000)/\V2.br=false/\(∃ s,SameM V2.ml (Ea 30 (S.take i)++{ x with s:=s }::S.drop (i+1)))/\(x.s=at0->V2=V1)/\∀ b,Tv V b->V2=V1) ?_ ?_
  ·
   refine Ai rfl rfl (fun h2=>?_) (fun h2=>?_)
   ·
    obtain ⟨q1,q2⟩:=hbb h2;have hno:¬ R1 V:=fun hf=>q1 (hfin hf)
    have hna:∀ b,¬ Tv V b:=fun b hb=>by
     obtain ⟨h1,rfl,h3⟩:=haw b hb;have:=hb.far;omega
    have hm1:V1.ml.length=S.length:=by rw [hS1.perm.length_eq,Yj,Zy,List.length_cons,List.length_take,List.length_drop];omega
    have k1:=hn1.ok;have kc:=hn1.cap;refine VQ [0,4,6,7,18,19,20] fun K hK=>?_;rw [<- hn1.g];refine Aa Yp ?_;refine Qs ?_;refine Ya (W5 k1 hH5) ?_;rintro v w7 ⟨am,cm,rfl,hA⟩;refine Aa Tryz.call22 ?_;refine Qs ?_;refine Ya (Qs7 V1.ml am cm w7 (hA.at 0 rfl) (by omega)) ?_;rintro v w8 ⟨ax,cx,rfl,hA2⟩;have hH6:Heap w0 [] w8 (dL V1.d++(vH V1++(Fj ax cx (V1.ml.map A9)::Yu gx 54 (Ar x)::Dw (some ⟨g2,0,none⟩) c S::G))):=Pw (I1 (Pw hH5 hA)) hA2;clear hH5 hA hA2;apply hK;clear hK
    have hxo:∀ y∈V1.ml.map A9,Kg y:=fun y hy=>by
     obtain ⟨m,hm,rfl⟩:=List.mem_map.1 hy;exact ⟨(M4 k1 m hm).s,(M4 k1 m hm).n⟩
    refine VH _ (Ext.refl _) [0,4,6,8,9,18,19,20] [(0,true),(1,true),(3,true),(4,true),(2,false),(5,false),(6,true),(7,true),(8,true),(9,true),(10,true)] fun K hK=>?_;refine ⟨_,Af (hH6.at 7 rfl) (k:=2) rfl,?_⟩;refine Aa Tryz.call25 ?_;refine Qs ?_;refine Ya (Qxi k1 hH6) ?_;rintro v w9 ⟨rfl,rfl⟩;refine ⟨Ext.refl _,?_⟩;(try simp only [Bi]);refine Aa Tryz.call24 ?_;refine Qs ?_;refine Ya (Qfq (V1.ml.map A9) ax cx V1.d.cap x.n _ (As (hH6.at 6 rfl)) (by simp;omega) hxo (Yq (by omega) (by omega)) (Yq (by omega) (by omega))) ?_;rintro v w8 ⟨hA3,hv⟩;obtain ⟨tz,e2,rfl,q3⟩:=Qxq (by omega) hv;have hH7:Heap w0 [] w8 (dL V1.d++(vH V1++(Yu gx 54 (Ar x)::Dw (some ⟨g2,0,none⟩) c S::G))):=I1 (hH6.call0 hA3);refine ⟨hA3.ext,?_⟩;(try simp only [Bi]);apply hK;clear hK;clear hH6 hA3 hv hxo;refine VS [0,4,6,8,9,18,19,20,50] ?_;refine Ai rfl rfl (fun h3=>?_) (fun h3=>Ad ?_)
    ·
     simp only [decide_eq_true_eq] at h3;refine VS [2] ?_;exact Ae (Al rfl rfl ⟨e2,V1,rfl,⟨k1.mono (by omega),hn1.g,hn1.dg,kc⟩,I1 (I1 hH7),fun h4=>absurd h4 h3,fun hf=>absurd hf hno,fun b hb=>absurd hb (hna b)⟩)
    replace h3:e2=0:=by simpa using h3
    obtain ⟨q4,q5⟩:=q3 h3;clear h3 q3;refine VQ [0,4,6,10,18,19,20] fun K hK=>?_;refine ⟨_,Af (hH7.at 6 rfl) (k:=0) rfl,?_⟩;refine Aa Tryz.call18 ?_;refine Qs ?_;refine Ya (Qco (k:=k+100+18000 * (S.length - (i+1))+9000) (k1.mono (by omega)) x.p tz ox.p (Yq (by omega) (by omega)) hH7) ?_;rintro v w9 ⟨e,V2,rfl,hn2,hH8,hM,-⟩;rw [hn1.g];apply hK;clear hK;refine VS [0,4,6,10,18,19,20,58] ?_;refine Ai rfl rfl (fun h3=>?_) (fun h3=>Ad ?_)
    ·
     simp only [decide_eq_true_eq] at h3;refine VS [2] ?_;exact Ae (Al rfl rfl ⟨e,V2,rfl,⟨hn2.ok.mono (by omega),hn2.g.trans hn1.g,hn2.dg.trans hn1.dg,hn2.cap.trans kc⟩,I1 (I1 hH8),fun h4=>absurd h4 h3,fun hf=>absurd hf hno,fun b hb=>absurd hb (hna b)⟩)
    obtain ⟨q6,q7⟩:=hM (by simpa using h3);refine Ah ?_;refine Qs ?_;exact ⟨V2,rfl,hH8,hn1.trans hn2,q6,⟨tz,Qkt hS1 q7⟩,fun h4=>absurd h4 q1,fun b hb=>absurd hb (hna b)⟩
   refine Ad ?_;refine Ah ?_;refine Qs ?_;exact ⟨V1,rfl,hH5,hn1.mono (by omega),b1,⟨x.s,hS1⟩,fun _=>rfl,fun _ _=>rfl⟩
  clear hH5 hbb bb;rintro e w5 ⟨V2,rfl,hH,hn2,b2,⟨s2,hS2⟩,hy1,hy2⟩;refine VQ [0,4,6,18,19,20,63] fun K hK=>?_;refine ⟨_,Af (hH.at 6 rfl) (k:=1) rfl,?_⟩;refine Qs ?_;apply hK;clear hK;refine Do [0,4,6,18,19,20] (fun e w'=>∃ V3:Vt,Is e [(0,pV V.g),(4,.int .i64 at0),(6,pV gx),(18,.slice (some ⟨g2,0,none⟩) S.length c),(19,.int .i64 S.length),(20,.int .i64 i)]/\Heap w0 [] w' (dL V3.d++(vH V3++(Yu gx 54 (Ar x)::Dw (some ⟨g2,0,none⟩) c S::G)))/\V.nx V3 (k+100+18000 * (S.length - (i+1)))/\V3.br=false/\SameM V3.ml (Ea 30 (S.take (i+1))++S.drop (i+1))/\(R1 V->V3=V)) ?_ ?_
  ·
   refine Ai rfl rfl (fun h2=>?_) (fun h2=>?_)
   ·
    simp only [decide_eq_true_eq] at h2;refine VQ [0,4,6,11,18,19,20] fun K hK=>?_;refine ⟨_,Af (hH.at 6 rfl) (k:=0) rfl,?_⟩;rw [<- hn2.g];refine Aa Tryz.call18 ?_;refine Qs ?_;refine Ya (Qco (k:=k+100+18000 * (S.length - (i+1))) hn2.ok x.p at0 ox.p (Yq (by omega) (by omega)) hH) ?_;rintro v w6 ⟨e,V3,rfl,hn3,hH2,hM,hL⟩;rw [hn2.g];apply hK;clear hK;refine VS [0,4,6,11,18,19,20,70] ?_;refine Ai rfl rfl (fun h3=>?_) (fun h3=>Ad ?_)
    ·
     simp only [decide_eq_true_eq] at h3;refine VS [2] ?_;refine Ae (Al rfl rfl ⟨e,V3,rfl,⟨hn3.ok.mono (by omega),hn3.g.trans hn2.g,hn3.dg.trans hn2.dg,hn3.cap.trans hn2.cap⟩,I1 (I1 hH2),fun h4=>absurd h4 h3,fun hf=>absurd (hfin hf) h2,fun b hb=>absurd ?_ h3⟩);obtain ⟨r1,rfl,rfl⟩:=haw b hb;have hv:V2=V:=(hy2 x hb).trans (ha1 x hb r1);subst hv;exact (hL x (by rw [hb.ml];exact .head _) rfl hb.br hb.pc hb.pl hb.nx (by rw [hb.ml];exact hb.may) hb.ok hb.ln).1
    obtain ⟨q6,q7⟩:=hM (by simpa using h3);refine Ah ?_;refine Qs ?_;refine ⟨V3,rfl,hH2,hn2.trans hn3,q6,?_,fun hf=>absurd (hfin hf) h2⟩;rw [hst,Yy];exact Qkt (m:={ x with s:=s2 }) hS2 q7
   simp only [decide_eq_false_iff_not,Decidable.not_not] at h2;obtain rfl:V1=V2:=(hy1 h2).symm;refine Ad ?_;refine Ah ?_;refine Qs ?_;refine ⟨V1,rfl,hH,hn2.mono (by omega),b2,?_,hf1⟩;rw [hst,Yy,<- h2];exact hS1
  clear hH hn2 b2 hS2 hy1 hy2 s2 V2;rintro e w5 ⟨V3,rfl,hH,hn3,b3,hS3,hf3⟩;refine VQ [0,4,18,19,20] fun K hK=>?_;refine ⟨_,Af (hH.at 6 rfl) (k:=2) rfl,?_⟩;refine Qs ?_;refine ⟨Yq (by omega) (by omega),?_⟩;rw [<- hen];apply hK;clear hK;refine An ?_;refine VS [0,4,18,19,20] ?_;refine Ah ?_;refine Qs ?_;exact ⟨S.length - (i+1),by omega,i+1,V3,rfl,I1 hH,hn3,b3,hS3,hf3,fun _ _ h4=>absurd h4 (by omega),by omega,rfl⟩
 obtain rfl:i=S.length:=by omega
 rw [Ym,List.drop_length,List.append_nil] at hS1;refine Ax rfl ?_;refine VQ [2] fun K hK=>?_;rw [<- hn1.g];refine Aa Tryz.call26 ?_;refine Qs ?_;refine Ya (Qs5 (k:=k+90) (hn1.ok.mono (by omega)) hH) ?_;rintro v w5 ⟨e,V2,n,rfl,ht,hH2,hE,hee,hR⟩;obtain rfl:e=0:=hee.2 b1;obtain ⟨r1,r2,r3,r4⟩:=hR rfl;apply hK;clear hK;have hln:V1.ml.length=S.length:=by rw [hS1.perm.length_eq,Zy]
 refine Ae (Al rfl rfl ⟨0,V2,rfl,⟨ht.ok.mono (by omega),ht.g.trans hn1.g,ht.dg.trans hn1.dg,ht.cap.trans hn1.cap⟩,I1 hH2,fun _=>⟨r1,?_,?_,n,?_,r2⟩,fun hf=>⟨rfl,?_⟩,fun b hb=>?_⟩)
 ·
  rw [ht.ml];exact ⟨S,hS1,fun m hm=>(hSm m hm).n⟩
 ·
  rw [ht.ml];omega
 ·
  rw [ht.ml];exact hE
 ·
  obtain rfl:V=V1:=(hf1 hf).symm;obtain ⟨m,g1,g3⟩:=hf.en;exact r3 (by rw [hE.one g1];exact g3)
 have hS:=hSb b hb;subst hS;have hml:V1.ml=[{ b with s:=30 }]:=Ye.1 hS1.perm
 have hn:n=30+b.n:=by
  rw [hml] at hE;exact hE.one hb.en
 refine ⟨rfl,ht.ml.trans hml,?_⟩;rw [<- hn];have g1:=hb.ln;have g2:=hb.far;have g3:=hn1.up;have g4:=hb.ok.n;exact r4 (by rw [hn];simp only at g4;omega)
end
theorem QLh {c T:Bs} (hc:c=[49]∨c=[50]) (h:P1 c T):T.length<=210:=by
 obtain ⟨bs,hb,rfl⟩:=h;have h0:C4 c 20000=[c]:=by rcases hc with rfl | rfl <;> decide +kernel
 rw [h0] at hb ⊢
 match bs,hb with
 | [b],⟨⟨σ,ho,hbb⟩,_⟩ =>
  have e:σ=[0]:=ho.unique (by rcases hc with rfl | rfl <;> exact ⟨by decide +kernel,by decide +kernel⟩);subst e;subst hbb;have h1:(Fq c [0]).length<=1500:=by rcases hc with rfl | rfl <;> decide +kernel
  rw [Ls];simp only [F7,Yj,C0,In,List.flatten_cons,List.flatten_nil,List.length_nil,List.length_cons];omega
theorem QF1 {p c:Bs} (hc:c=[49]∨c=[50]) (hp:p=[97]∨p=[98]) (h:P1 c (tS c)):(Mu p c (tS c)).length=512 * 2:=by
 have hl:=QLh hc h;have h14:=(h.pk (by rcases hc with rfl | rfl <;> decide)).len.1;have ho:Mu p c (tS c)=Ms [] p 48 1++Kw (tS c):=by rcases hc with rfl | rfl <;> rcases hp with rfl | rfl <;> rfl
 rw [ho,Yj,Q3 (by decide) (by rcases hp with rfl | rfl <;> decide),Rc];omega
def K9 (p c:Bs) (s:Int):Mb:=⟨p,s,2,1,Oo c⟩
theorem Qtk {p c:Bs}{s:Int} (hp:p.length<=1000) (h1:30<=s) (h2:s<=4094):(K9 p c s).ok:=⟨hp,h1,by show (1:Int)<=2;omega,by show (2:Int)<=4096;omega,by show s<=4096 - 2;omega,by show (0:Int)<=1;omega,by show (1:Int)<=8192;omega,S0 _ 32⟩
theorem Qqf {V:Vt}{p c:Bs}{s:Int} (hc:c=[49]∨c=[50]) (hp:p=[97]∨p=[98]) (hb:V.br=false) (hl:V.ml.length < 16) (hn:V.next<=17) (hm:May V.d.cap (V.ml.map A9)) (h1:30<=s) (h2:s<=4094)
  (hf:∀ T,T.Perm (V.ml.map A9)->Oq T->Fl ((2:Nat):Int) (Fr V.d.cap T)=(s,0)):N9 V (p,c) s 2 where
 br:=hb
 pc:=by show If p=0;rcases hp with rfl | rfl <;> decide +kernel
 pl:=by show p.length<=400;rcases hp with rfl | rfl <;> decide
 cl:=by show c.length<=8192;rcases hc with rfl | rfl <;> decide
 ln:=hl
 nx:=hn
 own:=QF1 hc hp
 may:=hm
 fir:=hf
 ok:=by
  have:((c.length:Nat):Int)=1:=by rcases hc with rfl | rfl <;> rfl
  show Mb.ok ⟨p,s,2,c.length,Oo c⟩
  rw [this];exact Qtk (by rcases hp with rfl | rfl <;> decide) h1 h2
theorem QQd {T:List Mb} (h:L3 [] [Db ([97],[49]) 30 2] T):T=[K9 [97] [49] 30]:=by
 refine Ye.1 (SameM.perm ⟨h.1,by simp,fun m=>?_⟩);rw [h.2.1 m,Yk]
 show (if m.p=[97] then some (K9 [97] [49] 30) else none)=some m ↔ _
 constructor
 ·
  intro h2;split at h2
  ·
   exact (Option.some.inj h2).symm
  cases h2
 rintro rfl;rfl
theorem QQe {T:List Mb} (h:L3 [K9 [97] [49] 30] [Db ([98],[50]) 32 2] T):SameM T [K9 [97] [49] 30,K9 [98] [50] 32]:=by
 refine ⟨h.1,by decide,fun m=>?_⟩;rw [h.2.1 m]
 show (if m.p=[98] then some (K9 [98] [50] 32) else if m.p=[97] then some (K9 [97] [49] 30) else none)=some m ↔ _
 simp only [Yv,Yn,or_false];constructor
 ·
  intro h2;split at h2
  ·
   exact .inr (Option.some.inj h2).symm
  split at h2
  ·
   exact .inl (Option.some.inj h2).symm
  cases h2
 rintro (rfl | rfl)
 ·
  rfl
 rfl
theorem QQf {T U:List Mb} (h:SameM T [K9 [97] [49] 30,K9 [98] [50] 32]) (h2:L3 T [(2,⟨[97],0,0,0,0⟩)] U):U=[K9 [98] [50] 32]:=by
 refine Ye.1 (SameM.perm ⟨h2.1,by simp,fun m=>?_⟩);rw [h2.2.1 m,Yk]
 show (if m.p=[97] then none else N1 T m.p)=some m ↔ _
 constructor
 ·
  intro h3;split at h3
  ·
   cases h3
  have h4:=(h.2.2 m).1 ((Qdm h.1 _ _).1 h3).1;simp only [Yv,Yn,or_false] at h4;rcases h4 with rfl | rfl
  ·
   rename_i h5;exact absurd rfl h5
  rfl
 rintro rfl;rw [if_neg (by decide)];exact (Qdm h.1 _ _).2 ⟨(h.2.2 _).2 (by simp),rfl⟩
theorem QQg (T:List Ex) (h:T.Perm []):Fl ((2:Nat):Int) (Fr 60 T)=(30,0):=by
 obtain rfl:=h.eq_nil;decide
theorem QQh (T:List Ex) (h:T.Perm [(30,2)]):Fl ((2:Nat):Int) (Fr 60 T)=(32,0):=by
 obtain rfl:=Ye.1 h;decide
theorem QGr {c s:Int} (h1:30<=s) (h2:s+2<=c):May c [(s,2)]:=by
 refine ⟨fun x hx=>?_,List.pairwise_singleton _ _⟩;rw [Yk] at hx;subst hx;exact ⟨h1,by show (1:Int)<=2;omega,h2⟩
theorem QQi:May 60 [(32,2),(30,2)]:=by
 refine ⟨?_,?_⟩
 ·
  intro x hx;simp only [Yv,Yn,or_false] at hx;rcases hx with rfl | rfl <;> (unfold Ok1;omega)
 simp [dj]
theorem Qar (w:World) (hT:Tb w):Does Yb 5 #[] w fun v w'=>v=.bool true/\Heap w [] w' []:=by
 refine En [] 69 Tryz.func5 ?_;refine VS [] ?_;refine VQ [1,2] fun K hK=>?_;refine Aa Tryz.call10 ?_;refine Qs ?_;refine Ya (Qk7 60 (by omega) (by omega) w) ?_;rintro v w4 ⟨D,rfl,hD,hDc,hDn,hA1⟩;have hH1:Heap w [] w4 (dL D++[]):=by rw [List.append_nil];exact hA1
 clear hA1;apply hK;clear hK;refine VQ [1,2,3,4] fun K hK=>?_;refine Aa Tryz.call11 ?_;refine Qs ?_;refine Ya (Qh7 (k:=99999000) (hD.mono (by omega)) hDn (by omega) hH1) ?_;rintro v w5 ⟨V0,rfl,hV0,hVc,hVg,m0,-,n0,b0,hH⟩;clear hH1;rw [<- hVg];rw [hDc] at hVc;apply hK;clear hK;refine VQ [1,3,38] fun K hK=>?_;refine ⟨fun _=>⟨fun _=>?_,fun h=>absurd trivial h⟩,fun h=>absurd trivial h⟩;refine Aa Tryz.call12 ?_;refine Qs ?_;refine Ya (Qel (k:=99990000) hT (hV0.mono (by omega)) [97] [49] (by decide) hH) ?_;rintro v w6 ⟨e,V1,rfl,h1,hH1,hP⟩;obtain ⟨rfl,b1,n1,p1,l1⟩:=hP 30 2 (Qqf (.inl rfl) (.inl rfl) b0 (by rw [m0];decide) (by omega) (by rw [m0];exact ⟨by simp,.nil⟩) (by omega) (by omega) (by rw [m0,hVc];exact fun T h _=>QQg T h));rw [m0] at p1;have m1:=QQd p1;have c1:=h1.cap.trans hVc;clear hP p1 hH;rw [<- h1.g];refine Qs ?_;refine ⟨fun _=>?_,fun h=>absurd trivial h⟩;refine Aa Tryz.call12 ?_;refine Qs ?_;refine Ya (Qel (k:=99980000) hT (h1.ok.mono (by omega)) [98] [50] (by decide) hH1) ?_;rintro v w7 ⟨e,V2,rfl,h2,hH2,hP⟩;obtain ⟨rfl,b2,n2,p2,l2⟩:=hP 32 2 (Qqf (.inr rfl) (.inr rfl) b1 (by rw [m1];decide) (by omega) (by rw [m1,c1];exact QGr (s:=30) (by omega) (by omega)) (by omega) (by omega) (by rw [m1,c1];exact fun T h _=>QQh T h));rw [m1] at p2;have m2:=QQe p2;clear hP p2 hH1;rw [<- h2.g];refine Qs ?_;refine ⟨fun _=>?_,fun h=>absurd trivial h⟩;refine Aa Tryz.call13 ?_;refine Qs ?_;refine Ya (Qk6 (k:=99970000) (h2.ok.mono (by omega)) [97] (by decide) hH2) ?_;rintro v w8 ⟨e,V3,rfl,h3,hH3,hP⟩;obtain ⟨rfl,b3,n3,p3⟩:=hP b2 (by decide +kernel) ⟨_,(m2.2.2 _).2 (.head _),rfl⟩ (by omega) (by decide);have m3:=QQf m2 p3;have c3:=h3.cap.trans (h2.cap.trans c1);have g3:=h3.dg.trans (h2.dg.trans h1.dg);have l3:=Nat.le_trans (show (32+2) * 512<=V2.d.nl.length by omega) h3.up;clear hP p3 hH2 l1 l2 m2;rw [<- h3.g,<- g3];have k3:=h3.ok;clear h3 h2 h1 g3;refine Qs ?_;apply hK;clear hK;refine Ai rfl rfl (fun h=>by simp at h) (fun h=>Ad ?_);have hok3:(K9 [98] [50] 32).ok:=Qtk (by decide) (by omega) (by omega);refine VQ [0] fun K hK=>?_;refine Aa Tryz.call14 ?_;refine Qs ?_;refine Ya (Qfr k3 m3 hH3) ?_;rintro v w9 ⟨rfl,hA⟩;replace hH3:Heap w [] w9 (dL V3.d++(vH V3++[])):=hH3.call0 hA;rw [show decide ((K9 [98] [50] 32).s=30)=false from rfl];refine Qs ?_;refine Aa Tryz.call15 ?_;refine Qs ?_;refine Ya (Qta k3 m3 hH3) ?_;rintro v w10 ⟨rfl,hA2⟩;replace hH3:Heap w [] w10 (dL V3.d++(vH V3++[])):=hH3.call0 hA2;rw [show (K9 [98] [50] 32).n=2 from rfl];clear hA hA2;refine Qs ?_;refine ⟨fun _=>?_,fun h=>absurd trivial h⟩;refine Aa Yz ?_;refine Qs ?_;refine Ya (Qi2 (k:=99000000) hT (k3.mono (by omega)) hH3) ?_;rintro v w11 ⟨e,V4,rfl,⟨k4,g4,d4,-⟩,hH4,-,-,hAw⟩;obtain ⟨rfl,m4,l4⟩:=hAw _ ⟨b3,m3,by decide +kernel,by decide,by omega,by decide,by rw [c3];exact QQi,Qtk (p:=[98]) (c:=[50]) (s:=30) (by decide) (by omega) (by omega),by show (((32:Int)+2) * 512<=_);omega,.inl ⟨QGr (s:=30) (by omega) (by omega),by decide⟩⟩;clear hAw hH3;rw [<- g4,<- d4];refine Qs ?_;refine ⟨fun _=>?_,fun h=>absurd trivial h⟩;refine Aa Tryz.call14 ?_;refine Qs ?_;refine Ya (Qfr k4 m4 hH4) ?_;rintro v w12 ⟨rfl,hA⟩;replace hH4:Heap w [] w12 (dL V4.d++(vH V4++[])):=hH4.call0 hA;rw [show decide (({ K9 [98] [50] 32 with s:=30 }:Mb).s=30)=true from rfl];refine Qs ?_;refine Aa Yp ?_;refine Qs ?_;refine Ya (W5 k4 hH4) ?_;rintro v w13 ⟨a,c,rfl,hA2⟩;replace hH4:Heap w [] w13 (dL V4.d++(vH V4++[Dw a c V4.ml])):=Pw hH4 hA2;rw [m4] at hA2 ⊢;obtain ⟨gm,rfl⟩:=Cw (hA2.at 0 rfl) (by simp);have hrd:=M8 (As (hA2.at 0 rfl)) (i:=0) rfl;refine Qs ?_;refine ⟨⟨by omega,by simp⟩,.int .i64 30,hrd 1 _ rfl,?_⟩;refine Qs ?_;refine ⟨fun _=>?_,fun h=>absurd trivial h⟩;refine Aa Tryz.call17 ?_;refine Qs ?_;refine Ya (Qz k4.d hH4) ?_
 rintro v w14 ⟨rfl,rfl⟩;rw [l4];refine Qs ?_;apply hK;clear hK;exact Ae (Al rfl rfl ⟨rfl,hH4.sub (Yd _)⟩)
theorem compactTwice_law (cp:Int) (l:List Ac) (a:OA) (c:Nat) (w:World) (hT:Tb w) (hA:Acts w a l) (hto:∀ x∈l,I64 x.tz) :
  Does Yb 3 #[.int .i64 cp,.slice a l.length c] w fun v w'=>v=.bool true/\Heap w [] w' []:=by
 refine En [.int .i64 cp,.slice a l.length c] 49 Tryz.func3 ?_;refine VS [0,1] ?_;refine VQ [0,1,12] fun K hK=>?_;refine Aa Tryz.call4 ?_;refine Qs ?_;refine Ya (QAj l a c w hA) ?_;rintro v w1 ⟨rfl,b,rfl,hb⟩;refine Qs ?_;apply hK;clear hK;refine Vi (fun h=>?_) (fun h=>Ad ?_)
 ·
  refine VQ [4] fun K hK=>?_;refine Aa Y0 ?_;refine Qs ?_;refine Ya (Qar w1 hT) ?_;rintro v w2 ⟨rfl,hH⟩;apply hK;clear hK;exact Ae (Al rfl rfl ⟨rfl,hH⟩)
 obtain ⟨hl,hp⟩:=hb (by simpa using h);clear hb h;refine VQ [5,6] fun K hK=>?_;refine Aa Tryz.call6 ?_;refine Qs ?_;refine Ya (Qo6 w1 hT cp l a c hA hl hp hto) ?_;rintro v w2 ⟨V,am,n,cm,rfl,hV,hH⟩;refine Dg hH [.slice none 0 0] fun g7 w3 hH1=>?_;refine Qs ?_;refine Ag ?_;refine Qs ?_;refine Ap hH1 0 (vs:=[.slice am n cm]) rfl rfl (by kernel_rfl) (by simp) (by simp [Value.oneCell']) fun w4 hH2=>?_;replace hH:Heap w1 [] w4 (dL V.d++(vH V++[])):=hH2.sub (.cons _ (.refl _));clear hH1 hH2;apply hK;clear hK;refine VS [5,6,22] ?_;refine Ai rfl rfl (fun h=>by simp at h) (fun h=>Ad ?_);clear h;refine VQ [5,6,25] fun K hK=>?_;refine Aa Yz ?_;refine Qs ?_;refine Ya (Qi2 (k:=1000000) hT (hV.mono (by omega)) hH) ?_;rintro v w5 ⟨e,V1,rfl,⟨k1,g1,d1,-⟩,hH1,hf,-,-⟩;clear hH;rw [<- g1,<- d1];refine Qs ?_;apply hK;clear hK;refine Vi (fun h=>?_) (fun h=>Ad ?_)
 ·
  refine VQ [4] fun K hK=>?_;refine Aa Y0 ?_;refine Qs ?_;refine Ya (Qar w5 (hT.heap (hH1.sub (Yd _)))) ?_;rintro v w6 ⟨rfl,hA2⟩;apply hK;clear hK;exact Ae (Al rfl rfl ⟨rfl,(hH1.call0 hA2).sub (Yd _)⟩)
 have hfin:=hf (by simpa using h);clear hf h;refine VQ [5,6,8,9] fun K hK=>?_;refine Aa Tryz.call8 ?_;refine Qs ?_;refine Ya (Qfn k1.d hH1) ?_;rintro v w6 ⟨rfl,rfl⟩;refine Aa Tryz.call9 ?_;refine Qs ?_;refine Ya (Qfo k1.d hH1) ?_;rintro v w7 ⟨rfl,rfl⟩;apply hK;clear hK;refine VQ [4] fun K hK=>?_;refine Aa Yz ?_;refine Qs ?_;refine Ya (Qi2 (k:=100) hT (k1.mono (by omega)) hH1) ?_;rintro v w8 ⟨e,V2,rfl,⟨k2,g2,d2,-⟩,hH2,-,hf,-⟩;obtain ⟨rfl,h2⟩:=hf hfin;obtain rfl:V1=V2:=h2.symm;refine Qs ?_;refine ⟨fun _=>?_,fun h=>absurd trivial h⟩;refine Aa Tryz.call8 ?_;refine Qs ?_;refine Ya (Qfn k2.d hH2) ?_;rintro v w9 ⟨rfl,rfl⟩;refine Qs ?_;refine ⟨fun _=>?_,fun h=>absurd trivial h⟩;refine Aa Tryz.call9 ?_;refine Qs ?_;refine Ya (Qfo k2.d hH2) ?_;rintro v w10 ⟨rfl,rfl⟩;refine Qs ?_;refine ⟨fun _=>?_,fun h=>absurd trivial h⟩;refine Aa Y0 ?_;refine Qs ?_;refine Ya (Qar w10 (hT.heap (hH2.sub (Yd _)))) ?_;rintro v w11 ⟨rfl,hA2⟩;apply hK;clear hK;exact Ae (Al rfl rfl ⟨rfl,(hH2.call0 hA2).sub (Yd _)⟩)
open Go Go.Eng Go.ChangeShapes Go.WideShapes
section
variable {H:Type}{enc:TypeId×Value->H}{W:World}{base:Nat}{sp:Nat->Bool}{held:Bool}
theorem Qqg {α:Type} [Inhabited α] {f:α->LV}{k:Nat} (hk:∀ x,(f x).length=k) {t e:TypeId} (ht:Yb.underlying t=some (.slice e)) (hc:Yb.cellsOf e=k) (hk0:0 < k) (R:α->Prop)
  (each:∀ (fuel:Nat) (cs:LV) (x:DataW H×List MemPlace),DataW.trod enc Yb W base sp held fuel e cs=some x->∃ y,cs=f y/\R y) {fuel:Nat}{cs:LV}{x:DataW H×List MemPlace}
  (h:DataW.trod enc Yb W base sp held fuel t cs=some x):∃ (a:OA) (l:List α) (c:Nat),cs=[.slice a l.length c]/\RS W a l.length k (Bw f l)/\∀ y∈l,R y:=by
 rcases DataW.trod_slice ht h with ⟨rfl,_⟩ | ⟨a,len,cap,elems,rest,n,_,rfl,hx,hb,hl,hm,hlen,hel,_,_⟩
 ·
  exact ⟨none,[],0,rfl,⟨by simp [Bw],fun _=>rfl,fun ad h=>(by cases h)⟩,fun _ h=>(by cases h)⟩
 have each:∀ i,∃ y:α,i < len->R y/\∀ j u,(f y)[j]? = some u->W.cell? ((a.add (i * k)).add j)=some u:=by
  intro i;by_cases hi:i < len
  ·
   have h2:=hel i hi;rw [Yc (by omega),hc,Option.bind_eq_some_iff] at h2;obtain ⟨cs,h3,h4⟩:=h2;obtain ⟨y,hy,hR⟩:=each n cs _ h4;refine ⟨y,fun _=>⟨hR,fun j u hu=>?_⟩⟩;have h11:=(World.cells?_some h3).2
   have hj:j < k:=by
    have:=(Yf.1 hu).1
    rwa [hk] at this
   rw [h11.2 j hj,hy,hu]
  exact ⟨default,fun h=>absurd h hi⟩
 obtain ⟨g,hg⟩:=Classical.axiomOfChoice each;have hll:((Y1 len).map g).length=len:=by simp
 refine ⟨some a,(Y1 len).map g,cap,by rw [hll],⟨Zs hk _,fun h=>(by cases h),fun ad had=>?_⟩,fun y hy=>?_⟩
 ·
  cases had;intro j u hu;have hj:=(Yf.1 hu).1;rw [Zs hk,hll] at hj;have hi:j / k < len:=(Nat.div_lt_iff_lt_mul hk0).2 hj;have hg0:((Y1 len).map g)[j / k]? = some (g (j / k)):=by simp [hi]
  obtain ⟨_,hcl⟩:=hg (j / k) hi;have hj4:j % k < (f (g (j / k))).length:=by rw [hk];exact Nat.mod_lt _ hk0
  have hg2:=Vk hk _ (j / k) _ hg0 (j % k) _ (Yc hj4);have hjk:j / k * k+j % k=j:=by rw [Nat.mul_comm];exact Nat.div_add_mod j k
  rw [hjk] at hg2;rw [hg2] at hu;cases hu;have:=hcl (j % k) _ (Yc hj4);rw [Qcx,hjk] at this;exact this
 obtain ⟨i,hi,rfl⟩:=List.mem_map.1 hy;exact (hg i (List.mem_range.1 hi)).1
theorem QAk (fuel:Nat) (cs:LV) (x:DataW H×List MemPlace) (h:DataW.trod enc Yb W base sp held fuel 43 cs=some x):∃ y:Df,cs=B4 y/\True:=by
 obtain ⟨xs,n,rfl,rfl,hcl,hlen,hf⟩:=DataW.trod_struct Tryz.underlying43 h;have hc2:Yb.cellsOf 43=2:=by kernel_rfl
 have s9:Yb.cellsOf 9=1:=by kernel_rfl
 rw [hc2] at hcl
 match xs,hlen with
 | [y0,y1],_ =>
 match cs,hcl with
 | [v0,v1],_ =>
 have h0:=hf 0 _ rfl;have h1:=hf 1 _ rfl;simp only [s9,Ys,Yh,Yi,Yt,List.getElem?_cons_zero,List.getElem?_cons_succ] at h0 h1;obtain ⟨sn,e0,_⟩:=DataW.trod_string Yg h0;obtain ⟨sd,e1,_⟩:=DataW.trod_string Yg h1;cases e0;cases e1;exact ⟨(sn.data.toList,sd.data.toList),rfl,trivial⟩
instance:Inhabited Ac:=⟨⟨0,[],[],0,none,[],0,0,none,0,0,0⟩⟩
theorem QAl (fuel:Nat) (cs:LV) (x:DataW H×List MemPlace) (h:DataW.trod enc Yb W base sp held fuel 41 cs=some x):∃ y:Ac,cs=Ky y/\I64 y.tz/\RS W y.fa y.fl.length 2 (Bw B4 y.fl):=by
 obtain ⟨xs,n,rfl,rfl,hcl,hlen,hf⟩:=DataW.trod_struct Tryz.underlying41 h;have hc8:Yb.cellsOf 41=8:=by kernel_rfl
 have s3:Yb.cellsOf 3=1:=by kernel_rfl
 have s9:Yb.cellsOf 9=1:=by kernel_rfl
 have s5:Yb.cellsOf 27=1:=by kernel_rfl
 have s6:Yb.cellsOf 39=2:=by kernel_rfl
 have s7:Yb.cellsOf 5=1:=by kernel_rfl
 rw [hc8] at hcl
 match xs,hlen with
 | [y0,y1,y2,y3,y4,y5,y6],_ =>
 match cs,hcl with
 | [v0,v1,v2,v3,v4,v5,v6,v7],_ =>
 have h0:=hf 0 _ rfl;have h1:=hf 1 _ rfl;have h2:=hf 2 _ rfl;have h3:=hf 3 _ rfl;have h4:=hf 4 _ rfl;have h5:=hf 5 _ rfl;have h6:=hf 6 _ rfl;simp only [s3,s9,s5,s6,s7,Ys,Yh,Yi,Yt,List.getElem?_cons_zero,List.getElem?_cons_succ] at h0 h1 h2 h3 h4 h5 h6;obtain ⟨n0,e0,_⟩:=DataW.trod_int Yo h0;obtain ⟨n1,e1,_⟩:=DataW.trod_string Yg h1;obtain ⟨n2,e2,_⟩:=DataW.trod_string Yg h2;obtain ⟨n3,e3,_,w3⟩:=DataW.trod_int Yo h3;obtain ⟨fa,fl,fc,e4,hr,_⟩:=Qqg Qm0 Tryz.underlying27 (by kernel_rfl) (by omega) _ QAk h4;obtain ⟨zs,m,rfl,_,gcl,glen,gf⟩:=DataW.trod_struct Tryz.underlying39 h5;obtain ⟨n6,e6,_⟩:=DataW.trod_int Tryz.underlying5 h6
 match zs,glen with
 | [z0,z1],_ =>
 have g0:=gf 0 _ rfl;have g1:=gf 1 _ rfl;have s8:Yb.cellsOf 37=1:=by kernel_rfl
 simp only [s3,s8,Ys,Yh,Yi,Yt,List.getElem?_cons_zero,List.getElem?_cons_succ] at g0 g1;obtain ⟨n5,e5,_⟩:=DataW.trod_int Yo g0
 have e7:∃ ra rn rc,[v6]=[Value.slice ra rn rc]:=by
  rcases DataW.trod_slice Tryz.underlying37 g1 with ⟨h,_⟩ | ⟨a,len,cap,_,_,_,_,h,_⟩
  ·
   exact ⟨_,_,_,h⟩
  exact ⟨_,_,_,h⟩
 obtain ⟨ra,rn,rc,e7⟩:=e7;cases e0;cases e1;cases e2;cases e3;cases e4;cases e5;cases e6;cases e7;refine ⟨⟨n0,n1.data.toList,n2.data.toList,n3,fa,fl,fc,n5,ra,rn,rc,n6⟩,rfl,?_,hr⟩;simp only [Lit.wf,Bool.and_eq_true,decide_eq_true_eq] at w3;have e8:IntKind.i64.min=-9223372036854775808:=by decide
 have e9:IntKind.i64.max=9223372036854775807:=by decide
 exact ⟨e8 ▸ w3.1,e9 ▸ w3.2⟩
theorem open_acts {fuel:Nat}{cs:LV}{x:DataW H×List MemPlace} (h:DataW.trod enc Yb W base sp held fuel 22 cs=some x):∃ (a:OA) (l:List Ac) (c:Nat),cs=[.slice a l.length c]/\Acts W a l/\∀ x∈l,I64 x.tz:=by
 obtain ⟨a,l,c,h1,h2,h3⟩:=Qqg Qm1 Tryz.underlying22 (by kernel_rfl) (by omega) _ QAl h;exact ⟨a,l,c,h1,⟨h2,fun x hx=>(h3 x hx).2⟩,fun x hx=>(h3 x hx).1⟩
end
end Go.Proofs.YtfinjnahapbemaaGreatDoor
