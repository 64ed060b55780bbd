/- A program logic over the model, and what this program's functions do by it: part 7. No conditions: a library of lemmas. -/
import Derived.Test.YtncpabbjpdogjaaGreatDoorS6
import Derived.Laws.StructEq
open Nat (reduceEqDiff)
set_option linter.unusedSimpArgs false
set_option linter.unusedVariables false
set_option maxRecDepth 100000
open List renaming length_append->Ya,getElem?_eq_getElem->Yc,getD_eq_getElem?_getD->Yg,mem_of_getElem?->Yh,getElem?_eq_some_iff->Yi,mem_singleton->Yj,perm_append_comm->Yl,length_take->Ym,nil_sublist->Yn,drop_append_of_le_length->Yo,drop_left'->Yp,append_nil->Yw,append_assoc->Yy
open Go.Proofs.Tryz renaming prog->Yb,underlying26->Yk,underlying3->Yt,call9->Yu,call7->Yv,call10->Yz,call8->Y0
open Go.Eng.CallK renaming mk->Yd
open Go.Eng.Res renaming blk->Ye,row->Yf,obj->Yq
open Go.Value renaming oneCell'->Yr
open Go.Eng.I64 renaming mk->Ys
open Go.Obj renaming cells->Yx
namespace Go.Proofs.YtncpabbjpdogjaaGreatDoor
open Go Go.Eng
set_option maxHeartbeats 1000000
abbrev Fd:=Nat×Bs×Bs
def Om (x:Fd):List Value:=[.int .i64 x.1,Aa x.2.1,Aa x.2.2]
def F0 (l:List Fd):List Value:=Cf Om l
theorem QE7 (x:Fd):∀ v∈Om x,v.oneCell'=true:=by simp [Om,Yr,Aa]
theorem QE8 (x:Fd):(Om x).length=3:=rfl
noncomputable def scanF (s:Bs) (i:Nat):List Fd :=
 match readS (s.drop (512 * i)) with
 | some (p,c,_)=>[(i,p,c)]
 | none=>[]
noncomputable def scanN (s:Bs) (n:Nat):List Fd:=(List.range n).flatMap (scanF s)
noncomputable def scanS (s:Bs):List Fd:=scanN s (s.length / 512)
theorem Na (s:Bs) (n:Nat):scanN s (n+1)=scanN s n++scanF s n:=by
 rw [scanN,List.range_succ,List.flatMap_append];simp [scanN]
theorem Sr (s:Bs):∀ n,(scanN s n).length<=n
 | 0=>by simp [scanN]
 | n+1=>by
  have:=Sr s n;rw [Na,Ya,scanF];split <;> simp <;> omega
def QE9 (l gs:Nat) (s:Bs) (w0:World) (PI:Nat->List Res->Prop):Prop :=
 ∀ i G FR w,512 * i+512<=s.length->PI i G->Heap w0 [] w (G++Ye gs 9 [Aa s]::FR) ->
  YieldK Yb l [.int .i64 i,Aa (s.drop (512 * i))] w fun v w'=>∃ G',Heap w0 [] w' (G'++Ye gs 9 [Aa s]::FR)/\v=.bool true/\PI (i+1) G'
theorem Qlv (l gs:Nat) (s:Bs) (hs:s.length<=1000000) (w0:World) (PI:Nat->List Res->Prop) (hR:QE9 l gs s w0 PI) (G FR:List Res) (hG:PI 0 G) (w:World)
  (hH:Heap w0 [] w (G++Ye gs 9 [Aa s]::FR)) :
  DoesP Yb 17 #[yV l,In gs] w (fun _ w'=>∃ G',Heap w0 [] w' (G'++Ye gs 9 [Aa s]::FR)/\PI (s.length / 512) G') Qv:=by
 refine Sb (args:=[yV l,In gs]) 20 Tryz.func17 rfl rfl (of_decide_eq_true rfl) ?_;simp only [Env.ofArgs];refine GS [0,1,3] ?_
 ((repeat with_reducible refine A5 ?_);refine K5 ?_)
 refine Zo [0,1,3] (fun m e w=>∃ (i:Nat) (G:List Res),Is e [(0,yV l),(1,In gs),(3,.int .i64 i)]/\Heap w0 [] w (G++Ye gs 9 [Aa s]::FR)/\i<=s.length / 512/\m=s.length / 512 - i/\PI i G) (s.length / 512) ?_ ?_
 ·
  refine Qs ?_;exact ⟨0,G,rfl,hH,Nat.zero_le _,rfl,hG⟩
 clear hG hH w G;rintro m e w ⟨i,G,rfl,hH,hi,rfl,hPI⟩;have hHs:Heap w0 [] w (Ye gs 9 [Aa s]::(G++FR)):=hH.perm List.perm_middle;have c1:w.cell? ⟨gs,0,none⟩=some (Aa s):=Aj (hHs.at 0 rfl) rfl;refine GQ [0,1,3,9] fun K hK=>?_;refine And.intro (Ys (by omega) (by omega)) (And.intro (Ys (by omega) (by omega)) ⟨_,c1,?_⟩);(try refine Qs ?_)
 suffices out:∀ b:Bool,(b=true ↔ 512 * i+512<=s.length)->K [(0,yV l),(1,In gs),(3,.int .i64 i),(9,.bool b)] w by
  exact out _ (by rw [decide_eq_true_eq];omega)
 intro b hb;apply hK;clear hK;(repeat with_reducible refine A5 ?_);refine Dj rfl rfl (fun h=>?_) (fun h=>?_)
 ·
  have h3:=hb.1 h;clear hb h;refine Fw ?_
  ((repeat with_reducible refine A5 ?_);refine K5 ?_)
  (repeat with_reducible refine A5 ?_);refine Nw [0,1,3,19] [6] (by kernel_rfl) fun K hK=>?_;simp only [go_sem,List.take_succ_cons,List.take_zero,List.drop_succ_cons,List.drop_zero,↓reduceIte,reduceEqDiff];refine ⟨_,c1,?_⟩;(try refine Qs ?_);refine And.intro (Ys (by omega) (by omega)) ?_;(try refine Qs ?_);refine And.intro ⟨by omega,by omega⟩ ?_;rw [show ((i:Int) * 512).toNat=512 * i by omega];refine Qa0 ?_;refine Qs ?_;refine ⟨l,rfl,(hR i G FR w h3 hPI hH).mono ?_⟩;rintro v w2 ⟨G2,hH2,rfl,hPI2⟩;clear hH hHs c1 hPI;(try refine Qs ?_);apply hK;clear hK;(repeat with_reducible refine A5 ?_);refine Dj rfl rfl (fun h=>by simp at h) (fun h=>Fw ?_);clear h;refine Mx ?_;refine GS [0,1,3] ?_;refine Vf ?_;refine Qs ?_;exact ⟨s.length / 512 - (i+1),by omega,i+1,G2,rfl,hH2,by omega,rfl,hPI2⟩
 have h3:¬ 512 * i+512<=s.length:=fun hh=>by rw [hb.2 hh] at h;cases h
 obtain rfl:i=s.length / 512:=by omega
 refine Qa rfl ?_;exact La (QFb (I8 rfl ⟨G,hH,hPI⟩))
theorem T9 (s:Bs) (w:World) (hT:Tb w) (hs:s.length<=1000000):Does Yb 9 #[Aa s] w fun v w'=>∃ a c,v=.slice a (scanS s).length c/\Heap w [] w' [Yf 31 3 a (scanS s).length c (F0 (scanS s))]:=by
 refine Ww (args:=[Aa s]) 29 Tryz.func9 rfl rfl (of_decide_eq_true rfl) ?_;simp only [Env.ofArgs,Nat.reduceAdd];refine GQ [1] fun K hK=>?_;refine Eb ?_;refine Qs ?_;have hH:=(Heap.start w).box 9 [Aa s];generalize w.alloc (Yx [Aa s].toArray 9)=w1 at *;generalize w.heap.size=gs at *;apply hK;clear hK;(repeat with_reducible refine A5 ?_);refine Qp0 (fun l a w=>id) ?_;refine GQ [1,3] fun K hK=>?_;refine A6 (.slice none 0 0) (by kernel_rfl) ?_;refine Qs ?_;have hH3:=hH.box 26 [.slice none 0 0];generalize w1.alloc (Yx [Value.slice none 0 0].toArray 26)=w3 at *;generalize w1.heap.size=go at *;have hH4:Heap w [] w3 [Ye go 26 [.slice none 0 0],Ye gs 9 [Aa s],Yf 31 3 none 0 0 []]:=(hH3.nilRow 31 3).perm (Yl (l₁:=[Yf 31 3 none 0 0 []]));clear hH hH3;(try refine Qs ?_);apply hK;clear hK;refine GS [3,4] ?_;(repeat with_reducible refine A5 ?_);refine Qol ?_;refine GS [3,11] ?_
 ((repeat with_reducible refine A5 ?_);refine K5 ?_)
 refine Qao rfl rfl (fun _ _=>rfl) fun r r1 r2 r3 r4 r5 r6 r7 r8=>?_;generalize hdr:w3.heap.size=dr at *;have hH7:=(hH4.newObj (.deferred (some []))).newObj (.loop r);rw [show (w3.alloc (.deferred (some []))).heap.size=dr+1 by rw [<- hdr];show (w3.heap.push _).size=_;rw [Array.size_push],hdr] at hH7;clear r6 hH4;generalize (w3.alloc (Obj.deferred (some []))).alloc (Obj.loop r)=wl at *;have hr:=Loop.same r1 r2
 have hH8:Heap w [] wl ([Yq (dr+1) (.loop r),Ye go 26 [.slice none 0 0],Yf 31 3 none 0 0 []]++Ye gs 9 [Aa s]::[Yq dr (.deferred (some []))]):=hH7.perm (by
  refine List.Perm.cons _ ?_;refine (Yl (l₁:=[Yq dr (.deferred (some []))]) (l₂:=_)).trans ?_;refine List.Perm.cons _ ?_;exact (Yl (l₁:=[Ye gs 9 [Aa s]]) (l₂:=[Yf 31 3 none 0 0 []])).append_right _)
 clear hH7
 refine (Qlv (dr+1) gs s hs w
  (fun i G0=>∃ (a:Option Addr) (c:Nat),G0=[Yq (dr+1) (.loop r),Ye go 26 [.slice a (scanN s i).length c],Yf 31 3 a (scanN s i).length c (F0 (scanN s i))]) ?_
  _ [Yq dr (.deferred (some []))] ⟨none,0,rfl⟩ wl hH8).mono ?_ (fun _ _ h=>h)
 ·
  rintro i _ FR w7 hi ⟨a0,c0,rfl⟩ hH9;clear hH8;have hsn:=Sr s i;refine Qap (N:=29) (e:=(12,.int .i64 i)::(13,Aa (s.drop (512 * i)))::[(3,In go),(11,.func (.func 17) #[] #[In gs])]) (hH9.at 0 rfl) r1 r7 (by rw [r3];rfl) (Qsv r3 (by rw [r7];decide) (by rw [r7];decide) (by decide) r8) ?_;refine (congrArg (fun c=>VG _ [.code c] _ _) r4).mpr ?_;refine GS [3,5,13] ?_;refine GS [3,5,6] ?_;refine La fun a n hf=>⟨rfl,_,_,n,rfl,hf,hH9.at 0 rfl,?_⟩;have hHd:Heap w [] _ (Yq (dr+1) (.loop { r with state:=.busy })::Ye go 26 [.slice a0 (scanN s i).length c0]::Yf 31 3 a0 (scanN s i).length c0 (F0 (scanN s i))::Ye gs 9 [Aa s]::FR):=Heap.put hH9 (.loop { r with state:=.busy });generalize w7.putObj (dr+1) (Obj.loop { r with state:=.busy })=wb at *;clear hH9 hf a n;refine (congrArg (fun c=>VG _ [.code c] _ _) r5).mpr ?_
  have goOn:∀ {a:Option Addr}{c:Nat}{wz:World},Heap w [] wz (Yq (dr+1) (.loop { r with state:=.busy })::Ye go 26 [.slice a (scanN s (i+1)).length c]::Yf 31 3 a (scanN s (i+1)).length c (F0 (scanN s (i+1)))::Ye gs 9 [Aa s]::FR) ->
    ∃ G',Heap w [] (wz.putObj (dr+1) (.loop { r with state:=.ready,pending:=none })) (G'++Ye gs 9 [Aa s]::FR)/\Value.bool true=.bool true/\∃ (a:Option Addr) (c:Nat),G'=[Yq (dr+1) (.loop r),Ye go 26 [.slice a (scanN s (i+1)).length c],Yf 31 3 a (scanN s (i+1)).length c (F0 (scanN s (i+1)))]:=by
   intro a c wz hh;rw [hr];exact ⟨_,hh.put (.loop r),rfl,a,c,rfl⟩
  ((repeat with_reducible refine A5 ?_);refine K5 ?_)
  refine GQ [3,5,7,9] fun K hK=>?_;have hdl:(s.drop (512 * i)).length<=1000000:=by rw [List.length_drop];omega
  refine Ac Tryz.call12 ?_;refine Qs ?_;refine Yd (Qsu (s.drop (512 * i)) wb (hT.heap hHd) hdl) ?_;rintro v w4 ⟨hHx,rfl⟩;have hH:=hHd.call0 hHx;rw [List.nil_append] at hH;clear hHx hHd;cases hr1:readS (s.drop (512 * i)) with
  | none =>
   rw [Ou hr1];have hsc:scanN s (i+1)=scanN s i:=by rw [Na,scanF,hr1,Yw]
   (try refine Qs ?_);refine A6 (.agg #[Aa [],Aa []]) (by kernel_rfl) ?_;refine Qs ?_;have hH2:=hH.box tE [Aa [],Aa []];generalize w4.alloc (Yx #[Aa [],Aa []] tE)=w5 at *;generalize w4.heap.size=g7 at *;(try refine Qs ?_);refine Af ?_;refine Qs ?_;refine Al hH2 0 (vs:=[Aa [],Aa []]) rfl rfl (by kernel_rfl) (by first | decide | (simp;done) | (simp;omega)) (by simp [Yr]) fun w6 hH3=>?_;(try refine Qs ?_);clear hH hH2;apply hK;clear hK;refine GS [3,5,7,21] ?_;(repeat with_reducible refine A5 ?_);refine Dj rfl rfl (fun h=>?_) (fun h=>by simp at h);refine Qa rfl ?_;refine La fun a n hf=>⟨_,n,rfl,hH3.at 1 rfl,?_⟩;refine goOn (a:=a0) (c:=c0) ?_;rw [hsc];exact hH3.sub (List.sublist_cons_self _ _)
  | some x =>
   obtain ⟨p,c,n⟩:=x;rw [Qhe hr1];have hsc:scanN s (i+1)=scanN s i++[(i,p,c)]:=by rw [Na,scanF,hr1]
   have hsl:(scanN s (i+1)).length=(scanN s i).length+1:=by rw [hsc,Ya,List.length_singleton]
   (try refine Qs ?_);refine A6 (.agg #[Aa [],Aa []]) (by kernel_rfl) ?_;refine Qs ?_;have hH2:=hH.box tE [Aa [],Aa []];generalize w4.alloc (Yx #[Aa [],Aa []] tE)=w5 at *;generalize w4.heap.size=g7 at *;(try refine Qs ?_);refine Af ?_;refine Qs ?_;refine Al hH2 0 (vs:=[Aa p,Aa c]) rfl rfl (by kernel_rfl) (by first | decide | (simp;done) | (simp;omega)) (by simp [Yr]) fun w6 hH3=>?_;(try refine Qs ?_);clear hH hH2;apply hK;clear hK;refine GS [3,5,7,21] ?_;(repeat with_reducible refine A5 ?_);refine Dj rfl rfl (fun h=>by simp at h) (fun h=>Fw ?_);refine GQ [3] fun K hK=>?_;refine ⟨_,Aj (hH3.at 2 rfl) rfl,?_⟩;(try refine Qs ?_);refine ⟨_,⟨rfl,Ca (hH3.at 0 rfl)⟩,?_⟩;rw [Dg (cells:=#[.int .i64 i,Aa p,Aa c]) rfl];refine E4 hH3 3 (F0 [(i,p,c)]) (xs:=[.tmp 25]) Yk QJw rfl rfl rfl (by omega) (by omega) ?_;refine Qs ?_;refine ⟨rfl,by intro v hv;simp only [List.mem_cons,List.not_mem_nil,or_false] at hv;subst hv;rfl,fun ga w8 hE2=>?_⟩;(try refine Qs ?_);refine Cl ?_;refine Qs ?_;refine Ew (zs:=#[.int .i64 0,.string ⟨#[]⟩,.string ⟨#[]⟩]) (bytes:=40) hE2 4 rfl Yk (by kernel_rfl) rfl (m:=1) (news:=F0 [(i,p,c)]) ⟨rfl,Az (hE2.at 0 rfl),31,Yk⟩ (Qeb QE7 _) (fun h=>by omega) fun a' cap' w9 hc' hHf=>?_;simp only [List.set_cons_succ,List.set_cons_zero] at hHf;(try refine Qs ?_);refine Af ?_;refine Qs ?_;refine Al hHf 3 (vs:=[.slice a' ((scanN s i).length+1) cap']) rfl rfl (by kernel_rfl) (by first | decide | (simp;done) | (simp;omega)) (by simp [Yr]) fun w6 hHg=>?_;(try refine Qs ?_);apply hK;clear hK;refine Mx (La fun a n hf=>⟨_,n,rfl,hHg.at 2 rfl,?_⟩);refine goOn (a:=a') (c:=cap') ?_;rw [hsl,hsc,show F0 (scanN s i++[(i,p,c)])=F0 (scanN s i)++F0 [(i,p,c)] from Tl _ _];exact hHg.sub (.cons _ (.cons _ (.refl _)))
 rintro _ w7 ⟨G0,hH9,a,c,rfl⟩;refine ⟨.ready,none,?_,by simp,?_⟩
 ·
  rw [hr];exact hH9.at 0 rfl
 simp only;have hHa:Heap w [] _ (Yq (dr+1) _::_):=Heap.put hH9 (.loop { r with state:=.exhausted,pending:=none });generalize w7.putObj (dr+1) (Obj.loop { r with state:=.exhausted,pending:=none })=wb at *;have hHz:Heap w [] wb [Ye go 26 [.slice a (scanS s).length c],Yf 31 3 a (scanS s).length c (F0 (scanS s)),Yq dr (.deferred (some []))]:=hHa.sub (.cons _ (.cons_cons _ (.cons_cons _ (.cons _ (.refl _)))));clear hHa hH9;refine Mx ?_;refine GQ [2] fun K hK=>?_;refine ⟨_,Aj (hHz.at 0 rfl) rfl,?_⟩;(try refine Qs ?_);apply hK;clear hK;refine Nh (QFd (ms:=[dr]) (hHz.front 2 rfl) fun w' hh=>A2 rfl rfl ⟨a,c,rfl,hh.sub (.cons _ (.refl _))⟩)
abbrev C2:Bs:=[104,101,108,108,111]
theorem Qp4 {T:Bs} (h:P1 C2 T):T.length<=210:=by
 obtain ⟨bs,hb,rfl⟩:=h;rw [show Cz C2 20000=[C2] by decide +kernel] at hb ⊢
 match bs,hb with
 | [b],⟨⟨σ,ho,hbb⟩,_⟩ =>
  have e:σ=[1,0,2,3,4]:=ho.unique ⟨by decide +kernel,by decide +kernel⟩;subst e;subst hbb;have h1:(Fy C2 [1,0,2,3,4]).length<=1500:=by decide +kernel
  rw [L4];simp only [Ib,Ya,Ct,D0,List.flatten_cons,List.flatten_nil,List.length_nil,List.length_cons];omega
theorem QOh {s:Bs} (h:Bl (s.take 512) 257 1=[0]):Er s=none:=by
 rw [Er];split
 ·
  rfl
 rw [Pg,if_neg];rintro ⟨⟨_,_,hm⟩,_⟩;have:=congrArg (List.take 1) hm;rw [Bl,List.take_take] at this;rw [Bl] at h;rw [show min 1 8=1 from rfl,h] at this;exact absurd this (by decide)
theorem QAo {s:Bs} (h:Bl (s.take 512) 257 1=[0]):readS s=none:=Vm (by rw [Kf,QOh h])
theorem QFq {s:Bs} (h:257 < s.length) (h0:s.getD 257 0=0):Bl (s.take 512) 257 1=[0]:=by
 rw [Bl,List.drop_take,List.take_take,List.drop_eq_getElem_cons h];rw [Yg,Yc h] at h0;simp only [Option.getD_some] at h0;rw [h0];rfl
theorem Qsw (h:P1 C2 (tS C2)):scanS (Bh 512++Ck [97] C2 (tS C2))=[(1,[97],C2)]:=by
 have hc:D6 [97]=some [97]:=by decide +kernel
 have hl:=Qp4 h
 have hT:tS C2≠[]:=by
  intro e;have:=(h.pk (by decide)).len.1;rw [e] at this;exact absurd this (by decide)
 have hrb:=Qka hc (by decide) h [];rw [Yw] at hrb;have ho:Ck [97] C2 (tS C2)=Eh [] [97] 48 5++F2 (tS C2):=rfl;have hh:(Eh [] [97] 48 5).length=512:=Nc (by decide) (by decide) _ _
 have hp:(F2 (tS C2)).length=512:=by
  have:=List.length_pos_iff.2 hT;rw [Rh];omega
 have hle:(Bh 512++Ck [97] C2 (tS C2)).length=1536:=by
  rw [Ya,Ey,ho,Ya,hh,hp]
 have e0:scanF (Bh 512++Ck [97] C2 (tS C2)) 0=[]:=by
  rw [scanF,List.drop_zero,QAo (QFq (by omega) ?_)];rw [Yg,List.getElem?_append_left (by rw [Ey];omega)];rfl
 have e1:scanF (Bh 512++Ck [97] C2 (tS C2)) 1=[(1,[97],C2)]:=by
  rw [scanF,Yp (Ey 512),hrb]
 have e2:scanF (Bh 512++Ck [97] C2 (tS C2)) 2=[]:=by
  have ed:(Bh 512++Ck [97] C2 (tS C2)).drop (512 * 2)=F2 (tS C2):=by
   rw [ho,<- Yy];exact Yp (by rw [Ya,Ey,hh])
  rw [scanF,ed,QAo (QFq (by omega) ?_)];rw [F2,Yg,List.getElem?_append_right (by omega),Bh,List.getElem?_replicate];split <;> rfl
 rw [scanS,hle]
 show scanN _ 3=_
 rw [Na,Na,Na,e0,e1,e2];rfl
theorem Ox {s:Bs}:∀ {n:Nat}{x:Fd},x∈scanN s n ↔ x.1 < n/\∃ k,readS (s.drop (512 * x.1))=some (x.2.1,x.2.2,k):=by
 intro n x;rw [scanN,List.mem_flatMap];constructor
 ·
  rintro ⟨i,hi,hx⟩;rw [List.mem_range] at hi;rw [scanF] at hx;split at hx
  ·
   rename_i p c k hr;rw [Yj] at hx;subst hx;exact ⟨hi,k,hr⟩
  cases hx
 rintro ⟨hi,k,hr⟩;refine ⟨x.1,List.mem_range.2 hi,?_⟩;rw [scanF,hr];exact Yj.2 rfl
theorem Qkd (s:Bs):∀ n,(scanN s n).Pairwise fun x y=>x.1 < y.1
 | 0=>by simp [scanN]
 | n+1=>by
  rw [Na,List.pairwise_append];refine ⟨Qkd s n,?_,?_⟩
  ·
   rw [scanF];split <;> simp
  intro x hx y hy;have h1:=(Ox.1 hx).1;rw [scanF] at hy;split at hy
  ·
   rw [Yj] at hy;subst hy;exact h1
  cases hy
theorem Qxd {s:Bs}{x:Fd} (h:x∈scanS s):∃ own,makeV x.2.1 x.2.2=.tuple #[Aa own,.int .i64 0]/\512 * x.1+own.length<=s.length/\(s.drop (512 * x.1)).take own.length=own/\x.2.1.length<=120/\x.2.2.length<=8192:=by
 obtain ⟨h1,k,hr⟩:=Ox.1 h;obtain ⟨own,hm,_,hp⟩:=Qwz hr;have hpl:=hp.length_le;rw [List.length_drop] at hpl;rw [makeX] at hm;split at hm
 ·
  rename_i hg;split at hm
  ·
   cases hm
  rename_i hc;cases hm;exact ⟨_,by rw [makeV,if_pos hg,if_neg hc],by omega,(List.prefix_iff_eq_take.1 hp).symm,(Zk hg).2.1,by omega⟩
 cases hm
theorem QAa {p c img:Bs}{n:Nat} (hg:D6 p=some p) (hc:c.length<=8192) (h:P1 c (tS c)) (hn:512 * n<=img.length) (y:Bs):(n,p,c)∈scanS (img.take (512 * n)++(Ck p c (tS c)++y)):=by
 have hl:(img.take (512 * n)).length=512 * n:=by rw [Ym];omega
 have ho:=(Qfg (c:=c) (T:=tS c) hg).2.2.2;refine Ox.2 ⟨?_,(Ck p c (tS c)).length,?_⟩
 ·
  rw [Ya,hl,Ya];split at ho <;> (show n < _;omega)
 rw [show (img.take (512 * n)++(Ck p c (tS c)++y)).drop (512 * (n,p,c).1)=Ck p c (tS c)++y from Yp hl];exact Qka hg hc h y
theorem Qxe {a b:Bs}{x:Fd} (h:x∈scanS a):x∈scanS (a++b):=by
 obtain ⟨h1,k,hr⟩:=Ox.1 h;refine Ox.2 ⟨by rw [Ya];omega,k,?_⟩;rw [Yo (by omega)];exact Qpz hr b
theorem Qt9 {a b:Bs}{n i:Nat} (ha:a.length=512 * n):(a++b).drop (512 * (i+n))=b.drop (512 * i):=by
 rw [show 512 * (i+n)=512 * n+512 * i by omega,<- List.drop_drop,Yp ha]
theorem Qsx {a b:Bs}{n:Nat}{x:Fd} (ha:a.length=512 * n) (h:x∈scanS b):(x.1+n,x.2.1,x.2.2)∈scanS (a++b):=by
 obtain ⟨h1,k,hr⟩:=Ox.1 h;refine Ox.2 ⟨by rw [Ya];show x.1+n < _;omega,k,?_⟩
 show readS ((a++b).drop (512 * (x.1+n)))=_
 rw [Qt9 ha];exact hr
theorem Qp5 (a b:Bs):∀ n,512 * n<=a.length->(scanN a n).length<=(scanN (a++b) n).length
 | 0,_=>by simp [scanN]
 | n+1,h=>by
  have:=Qp5 a b n (by omega);rw [Na,Na,Ya,Ya]
  have:(scanF a n).length<=(scanF (a++b) n).length:=by
   rw [scanF,scanF,Yo (by omega)];cases hr:readS (a.drop (512 * n)) with
   | none=>simp
   | some x=>rw [Qpz hr b];simp
  omega
theorem Qke {a b:Bs}{n:Nat} (ha:a.length=512 * n):∀ m,(scanN (a++b) (n+m)).length=(scanN (a++b) n).length+(scanN b m).length
 | 0=>by simp [scanN]
 | m+1=>by
  have:=Qke ha m (b:=b);rw [<- Nat.add_assoc,Na,Na,Ya,Ya,this]
  have:(scanF (a++b) (n+m)).length=(scanF b m).length:=by
   rw [scanF,scanF,Nat.add_comm n m,Qt9 ha];cases hr:readS (b.drop (512 * m)) <;> simp
  omega
theorem Qxf {a b:Bs}{n:Nat} (ha:a.length=512 * n):(scanS a).length+(scanS b).length<=(scanS (a++b)).length:=by
 rw [scanS,scanS,scanS,Ya,ha,show (512 * n+b.length) / 512=n+b.length / 512 by omega,show 512 * n / 512=n by omega,Qke ha];have:=Qp5 a b n (by omega);omega
set_option maxHeartbeats 1000000
theorem Ql {w:World}{a:Option Addr}{l:List Fd}{c:Nat} (h:(Yf 31 3 a l.length c (F0 l)).holds w) {i:Nat}{x:Fd} (hx:l[i]? = some x):∃ g,a=some ⟨g,0,none⟩/\Reads w ⟨g,i * 3,none⟩ (Om x):=by
 obtain ⟨g,rfl⟩:∃ g,a=some ⟨g,0,none⟩:=by
  obtain ⟨_,_,_,h4⟩:=h;rcases h4 with ⟨_,h5,_⟩ | ⟨g,_,_,rfl,_⟩
  ·
   have:=(Yi.1 hx).1;omega
  exact ⟨g,rfl⟩
 refine ⟨g,rfl,?_⟩;have:=Sa (k:=3) QE8 (Az h) rfl hx;rw [show (⟨g,i * 3,none⟩:Addr)=(⟨g,0,none⟩:Addr).add (i * 3) by simp [Addr.add]];exact this
theorem Qh9 (l:List Fd) (a:Option Addr) (c n:Nat) (p d:Bs) (w:World) (hl:(Yf 31 3 a l.length c (F0 l)).holds w) (hlen:l.length<=1000000) (hn:n<=1000000000) :
  Does Yb 10 #[.slice a l.length c,.int .i64 n,Aa p,Aa d] w fun v w'=>w'=w/\v=.bool (decide ((n,p,d)∈l)):=by
 refine En [.slice a l.length c,.int .i64 n,Aa p,Aa d] 43 Tryz.func10 ?_;refine VS [0,1,2,3] ?_;refine VS [0,1,2,3,9] ?_;refine VB ?_;refine Au [0,1,2,3,9] (fun m e w'=>∃ (i:Nat),Is e [(0,.slice a l.length c),(1,.int .i64 n),(2,Aa p),(3,Aa d),(9,.int .i64 i)]/\Is w' w/\i<=l.length/\(n,p,d) ∉ l.take i/\m=l.length - i) l.length ?_ ?_
 ·
  refine Qs ?_;exact ⟨0,rfl,rfl,by omega,by simp,rfl⟩
 rintro m e w' ⟨i,rfl,rfl,hi,hno,rfl⟩;refine VS [0,1,2,3,9,13] ?_;refine VD (fun h=>?_) (fun h=>?_)
 ·
  refine Ab ?_;refine VB ?_;have hi':i < l.length:=by omega
  obtain ⟨x,hx⟩:∃ x,l[i]? = some x:=⟨_,Yc hi'⟩;obtain ⟨g,rfl,hr⟩:=Ql hl hx;have r0:w'.cell? ⟨g,i * 3,none⟩=some (.int .i64 x.1):=hr 0 _ rfl;have r1:w'.cell? ⟨g,i * 3+1,none⟩=some (Aa x.2.1):=hr 1 _ rfl;have r2:w'.cell? ⟨g,i * 3+2,none⟩=some (Aa x.2.2):=hr 2 _ rfl;refine VQ [0,1,2,3,9,42] fun K hK=>?_
  suffices out:∀ b:Bool,(b=true ↔ x=(n,p,d))->K [(0,.slice (some ⟨g,0,none⟩) l.length c),(1,.int .i64 n),(2,Aa p),(3,Aa d),(9,.int .i64 i),(42,.bool b)] w' by
   (try simp only [go_sem,↓Ro r0,Ro r1,Ro r2,↓reduceIte,reduceEqDiff]);obtain ⟨x1,x2,x3⟩:=x;simp only [Prod.mk.injEq] at out ⊢;have hbd:(0:Int)<=i/\(i:Int) < l.length:=⟨by omega,by omega⟩;refine And.intro hbd (And.intro (fun h1=>And.intro hbd (And.intro (fun h2=>And.intro hbd (out _ ?_)) (fun h2=>out _ ?_))) (fun h1=>out _ ?_))
   ·
    rw [decide_eq_true_eq];exact ⟨fun h3=>⟨by omega,h2,h3⟩,fun h3=>h3.2.2⟩
   ·
    simp [h2]
   simp only [Bool.false_eq_true,false_iff];rintro ⟨h3,_⟩;exact h1 (by omega)
  intro b hb;apply hK;clear hK;by_cases hx2:x=(n,p,d)
  ·
   obtain rfl:=hb.2 hx2;refine Ae rfl rfl (fun h=>?_) (fun h=>by simp at h);refine VS [8] ?_;exact Ad (A2 rfl rfl ⟨rfl,by rw [decide_eq_true (hx2 ▸ Yh hx)]⟩)
  have hbf:b=false:=by
   cases b
   ·
    rfl
   exact absurd (hb.1 rfl) hx2
  subst hbf;refine Ae rfl rfl (fun h=>by simp at h) (fun h=>Ab ?_);refine Ao ?_;refine VS [0,1,2,3,9] ?_;refine Ah ?_;refine Qs ?_;refine ⟨l.length - (i+1),by omega,i+1,rfl,rfl,by omega,?_,rfl⟩;rw [W3 hx,List.mem_append,Yj];rintro (h5 | h5)
  ·
   exact hno h5
  exact hx2 h5.symm
 obtain rfl:i=l.length:=by omega
 rw [List.take_length] at hno;refine As rfl ?_;refine VS [8] ?_;exact Ad (A2 rfl rfl ⟨rfl,by rw [decide_eq_false hno]⟩)
theorem QJt (p d:Bs) (w':World):(Op.equalIn 9999 29 (Oa p d) (Oa p d)).run Yb w'=.ok true w':=by
 have hS:Yb.underlying 29=some (.struct (Yb.fieldsOf 29)):=by kernel_rfl
 have hp:Yb.stoodInHeld 29=false:=by kernel_rfl
 rw [show (9999:Nat)=9998+1 from rfl,run_equalIn_agg w' 9998 29 _ _ hS hp];simp only [Program.fieldsOf,Tryz.underlying29];clear hS hp;have u3:=Tryz.underlying9;have a3:=Tryz.isAgg9;have z3:=Tryz.sizeOf9
 go_simp
theorem QJu (a:Fd) (xo yo:Operand) (w:World) (KV:Value->Prop):A8 Yb .neq 31 xo yo (.agg (Om a).toArray) (.agg (Om a).toArray) w KV=KV (.bool false):=by
 refine Qg fun w'=>?_;have hS:Yb.underlying 31=some (.struct (Yb.fieldsOf 31)):=by kernel_rfl
 have hp:Yb.stoodInHeld 31=false:=by kernel_rfl
 have hg:Yb.eqGuardType Yb.depth 31=false:=by kernel_rfl
 simp only [Sem.run_bind];rw [run_eqGuard_agg _ _ _ _ _ _ _ hg];simp only [Result.andThen_ok];rw [run_neq_struct,show (10000:Nat)=9999+1 from rfl,run_equalIn_agg w' 9999 31 _ _ hS hp];simp only [Program.fieldsOf,Tryz.underlying31];clear hS hp hg;have u4:=Yt;have a4:=Tryz.isAgg3;have z4:=Tryz.sizeOf3;have a5:=Tryz.isAgg29;have z5:=Tryz.sizeOf29;have hE:∀ w',(Op.equalIn 9999 29 (Oa a.2.1 a.2.2) (Oa a.2.1 a.2.2)).run Yb w'=.ok true w':=fun w'=>QJt a.2.1 a.2.2 w';simp only [Om]
 go_simp
theorem Qsy (l:List Fd) (a b:Option Addr) (c c':Nat) (w:World) (hl:(Yf 31 3 a l.length c (F0 l)).holds w) (hl2:(Yf 31 3 b l.length c' (F0 l)).holds w) (hlen:l.length<=1000000) :
  Does Yb 13 #[.slice a l.length c,.slice b l.length c'] w fun v w'=>w'=w/\v=.bool true:=by
 refine En [.slice a l.length c,.slice b l.length c'] 26 Tryz.func13 ?_;refine VS [0,1] ?_;refine VS [0,1,10] ?_;refine Ae rfl rfl (fun h=>by simp at h) (fun h=>Ab ?_);clear h;refine VS [0,1,5] ?_;refine VB ?_;refine Au [0,1,5] (fun m e w'=>∃ (i:Nat),Is e [(0,.slice a l.length c),(1,.slice b l.length c'),(5,.int .i64 i)]/\Is w' w/\i<=l.length/\m=l.length - i) l.length ?_ ?_
 ·
  refine Qs ?_;exact ⟨0,rfl,rfl,by omega,rfl⟩
 rintro m e w3 ⟨i,rfl,rfl,hi,rfl⟩;refine VS [0,1,5,14] ?_;refine VD (fun h=>?_) (fun h=>?_)
 ·
  refine Ab ?_;refine VB ?_;have hi':i < l.length:=by omega
  obtain ⟨x,hx⟩:∃ x,l[i]? = some x:=⟨_,Yc hi'⟩;obtain ⟨g,rfl,hr1⟩:=Ql hl hx;obtain ⟨g2,rfl,hr2⟩:=Ql hl2 hx;refine Vq [0,1,5,25] fun K hK=>?_;refine ⟨⟨by omega,by omega⟩,Om x,⟨rfl,hr1⟩,⟨by omega,by omega⟩,Om x,⟨rfl,hr2⟩,?_⟩;(try dsimp only);rw [QJu];apply hK;clear hK;refine Ae rfl rfl (fun h=>by simp at h) (fun h=>Ab ?_);clear h;refine Ao ?_;refine VS [0,1,5] ?_;refine Ah ?_;refine Qs ?_;exact ⟨l.length - (i+1),by omega,i+1,rfl,rfl,by omega,rfl⟩
 obtain rfl:i=l.length:=by omega
 refine As rfl ?_;refine VS [4] ?_;exact Ad (A2 rfl rfl ⟨rfl,rfl⟩)
set_option maxHeartbeats 1000000
theorem Qoi:makeV [97] C2=.tuple #[Aa (Ck [97] C2 (tS C2)),.int .i64 0]:=by
 rw [makeV,if_pos (by decide +kernel),if_neg (by decide)]
theorem Tm (w:World) (hT:Tb w):Does Yb 7 #[] w fun v w'=>Heap w [] w' []/\v=.bool true:=by
 refine En [] 22 Tryz.func7 ?_;refine VS [] ?_;refine VQ [1,2] fun K hK=>?_;refine Ac Y0 ?_;refine Qs ?_;refine Yd (Zb [97] C2 w hT (by decide) (by decide)) ?_;rintro v w1 ⟨hH,rfl,hP⟩;have hP:=hP (by decide +kernel) (by decide);have hol:=(Qfg (p:=[97]) (c:=C2) (T:=tS C2) (by decide +kernel)).2.1;have htl:=Qp4 hP;have hsc:=Qsw hP;rw [Qoi];generalize Ck [97] C2 (tS C2)=own at *;(try refine Qs ?_);apply hK;clear hK;refine VQ [2,3] fun K hK=>?_;refine Ev Tryz.underlying37 Io ?_;refine Qs ?_;refine ⟨512,512,⟨rfl,rfl,by omega,by omega,by omega⟩,?_⟩;obtain ⟨hHn,hrb⟩:=Qs1 w1 512 (by omega);generalize w1.alloc (Yx (List.replicate 512 (Value.int .u8 0)).toArray 5)=w2 at *;generalize w1.heap.size=gb at *;(try refine Qs ?_);refine ⟨Bh 512,hrb,?_⟩;(try refine Qs ?_);refine And.intro (by rw [Ey];omega) ?_;replace hH:=hH.call0 hHn;rw [Yw] at hH;refine Ac Yu ?_;refine Qs ?_;refine Yd (T9 (Bh 512++own) w2 (hT.heap hH) (by rw [Ya,Ey];omega)) ?_;rintro v w3 ⟨a,c,rfl,hHs⟩;replace hH:=hH.call0 hHs;rw [hsc] at hH ⊢;(try refine Qs ?_);apply hK;clear hK;refine VQ [0] fun K hK=>?_;refine And.intro (fun _=>?_) (fun h=>absurd trivial h);rw [Dg (cells:=#[.int .i64 1,Aa [97],Aa C2]) rfl];refine E4 hH 3 (F0 [(1,[97],C2)]) (xs:=[.tmp 18]) Yk QJw rfl rfl rfl (by omega) (by omega) ?_;refine Qs ?_;refine ⟨rfl,by intro v hv;simp only [List.mem_cons,List.not_mem_nil,or_false] at hv;subst hv;rfl,fun ga w8 hE2=>?_⟩;(try refine Qs ?_);refine Ac Tryz.call13 ?_;refine Qs ?_;refine Yd (Qsy [(1,[97],C2)] a (some ⟨ga,0,none⟩) c 1 w8 (hE2.at 1 rfl) (hE2.at 0 rfl) (by decide)) ?_;rintro v w9 ⟨rfl,rfl⟩;(try refine Qs ?_);apply hK;clear hK;exact Ad (A2 rfl rfl ⟨hE2.sub (Yn _),rfl⟩)
set_option maxHeartbeats 1000000
theorem salvageParts_law (a b:Bs) (w:World) (hT:Tb w) (ha:a.length<=140737488355328) (hb:b.length<=140737488355328) :
  Does Yb 4 #[Aa a,Aa b] w fun v w'=>Heap w [] w' []/\v=.bool true:=by
 refine En [Aa a,Aa b] 98 Tryz.func4 ?_;refine VS [0,1] ?_;refine VQ [0,1,15] fun K hK=>?_;refine And.intro (Ys (by omega) (by omega)) ?_;apply hK;clear hK;refine Vi (fun h=>?_) (fun h=>?_)
 ·
  refine VQ [4] fun K hK=>?_;refine Ac Yv ?_;refine Qs ?_;refine Yd (Tm w hT) ?_;rintro v w1 ⟨hH,rfl⟩;(try refine Qs ?_);apply hK;clear hK;exact Ad (A2 rfl rfl ⟨hH,rfl⟩)
 simp only [decide_eq_false_iff_not] at h;refine Ab ?_;have hab:a.length+b.length<=30000:=by omega
 clear h ha hb;refine VQ [0,1] fun K hK=>?_;(repeat first | refine Qo ?_ | refine Qp ?_);apply hK;clear hK;obtain ⟨a2,ha2⟩:∃ a2,a2=a.take (512 * (a.length / 512)):=⟨_,rfl⟩;have e2:List.take (((a.length:Int) / 512) * 512).toNat a=a2:=by rw [ha2,show (((a.length:Int) / 512) * 512).toNat=512 * (a.length / 512) by omega]
 have hl2:a2.length=512 * (a.length / 512):=by rw [ha2,Ym];omega
 rw [e2];generalize a.length / 512=n at *;have hab2:a2.length+b.length<=30000:=by rw [ha2,Ym];omega
 clear e2 ha2 hab;clear a
 revert a2
 intro a hl2 hab2;have ls:=Sr a (a.length / 512);have lt:=Sr b (b.length / 512);have lu:=Sr (a++b) ((a++b).length / 512);have la:(a++b).length=a.length+b.length:=Ya;have hmost:=Qxf hl2 (b:=b);refine VQ [0,5,6,7] fun K hK=>?_;refine Ac Yu ?_;refine Qs ?_;refine Yd (T9 a w hT (by omega)) ?_;rintro v w1 ⟨a1,c1,rfl,hH⟩;(try refine Qs ?_);refine Ac Yu ?_;refine Qs ?_;refine Yd (T9 b w1 (hT.heap hH) (by omega)) ?_;rintro v w2 ⟨a2,c2,rfl,hH2⟩;replace hH:=hH.call0 hH2;(try refine Qs ?_);refine Qo ?_;refine Ac Yu ?_;refine Qs ?_;refine Yd (T9 (a++b) w2 (hT.heap hH) (by omega)) ?_;rintro v w3 ⟨a3,c3,rfl,hH3⟩;replace hH:=hH.call0 hH3;have hH:Heap w [] w3 [Yf 31 3 a3 (scanS (a++b)).length c3 (F0 (scanS (a++b))),Yf 31 3 a2 (scanS b).length c2 (F0 (scanS b)),Yf 31 3 a1 (scanS a).length c1 (F0 (scanS a))]:=hH;have hall1:∀ x∈scanS a,x∈scanS (a++b):=fun x hx=>Qxe hx;have hall2:∀ x∈scanS b,(x.1+n,x.2.1,x.2.2)∈scanS (a++b):=fun x hx=>Qsx hl2 hx;have hlt:∀ x∈scanS a,x.1<=1000000:=fun x hx=>by have:=(Ox.1 hx).1;omega
 have hlt2:∀ x∈scanS b,x.1<=1000000:=fun x hx=>by have:=(Ox.1 hx).1;omega
 clear hH2 hH3;change (scanS a).length<=_ at ls;change (scanS b).length<=_ at lt;change (scanS (a++b)).length<=_ at lu;(try refine Qs ?_);apply hK;clear hK;generalize scanS a=la' at *;generalize scanS b=lb' at *;generalize scanS (a++b)=lc' at *;refine VS [0,5,6,7,8] ?_;refine VB ?_;refine Au [0,5,6,7,8] (fun m e w'=>∃ (i:Nat),Is e [(0,Aa a),(5,.slice a1 la'.length c1),(6,.slice a2 lb'.length c2),(7,.slice a3 lc'.length c3),(8,.int .i64 i)]/\Is w' w3/\i<=la'.length/\m=la'.length - i) la'.length ?_ ?_
 ·
  refine Qs ?_;exact ⟨0,rfl,rfl,by omega,rfl⟩
 rintro m e w' ⟨i,rfl,rfl,hi,rfl⟩;refine VS [0,5,6,7,8,34] ?_;refine VD (fun h=>?_) (fun h=>?_)
 ·
  refine Ab ?_;refine VB ?_;have hi':i < la'.length:=by omega
  obtain ⟨x,hx⟩:∃ x,la'[i]? = some x:=⟨_,Yc hi'⟩;have hxm:=Yh hx;obtain ⟨g,rfl,hr⟩:=Ql (hH.at 2 rfl) hx;have r0:w'.cell? ⟨g,i * 3,none⟩=some (.int .i64 x.1):=hr 0 _ rfl;have r1:w'.cell? ⟨g,i * 3+1,none⟩=some (Aa x.2.1):=hr 1 _ rfl;have r2:w'.cell? ⟨g,i * 3+2,none⟩=some (Aa x.2.2):=hr 2 _ rfl;refine VL [0,5,6,7,8,56] 18 fun K hK=>?_;have hbd:(0:Int)<=i/\(i:Int) < la'.length:=⟨by omega,by omega⟩;refine And.intro hbd ⟨_,r0,And.intro hbd ⟨_,r1,And.intro hbd ⟨_,r2,?_⟩⟩⟩;have hxl:=hlt x hxm;refine Ac Yz ?_;refine Qs ?_;refine Yd (Qh9 lc' a3 c3 x.1 x.2.1 x.2.2 w' (hH.at 0 rfl) (by omega) (by omega)) ?_;rintro v w4 ⟨rfl,rfl⟩;rw [decide_eq_true (hall1 x hxm)];(try refine Qs ?_);apply hK;clear hK;refine Ae rfl rfl (fun h=>by simp at h) (fun h=>Ab ?_);clear h;refine Ao ?_;refine VS [0,5,6,7,8] ?_;refine Ah ?_;refine Qs ?_;exact ⟨la'.length - (i+1),by omega,i+1,rfl,rfl,by omega,rfl⟩
 refine As rfl ?_;clear h hi hall1 hlt;refine VS [0,5,6,7,9] ?_;refine VB ?_;refine Au [0,5,6,7,9] (fun m e w''=>∃ (i:Nat),Is e [(0,Aa a),(5,.slice a1 la'.length c1),(6,.slice a2 lb'.length c2),(7,.slice a3 lc'.length c3),(9,.int .i64 i)]/\Is w'' w'/\i<=lb'.length/\m=lb'.length - i) lb'.length ?_ ?_
 ·
  refine Qs ?_;exact ⟨0,rfl,rfl,by omega,rfl⟩
 rintro m e w'' ⟨i,rfl,rfl,hi,rfl⟩;refine VS [0,5,6,7,9,60] ?_;refine VD (fun h=>?_) (fun h=>?_)
 ·
  refine Ab ?_;refine VB ?_;have hi':i < lb'.length:=by omega
  obtain ⟨x,hx⟩:∃ x,lb'[i]? = some x:=⟨_,Yc hi'⟩;have hxm:=Yh hx;obtain ⟨g,rfl,hr⟩:=Ql (hH.at 1 rfl) hx;have r0:w''.cell? ⟨g,i * 3,none⟩=some (.int .i64 x.1):=hr 0 _ rfl;have r1:w''.cell? ⟨g,i * 3+1,none⟩=some (Aa x.2.1):=hr 1 _ rfl;have r2:w''.cell? ⟨g,i * 3+2,none⟩=some (Aa x.2.2):=hr 2 _ rfl;have hxl:=hlt2 x hxm;refine VL [0,5,6,7,9,86] 22 fun K hK=>?_;have hbd:(0:Int)<=i/\(i:Int) < lb'.length:=⟨by omega,by omega⟩;refine And.intro hbd ⟨_,r0,?_⟩;(try refine Qs ?_);refine And.intro (by omega) (And.intro (by omega) (And.intro (Ys (by omega) (by omega)) (And.intro (Ys (by omega) (by omega)) (And.intro hbd ⟨_,r1,And.intro hbd ⟨_,r2,?_⟩⟩))));rw [show (x.1:Int)+(a.length:Int) / 512=((x.1+n:Nat):Int) by omega];refine Ac Yz ?_;refine Qs ?_;refine Yd (Qh9 lc' a3 c3 (x.1+n) x.2.1 x.2.2 w'' (hH.at 0 rfl) (by omega) (by omega)) ?_;rintro v w4 ⟨rfl,rfl⟩;rw [decide_eq_true (hall2 x hxm)];(try refine Qs ?_);apply hK;clear hK;refine Ae rfl rfl (fun h=>by simp at h) (fun h=>Ab ?_);clear h;refine Ao ?_;refine VS [0,5,6,7,9] ?_;refine Ah ?_;refine Qs ?_;exact ⟨lb'.length - (i+1),by omega,i+1,rfl,rfl,by omega,rfl⟩
 refine As rfl ?_;refine VQ [4] fun K hK=>?_;refine And.intro (Ys (by omega) (by omega)) (And.intro (fun _=>?_) (fun h=>absurd h (by omega)));refine Ac Yv ?_;refine Qs ?_;refine Yd (Tm w'' (hT.heap hH)) ?_;rintro v w4 ⟨hHx,rfl⟩;(try refine Qs ?_);apply hK;clear hK;exact Ad (A2 rfl rfl ⟨(hH.sub (Yn _)).call0 hHx,rfl⟩)
set_option maxHeartbeats 1000000
theorem salvageTrue_law (a p d:Bs) (w:World) (hT:Tb w) (ha:a.length<=140737488355328) (hp:p.length<=140737488355328) (hd:d.length<=140737488355328) :
  Does Yb 3 #[Aa a,Aa p,Aa d] w fun v w'=>Heap w [] w' []/\v=.bool true:=by
 refine En [Aa a,Aa p,Aa d] 144 Tryz.func3 ?_;refine Am [0,1,2] fun K hK=>?_;(repeat refine Qo ?_);apply hK;clear hK;refine Am [0,1,2,26] fun K hK=>?_
 suffices out:∀ b:Bool,(b=true ↔ 20000 < a.length∨2000 < d.length∨200 < p.length)->K [(0,Aa a),(1,Aa p),(2,Aa d),(26,.bool b)] w by
  refine And.intro (fun h1=>And.intro (fun h2=>out _ ?_) (fun h2=>out _ ?_)) (fun h1=>out _ ?_)
  ·
   rw [decide_eq_true_eq];omega
  ·
   simp only [true_iff];omega
  simp only [true_iff];omega
 intro b hb;apply hK;clear hK;refine Ae rfl rfl (fun h=>?_) (fun h=>?_)
 ·
  refine Am [6] fun K hK=>?_;refine Ac Yv ?_;refine Qi ?_;refine Yd (Tm w hT) ?_;rintro v w1 ⟨hH,rfl⟩;(try refine Qi ?_);apply hK;clear hK;exact Ad (A2 rfl rfl ⟨hH,rfl⟩)
 refine Ab ?_
 have hab:a.length<=20000/\d.length<=2000/\p.length<=200:=by
  have:¬ (20000 < a.length∨2000 < d.length∨200 < p.length):=fun hh=>by rw [hb.2 hh] at h;cases h
  omega
 clear h hb ha hp hd;obtain ⟨ha,hd,hp⟩:=hab;obtain ⟨n,hn⟩:∃ n,n=a.length / 512:=⟨_,rfl⟩
 obtain ⟨s,er,hmk,hown⟩:∃ (s:Bs) (er:Int),makeV p d=.tuple #[Aa s,.int .i64 er]/\((D6 p=some p->d.length<=8192->P1 d (tS d))->s.length<=10000/\(s≠[]->(n,p,d)∈scanS (a.take (512 * n)++s++a))):=by
  by_cases hg:D6 p=some p
  ·
   refine ⟨Ck p d (tS d),0,by rw [makeV,if_pos hg,if_neg (by omega)],fun hP=>?_⟩;have hP:=hP hg (by omega);have h1:=(Qfg (c:=d) (T:=tS d) hg).2.1;have h2:=hP.small (by omega);exact ⟨by omega,fun _=>by rw [Yy];exact QAa hg (by omega) hP (by omega) a⟩
  exact ⟨[],140,by rw [makeV,if_neg hg],fun _=>⟨by simp,fun h=>absurd rfl h⟩⟩
 refine Am [0,1,2,7] fun K hK=>?_;refine Ac Y0 ?_;refine Qi ?_;refine Yd (Zb p d w hT (by omega) (by omega)) ?_;rintro v w1 ⟨hH,rfl,hP⟩;obtain ⟨hsl,hfound⟩:=hown hP;clear hown hP;rw [hmk];clear hmk;(try refine Qi ?_);apply hK;clear hK;refine Am [0,1,2,7,9] fun K hK=>?_;(repeat first | refine Qo ?_ | refine ⟨⟨by omega,by omega⟩,?_⟩);apply hK;clear hK;rw [show ((a.length:Int) / 512)=(n:Int) by omega];refine Am [0,1,2,7,9] fun K hK=>?_;(repeat first | refine Qo ?_ | refine ⟨⟨by omega,by omega⟩,?_⟩);rw [show ((n:Int) * 512).toNat=512 * n by omega];have htk:(a.take (512 * n)).length=512 * n:=by rw [Ym];omega
 have hil:(a.take (512 * n)++s++a).length<=60000:=by rw [Ya,Ya];omega
 refine And.intro (by omega) (And.intro (by rw [Ya];omega) ?_);apply hK;clear hK;generalize a.take (512 * n)++s++a=img at *;have ls:=Sr img (img.length / 512);have hmade:∀ x∈scanS img,_:=fun x hx=>Qxd hx;have hrise:(scanS img).Pairwise fun x y=>x.1 < y.1:=Qkd img _;refine Am [0,1,2,7,9,10] fun K hK=>?_;refine Ac Yu ?_;refine Qi ?_;refine Yd (T9 img w1 (hT.heap hH) (by omega)) ?_;rintro v w2 ⟨a1,c1,rfl,hHs⟩;replace hH:=hH.call0 hHs;have hH:Heap w [] w2 [Yf 31 3 a1 (scanS img).length c1 (F0 (scanS img))]:=hH;clear hHs;change (scanS img).length<=_ at ls;generalize scanS img=l at *;(try refine Qi ?_);apply hK;clear hK;refine Am [0,1,2,7,9,10,11] fun K hK=>?_;(repeat refine Qo ?_);apply hK;clear hK
 ((repeat refine Ax ?_);refine Ar ?_)
 refine Au [0,1,2,7,9,10,11] (fun m e w'=>∃ (i:Nat),Is e [(0,Aa img),(1,Aa p),(2,Aa d),(7,Aa s),(9,.int .i64 n),(10,.slice a1 l.length c1),(11,.int .i64 i)]/\Heap w [] w' [Yf 31 3 a1 l.length c1 (F0 l)]/\i<=l.length/\m=l.length - i) l.length ?_ ?_
 ·
  refine Qi ?_;exact ⟨0,rfl,hH,by omega,rfl⟩
 clear hH;rintro m e w' ⟨i,rfl,hH,hi,rfl⟩;refine Am [0,1,2,7,9,10,11,50] fun K hK=>?_;(repeat refine Qo ?_);apply hK;clear hK;refine VD (fun h=>?_) (fun h=>?_)
 ·
  refine Ab ?_
  ((repeat refine Ax ?_);refine Ar ?_)
  have hi':i < l.length:=by omega
  obtain ⟨x,hx⟩:∃ x,l[i]? = some x:=⟨_,Yc hi'⟩;have hxm:=Yh hx;obtain ⟨own,hmk,hlen,htake,hpl,hdl⟩:=hmade x hxm;obtain ⟨g,rfl,hr⟩:=Ql (hH.at 0 rfl) hx;have r1:w'.cell? ⟨g,i * 3+1,none⟩=some (Aa x.2.1):=hr 1 _ rfl;have r2:w'.cell? ⟨g,i * 3+2,none⟩=some (Aa x.2.2):=hr 2 _ rfl;have hbd:(0:Int)<=i/\(i:Int) < l.length:=⟨by omega,by omega⟩;(repeat refine Ax ?_);refine Qb5 _ (Ext.refl _) [0,1,2,7,9,10,11,12,13] [(0,true),(1,true),(2,true),(3,true),(4,true),(5,true),(6,true),(7,true),(8,true),(9,true),(10,true),(11,true),(12,false),(13,true),(14,true),(15,true),(16,true),(17,true)] (by kernel_rfl) (by kernel_rfl) rfl (by simp only [Bd,List.filterMap_cons,List.filterMap_nil,List.getElem?_cons_succ,List.getElem?_cons_zero,Option.map_some];rfl) fun K hK=>?_;refine Qi ?_;refine And.intro hbd ⟨_,r1,And.intro hbd ⟨_,r2,?_⟩⟩;refine Ac Y0 ?_;refine Qi ?_;refine Yd (Zb x.2.1 x.2.2 w' (hT.heap hH) (by omega) (by omega)) ?_;rintro v w4 ⟨hHx,rfl,_⟩;rw [hmk];replace hH:=hH.call0 hHx;rw [List.nil_append] at hH;refine ⟨hHx.ext,?_⟩;clear hHx hr r1 r2;(try refine Qi ?_);apply hK;clear hK
  have r0:w4.cell? ⟨g,i * 3,none⟩=some (.int .i64 x.1):=by
   obtain ⟨g2,hg,hr⟩:=Ql (hH.at 0 rfl) hx;cases hg;exact hr 0 _ rfl
  simp only [List.getElem_toArray,List.getElem_cons_zero,List.getElem_cons_succ]
  have hL0:∀ (a:Addr) (KV:Value->Prop),a=⟨g,i * 3,none⟩->Bf Yb 3 (.pointer (some a)) w4 KV=KV (.int .i64 x.1):=by
   rintro _ KV rfl;rw [Qf _ _ _ Yt,Ro r0]
  have hE0:∀ (xo yo:Operand) (KV:Value->Prop),A8 Yb .neq 23 xo yo (.int .i64 0) (.int .i64 0) w4 KV=KV (.bool false):=fun xo yo KV=>QFe _ _ _ _ _ _
  have hL1:∀ (xo yo:Operand) (KV:Value->Prop),A8 Yb .lss 3 xo yo (.int .i64 x.1) (.int .i64 0) w4 KV=KV (.bool false):=fun xo yo KV=>by
   rw [QFf,decide_eq_false (by omega)]
  have hG1:∀ (xo yo:Operand) (a b:Int) (KV:Value->Prop),a=x.1 * 512->b=img.length - own.length->A8 Yb .gtr 3 xo yo (.int .i64 a) (.int .i64 b) w4 KV=KV (.bool false):=fun xo yo a b KV h1 h2=>by
   rw [Qua,decide_eq_false (by omega)]
  have hN1:∀ (xo yo:Operand) (u v:Bs) (KV:Value->Prop),u=own->v=own->A8 Yb .neq 9 xo yo (Aa u) (Aa v) w4 KV=KV (.bool false):=fun xo yo u v KV h1 h2=>by
   subst h1;subst h2;rw [QAb];simp
  have hT1:List.take (((x.1:Int) * 512+own.length).toNat - ((x.1:Int) * 512).toNat) (List.drop ((x.1:Int) * 512).toNat img)=own:=by
   rw [show ((x.1:Int) * 512).toNat=512 * x.1 by omega,show ((x.1:Int) * 512+own.length).toNat - 512 * x.1=own.length by omega];exact htake
  have hi1:I64 ((x.1:Int) * 512):=Ys (by omega) (by omega);have hi2:I64 ((img.length:Int) - own.length):=Ys (by omega) (by omega);have hi3:I64 ((x.1:Int) * 512+own.length):=Ys (by omega) (by omega);have hi4:0<=(x.1:Int) * 512/\(x.1:Int) * 512<=(x.1:Int) * 512+own.length/\(x.1:Int) * 512+own.length<=img.length:=⟨by omega,by omega,by omega⟩;by_cases hi0:i=0
  ·
   have hG2:∀ (xo yo:Operand) (KV:Value->Prop),A8 Yb .gtr 3 xo yo (.int .i64 i) (.int .i64 0) w4 KV=KV (.bool false):=fun xo yo KV=>by
    rw [Qua,decide_eq_false (by omega)]
   (repeat refine Ax ?_);refine Qb3 [0,1,2,7,9,10,11,131] (by kernel_rfl) (by kernel_rfl) rfl fun K hK=>?_;simp -implicitDefEqProofs only [go_sem,↓hL0,↓hE0,↓hL1,↓hG1,↓hG2,↓hN1,hT1,↓reduceIte,reduceEqDiff];refine ⟨hbd,hbd,hi1,hi2,hbd,hi1,hbd,hi1,hi3,hi4,?_⟩
   (apply hK;clear hK);refine Ae rfl rfl (fun h=>by simp at h) (fun h=>Ab ?_);clear h;refine Ao ?_;refine Am [0,1,2,7,9,10,11] fun K hK=>?_;((repeat refine Qo ?_);apply hK;clear hK);refine Ah ?_;refine Qi ?_;exact ⟨l.length - (i+1),by omega,i+1,rfl,hH,by omega,rfl⟩
  have hG2:∀ (xo yo:Operand) (KV:Value->Prop),A8 Yb .gtr 3 xo yo (.int .i64 i) (.int .i64 0) w4 KV=KV (.bool true):=fun xo yo KV=>by
   rw [Qua,decide_eq_true (by omega)]
  obtain ⟨y,hy⟩:∃ y,l[i - 1]? = some y:=⟨_,Yc (by omega)⟩
  have hyx:y.1 < x.1:=by
   obtain ⟨b1,e1⟩:=Yi.1 hy;obtain ⟨b2,e2⟩:=Yi.1 hx;have:=List.pairwise_iff_getElem.1 hrise (i - 1) i b1 b2 (by omega);rw [e1,e2] at this;exact this
  have rp:w4.cell? ⟨g,(i - 1) * 3,none⟩=some (.int .i64 y.1):=by
   obtain ⟨g2,hg,hr⟩:=Ql (hH.at 0 rfl) hy;cases hg;exact hr 0 _ rfl
  have hLp:∀ (a:Addr) (KV:Value->Prop),a=⟨g,(i - 1) * 3,none⟩->Bf Yb 3 (.pointer (some a)) w4 KV=KV (.int .i64 y.1):=by
   rintro _ KV rfl;rw [Qf _ _ _ Yt,Ro rp]
  have hGE:∀ (xo yo:Operand) (KV:Value->Prop),A8 Yb .geq 3 xo yo (.int .i64 y.1) (.int .i64 x.1) w4 KV=KV (.bool false):=fun xo yo KV=>by
   rw [QFg,decide_eq_false (by omega)]
  have hsub:((i:Int) - 1).toNat=i - 1:=by omega
  have hbp:(0:Int)<=(i:Int) - 1/\(i:Int) - 1 < l.length:=⟨by omega,by omega⟩;have hip:I64 ((i:Int) - 1):=Ys (by omega) (by omega);(repeat refine Ax ?_);refine Qb3 [0,1,2,7,9,10,11,131] (by kernel_rfl) (by kernel_rfl) rfl fun K hK=>?_;simp -implicitDefEqProofs only [go_sem,↓hL0,↓hE0,↓hL1,↓hG1,↓hG2,↓hN1,hT1,↓hLp,↓hGE,hsub,↓reduceIte,reduceEqDiff];refine ⟨hbd,hbd,hi1,hi2,hbd,hi1,hbd,hi1,hi3,hi4,hip,hbp,hbd,?_⟩
  (apply hK;clear hK);refine Ae rfl rfl (fun h=>by simp at h) (fun h=>Ab ?_);clear h;refine Ao ?_;refine Am [0,1,2,7,9,10,11] fun K hK=>?_;((repeat refine Qo ?_);apply hK;clear hK);refine Ah ?_;refine Qi ?_;exact ⟨l.length - (i+1),by omega,i+1,rfl,hH,by omega,rfl⟩
 refine As rfl ?_;clear h hi;refine Am [6] fun K hK=>?_;refine And.intro (fun hs=>?_) (fun hs=>?_)
 ·
  refine Ac Yz ?_;refine Qi ?_;refine Yd (Qh9 l a1 c1 n p d w' (hH.at 0 rfl) (by omega) (by omega)) ?_;rintro v w4 ⟨rfl,rfl⟩;rw [decide_eq_true (hfound hs)];(try refine Qi ?_);refine Ac Yv ?_;refine Qi ?_;refine Yd (Tm w4 (hT.heap hH)) ?_;rintro v w5 ⟨hHx,rfl⟩;(try refine Qi ?_);apply hK;clear hK;exact Ad (A2 rfl rfl ⟨(hH.sub (Yn _)).call0 hHx,rfl⟩)
 refine Ac Yv ?_;refine Qi ?_;refine Yd (Tm w' (hT.heap hH)) ?_;rintro v w5 ⟨hHx,rfl⟩;(try refine Qi ?_);apply hK;clear hK;exact Ad (A2 rfl rfl ⟨(hH.sub (Yn _)).call0 hHx,rfl⟩)
end Go.Proofs.YtncpabbjpdogjaaGreatDoor
