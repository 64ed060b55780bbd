/- A program logic over the model, and what this program's functions do by it: part 6. No conditions: a library of lemmas. -/
import Derived.Test.YtncpabbjpdogjaaGreatDoorS5
import Derived.Lib.Bytealg
import Derived.Lib.Join
import Derived.Scope
import Derived.Shelf.Strings.Repeat
import Derived.Sort.Walk0
import Derived.Test.YtncpabbjpdogjaaGreatDoorChecked
open Nat (reduceEqDiff)
set_option linter.unusedSimpArgs false
set_option linter.unusedVariables false
set_option maxRecDepth 100000
open Go.Eng.Res renaming blk->Ya,row->Yf
open List renaming length_append->Yb,replicate->Yc,set_cons_zero->Yd,nil_append->Ye,set_cons_succ->Yh,nil_sublist->Yj,cons_append->Yl,getD_eq_getElem?_getD->Ym,getElem?_eq_getElem->Yn,length_singleton->Yp,append_nil->Yq,append_assoc->Ys,length_cons->Yt,length_drop->Yu,length_take->Yv,getElem?_map->Yx,drop_append_of_le_length->Yy,getElem?_append_left->Yz,sublist_cons_self->Y0,getElem?_range->Y1,range->Y2,singleton_append->Y3,flatten_cons->Y4,eq_nil_of_length_eq_zero->Y6,getElem?_eq_none->Y8,length_nil->Xb,getElem?_eq_some_iff->Xd,mem_of_getElem?->Xe,take_append_of_le_length->Xf,take_of_length_le->Xg,mem_cons->Xh,getElem?_append_right->Xi,isPrefixOf_iff_prefix->Xk,perm_append_comm->Xl,ext_getElem?->Xm,length_pos_iff->Xn,getElem?_replicate->Xo,flatten_nil->Xq,getElem?_zipWith->Xs,takeWhile_prefix->Xt,perm_append_singleton->Xu,length->Xv,sublist_append_right->Xx,length_take_le->Xy,mem_singleton->Xz,getElem?_set->X2,take_append_drop->X6,filter_cons->X7,all_eq_true->X8,mem_of_mem_take->X9,count_eq_zero_of_not_mem->Ub,mem_append->Uc,replicate_zero->Ud,mem_map->Uf,getElem?_drop->Uj,filter_append->Ul,drop_eq_getElem_cons->Um,take_add_one->Un,getElem_mem->Up,take_length->Us,drop_of_length_le->Ut,length_map->Uu,drop_left'->Uv,take_left'->Uw,countP_le_length->Ux,set_append_right->Uy,take_zero->U2,drop_drop->U3,drop_zero->U4,take_succ_cons->U5,drop_succ_cons->U6,flatten_append->U7,sum_cons->U9,prefix_append->Gb,mem_cons_self->Gd
open Go.Value renaming oneCell'->Yg,cells->Yw,slice->Y9,string->Xr,int->Uq,bool->Gl,agg->Gm
open Go.Eng.CallK renaming mk->Yi
open Go.Proofs.Tryz renaming prog->Yk,underlying71->Yo,underlying72->Y7,f101->Xa,underlying148->X0,call35->X1,underlying56->X5,call33->Ua,underlying114->Uh,underlying37->Uo,call37->U1,underlying118->Ga,call31->Gi,call36->Gj,call26->Gk
open Go.Obj renaming cells->Yr,loop->Uk
open Nat renaming le_refl->Y5,zero_add->X3,le_trans->Ue,sub_self->Ug,add_sub_cancel->Ui,add_sub_cancel_left->Ur,mul_le_mul_right->U0,reduceAdd->U8,lt_or_ge->Gf
open UInt8 renaming ofNat->Xc
open Go.Eng.Heap renaming start->Xj
open Go.Eng.I64 renaming mk->Xp
open Int renaming toNat->Xw,toNat_natCast->X4
open Go.IntKind renaming i64->Uz
open Bool renaming true_eq_false->Ge
open Go.Sem renaming run_bind->Gg
open Go.Result renaming andThen_ok->Gh
namespace Go.Proofs.YtncpabbjpdogjaaGreatDoor
open Go Go.Eng
def Da (list P:List Nat) (n m t:Nat):List Nat:=(Y2 n).map fun s=>(Y2 m).countP fun i=>list.getD i 0 == s && P.getD (i / 50) 0 == t
def Eg (list P:List Nat) (many n m:Nat):List (List Nat):=(Y2 many).map (Da list P n m)
theorem Rf (list P:List Nat) (n m t:Nat):(Da list P n m t).length=n:=by simp [Da]
theorem Qwj (list P:List Nat) (many n m:Nat):(Eg list P many n m).length=many:=by simp [Eg]
theorem Qwk (list P:List Nat) (n t:Nat):Da list P n 0 t=Yc n 0:=by
 unfold Da;apply Xm;intro j;rw [Yx,Xo];by_cases hj:j < n
 ·
  rw [Y1 hj,if_pos hj];rfl
 rw [Y8 (by simpa using hj),if_neg hj];rfl
theorem Qsb (list P:List Nat) (many n:Nat):Eg list P many n 0=Yc many (Yc n 0):=by
 unfold Eg;apply Xm;intro j;rw [Yx,Xo];by_cases hj:j < many
 ·
  rw [Y1 hj,if_pos hj,Option.map_some,Qwk]
 rw [Y8 (by simpa using hj),if_neg hj];rfl
theorem Qz1 {list P:List Nat}{n m t s:Nat} (hs:s < n):(Da list P n m t).getD s 0<=m:=by
 rw [Da,T8 _ _ _ _ hs];exact Ue Ux (by simp)
theorem Qt3 {list P:List Nat}{n m t:Nat}:∀ x∈Da list P n m t,x<=m:=by
 intro x hx;obtain ⟨s,_,rfl⟩:=Uf.1 hx;exact Ue Ux (by simp)
theorem Qj2 {list P:List Nat}{n m t:Nat} (hx:list.getD m 0 < n):Da list P n (m+1) t=if P.getD (m / 50) 0=t then (Da list P n m t).set (list.getD m 0) ((Da list P n m t).getD (list.getD m 0) 0+1) else Da list P n m t:=by
 apply Xm;intro j;by_cases hj:j < n
 ·
  have h1:∀ m,(Da list P n m t)[j]? = some ((Y2 m).countP fun i=>list.getD i 0 == j && P.getD (i / 50) 0 == t):=fun m=>by
   rw [Da,Yx,Y1 hj];rfl
  rw [h1,List.range_succ,List.countP_append,List.countP_singleton];by_cases ht:P.getD (m / 50) 0=t
  ·
   rw [if_pos ht,X2];by_cases e:list.getD m 0=j
   ·
    have hb:(list.getD m 0 == j && P.getD (m / 50) 0 == t)=true:=by rw [e,ht];simp
    rw [if_pos hb,if_pos e,if_pos (by rw [Rf];exact hx),e]
    congr 2
    rw [Ym,h1];rfl
   have hb:(list.getD m 0 == j && P.getD (m / 50) 0 == t)=false:=by rw [show (list.getD m 0 == j)=false from beq_eq_false_iff_ne.2 e];rfl
   rw [hb,if_neg e,h1];rfl
  have hb:(list.getD m 0 == j && P.getD (m / 50) 0 == t)=false:=by rw [show (P.getD (m / 50) 0 == t)=false from beq_eq_false_iff_ne.2 ht,Bool.and_false]
  rw [hb,if_neg ht,h1];rfl
 rw [Y8 (by rw [Rf];omega),Y8];split
 ·
  rw [List.length_set,Rf];omega
 rw [Rf];omega
theorem Qsc {list P:List Nat}{many n m b:Nat} (hx:list.getD m 0 < n) (hb:P.getD (m / 50) 0=b) (hbm:b < many):Eg list P many n (m+1)=(Eg list P many n m).set b ((Da list P n m b).set (list.getD m 0) ((Da list P n m b).getD (list.getD m 0) 0+1)):=by
 apply Xm;intro j;rw [X2];unfold Eg;rw [Yx,Yx,Uu,List.length_range];by_cases e:b=j
 ·
  subst e;rw [if_pos rfl,if_pos hbm,Y1 hbm,Option.map_some,Qj2 hx,if_pos hb]
 rw [if_neg e];by_cases hj:j < many
 ·
  rw [Y1 hj,Option.map_some,Option.map_some,Qj2 hx,if_neg (by omega)]
 rw [Y8 (by simpa using hj)];rfl
theorem Qsd (list P:List Nat) (n t:Nat):Rj list P t n=Da list P n list.length t:=rfl
def Br (hs:List (Option Addr×Nat)) (n:Nat):List Value:=hs.map fun h=>.slice h.1 n h.2
def Bp (hs:List (Option Addr×Nat)) (n:Nat) (L:List (List Nat)):List Res:=List.zipWith (fun h l=>Yf 3 1 h.1 n h.2 (Ag l)) hs L
theorem Sd (hs:List (Option Addr×Nat)) (n:Nat):(Br hs n).length=hs.length:=by simp [Br]
theorem Wz {hs:List (Option Addr×Nat)}{i:Nat}{h:Option Addr×Nat} (n:Nat) (h1:hs[i]? = some h):(Br hs n)[i]? = some (.slice h.1 n h.2):=by simp [Br,h1]
theorem Qn5 (hs:List (Option Addr×Nat)) (n i:Nat) (a:Option Addr) (c:Nat):(Br hs n).set i (.slice a n c)=Br (hs.set i (a,c)) n:=by simp [Br,List.map_set]
theorem Qse {hs:List (Option Addr×Nat)}{T:List (List Nat)}{n:Nat} (hl:hs.length=T.length) (h:∀ t∈T,t.length=n):Dp hs T=Br hs n:=by
 apply Xm;intro i;unfold Dp Br;rw [Xs,Yx];rcases Gf i T.length with h1 | h1
 ·
  rw [Yn h1,Yn (by omega)];simp only [Option.map_some];rw [h _ (Up h1)]
 rw [Y8 h1,Y8 (by omega)];rfl
theorem Qwl {hs:List (Option Addr×Nat)}{n:Nat}{L:List (List Nat)} (hl:hs.length=L.length):(Bp hs n L).length=L.length:=by simp [Bp,hl]
theorem Qd3 {hs:List (Option Addr×Nat)}{L:List (List Nat)}{i:Nat}{h:Option Addr×Nat}{l:List Nat} (n:Nat) (h1:hs[i]? = some h) (h2:L[i]? = some l):(Bp hs n L)[i]? = some (Yf 3 1 h.1 n h.2 (Ag l)):=by
 simp [Bp,Xs,h1,h2]
theorem Qco {hs:List (Option Addr×Nat)}{L:List (List Nat)} (n:Nat) (hl:hs.length=L.length) (a:Option Addr) (c:Nat) (l:List Nat):Bp hs n L++[Yf 3 1 a n c (Ag l)]=Bp (hs++[(a,c)]) n (L++[l]):=by
 unfold Bp;rw [List.zipWith_append hl];rfl
theorem Qwm {hs:List (Option Addr×Nat)}{L:List (List Nat)}{i n:Nat}{h:Option Addr×Nat} (h1:hs[i]? = some h) (l:List Nat):(Bp hs n L).set i (Yf 3 1 h.1 n h.2 (Ag l))=Bp hs n (L.set i l):=by
 apply Xm;intro j;unfold Bp;rw [X2,Xs,Xs,X2,List.length_zipWith];by_cases e:i=j
 ·
  subst e;have h2:=(Xd.1 h1).1;rw [if_pos rfl,if_pos rfl,h1];by_cases h3:i < L.length
  ·
   rw [if_pos (by omega),if_pos h3]
  rw [if_neg (by omega),if_neg h3]
 rw [if_neg e,if_neg e]
theorem Heap.hole_row {w0 w:World}{B:List Nat}{G:List Res}{r:Res} (h:Heap w0 B w G) (i j:Nat) (hi:G[i]? = some r) {g T sz n cap k:Nat}{xs:List Value}{v:Value} (hj:G[j]? = some (Yf T sz (some ⟨g,0,none⟩) n cap xs)) (hij:i≠j) (hv:xs[k]? = some v):(holes r.foot w).cell? ⟨g,k,none⟩=some v:=by
 refine Ts (Cn (h.at j hj) hv) ?_;obtain ⟨h1,e1⟩:=Xd.1 hi;obtain ⟨h2,e2⟩:=Xd.1 hj;have ha:=List.pairwise_iff_getElem.1 h.apart;rcases Gf i j with h3 | h3
 ·
  have h4:=ha i j h1 h2 h3;rw [e1,e2] at h4;exact fun hb=>h4 g hb (by simp [Yf])
 have h4:=ha j i h2 h1 (by omega);rw [e1,e2] at h4;exact h4 g (by simp [Yf])
theorem Qwn (list tab:List Nat) (n k t:Nat) (hk:50 * k < list.length) (hl:list.length<=1638350) (hs:∀ s∈list,s < n) (htl:tab.length=n) (htx:∀ x∈tab,x<=1000) (p:Addr) (hps:p.spot=none) (lc:Nat) (hlc:list.length<=lc) (gl gp gT many mc:Nat) (ht:t < many) (hmany:many<=6) (ta:Option Addr) (tc:Nat) (w:World)
  (c1:w.cell? ⟨gl,0,none⟩=some (.slice (some p) list.length lc)) (c2:w.cell? ⟨gp,0,none⟩=some (.slice (some ⟨gT,0,none⟩) many mc)) (c3:w.cell? ⟨gT,t,none⟩=some (.slice ta n tc)) (hr:RS w (some p) list.length 1 (Ag list)) (hrt:RS w ta n 1 (Ag tab)) :
  Does Yk 141 #[.int .i64 t,.int .i64 k,.pointer (some ⟨gl,0,none⟩),.pointer (some ⟨gp,0,none⟩)] w fun v w'=>w'=w/\v=.int .i64 (Me tab (D5 list k):Nat):=by
 have hgd:=Qg5 list k hk (by omega) p lc hlc w;have hrs:=Qpk hr hps hk;have hcm:∀ s∈D5 list k,s < n:=fun s h=>hs s (List.mem_of_mem_drop (X9 h));have hcl:(D5 list k).length<=50:=by simp [D5];omega
 refine En [.int .i64 t,.int .i64 k,.pointer (some ⟨gl,0,none⟩),.pointer (some ⟨gp,0,none⟩)] 30 Tryz.func141 ?_;generalize hch:D5 list k=ch at *;generalize hnc:ch.length=nc at *;generalize list.length=nl at *;refine VS [0,1,2,3] ?_;refine VS [0,1,2,3,7] ?_;refine VQ [0,3,7,12,13,14] fun K hK=>?_;refine ⟨_,c1,?_⟩;refine Ac Tryz.call142 ?_;refine Qs ?_;refine Yi hgd ?_;rintro v w2 ⟨rfl,rfl⟩;refine Qs ?_;apply hK;clear hK;generalize hpk:p.add (50 * k)=pk at *;refine Ar ?_;refine Au [0,3,7,12,13,14] (fun m e w'=>∃ (i:Nat),Is e [(0,.int .i64 t),(3,.pointer (some ⟨gp,0,none⟩)),(7,.int .i64 (Me tab (ch.take i):Nat)),(12,.slice (some pk) nc (lc - 50 * k)),(13,.int .i64 nc),(14,.int .i64 i)]/\Is w' w2/\Me tab (ch.take i)<=1000 * i/\i<=nc/\m=nc - i) nc ?_ ?_
 ·
  refine Qs ?_;exact ⟨0,rfl,rfl,by simp [Me],by omega,rfl⟩
 rintro m e w' ⟨i,rfl,rfl,hcb,hi,rfl⟩;refine VS [0,3,7,12,13,14,15] ?_;(repeat refine Ax ?_);refine VD (fun h=>?_) (fun h=>?_)
 ·
  have hcell:=Ek hrs (i:=i) (by omega);have hx:=hcm _ (Dr 0 (l:=ch) (i:=i) (by omega));have htk:ch.take (i+1)=ch.take i++[ch.getD i 0]:=Mq 0 (by omega);have hcs:Me tab (ch.take (i+1))=Me tab (ch.take i)+tab.getD (ch.getD i 0) 0:=by rw [htk];simp [Me]
  generalize ch.getD i 0=x at *;obtain ⟨q,rfl⟩:=Dt hrt (by omega);have hct:=Ek hrt (i:=x) (by omega);have hcx:=htx _ (Dr 0 (l:=tab) (i:=x) (by omega));generalize tab.getD x 0=c at *;refine Ab ?_;refine VB ?_;refine VQ [0,3,7,9,12,13,14] fun K hK=>?_;refine ⟨⟨by omega,by omega⟩,_,hcell,?_⟩;apply hK;clear hK;refine VQ [0,3,7,12,13,14] fun K hK=>?_;refine ⟨_,c2,?_⟩;refine Qs ?_;refine ⟨⟨by omega,by omega⟩,_,c3,?_⟩;refine Qs ?_;refine ⟨⟨by omega,by omega⟩,_,hct,?_⟩;refine Qs ?_;(repeat refine Qo ?_);apply hK;clear hK;refine Ao ?_;refine VS [0,3,7,12,13,14] ?_;refine Ah ?_;refine Qs ?_;exact ⟨nc - (i+1),by omega,i+1,by rw [hcs];rfl,rfl,by omega,by omega,rfl⟩
 obtain rfl:i=nc:=by omega
 rw [Xg (by omega)];refine As rfl ?_;refine VS [6] ?_;exact Ad (A2 rfl rfl ⟨rfl,rfl⟩)
end Go.Proofs.YtncpabbjpdogjaaGreatDoor
namespace Go.Eng
open Go
def Qz:List Nat->Code->Code
 | [],c=>c
 | 0::p,.seq a _=>Qz p a
 | _::p,.seq _ b=>Qz p b
 | _::p,.block _ c=>Qz p c
 | _::p,.loop c=>Qz p c
 | _::p,.scope c=>Qz p c
 | 0::p,.cond _ a _=>Qz p a
 | _::p,.cond _ _ b=>Qz p b
 | _,c=>c
def Mz (p:List Nat) (fn:Func):Code :=
 match fn.body with
 | some c=>Qz p c
 | none=>.skip
theorem S4 {C:K3}{k:List It}{e:Env}{w:World} (ks:List Nat) (h:D9 ks e fun e=>VC C k e w):VC C k e w :=
 fun a n ha=>((Ko ks e _).1 h) a n (ha.sel ks)
end Go.Eng
namespace Go.Proofs.YtncpabbjpdogjaaGreatDoor
open Go Go.Eng
set_option maxHeartbeats 4000000
theorem Qdf (us:List (Option Addr×Nat)) (n:Nat) (a:Option Addr) (c:Nat):Br us n++[.slice a n c]=Br (us++[(a,c)]) n:=by simp [Br]
theorem Qmb {w0 w:World}{B:List Nat}{G:List Res} (hX:Heap w0 B w G) (n:Nat) (hn:n<=1000000000):Heap w0 B (w.alloc (Yr (Yc n (Uq Uz 0)).toArray 3)) (Yf 3 1 (some ⟨w.heap.size,0,none⟩) n n (Ag (Yc n 0))::G):=by
 have h:=hX.row 3 (n:=n) (cap:=n) (sz:=1) (Ag (Yc n 0)) [] (by simp [Bj]) (by simp [Bj]) (by omega) (by omega);rw [Yq] at h;rw [<- L5];exact h
theorem Qj3 {w0 w:World}{B:List Nat}{G:List Res} (hX:Heap w0 B w G) (n:Nat) (hn:n<=1000000000):Heap w0 B (w.alloc (Yr (Yc n (Y9 none 0 0)).toArray 114)) (Yf 114 1 (some ⟨w.heap.size,0,none⟩) n n (Yc n (Y9 none 0 0))::G):=by
 have h:=hX.row 114 (n:=n) (cap:=n) (sz:=1) (Yc n (Y9 none 0 0)) [] (by simp) (by simp) (by omega) (by omega);rw [Yq] at h;exact h
abbrev zS:Value:=.slice none 0 0
def Kx (n many t s:Nat):Nat:=if s * many / n=t then 1 else 15
def Qmi (n many t:Nat):List Nat:=(Y2 n).map (Kx n many t)
theorem Qd4 (n many:Nat):Mb n many=(Y2 many).map (Qmi n many):=rfl
theorem Qn6 (n many:Nat) {t:Nat} (h:t < many):(Mb n many).take (t+1)=(Mb n many).take t++[Qmi n many t]:=by
 have hg:(Mb n many)[t]? = some (Qmi n many t):=by rw [Qd4,Yx,Y1 h];rfl
 rw [Un,hg];rfl
theorem Qn7 (n many:Nat) {t:Nat} (h:t<=many):((Mb n many).take t).length=t:=by rw [Qd4];simp;omega
theorem Qt4 {us vs:List (Option Addr×Nat)}{n i:Nat}{T W:List (List Nat)}{h:Option Addr×Nat}{l:List Nat} (h1:us[i]? = some h) (h2:T[i]? = some l):(Bp us n T++Bp vs n W)[i]? = some (Yf 3 1 h.1 n h.2 (Ag l)):=by
 have h3:=Qd3 n h1 h2;rw [Yz (Xd.1 h3).1,h3]
theorem Qz2 {us vs:List (Option Addr×Nat)}{n many i:Nat}{T W:List (List Nat)}{h:Option Addr×Nat}{l:List Nat} (hm:(Bp us n T).length=many) (h1:vs[i]? = some h) (h2:W[i]? = some l):(Bp us n T++Bp vs n W)[many+i]? = some (Yf 3 1 h.1 n h.2 (Ag l)):=by
 rw [Xi (by omega),hm,Ur,Qd3 n h1 h2]
theorem Qwo {us vs:List (Option Addr×Nat)}{n many i:Nat}{T W:List (List Nat)}{h:Option Addr×Nat} (l:List Nat) (hm:(Bp us n T).length=many) (h1:vs[i]? = some h):(Bp us n T++Bp vs n W).set (many+i) (Yf 3 1 h.1 n h.2 (Ag l))=Bp us n T++Bp vs n (W.set i l):=by
 rw [Uy _ _ (by omega),hm,Ur,Qwm h1]
theorem getD_some {α:Type}{l:List α}{i:Nat} (d:α) (h:i < l.length):l[i]? = some (l.getD i d):=by
 rw [Ym,Yn h];rfl
theorem Qbz {α:Type}{A B:List α}{k:Nat} (x:α) (hA:A.length=k) (hB:k < B.length):(A++B.drop k).set k x=(A++[x])++B.drop (k+1):=by
 rw [Uy _ _ (by omega),hA,Ug,Um hB,Yd,Ys];rfl
abbrev Ky (gl gp:Nat):Value:=.func (.func 141) #[] #[.pointer (some ⟨gl,0,none⟩),.pointer (some ⟨gp,0,none⟩)]
theorem Qz3 {list:List Nat}{n:Nat} (hm:Nf list n) (many:Nat):∀ r,(Ed list n many r).1.length=many/\(∀ t∈(Ed list n many r).1,t.length=n/\∀ x∈t,x<=20)/\(Ed list n many r).2.length=Ds list.length
 | 0=>by
  refine ⟨by simp [Ed,Mb],fun t ht=>?_,by simp [Ed]⟩;obtain ⟨i,_,rfl⟩:=Uf.1 ht;refine ⟨by simp,fun x hx=>?_⟩;obtain ⟨s,_,rfl⟩:=Uf.1 hx;split <;> omega
 | r+1=>by
  obtain ⟨h1,h2,h3,h4,h5⟩:=hm;rw [Ed];refine ⟨by simp [Lq],fun t ht=>?_,by simp [Lq,F5]⟩;obtain ⟨i,_,rfl⟩:=Uf.1 ht;have hc:=Rf list (F5 list many (Ed list n many r).1) n list.length i;obtain ⟨a,b,c⟩:=Qtm (w:=Da list (F5 list many (Ed list n many r).1) n list.length i) (most:=17) (by omega) (by omega) (by omega) (by omega) (fun x hx=>by have:=Qt3 x hx;omega);rw [hc] at a;exact ⟨a,fun x hx=>by have:=b x hx;omega⟩
theorem Qlm {F:Value->World->Prop}{kk:List It}{n many gN nl lc gl gr gT gP gp:Nat}{p:Addr}{w w5:World} (h1:3<=n) (h2:n<=258) (t1:2<=many) (t2:many<=6)
  (hH2:Heap w [] w5 (Yf 114 1 (some ⟨gT,0,none⟩) many many (Yc many zS)::Yf 3 1 (some ⟨gP,0,none⟩) gN gN (Ag (Yc gN 0))::Ya gp 120 (Ai (some ⟨gT,0,none⟩) many many (some ⟨gP,0,none⟩) gN gN)::Ya gr 120 (Ai none 0 0 none 0 0)::Ya gl 114 [.slice (some p) nl lc]::[]))
  (out:∀ w' us,Heap w [] w' (Yf 114 1 (some ⟨gT,0,none⟩) many many (Br us n)::Yf 3 1 (some ⟨gP,0,none⟩) gN gN (Ag (Yc gN 0))::Ya gp 120 (Ai (some ⟨gT,0,none⟩) many many (some ⟨gP,0,none⟩) gN gN)::Ya gr 120 (Ai none 0 0 none 0 0)::Ya gl 114 [.slice (some p) nl lc]::Bp us n (Mb n many))->us.length=many->VC ⟨Yk,Xa,F,158⟩ kk [(1,.int .i64 n),(2,.pointer (some ⟨gl,0,none⟩)),(4,.pointer (some ⟨gr,0,none⟩)),(6,.int .i64 many),(8,.pointer (some ⟨gp,0,none⟩))] w') :
  VC ⟨Yk,Xa,F,158⟩ (.code (Mz [1,1,1,1,0,1] Xa)::kk) [(1,.int .i64 n),(2,.pointer (some ⟨gl,0,none⟩)),(4,.pointer (some ⟨gr,0,none⟩)),(6,.int .i64 many),(8,.pointer (some ⟨gp,0,none⟩)),(40,.int .i64 many),(41,.int .i64 0)] w5:=by
 conv in (Mz _ _)=>whnf
 refine Ar ?_;refine Au [1,2,4,6,8,40,41] (fun m e w'=>∃ (t:Nat) (us:List (Option Addr×Nat)),Is e [(1,.int .i64 n),(2,.pointer (some ⟨gl,0,none⟩)),(4,.pointer (some ⟨gr,0,none⟩)),(6,.int .i64 many),(8,.pointer (some ⟨gp,0,none⟩)),(40,.int .i64 many),(41,.int .i64 t)]/\Heap w [] w' (Yf 114 1 (some ⟨gT,0,none⟩) many many (Br us n++Yc (many - t) zS)::Yf 3 1 (some ⟨gP,0,none⟩) gN gN (Ag (Yc gN 0))::Ya gp 120 (Ai (some ⟨gT,0,none⟩) many many (some ⟨gP,0,none⟩) gN gN)::Ya gr 120 (Ai none 0 0 none 0 0)::Ya gl 114 [.slice (some p) nl lc]::Bp us n ((Mb n many).take t))/\us.length=t/\t<=many/\m=many - t) many ?_ ?_
 ·
  refine Qs ?_;exact ⟨0,[],rfl,hH2,rfl,by omega,rfl⟩
 clear hH2;rintro m e w4 ⟨t,us,rfl,hH,hus,ht,rfl⟩;refine VS [1,2,4,6,8,40,41,42] ?_;(repeat with_reducible refine Ax ?_);refine VD (fun h=>?_) (fun h=>?_)
 ·
  have hF:=hH.focus 0 rfl;have c0:=hH.hole_at 0 2 rfl rfl (by omega) (show (Ai (some ⟨gT,0,none⟩) many many (some ⟨gP,0,none⟩) gN gN)[0]? = some _ from rfl);have hAl:(Br us n++Yc (many - t) zS).length=many:=by simp [Sd];omega
  refine Ab ?_
  ((repeat with_reducible refine Ax ?_);(first | refine Ar ?_ | refine VB ?_))
  refine VS [1,2,4,6,8,9,40,41] ?_;refine VH (holes [gT] w4) (Ext.hole _ _) [1,2,4,6,8,9,40,41] [(0,true),(1,true),(2,true),(3,true),(4,false),(5,true),(6,false)] fun K hK=>?_;refine ⟨_,c0,?_⟩;refine Ev Uh E2 ?_;refine Qs ?_;refine ⟨n,n,⟨rfl,rfl,by omega,by omega,by omega⟩,?_⟩;have hF2:=Qmb hF n (by omega);generalize w4.alloc (Yr (Yc n (Uq Uz 0)).toArray 3)=w5 at *;generalize w4.heap.size=gC at *;refine ⟨hF2.upd.extH,?_⟩;refine Qp ?_;refine Af ?_;refine Qs ?_;refine Ej hF2 1 (o:=t) (vs:=[.slice (some ⟨gC,0,none⟩) n n]) rfl (by simp [B0]) rfl (by kernel_rfl) (by simp only [Yp];omega) (by simp [Yg]) fun w6 hF3=>?_;simp only [Yp,Di (Br us n++Yc (many - t) zS) _ _ (show t < (Br us n++Yc (many - t) zS).length by omega),Sy (Br us n) zS _ (show t < many by omega) (by rw [Sd];exact hus),Qdf,Yd,Yh] at hF3;refine ⟨hF3.upd.extH,?_⟩;apply hK;clear hK;have hH3:=hH.call1 0 rfl (hF3.perm (.swap _ _ _));simp only [Yd,Y3] at hH3;clear hH hF hF2 hF3 c0;have hus2:(us++[((some ⟨gC,0,none⟩:Option Addr),n)])[t]? = some (some ⟨gC,0,none⟩,n):=by rw [Xi (by omega),hus,Ug];rfl
  have hcT:(Br (us++[((some ⟨gC,0,none⟩:Option Addr),n)]) n++Yc (many - (t+1)) zS)[t]? = some (.slice (some ⟨gC,0,none⟩) n n):=by
   rw [Yz (by rw [Sd];simp;omega)];exact Wz n hus2
  refine VS [1,2,4,6,8,9,40,41,50,51] ?_;refine Ar ?_;refine Au [1,2,4,6,8,9,40,41,50,51] (fun m e w'=>∃ (i:Nat),Is e [(1,.int .i64 n),(2,.pointer (some ⟨gl,0,none⟩)),(4,.pointer (some ⟨gr,0,none⟩)),(6,.int .i64 many),(8,.pointer (some ⟨gp,0,none⟩)),(9,.int .i64 t),(40,.int .i64 many),(41,.int .i64 t),(50,.int .i64 n),(51,.int .i64 i)]/\Heap w [] w' (Yf 3 1 (some ⟨gC,0,none⟩) n n (Ag ((Y2 i).map (Kx n many t)++Yc (n - i) 0))::Yf 114 1 (some ⟨gT,0,none⟩) many many (Br (us++[((some ⟨gC,0,none⟩:Option Addr),n)]) n++Yc (many - (t+1)) zS)::Yf 3 1 (some ⟨gP,0,none⟩) gN gN (Ag (Yc gN 0))::Ya gp 120 (Ai (some ⟨gT,0,none⟩) many many (some ⟨gP,0,none⟩) gN gN)::Ya gr 120 (Ai none 0 0 none 0 0)::Ya gl 114 [.slice (some p) nl lc]::Bp us n ((Mb n many).take t))/\i<=n/\m=n - i) n ?_ ?_
  ·
   refine Qs ?_;exact ⟨0,rfl,hH3,by omega,rfl⟩
  clear hH3;rintro m e w7 ⟨i,rfl,hH,hi,rfl⟩;refine VS [1,2,4,6,8,9,40,41,50,51,52] ?_;(repeat with_reducible refine Ax ?_);refine VD (fun h=>?_) (fun h=>?_)
  ·
   have hmul:i * many<=258 * 6:=Nat.mul_le_mul (by omega) (by omega);have hsl:((Y2 i).map (Kx n many t)).length=i:=by simp
   have hsn:(Y2 (i+1)).map (Kx n many t)=(Y2 i).map (Kx n many t)++[Kx n many t i]:=by rw [List.range_succ,List.map_append];rfl
   have hs15:=Sy ((Y2 i).map (Kx n many t)) 0 15 (show i < n by omega) hsl
   have hfin:((Y2 i).map (Kx n many t)++Yc (n - i) 0).set i (Kx n many t i)=(Y2 (i+1)).map (Kx n many t)++Yc (n - (i+1)) 0:=by
    rw [Sy _ 0 _ (show i < n by omega) hsl,hsn]
   have hCl:((Y2 i).map (Kx n many t)++Yc (n - i) 0).length=n:=by simp;omega
   generalize (Y2 i).map (Kx n many t)++Yc (n - i) 0=C at *;have c0:w7.cell? ⟨gp,0,none⟩=some (.slice (some ⟨gT,0,none⟩) many many):=Aj (hH.at 3 rfl) rfl;have c1:=Cn (hH.at 1 rfl) hcT;refine Ab ?_
   ((repeat with_reducible refine Ax ?_);(first | refine Ar ?_ | refine VB ?_))
   refine VS [1,2,4,6,8,9,10,40,41,50,51] ?_;refine VQ [1,2,4,6,8,9,10,40,41,50,51] fun K hK=>?_;refine ⟨_,c0,?_⟩;refine Qs ?_;refine ⟨⟨by omega,by omega⟩,_,c1,?_⟩;refine Qs ?_;refine Qp ?_;refine Af ?_;refine Qs ?_;refine Ej hH 0 (o:=(i)) (vs:=[.int .i64 (15:Nat)]) rfl (by first | exact (B0 _ _ _).symm | rfl | simp [B0]) rfl (by kernel_rfl) (by first | omega | (simp;done) | (simp;omega) | (simp [An,Bb];omega) | (rw [Bj];simp;omega)) (by simp [Yg]) fun w6 hH2=>?_;(try refine Qs ?_);simp only [Yp,Di (Ag C) _ _ (show i < (Ag C).length by rw [Bj];omega),Ip,Yd] at hH2;clear hH c0 c1;apply hK;clear hK;refine VQ [1,2,4,6,8,9,10,40,41,50,51,67] fun K hK=>?_;(repeat first | refine Qo ?_ | refine Qp ?_);rw [show ((i:Int) * many / n)=((i * many / n:Nat):Int) by push_cast;rfl];have hdv:i * many / n<=i * many:=Nat.div_le_self _ _;generalize hdq:i * many / n=dq at *;refine ⟨Xp (by omega) (by omega),?_⟩;apply hK;clear hK;refine VD (fun h=>?_) (fun h=>Ab ?_)
   ·
    have hsf:Kx n many t i=1:=by unfold Kx;rw [hdq,if_pos (by omega)]
    rw [hsf] at hfin;have c0:w6.cell? ⟨gp,0,none⟩=some (.slice (some ⟨gT,0,none⟩) many many):=Aj (hH2.at 3 rfl) rfl;have c1:=Cn (hH2.at 1 rfl) hcT;refine VQ [1,2,4,6,8,9,40,41,50,51] fun K hK=>?_;refine ⟨_,c0,?_⟩;refine Qs ?_;refine ⟨⟨by omega,by omega⟩,_,c1,?_⟩;refine Qs ?_;refine Qp ?_;have hCl2:(C.set i 15).length=n:=by rw [List.length_set];exact hCl
    refine Af ?_;refine Qs ?_;refine Ej hH2 0 (o:=(i)) (vs:=[.int .i64 (1:Nat)]) rfl (by first | exact (B0 _ _ _).symm | rfl | simp [B0]) rfl (by kernel_rfl) (by first | omega | (simp;done) | (simp;omega) | (simp [An,Bb];omega) | (rw [Bj];simp;omega)) (by simp [Yg]) fun w6 hH3=>?_;(try refine Qs ?_);simp only [Yp,Di (Ag (C.set i 15)) _ _ (show i < (Ag (C.set i 15)).length by rw [Bj];omega),Ip,Yd,List.set_set,hfin] at hH3;clear hH2 c0 c1;apply hK;clear hK;refine Ao ?_;refine VS [1,2,4,6,8,9,40,41,50,51] ?_;refine Ah ?_;refine Qs ?_;exact ⟨n - (i+1),by omega,i+1,rfl,hH3,by omega,rfl⟩
   have hsf:Kx n many t i=15:=by unfold Kx;rw [hdq,if_neg (by omega)]
   rw [hsf] at hfin;rw [hfin] at hH2;refine Ao ?_;refine VS [1,2,4,6,8,9,40,41,50,51] ?_;refine Ah ?_;refine Qs ?_;exact ⟨n - (i+1),by omega,i+1,rfl,hH2,by omega,rfl⟩
  obtain rfl:i=n:=by omega
  rw [Ug,Ud,Yq] at hH;have hH2:=hH.perm (Xu _ _).symm;simp only [Yl] at hH2;have hrr:=Qco (hs:=us) (L:=(Mb i many).take t) i (by rw [Qn7 _ _ (by omega)];exact hus) (some ⟨gC,0,none⟩) i (Qmi i many t);rw [<- Qn6 _ _ (by omega)] at hrr
  have hH3:Heap w [] w7 (Yf 114 1 (some ⟨gT,0,none⟩) many many (Br (us++[((some ⟨gC,0,none⟩:Option Addr),i)]) i++Yc (many - (t+1)) zS)::Yf 3 1 (some ⟨gP,0,none⟩) gN gN (Ag (Yc gN 0))::Ya gp 120 (Ai (some ⟨gT,0,none⟩) many many (some ⟨gP,0,none⟩) gN gN)::Ya gr 120 (Ai none 0 0 none 0 0)::Ya gl 114 [.slice (some p) nl lc]::Bp (us++[((some ⟨gC,0,none⟩:Option Addr),i)]) i ((Mb i many).take (t+1))):=by
   rw [<- hrr];exact hH2
  clear hH hH2 hrr;refine As rfl ?_;refine Ao ?_;refine VS [1,2,4,6,8,40,41] ?_;refine Ah ?_;refine Qs ?_;exact ⟨many - (t+1),by omega,t+1,_,rfl,hH3,by simp [hus],by omega,rfl⟩
 obtain rfl:t=many:=by omega
 rw [Ug,Ud,Yq,Xg (by rw [Qd4];simp)] at hH;generalize t=many at *;refine As rfl ?_;refine S4 [1,2,4,6,8] ?_;refine Qs ?_;exact out _ _ hH hus
set_option maxHeartbeats 4000000
theorem Qf2 {F:Value->World->Prop}{kk:List It}{list N P:List Nat}{T:List (List Nat)}{us:List (Option Addr×Nat)}{n many gN nl lc gl gr gT gP gp gW r:Nat}{p:Addr}{w w5:World} (h1:3<=n) (h2:n<=258) (t1:2<=many) (t2:many<=6) (hus:us.length=many) (hTl:T.length=many)
  (hH2:Heap w [] w5 (Yf 114 1 (some ⟨gW,0,none⟩) many many (Yc many zS)::Yf 114 1 (some ⟨gT,0,none⟩) many many (Br us n)::Yf 3 1 (some ⟨gP,0,none⟩) gN gN (Ag P)::Ya gp 120 (Ai (some ⟨gT,0,none⟩) many many (some ⟨gP,0,none⟩) gN gN)::Ya gr 120 (Ai none 0 0 none 0 0)::Ya gl 114 [.slice (some p) nl lc]::Bp us n T))
  (out:∀ w' vs,Heap w [] w' (Yf 114 1 (some ⟨gW,0,none⟩) many many (Br vs n)::Yf 114 1 (some ⟨gT,0,none⟩) many many (Br us n)::Yf 3 1 (some ⟨gP,0,none⟩) gN gN (Ag P)::Ya gp 120 (Ai (some ⟨gT,0,none⟩) many many (some ⟨gP,0,none⟩) gN gN)::Ya gr 120 (Ai none 0 0 none 0 0)::Ya gl 114 [.slice (some p) nl lc]::(Bp us n T++Bp vs n (Eg list N many n 0)))->vs.length=many->VC ⟨Yk,Xa,F,158⟩ kk [(1,.int .i64 n),(2,.pointer (some ⟨gl,0,none⟩)),(4,.pointer (some ⟨gr,0,none⟩)),(6,.int .i64 many),(8,.pointer (some ⟨gp,0,none⟩)),(11,Ky gl gp),(12,.slice (some ⟨gW,0,none⟩) many many),(78,.int .i64 r)] w') :
  VC ⟨Yk,Xa,F,158⟩ (.code (Mz [1,1,1,1,1,1,0,1,0,0,1,1,0,0,1,0,1] Xa)::kk) [(1,.int .i64 n),(2,.pointer (some ⟨gl,0,none⟩)),(4,.pointer (some ⟨gr,0,none⟩)),(6,.int .i64 many),(8,.pointer (some ⟨gp,0,none⟩)),(11,Ky gl gp),(12,.slice (some ⟨gW,0,none⟩) many many),(78,.int .i64 r),(83,.int .i64 many),(84,.int .i64 0)] w5:=by
 conv in (Mz _ _)=>whnf
 refine Ar ?_;refine Au [1,2,4,6,8,11,12,78,83,84] (fun m e w'=>∃ (t:Nat) (vs:List (Option Addr×Nat)),Is e [(1,.int .i64 n),(2,.pointer (some ⟨gl,0,none⟩)),(4,.pointer (some ⟨gr,0,none⟩)),(6,.int .i64 many),(8,.pointer (some ⟨gp,0,none⟩)),(11,Ky gl gp),(12,.slice (some ⟨gW,0,none⟩) many many),(78,.int .i64 r),(83,.int .i64 many),(84,.int .i64 t)]/\Heap w [] w' (Yf 114 1 (some ⟨gW,0,none⟩) many many (Br vs n++Yc (many - t) zS)::Yf 114 1 (some ⟨gT,0,none⟩) many many (Br us n)::Yf 3 1 (some ⟨gP,0,none⟩) gN gN (Ag P)::Ya gp 120 (Ai (some ⟨gT,0,none⟩) many many (some ⟨gP,0,none⟩) gN gN)::Ya gr 120 (Ai none 0 0 none 0 0)::Ya gl 114 [.slice (some p) nl lc]::(Bp us n T++Bp vs n (Yc t (Yc n 0))))/\vs.length=t/\t<=many/\m=many - t) many ?_ ?_
 ·
  refine Qs ?_;exact ⟨0,[],rfl,by simpa [Bp,Br] using hH2,rfl,by omega,rfl⟩
 clear hH2;rintro m e w6 ⟨t,vs,rfl,hH,hvs,ht,rfl⟩;refine VS [1,2,4,6,8,11,12,78,83,84,85] ?_;(repeat with_reducible refine Ax ?_);refine VD (fun h=>?_) (fun h=>?_)
 ·
  have hAl:(Br vs n++Yc (many - t) zS).length=many:=by simp [Sd];omega
  refine Ab ?_
  ((repeat with_reducible refine Ax ?_);(first | refine Ar ?_ | refine VB ?_))
  refine VS [1,2,4,6,8,11,12,13,78,83,84] ?_;refine VQ [1,2,4,6,8,11,12,78,83,84] fun K hK=>?_;refine Ev Uh E2 ?_;refine Qs ?_;refine ⟨n,n,⟨rfl,rfl,by omega,by omega,by omega⟩,?_⟩;have hH2:=Qmb hH n (by omega);generalize w6.alloc (Yr (Yc n (Uq Uz 0)).toArray 3)=w7 at *;generalize w6.heap.size=gC at *;refine Qp ?_;refine Af ?_;refine Qs ?_;refine Ej hH2 1 (o:=t) (vs:=[.slice (some ⟨gC,0,none⟩) n n]) rfl (by simp [B0]) rfl (by kernel_rfl) (by simp only [Yp];omega) (by simp [Yg]) fun w8 hH3=>?_;simp only [Yp,Di (Br vs n++Yc (many - t) zS) _ _ (show t < (Br vs n++Yc (many - t) zS).length by omega),Sy (Br vs n) zS _ (show t < many by omega) (by rw [Sd];exact hvs),Qdf,Yd,Yh] at hH3;have hH4:=hH3.perm (Xu _ _).symm;simp only [Yl,Ys] at hH4;rw [Qco n (by simp [hvs]) _ _ _,<- List.replicate_succ'] at hH4;clear hH hH2 hH3;apply hK;clear hK;refine Ao ?_;refine VS [1,2,4,6,8,11,12,78,83,84] ?_;refine Ah ?_;refine Qs ?_;exact ⟨many - (t+1),by omega,t+1,_,rfl,hH4,by simp [hvs],by omega,rfl⟩
 have ht2:t=many:=by omega
 rw [ht2,Ug,Ud,Yq,<- Qsb list N] at hH;rw [ht2] at hvs;clear h ht ht2;refine As rfl ?_;refine S4 [1,2,4,6,8,11,12,78] ?_;refine Qs ?_;exact out _ _ hH hvs
set_option maxHeartbeats 4000000
theorem Qn8 {F:Value->World->Prop}{kk:List It}{n many gN gl gr gp gW r:Nat}{w5:World}{k:Nat}{cf:Nat->Nat} (t1:2<=many) (t2:many<=6)
  (hcost2:∀ t,t < many->Does Yk 141 #[.int .i64 t,.int .i64 k,.pointer (some ⟨gl,0,none⟩),.pointer (some ⟨gp,0,none⟩)] w5 fun v w'=>w'=w5/\v=.int .i64 (cf t:Nat))
  (out:VC ⟨Yk,Xa,F,158⟩ kk [(1,.int .i64 n),(2,.pointer (some ⟨gl,0,none⟩)),(4,.pointer (some ⟨gr,0,none⟩)),(6,.int .i64 many),(8,.pointer (some ⟨gp,0,none⟩)),(11,Ky gl gp),(12,.slice (some ⟨gW,0,none⟩) many many),(14,.int .i64 k),(15,.int .i64 (Mf cf (many - 1):Nat)),(78,.int .i64 r),(95,.int .i64 gN),(96,.int .i64 k)] w5) :
  VC ⟨Yk,Xa,F,158⟩ (.code (Mz [1,1,1,1,1,1,0,1,0,0,1,1,0,0,1,1,0,1,0,0,1,1,0,0,1,1,0,1] Xa)::kk) [(1,.int .i64 n),(2,.pointer (some ⟨gl,0,none⟩)),(4,.pointer (some ⟨gr,0,none⟩)),(6,.int .i64 many),(8,.pointer (some ⟨gp,0,none⟩)),(11,Ky gl gp),(12,.slice (some ⟨gW,0,none⟩) many many),(14,.int .i64 k),(15,.int .i64 (0:Nat)),(16,.int .i64 1),(78,.int .i64 r),(95,.int .i64 gN),(96,.int .i64 k)] w5:=by
 conv in (Mz _ _)=>whnf
 have hble:=fun t=>Zz cf t;refine Ar ?_;refine Au [1,2,4,6,8,11,12,14,15,16,78,95,96] (fun m e w'=>∃ (t:Nat),Is e [(1,.int .i64 n),(2,.pointer (some ⟨gl,0,none⟩)),(4,.pointer (some ⟨gr,0,none⟩)),(6,.int .i64 many),(8,.pointer (some ⟨gp,0,none⟩)),(11,Ky gl gp),(12,.slice (some ⟨gW,0,none⟩) many many),(14,.int .i64 k),(15,.int .i64 (Mf cf (t - 1):Nat)),(16,.int .i64 t),(78,.int .i64 r),(95,.int .i64 gN),(96,.int .i64 k)]/\Is w' w5/\1<=t/\t<=many/\m=many - t) (many - 1) ?_ ?_
 ·
  refine Qs ?_;exact ⟨1,rfl,rfl,by omega,by omega,by omega⟩
 rintro m e w' ⟨t,rfl,rfl,ht1,ht,rfl⟩;refine VS [1,2,4,6,8,11,12,14,15,16,78,95,96,101] ?_;(repeat with_reducible refine Ax ?_);refine VD (fun h=>?_) (fun h=>?_)
 ·
  have hb:=hble (t - 1);refine Ab ?_
  ((repeat with_reducible refine Ax ?_);(first | refine Ar ?_ | refine VB ?_))
  refine VQ [1,2,4,6,8,11,12,14,15,16,78,95,96,112] fun K hK=>?_;refine Cc ?_;refine Qs ?_;refine FnK.mk Tryz.call141 (hcost2 t (by omega)) ?_;rintro v w8 ⟨rfl,rfl⟩;refine Cc ?_;refine Qs ?_;refine FnK.mk Tryz.call141 (hcost2 (Mf cf (t - 1)) (by omega)) ?_;rintro v w9 ⟨rfl,rfl⟩;refine Qs ?_;apply hK;clear hK
  have hbs:Mf cf t=if cf t < cf (Mf cf (t - 1)) then t else Mf cf (t - 1):=by
   obtain ⟨q,rfl⟩:∃ q,t=q+1:=⟨t - 1,by omega⟩;rfl
  refine VD (fun h=>?_) (fun h=>Ab ?_)
  ·
   rw [if_pos (by omega)] at hbs;refine VS [1,2,4,6,8,11,12,14,15,16,78,95,96] ?_;refine Ao ?_;refine VS [1,2,4,6,8,11,12,14,15,16,78,95,96] ?_;refine Ah ?_;refine Qs ?_;exact ⟨many - (t+1),by omega,t+1,by rw [Ui,hbs];rfl,rfl,by omega,by omega,rfl⟩
  rw [if_neg (by omega)] at hbs;refine Ao ?_;refine VS [1,2,4,6,8,11,12,14,15,16,78,95,96] ?_;refine Ah ?_;refine Qs ?_;exact ⟨many - (t+1),by omega,t+1,by rw [Ui,hbs];rfl,rfl,by omega,by omega,rfl⟩
 have ht2:t=many:=by omega
 rw [ht2];clear h ht ht1 ht2 hcost2;refine As rfl ?_;refine S4 [1,2,4,6,8,11,12,14,15,78,95,96] ?_;refine Qs ?_;exact out
set_option maxHeartbeats 4000000
theorem Qln {F:Value->World->Prop}{kk:List It}{list N P:List Nat}{T:List (List Nat)}{us vs:List (Option Addr×Nat)}{n many gN nl lc gl gr gT gP gp gW r:Nat}{p:Addr}{w w5:World}{k b nc:Nat}{ch:List Nat}{pk:Addr} (h1:3<=n) (h2:n<=258) (t1:2<=many) (t2:many<=6) (h4:nl<=1638350) (hnl:list.length=nl) (h5:∀ s∈list,s < n) (hkl:50 * k < nl) (hnc:ch.length=nc) (hcl:nc=min 50 (nl - 50 * k)) (hmm:50 * k+nc=min (50 * (k+1)) nl)
  (hb:N.getD k 0=b) (hbm:b < many) (hus:us.length=many) (hvs:vs.length=many) (hRl:(Bp us n T).length=many) (hcg:∀ j,j < nc->ch.getD j 0=list.getD (50 * k+j) 0) (hgrs:RS w (some pk) nc 1 (Ag ch))
  (hH2:Heap w [] w5 (Yf 114 1 (some ⟨gW,0,none⟩) many many (Br vs n)::Yf 114 1 (some ⟨gT,0,none⟩) many many (Br us n)::Yf 3 1 (some ⟨gP,0,none⟩) gN gN (Ag (N.take (k+1)++P.drop (k+1)))::Ya gp 120 (Ai (some ⟨gT,0,none⟩) many many (some ⟨gP,0,none⟩) gN gN)::Ya gr 120 (Ai none 0 0 none 0 0)::Ya gl 114 [.slice (some p) nl lc]::(Bp us n T++Bp vs n (Eg list N many n (50 * k)))))
  (out:∀ w',Heap w [] w' (Yf 114 1 (some ⟨gW,0,none⟩) many many (Br vs n)::Yf 114 1 (some ⟨gT,0,none⟩) many many (Br us n)::Yf 3 1 (some ⟨gP,0,none⟩) gN gN (Ag (N.take (k+1)++P.drop (k+1)))::Ya gp 120 (Ai (some ⟨gT,0,none⟩) many many (some ⟨gP,0,none⟩) gN gN)::Ya gr 120 (Ai none 0 0 none 0 0)::Ya gl 114 [.slice (some p) nl lc]::(Bp us n T++Bp vs n (Eg list N many n (min (50 * (k+1)) nl))))->VC ⟨Yk,Xa,F,158⟩ kk [(1,.int .i64 n),(2,.pointer (some ⟨gl,0,none⟩)),(4,.pointer (some ⟨gr,0,none⟩)),(6,.int .i64 many),(8,.pointer (some ⟨gp,0,none⟩)),(11,Ky gl gp),(12,.slice (some ⟨gW,0,none⟩) many many),(78,.int .i64 r),(95,.int .i64 gN),(96,.int .i64 k)] w') :
  VC ⟨Yk,Xa,F,158⟩ (.code (Mz [1,1,1,1,1,1,0,1,0,0,1,1,0,0,1,1,0,1,0,0,1,1,0,0,1,1,1,1,1] Xa)::kk) [(1,.int .i64 n),(2,.pointer (some ⟨gl,0,none⟩)),(4,.pointer (some ⟨gr,0,none⟩)),(6,.int .i64 many),(8,.pointer (some ⟨gp,0,none⟩)),(11,Ky gl gp),(12,.slice (some ⟨gW,0,none⟩) many many),(15,.int .i64 b),(78,.int .i64 r),(95,.int .i64 gN),(96,.int .i64 k),(121,.slice (some pk) nc (lc - 50 * k)),(122,.int .i64 nc),(123,.int .i64 0)] w5:=by
 conv in (Mz _ _)=>whnf
 refine Ar ?_;refine Au [1,2,4,6,8,11,12,15,78,95,96,121,122,123] (fun m e w'=>∃ (j:Nat),Is e [(1,.int .i64 n),(2,.pointer (some ⟨gl,0,none⟩)),(4,.pointer (some ⟨gr,0,none⟩)),(6,.int .i64 many),(8,.pointer (some ⟨gp,0,none⟩)),(11,Ky gl gp),(12,.slice (some ⟨gW,0,none⟩) many many),(15,.int .i64 b),(78,.int .i64 r),(95,.int .i64 gN),(96,.int .i64 k),(121,.slice (some pk) nc (lc - 50 * k)),(122,.int .i64 nc),(123,.int .i64 j)]/\Heap w [] w' (Yf 114 1 (some ⟨gW,0,none⟩) many many (Br vs n)::Yf 114 1 (some ⟨gT,0,none⟩) many many (Br us n)::Yf 3 1 (some ⟨gP,0,none⟩) gN gN (Ag (N.take (k+1)++P.drop (k+1)))::Ya gp 120 (Ai (some ⟨gT,0,none⟩) many many (some ⟨gP,0,none⟩) gN gN)::Ya gr 120 (Ai none 0 0 none 0 0)::Ya gl 114 [.slice (some p) nl lc]::(Bp us n T++Bp vs n (Eg list N many n (50 * k+j))))/\j<=nc/\m=nc - j) nc ?_ ?_
 ·
  refine Qs ?_;exact ⟨0,rfl,hH2,by omega,rfl⟩
 clear hH2;rintro m e w9 ⟨j,rfl,hH,hj,rfl⟩;refine VS [1,2,4,6,8,11,12,15,78,95,96,121,122,123,124] ?_;(repeat with_reducible refine Ax ?_);refine VD (fun h=>?_) (fun h=>?_)
 ·
  have hcell:=Ek (hH.rs' hgrs) (i:=j) (by omega);have hcj:=hcg j (by omega);rw [hcj] at hcell;have hx:=h5 _ (Dr 0 (l:=list) (i:=50 * k+j) (by omega));have hcs:=Qsc (P:=N) (many:=many) (n:=n) (b:=b) hx (by rw [show (50 * k+j) / 50=k by omega];exact hb) hbm;have hcu:=Qz1 (list:=list) (P:=N) (n:=n) (m:=50 * k+j) (t:=b) hx;have hcul:=Rf list N n (50 * k+j) b
  have hWb:(Eg list N many n (50 * k+j))[b]? = some (Da list N n (50 * k+j) b):=by
   unfold Eg;rw [Yx,Y1 hbm];rfl
  obtain ⟨⟨av,cv⟩,hvb⟩:∃ hv,vs[b]? = some hv:=⟨_,Yn (by omega)⟩;have hcW:w9.cell? ⟨gW,b,none⟩=some (.slice av n cv):=Cn (hH.at 0 rfl) (Wz n hvb);have hri2:(Yf 114 1 (some ⟨gW,0,none⟩) many many (Br vs n)::Yf 114 1 (some ⟨gT,0,none⟩) many many (Br us n)::Yf 3 1 (some ⟨gP,0,none⟩) gN gN (Ag (N.take (k+1)++P.drop (k+1)))::Ya gp 120 (Ai (some ⟨gT,0,none⟩) many many (some ⟨gP,0,none⟩) gN gN)::Ya gr 120 (Ai none 0 0 none 0 0)::Ya gl 114 [.slice (some p) nl lc]::(Bp us n T++Bp vs n (Eg list N many n (50 * k+j))))[many+b+6]? = some (Yf 3 1 av n cv (Ag (Da list N n (50 * k+j) b))):=Qz2 (many:=many) (W:=Eg list N many n (50 * k+j)) hRl hvb hWb;have hset:∀ l,(Bp us n T++Bp vs n (Eg list N many n (50 * k+j))).set (many+b) (Yf 3 1 av n cv (Ag l))=Bp us n T++Bp vs n ((Eg list N many n (50 * k+j)).set b l):=fun l=>Qwo (many:=many) (W:=Eg list N many n (50 * k+j)) l hRl hvb;obtain ⟨gv,rfl⟩:=Ir (hH.at (many+b+6) hri2) (by omega);generalize list.getD (50 * k+j) 0=x at *;have hcx:=Cn (hH.at (many+b+6) hri2) (F3 (l:=Da list N n (50 * k+j) b) (i:=x) (by omega));generalize hcc:(Da list N n (50 * k+j) b).getD x 0=c at *;refine Ab ?_
  ((repeat with_reducible refine Ax ?_);(first | refine Ar ?_ | refine VB ?_))
  refine VQ [1,2,4,6,8,11,12,15,18,78,95,96,121,122,123] fun K hK=>?_;refine ⟨⟨by omega,by omega⟩,_,hcell,?_⟩;apply hK;clear hK;refine VQ [1,2,4,6,8,11,12,15,78,95,96,121,122,123] fun K hK=>?_;refine ⟨⟨by omega,by omega⟩,_,hcW,?_⟩;refine Qs ?_;refine ⟨⟨by omega,by omega⟩,_,hcx,?_⟩;refine Qs ?_;refine ⟨Xp (by omega) (by omega),⟨by omega,by omega⟩,?_⟩;refine Af ?_;refine Qs ?_;refine Ej hH (many+b+6) (o:=x) (vs:=[.int .i64 (c+1:Nat)]) hri2 (by simp [B0]) rfl (by kernel_rfl) (by simp only [Yp,Bj];omega) (by simp [Yg]) fun w10 hH3=>?_
  have e1:(Ag (Da list N n (50 * k+j) b)).take x++[.int .i64 (c+1:Nat)]++(Ag (Da list N n (50 * k+j) b)).drop (x+1)=Ag ((Da list N n (50 * k+j) b).set x (c+1)):=by
   rw [Di _ _ _ (by rw [Bj];omega),Ip]
  rw [Yp,e1] at hH3
  have hH4:Heap w [] w10 (Yf 114 1 (some ⟨gW,0,none⟩) many many (Br vs n)::Yf 114 1 (some ⟨gT,0,none⟩) many many (Br us n)::Yf 3 1 (some ⟨gP,0,none⟩) gN gN (Ag (N.take (k+1)++P.drop (k+1)))::Ya gp 120 (Ai (some ⟨gT,0,none⟩) many many (some ⟨gP,0,none⟩) gN gN)::Ya gr 120 (Ai none 0 0 none 0 0)::Ya gl 114 [.slice (some p) nl lc]::(Bp us n T++Bp vs n (Eg list N many n (50 * k+j+1)))):=by
   rw [hcs,<- hset];exact hH3
  clear hH3;clear hH hcW hcx hcell;apply hK;clear hK;refine Ao ?_;refine VS [1,2,4,6,8,11,12,15,78,95,96,121,122,123] ?_;refine Ah ?_;refine Qs ?_;exact ⟨nc - (j+1),by omega,j+1,rfl,hH4,by omega,rfl⟩
 have hj2:j=nc:=by omega
 rw [hj2,hmm] at hH;refine As rfl ?_;refine S4 [1,2,4,6,8,11,12,78,95,96] ?_;refine Qs ?_;exact out _ hH
set_option maxHeartbeats 4000000
theorem Qlo {F:Value->World->Prop}{kk:List It}{list N P:List Nat}{T:List (List Nat)}{us vs:List (Option Addr×Nat)}{n many gN nl lc gl gr gT gP gp gW r:Nat}{p:Addr}{w w5:World} (h1:3<=n) (h2:n<=258) (t1:2<=many) (t2:many<=6) (h3:1<=nl) (h4:nl<=1638350) (hnl:list.length=nl) (h5:∀ s∈list,s < n) (hps:p.spot=none) (hlc:nl<=lc) (hr:RS w (some p) nl 1 (Ag list)) (hgN:Ds nl=gN)
  (hNk:∀ k,k < gN->N.getD k 0=Mf (fun t=>Me (T.getD t []) (D5 list k)) (many - 1)) (hNl:N.length=gN) (hPl:P.length=gN) (hTg:∀ t,t < many->T[t]? = some (T.getD t [])/\(T.getD t []).length=n/\∀ x∈T.getD t [],x<=20) (hus:us.length=many) (hvs:vs.length=many) (hRl:(Bp us n T).length=many)
  (hH:Heap w [] w5 (Yf 114 1 (some ⟨gW,0,none⟩) many many (Br vs n)::Yf 114 1 (some ⟨gT,0,none⟩) many many (Br us n)::Yf 3 1 (some ⟨gP,0,none⟩) gN gN (Ag P)::Ya gp 120 (Ai (some ⟨gT,0,none⟩) many many (some ⟨gP,0,none⟩) gN gN)::Ya gr 120 (Ai none 0 0 none 0 0)::Ya gl 114 [.slice (some p) nl lc]::(Bp us n T++Bp vs n (Eg list N many n 0))))
  (out:∀ w',Heap w [] w' (Yf 114 1 (some ⟨gW,0,none⟩) many many (Br vs n)::Yf 114 1 (some ⟨gT,0,none⟩) many many (Br us n)::Yf 3 1 (some ⟨gP,0,none⟩) gN gN (Ag N)::Ya gp 120 (Ai (some ⟨gT,0,none⟩) many many (some ⟨gP,0,none⟩) gN gN)::Ya gr 120 (Ai none 0 0 none 0 0)::Ya gl 114 [.slice (some p) nl lc]::(Bp us n T++Bp vs n (Eg list N many n nl)))->VC ⟨Yk,Xa,F,158⟩ kk [(1,.int .i64 n),(2,.pointer (some ⟨gl,0,none⟩)),(4,.pointer (some ⟨gr,0,none⟩)),(6,.int .i64 many),(8,.pointer (some ⟨gp,0,none⟩)),(11,Ky gl gp),(12,.slice (some ⟨gW,0,none⟩) many many),(78,.int .i64 r)] w') :
  VC ⟨Yk,Xa,F,158⟩ (.code (Mz [1,1,1,1,1,1,0,1,0,0,1,1,0,0,1,1,0,1] Xa)::kk) [(1,.int .i64 n),(2,.pointer (some ⟨gl,0,none⟩)),(4,.pointer (some ⟨gr,0,none⟩)),(6,.int .i64 many),(8,.pointer (some ⟨gp,0,none⟩)),(11,Ky gl gp),(12,.slice (some ⟨gW,0,none⟩) many many),(78,.int .i64 r),(95,.int .i64 gN),(96,.int .i64 0)] w5:=by
 conv in (Mz _ _)=>whnf
 obtain ⟨g1,g2,g3⟩:1<=gN/\gN<=32767/\nl<=50 * gN:=by rw [<- hgN];exact Tv h3 h4
 refine Ar ?_;refine Au [1,2,4,6,8,11,12,78,95,96] (fun m e w'=>∃ (k:Nat),Is e [(1,.int .i64 n),(2,.pointer (some ⟨gl,0,none⟩)),(4,.pointer (some ⟨gr,0,none⟩)),(6,.int .i64 many),(8,.pointer (some ⟨gp,0,none⟩)),(11,Ky gl gp),(12,.slice (some ⟨gW,0,none⟩) many many),(78,.int .i64 r),(95,.int .i64 gN),(96,.int .i64 k)]/\Heap w [] w' (Yf 114 1 (some ⟨gW,0,none⟩) many many (Br vs n)::Yf 114 1 (some ⟨gT,0,none⟩) many many (Br us n)::Yf 3 1 (some ⟨gP,0,none⟩) gN gN (Ag (N.take k++P.drop k))::Ya gp 120 (Ai (some ⟨gT,0,none⟩) many many (some ⟨gP,0,none⟩) gN gN)::Ya gr 120 (Ai none 0 0 none 0 0)::Ya gl 114 [.slice (some p) nl lc]::(Bp us n T++Bp vs n (Eg list N many n (min (50 * k) nl))))/\k<=gN/\m=gN - k) gN ?_ ?_
 ·
  refine Qs ?_;exact ⟨0,rfl,by simpa using hH,by omega,rfl⟩
 clear hH;rintro m e w7 ⟨k,rfl,hH,hk,rfl⟩;refine VS [1,2,4,6,8,11,12,78,95,96,97] ?_;(repeat with_reducible refine Ax ?_);refine VD (fun h=>?_) (fun h=>?_)
 ·
  have hkl:50 * k < nl:=by unfold Ds at hgN;omega
  rw [Nat.min_eq_left (by omega)] at hH;have hbest:=hNk k (by omega);have c1:w7.cell? ⟨gl,0,none⟩=some (.slice (some p) nl lc):=Aj (hH.at 5 rfl) rfl;have c2:w7.cell? ⟨gp,0,none⟩=some (.slice (some ⟨gT,0,none⟩) many many):=Aj (hH.at 3 rfl) rfl
  have hcost:∀ t,t < many->Does Yk 141 #[.int .i64 t,.int .i64 k,.pointer (some ⟨gl,0,none⟩),.pointer (some ⟨gp,0,none⟩)] w7 fun v w'=>w'=w7/\v=.int .i64 (Me (T.getD t []) (D5 list k):Nat):=fun t ht=>by
   obtain ⟨g1,g2,g3⟩:=hTg t ht;have hut:=getD_some (none,0) (show t < us.length by omega);have hr2:=hH.rs' hr;have hrow:=Az (hH.at (t+6) (show _=some (Yf 3 1 (us.getD t (none,0)).1 n (us.getD t (none,0)).2 (Ag (T.getD t []))) from Qt4 hut g1));rw [<- hnl] at hr2 c1 hkl h4;exact Qwn list (T.getD t []) n k t (by omega) (by omega) h5 g2 (fun x hx=>by have:=g3 x hx;omega) p hps lc (by omega) gl gp gT many many ht t2 _ _ w7 c1 c2 (Cn (hH.at 1 rfl) (Wz n hut)) hr2 hrow
  refine Ab ?_
  ((repeat with_reducible refine Ax ?_);(first | refine Ar ?_ | refine VB ?_))
  refine VS [1,2,4,6,8,11,12,14,78,95,96] ?_;refine VS [1,2,4,6,8,11,12,14,15,78,95,96] ?_;refine Ax ?_;refine Ax ?_;refine Qi1 [1,2,4,6,8,11,12,14,15,16,78,95,96] rfl fun K hK=>?_;refine Qs ?_;apply hK;clear hK;generalize hcf:(fun t=>Me (T.getD t []) (D5 list k))=cf at *;have hcost2:∀ t,t < many->Does Yk 141 #[.int .i64 t,.int .i64 k,.pointer (some ⟨gl,0,none⟩),.pointer (some ⟨gp,0,none⟩)] w7 fun v w'=>w'=w7/\v=.int .i64 (cf t:Nat):=fun t ht=>by rw [<- hcf];exact hcost t ht
  clear hcost;refine Qn8 t1 t2 hcost2 ?_;rw [<- hbest];have hbm:N.getD k 0 < many:=by rw [hbest];exact Nat.lt_of_le_of_lt (Zz _ _) (by omega)
  have hNk2:N.take (k+1)=N.take k++[N.getD k 0]:=Mq 0 (by omega);have hPs:=Qbz (A:=N.take k) (B:=P) (k:=k) (N.getD k 0) (by rw [Yv];omega) (by omega);rw [<- hNk2] at hPs;have hPl2:(N.take k++P.drop k).length=gN:=by simp;omega
  have hgr:=Qg5 list k (by omega) (by omega) p lc (by omega);have hgrs:=Qpk (l:=list) (p:=p) (k:=k) (w:=w) (by rw [hnl];exact hr) hps (by omega);have hcl:(D5 list k).length=min 50 (nl - 50 * k):=by simp [D5,hnl]
  have hcg:∀ j,j < (D5 list k).length->(D5 list k).getD j 0=list.getD (50 * k+j) 0:=fun j hj=>by
   unfold D5 at hj ⊢;rw [Ym,List.getElem?_take_of_lt (by rw [Yv] at hj;omega),Uj,<- Ym]
  have hmm:50 * k+(D5 list k).length=min (50 * (k+1)) nl:=by omega
  generalize hch:D5 list k=ch at *;generalize hnc:ch.length=nc at *;rw [hnl] at hgr;generalize hb:N.getD k 0=b at *;refine VQ [1,2,4,6,8,11,12,14,15,78,95,96] fun K hK=>?_;refine ⟨_,Aj (hH.at 3 rfl) (show (Ai (some ⟨gT,0,none⟩) many many (some ⟨gP,0,none⟩) gN gN)[1]? = some _ from rfl),?_⟩;refine Qs ?_;refine Qp ?_;refine Af ?_;refine Qs ?_;refine Ej hH 2 (o:=(k)) (vs:=[.int .i64 (b:Nat)]) rfl (by first | exact (B0 _ _ _).symm | rfl | simp [B0]) rfl (by kernel_rfl) (by first | omega | (simp;done) | (simp;omega) | (simp [An,Bb];omega) | (rw [Bj];simp;omega)) (by simp [Yg]) fun w6 hH2=>?_;(try refine Qs ?_);simp only [Yp,Di (Ag (N.take k++P.drop k)) _ _ (show k < (Ag (N.take k++P.drop k)).length by rw [Bj];omega),Ip,Yd,Yh,hPs] at hH2;clear hH c1 c2;apply hK;clear hK;refine VQ [1,2,4,6,8,11,12,15,78,95,96,121,122,123] fun K hK=>?_;refine ⟨_,Aj (hH2.at 5 rfl) rfl,?_⟩;refine Ac Tryz.call142 ?_;refine Qs ?_;refine Yi (hgr w6) ?_;rintro v w8 ⟨rfl,rfl⟩;refine Qs ?_;apply hK;clear hK;generalize hpk:p.add (50 * k)=pk at *;refine Qln (us:=us) (vs:=vs) (T:=T) (P:=P) h1 h2 t1 t2 h4 hnl h5 hkl hnc hcl hmm hb hbm hus hvs hRl hcg hgrs hH2 fun w9 hH=>?_;refine Ao ?_;refine VS [1,2,4,6,8,11,12,78,95,96] ?_;refine Ah ?_;refine Qs ?_;exact ⟨gN - (k+1),by omega,k+1,rfl,hH,by omega,rfl⟩
 have hk2:k=gN:=by omega
 rw [hk2,Xg (by omega),Ut (by omega),Yq,Nat.min_eq_right (by omega)] at hH;clear h hk hk2;refine As rfl ?_;refine S4 [1,2,4,6,8,11,12,78] ?_;refine Qs ?_;exact out _ hH
set_option maxHeartbeats 4000000
theorem Qn9 {F:Value->World->Prop}{kk:List It}{list N:List Nat}{us vs:List (Option Addr×Nat)}{n many gN nl lc gl gr gT gP gp gW r:Nat}{p:Addr}{w w5:World}{X':List (List Nat)×List Nat} (h1:3<=n) (h2:n<=258) (t1:2<=many) (t2:many<=6) (h3:1<=nl) (h4:nl<=1638350) (hnl:list.length=nl) (hTx':∀ t∈X'.1,t.length=n/\∀ x∈t,x<=20) (hTl':X'.1.length=many) (hX2:X'.2=N) (hus:us.length=many) (hvl:vs.length=many)
  (hWl:(Eg list N many n nl).length=many) (hnew:∀ t,t < many->X'.1[t]? = some (I0 (Da list N n nl t) 17))
  (hH2:Heap w [] w5 (Yf 114 1 (some ⟨gW,0,none⟩) many many (Br vs n)::Yf 114 1 (some ⟨gT,0,none⟩) many many (Br us n)::Yf 3 1 (some ⟨gP,0,none⟩) gN gN (Ag N)::Ya gp 120 (Ai (some ⟨gT,0,none⟩) many many (some ⟨gP,0,none⟩) gN gN)::Ya gr 120 (Ai none 0 0 none 0 0)::Ya gl 114 [.slice (some p) nl lc]::Bp vs n (Eg list N many n nl)))
  (out:∀ w' us,Heap w [] w' (Yf 114 1 (some ⟨gT,0,none⟩) many many (Br us n)::Yf 3 1 (some ⟨gP,0,none⟩) gN gN (Ag X'.2)::Ya gp 120 (Ai (some ⟨gT,0,none⟩) many many (some ⟨gP,0,none⟩) gN gN)::Ya gr 120 (Ai none 0 0 none 0 0)::Ya gl 114 [.slice (some p) nl lc]::Bp us n X'.1)->us.length=many->VC ⟨Yk,Xa,F,158⟩ kk [(1,.int .i64 n),(2,.pointer (some ⟨gl,0,none⟩)),(4,.pointer (some ⟨gr,0,none⟩)),(6,.int .i64 many),(8,.pointer (some ⟨gp,0,none⟩)),(11,Ky gl gp),(12,.slice (some ⟨gW,0,none⟩) many many),(78,.int .i64 r)] w') :
  VC ⟨Yk,Xa,F,158⟩ (.code (Mz [1,1,1,1,1,1,0,1,0,0,1,1,0,0,1,1,1,1] Xa)::kk) [(1,.int .i64 n),(2,.pointer (some ⟨gl,0,none⟩)),(4,.pointer (some ⟨gr,0,none⟩)),(6,.int .i64 many),(8,.pointer (some ⟨gp,0,none⟩)),(11,Ky gl gp),(12,.slice (some ⟨gW,0,none⟩) many many),(78,.int .i64 r),(139,.int .i64 many),(140,.int .i64 0)] w5:=by
 conv in (Mz _ _)=>whnf
 refine Ar ?_;refine Au [1,2,4,6,8,11,12,78,139,140] (fun m e w'=>∃ (t:Nat) (u2:List (Option Addr×Nat)),Is e [(1,.int .i64 n),(2,.pointer (some ⟨gl,0,none⟩)),(4,.pointer (some ⟨gr,0,none⟩)),(6,.int .i64 many),(8,.pointer (some ⟨gp,0,none⟩)),(11,Ky gl gp),(12,.slice (some ⟨gW,0,none⟩) many many),(78,.int .i64 r),(139,.int .i64 many),(140,.int .i64 t)]/\Heap w [] w' (Yf 114 1 (some ⟨gW,0,none⟩) many many (Br vs n)::Yf 114 1 (some ⟨gT,0,none⟩) many many (Br (u2++us.drop t) n)::Yf 3 1 (some ⟨gP,0,none⟩) gN gN (Ag N)::Ya gp 120 (Ai (some ⟨gT,0,none⟩) many many (some ⟨gP,0,none⟩) gN gN)::Ya gr 120 (Ai none 0 0 none 0 0)::Ya gl 114 [.slice (some p) nl lc]::(Bp vs n (Eg list N many n nl)++Bp u2 n (X'.1.take t)))/\u2.length=t/\t<=many/\m=many - t) many ?_ ?_
 ·
  refine Qs ?_;exact ⟨0,[],rfl,by simpa [Bp] using hH2,rfl,by omega,rfl⟩
 clear hH2;rintro m e w8 ⟨t,u2,rfl,hH,hu2,ht,rfl⟩;refine VS [1,2,4,6,8,11,12,78,139,140,141] ?_;(repeat with_reducible refine Ax ?_);refine VD (fun h=>?_) (fun h=>?_)
 ·
  obtain ⟨⟨av,cv⟩,hvt⟩:∃ hv,vs[t]? = some hv:=⟨_,Yn (by omega)⟩
  have hWt:(Eg list N many n nl)[t]? = some (Da list N n nl t):=by
   unfold Eg;rw [Yx,Y1 (show t < many by omega)];rfl
  have hrw:=Az (hH.at (t+6) (show _=some (Yf 3 1 av n cv (Ag (Da list N n nl t))) from Qt4 hvt hWt));have hcl:=Rf list N n nl t;have hmk:=Qv8 (Da list N n nl t) 17 (by omega) (by omega) (fun x hx=>by have:=Qt3 x hx;omega) (by omega) (by omega) av cv w8;rw [hcl] at hmk;have hnt:=hnew t (by omega);have hln:=(hTx' _ (Xe hnt)).1;have htk:X'.1.take (t+1)=X'.1.take t++[I0 (Da list N n nl t) 17]:=by rw [Un,hnt];rfl
  generalize I0 (Da list N n nl t) 17=L at *;rw [hln] at hmk;have hF:=hH.focus 1 rfl;have c0:=hH.hole_at 1 3 rfl rfl (by omega) (show (Ai (some ⟨gT,0,none⟩) many many (some ⟨gP,0,none⟩) gN gN)[0]? = some _ from rfl);have cW:=Heap.hole_row hH 1 0 rfl rfl (by omega) (Wz n hvt);have hAl:(Br (u2++us.drop t) n).length=many:=by rw [Sd];simp;omega
  refine Ab ?_
  ((repeat with_reducible refine Ax ?_);(first | refine Ar ?_ | refine VB ?_))
  refine VS [1,2,4,6,8,11,12,19,78,139,140] ?_;refine VH (holes [gT] w8) (Ext.hole _ _) [1,2,4,6,8,11,12,78,139,140] [(0,true),(1,true),(2,true),(3,true),(4,true),(5,true),(6,true),(7,false),(8,true),(9,true),(10,true),(11,true),(12,false)] fun K hK=>?_;refine ⟨_,c0,?_⟩;refine ⟨⟨by omega,by omega⟩,_,cW,?_⟩;refine Qs ?_;refine Ac Tryz.call143 ?_;refine Qs ?_;refine Yi (hmk hrw) ?_;rintro v w9 ⟨aL,cL,hHL,rfl⟩;have hF2:=hF.call0 hHL;simp only [Y3] at hF2;refine ⟨hF2.upd.extH,?_⟩;refine Qp ?_;refine Af ?_;refine Qs ?_;refine Ej hF2 1 (o:=t) (vs:=[.slice aL n cL]) rfl (by simp [B0]) rfl (by kernel_rfl) (by simp only [Yp];omega) (by simp [Yg]) fun w10 hF3=>?_
  have e1:(Br (u2++us.drop t) n).take t++[.slice aL n cL]++(Br (u2++us.drop t) n).drop (t+1)=Br ((u2++[(aL,cL)])++us.drop (t+1)) n:=by
   rw [Di _ _ _ (by omega),Qn5,Qbz _ hu2 (by omega)]
  rw [Yp,e1] at hF3;simp only [Yd,Yh] at hF3;refine ⟨hF3.upd.extH,?_⟩;apply hK;clear hK;have hH3:=hH.call1 1 rfl (hF3.perm (.swap _ _ _));simp only [Yd,Yh,Y3] at hH3;have hH4:=hH3.perm (Xu _ _).symm;simp only [Yl,Ys] at hH4;rw [Qco n (by rw [Yv];omega) _ _ _,<- htk] at hH4;clear hH hF hF2 hF3 hH3 c0 cW hHL;refine Ao ?_;refine VS [1,2,4,6,8,11,12,78,139,140] ?_;refine Ah ?_;refine Qs ?_;have e2:u2++(aL,cL)::([]++us.drop (t+1))=(u2++[(aL,cL)])++us.drop (t+1):=by simp
  rw [e2] at hH4;exact ⟨many - (t+1),by omega,t+1,u2++[(aL,cL)],rfl,hH4,by simp [hu2],by omega,rfl⟩
 have ht2:t=many:=by omega
 rw [ht2,Ut (by omega),Yq,Xg (by omega),<- hX2] at hH;rw [ht2] at hu2;have hH2:=hH.sub (.cons _ (.cons_cons _ (.cons_cons _ (.cons_cons _ (.cons_cons _ (.cons_cons _ (Xx _ _)))))));clear hH;refine As rfl ?_;refine S4 [1,2,4,6,8,11,12,78] ?_;refine Qs ?_;exact out _ _ hH2 hu2
set_option maxHeartbeats 4000000
theorem Qoa (list:List Nat) (n:Nat) (hm:Nf list n) (p:Addr) (hps:p.spot=none) (lc:Nat) (hlc:list.length<=lc) (w:World) (hr:RS w (some p) list.length 1 (Ag list)) :
  Does Yk 101 #[.slice (some p) list.length lc,.int .i64 n] w fun x w'=>∃ v G,Heap w [] w' G/\QAx G v (Ku list n).1 (Ku list n).2/\x=.tuple #[v,.int .i64 0]:=by
 have hml:=Qc9 list n hm (some p) lc;have hround:=Qz3 hm (Kt list.length);have hchS:Ku list n=Ed list n (Kt list.length) 4:=rfl;rw [hchS];have hm0:=hm;obtain ⟨h1,h2,h3,h4,h5⟩:=hm;have hg1:=(Tv h3 h4);obtain ⟨t1,t2⟩:=Qgt list.length;have htd:=fun w=>Qn1 list.length h3 (by omega) w;have hgd:=fun w=>Qal list.length (by omega) w;generalize hmany:Kt list.length=many at *;generalize hgN:Ds list.length=gN at *;refine En [.slice (some p) list.length lc,.int .i64 n] 158 Tryz.func101 ?_;generalize hnl:list.length=nl at *;refine VQ [1,2,4] fun K hK=>?_;refine Eb ?_;refine Qs ?_;have hH:=(Xj w).box 114 [.slice (some p) nl lc];generalize w.alloc (Yr [Y9 (some p) nl lc].toArray 114)=w1 at *;generalize w.heap.size=gl at *;refine A6 (.agg #[.slice none 0 0,.slice none 0 0]) (by kernel_rfl) ?_;refine Qs ?_;have hH1:=hH.box 120 (Ai none 0 0 none 0 0);have hpl:[Y9 none 0 0,Y9 none 0 0]=Ai none 0 0 none 0 0:=rfl;rw [hpl];generalize w1.alloc (Yr (Ai none 0 0 none 0 0).toArray 120)=w2 at *;generalize w1.heap.size=gr at *;clear hH;apply hK;clear hK;refine VQ [1,2,4,23] fun K hK=>?_;refine ⟨_,Aj (hH1.at 1 rfl) rfl,?_⟩;refine Ac Tryz.call139 ?_;refine Qs ?_;refine Yi (hml w2 (hH1.rs' hr)) ?_;rintro v w3 ⟨rfl,rfl⟩;refine Qs ?_;apply hK;clear hK;refine Ae rfl rfl (fun h=>by simp at h) (fun h=>Ab ?_);clear h;refine VQ [1,2,4,6] fun K hK=>?_;refine ⟨_,Aj (hH1.at 1 rfl) rfl,?_⟩;refine Qs ?_;refine Ac Tryz.call140 ?_;refine Qs ?_;refine Yi (htd w3) ?_;rintro v w4 ⟨rfl,rfl⟩;apply hK;clear hK;generalize w4=w2 at *;clear hml htd;refine V3 w2 (Ext.refl _) [1,2,4,6,8] (.three [(0,true),(2,true),(3,true)] 1 4 7 (.two [] 4 7 (.two [] 5 7 (.seq [(6,true),(7,false),(8,false)]) (.seq [(5,false),(6,true),(8,false)])) (.seq [(4,false),(5,false),(6,true),(8,false)])) (.three [] 1 5 7 (.two [] 5 7 (.seq [(6,true),(7,false),(8,false)]) (.seq [(5,false),(6,true),(8,false)])) (.two [] 1 7 (.seq [(6,true),(7,false),(8,false)]) (.seq [(1,false),(6,true),(8,false)])) (.two [] 1 5 (.seq [(5,false),(6,true),(8,false)]) (.seq [(1,false),(6,true),(8,false)]))) (.two [] 1 4 (.seq [(4,false),(5,false),(6,true),(8,false)]) (.two [] 1 5 (.seq [(5,false),(6,true),(8,false)]) (.seq [(1,false),(6,true),(8,false)])))) fun K hK=>?_
 suffices out:∀ gT gP gp w3,Heap w2 [] w3 [Yf 114 1 (some ⟨gT,0,none⟩) many many (Yc many zS),Yf 3 1 (some ⟨gP,0,none⟩) gN gN (Ag (Yc gN 0)),Ya gp 120 (Ai (some ⟨gT,0,none⟩) many many (some ⟨gP,0,none⟩) gN gN)]->K [(1,.int .i64 n),(2,.pointer (some ⟨gl,0,none⟩)),(4,.pointer (some ⟨gr,0,none⟩)),(6,.int .i64 many),(8,.pointer (some ⟨gp,0,none⟩))] w3 by
  simp only [Nq,Bd,List.filterMap_cons,List.filterMap_nil,List.getElem?_cons_succ,List.getElem?_cons_zero,Option.map_some];refine Qs ?_;refine ⟨_,Aj (hH1.at 1 rfl) rfl,?_⟩;refine Qs ?_;have hX:=Xj w2
  repeat' (first
   | (refine Ac Tryz.call108 ?_;refine Qs ?_;refine Yi (hgd _) ?_;rintro v w9 ⟨rfl,rfl⟩;skip;refine ⟨hX.ext,?_⟩;skip)
   | (refine Ev Ga QAu ?_;refine Qs ?_;refine ⟨many,many,⟨rfl,rfl,by omega,by omega,by omega⟩,?_⟩;have hX:=Qj3 hX many (by omega);skip;refine ⟨hX.ext,?_⟩;skip)
   | (refine Ev Uh E2 ?_;refine Qs ?_;refine ⟨gN,gN,⟨rfl,rfl,by omega,by omega,by omega⟩,?_⟩;have hX:=Qmb hX gN (by omega);skip;refine ⟨hX.ext,?_⟩;skip)
   | (refine A6 (.agg #[.slice none 0 0,.slice none 0 0]) (by kernel_rfl) ?_;refine Qs ?_;have hX:=hX.box 120 (Ai none 0 0 none 0 0);skip;refine ⟨hX.ext,?_⟩;skip)
   | (refine Af ?_;refine Qs ?_;first
     | (refine Al hX 0 (vs:=Ai _ many many _ gN gN) rfl rfl (by kernel_rfl) (by simp [Ai]) (F4 _ _ _ _ _ _) fun w6 hX=>?_;simp only [Yd,Yh] at hX;skip;refine ⟨hX.ext,?_⟩;skip)
     | (refine Al hX 1 (vs:=Ai _ many many _ gN gN) rfl rfl (by kernel_rfl) (by simp [Ai]) (F4 _ _ _ _ _ _) fun w6 hX=>?_;simp only [Yd,Yh] at hX;skip;refine ⟨hX.ext,?_⟩;skip)
     | (refine Al hX 2 (vs:=Ai _ many many _ gN gN) rfl rfl (by kernel_rfl) (by simp [Ai]) (F4 _ _ _ _ _ _) fun w6 hX=>?_;simp only [Yd,Yh] at hX;skip;refine ⟨hX.ext,?_⟩;skip))
   | (simp only [vcH_nil];(try refine Qs ?_))
   | refine And.intro ?_ ?_)
  all_goals first
   | exact out _ _ _ _ hX
   | exact out _ _ _ _ (hX.front 1 rfl)
   | exact out _ _ _ _ (hX.front 2 rfl)
   | exact out _ _ _ _ ((hX.front 1 rfl).front 2 rfl)
   | exact out _ _ _ _ ((hX.front 2 rfl).front 2 rfl)
   | exact out _ _ _ _ ((hX.front 2 rfl).front 1 rfl)
 intro gT gP gp w3 hX;have hH2:=hH1.call0 hX;simp only [Yl,Ye] at hH2;clear hX hH1;apply hK;clear hK;refine VQ [1,2,4,6,8,40,41] fun K hK=>?_;refine ⟨_,Aj (hH2.at 2 rfl) (show (Ai (some ⟨gT,0,none⟩) many many (some ⟨gP,0,none⟩) gN gN)[0]? = some _ from rfl),?_⟩;refine Qs ?_;apply hK;clear hK;refine Qlm h1 h2 t1 t2 hH2 fun w4 us hH hus=>?_;refine VS [1,2,4,6,8,11] ?_;refine VS [1,2,4,6,8,11,78] ?_;refine Ar ?_;refine Au [1,2,4,6,8,11,78] (fun m e w'=>∃ (r:Nat) (us:List (Option Addr×Nat)),Is e [(1,.int .i64 n),(2,.pointer (some ⟨gl,0,none⟩)),(4,.pointer (some ⟨gr,0,none⟩)),(6,.int .i64 many),(8,.pointer (some ⟨gp,0,none⟩)),(11,Ky gl gp),(78,.int .i64 r)]/\Heap w [] w' (Yf 114 1 (some ⟨gT,0,none⟩) many many (Br us n)::Yf 3 1 (some ⟨gP,0,none⟩) gN gN (Ag (Ed list n many r).2)::Ya gp 120 (Ai (some ⟨gT,0,none⟩) many many (some ⟨gP,0,none⟩) gN gN)::Ya gr 120 (Ai none 0 0 none 0 0)::Ya gl 114 [.slice (some p) nl lc]::Bp us n (Ed list n many r).1)/\us.length=many/\r<=4/\m=4 - r) 4 ?_ ?_
 ·
  refine Qs ?_;have e0:Ed list n many 0=(Mb n many,Yc gN 0):=by rw [Ed,hnl,hgN]
  exact ⟨0,us,rfl,by rw [e0];exact hH,hus,by omega,rfl⟩
 clear hH hus us w4;rintro m e w4 ⟨r,us,rfl,hH,hus,hr4,rfl⟩;refine VS [1,2,4,6,8,11,78,79] ?_;(repeat with_reducible refine Ax ?_);refine VD (fun h=>?_) (fun h=>?_)
 ·
  obtain ⟨hTl,hTx,hPl⟩:=hround r;obtain ⟨hTl',hTx',hPl'⟩:=hround (r+1)
  have hstep:Ed list n many (r+1)=((Y2 many).map fun t=>I0 (Da list (F5 list many (Ed list n many r).1) n nl t) 17,F5 list many (Ed list n many r).1):=by
   rw [Ed];unfold Lq;simp only [Qsd,hnl]
  generalize hXX:Ed list n many (r+1)=X' at *;generalize (Ed list n many r).2=P at *;generalize (Ed list n many r).1=T at *
  have hNk:∀ k,k < gN->(F5 list many T).getD k 0=Mf (fun t=>Me (T.getD t []) (D5 list k)) (many - 1):=fun k hk=>by
   unfold F5;rw [T8 _ _ _ _ (by rw [hnl,hgN];exact hk)]
  have hNl:(F5 list many T).length=gN:=by unfold F5;simp [hnl,hgN]
  have hX1:X'.1=(Y2 many).map fun t=>I0 (Da list (F5 list many T) n nl t) 17:=by rw [hstep]
  have hX2:X'.2=F5 list many T:=by rw [hstep]
  generalize F5 list many T=N at *
  have hTg:∀ t,t < many->T[t]? = some (T.getD t [])/\(T.getD t []).length=n/\∀ x∈T.getD t [],x<=20:=fun t ht=>by
   have h:=getD_some [] (show t < T.length by omega);exact ⟨h,hTx _ (Xe h)⟩
  have hRl:(Bp us n T).length=many:=by rw [Qwl (by omega),hTl]
  refine Ab ?_
  ((repeat with_reducible refine Ax ?_);(first | refine Ar ?_ | refine VB ?_))
  refine VQ [1,2,4,6,8,11,12,78] fun K hK=>?_;refine Ev Ga QAu ?_;refine Qs ?_;refine ⟨many,many,⟨rfl,rfl,by omega,by omega,by omega⟩,?_⟩;have hH2:=Qj3 hH many (by omega);generalize w4.alloc (Yr (Yc many (Y9 none 0 0)).toArray 114)=w5 at *;generalize w4.heap.size=gW at *;clear hH;apply hK;clear hK;refine VS [1,2,4,6,8,11,12,78,83,84] ?_;refine Qf2 (list:=list) (N:=N) h1 h2 t1 t2 hus hTl hH2 fun w6 vs hH hvs=>?_;refine VQ [1,2,4,6,8,11,12,78,95,96] fun K hK=>?_;refine ⟨_,Aj (hH.at 3 rfl) (show (Ai (some ⟨gT,0,none⟩) many many (some ⟨gP,0,none⟩) gN gN)[1]? = some _ from rfl),?_⟩;refine Qs ?_;apply hK;clear hK;refine Qlo (list:=list) (N:=N) (P:=P) (T:=T) (us:=us) (vs:=vs) h1 h2 t1 t2 h3 h4 hnl h5 hps hlc hr hgN hNk hNl hPl hTg hus hvs hRl hH fun w7 hH=>?_;have hvl:vs.length=many:=hvs;have hH2:Heap w [] w7 (Yf 114 1 (some ⟨gW,0,none⟩) many many (Br vs n)::Yf 114 1 (some ⟨gT,0,none⟩) many many (Br us n)::Yf 3 1 (some ⟨gP,0,none⟩) gN gN (Ag N)::Ya gp 120 (Ai (some ⟨gT,0,none⟩) many many (some ⟨gP,0,none⟩) gN gN)::Ya gr 120 (Ai none 0 0 none 0 0)::Ya gl 114 [.slice (some p) nl lc]::Bp vs n (Eg list N many n nl)):=hH.sub (.cons_cons _ (.cons_cons _ (.cons_cons _ (.cons_cons _ (.cons_cons _ (.cons_cons _ (Xx _ _)))))));clear hH;have hWl:=Qwj list N many n nl
  have hnew:∀ t,t < many->X'.1[t]? = some (I0 (Da list N n nl t) 17):=fun t ht=>by
   rw [hX1,Yx,Y1 ht];rfl
  refine VS [1,2,4,6,8,11,12,78,139,140] ?_;refine Qn9 (list:=list) (N:=N) h1 h2 t1 t2 h3 h4 hnl hTx' hTl' hX2 hus hvl hWl hnew hH2 fun w8 u2 hH2 hu2=>?_;refine Ao ?_;refine VS [1,2,4,6,8,11,78] ?_;refine Ah ?_;refine Qs ?_;exact ⟨4 - (r+1),by omega,r+1,u2,rfl,by rw [hXX];exact hH2,hu2,by omega,rfl⟩
 have hr2:r=4:=by omega
 obtain ⟨hTl,hTx,hPl⟩:=hround 4;rw [hr2] at hH;generalize (Ed list n many 4).1=T at *;generalize (Ed list n many 4).2=P at *;refine As rfl ?_;refine VQ [4,5] fun K hK=>?_;refine ⟨Ai (some ⟨gT,0,none⟩) many many (some ⟨gP,0,none⟩) gN gN,⟨rfl,Ca (hH.at 2 rfl)⟩,?_⟩;refine Af ?_;refine Qs ?_;refine Al hH 3 (vs:=Ai (some ⟨gT,0,none⟩) many many (some ⟨gP,0,none⟩) gN gN) rfl rfl (by kernel_rfl) (by simp [Ai]) (F4 _ _ _ _ _ _) fun w10 hH6=>?_;simp only [Yd,Yh] at hH6;apply hK;clear hK;refine Ad (I4 rfl rfl rfl (Cv (hH6.at 3 rfl) (by kernel_rfl) (by kernel_rfl) rfl ?_));refine ⟨_,_,hH6.sub (.cons_cons _ (.cons_cons _ (.cons _ (.cons _ (.cons _ (.refl _)))))),fun w' hh=>Qd1 rfl hTl hPl hus (by rw [Qse (by omega) (fun t ht=>(hTx t ht).1)];exact Az (hh _ (Xe (i:=0) rfl))) (Az (hh _ (Xe (i:=1) rfl))) (fun i h t h6 h7=>?_),rfl⟩;rw [(hTx t (Xe h7)).1];exact Az (hh _ (Xe (i:=i+2) (show _=some (Yf 3 1 h.1 n h.2 (Ag t)) from Qd3 n h6 h7)))
theorem Qt5 {list:List Nat}{x:List (List Nat)×List Nat} (h1:Nr x.1 x.2) (h2:list.length<=1638350):Iy x list<=1000000000000:=by
 obtain ⟨m1,m2,m3,m4,m5,m6⟩:=h1;have hFl:=Zf (T:=x.1) (P:=x.2) (c:=20) (fun t ht y hy=>((m5 t ht).2.2.2.2.1 y hy).2) list 0;have hpl:=Qbj x.2 (Y2 x.1.length) (fun k hk=>by simpa using m6 k hk);have hpl2:x.2.length * (Y2 x.1.length).length<=32767 * 6:=Nat.mul_le_mul m4 (by simpa using m2)
 have h3:∀ Q:List (List Nat),(∀ t∈Q,Fa t)->(Q.flatMap De).length<=Q.length * 20000:=fun Q=>by
  induction Q with
  | nil=>intro _;simp
  | cons t Q ih =>
   intro hQ;have h2:=ih fun t ht=>hQ t (by simp [ht]);obtain ⟨o1,o2,o3,_⟩:=hQ t (by simp);have h3:=Wy t (t.getD 0 0) (o3 _ (Dr 0 (by omega))).2 fun x hx=>(o3 x hx).2;simp only [List.flatMap_cons,Yb,Yt,Nat.succ_mul,De,Ct];omega
 have h4:=h3 x.1 fun t ht=>(m5 t ht).2.2;have hm:=U0 20 h2;have hm2:=U0 20000 m2;unfold Iy Ex;simp only [Yb,Ct];omega
theorem Qwp (list:List Nat) (n:Nat) (hm:Nf list n) (p:Addr) (hps:p.spot=none) (lc:Nat) (hlc:list.length<=lc) (w:World) (hr:RS w (some p) list.length 1 (Ag list)) :
  Does Yk 62 #[.slice (some p) list.length lc,.int .i64 n] w fun x w'=>∃ v G,Heap w [] w' G/\QAx G v (E8 list n).1 (E8 list n).2/\x=.tuple #[v,.int .i64 0]:=by
 obtain ⟨hmc,hnc⟩:=Qgu hm;obtain ⟨hmf,hnf⟩:=Qo2 hm;have hch:=Qoa list n hm p hps lc hlc;have hfl:=Qiv list n hm (some p) lc;have hbs:E8 list n=if Iy (E6 list n) list < Iy (Ku list n) list then E6 list n else Ku list n:=rfl
 have hgf:(E6 list n).2.length=Ds list.length:=by simp [E6]
 have hgc:(Ku list n).2.length=Ds list.length:=by unfold Ku;rw [Ed];simp [Lq,F5]
 obtain ⟨h1,h2,h3,h4,h5⟩:=hm;have hzc:=Qt5 (list:=list) (x:=Ku list n) hmc h4;have hzf:=Qt5 (list:=list) (x:=E6 list n) hmf h4;rw [hbs];generalize Ku list n=C at *;generalize E6 list n=F at *;obtain ⟨CT,CP⟩:=C;obtain ⟨FT,FP⟩:=F;simp only at hmc hnc hmf hnf hch hfl hgf hgc;have hsc:=fun v=>Qby v CT CP hmc list h3 (by rw [hnc];exact h5) (by omega) hzc (some p) lc;have hsf:=fun v=>Qby v FT FP hmf list h3 (by rw [hnf];exact h5) (by omega) hzf (some p) lc;clear hmc hmf hnc hnf hbs;refine En [.slice (some p) list.length lc,.int .i64 n] 47 Tryz.func62 ?_;generalize hnl:list.length=nl at *;refine VQ [0,1,4] fun K hK=>?_;refine A6 (.agg #[.slice none 0 0,.slice none 0 0]) (by kernel_rfl) ?_;refine Qs ?_;have hH:=(Xj w).box 120 (Ai none 0 0 none 0 0);have hpl:[Y9 none 0 0,Y9 none 0 0]=Ai none 0 0 none 0 0:=rfl;rw [hpl];generalize w.alloc (Yr (Ai none 0 0 none 0 0).toArray 120)=w1 at *;generalize w.heap.size=gr at *;apply hK;clear hK;refine VQ [0,1,4,6,7] fun K hK=>?_;refine Ac Tryz.call101 ?_;refine Qs ?_;refine Yi (hch w1 (hH.rs' hr)) ?_;rintro v w2 ⟨pv,GC,hHc,hpc,rfl⟩;have hH2:=(hH.call0 hHc).perm Xl;simp only [Y3] at hH2;obtain ⟨ta,tc,pa,pc,us,rfl,_⟩:=hpc w2 hHc.holds;have hpv:Gm #[.slice ta CT.length tc,.slice pa CP.length pc]=.agg (Ai ta CT.length tc pa CP.length pc).toArray:=rfl;rw [hpv] at hpc ⊢;clear hH hHc;refine A6 (.agg #[.slice none 0 0,.slice none 0 0]) (by kernel_rfl) ?_;refine Qs ?_;have hH3:=hH2.box 120 (Ai none 0 0 none 0 0);rw [hpl];generalize w2.alloc (Yr (Ai none 0 0 none 0 0).toArray 120)=w3 at *;generalize w2.heap.size=ga at *;refine Af ?_;refine Qs ?_;refine Al hH3 0 (vs:=Ai ta CT.length tc pa CP.length pc) rfl rfl (by kernel_rfl) (by simp [Ai]) (F4 _ _ _ _ _ _) fun w4 hH4=>?_;have hH5:Heap w [] w4 (Ya ga 120 (Ai ta CT.length tc pa CP.length pc)::Ya gr 120 (Ai none 0 0 none 0 0)::GC):=hH4;clear hH2 hH3 hH4;apply hK;clear hK;refine VS [0,1,4,6,7,21] ?_;refine Ae rfl rfl (fun h=>by simp at h) (fun h=>Ab ?_);clear h;refine VQ [0,4,6,8] fun K hK=>?_;refine Ac Tryz.call102 ?_;refine Qs ?_;refine Yi (hfl w4 (hH5.rs' hr)) ?_;rintro v w5 ⟨pv,GF,hHf,hpf,rfl⟩;have hH6:=(hH5.call0 hHf).perm Xl;simp only [Yl] at hH6;obtain ⟨fa,fc,qa,qc,us2,rfl,_⟩:=hpf w5 hHf.holds;have hpv2:Gm #[.slice fa FT.length fc,.slice qa FP.length qc]=.agg (Ai fa FT.length fc qa FP.length qc).toArray:=rfl;rw [hpv2] at hpf ⊢;clear hH5 hHf;refine A6 (.agg #[.slice none 0 0,.slice none 0 0]) (by kernel_rfl) ?_;refine Qs ?_;have hH7:=hH6.box 120 (Ai none 0 0 none 0 0);rw [hpl];generalize w5.alloc (Yr (Ai none 0 0 none 0 0).toArray 120)=w6 at *;generalize w5.heap.size=gb at *;refine Af ?_;refine Qs ?_;refine Al hH7 0 (vs:=Ai fa FT.length fc qa FP.length qc) rfl rfl (by kernel_rfl) (by simp [Ai]) (F4 _ _ _ _ _ _) fun w7 hH8=>?_;have hH9:Heap w [] w7 (Ya gb 120 (Ai fa FT.length fc qa FP.length qc)::Ya ga 120 (Ai ta CT.length tc pa CP.length pc)::Ya gr 120 (Ai none 0 0 none 0 0)::(GC++GF)):=hH8;clear hH6 hH7 hH8;apply hK;clear hK;refine VQ [0,4,6,8,10] fun K hK=>?_;refine ⟨Ai ta CT.length tc pa CP.length pc,⟨rfl,Ca (hH9.at 1 rfl)⟩,?_⟩;refine Ac Tryz.call103 ?_;refine Qs ?_;refine Yi (hsc _ w7 (hpc w7 (fun r hr=>hH9.holds r (by simp [hr]))) (hH9.rs' hr)) ?_;rintro v w8 ⟨hHs,rfl⟩;have hH10:=hH9.call0 hHs;simp only [Ye] at hH10;clear hH9 hHs;apply hK;clear hK;refine VQ [4,6,8,10,12] fun K hK=>?_;refine ⟨Ai fa FT.length fc qa FP.length qc,⟨rfl,Ca (hH10.at 0 rfl)⟩,?_⟩;refine Ac Tryz.call103 ?_;refine Qs ?_;refine Yi (hsf _ w8 (hpf w8 (fun r hr=>hH10.holds r (by simp [hr]))) (hH10.rs' hr)) ?_;rintro v w9 ⟨hHs,rfl⟩;have hH11:=hH10.call0 hHs;simp only [Ye] at hH11;clear hH10 hHs
 apply hK;clear hK;generalize Iy (FT,FP) list=sf at *;generalize Iy (CT,CP) list=sc at *;refine VS [4,6,8,44] ?_;refine VD (fun h=>?_) (fun h=>Ab ?_)
 ·
  rw [if_pos (by omega)];refine VQ [4,5] fun K hK=>?_;refine ⟨Ai fa FT.length fc qa FP.length qc,⟨rfl,Ca (hH11.at 0 rfl)⟩,?_⟩;refine Af ?_;refine Qs ?_;refine Al hH11 2 (vs:=Ai fa FT.length fc qa FP.length qc) rfl rfl (by kernel_rfl) (by simp [Ai]) (F4 _ _ _ _ _ _) fun w10 hH12=>?_;simp only [Yd,Yh] at hH12;apply hK;clear hK;refine Ad (I4 rfl rfl rfl (Cv (hH12.at 2 rfl) (by kernel_rfl) (by kernel_rfl) rfl ?_));exact ⟨_,GF,hH12.sub (.cons _ (.cons _ (.cons _ (Xx _ _)))),hpf,rfl⟩
 rw [if_neg (by omega)];refine VQ [4,5] fun K hK=>?_;refine ⟨Ai ta CT.length tc pa CP.length pc,⟨rfl,Ca (hH11.at 1 rfl)⟩,?_⟩;refine Af ?_;refine Qs ?_;refine Al hH11 2 (vs:=Ai ta CT.length tc pa CP.length pc) rfl rfl (by kernel_rfl) (by simp [Ai]) (F4 _ _ _ _ _ _) fun w10 hH12=>?_;simp only [Yd,Yh] at hH12;apply hK;clear hK;refine Ad (I4 rfl rfl rfl (Cv (hH12.at 2 rfl) (by kernel_rfl) (by kernel_rfl) rfl ?_));exact ⟨_,GC,hH12.sub (.cons _ (.cons _ (.cons _ (List.sublist_append_left _ _)))),hpc,rfl⟩
set_option maxHeartbeats 8000000
abbrev Qs9:Value:=.agg #[.string ⟨#[]⟩,.int .i64 0]
def Rq (s:List UInt8) (v:Value):Prop :=
 if s=[] then v=.tuple #[Qs9,.int .i64 2]
 else if 262144 < (enc s).length then v=.tuple #[Qs9,.int .i64 3]
 else ∃ σ,Ordered (enc s) σ/\v=.tuple #[Lu (Fy s σ),.int .i64 0]
theorem QJr {s:List UInt8} (hs:s≠[]):enc s≠[]:=by
 intro e
 obtain ⟨c,r,rfl⟩:∃ c r,s=c::r:=by cases s with
  | nil=>exact absurd rfl hs
  | cons c r=>exact ⟨c,r,rfl⟩
 have h1:=Re (c::r) (by simp);have h2:=L7 (c::r) (by simp);have h3:=(P3 (c::r)).1;have h4:=Ps (B8 (c::r)) (c::r) h3;rw [e] at h1;have h5:=congrArg Xv h1;simp only [Yb,Xb] at h5;split at h4 <;> omega
theorem Qsf (s:List UInt8):Cd s < 4294967296:=by
 have:=W9 s (r:=4294967295) (by omega);unfold Cd
 first | omega | exact Nat.xor_lt_two_pow (n:=32) this (by omega)
theorem Qf3 (s:List UInt8) (hs:s.length<=100000000) (w:World):Does Yk 30 #[Aa s] w fun v w'=>Heap w [] w' []/\Rq s v:=by
 have hel:=Qci s;have hcrc:=Qsf s;refine En [Aa s] 117 Tryz.func30 ?_;refine VQ [0,2] fun K hK=>?_;refine A6 (.agg #[.string ⟨#[]⟩,.int .i64 0]) (by kernel_rfl) ?_;refine Qs ?_;have hH:=(Xj w).box 70 [.string ⟨#[]⟩,.int .i64 0];generalize w.alloc (Yr [Xr ⟨#[]⟩,.int .i64 0].toArray 70)=w1 at *;generalize w.heap.size=gr at *;apply hK;clear hK;refine VS [0,2,21] ?_;refine VD (fun h=>?_) (fun h=>Ab ?_)
 ·
  refine VQ [2,3] fun K hK=>?_;refine Af ?_;refine Qs ?_;refine Al hH 0 (vs:=[.string ⟨#[]⟩,.int .i64 0]) rfl rfl (by kernel_rfl) (by simp) (by simp [Yg]) fun w4 hH3=>?_;simp only [Yd,Yh] at hH3;apply hK;clear hK;refine Ad (I4 rfl rfl rfl (Cv (hH3.at 0 rfl) (by kernel_rfl) (by kernel_rfl) rfl ?_));refine ⟨hH3.sub (by simp),?_⟩;rw [Rq,if_pos h];rfl
 have hne:=QJr h;have hMk:∀ v,(if 262144 < (enc s).length then v=.tuple #[Qs9,.int .i64 3] else ∃ σ,Ordered (enc s) σ/\v=.tuple #[Lu (Fy s σ),.int .i64 0])->Rq s v:=fun v hv=>by rw [Rq,if_neg h];exact hv
 refine VQ [0,2,4] fun K hK=>?_;refine Ac Tryz.call57 ?_;refine Qs ?_;refine Yi (Qy9 s w1 (by omega)) ?_;rintro v w2 ⟨hHe,rfl⟩;have hH2:=hH.call0 hHe;simp only [Ye] at hH2;clear hH hHe;apply hK;clear hK;generalize ht:enc s=t at *;refine VS [0,2,4,27] ?_;refine VD (fun h=>?_) (fun h=>Ab ?_)
 ·
  refine VQ [2,3] fun K hK=>?_;refine Af ?_;refine Qs ?_;refine Al hH2 0 (vs:=[.string ⟨#[]⟩,.int .i64 0]) rfl rfl (by kernel_rfl) (by simp) (by simp [Yg]) fun w4 hH3=>?_;simp only [Yd,Yh] at hH3;apply hK;clear hK;refine Ad (I4 rfl rfl rfl (Cv (hH3.at 0 rfl) (by kernel_rfl) (by kernel_rfl) rfl ?_));refine ⟨hH3.sub (by simp),hMk _ ?_⟩;rw [if_pos (by omega)];rfl
 have htl:t.length<=262144:=by omega
 replace hMk:∀ v,(∃ σ,Ordered t σ/\v=.tuple #[Lu (Fy s σ),.int .i64 0])->Rq s v:=fun v hv=>hMk v (by rw [if_neg (by omega)];exact hv);refine VQ [0,2,4,5,6,7] fun K hK=>?_;refine Ac Tryz.call58 ?_;refine Qs ?_;refine Yi (Qla t (by omega) w2) ?_;rintro v w3 ⟨hHf,hf⟩;rw [Wb,if_neg hne,if_neg (by omega)] at hf;obtain ⟨σ,ho,rfl⟩:=hf;have hH3:=hH2.call0 hHf;simp only [Ye] at hH3;clear hH2 hHf;apply hK;clear hK;refine VS [0,2,4,5,6,7,36] ?_;refine Ae rfl rfl (fun h=>by simp at h) (fun h=>Ab ?_);clear h;refine VQ [0,2,5,6,8] fun K hK=>?_;refine Ac Tryz.call59 ?_;refine Qs ?_;refine Yi (QD9 t (by omega) w3) ?_;rintro v w4 ⟨hHo,rfl⟩;have hH4:=hH3.call0 hHo;simp only [Ye] at hH4;clear hH3 hHo;apply hK;clear hK;obtain ⟨u1,u2⟩:=P5 hne;have hcl:=Qcn ho;obtain ⟨p1,p2,p3⟩:=Zh ho;obtain ⟨z1,z2,z3,z4,z5,z6⟩:=Vt ho hne;have hmay:=Z7 ho hne htl;have hmu:=Qbc hne;have hfr:=Qrd (B5 t σ) (A9 t) (by omega) (by omega) w4;unfold Sx at hfr;simp only [hmu,p1,if_true] at hfr;refine VQ [0,2,6,7,8,9] fun K hK=>?_;refine Ac Tryz.call60 ?_;refine Qs ?_;refine Yi hfr ?_;rintro v w5 ⟨ap,cp,hHp,rfl⟩;have hH5:=hH4.call0 hHp;simp only [Y3] at hH5;clear hH4 hHp hfr;apply hK;clear hK;refine VS [0,2,6,7,8,9,48] ?_;refine Ae rfl rfl (fun h=>by simp at h) (fun h=>Ab ?_);clear h;have hzd:=Qvw ((A9 t).length:Nat) (Iv t σ) ap cp (Xp (by omega) (by omega)) w5 (Az (hH5.at 0 rfl)) (by omega) (fun v hv=>by have:=p3 v hv;exact Xp (by omega) (by omega));unfold IntsErr at hzd;rw [z1,z2,<- z3] at hzd;refine VQ [0,2,6,7,8,10] fun K hK=>?_;refine Ac Tryz.call61 ?_;refine Qs ?_;refine Yi hzd ?_;rintro v w6 ⟨al,cl,hHl,rfl⟩;have hH6:=hH5.call0 hHl;simp only [Y3] at hH6;have hH7:=hH6.sub (.cons_cons _ (.cons _ (.refl _)));clear hH5 hHl hzd hH6;apply hK;clear hK;refine VS [0,2,6,7,8,10,59] ?_;refine Ae rfl rfl (fun h=>by simp at h) (fun h=>Ab ?_);clear h;have hbk:∀ σ',Ordered t σ'->Lu (Fy s σ')=Lu (Fy s σ'):=fun _ _=>rfl;obtain ⟨gl,rfl⟩:=Ir (hH7.at 0 rfl) (by omega);have hcap:(Ch t σ).length<=cl:=(hH7.at 0 rfl).2.1;have hbd:=Qwp (Ch t σ) ((A9 t).length+2) hmay ⟨gl,0,none⟩ rfl cl hcap w6 (Az (hH7.at 0 rfl));obtain ⟨b1,b2⟩:=Qo3 hmay;have b3:=Qel (Ch t σ) ((A9 t).length+2);have b4:=Qdu hmay;have hplan:Bu t σ=E8 (Ch t σ) ((A9 t).length+2):=rfl
 have hbs:Fy s σ=[Qu s (σ.idxOf 0),Fh (A9 t),Ex (E8 (Ch t σ) ((A9 t).length+2)).1 (E8 (Ch t σ) ((A9 t).length+2)).2,E7 (E8 (Ch t σ) ((A9 t).length+2)).1 (E8 (Ch t σ) ((A9 t).length+2)).2 (Ch t σ) 0].flatten:=by
  unfold Fy;rw [ht,hplan]
 have hMk2:Rq s (.tuple #[Lu (Fy s σ),.int .i64 0]):=hMk _ ⟨σ,ho,rfl⟩;rw [hbs] at hMk2;have hnl:=Qdv (A9 t);have hhl:=Z8 s (σ.idxOf 0)
 have hrow:σ.idxOf 0<=262144:=by
  have h1:=List.idxOf_le_length (l:=σ) (a:=0);have h2:=ho.perm.length_eq;simp at h2;omega
 unfold Iy at b4;have hput:=fun v=>Qdc v (E8 (Ch t σ) ((A9 t).length+2)).1 (E8 (Ch t σ) ((A9 t).length+2)).2 b1 (Ch t σ) (by omega) (by rw [b2];exact z6) (by omega) (some ⟨gl,0,none⟩) cl;have hsho:=fun v=>Qbw v (E8 (Ch t σ) ((A9 t).length+2)).1 (E8 (Ch t σ) ((A9 t).length+2)).2 b1;generalize hHead:Qu s (σ.idxOf 0)=Head at *;have hHead2:A0 48 54156738319193++A0 32 (Cd s)++A0 1 0++A0 24 (σ.idxOf 0)=Head:=hHead;clear hHead hMk hbs hplan b2 b3 p1 p2 p3 ho hcl;generalize E8 (Ch t σ) ((A9 t).length+2)=B at *;obtain ⟨BT,BP⟩:=B;simp only at hput hsho hMk2 b4;generalize Ch t σ=L at *;generalize σ.idxOf 0=row at *;generalize hce:Cd s=crc at *;refine VQ [0,2,6,7,8,10,11] fun K hK=>?_;(repeat first | refine Qo ?_ | refine Qp ?_);rw [show (((A9 t).length:Int)+2)=(((A9 t).length+2:Nat):Int) by push_cast;rfl];refine Ac Tryz.call62 ?_;refine Qs ?_;refine Yi hbd ?_;rintro v w7 ⟨pv,GP,hHb,hpg,rfl⟩;have hH8:=(hH7.call0 hHb).perm Xl;simp only [Yl,Ye] at hH8;obtain ⟨ta,tc,pa,pc,us,rfl,_⟩:=hpg w7 hHb.holds;have hpv:Gm #[.slice ta BT.length tc,.slice pa BP.length pc]=.agg (Ai ta BT.length tc pa BP.length pc).toArray:=rfl;rw [hpv] at hpg ⊢;clear hH7 hHb;refine A6 (.agg #[.slice none 0 0,.slice none 0 0]) (by kernel_rfl) ?_;refine Qs ?_;have hH9:=hH8.box 120 (Ai none 0 0 none 0 0);have hpl:[Y9 none 0 0,Y9 none 0 0]=Ai none 0 0 none 0 0:=rfl;rw [hpl];generalize w7.alloc (Yr (Ai none 0 0 none 0 0).toArray 120)=w8 at *;generalize w7.heap.size=gp at *;refine Af ?_;refine Qs ?_;refine Al hH9 0 (vs:=Ai ta BT.length tc pa BP.length pc) rfl rfl (by kernel_rfl) (by simp [Ai]) (F4 _ _ _ _ _ _) fun w9 hH10=>?_;have hH11:Heap w [] w9 (Ya gp 120 (Ai ta BT.length tc pa BP.length pc)::Yf 3 1 (some ⟨gl,0,none⟩) L.length cl (Ag L)::Ya gr 70 [.string ⟨#[]⟩,.int .i64 0]::GP):=hH10;clear hH8 hH9 hH10;apply hK;clear hK;refine VS [0,2,6,7,8,10,11,71] ?_;refine Ae rfl rfl (fun h=>by simp at h) (fun h=>Ab ?_);clear h;refine VQ [0,2,6,8,10,11,12] fun K hK=>?_;refine Ac Tryz.call32 ?_;refine Qs ?_;refine Yi (Q2 w9) ?_;rintro v w10 ⟨gw,hHw,rfl⟩;have hH:=hH11.call0 hHw;simp only [Y3] at hH;clear hH11 hHw;apply hK;clear hK;refine VQ [0,2,6,8,10,11,12] fun K hK=>?_;refine Ac Ua ?_;refine Qs ?_;refine Yi (Iq gw none 0 [] 54156738319193 48 w10 (by omega) (by omega) (by simp) (hH.focus 0 rfl)) ?_;rintro v w11 ⟨a1,c1,hHq,rfl⟩;have hH2:=hH.call1 0 rfl hHq;simp only [Yd,Ye] at hH2;clear hH hHq;apply hK;clear hK;refine VQ [2,6,8,10,11,12] fun K hK=>?_;refine Ac Gi ?_;refine Qs ?_;refine Yi (Zg s w11 (by omega)) ?_;rintro v w12 ⟨hHc,rfl⟩;have hH3:=hH2.call0 hHc;simp only [Ye] at hH3;clear hH2 hHc;refine Qs ?_;rw [hce,show ((crc:Int) % 18446744073709551616)=crc by omega];refine Ac Ua ?_;refine Qs ?_;refine Yi (Iq gw a1 c1 _ crc 32 w12 (by omega) (by omega) (by simp [Ct]) (hH3.focus 0 rfl)) ?_;rintro v w13 ⟨a2,c2,hHq,rfl⟩;have hH4:=hH3.call1 0 rfl hHq;simp only [Yd,Ye] at hH4;clear hH3 hHq;apply hK;clear hK;refine VQ [2,6,8,10,11,12] fun K hK=>?_;refine Ac Ua ?_;refine Qs ?_;refine Yi (Iq gw a2 c2 _ 0 1 w13 (by omega) (by omega) (by simp [Ct]) (hH4.focus 0 rfl)) ?_;rintro v w14 ⟨a3,c3,hHq,rfl⟩;have hH5:=hH4.call1 0 rfl hHq;simp only [Yd,Ye] at hH5;clear hH4 hHq;apply hK;clear hK;refine VQ [2,8,10,11,12] fun K hK=>?_;rw [show ((row:Int) % 18446744073709551616)=row by omega];refine Ac Ua ?_;refine Qs ?_;refine Yi (Iq gw a3 c3 _ row 24 w14 (by omega) (by omega) (by simp [Ct]) (hH5.focus 0 rfl)) ?_;rintro v w15 ⟨a4,c4,hHq,rfl⟩;have hH6:=hH5.call1 0 rfl hHq;simp only [Yd,Ye] at hH6
 rw [show A0 48 54156738319193++A0 32 crc++A0 1 0++A0 24 row=Head from hHead2] at hH6;clear hH5 hHq;apply hK;clear hK;refine VQ [2,8,10,11,13] fun K hK=>?_;refine Ac Gj ?_;refine Qs ?_;refine Yi (Py gw a4 c4 _ w15 (hH6.at 0 rfl)) ?_;rintro v w16 ⟨rfl,rfl⟩;refine Ac U1 ?_;refine Qs ?_;refine Yi (Oy gw a4 c4 _ w16 (hH6.at 0 rfl)) ?_;rintro v w17 ⟨rfl,rfl⟩;refine Qs ?_;refine A6 (.agg #[.string ⟨#[]⟩,.int .i64 0]) (by kernel_rfl) ?_;refine Qs ?_;have hH7:=(hH6.sub (Y0 _ _)).box 70 [.string ⟨#[]⟩,.int .i64 0];generalize w17.alloc (Yr [Xr ⟨#[]⟩,.int .i64 0].toArray 70)=w18 at *;generalize w17.heap.size=gh at *;refine Af ?_;refine Qs ?_;refine Al hH7 0 (vs:=Ay Head) rfl rfl (by kernel_rfl) (by simp [Ay]) (E5 _) fun w19 hH8=>?_;have hH9:Heap w [] w19 (Ya gh 70 (Ay Head)::Ya gp 120 (Ai ta BT.length tc pa BP.length pc)::Yf 3 1 (some ⟨gl,0,none⟩) L.length cl (Ag L)::Ya gr 70 [.string ⟨#[]⟩,.int .i64 0]::GP):=hH8;clear hH6 hH7 hH8;apply hK;clear hK;generalize hNm:Fh (A9 t)=Nm at *;have hsy:=Qlk (A9 t) hmu (by omega) w19;rw [hNm] at hsy;refine VQ [2,10,11,13,14] fun K hK=>?_;refine Ac Tryz.call63 ?_;refine Qs ?_;refine Yi hsy ?_;rintro v w20 ⟨hHn,rfl⟩;have hH2:=hH9.call0 hHn;simp only [Ye] at hH2;clear hH9 hHn;refine A6 (.agg #[.string ⟨#[]⟩,.int .i64 0]) (by kernel_rfl) ?_;refine Qs ?_;have hH3:=hH2.box 70 [.string ⟨#[]⟩,.int .i64 0];generalize w20.alloc (Yr [Xr ⟨#[]⟩,.int .i64 0].toArray 70)=w21 at *;generalize w20.heap.size=gn at *;refine Af ?_;refine Qs ?_;refine Al hH3 0 (vs:=Ay Nm) rfl rfl (by kernel_rfl) (by simp [Ay]) (E5 _) fun w22 hH4=>?_;have hH5:Heap w [] w22 (Ya gn 70 (Ay Nm)::Ya gh 70 (Ay Head)::Ya gp 120 (Ai ta BT.length tc pa BP.length pc)::Yf 3 1 (some ⟨gl,0,none⟩) L.length cl (Ag L)::Ya gr 70 [.string ⟨#[]⟩,.int .i64 0]::GP):=hH4;clear hH2 hH3 hH4;apply hK;clear hK;generalize hPb:Ex BT BP=Pb at *;generalize hPu:E7 BT BP L 0=Pu at *
 have hfl:[Head,Nm,Pb,Pu].flatten.length<=10000000000000:=by
  simp only [Y4,Xq,Yq,Yb];unfold Ds at b4;omega
 refine VQ [2,10,11,13,14,16] fun K hK=>?_;refine ⟨Ai ta BT.length tc pa BP.length pc,⟨rfl,Ca (hH5.at 2 rfl)⟩,?_⟩;refine Ac Tryz.call64 ?_;refine Qs ?_;refine Yi (hsho _ w22 (hpg w22 (fun r hr=>hH5.holds r (by simp [hr])))) ?_;rintro v w23 ⟨hHs,rfl⟩;have hH6:=hH5.call0 hHs;simp only [Ye] at hH6;clear hH5 hHs;refine A6 (.agg #[.string ⟨#[]⟩,.int .i64 0]) (by kernel_rfl) ?_;refine Qs ?_;have hH7:=hH6.box 70 [.string ⟨#[]⟩,.int .i64 0];generalize w23.alloc (Yr [Xr ⟨#[]⟩,.int .i64 0].toArray 70)=w24 at *;generalize w23.heap.size=gt at *;refine Af ?_;refine Qs ?_;refine Al hH7 0 (vs:=Ay Pb) rfl rfl (by kernel_rfl) (by simp [Ay]) (E5 _) fun w25 hH8=>?_;have hH9:Heap w [] w25 (Ya gt 70 (Ay Pb)::Ya gn 70 (Ay Nm)::Ya gh 70 (Ay Head)::Ya gp 120 (Ai ta BT.length tc pa BP.length pc)::Yf 3 1 (some ⟨gl,0,none⟩) L.length cl (Ag L)::Ya gr 70 [.string ⟨#[]⟩,.int .i64 0]::GP):=hH8;clear hH6 hH7 hH8;apply hK;clear hK;refine VQ [2,13,14,16,18] fun K hK=>?_;refine ⟨Ai ta BT.length tc pa BP.length pc,⟨rfl,Ca (hH9.at 3 rfl)⟩,?_⟩;refine Ac Tryz.call65 ?_;refine Qs ?_;refine Yi (hput _ w25 (hpg w25 (fun r hr=>hH9.holds r (by simp [hr]))) (Az (hH9.at 4 rfl))) ?_;rintro v w26 ⟨hHs,rfl⟩;have hH6:=hH9.call0 hHs;simp only [Ye] at hH6;clear hH9 hHs;refine A6 (.agg #[.string ⟨#[]⟩,.int .i64 0]) (by kernel_rfl) ?_;refine Qs ?_;have hH7:=hH6.box 70 [.string ⟨#[]⟩,.int .i64 0];generalize w26.alloc (Yr [Xr ⟨#[]⟩,.int .i64 0].toArray 70)=w27 at *;generalize w26.heap.size=gc at *;refine Af ?_;refine Qs ?_;refine Al hH7 0 (vs:=Ay Pu) rfl rfl (by kernel_rfl) (by simp [Ay]) (E5 _) fun w28 hH8=>?_;have hH9:Heap w [] w28 (Ya gc 70 (Ay Pu)::Ya gt 70 (Ay Pb)::Ya gn 70 (Ay Nm)::Ya gh 70 (Ay Head)::Ya gp 120 (Ai ta BT.length tc pa BP.length pc)::Yf 3 1 (some ⟨gl,0,none⟩) L.length cl (Ag L)::Ya gr 70 [.string ⟨#[]⟩,.int .i64 0]::GP):=hH8;clear hH6 hH7 hH8;apply hK;clear hK;refine VQ [2,3] fun K hK=>?_;refine ⟨Ay Head,⟨rfl,Ca (hH9.at 3 rfl)⟩,?_⟩;refine ⟨Ay Nm,⟨rfl,Ca (hH9.at 2 rfl)⟩,?_⟩;refine ⟨Ay Pb,⟨rfl,Ca (hH9.at 1 rfl)⟩,?_⟩;refine ⟨Ay Pu,⟨rfl,Ca (hH9.at 0 rfl)⟩,?_⟩;refine E4 hH9 2 (Fc [Head,Nm,Pb,Pu]) (xs:=[.tmp 109,.tmp 110,.tmp 111,.tmp 112]) Yo Oc rfl rfl rfl (by omega) (by omega) ?_;refine Qs ?_;refine ⟨by simp [Fc,Ay,Yw],by simp [Ay,Yw],fun ga w29 hH10=>?_⟩;refine Ac X1 ?_;refine Qs ?_;refine Yi (Qdp [Head,Nm,Pb,Pu] ⟨ga,0,none⟩ rfl 4 w29 (Az (hH10.at 0 rfl)) hfl (by simp)) ?_;rintro v w30 ⟨hHj,rfl⟩;have hH11:=hH10.call0 hHj;simp only [Ye] at hH11;clear hH10 hHj hH9;generalize [Head,Nm,Pb,Pu].flatten=R at *;refine Af ?_;refine Qs ?_;refine Al hH11 7 (vs:=Ay R) rfl rfl (by kernel_rfl) (by simp [Ay]) (E5 _) fun w31 hH12=>?_;simp only [Yd,Yh] at hH12;apply hK;clear hK;refine Ad (I4 rfl rfl rfl (Cv (hH12.at 7 rfl) (by kernel_rfl) (by kernel_rfl) rfl ?_));exact ⟨hH12.sub (by simp),hMk2⟩
theorem Qz4 (b:UInt8) (n:Nat) (s:List UInt8) (h1:1<=n) (h2:n<=255) (h3:n=255∨s[0]? ≠ some b):B8 (Yc n b++s)=n:=by
 have hz:(Yc n b++s)[0]? = some b:=by
  rw [Yz (by simp;omega),Xo,if_pos (by omega)]
 have h:=Qpd (Yc n b++s) 0 n (by simp;omega) h1 h2 ?_ ?_
 ·
  simpa using h
 ·
  intro j hj;rw [hz,X3,Yz (by simp;omega),Xo,if_pos (by omega)]
 rcases h3 with h3 | h3
 ·
  exact .inl h3
 refine .inr ?_;rw [hz,X3,Xi (by simp)];simpa using h3
theorem Qmc (b:UInt8) (n:Nat) (s:List UInt8) (h1:1<=n) (h2:n<=255) (h3:n=255∨s[0]? ≠ some b) :
  (enc (Yc n b++s)).length=Fu n+(enc s).length:=by
 have hne:Yc n b++s≠[]:=by
  intro h;have:=congrArg Xv h;simp at this;omega
 rw [Re _ hne,Qz4 b n s h1 h2 h3,Yb,Ps _ _ (by simp)];have e:(Yc n b++s).drop n=s:=by simp
 rw [e,Fu]
 congr 1
 split <;> split <;> omega
theorem Qwq (l:List UInt8) (h:l≠[]):∃ (b:UInt8) (n:Nat) (s:List UInt8),l=Yc n b++s/\B8 l=n/\s=l.drop n/\1<=n/\n<=255/\(n=255∨s[0]? ≠ some b):=by
 cases l with
 | nil=>exact absurd rfl h
 | cons b l =>
  have hp:=L7 (b::l) (by simp);have hle:=P3 (b::l);refine ⟨b,B8 (b::l),(b::l).drop (B8 (b::l)),?_,rfl,rfl,hp,hle.2,?_⟩
  ·
   rw [<- Qh3 b l _ (Y5 _),X6]
  by_cases h255:B8 (b::l)=255
  ·
   exact .inl h255
  refine .inr ?_;rw [Uj,Nat.add_zero];exact Qt2 b l (by omega)
theorem QAm:∀ (f:Nat) (l:List UInt8) (left:Int),l.length<=f ->
  Db l left<=l.length/\((enc (l.take (Db l left))).length:Int)<=max left 0/\(left < 0->Db l left=0)/\(Db l left=l.length∨left < ((enc (l.take (Db l left+1))).length:Int)):=by
 intro f
 induction f with
 | zero =>
  intro l left h;have:l=[]:=Y6 (by omega);subst this;simp [Ql6,Qd];omega
 | succ f ih =>
  intro l left h;by_cases hl:l=[]
  ·
   subst hl;simp [Ql6,Qd];omega
  rw [Qhw l left hl];obtain ⟨b,n,s,hls,hn,hd,h1,h2,h3⟩:=Qwq l hl;rw [hn,<- hd];have hlen:l.length=n+s.length:=by rw [hls];simp
  have inrun:∀ k,1<=k->k<=n->(enc (l.take k)).length=Fu k:=by
   intro k hk1 hk2
   have e:l.take k=Yc k b++[]:=by
    rw [hls,Xf (by simp;omega),List.take_replicate,Yq]
    congr 1;omega
   rw [e,Qmc b k [] hk1 (by omega) (.inr (by simp)),Qd];rfl
  have behind:∀ k,(enc (l.take (n+k))).length=Fu n+(enc (s.take k)).length:=by
   intro k
   have e:l.take (n+k)=Yc n b++s.take k:=by
    rw [hls,List.take_append];simp
   by_cases hk:k=0
   ·
    subst hk;rw [e,Qmc b n _ h1 h2 (.inr (by simp))]
   rw [e,Qmc b n _ h1 h2 ?_];rw [List.getElem?_take,if_pos (by omega)];exact h3
  by_cases hc:left < (Fu n:Int)
  ·
   rw [if_pos hc];generalize hk:(max 0 (min left 3)).toNat=k;have hkn:k < n:=by simp only [Fu] at hc;split at hc <;> omega
   have hk3:k<=3:=by omega
   refine ⟨by omega,?_,by omega,.inr ?_⟩
   ·
    by_cases hk0:k=0
    ·
     subst hk0;rw [U2,Qd];simp;omega
    rw [inrun k (by omega) (by omega),Fu,if_pos hk3];omega
   rw [inrun (k+1) (by omega) (by omega)];simp only [Fu] at hc ⊢;split at hc <;> split <;> omega
  rw [if_neg hc];obtain ⟨g1,g2,g3,g4⟩:=ih s (left - Fu n) (by omega);refine ⟨by omega,?_,by omega,?_⟩
  ·
   rw [behind];omega
  rcases g4 with g4 | g4
  ·
   exact .inl (by omega)
  refine .inr ?_;rw [Nat.add_assoc,behind];omega
theorem S0 {s:List UInt8}{most:Int} (hs:s≠[]) (hm:1<=most):1<=Db s most/\Db s most<=s.length/\((enc (s.take (Db s most))).length:Int)<=most:=by
 obtain ⟨h1,h2,_,_⟩:=QAm s.length s most (Y5 _);refine ⟨?_,h1,by omega⟩;rw [Qhw s most hs];have:=L7 s hs;split <;> omega
def Ns:Nat->List UInt8->Int->List (List UInt8)
 | 0,_,_=>[]
 | f+1,s,most=>if s=[] then [] else s.take (Db s most)::Ns f (s.drop (Db s most)) most
theorem Qwr {most:Int} (hm:1<=most):∀ (f g:Nat) (s:List UInt8),s.length<=f->s.length<=g->Ns f s most=Ns g s most:=by
 intro f
 induction f with
 | zero =>
  intro g s h1 h2;obtain rfl:s=[]:=Y6 (by omega);cases g with
  | zero=>rfl
  | succ g=>rw [Ns,Ns,if_pos rfl]
 | succ f ih =>
  intro g s h1 h2;cases g with
  | zero =>
   obtain rfl:s=[]:=Y6 (by omega);rw [Ns,Ns,if_pos rfl]
  | succ g =>
   rw [Ns,Ns];split
   ·
    rfl
   rename_i hne;have:=S0 hne hm;rw [ih g _ (by rw [Yu];omega) (by rw [Yu];omega)]
def Cz (s:List UInt8) (most:Int):List (List UInt8):=Ns s.length s most
theorem Vl (most:Int):Cz [] most=[]:=rfl
theorem Qd5 {s:List UInt8}{most:Int} (hs:s≠[]) (hm:1<=most):Cz s most=s.take (Db s most)::Cz (s.drop (Db s most)) most:=by
 obtain ⟨n,hn⟩:∃ n,s.length=n+1:=⟨s.length - 1,by have:=Xn.2 hs;omega⟩;have:=S0 hs hm;rw [Cz,hn,Ns,if_neg hs,Cz]
 congr 1
 exact Qwr hm _ _ _ (by rw [Yu];omega) (Y5 _)
theorem Qff {most:Int} (hm:1<=most):∀ (n:Nat) (s:List UInt8),s.length<=n->(Cz s most).flatten=s/\(Cz s most).length<=s.length/\∀ p∈Cz s most,p≠[]/\p.length<=s.length/\((enc p).length:Int)<=most:=by
 intro n
 induction n with
 | zero =>
  intro s h;obtain rfl:s=[]:=Y6 (by omega);rw [Vl];simp
 | succ n ih =>
  intro s h;by_cases hs:s=[]
  ·
   subst hs;rw [Vl];simp
  obtain ⟨f1,f2,f3⟩:=S0 hs hm;obtain ⟨h1,h2,h3⟩:=ih (s.drop (Db s most)) (by rw [Yu];omega);rw [Yu] at h2 h3;rw [Qd5 hs hm];refine ⟨by rw [Y4,h1,X6],by rw [Yt];omega,fun p hp=>?_⟩;rcases Xh.1 hp with rfl | hp
  ·
   refine ⟨fun h0=>?_,by rw [Yv];omega,f3⟩;have:=congrArg Xv h0;rw [Yv,Xb] at this;omega
  obtain ⟨a,b,c⟩:=h3 p hp;exact ⟨a,by omega,c⟩
def PB (p:List UInt8) (b:List Bool):Prop:=∃ σ,Ordered (enc p) σ/\b=Fy p σ
def L3:List (List UInt8)->List (List Bool)->Prop
 | [],[]=>True
 | p::ps,b::bs=>PB p b/\L3 ps bs
 | _,_=>False
theorem Qpt {p:List UInt8}{b:List Bool} (h:PB p b):∀ (ps:List (List UInt8)) (bs:List (List Bool)),L3 ps bs->L3 (ps++[p]) (bs++[b])
 | [],[],_=>⟨h,trivial⟩
 | _::ps,_::bs,hh=>⟨hh.1,Qpt h ps bs hh.2⟩
 | [],_::_,hh=>hh.elim
 | _::_,[],hh=>hh.elim
theorem Vu:∀ (ps:List (List UInt8)) (bs:List (List Bool)),L3 ps bs->bs.length=ps.length
 | [],[],_=>rfl
 | _::ps,_::bs,hh=>by rw [Yt,Yt,Vu ps bs hh.2]
 | [],_::_,hh=>hh.elim
 | _::_,[],hh=>hh.elim
theorem QJs {p:List UInt8}{b:List Bool} (h:PB p b) (hp:p≠[]) (he:(enc p).length<=262144):b.length<=20000000:=by
 obtain ⟨σ,ho,rfl⟩:=h;obtain ⟨u1,u2⟩:=P5 (Sz hp);have hlen:=(Vt ho (Sz hp)).2.2.2.1;have hb:=Qdu (Z7 ho (Sz hp) he);have hn:=Qdv (A9 (enc p));have hh:=Z8 p (σ.idxOf 0);unfold Fy;unfold Iy at hb;change (Ex (Bu (enc p) σ).1 (Bu (enc p) σ).2).length+(E7 (Bu (enc p) σ).1 (Bu (enc p) σ).2 (Ch (enc p) σ) 0).length<=_ at hb;simp only [Y4,Xq,Yq,Yb];unfold Ds at hb;omega
theorem Qh5:∀ (ps:List (List UInt8)) (bs:List (List Bool)),L3 ps bs->(∀ p∈ps,p≠[]/\(enc p).length<=262144)->bs.flatten.length<=ps.length * 20000000
 | [],[],_,_=>by simp
 | p::ps,b::bs,hh,hp=>by
  have h1:=Qh5 ps bs hh.2 fun q hq=>hp q (by simp [hq]);obtain ⟨a1,a2⟩:=hp p (by simp);have h2:=QJs hh.1 a1 a2;rw [Y4,Yb,Yt];omega
 | [],_::_,hh,_=>hh.elim
 | _::_,[],hh,_=>hh.elim
def Ib (level:Nat) (bs:List (List Bool)) (sums:List Nat):List Bool :=
 At [66,90,104,Xc (48+level)]++bs.flatten++A0 48 25779555029136++A0 32 (Ii sums)
def PackOk (s:List UInt8) (level most:Int) (v:Value):Prop :=
 if level < 1∨9 < level∨most < 1∨min (level * 100000) 262144 < most then v=.tuple #[Aa [],.int .i64 2]
 else if 262144 < s.length then v=.tuple #[Aa [],.int .i64 3]
 else ∃ bs,L3 (Cz s most) bs/\v=.tuple #[Aa (Bi (Ib level.toNat bs ((Cz s most).map Cd))),.int .i64 0]
theorem QEz {p:List UInt8}{b:List Bool} (h:PB p b) (hp:p≠[]) (hl:p.length<=262144) {bits:List Bool}{at_:Nat}{r:List Bool} (hd:bits.drop at_=b++r) {most:Int} (h0:((enc p).length:Int)<=most) (h1:most<=262144) :
  Ke bits at_ most=.ok (p,Cd p,at_+b.length):=by
 obtain ⟨σ,ho,rfl⟩:=h;have he:=Xn.2 (Sz hp);rw [Qr6 ho hp hl (by omega) hd (by omega) h1,if_pos h0]
theorem Qpu {p:List UInt8}{b:List Bool} (h:PB p b):∃ t,b=A0 48 54156738319193++t:=by
 obtain ⟨σ,_,rfl⟩:=h;rw [Qd2,Qu];simp only [Ys];exact ⟨_,rfl⟩
theorem Qpv {s:List UInt8}{room:Int} (hr1:room<=262144) {r:List Bool}:∀ (ps:List (List UInt8)) (bs:List (List Bool)) (f bit:Nat) (out:List UInt8) (sums:List Nat),L3 ps bs ->
  (∀ p∈ps,p≠[]/\p.length<=262144/\((enc p).length:Int)<=room)->out.length+ps.flatten.length<=262144->ps.length < f->bit<=8 * s.length->(∀ x∈sums,x < 4294967296) ->
  (At s).drop bit=bs.flatten++(A0 48 25779555029136++(A0 32 (Ii (sums++ps.map Cd))++r)) ->
  L2 s room f bit out sums=.ok (out++ps.flatten,(bit+bs.flatten.length+87) / 8)
 | [],[],f,bit,out,sums,_,_,_,hf,hb,h32,hd=>by
  obtain ⟨f,rfl⟩:∃ k,f=k+1:=⟨f - 1,by simp only [Xb] at hf;omega⟩;simp only [Xq,Ye,List.map_nil,Yq] at hd;obtain ⟨a1,a2,a3⟩:=Ra (n:=48) (by omega) (by decide) hd;obtain ⟨b1,b2,b3⟩:=Ra (n:=32) (by omega) (Wt sums h32) a3;rw [D0] at a1 b1;rw [L2,if_neg (by omega),a2,if_pos rfl,if_neg (by omega),b2,if_neg (by simp)];simp
 | p::ps,b::bs,f,bit,out,sums,hh,hp,ho,hf,hb,h32,hd=>by
  obtain ⟨f,rfl⟩:∃ k,f=k+1:=⟨f - 1,by simp only [Yt] at hf;omega⟩;obtain ⟨p1,p2,p3⟩:=hp p (by simp);simp only [Y4,Yb,Yt,List.map_cons,Ys] at hd ho hf;obtain ⟨t,ht⟩:=Qpu hh.1;have hd2:=hd;rw [ht,Ys] at hd2;obtain ⟨a1,a2,a3⟩:=Ra (n:=48) (by omega) (by decide) hd2;have htk:=QEz hh.1 p1 p2 hd p3 hr1;have hle:=congrArg Xv hd;rw [Yu,Yb,D0] at hle;rw [D0] at a1
  have hroom:1<=room:=by
   have he:=Xn.2 (Sz p1);omega
  rw [L2,if_neg (by omega),a2,if_neg (by decide),if_pos rfl,Lf,if_neg (by omega),X4,htk];simp only
  rw [if_neg (by omega),Qpv (r:=r) hr1 ps bs f (bit+b.length) (out++p) (sums++[Cd p]) hh.2 (fun q hq=>hp q (by simp [hq])) (by rw [Yb];omega) (by omega) (by omega) (fun x hx=>by
    rcases Uc.1 hx with hx | hx
    ·
     exact h32 x hx
    simp only [Xz] at hx;subst hx;exact Qbk p)]
  ·
   simp only [Y4,Ys,Yb,Nat.add_assoc]
  rw [<- U3,hd,List.drop_left];simp only [Ys,Yl,Ye]
 | [],_::_,_,_,_,_,hh,_,_,_,_,_,_=>hh.elim
 | _::_,[],_,_,_,_,hh,_,_,_,_,_,_=>hh.elim
theorem Qz5 {x y:List UInt8}{level:Nat} (h1:1<=level) (h9:level<=9):E3 (x++([66,90,104,Xc (48+level)]++y)) x.length 0 4=(level,0):=by
 have hg:∀ i,(x++([66,90,104,Xc (48+level)]++y)).getD (x.length+i) 0=([66,90,104,Xc (48+level)]++y).getD i 0:=by
  intro i;simp only [Ym];rw [Xi (by omega)]
  congr 2
  omega
 have hl:∀ i,i < 4->¬ ((x++([66,90,104,Xc (48+level)]++y)).length<=x.length+i):=by
  intro i hi;simp only [Yb,Yt];omega
 have hn:(Xc (48+level)).toNat=48+level:=Tq (by omega);simp only [E3,hg,U8];rw [if_neg (hl 0 (by omega)),if_neg (hl 1 (by omega)),if_neg (hl 2 (by omega)),if_neg (hl 3 (by omega))];rw [if_neg (by unfold M5;simp),if_neg (by unfold M5;simp),if_neg (by unfold M5;simp),if_neg (by unfold M5;simp [hn];omega)];simp only [hg,Yl,List.getD_cons_succ,List.getD_cons_zero,hn]
 congr 1
 omega
theorem Qsg {s x y:List UInt8}{level:Nat}{most:Int}{bs:List (List Bool)} (h1:1<=level) (h9:level<=9) (hm:1<=most) (hm2:most<=min ((level:Int) * 100000) 262144) (hs:s.length<=262144) (hb:L3 (Cz s most) bs) :
  Ia (x++(Bi (Ib level bs ((Cz s most).map Cd))++y)) x.length=.ok (s,x.length+(Bi (Ib level bs ((Cz s most).map Cd))).length):=by
 obtain ⟨c1,c2,c3⟩:=Qff hm s.length s (Y5 _)
 obtain ⟨q,hq⟩:∃ q,Bi (Ib level bs ((Cz s most).map Cd))=[66,90,104,Xc (48+level)]++q:=by
  unfold Ib;rw [Ys,Ys,Qbo _ _ (by rw [D0];simp),Qcx];exact ⟨_,rfl⟩
 have hbits:=Nx (Ib level bs ((Cz s most).map Cd));have htl:=L4 (Ib level bs ((Cz s most).map Cd))
 have hsl:(Ib level bs ((Cz s most).map Cd)).length=32+bs.flatten.length+80:=by
  unfold Ib;simp only [Yb,Ct,D0,Yt,Xb]
 generalize hT:Bi (Ib level bs ((Cz s most).map Cd))=T at *;have hhd:=Qz5 (x:=x) (y:=q++y) h1 h9;rw [<- Ys [66,90,104,_],<- hq] at hhd;rw [Ia,if_neg (by simp;omega),X4,hhd,if_neg (by simp)]
 rw [Qpv (r:=Yc (8 * (((Ib level bs ((Cz s most).map Cd)).length+7) / 8) - (Ib level bs ((Cz s most).map Cd)).length) false++At y) (by omega) (Cz s most) bs _ _ [] [] hb (fun p hp=>by
   obtain ⟨a1,a2,a3⟩:=c3 p hp;exact ⟨a1,by omega,by show _<=min ((level:Int) * 100000) 262144;omega⟩) (by rw [c1];simpa using hs) (by
   have:=Vu _ _ hb
   have:(Cz s most).length<=bs.flatten.length:=by
    have key:∀ (ps:List (List UInt8)) (bs:List (List Bool)),L3 ps bs->ps.length<=bs.flatten.length:=by
     intro ps
     induction ps with
     | nil=>intro bs _;simp
     | cons p ps ih =>
      intro bs h;cases bs with
      | nil=>exact h.elim
      | cons b bs =>
       have h2:=ih bs h.2;obtain ⟨t,ht⟩:=Qpu h.1;rw [Y4,Yb,Yt,ht,Yb,Ct];omega
    exact key _ _ hb
   simp only [Yb];omega) (by simp only [Yb];omega) (by simp) ?_]
 ·
  rw [c1];simp only [Ye]
  congr 2
  omega
 rw [R5,R5,show 8 * (x.length+4)=(At x).length+32 by rw [D0];omega,<- U3,List.drop_left,hbits];unfold Ib;simp only [Ys];rw [Uv (by rw [D0];rfl)];simp
theorem Ow {α:Type}{l x:List α}{a n:Nat} (h:a+n<=l.length):((l++x).drop a).take n=(l.drop a).take n:=by
 rw [Yy (by omega),Xf (by rw [Yu];omega)]
theorem Qd6 {l x:List Bool}{a n:Nat} (h:(Dq l a n).2=0):Dq (l++x) a n=Dq l a n/\a+n<=l.length:=by
 unfold Dq at h ⊢;split at h
 ·
  cases h
 rename_i hn;rw [if_neg (by rw [Yb];omega),if_neg hn,Ow (by omega)];exact ⟨rfl,by omega⟩
theorem QE0 {l x:List Bool}{a:Nat} (h:(Dc l a).2.2.2=0):Dc (l++x) a=Dc l a:=by
 obtain ⟨_,h1,_⟩:=(Qs7 l a).resolve_right (fun hh=>by omega);unfold Dc;simp only [Yb]
 rw [if_neg (show ¬ l.length < a+48 by omega),if_neg (show ¬ l.length < a+80 by omega),if_neg (show ¬ l.length < a+81 by omega),if_neg (show ¬ l.length < a+105 by omega),
  if_neg (show ¬ l.length+x.length < a+48 by omega),if_neg (show ¬ l.length+x.length < a+80 by omega),if_neg (show ¬ l.length+x.length < a+81 by omega),if_neg (show ¬ l.length+x.length < a+105 by omega),
  Ow (show a+48<=l.length by omega),Ow (show a+80+1<=l.length by omega),Ow (show a+48+32<=l.length by omega),Ow (show a+81+24<=l.length by omega)]
theorem Qt6 {x:List Bool}{most:Nat}:∀ (r:List Bool) (n:Nat),(C0 r most n).2=0->C0 (r++x) most n=C0 r most n/\(C0 r most n).1+1<=n+r.length
 | [],n,h=>by cases h
 | false::r,n,h=>⟨rfl,by show n+1<=n+(r.length+1);omega⟩
 | true::r,n,h=>by
  rw [Yl,C0,C0];rw [C0] at h;split at h
  ·
   cases h
  rename_i hn;rw [if_neg hn,if_neg hn];obtain ⟨h1,h2⟩:=Qt6 (x:=x) r (n+1) h;exact ⟨h1,by rw [Yt];omega⟩
theorem Qj4 {l:List Nat}{x:List Bool}:∀ (r:List Bool) (n c:Nat) (q:Nat×Nat),Eo l r n c=.ok q->Eo l (r++x) n c=.ok q
 | [],n,c,q,h=>by rw [Eo] at h;cases h
 | b::r,n,c,q,h=>by
  rw [Yl,Eo];rw [Eo] at h;split at h
  ·
   rename_i hc;rw [if_pos hc];exact h
  rename_i hc;rw [if_neg hc];split at h
  ·
   rename_i hd;rw [if_pos hd];exact Qj4 r _ _ _ h
  cases h
theorem Qws {l:List Nat}{bits x:List Bool}{a:Nat}{q:Nat×Nat} (ha:a<=bits.length) (h:F9 l bits a=.ok q):F9 l (bits++x) a=.ok q:=by
 unfold F9 at h ⊢;rw [Yy ha];split at h
 ·
  rename_i p hp;rw [Qj4 _ _ _ _ hp];exact h
 cases h
theorem Qj5 {l:List Nat}{bits x:List Bool}{fin:Nat}:∀ (n a:Nat) (q:List Nat×Nat),a<=bits.length->C5 l bits fin n a=.ok q->C5 l (bits++x) fin n a=.ok q
 | 0,a,q,_,h=>h
 | n+1,a,q,ha,h=>by
  rw [C5] at h ⊢;split at h
  ·
   cases h
  rename_i p hp;have hb:=Qjp hp;rw [Qws ha hp];simp only;split at h
  ·
   rename_i hf;rw [if_pos hf];exact h
  rename_i hf;rw [if_neg hf];split at h
  ·
   cases h
  rename_i q' hq;rw [Qj5 n _ _ hb.2.2 hq];exact h
theorem Qj6 {T:List (List Nat)}{bits x:List Bool}{fin:Nat}:∀ (P:List Nat) (a:Nat) (q:List Nat×Nat),a<=bits.length->Ef T bits fin P a=.ok q->Ef T (bits++x) fin P a=.ok q
 | [],a,q,_,h=>by rw [Ef] at h;cases h
 | p::P,a,q,ha,h=>by
  rw [Ef] at h ⊢;split at h
  ·
   cases h
  rename_i q1 h1;have hb:=Qdz _ _ _ ha h1;rw [Qj5 _ _ _ ha h1];simp only;split at h
  ·
   rename_i hf;rw [if_pos hf];exact h
  rename_i hf;rw [if_neg hf];split at h
  ·
   cases h
  rename_i q' hq;rw [Qj6 P _ _ hb.2.2.1 hq];exact h
theorem Zi (r:List Bool) (now a:Nat):Bv r now 0 a=.ok ([],a):=by
 rcases r with _ | ⟨_ | _,_ | ⟨d,r⟩⟩ <;> rw [Bv] <;> simp
theorem Qh6 {x:List Bool}:∀ (r:List Bool) (now k a:Nat) (q:List Nat×Nat),Bv r now k a=.ok q->Bv (r++x) now k a=.ok q
 | [],now,k,a,q,h=>by
  by_cases hk:k=0
  ·
   subst hk;rw [Zi] at h ⊢;exact h
  rw [Bv,if_neg hk] at h;split at h <;> cases h
 | false::r,now,k,a,q,h=>by
  by_cases hk:k=0
  ·
   subst hk;rw [Zi] at h ⊢;exact h
  rw [Yl,Bv,if_neg hk];rw [Bv,if_neg hk] at h;split at h
  ·
   cases h
  rename_i hn;rw [if_neg hn];split at h
  ·
   cases h
  rename_i q' hq;rw [Qh6 r _ _ _ _ hq];exact h
 | [true],now,k,a,q,h=>by
  by_cases hk:k=0
  ·
   subst hk;rw [Zi] at h ⊢;exact h
  rw [Bv,if_neg hk] at h;split at h <;> cases h
 | true::d::r,now,k,a,q,h=>by
  by_cases hk:k=0
  ·
   subst hk;rw [Zi] at h ⊢;exact h
  rw [Yl,Yl,Bv,if_neg hk];rw [Bv,if_neg hk] at h;split at h
  ·
   cases h
  rename_i hn;rw [if_neg hn];exact Qh6 r _ _ _ _ h
theorem Qf4 {bits x:List Bool}{a n:Nat}{q:List Nat×Nat} (h:Kn bits a n=.ok q):Kn (bits++x) a n=.ok q:=by
 unfold Kn at h ⊢;split at h
 ·
  cases h
 rename_i h0;obtain ⟨h1,h2⟩:=Qd6 (x:=x) (show (Dq bits a 5).2=0 by omega);rw [h1,if_neg h0,Yy h2];exact Qh6 _ _ _ _ _ h
theorem Qpw {bits x:List Bool}{n:Nat}:∀ (k a:Nat) (q:List (List Nat)×Nat),Ft bits n k a=.ok q->Ft (bits++x) n k a=.ok q
 | 0,a,q,h=>h
 | k+1,a,q,h=>by
  rw [Ft] at h ⊢;split at h
  ·
   cases h
  rename_i q1 h1;rw [Qf4 h1];simp only;split at h
  ·
   cases h
  rename_i hf;rw [if_neg hf];split at h
  ·
   cases h
  rename_i q' hq;rw [Qpw k _ _ hq];exact h
theorem Qpx {bits x:List Bool}{many:Nat}:∀ (k:Nat) (li:List Nat) (a:Nat) (q:List Nat×Nat),a<=bits.length->Fs bits many li k a=.ok q->Fs (bits++x) many li k a=.ok q
 | 0,li,a,q,_,h=>h
 | k+1,li,a,q,ha,h=>by
  rw [Fs] at h ⊢;rw [Yy ha];split at h
  ·
   cases h
  rename_i h0;obtain ⟨h1,h2⟩:=Qt6 (x:=x) (most:=many - 1) (bits.drop a) 0 (by omega);rw [Yu] at h2;rw [h1,if_neg h0];split at h
  ·
   cases h
  rename_i q' hq;rw [Qpx k _ _ _ (by omega) hq];exact h
theorem Qlp {bits x:List Bool}{a n:Nat}{q:(List (List Nat)×List Nat)×Nat} (h:I7 bits a n=.ok q):I7 (bits++x) a n=.ok q:=by
 unfold I7 at h ⊢;split at h
 ·
  cases h
 rename_i h0;obtain ⟨h1,_⟩:=Qd6 (x:=x) (show (Dq bits a 3).2=0 by omega);rw [h1,if_neg h0];split at h
 ·
  cases h
 rename_i g1;rw [if_neg g1];split at h
 ·
  cases h
 rename_i h2;obtain ⟨h3,h4⟩:=Qd6 (x:=x) (show (Dq bits (a+3) 15).2=0 by omega);rw [h3,if_neg h2];split at h
 ·
  cases h
 rename_i g2;rw [if_neg g2];split at h
 ·
  cases h
 rename_i q1 hq1;rw [Qpx _ _ _ _ (by omega) hq1];simp only;split at h
 ·
  cases h
 rename_i q2 hq2;rw [Qpw _ _ _ hq2];exact h
theorem Qh7 {bits x:List Bool}:∀ (r:List Bool) (i a:Nat) (q:List UInt8×Nat),C9 bits r i a=.ok q->C9 (bits++x) r i a=.ok q
 | [],i,a,q,h=>h
 | false::r,i,a,q,h=>by
  rw [C9] at h ⊢;exact Qh7 r _ _ _ h
 | true::r,i,a,q,h=>by
  rw [C9] at h ⊢;split at h
  ·
   cases h
  rename_i h0;rw [if_neg (by rw [Yb];omega)];split at h
  ·
   cases h
  rename_i q' hq;rw [Qh7 r _ _ _ hq,Ow (by omega)];exact h
theorem Qlq {bits x:List Bool}{a:Nat}{q:List UInt8×Nat} (h:Kq bits a=.ok q):Kq (bits++x) a=.ok q:=by
 unfold Kq at h ⊢;split at h
 ·
  cases h
 rename_i h0;rw [if_neg (by rw [Yb];omega),Ow (by omega)];split at h
 ·
  cases h
 rename_i q' hq;rw [Qh7 _ _ _ _ hq];exact h
theorem Qwt {bits x:List Bool}{a:Nat}{most:Int}{r:List UInt8×Nat×Nat} (h:Ke bits a most=.ok r):Ke (bits++x) a most=.ok r:=by
 unfold Ke at h ⊢;split at h
 ·
  cases h
 rename_i h0;rw [QE0 (show (Dc bits a).2.2.2=0 by omega),if_neg h0];split at h
 ·
  cases h
 rename_i u hu;rw [Qlq hu];simp only;split at h
 ·
  cases h
 rename_i p hp;rw [Qlp hp];simp only;split at h
 ·
  cases h
 rename_i q hq;rw [Qj6 _ _ _ (Qba (by have:=Qbg hu;omega) hp).2.2 hq];exact h
theorem Qwu {s y:List UInt8}{a:Nat}{most:Int}{r:List UInt8×Nat×Nat} (h:Lf s a most=.ok r):Lf (s++y) a most=.ok r:=by
 unfold Lf at h ⊢;split at h
 ·
  cases h
 rename_i h0;rw [if_neg (by rw [Yb];omega),R5];exact Qwt h
theorem Qt7 {s y:List UInt8}{room:Int}:∀ (f g bit:Nat) (out:List UInt8) (sums:List Nat) (r:List UInt8×Nat),f<=g->L2 s room f bit out sums=.ok r->L2 (s++y) room g bit out sums=.ok r
 | 0,g,bit,out,sums,r,_,h=>by cases h
 | f+1,0,bit,out,sums,r,hg,h=>by omega
 | f+1,g+1,bit,out,sums,r,hg,h=>by
  have hbl:=D0 s;rw [L2] at h ⊢;rw [R5];split at h
  ·
   cases h
  rename_i h0;rw [if_neg (by rw [Yb];omega),Ow (by omega)];split at h
  ·
   rename_i h1;rw [if_pos h1];split at h
   ·
    cases h
   rename_i h2;rw [if_neg (by rw [Yb];omega),Ow (by omega)];exact h
  rename_i h1;rw [if_neg h1];split at h
  ·
   rename_i h2;rw [if_pos h2];split at h
   ·
    cases h
   rename_i r' hr;rw [Qwu hr];simp only;split at h
   ·
    cases h
   rename_i h3;rw [if_neg h3];exact Qt7 f g _ _ _ _ (by omega) h
  cases h
theorem Qt8 {s y:List UInt8}{a:Nat}:∀ (k i:Nat),i+k=4->(E3 s a i k).2=0->(0 < i->a+i<=s.length)->E3 (s++y) a i k=E3 s a i k
 | 0,i,hi,h,hl=>by
  have:=hl (by omega);rw [E3,E3]
  congr 3
  simp only [Ym];rw [Yz (by omega)]
 | k+1,i,hi,h,hl=>by
  rw [E3] at h;split at h
  ·
   cases h
  rename_i h0
  have e:(s++y).getD (a+i) 0=s.getD (a+i) 0:=by
   simp only [Ym];rw [Yz (by omega)]
  rw [E3,E3,e,if_neg h0,if_neg (by rw [Yb];omega)];split at h
  ·
   cases h
  rename_i h1;rw [if_neg h1,if_neg h1];exact Qt8 k (i+1) (by omega) h (fun _=>by omega)
theorem Qwv {s y:List UInt8}{a:Nat}{r:List UInt8×Nat} (h:Ia s a=.ok r):Ia (s++y) a=.ok r:=by
 unfold Ia at h ⊢;split at h
 ·
  cases h
 rename_i h0;rw [if_neg (by rw [Yb];omega)];rw [X4] at h ⊢;split at h
 ·
  cases h
 rename_i h1;rw [Qt8 4 0 rfl (by omega) (by omega),if_neg h1];exact Qt7 _ _ _ _ _ _ (by rw [Yb];omega) h
def Pk (s T:List UInt8):Prop:=∃ (level:Nat) (most:Int) (bs:List (List Bool)),(1<=level/\level<=9/\1<=most/\most<=min ((level:Int) * 100000) 262144/\s.length<=262144)/\L3 (Cz s most) bs/\T=Bi (Ib level bs ((Cz s most).map Cd))
theorem PackOk.pk {s:List UInt8}{level most:Int}{v:Value} (h:PackOk s level most v) (h1:¬ (level < 1∨9 < level∨most < 1∨min (level * 100000) 262144 < most)) (hs:s.length<=262144) :
  ∃ T,Pk s T/\v=.tuple #[Aa T,.int .i64 0]:=by
 rw [PackOk,if_neg h1,if_neg (by omega)] at h;obtain ⟨bs,hb,rfl⟩:=h;exact ⟨_,⟨level.toNat,most,bs,by omega,hb,rfl⟩,rfl⟩
theorem Qj7 (level:Nat) (bs:List (List Bool)) (sums:List Nat):(Ib level bs sums).length=112+bs.flatten.length:=by
 unfold Ib;simp only [Yb,Ct,D0,Yt,Xb];omega
theorem Pk.len {s T:List UInt8} (h:Pk s T):14<=T.length/\T.length<=15+s.length * 2500000:=by
 obtain ⟨level,most,bs,hx,hb,rfl⟩:=h;obtain ⟨c1,c2,c3⟩:=Qff (most:=most) (by omega) s.length s (Y5 _)
 have:=Qh5 _ _ hb fun p hp=>by
  obtain ⟨a,b,c⟩:=c3 p hp;exact ⟨a,by omega⟩
 rw [L4,Qj7];omega
theorem Pk.take {s T:List UInt8} (h:Pk s T) (x y:List UInt8):Ia (x++(T++y)) x.length=.ok (s,x.length+T.length):=by
 obtain ⟨level,most,bs,hx,hb,rfl⟩:=h;exact Qsg hx.1 hx.2.1 hx.2.2.1 hx.2.2.2.1 hx.2.2.2.2 hb
theorem QE1 {s:List UInt8}{most:Int} (hs:s≠[]) (hm:1<=most) (hl:((s.length+s.length / 4:Nat):Int)<=most):Cz s most=[s]:=by
 obtain ⟨h1,_,_,h4⟩:=QAm s.length s most (Y5 _)
 have hf:Db s most=s.length:=by
  rcases h4 with h4 | h4
  ·
   exact h4
  have h5:=Qci (s.take (Db s most+1));have h6:(s.take (Db s most+1)).length<=s.length:=by rw [Yv];omega
  omega
 rw [Qd5 hs hm,hf,Us,List.drop_length,Vl]
theorem Qsh {s:List UInt8}{level most:Int}{v:Value} (h:PackOk s level most v) (h1:1<=level/\level<=9) (hm:most<=100000) (h2:((s.length+s.length / 4:Nat):Int)<=most) (h0:1<=most) (hl:s.length<=20000) :
  ∃ T,Pk s T/\v=.tuple #[Aa T,.int .i64 0]/\T.length<=s.length+s.length / 2+600:=by
 rw [PackOk,if_neg (by omega),if_neg (by omega)] at h;obtain ⟨bs,hb,rfl⟩:=h;refine ⟨_,⟨level.toNat,most,bs,by omega,hb,rfl⟩,rfl,?_⟩;rw [L4,Qj7];by_cases hs:s=[]
 ·
  subst hs;rw [Vl] at hb;cases bs with
  | nil=>simp
  | cons b bs=>exact hb.elim
 rw [QE1 hs h0 h2] at hb
 obtain ⟨b,rfl⟩:∃ b,bs=[b]:=by
  have:=Vu _ _ hb;cases bs with
  | nil=>cases this
  | cons b bs=>cases bs with
   | nil=>exact ⟨b,rfl⟩
   | cons c bs=>cases this
 obtain ⟨⟨σ,ho,rfl⟩,_⟩:=hb;have:=Qwf ho hs hl;simp only [Y4,Xq,Yq];omega
def Lt:List UInt8->List UInt8×List (List UInt8)
 | []=>([],[])
 | b::s=>if b=47 then ([],(Lt s).1::(Lt s).2) else (b::(Lt s).1,(Lt s).2)
def Df (s:List UInt8):List (List UInt8):=(Lt s).1::(Lt s).2
def Ep (l:List (List UInt8)):List UInt8:=Lib.join l [47]
theorem Qsi {a:List UInt8} (r:List UInt8) (h:(47:UInt8) ∉ a):Lt (a++47::r)=(a,Df r):=by
 induction a with
 | nil=>simp [Lt,Df]
 | cons b a ih =>
  simp only [Xh,not_or] at h;rw [Yl,Lt,if_neg (fun e=>h.1 e.symm),ih h.2]
theorem Qsj {a:List UInt8} (h:(47:UInt8) ∉ a):Lt a=(a,[]):=by
 induction a with
 | nil=>rfl
 | cons b a ih =>
  simp only [Xh,not_or] at h;rw [Lt,if_neg (fun e=>h.1 e.symm),ih h.2]
theorem Qcp {a:List UInt8} (r:List UInt8) (h:(47:UInt8) ∉ a):Df (a++47::r)=a::Df r:=by
 rw [Df,Qsi r h]
theorem Qcq {a:List UInt8} (h:(47:UInt8) ∉ a):Df a=[a]:=by
 rw [Df,Qsj h]
theorem Qob (s:List UInt8):(47:UInt8) ∉ s∨∃ a r,s=a++47::r/\(47:UInt8) ∉ a:=by
 induction s with
 | nil=>exact .inl (by simp)
 | cons b s ih =>
  by_cases hb:b=47
  ·
   exact .inr ⟨[],s,by simp [hb],by simp⟩
  rcases ih with h | ⟨a,r,rfl,h⟩
  ·
   exact .inl (by simp only [Xh,not_or];exact ⟨fun e=>hb e.symm,h⟩)
  exact .inr ⟨b::a,r,rfl,by simp only [Xh,not_or];exact ⟨fun e=>hb e.symm,h⟩⟩
theorem Qj8 {P:List UInt8->Prop} (h1:∀ a,(47:UInt8) ∉ a->P a) (h2:∀ a r,(47:UInt8) ∉ a->P r->P (a++47::r)):∀ s,P s:=by
 intro s;generalize hn:s.length=n
 induction n using Nat.strongRecOn generalizing s with
 | ind n ih =>
  rcases Qob s with h | ⟨a,r,rfl,h⟩
  ·
   exact h1 s h
  exact h2 a r h (ih r.length (by simp at hn;omega) r rfl)
theorem Tw (x y:List UInt8) (l:List (List UInt8)):Ep (x::y::l)=x++47::Ep (y::l):=by
 simp only [Ep];rw [Lib.join_cons,Lib.join_cons];simp [Lib.joinTail]
theorem Qd7 (x:List UInt8):Ep [x]=x:=Lib.join_one x _
theorem Qww:Ep []=[]:=rfl
theorem Qev:∀ s,Ep (Df s)=s:=by
 refine Qj8 (fun a h=>?_) (fun a r h ih=>?_)
 ·
  rw [Qcq h,Qd7]
 rw [Qcp r h];have e:Df r=(Lt r).1::(Lt r).2:=rfl;rw [e,Tw,<- e,ih]
theorem Qwx {l m:List (List UInt8)} (hl:l≠[]) (hm:m≠[]):Ep (l++m)=Ep l++47::Ep m:=by
 induction l with
 | nil=>simp at hl
 | cons x l ih =>
  cases l with
  | nil =>
   cases m with
   | nil=>simp at hm
   | cons y m=>rw [Y3,Tw,Qd7]
  | cons y l=>rw [Yl,Yl,Tw,<- Yl,ih (by simp),Tw,Ys];rfl
theorem Zj (l:List (List UInt8)) (h:l≠[]):(Ep l).length+1=(l.map fun x=>x.length+1).sum:=by
 induction l with
 | nil=>simp at h
 | cons x l ih =>
  cases l with
  | nil=>simp [Qd7]
  | cons y l =>
   rw [Tw,List.map_cons,U9,<- ih (by simp)];simp;omega
theorem Qlr:∀ s:List UInt8,(Df s).length=s.count 47+1:=by
 refine Qj8 (fun a h=>?_) (fun a r h ih=>?_)
 ·
  rw [Qcq h,Ub h];rfl
 rw [Qcp r h,Yt,ih,List.count_append,Ub h,List.count_cons_self];omega
theorem Qsk (s:List UInt8):(Df s).length<=s.length+1:=by
 rw [Qlr];have:=List.count_le_length (a:=(47:UInt8)) (l:=s);omega
abbrev Lv:=List (List UInt8)
def Pa (b:UInt8):Bool:=decide (32<=b.toNat) && decide (b.toNat<=126)
def Ci (x:List UInt8):Bool:=decide (x≠[]) && decide (x≠[46])
def D6 (s:List UInt8):Option (List UInt8) :=
 if s.all Pa=true/\([46,46]:List UInt8) ∉ Df s/\Ep ((Df s).filter Ci)≠[]/\(Ep ((Df s).filter Ci)).length<=120 then some (Ep ((Df s).filter Ci)) else none
def QAn (o:Option (List UInt8)):Value:=.tuple #[Aa (o.getD []),.int .i64 (if o.isSome then 0 else 140)]
def Qmj (s:List UInt8):Int:=if D6 s=some s then 0 else 140
theorem Qf5 (l:Lv):(Ep (l.filter Ci)).length<=(Ep l).length:=by
 by_cases h:l.filter Ci=[]
 ·
  rw [h];exact Nat.zero_le _
 have hl:l≠[]:=by rintro rfl;exact h rfl
 have h1:=Zj _ h;have h2:=Zj _ hl
 have h3:∀ m:Lv,((m.filter Ci).map fun x=>x.length+1).sum<=(m.map fun x=>x.length+1).sum:=by
  intro m
  induction m with
  | nil=>simp
  | cons x m ih =>
   by_cases hx:Ci x=true
   ·
    simp [X7,hx];omega
   simp [X7,hx];omega
 have:=h3 l;omega
theorem Qoc {s:List UInt8} (h:D6 s=some s):s.all Pa=true/\s.length<=120/\∀ x∈Df s,x≠[]/\x≠[46]/\x≠[46,46]:=by
 unfold D6 at h;split at h
 ·
  rename_i hh;obtain ⟨h1,h2,h3,h4⟩:=hh;have h5:=Option.some.inj h;rw [h5] at h4;refine ⟨h1,h4,?_⟩
  have hall:∀ l:Lv,Ep (l.filter Ci)=Ep l->l.filter Ci≠[]->∀ x∈l,Ci x=true:=by
   intro l he hne x hx;have hl:l≠[]:=by rintro rfl;simp at hx
   have e1:=Zj _ hne;have e2:=Zj _ hl;rw [he] at e1
   have key:∀ m:Lv,((m.filter Ci).map fun x=>x.length+1).sum<=(m.map fun x=>x.length+1).sum/\(x∈m->¬ Ci x=true->((m.filter Ci).map fun x=>x.length+1).sum < (m.map fun x=>x.length+1).sum):=by
    intro m
    induction m with
    | nil=>simp
    | cons y m ih =>
     by_cases hy:Ci y=true
     ·
      simp only [X7,hy,if_true,List.map_cons,U9];refine ⟨by omega,fun hm hk=>?_⟩;rcases Xh.1 hm with rfl | hm
      ·
       exact absurd hy hk
      have:=ih.2 hm hk;omega
     simp only [X7,hy,List.map_cons,U9];refine ⟨?_,fun hm hk=>?_⟩
     ·
      simp;omega
     simp;omega
   rcases Bool.eq_false_or_eq_true (Ci x) with hk | hk
   ·
    exact hk
   have:=(key l).2 hx (by simp [hk]);omega
  have hne:(Df s).filter Ci≠[]:=by
   intro e;rw [e] at h3;exact h3 rfl
  have:=hall (Df s) (by rw [h5,Qev]) hne;intro x hx;have hk:=this x hx;simp [Ci] at hk;exact ⟨hk.1,hk.2,fun e=>h2 (e ▸ hx)⟩
 cases h
def P1 (c T:Bs):Prop:=∃ bs,L3 (Cz c 20000) bs/\T=Bi (Ib 1 bs ((Cz c 20000).map Cd))
theorem Qhb:∀ (ps:List Bs) (bs cs:List (List Bool)),L3 ps bs->L3 ps cs->bs=cs
 | [],[],[],_,_=>rfl
 | p::ps,b::bs,c::cs,h,k=>by
  obtain ⟨⟨σ,ho,rfl⟩,h2⟩:=h;obtain ⟨⟨τ,hp,rfl⟩,k2⟩:=k;rw [ho.unique hp,Qhb ps bs cs h2 k2]
 | [],_::_,_,h,_=>h.elim
 | [],[],_::_,_,k=>k.elim
 | _::_,[],_,h,_=>h.elim
 | _::_,_::_,[],_,k=>k.elim
theorem P1.unique {c T U:Bs} (h:P1 c T) (k:P1 c U):T=U:=by
 obtain ⟨bs,hb,rfl⟩:=h;obtain ⟨cs,hc,rfl⟩:=k;rw [Qhb _ _ _ hb hc]
theorem P1.pk {c T:Bs} (h:P1 c T) (hc:c.length<=262144):Pk c T:=by
 obtain ⟨bs,hb,rfl⟩:=h;exact ⟨1,20000,bs,by omega,hb,rfl⟩
theorem P1.small {c T:Bs} (h:P1 c T) (hc:c.length<=8192):T.length<=c.length+c.length / 2+600:=by
 have hv:PackOk c 1 20000 (.tuple #[Aa T,.int .i64 0]):=by
  rw [PackOk,if_neg (by omega),if_neg (by omega)];obtain ⟨bs,hb,rfl⟩:=h;exact ⟨bs,hb,rfl⟩
 obtain ⟨U,hU,he,hl⟩:=Qsh hv (by omega) (by omega) (by omega) (by omega) (by omega);have:T=U:=by simpa [Aa] using he
 rw [this];exact hl
noncomputable def tS (c:Bs):Bs:=Classical.epsilon (P1 c)
theorem P1.tS {c T:Bs} (h:P1 c T):T=tS c:=h.unique (Classical.epsilon_spec ⟨T,h⟩)
abbrev paxW:Bs:=[112,97,120]
def Lc (p:Bs) (n:Nat):Bs :=
 match Ij p with
 | some q=>Eh q.1 q.2 48 n
 | none=>Eh [] paxW 120 (p.length+10)++(F2 (Ei p)++Eh [] (p.take 100) 48 n)
def Ck (p c T:Bs):Bs:=Lc p c.length++F2 T
noncomputable def makeX (p c:Bs):Except Nat Bs:=if D6 p=some p then (if 8192 < c.length then .error 3 else .ok (Ck p c (tS c))) else .error 140
def Er (s:Bs):Option (Bs×Nat×UInt8):=if s.length < 512 then none else Pg (s.take 512)
def Kf (s:Bs):Option (Bs×Nat) :=
 match Er s with
 | none=>none
 | some (p,n,k) =>
  if k=120 then
   (if 512 < n∨s.length < 1024∨s.length - 512 < n then none else
    match Mi ((s.drop 512).take n) with
    | some [(_,v)] =>
     (match Er (s.drop 1024) with
      | some (q,_,k2)=>if k2=48 then some (if v=[] then q else v,1024) else none
      | none=>none)
    | _=>none)
  else if k=48 then some (p,0) else none
noncomputable def readS (s:Bs):Option (Bs×Bs×Nat) :=
 match Kf s with
 | none=>none
 | some (p,a) =>
  match Ia s ((a+512:Nat):Int) with
  | .error _=>none
  | .ok (c,_) =>
   match makeX p c with
   | .error _=>none
   | .ok own=>if own.isPrefixOf s then some (p,c,own.length) else none
theorem Zk {p:Bs} (h:D6 p=some p):p≠[]/\p.length<=120/\(0:UInt8) ∉ p:=by
 obtain ⟨h1,h2,h3⟩:=Qoc h;refine ⟨?_,h2,fun h0=>?_⟩
 ·
  rintro rfl;exact (h3 [] (by simp [Df,Lt])).1 rfl
 have:=X8.1 h1 0 h0
 revert this;decide
theorem Qls {p:Bs} (h:(0:UInt8) ∉ p) {pre nm:Bs} (he:(if pre=[] then nm else pre++47::nm)=p):(0:UInt8) ∉ pre/\(0:UInt8) ∉ nm:=by
 subst he;split at h
 ·
  rename_i h0;subst h0;exact ⟨by simp,h⟩
 exact ⟨fun hh=>h (by simp [hh]),fun hh=>h (by simp [hh])⟩
theorem Qj9 {p:Bs} (h:D6 p=some p) (n:Nat):(Lc p n).length=if Ij p=none then 1536 else 512:=by
 obtain ⟨h1,h2,h3⟩:=Zk h;rw [Lc];cases hs:Ij p with
 | some q =>
  obtain ⟨a,b⟩:=q;obtain ⟨q1,q2,_⟩:=Wx hs h1;simp [Nc q1 q2]
 | none =>
  have:=Qa2 hs;simp [Nc (show ([]:Bs).length<=155 by simp) (show paxW.length<=100 by simp),Nc (show ([]:Bs).length<=155 by simp) (Xy 100 p),Rh,Su];omega
theorem Qfg {p c T:Bs} (h:D6 p=some p):(Ck p c T).length % 512=0/\(Ck p c T).length<=T.length+2047/\(T≠[]->512 < (Ck p c T).length)/\(Ck p c T).length=(if Ij p=none then 1536 else 512)+(F2 T).length:=by
 have hl:=Qj9 h c.length;have hp:=Rh T;have he:(Ck p c T).length=(if Ij p=none then 1536 else 512)+(F2 T).length:=by rw [Ck,Yb,hl]
 refine ⟨?_,?_,fun hT=>?_,he⟩
 ·
  rw [he,hp];split <;> omega
 ·
  rw [he,hp];split <;> omega
 have:=Xn.2 hT;rw [he,hp];split <;> omega
theorem Qh8 {pre name:Bs} (h:pre.length<=155) (h2:name.length<=100) (hp:(0:UInt8) ∉ pre) (hn:(0:UInt8) ∉ name) (hne:pre=[]->name≠[]) {kind:UInt8} (hk:kind≠0) {size:Nat} (hs:size < 8 ^ 11) (y:Bs) :
  Er (Eh pre name kind size++y)=some (if pre=[] then name else pre++47::name,size,kind):=by
 have hl:=Nc h h2 kind size;rw [Er,if_neg (by rw [Yb];omega),Uw hl,Qym h h2 hp hn hne hk hs]
theorem Qpy {c T x y:Bs} (h:Pk c T) {a:Nat} (hx:x.length=a):Ia (x++(T++y)) ((a:Nat):Int)=.ok (c,a+T.length):=by
 subst hx;exact h.take x y
theorem Qka {p c:Bs} (h:D6 p=some p) (hc:c.length<=8192) (ht:P1 c (tS c)) (y:Bs):readS (Ck p c (tS c)++y)=some (p,c,(Ck p c (tS c)).length):=by
 obtain ⟨h1,h2,h3⟩:=Zk h;have hm:makeX p c=.ok (Ck p c (tS c)):=by rw [makeX,if_pos h,if_neg (by omega)]
 have hpk:=ht.pk (by omega);have hpre:(Ck p c (tS c)).isPrefixOf (Ck p c (tS c)++y)=true:=Xk.2 (Gb _ _)
 suffices hh:∃ a,Kf (Ck p c (tS c)++y)=some (p,a)/\Ia (Ck p c (tS c)++y) ((a+512:Nat):Int)=.ok (c,a+512+(tS c).length) by
  obtain ⟨a,e1,e2⟩:=hh;rw [readS,e1];simp only [e2,hm];rw [if_pos hpre]
 generalize tS c=T at *;have hpad:F2 T=T++Bh ((512 - T.length % 512) % 512):=rfl;cases hs:Ij p with
 | some q =>
  obtain ⟨pre,nm⟩:=q;obtain ⟨q1,q2,q3,q4⟩:=Wx hs h1;obtain ⟨z1,z2⟩:=Qls h3 q4
  have e:Ck p c T++y=Eh pre nm 48 c.length++(T++(Bh ((512 - T.length % 512) % 512)++y)):=by
   rw [Ck,Lc,hs,hpad];simp
  refine ⟨0,?_,?_⟩
  ·
   rw [e,Kf,Qh8 q1 q2 z1 z2 q3 (by decide) (by omega),q4];rfl
  rw [e,X3];exact Qpy hpk (Nc q1 q2 _ _)
 | none =>
  have h100:=Qa2 hs
  have e:Ck p c T++y=Eh [] paxW 120 (p.length+10)++(Ei p++(Bh ((512 - (Ei p).length % 512) % 512)++(Eh [] (p.take 100) 48 c.length++(T++(Bh ((512 - T.length % 512) % 512)++y))))):=by
   rw [Ck,Lc,hs,hpad,F2];simp
  have l1:=Nc (show ([]:Bs).length<=155 by simp) (show paxW.length<=100 by simp) 120 (p.length+10);have l2:=Nc (show ([]:Bs).length<=155 by simp) (Xy 100 p) 48 c.length;have l3:=Su p;have hne:p.take 100≠[]:=fun hh=>by have:=congrArg Xv hh;rw [Yv,Xb] at this;omega
  have hz:(0:UInt8) ∉ p.take 100:=fun hh=>h3 (X9 hh);have hh:=Qh8 (show ([]:Bs).length<=155 by simp) (Xy 100 p) (by simp) hz (fun _=>hne) (show (48:UInt8)≠0 by decide) (show c.length < 8 ^ 11 by omega) (T++(Bh ((512 - T.length % 512) % 512)++y));rw [if_pos rfl] at hh
  have hd:(Ck p c T++y).drop 1024=Eh [] (p.take 100) 48 c.length++(T++(Bh ((512 - T.length % 512) % 512)++y)):=by
   rw [show Ck p c T++y=(Eh [] paxW 120 (p.length+10)++(Ei p++Bh ((512 - (Ei p).length % 512) % 512)))++(Eh [] (p.take 100) 48 c.length++(T++(Bh ((512 - T.length % 512) % 512)++y))) by rw [e];simp];exact Uv (by rw [Yb,Yb,l1,l3,Ey];omega)
  have hr:((Ck p c T++y).drop 512).take (p.length+10)=Ei p:=by
   rw [e,Uv l1,Uw l3]
  have hlen:1024<=(Ck p c T++y).length:=by
   rw [e];simp only [Yb,l1,l2,l3];omega
  refine ⟨1024,?_,?_⟩
  ·
   rw [Kf,show Er (Ck p c T++y)=some (paxW,p.length+10,120) by
    rw [e,Qh8 (by simp) (by simp) (by simp) (by decide) (by simp) (by decide) (by omega),if_pos rfl]]
   have hbad:¬(512 < p.length+10∨(Ck p c T++y).length < 1024∨(Ck p c T++y).length - 512 < p.length+10):=by omega
   simp only [if_true,hbad,if_false,hr,Qyp h100 h2,hd,hh,h1]
  rw [show Ck p c T++y=(Eh [] paxW 120 (p.length+10)++(Ei p++(Bh ((512 - (Ei p).length % 512) % 512)++Eh [] (p.take 100) 48 c.length)))++(T++(Bh ((512 - T.length % 512) % 512)++y)) by rw [e];simp];exact Qpy hpk (by rw [Yb,Yb,Yb,l1,l2,l3,Ey];omega)
theorem Qkb {s:Bs}{r:Bs×Nat×UInt8} (h:Er s=some r) (y:Bs):Er (s++y)=some r:=by
 rw [Er] at h ⊢;split at h
 ·
  cases h
 rw [if_neg (by rw [Yb];omega),Xf (by omega)];exact h
theorem Qwy {s:Bs}{r:Bs×Nat} (h:Kf s=some r) (y:Bs):Kf (s++y)=some r:=by
 unfold Kf at h ⊢;split at h
 ·
  cases h
 rename_i p n k hs;rw [Qkb hs y];simp only;split at h
 ·
  rename_i hk;rw [if_pos hk];split at h
  ·
   cases h
  rename_i hn
  have e1:((s++y).drop 512).take n=(s.drop 512).take n:=by
   rw [Yy (by omega),Xf (by simp;omega)]
  have e2:(s++y).drop 1024=s.drop 1024++y:=Yy (by omega);rw [if_neg (by rw [Yb];omega),e1,e2];split at h
  ·
   rename_i x v hp
   first | rw [hp] | skip
   split at h
   ·
    rename_i q n2 k2 hq;rw [Qkb hq y];exact h
   cases h
  cases h
 rename_i hk;rw [if_neg hk];exact h
theorem Qpz {s:Bs}{r:Bs×Bs×Nat} (h:readS s=some r) (y:Bs):readS (s++y)=some r:=by
 unfold readS at h ⊢;split at h
 ·
  cases h
 rename_i p a hn;rw [Qwy hn y];simp only;split at h
 ·
  cases h
 rename_i c b ht;rw [Qwv ht];simp only;split at h
 ·
  cases h
 rename_i own hm
 first | (rw [hm];simp only) | skip
 split at h
 ·
  rename_i hp;rw [if_pos (Xk.2 ((Xk.1 hp).trans (Gb _ _)))];exact h
 cases h
theorem Qwz {s p c:Bs}{n:Nat} (h:readS s=some (p,c,n)):∃ own,makeX p c=.ok own/\n=own.length/\own <+: s:=by
 unfold readS at h;split at h
 ·
  cases h
 split at h
 ·
  cases h
 split at h
 ·
  cases h
 rename_i own hm;split at h
 ·
  rename_i hp;cases h;exact ⟨own,hm,rfl,Xk.1 hp⟩
 cases h
set_option maxHeartbeats 1000000
theorem bdH {KV:Value->Prop} (s0:ByteArray) (a b c:Int):Cs Yk 53 [(0,.string s0),(2,.int .u8 a),(1,.int .i64 b),(3,.int .i64 c)] KV=KV (.agg #[.string s0,.int .i64 b,.int .u8 a,.int .i64 c,.int .i64 0,.string ⟨#[]⟩,.string ⟨#[]⟩,.string ⟨#[]⟩,.int .i64 0,.int .i64 0]):=Dg (by kernel_rfl)
attribute [go_sem ↓] bdH
theorem Qlt (n:Nat) (w:World) (hn:n<=1000000):Does Yk 50 #[.int .i64 n] w fun v w'=>w'=w/\v=.int .i64 ((n+511) / 512 * 512:Nat):=by
 refine En [.int .i64 n] 8 Tryz.func50 ?_;refine VS [0] ?_;refine VQ [2] fun K hK=>?_;rw [show ((n:Int)+512 - 1) / 512 * 512=((n+511) / 512 * 512:Nat) by omega];refine ⟨Xp (by omega) (by omega),Xp (by omega) (by omega),by omega,by omega,Xp (by omega) (by omega),Xp (by omega) (by omega),?_⟩;apply hK;clear hK;exact Ad (A2 rfl rfl ⟨rfl,rfl⟩)
theorem Qam (p pre nm data:Bs) (k:UInt8) (w:World) (hs:Ij p=some (pre,nm)) (hp:p≠[]) (hpl:p.length<=1000) (h0:(0:UInt8) ∉ p) (hk:k=48∨k=120) (hd:data.length<=262144) :
  Does Yk 26 #[Aa p,.int .u8 k.toNat,Aa data] w fun v w'=>Heap w [] w' []/\v=.tuple #[Aa (Eh pre nm k data.length++F2 data),.int .i64 0]:=by
 obtain ⟨q1,q2,q3,q4⟩:=Wx hs hp;refine En [Aa p,.int .u8 k.toNat,Aa data] 34 Tryz.func26 ?_;refine VS [0,1,2] ?_;refine VQ [2,8,9] fun K hK=>?_;refine Ac Tryz.call49 ?_;refine Qs ?_;refine Yi (Qvh p pre nm k data.length w hs hp hpl h0 hk (by omega)) ?_;rintro v w2 ⟨hH,rfl⟩;(try refine Qs ?_);apply hK;clear hK;refine VS [2,8,9,20] ?_;refine Ae rfl rfl (fun h=>by simp at h) (fun h=>Ab ?_);have hl:=Nc q1 q2 k data.length;refine VQ [6,7] fun K hK=>?_;refine Qo ?_;refine Ac Tryz.call50 ?_;refine Qs ?_;refine Yi (Qlt data.length w2 (by omega)) ?_;rintro v w3 ⟨rfl,rfl⟩;(try refine Qs ?_);rw [show (((data.length+511) / 512 * 512:Nat):Int) - data.length=(((512 - data.length % 512) % 512:Nat):Int) by omega];refine And.intro (Xp (by omega) (by omega)) ?_;refine Ev Uo Io ?_;refine Qs ?_;refine ⟨(512 - data.length % 512) % 512,(512 - data.length % 512) % 512,⟨rfl,rfl,by omega,by omega,by omega⟩,?_⟩;obtain ⟨hH2,hrb⟩:=Qs1 w3 ((512 - data.length % 512) % 512) (by omega);generalize w3.alloc (Yr (Yc ((512 - data.length % 512) % 512) (Uq .u8 0)).toArray 5)=w1 at *;generalize w3.heap.size=gb at *;(try refine Qs ?_);refine ⟨Bh ((512 - data.length % 512) % 512),hrb,?_⟩;(try refine Qs ?_);refine And.intro (by rw [Yb,Ey];omega) ?_;apply hK;clear hK;refine Ad (A7 rfl rfl rfl ⟨(hH.call0 hH2).sub (Yj _),?_⟩);rw [F2];simp
end Go.Proofs.YtncpabbjpdogjaaGreatDoor
namespace Go.Eng
open Go
def Res.obj (l:Nat) (o:Obj):Res:=⟨[l],fun w=>w.heap[l]? = some o,fun _ _ h hh=>(h l (by simp)).trans hh⟩
theorem Heap.newObj {w0 w:World}{B:List Nat}{G:List Res} (h:Heap w0 B w G) (o:Obj):Heap w0 B (w.alloc o) (Res.obj w.heap.size o::G) :=
 h.new _ (heap_alloc_new w o) (by simp [Res.obj])
theorem Qw0 {w:World}{l:Nat}{o:Obj} (h:l < w.heap.size):(w.putObj l o).heap[l]? = some o:=by
 simp [World.putObj,h]
theorem Qw1 {w:World}{l k:Nat}{o:Obj} (h:k≠l):(w.putObj l o).heap[k]? = w.heap[k]? := by
 simp only [World.putObj];rw [Array.getElem?_setIfInBounds_ne (by omega)]
theorem Qew {w:World}{l:Nat}{o:Obj}:(w.putObj l o).heap.size=w.heap.size:=by simp [World.putObj]
theorem Heap.put {w0 w:World}{B:List Nat}{G:List Res}{l:Nat}{o:Obj} (h:Heap w0 B w (Res.obj l o::G)) (o':Obj):Heap w0 B (w.putObj l o') (Res.obj l o'::G):=by
 have hf:=(h.foot _ (Gd ..) l (by simp [Res.obj])).2
 have hh:Heap w [l] (w.putObj l o') [Res.obj l o'] :=
  ⟨⟨rfl,rfl,rfl,by rw [Qew];exact Y5 _,fun k _ hk=>Qw1 (by simpa using hk)⟩,
   fun r hr=>by simp at hr;subst hr;exact Qw0 hf,
   fun r hr b hb=>by simp at hr;subst hr;simp [Res.obj] at hb;subst hb;exact ⟨.inl (by simp),by rw [Qew];exact hf⟩,
   List.pairwise_singleton _ _⟩
 have:=Heap.call1 0 h rfl hh;simpa using this
theorem Loop.same {r:Loop} (r1:r.state=.ready) (r2:r.pending=none):({ r with state:=.ready,pending:=none }:Loop)=r:=by
 cases r;simp only at r1 r2;subst r1 r2;rfl
def QFp (ms:List Nat):List Res:=ms.map fun r=>Res.obj r (.deferred (some []))
theorem QFd {P:Program}{fn:Func}{F:Value->World->Prop}{Pn:List PanicEntry->World->Prop}{N:Nat}{e:Env}{w0 w:World}{B:List Nat}{ms:List Nat}{G:List Res} (hH:Heap w0 B w (QFp ms++G))
  (hx:∀ w',Heap w0 B w' G->VX ⟨P,fn,F,N⟩ [] .ret e w'):∀ a n,FitsG N (ms.map N6) e a->O5 P fn F Pn .ret a (w.drewN n):=fun a n ha=>by
 show LeavesInM _ _ _ _ _ _ a.defers _ _
 rw [ha.defers]
 have key:∀ (ms:List Nat) (w:World),Heap w0 B w (QFp ms++G)->LeavesInM Fence.wide 0 P fn a.tmps (V8 F Pn) (ms.map N6) .returning (w.drewN n):=by
  intro ms
  induction ms with
  | nil=>intro w hH;exact Zp (hx w hH) ha
  | cons r ms ih =>
   intro w hH;have hp:=Heap.put (l:=r) (o:=.deferred (some [])) hH (.deferred none);exact ⟨by simp,.inl ⟨r,(w.putObj r (.deferred none)).drewN n,rfl,run_takeDeferred (w:=w.drewN n) (hH.at 0 rfl),ih _ (hp.sub (Y0 _ _))⟩⟩
 exact key ms w hH
theorem Qw2 {r:Loop}{p:Nat}{v:Value}{e:Env} (r3:r.params=#[p]) (hp:p < r.tmps.size) (r8:∀ t v,e.find? t=some v->r.tmps.getD t undef=v) :
  ∀ t u,Env.find? ((p,v)::e) t=some u->((r.params.zip [v].toArray).foldl (fun tmps (t,a)=>tmps.setIfInBounds t a) r.tmps).getD t undef=u:=by
 intro t u ht;rw [r3,show (#[p].zip [v].toArray)=#[(p,v)] by first | rfl | simp | (apply Array.ext';simp)]
 show (r.tmps.setIfInBounds p v).getD t undef=u
 rw [Env.find?] at ht;split at ht
 ·
  rename_i h46;simp only at h46;subst h46;cases ht;rw [Array.getD_eq_getD_getElem?,Array.getElem?_setIfInBounds_self_of_lt hp];rfl
 rename_i h46;rw [Array.getD_eq_getD_getElem?,Array.getElem?_setIfInBounds_ne (by exact fun h=>h46 h.symm),<- Array.getD_eq_getD_getElem?];exact r8 t u ht
theorem Se {P:Program}{b:Frame}{a:Act}{k:List Item}{cs:List Frame}{w:World}{c:Code}:step P (lone (b.atR a (.code (.scope c)::k)) cs w)=.next (lone (b.atR a (.code c::.inScope c::k)) cs w) :=
 step_lone_go (by simp [stepG,stepG.exec,Frame.atR])
theorem Qiw {P:Program}{b:Frame}{a:Act}{k:List Item}{cs:List Frame}{w:World}{c:Code}:step P (lone (b.atR a (.inScope c::k)) cs w)=.next (lone (b.atR a k) cs w) :=
 step_lone_go (by simp [stepG,stepG.exec,Frame.atR])
theorem Qsl {F:Fence}{m:Nat}{P:Program}{Q:Exit->Act->World->Prop}{c:Code}{a:Act}{w:World} (h:c.wpIn F m P (fun ex a w=>match ex with | .goto _=>False | ex=>Q ex a w) a w):(Code.scope c).wpIn F m P Q a w:=by
 intro b k cs hro hb hr;have h0:(lone (b.atR a (.code (.scope c)::k)) cs w).fenced P F:=fenced_calm hb hr rfl;obtain ⟨e,a₁,w₁,hq,harr⟩:=h b (.inScope c::k) cs hro hb hr;cases e with
 | normal=>exact ⟨.normal,a₁,w₁,hq,.head h0 Se (StepsIn.trans harr (.one (fenced_calm hb hr rfl) Qiw))⟩
 | exit id' =>
  have hx:exitTo id' (.inScope c::k)=exitTo id' k:=by simp [exitTo]
  exact ⟨.exit id',a₁,w₁,hq,fun k' hk=>.head h0 Se (harr.1 k' (by rw [hx];exact hk)),
   fun hr' hk=>let ⟨k₁,h1,h2⟩:=harr.2 hr' (by rw [hx];exact hk);⟨k₁,h1,.head h0 Se h2⟩⟩
 | goto l=>exact hq.elim
 | ret=>exact ⟨_,a₁,w₁,hq,.of_steps (.one h0 Se) harr⟩
 | panic ch=>exact ⟨_,a₁,w₁,hq,.of_steps (.one h0 Se) harr⟩
 | outgrown=>exact ⟨_,a₁,w₁,hq,.of_steps (.one h0 Se) harr⟩
theorem Qsm {C:Ie} (hC:∀ l a w,¬ C.post (.goto l) a w) {k:List It}{l:Nat}{a:Act}{w:World} (h:El C k (.goto l) a w):False:=by
 induction k with
 | nil=>exact hC _ _ _ h
 | cons x k ih=>cases x <;> exact ih h
theorem Qp0 {C:Ie} (hC:∀ l a w,¬ C.post (.goto l) a w) {k:List It}{e:Env}{w:World}{c:Code} (h:VG C (.code c::k) e w):VG C (.code (.scope c)::k) e w:=by
 intro a n ha;have h1:=h a n ha;simp only [El] at h1 ⊢;refine Qsl (wpIn_mono h1 fun ex a w hq=>?_);cases ex with
 | goto l=>exact (Qsm hC hq).elim
 | _=>exact hq
theorem Qz6 {P:Program}{T E:TypeId}{sz:Nat} (hu:P.underlying T=some (.slice E)) (hsz:P.szo E=some sz) (w:World) :
  (Instr.buildSlice T 0 #[]).run P w=.ok (.slice (some ⟨w.heap.size,0,none⟩) 0 0) (w.alloc (.cells #[] E)):=by
 have hso:=I9 (P:=P) hsz;simp only [Instr.buildSlice,Gg,run_underlying hu,hso,Gh];rw [if_neg (by simp),if_pos (by simp)];have hf:Instr.fill (fun i=>some (i * sz,sz)) (#[]:Array Value) []=some #[]:=rfl;have e2:((Array.range (0 * sz)).map fun x=>(#[]:Array Value)[x % (#[]:Array Value).size]!)=#[]:=by rw [Nat.zero_mul];simp
 simp only [Gg,Sem.run_pure,Gh,e2,hf,M9]
theorem Qw3 {P:Program}{N:Nat}{d:Option Tmp}{ty:Nat}{pos:String}{af:Array Edge}{gd:Option (Nat×Bool)}{e:Env}{w:World}{R:Env->World->(Env->World->Prop)->Prop}{K:Env->World->Prop}{w0:World}{B:List Nat}{G:List Res} (hH:Heap w0 B w G) (k:Nat) {T E:TypeId}{z:Value}
  (hu:P.underlying T=some (.slice E)) (hsz:P.szo E=some k) (hz:P.zeroOf E=some z) (hzl:z.cells.toList.length=k)
  (h:∀ g w',Heap w0 B w' (Yf E k (some ⟨g,0,none⟩) 0 0 []::G)->R (e.put d (.slice (some ⟨g,0,none⟩) 0 0)) w' K) :
  Cq P N ⟨d,.buildSlice T 0 #[],ty,pos,af,gd⟩ e w R K:=by
 refine M8 fun a m ha=>⟨.slice (some ⟨w.heap.size,0,none⟩) 0 0,w.alloc (.cells #[] E),m,?_,?_⟩
 ·
  have hr:=Qz6 (P:=P) hu hsz (w.drewN m);simp only [execOp,Gg,Array.map_empty,Sem.run_pure];rw [hr];rfl
 have:=hH.row E (n:=0) (cap:=0) (sz:=k) [] [] (by simp) (by simp) (Y5 _) (by omega);exact h _ _ this
end Go.Eng
namespace Go.Proofs.YtncpabbjpdogjaaGreatDoor
open Go Go.Eng
set_option maxHeartbeats 1000000
abbrev slV:Value:=Aa [47]
abbrev Mc (a:Option Addr) (l:List (List UInt8)) (c:Nat):Res:=Yf 9 1 a l.length c (N8 l)
theorem Qlu {l:List UInt8}{i f:Nat} (hf:f<=i) (hi:i < l.length) (h:(47:UInt8) ∉ (l.drop f).take (i - f)) (hb:l.getD i 0≠47):(47:UInt8) ∉ (l.drop f).take (i+1 - f):=by
 have h1:(l.drop f)[i - f]? = some (l.getD i 0):=by
  rw [Uj,show f+(i - f)=i by omega,Ym,Yn hi];rfl
 rw [show i+1 - f=(i - f)+1 by omega,W3 h1,Uc];simp only [Xz,not_or];exact ⟨h,fun e=>hb e.symm⟩
theorem Qz7 {l:List UInt8}{i f:Nat} (hf:f<=i) (hi:i < l.length) (h:(47:UInt8) ∉ (l.drop f).take (i - f)) (hb:l.getD i 0=47):Df (l.drop f)=(l.drop f).take (i - f)::Df (l.drop (i+1)):=by
 have h1:l.drop f=(l.drop f).take (i - f)++47::l.drop (i+1):=by
  conv=>lhs;rw [<- X6 (i - f) (l.drop f)]
  congr 1
  rw [U3,show f+(i - f)=i by omega,Um hi]
  congr 1
  rw [<- hb,Ym,Yn hi];rfl
 conv=>lhs;rw [h1]
 exact Qcp _ h
theorem Qsn {l:List UInt8}{f:Nat} (hf:f<=l.length) (h:(47:UInt8) ∉ (l.drop f).take (l.length - f)):Df (l.drop f)=[(l.drop f).take (l.length - f)]:=by
 have h1:(l.drop f).take (l.length - f)=l.drop f:=Xg (by simp);rw [h1] at h ⊢;exact Qcq h
theorem i47 (b:UInt8):((b.toNat:Int)=47) ↔ b=47:=by
 constructor
 ·
  intro h;have e:(47:UInt8).toNat=47:=rfl;exact UInt8.toNat_inj.1 (by omega)
 rintro rfl;rfl
def QE2 (l gs:Nat) (s:List UInt8) (w0:World) (PI:Lv->List Res->Prop) (PE:List Res->Prop):Prop :=
 ∀ x rest G FR w,x.length<=s.length->PI (x::rest) G->Heap w0 [] w (G++Ya gs 9 [Aa s]::FR) ->
  YieldK Yk l [Aa x] w fun v w'=>∃ G',Heap w0 [] w' (G'++Ya gs 9 [Aa s]::FR)/\(v=.bool true/\PI rest G'∨v=.bool false/\PE G')
abbrev yV (l:Nat):Value:=.func (.yield l) #[] #[]
abbrev In (g:Nat):Value:=.pointer (some ⟨g,0,none⟩)
theorem Qix (l gs:Nat) (s:List UInt8) (hs:s.length<=140737488355328) (w0:World) (PI:Lv->List Res->Prop) (PE:List Res->Prop) (hR:QE2 l gs s w0 PI PE) (G FR:List Res) (hG:PI (Df s) G) (w:World)
  (hH:Heap w0 [] w (G++Ya gs 9 [Aa s]::FR)) :
  DoesP Yk 86 #[yV l,In gs] w (fun _ w'=>∃ G',Heap w0 [] w' (G'++Ya gs 9 [Aa s]::FR)/\(PI [] G'∨PE G')) Qv:=by
 refine Sb (args:=[yV l,In gs]) 30 Tryz.func86 rfl rfl (of_decide_eq_true rfl) ?_;simp only [Env.ofArgs];(repeat with_reducible refine A5 ?_);refine C7 [0,1,3] (by kernel_rfl) fun K hK=>?_;simp only [go_sem,↓reduceIte,reduceEqDiff]
 (refine hK _ _ ?_;clear hK)
 (repeat with_reducible refine A5 ?_);refine C7 [0,1,3,4] (by kernel_rfl) fun K hK=>?_;simp only [go_sem,↓reduceIte,reduceEqDiff]
 (refine hK _ _ ?_;clear hK)
 ((repeat with_reducible refine A5 ?_);refine K5 ?_)
 refine Zo [0,1,3,4] (fun m e w=>∃ (f i:Nat) (G:List Res),Is e [(0,yV l),(1,In gs),(3,.int .i64 f),(4,.int .i64 i)]/\Heap w0 [] w (G++Ya gs 9 [Aa s]::FR)/\f<=i/\m=s.length+1 - i /\
   (i<=s.length/\(47:UInt8) ∉ (s.drop f).take (i - f)/\PI (Df (s.drop f)) G∨i=s.length+1/\PI [] G)) (s.length+1) ?_ ?_
 ·
  simp only [go_sem,↓reduceIte,reduceEqDiff];exact ⟨0,0,G,rfl,hH,Y5 _,rfl,.inl ⟨by omega,by simp,hG⟩⟩
 clear hG hH w G;rintro m e w ⟨f,i,G,rfl,hH,hfi,rfl,hst⟩;have hHs:Heap w0 [] w (Ya gs 9 [Aa s]::(G++FR)):=hH.perm List.perm_middle;have c1:w.cell? ⟨gs,0,none⟩=some (Aa s):=Aj (hHs.at 0 rfl) rfl;(repeat with_reducible refine A5 ?_);refine C7 [0,1,3,4,8] (by kernel_rfl) fun K hK=>?_;simp only [go_sem,↓reduceIte,reduceEqDiff];refine ⟨_,c1,?_⟩;(try simp only [go_sem,↓reduceIte,reduceEqDiff])
 (refine hK _ _ ?_;clear hK)
 (repeat with_reducible refine A5 ?_);refine Dj rfl rfl (fun h=>?_) (fun h=>?_)
 ·
  simp only [decide_eq_true_eq] at h;obtain ⟨hi,hno,hPI⟩:=hst.resolve_right (fun hh=>by omega);refine Fw ?_
  ((repeat with_reducible refine A5 ?_);refine K5 ?_)
  (repeat with_reducible refine A5 ?_);refine C7 [0,1,3,4,20] (by kernel_rfl) fun K hK=>?_;simp only [go_sem,↓reduceIte,reduceEqDiff]
  suffices out:∀ b:Bool,(b=true ↔ i=s.length∨i < s.length/\s.getD i 0=47)->K [(0,yV l),(1,In gs),(3,.int .i64 f),(4,.int .i64 i),(20,.bool b)] w by
   (try simp only [go_sem,↓Ro c1,↓reduceIte,reduceEqDiff]);refine And.intro (fun h1=>And.intro (by omega) (out _ ?_)) (fun h1=>out _ ?_)
   ·
    rw [decide_eq_true_eq,i47];constructor
    ·
     exact fun h=>.inr ⟨by omega,h⟩
    rintro (h | h)
    ·
     omega
    exact h.2
   simp only [true_iff];exact .inl (by omega)
  intro b hb
  (refine hK _ _ ?_;clear hK)
  (repeat with_reducible refine A5 ?_);refine Dj rfl rfl (fun h2=>?_) (fun h2=>?_)
  ·
   have h3:=hb.1 h2;clear hb h2 h
   have hnext:PI ((s.drop f).take (i - f)::(if i=s.length then [] else Df (s.drop (i+1)))) G:=by
    rcases h3 with h3 | ⟨h3,h4⟩
    ·
     subst h3;rw [Qsn hfi hno] at hPI;rw [if_pos rfl];exact hPI
    rw [Qz7 hfi h3 hno h4] at hPI;rw [if_neg (by omega)];exact hPI
   (repeat with_reducible refine A5 ?_);refine Nw [0,1,4,27] [5] (by kernel_rfl) fun K hK=>?_;simp only [go_sem,U5,U2,U6,U4,↓reduceIte,reduceEqDiff];refine ⟨_,c1,?_⟩;(try simp only [go_sem,↓reduceIte,reduceEqDiff]);refine ⟨⟨by omega,by omega⟩,?_⟩;(try simp only [go_sem,↓reduceIte,reduceEqDiff]);refine Qa0 ?_;simp only [go_sem,↓reduceIte,reduceEqDiff];refine ⟨l,rfl,(hR _ _ G FR w (by simp;omega) hnext hH).mono ?_⟩;rintro v w2 ⟨G2,hH2,hv⟩;clear hH hHs c1 hPI hnext;rcases hv with ⟨rfl,hPI⟩ | ⟨rfl,hPE⟩
   ·
    (try simp only [go_sem,↓reduceIte,reduceEqDiff])
    (refine hK _ _ ?_;clear hK)
    (repeat with_reducible refine A5 ?_);refine Dj rfl rfl (fun h=>by simp at h) (fun h=>Fw ?_);clear h;(repeat with_reducible refine A5 ?_);refine C7 [0,1,3,4] (by kernel_rfl) fun K hK=>?_;simp only [go_sem,↓reduceIte,reduceEqDiff]
    ((repeat refine And.intro (by omega) ?_);refine hK _ _ ?_;clear hK)
    refine Mx ?_;(repeat with_reducible refine A5 ?_);refine C7 [0,1,3,4] (by kernel_rfl) fun K hK=>?_;simp only [go_sem,↓reduceIte,reduceEqDiff]
    ((repeat refine And.intro (by omega) ?_);refine hK _ _ ?_;clear hK)
    refine Vf ?_;simp only [go_sem,↓reduceIte,reduceEqDiff];by_cases he:i=s.length
    ·
     rw [if_pos he] at hPI;exact ⟨s.length+1 - (i+1),by omega,i+1,i+1,G2,rfl,hH2,Y5 _,rfl,.inr ⟨by omega,hPI⟩⟩
    rw [if_neg he] at hPI;exact ⟨s.length+1 - (i+1),by omega,i+1,i+1,G2,rfl,hH2,Y5 _,rfl,.inl ⟨by omega,by simp,hPI⟩⟩
   (try simp only [go_sem,↓reduceIte,reduceEqDiff])
   (refine hK _ _ ?_;clear hK)
   (repeat with_reducible refine A5 ?_);refine Dj rfl rfl (fun h=>?_) (fun h=>by simp at h);exact Nh (S8 (I8 rfl ⟨G2,hH2,.inr hPE⟩))
  have h3:¬ (i=s.length∨i < s.length/\s.getD i 0=47):=fun hh=>by rw [hb.2 hh] at h2;cases h2
  have h4:i < s.length:=by omega
  have h5:s.getD i 0≠47:=fun e=>h3 (.inr ⟨h4,e⟩);refine Fw ?_;refine Mx ?_;(repeat with_reducible refine A5 ?_);refine C7 [0,1,3,4] (by kernel_rfl) fun K hK=>?_;simp only [go_sem,↓reduceIte,reduceEqDiff]
  ((repeat refine And.intro (by omega) ?_);refine hK _ _ ?_;clear hK)
  refine Vf ?_;simp only [go_sem,↓reduceIte,reduceEqDiff];exact ⟨s.length+1 - (i+1),by omega,f,i+1,G,rfl,hH,by omega,rfl,.inl ⟨by omega,Qlu hfi h4 hno h5,hPI⟩⟩
 simp only [decide_eq_false_iff_not] at h;rcases hst with ⟨hi,hno,hPI⟩ | ⟨hi,hPI⟩
 ·
  omega
 refine Qa rfl ?_;exact La (QFb (I8 rfl ⟨G,hH,.inl hPI⟩))
@[simp] theorem strsLen9 (l:List (List UInt8)):(N8 l).length=l.length:=by simp [N8]
theorem Qhc (l:Lv) (a:Option Addr) (c:Nat) (w:World) (h:(Mc a l c).holds w) (h1:l.length<=140737488355328) (h2:(Ep l).length<=140737488355328) :
  Does Yk 87 #[.slice a l.length c,slV] w fun v w'=>Heap w [] w' []/\v=Aa (Ep l):=by
 obtain ⟨_,r2,r3,r4⟩:=h;by_cases hl:l=[]
 ·
  subst hl;intro n;refine (Go.Proofs.Any.strings_Join_none Qhm Wq a c ⟨#[47]⟩ (w.drewN n)).mono fun e w' ⟨he,hw⟩=>⟨_,w,n,he,hw,Xj w,rfl⟩
 rcases r4 with ⟨_,r5,_⟩ | ⟨g,rest,fz,rfl,hg,hlen,_⟩
 ·
  exact absurd (Y6 r5) hl
 have hcell:∀ (j:Nat) (x:ByteArray),(l.map fun s=>(⟨s.toArray⟩:ByteArray))[j]? = some x->w.cell? ⟨g,0+j,none⟩=some (.string x):=by
  intro j x hx;rw [Yx] at hx;cases hj:l[j]? with
  | none=>rw [hj] at hx;cases hx
  | some s =>
   rw [hj] at hx;cases hx;rw [X3,cell_of_row w g j _ _ _ hg];have hlt:=(Xd.1 hj).1
   show (N8 l++rest).toArray[j]? = _
   rw [List.getElem?_toArray,Yz (by simpa using hlt),Qu7 hj]
 have hmm:(l.map fun s=>(⟨s.toArray⟩:ByteArray)).map (·.data.toList)=l:=by
  rw [List.map_map];exact List.map_id _
 intro n;have hm:=Go.Proofs.Any.strings_Join Qhm Wq g 0 c (l.map fun s=>(⟨s.toArray⟩:ByteArray)) ⟨#[47]⟩ (w.drewN n) (fun j x hx=>hcell j x hx) (Array.getElem?_eq_some_iff.1 hg).1 (by simpa using h1) (by simpa using r2) (by rw [hmm];exact h2);rw [hmm,Uu] at hm;exact hm.mono fun e w' ⟨he,hw⟩=>⟨_,w',0,he,rfl,⟨⟨hw.os,hw.tape,hw.output,hw.size,fun k hk _=>hw.block k hk⟩,by simp,by simp,.nil⟩,rfl⟩
theorem Za {s:List UInt8}{dn rest:Lv} (h:dn++rest=Df s):dn.length<=s.length+1/\(Ep (dn.filter Ci)).length<=s.length/\(dn.filter Ci).length<=s.length+1:=by
 have h1:=Qsk s;rw [<- h,Yb] at h1;have h2:=List.length_filter_le Ci dn;have h3:=Qf5 dn;refine ⟨by omega,Ue h3 ?_,by omega⟩;have h4:=Qev s;rw [<- h] at h4;by_cases hd:dn=[]
 ·
  subst hd;simp [Qww]
 by_cases hr:rest=[]
 ·
  subst hr;rw [Yq] at h4;rw [h4];exact Y5 _
 rw [Qwx hd hr] at h4;rw [<- h4];simp
theorem Qod (s:List UInt8) (w:World) (hs:s.length<=1000000000):Does Yk 48 #[Aa s] w fun v w'=>Heap w [] w' []/\v=QAn (D6 s):=by
 refine Ww (args:=[Aa s]) 53 Tryz.func48 rfl rfl (of_decide_eq_true rfl) ?_;simp only [Env.ofArgs,U8];(repeat with_reducible refine A5 ?_);refine C7 [1] (by kernel_rfl) fun K hK=>?_;simp only [go_sem,↓reduceIte,reduceEqDiff];refine Eb ?_;simp only [go_sem,↓reduceIte,reduceEqDiff];have hH:=(Xj w).box 9 [Aa s];generalize w.alloc (Yr [Aa s].toArray 9)=w1 at *;generalize w.heap.size=gs at *
 (refine hK _ _ ?_;clear hK)
 (repeat with_reducible refine A5 ?_);refine Qp0 (fun l a w=>id) ?_;(repeat with_reducible refine A5 ?_);refine C7 [1,4] (by kernel_rfl) fun K hK=>?_;simp only [go_sem,↓reduceIte,reduceEqDiff];refine Qw3 hH 1 X0 sz9 (z:=Xr ⟨#[]⟩) (by kernel_rfl) rfl fun ga w2 hH2=>?_;(try simp only [go_sem,↓reduceIte,reduceEqDiff]);refine A6 (.slice none 0 0) (by kernel_rfl) ?_;simp only [go_sem,↓reduceIte,reduceEqDiff];have hH3:=hH2.box 148 [.slice none 0 0];generalize w2.alloc (Yr [Y9 none 0 0].toArray 148)=w3 at *;generalize w2.heap.size=go at *;refine Af ?_;simp only [go_sem,↓reduceIte,reduceEqDiff];refine Al hH3 0 (vs:=[.slice (some ⟨ga,0,none⟩) 0 0]) rfl rfl (by kernel_rfl) (by first | decide | (simp;done) | (simp;omega)) (by simp [Yg]) fun w6 hH4=>?_;(try simp only [go_sem,↓reduceIte,reduceEqDiff]);have hH4:Heap w [] w6 [Ya go 148 [.slice (some ⟨ga,0,none⟩) 0 0],Mc (some ⟨ga,0,none⟩) [] 0,Ya gs 9 [Aa s]]:=hH4;clear hH hH2 hH3
 (refine hK _ _ ?_;clear hK)
 (repeat with_reducible refine A5 ?_);refine C7 [1,4,5] (by kernel_rfl) fun K hK=>?_;simp only [go_sem,↓reduceIte,reduceEqDiff]
 (refine hK _ _ ?_;clear hK)
 have c1:w6.cell? ⟨gs,0,none⟩=some (Aa s):=Aj (hH4.at 2 rfl) rfl;(repeat with_reducible refine A5 ?_);refine C7 [1,4,5,13,14] (by kernel_rfl) fun K hK=>?_;simp only [go_sem,↓reduceIte,reduceEqDiff];refine ⟨_,c1,?_⟩;(try simp only [go_sem,↓reduceIte,reduceEqDiff])
 (refine hK _ _ ?_;clear hK)
 ((repeat with_reducible refine A5 ?_);refine K5 ?_)
 refine Zo [1,4,5,13,14] (fun m e w'=>∃ (i:Nat),Is e [(1,In gs),(4,In go),(5,.func (.func 86) #[] #[In gs]),(13,.int .i64 s.length),(14,.int .i64 i)]/\Is w' w6/\i<=s.length/\(s.take i).all Pa=true/\m=s.length - i) s.length ?_ ?_
 ·
  simp only [go_sem,↓reduceIte,reduceEqDiff];exact ⟨0,rfl,rfl,by omega,by simp,rfl⟩
 rintro m e w' ⟨i,rfl,rfl,hi,hall,rfl⟩;(repeat with_reducible refine A5 ?_);refine C7 [1,4,5,13,14,15] (by kernel_rfl) fun K hK=>?_;simp only [go_sem,↓reduceIte,reduceEqDiff]
 (refine hK _ _ ?_;clear hK)
 (repeat with_reducible refine A5 ?_);refine Dj rfl rfl (fun h=>?_) (fun h=>?_)
 ·
  simp only [decide_eq_true_eq] at h;have hi2:i < s.length:=by omega
  refine Fw ?_
  ((repeat with_reducible refine A5 ?_);refine K5 ?_)
  (repeat with_reducible refine A5 ?_);refine C7 [1,4,5,6,13,14] (by kernel_rfl) fun K hK=>?_;simp only [go_sem,↓reduceIte,reduceEqDiff]
  (refine hK _ _ ?_;clear hK)
  (repeat with_reducible refine A5 ?_);refine C7 [1,4,5,13,14,26] (by kernel_rfl) fun K hK=>?_;simp only [go_sem,↓reduceIte,reduceEqDiff];(try simp only [go_sem,↓Ro c1,↓reduceIte,reduceEqDiff])
  suffices out:∀ b:Bool,(b=true ↔ Pa (s.getD i 0)=false)->K [(1,In gs),(4,In go),(5,.func (.func 86) #[] #[In gs]),(13,.int .i64 s.length),(14,.int .i64 i),(26,.bool b)] w' by
   have e:Pa (s.getD i 0)=false ↔ ¬ (32<=(s.getD i 0).toNat/\(s.getD i 0).toNat<=126):=by
    cases h:Pa (s.getD i 0) <;> simp [Pa] at h ⊢ <;> omega
   refine And.intro (by omega) (And.intro (fun h1=>And.intro (by omega) (out _ ?_)) (fun h1=>out _ ?_))
   ·
    rw [e,decide_eq_true_eq];omega
   rw [e];simp only [true_iff];omega
  intro b hb
  (refine hK _ _ ?_;clear hK)
  (repeat with_reducible refine A5 ?_);refine Dj rfl rfl (fun h2=>?_) (fun h2=>Fw ?_)
  ·
   have hbad:=hb.1 h2
   have hno:D6 s=none:=by
    unfold D6;rw [if_neg];rintro ⟨ha,_⟩;rw [X8] at ha;have:=ha (s.getD i 0) (by rw [Ym,Yn hi2];exact Up hi2);rw [this] at hbad;cases hbad
   (repeat with_reducible refine A5 ?_);refine C7 [2,3] (by kernel_rfl) fun K hK=>?_;simp only [go_sem,↓reduceIte,reduceEqDiff]
   (refine hK _ _ ?_;clear hK)
   exact Nh (S8 (A7 rfl rfl rfl ⟨hH4.sub (Yj _),by rw [hno];rfl⟩))
  have hok:Pa (s.getD i 0)=true:=by
   cases h5:Pa (s.getD i 0)
   ·
    have:=hb.2 h5;rw [this] at h2;cases h2
   rfl
  refine Mx ?_;(repeat with_reducible refine A5 ?_);refine C7 [1,4,5,13,14] (by kernel_rfl) fun K hK=>?_;simp only [go_sem,↓reduceIte,reduceEqDiff]
  ((repeat refine And.intro (by omega) ?_);refine hK _ _ ?_;clear hK)
  refine Vf ?_;simp only [go_sem,↓reduceIte,reduceEqDiff];refine ⟨s.length - (i+1),by omega,i+1,rfl,rfl,by omega,?_,rfl⟩;rw [W3 (Yn hi2),List.all_append,hall];rw [Ym,Yn hi2] at hok;simpa using hok
 simp only [decide_eq_false_iff_not] at h;obtain rfl:i=s.length:=by omega
 rw [Us] at hall;clear h c1;refine Qa rfl ?_;(repeat with_reducible refine A5 ?_);refine C7 [4,5,7] (by kernel_rfl) fun K hK=>?_;simp only [go_sem,↓reduceIte,reduceEqDiff];refine A6 (.bool false) (by kernel_rfl) ?_;simp only [go_sem,↓reduceIte,reduceEqDiff];have hH5:=hH4.box 4 [.bool false];generalize w'.alloc (Yr [Gl false].toArray 4)=w7 at *;generalize w'.heap.size=gb at *;refine Af ?_;simp only [go_sem,↓reduceIte,reduceEqDiff];refine Al hH5 0 (vs:=[.bool false]) rfl rfl (by kernel_rfl) (by first | decide | (simp;done) | (simp;omega)) (by simp [Yg]) fun w6 hH6=>?_;(try simp only [go_sem,↓reduceIte,reduceEqDiff]);have hH6:Heap w [] w6 [Ya gb 4 [.bool false],Ya go 148 [.slice (some ⟨ga,0,none⟩) 0 0],Mc (some ⟨ga,0,none⟩) [] 0,Ya gs 9 [Aa s]]:=hH6;clear hH4 hH5
 (refine hK _ _ ?_;clear hK)
 (repeat with_reducible refine A5 ?_);refine Qol ?_;(repeat with_reducible refine A5 ?_);refine C7 [4,7,28] (by kernel_rfl) fun K hK=>?_;simp only [go_sem,↓reduceIte,reduceEqDiff]
 (refine hK _ _ ?_;clear hK)
 ((repeat with_reducible refine A5 ?_);refine K5 ?_)
 refine Qao rfl rfl (fun _ _=>rfl) fun r r1 r2 r3 r4 r5 r6 r7 r8=>?_;generalize hdr:w6.heap.size=dr at *;have hH7:=(hH6.newObj (.deferred (some []))).newObj (.loop r);rw [show (w6.alloc (.deferred (some []))).heap.size=dr+1 by rw [<- hdr];show (w6.heap.push _).size=_;rw [Array.size_push],hdr] at hH7;clear r6 hH6;generalize (w6.alloc (Obj.deferred (some []))).alloc (Uk r)=wl at *;have hr:=Loop.same r1 r2
 have hH8:Heap w [] wl ([Res.obj (dr+1) (.loop r),Ya go 148 [.slice (some ⟨ga,0,none⟩) 0 0],Mc (some ⟨ga,0,none⟩) [] 0,Ya gb 4 [.bool false]]++Ya gs 9 [Aa s]::[Res.obj dr (.deferred (some []))]):=by
  refine hH7.perm ?_;refine List.Perm.cons _ ?_;refine (Xl (l₁:=[Res.obj dr (.deferred (some []))]) (l₂:=_)).trans ?_;refine (Xl (l₁:=[Ya gb 4 [.bool false]]) (l₂:=[Ya go 148 [.slice (some ⟨ga,0,none⟩) 0 0],Mc (some ⟨ga,0,none⟩) [] 0])).append_right _
 clear hH7
 refine (Qix (dr+1) gs s (by omega) w
  (fun l0 G0=>∃ (dn:Lv) (a:Option Addr) (c:Nat),dn++l0=Df s/\([46,46]:List UInt8) ∉ dn/\G0=[Res.obj (dr+1) (.loop r),Ya go 148 [.slice a (dn.filter Ci).length c],Mc a (dn.filter Ci) c,Ya gb 4 [.bool false]])
  (fun G0=>([46,46]:List UInt8)∈Df s/\∃ (dn rest:Lv) (a:Option Addr) (c:Nat),dn++rest=Df s/\G0=[Res.obj (dr+1) (.loop { r with state:=.done,pending:=some (.exit 2) }),Ya go 148 [.slice a (dn.filter Ci).length c],Mc a (dn.filter Ci) c,Ya gb 4 [.bool true]]) ?_
  _ [Res.obj dr (.deferred (some []))] ⟨[],some ⟨ga,0,none⟩,0,rfl,by simp,rfl⟩ wl hH8).mono ?_ (fun _ _ h=>h)
 ·
  rintro x rest _ FR w7 hx ⟨dn,a0,c,hdn,hno,rfl⟩ hH9;have hb:=Za hdn;have hb2:=Za (s:=s) (dn:=dn++[x]) (rest:=rest) (by simpa using hdn);refine Qap (N:=53) (e:=(29,Aa x)::[(4,In go),(7,In gb),(28,.func (.func 86) #[] #[In gs])]) (hH9.at 0 rfl) r1 r7 (by rw [r3];rfl) (Qw2 r3 (by rw [r7];decide) r8) ?_;refine (congrArg (fun c=>VG _ [.code c] _ _) r4).mpr ?_;(repeat with_reducible refine A5 ?_);refine C7 [4,7,8] (by kernel_rfl) fun K hK=>?_;simp only [go_sem,↓reduceIte,reduceEqDiff]
  (refine hK _ _ ?_;clear hK)
  refine La fun a n hf=>⟨rfl,_,_,n,rfl,hf,hH9.at 0 rfl,?_⟩;have hHd:Heap w [] _ (Res.obj (dr+1) (.loop { r with state:=.busy })::Ya go 148 [.slice a0 (dn.filter Ci).length c]::Mc a0 (dn.filter Ci) c::Ya gb 4 [.bool false]::Ya gs 9 [Aa s]::FR):=Heap.put hH9 (.loop { r with state:=.busy });generalize w7.putObj (dr+1) (Uk { r with state:=.busy })=wb at *;clear hH9 hf a n;have hpi:dn++[x]++rest=Df s:=by simpa using hdn
  refine (congrArg (fun c=>VG _ [.code c] _ _) r5).mpr ?_
  have goOn:∀ {a:Option Addr}{c:Nat}{wz:World},x≠[46,46]->Heap w [] wz (Res.obj (dr+1) (.loop { r with state:=.busy })::Ya go 148 [.slice a ((dn++[x]).filter Ci).length c]::Mc a ((dn++[x]).filter Ci) c::Ya gb 4 [.bool false]::Ya gs 9 [Aa s]::FR) ->
    ∃ G',Heap w [] (wz.putObj (dr+1) (.loop { r with state:=.ready,pending:=none })) (G'++Ya gs 9 [Aa s]::FR)/\(Gl true=.bool true/\(∃ (dn:Lv) (a:Option Addr) (c:Nat),dn++rest=Df s/\([46,46]:List UInt8) ∉ dn/\G'=[Res.obj (dr+1) (.loop r),Ya go 148 [.slice a (dn.filter Ci).length c],Mc a (dn.filter Ci) c,Ya gb 4 [.bool false]]) ∨
     Gl true=.bool false/\([46,46]:List UInt8)∈Df s/\∃ (dn rest:Lv) (a:Option Addr) (c:Nat),dn++rest=Df s/\G'=[Res.obj (dr+1) (.loop { r with state:=.done,pending:=some (.exit 2) }),Ya go 148 [.slice a (dn.filter Ci).length c],Mc a (dn.filter Ci) c,Ya gb 4 [.bool true]]):=by
   intro a c wz hx2 hh;rw [hr];refine ⟨_,hh.put (.loop r),.inl ⟨rfl,dn++[x],a,c,hpi,?_,rfl⟩⟩;rw [Uc,Xz];rintro (h | h)
   ·
    exact hno h
   exact hx2 h.symm
  ((repeat with_reducible refine A5 ?_);refine K5 ?_)
  (repeat with_reducible refine A5 ?_);refine C7 [4,7,8,30] (by kernel_rfl) fun K hK=>?_;simp only [go_sem,↓reduceIte,reduceEqDiff]
  (refine hK _ _ ?_;clear hK)
  ((repeat with_reducible refine A5 ?_);refine K5 ?_)
  (repeat with_reducible refine A5 ?_);refine C7 [4,7,8,30,31] (by kernel_rfl) fun K hK=>?_;simp only [go_sem,↓reduceIte,reduceEqDiff]
  (refine hK _ _ ?_;clear hK)
  (repeat with_reducible refine A5 ?_);by_cases hx0:x=[]
  ·
   subst hx0;refine Dj rfl rfl (fun h=>Fw ?_) (fun h=>by simp at h);refine Dj rfl rfl (fun h=>?_) (fun h=>by simp at h);refine Qa rfl ?_;refine La fun a n hf=>⟨_,n,rfl,hHd.at 0 rfl,?_⟩;refine goOn (a:=a0) (c:=c) (by simp) ?_;rw [Ul,show ([[]]:Lv).filter Ci=[] from rfl,Yq];exact hHd
  refine Dj rfl rfl (fun h=>by simp at h;exact absurd h hx0) (fun h=>?_);clear h;(repeat with_reducible refine A5 ?_);refine C7 [4,7,8,30,31] (by kernel_rfl) fun K hK=>?_;simp only [go_sem,↓reduceIte,reduceEqDiff]
  (refine hK _ _ ?_;clear hK)
  (repeat with_reducible refine A5 ?_);by_cases hx1:x=[46]
  ·
   subst hx1;refine Dj rfl rfl (fun h=>?_) (fun h=>by simp at h);refine Qa rfl ?_;refine La fun a n hf=>⟨_,n,rfl,hHd.at 0 rfl,?_⟩;refine goOn (a:=a0) (c:=c) (by simp) ?_;rw [Ul,show ([[46]]:Lv).filter Ci=[] from rfl,Yq];exact hHd
  refine Dj rfl rfl (fun h=>by simp at h;exact absurd h hx1) (fun h=>?_);clear h;(repeat with_reducible refine A5 ?_);refine C7 [4,7,8,30,34] (by kernel_rfl) fun K hK=>?_;simp only [go_sem,↓reduceIte,reduceEqDiff]
  (refine hK _ _ ?_;clear hK)
  (repeat with_reducible refine A5 ?_);by_cases hx2:x=[46,46]
  ·
   subst hx2;refine Dj rfl rfl (fun h=>?_) (fun h=>by simp at h);(repeat with_reducible refine A5 ?_);refine C7 [4] (by kernel_rfl) fun K hK=>?_;simp only [go_sem,↓reduceIte,reduceEqDiff];refine Af ?_;simp only [go_sem,↓reduceIte,reduceEqDiff];refine Al hHd 3 (vs:=[.bool true]) rfl rfl (by kernel_rfl) (by first | decide | (simp;done) | (simp;omega)) (by simp [Yg]) fun w6 hHe=>?_;(try simp only [go_sem,↓reduceIte,reduceEqDiff])
   (refine hK _ _ ?_;clear hK)
   refine Qqv rfl fun a n hf=>?_;refine ⟨_,n,rfl,hHe.at 0 rfl,_,hHe.put (.loop { r with state:=.done,pending:=some (.exit 2) }),.inr ⟨rfl,?_,dn,[46,46]::rest,_,_,hdn,rfl⟩⟩;rw [<- hdn];simp
  refine Dj rfl rfl (fun h=>by simp at h;exact absurd h hx2) (fun h=>Fw ?_);clear h;refine Mx ?_;have hkp:Ci x=true:=by simp [Ci,hx0,hx1]
  have hf1:(dn++[x]).filter Ci=dn.filter Ci++[x]:=by simp [Ul,hkp]
  have hf2:((dn++[x]).filter Ci).length=(dn.filter Ci).length+1:=by rw [hf1];simp
  (repeat with_reducible refine A5 ?_);refine C7 [4,7] (by kernel_rfl) fun K hK=>?_;simp only [go_sem,↓reduceIte,reduceEqDiff];refine ⟨_,Aj (hHd.at 1 rfl) rfl,?_⟩;(try simp only [go_sem,↓reduceIte,reduceEqDiff]);refine Fb hHd [Aa x] (xs:=[.tmp 37]) X0 sz9 rfl rfl rfl (by omega) ?_;simp only [go_sem,↓reduceIte,reduceEqDiff];refine ⟨trivial,by simp [Yw],fun g w4 hHe=>?_⟩;(try simp only [go_sem,↓reduceIte,reduceEqDiff]);refine Cl ?_;simp only [go_sem,↓reduceIte,reduceEqDiff];refine Ew (zs:=#[.string ⟨#[]⟩]) (bytes:=16) hHe 3 rfl X0 (by kernel_rfl) rfl (m:=1) (news:=N8 [x]) ⟨rfl,Az (hHe.at 0 rfl),9,X0⟩ (Qu6 [x]) (fun h=>by omega) fun a' cap' w8 hc' hHf=>?_;simp only [Yh,Yd] at hHf;(try simp only [go_sem,↓reduceIte,reduceEqDiff]);refine Af ?_;simp only [go_sem,↓reduceIte,reduceEqDiff];refine Al hHf 2 (vs:=[.slice a' ((dn.filter Ci).length+1) cap']) rfl rfl (by kernel_rfl) (by first | decide | (simp;done) | (simp;omega)) (by simp [Yg]) fun w6 hHg=>?_;(try simp only [go_sem,↓reduceIte,reduceEqDiff])
  (refine hK _ _ ?_;clear hK)
  rw [<- hf2,<- Qkv,<- hf1] at hHg;refine Mx (La fun a n hf=>⟨_,n,rfl,hHg.at 1 rfl,?_⟩);refine goOn (a:=a') (c:=cap') hx2 ?_;exact hHg.sub (.cons _ (.refl _))
 rintro _ w7 ⟨G0,hH9,hv⟩;rcases hv with ⟨dn,a,c,hdn,hno,rfl⟩ | ⟨hbad,dn,rest,a,c,hdn,rfl⟩
 ·
  rw [Yq] at hdn;have hb:=Za (rest:=[]) (s:=s) (dn:=dn) (by simpa using hdn);obtain ⟨kept,hkept⟩:∃ kept,kept=dn.filter Ci:=⟨_,rfl⟩;rw [<- hkept] at hb hH9;refine ⟨.ready,none,?_,by simp,?_⟩
  ·
   rw [hr];exact hH9.at 0 rfl
  simp only;have hHa:Heap w [] _ (Res.obj (dr+1) _::_):=Heap.put hH9 (.loop { r with state:=.exhausted,pending:=none });generalize w7.putObj (dr+1) (Uk { r with state:=.exhausted,pending:=none })=wb at *;have hHz:Heap w [] wb [Ya go 148 [.slice a kept.length c],Mc a kept c,Ya gb 4 [.bool false],Res.obj dr (.deferred (some []))]:=hHa.sub (.cons _ (.cons_cons _ (.cons_cons _ (.cons_cons _ (.cons _ (.refl _))))));clear hHa hH9;refine Mx ?_
  have hcl:D6 s=if Ep kept=[]∨120 < (Ep kept).length then none else some (Ep kept):=by
   unfold D6;rw [<- hdn,<- hkept];by_cases h1:Ep kept=[]
   ·
    rw [if_neg (fun h=>h.2.2.1 h1),if_pos (.inl h1)]
   by_cases h2:120 < (Ep kept).length
   ·
    rw [if_neg (fun h=>by have:=h.2.2.2;omega),if_pos (.inr h2)]
   rw [if_pos ⟨hall,hno,h1,by omega⟩,if_neg (by rintro (h | h);exact h1 h;exact h2 h)]
  (repeat with_reducible refine A5 ?_);refine C7 [7,9] (by kernel_rfl) fun K hK=>?_;simp only [go_sem,↓reduceIte,reduceEqDiff];refine ⟨_,Aj (hHz.at 0 rfl) rfl,?_⟩;(try simp only [go_sem,↓reduceIte,reduceEqDiff]);refine Qgh Tryz.call87 (Qhc kept a c wb (hHz.at 1 rfl) (by omega) (by omega)) (by simp only [go_sem,↓reduceIte,reduceEqDiff] <;> rfl) ?_;rintro v wj ⟨hHj,rfl⟩;(try simp only [go_sem,↓reduceIte,reduceEqDiff]);(refine hK _ _ ?_;clear hK);have hHk:=hHz.call0 hHj;clear hHj;generalize Ep kept=p at *;(repeat with_reducible refine A5 ?_);refine C7 [9,51] (by kernel_rfl) fun K hK=>?_;simp only [go_sem,↓reduceIte,reduceEqDiff];refine ⟨_,Aj (hHk.at 2 rfl) rfl,?_⟩;(try simp only [go_sem,↓reduceIte,reduceEqDiff])
  suffices out:∀ b:Bool,(b=true ↔ (p=[]∨120 < p.length))->K [(9,Aa p),(51,.bool b)] wj by
   refine And.intro (fun h1=>out _ ?_) (fun h1=>out _ ?_)
   ·
    rw [decide_eq_true_eq];simp only [h1,false_or];omega
   simp [h1]
  intro b hb2
  (refine hK _ _ ?_;clear hK)
  (repeat with_reducible refine A5 ?_);have hHq:=hHk.front 3 rfl;refine Dj rfl rfl (fun h=>?_) (fun h=>Fw ?_)
  ·
   rw [if_pos (hb2.1 h)] at hcl;(repeat with_reducible refine A5 ?_);refine C7 [2,3] (by kernel_rfl) fun K hK=>?_;simp only [go_sem,↓reduceIte,reduceEqDiff]
   (refine hK _ _ ?_;clear hK)
   refine Nh (QFd (ms:=[dr]) hHq fun w' hh=>A7 rfl rfl rfl ⟨hh.sub (Yj _),?_⟩);rw [hcl];rfl
  have hg:¬ (p=[]∨120 < p.length):=fun hh=>by rw [hb2.2 hh] at h;cases h
  rw [if_neg hg] at hcl;(repeat with_reducible refine A5 ?_);refine C7 [2,3] (by kernel_rfl) fun K hK=>?_;simp only [go_sem,↓reduceIte,reduceEqDiff]
  (refine hK _ _ ?_;clear hK)
  refine Nh (QFd (ms:=[dr]) hHq fun w' hh=>A7 rfl rfl rfl ⟨hh.sub (Yj _),?_⟩);rw [hcl];rfl
 have hb:=Za hdn;obtain ⟨kept,hkept⟩:∃ kept,kept=dn.filter Ci:=⟨_,rfl⟩;rw [<- hkept] at hb hH9;refine ⟨.done,some (.exit 2),hH9.at 0 rfl,by simp,?_⟩;simp only;have hHa:Heap w [] _ (Res.obj (dr+1) _::_):=Heap.put hH9 (.loop { r with state:=.exhausted,pending:=some (.exit 2) });generalize w7.putObj (dr+1) (Uk { r with state:=.exhausted,pending:=some (.exit 2) })=wb at *;have hHz:Heap w [] wb [Ya go 148 [.slice a kept.length c],Mc a kept c,Ya gb 4 [.bool true],Res.obj dr (.deferred (some []))]:=hHa.sub (.cons _ (.cons_cons _ (.cons_cons _ (.cons_cons _ (.cons _ (.refl _))))));clear hHa hH9;refine Qa rfl ?_
 have hcl:D6 s=none:=by
  unfold D6;rw [if_neg];exact fun h=>h.2.1 hbad
 (repeat with_reducible refine A5 ?_);refine C7 [7,9] (by kernel_rfl) fun K hK=>?_;simp only [go_sem,↓reduceIte,reduceEqDiff];refine ⟨_,Aj (hHz.at 0 rfl) rfl,?_⟩;(try simp only [go_sem,↓reduceIte,reduceEqDiff]);refine Qgh Tryz.call87 (Qhc kept a c wb (hHz.at 1 rfl) (by omega) (by omega)) (by simp only [go_sem,↓reduceIte,reduceEqDiff] <;> rfl) ?_;rintro v wj ⟨hHj,rfl⟩;(try simp only [go_sem,↓reduceIte,reduceEqDiff]);(refine hK _ _ ?_;clear hK);have hHk:=hHz.call0 hHj;clear hHj;generalize Ep kept=p at *;(repeat with_reducible refine A5 ?_);refine C7 [9,51] (by kernel_rfl) fun K hK=>?_;simp only [go_sem,↓reduceIte,reduceEqDiff];refine ⟨_,Aj (hHk.at 2 rfl) rfl,?_⟩;(try simp only [go_sem,↓reduceIte,reduceEqDiff])
 (refine hK _ _ ?_;clear hK)
 (repeat with_reducible refine A5 ?_);refine Dj rfl rfl (fun h=>?_) (fun h=>by simp at h);(repeat with_reducible refine A5 ?_);refine C7 [2,3] (by kernel_rfl) fun K hK=>?_;simp only [go_sem,↓reduceIte,reduceEqDiff]
 (refine hK _ _ ?_;clear hK)
 have hHq:=hHk.front 3 rfl;refine Nh (QFd (ms:=[dr]) hHq fun w' hh=>A7 rfl rfl rfl ⟨hh.sub (Yj _),?_⟩);rw [hcl];rfl
theorem Qoe (s:List UInt8) (w:World) (hs:s.length<=1000000000):Does Yk 24 #[Aa s] w fun v w'=>Heap w [] w' []/\v=.int .i64 (Qmj s):=by
 refine Pv (args:=[Aa s]) 17 Tryz.func24 rfl rfl (of_decide_eq_true rfl) ?_;simp only [Env.ofArgs];refine VR [0] rfl rfl fun K hK=>?_;simp only [go_sem,↓reduceIte,reduceEqDiff]
 ((repeat refine And.intro (by omega) ?_);refine hK _ _ ?_;clear hK)
 refine VR [0,3,4] rfl rfl fun K hK=>?_;simp only [go_sem,↓reduceIte,reduceEqDiff];refine Ac Tryz.call48 ?_;simp only [go_sem,↓reduceIte,reduceEqDiff];refine Yi (Qod s w hs) ?_;rintro v w2 ⟨hH,rfl⟩;unfold QAn;(try simp only [go_sem,↓reduceIte,reduceEqDiff])
 (refine hK _ _ ?_;clear hK)
 refine VR [16] rfl rfl fun K hK=>?_;simp only [go_sem,↓reduceIte,reduceEqDiff]
 suffices out:∀ b:Bool,(b=true ↔ D6 s≠some s)->K [(16,.bool b)] w2 by
  cases hc:D6 s with
  | none =>
   rw [hc] at out;exact And.intro (fun h=>absurd h (by simp)) (fun _=>out _ (by simp))
  | some q =>
   rw [hc] at out;refine And.intro (fun _=>out _ ?_) (fun h=>absurd rfl h);simp
 intro b hb
 (refine hK _ _ ?_;clear hK)
 refine Ae rfl rfl (fun h=>?_) (fun h=>Ab ?_)
 ·
  refine VR [2] rfl rfl fun K hK=>?_;simp only [go_sem,↓reduceIte,reduceEqDiff]
  ((repeat refine And.intro (by omega) ?_);refine hK _ _ ?_;clear hK)
  exact Ad (A2 rfl rfl ⟨hH,by rw [Qmj,if_neg (hb.1 h)]⟩)
 have hg:D6 s=some s:=Classical.byContradiction fun hh=>by rw [hb.2 hh] at h;cases h
 refine VR [2] rfl rfl fun K hK=>?_;simp only [go_sem,↓reduceIte,reduceEqDiff]
 ((repeat refine And.intro (by omega) ?_);refine hK _ _ ?_;clear hK)
 exact Ad (A2 rfl rfl ⟨hH,by rw [Qmj,if_pos hg]⟩)
set_option maxHeartbeats 1000000
abbrev tE:Nat:=29
def Qmk (p data:Bs):Value :=
 if D6 p=some p then (if 262144 < data.length then .tuple #[Aa [],.int .i64 3] else .tuple #[Aa (Lc p data.length++F2 data),.int .i64 0]) else .tuple #[Aa [],.int .i64 140]
abbrev Oa (p data:Bs):Value:=.agg #[Aa p,Aa data]
theorem Qdg {p:Bs} (h:p.length<=100):Ij p=some ([],p):=by rw [Ij,if_pos h]
theorem Qof {p:Bs}{q:Bs×Bs}{n:Nat} (h:Ij p=some q):Lc p n=Eh q.1 q.2 48 n:=by unfold Lc;rw [h]
theorem Qog {p:Bs}{n:Nat} (h:Ij p=none):Lc p n=Eh [] paxW 120 (p.length+10)++(F2 (Ei p)++Eh [] (p.take 100) 48 n):=by unfold Lc;rw [h]
theorem Qex (p data:Bs) (w:World) (hT:Tb w) (hp:p.length<=1000000000) (hd:data.length<=1000000000000) :
  Does Yk 14 #[Oa p data] w fun v w'=>Heap w [] w' []/\v=Qmk p data:=by
 refine En [Oa p data] 65 Tryz.func14 ?_;refine VQ [1] fun K hK=>?_;refine Eb ?_;refine Qs ?_;have hH:=(Xj w).box tE [Aa p,Aa data];generalize w.alloc (Yr #[Aa p,Aa data] tE)=w1 at *;generalize w.heap.size=ge at *;(try refine Qs ?_);apply hK;clear hK;have hc:∀ {w':World},Heap w [] w' [Ya ge tE [Aa p,Aa data]]->w'.cell? ⟨ge,0,none⟩=some (Aa p):=fun h=>Aj (h.at 0 rfl) rfl;have hc1:∀ {w':World},Heap w [] w' [Ya ge tE [Aa p,Aa data]]->w'.cell? ⟨ge,1,none⟩=some (Aa data):=fun h=>Aj (h.at 0 rfl) rfl;refine VQ [1,4] fun K hK=>?_;refine ⟨_,hc hH,?_⟩;(try refine Qs ?_);refine Ac Tryz.call24 ?_;refine Qs ?_;refine Yi (Qoe p w1 hp) ?_;rintro v w2 ⟨hHx,rfl⟩;replace hH:=hH.call0 hHx;rw [Ye] at hH;clear hHx;(try refine Qs ?_);apply hK;clear hK;rw [Qmj,Qmk];by_cases hg:D6 p=some p
 ·
  rw [if_pos hg,if_pos hg];obtain ⟨n1,n2,n3⟩:=Zk hg;refine VS [1,4,18] ?_;refine Ae rfl rfl (fun h=>by simp at h) (fun h=>Ab ?_);clear h;refine VQ [1,23] fun K hK=>?_;refine ⟨_,hc1 hH,?_⟩;(try refine Qs ?_);apply hK;clear hK;refine VD (fun h=>?_) (fun h=>Ab ?_)
  ·
   rw [if_pos (by omega)];refine VS [2,3] ?_;exact Ad (A7 rfl rfl rfl ⟨hH.sub (Yj _),rfl⟩)
  rw [if_neg (by omega)];refine VQ [1,7] fun K hK=>?_;refine ⟨_,hc hH,?_⟩;(try refine Qs ?_);refine Ac Tryz.call25 ?_;refine Qs ?_;refine Yi (Qeg p w2 (by omega)) ?_;rintro v w3 ⟨rfl,rfl⟩;rw [Qmg];cases hs:Ij p with
  | some q =>
   obtain ⟨pre,nm⟩:=q;(try refine Qs ?_);apply hK;clear hK;rw [Qof hs];refine VS [1,31] ?_;refine Ae rfl rfl (fun h=>?_) (fun h=>by simp at h);refine VQ [2,3] fun K hK=>?_;refine ⟨_,hc hH,?_⟩;(try refine Qs ?_);refine ⟨_,hc1 hH,?_⟩;(try refine Qs ?_);refine Ac Gk ?_;refine Qs ?_;refine Yi (Qam p pre nm data 48 w3 hs n1 (by omega) n3 (.inl rfl) (by omega)) ?_;rintro v w4 ⟨hHx,rfl⟩;(try refine Qs ?_);apply hK;clear hK;exact Ad (A7 rfl rfl rfl ⟨(hH.call0 hHx).sub (Yj _),rfl⟩)
  | none =>
   have h100:=Qa2 hs;(try refine Qs ?_);apply hK;clear hK;rw [Qog hs];refine VS [1,31] ?_;refine Ae rfl rfl (fun h=>by simp at h) (fun h=>Ab ?_);refine VQ [1,8] fun K hK=>?_;refine ⟨_,hc hH,?_⟩;(try refine Qs ?_);refine E4 hH 2 [Aa pathW,Aa p] (xs:=[.tmp 42]) X5 QJx rfl rfl rfl (by omega) (by omega) ?_;refine Qs ?_;refine ⟨rfl,by intro v hv;simp only [Xh,List.not_mem_nil,or_false] at hv;subst hv;rfl,fun ga w8 hE2=>?_⟩;(try refine Qs ?_);refine Ac Tryz.call27 ?_;refine Qs ?_;refine Yi (Qvi p ga w8 (hT.heap hE2) (by have h:=Qfa (Az (hE2.at 0 rfl)) rfl 0 [Aa pathW,Aa p] (fun j u hu=>by rw [X3];exact hu);rwa [Qgi] at h) h100 n2) ?_;rintro v w4 ⟨hHx,rfl⟩;replace hH:=(hE2.call0 hHx).sub (G':=[Ya ge tE [Aa p,Aa data]]) (by simp);clear hHx hE2;(try refine Qs ?_);apply hK;clear hK;refine VQ [1,10] fun K hK=>?_;refine Ac Gk ?_;refine Qs ?_;refine Yi (Qam paxW [] paxW (Ei p) 120 w4 (Qdg (by simp)) (by simp) (by simp) (by simp) (.inr rfl) (by rw [Su];omega)) ?_;rintro v w5 ⟨hHx,rfl⟩;replace hH:=hH.call0 hHx;rw [Ye] at hH;clear hHx;(try refine Qs ?_);apply hK;clear hK;refine VH _ (Ext.refl _) [10,12,13] [(0,true),(1,true),(2,true),(3,true),(4,true),(5,false),(6,true),(7,true),(8,true),(9,true),(10,true)] fun K hK=>?_;refine ⟨_,hc hH,?_⟩;(try refine Qs ?_);refine And.intro (by omega) ⟨_,hc1 hH,?_⟩;(try refine Qs ?_);have hne:p.take (Xw 100)≠[]:=fun hh=>by have:=congrArg Xv hh;rw [Yv,Xb] at this;omega
   have hl1:(p.take (Xw 100)).length<=100:=Xy 100 p;refine Ac Gk ?_;refine Qs ?_;refine Yi (Qam (p.take (Xw 100)) [] (p.take (Xw 100)) data 48 w5 (Qdg hl1) hne (by omega) (fun hh=>n3 (X9 hh)) (.inl rfl) (by omega)) ?_;rintro v w6 ⟨hHx,rfl⟩;refine ⟨hHx.ext,?_⟩;replace hH:=hH.call0 hHx;rw [Ye] at hH;clear hHx;(try refine Qs ?_);apply hK;clear hK;have g1:=Nc (show ([]:Bs).length<=155 by simp) (show paxW.length<=100 by simp) 120 (Ei p).length;have g2:=Nc (show ([]:Bs).length<=155 by simp) hl1 48 data.length;have g3:=Rh (Ei p);have g4:=Rh data;have g5:=Su p;refine VQ [2,3] fun K hK=>?_;refine And.intro (by simp only [Yb,g1,g2,g3,g4];omega) ?_;apply hK;clear hK;refine Ad (A7 rfl rfl rfl ⟨hH.sub (Yj _),?_⟩);rw [g5,show Xw 100=100 from rfl];simp [Ys]
 rw [if_neg hg,if_neg hg];refine VS [1,4,18] ?_;refine Ae rfl rfl (fun h=>?_) (fun h=>by simp at h);refine VS [2,3] ?_;exact Ad (A7 rfl rfl rfl ⟨hH.sub (Yj _),rfl⟩)
set_option maxHeartbeats 4000000
abbrev Qta (l:Nat):Value:=.func (.yield l) #[] #[]
def Qw4 (l gs gm:Nat) (most:Int) (w0:World) (B:List Nat) (PI:List UInt8->List Res->Prop):Prop :=
 ∀ rest G w,rest≠[]->PI rest G->Heap w0 B w (Ya gs 9 [Aa rest]::Ya gm 3 [.int .i64 most]::G) ->
  YieldK Yk l [Aa (rest.take (Db rest most))] w fun v w'=>v=.bool true/\∃ G',PI (rest.drop (Db rest most)) G'/\Heap w0 B w' (Ya gs 9 [Aa rest]::Ya gm 3 [.int .i64 most]::G')
theorem Qiy (l gs gm:Nat) (most:Int) (w0:World) (B:List Nat) (PI:List UInt8->List Res->Prop) (hR:Qw4 l gs gm most w0 B PI) (s:List UInt8) (hs:s.length<=140737488355328) (hm:1<=most/\most<=262144)
  (hfit:∀ t:List UInt8,t≠[]->1<=Db t most/\Db t most<=t.length) (G:List Res) (hG:PI s G) (w:World) (hH:Heap w0 B w (Ya gs 9 [Aa s]::Ya gm 3 [.int .i64 most]::G)) :
  DoesP Yk 55 #[Qta l,.pointer (some ⟨gs,0,none⟩),.pointer (some ⟨gm,0,none⟩)] w
   (fun _ w'=>∃ G',PI [] G'/\Heap w0 B w' (Ya gs 9 [Aa []]::Ya gm 3 [.int .i64 most]::G')) Qv:=by
 refine Sb (args:=[Qta l,.pointer (some ⟨gs,0,none⟩),.pointer (some ⟨gm,0,none⟩)]) 23 Tryz.func55 rfl rfl (of_decide_eq_true rfl) ?_;simp only [Env.ofArgs]
 ((repeat with_reducible refine A5 ?_);refine K5 ?_)
 refine Zo [0,1,2] (fun m e w=>∃ (rest:List UInt8) (G:List Res),Is e [(0,Qta l),(1,.pointer (some ⟨gs,0,none⟩)),(2,.pointer (some ⟨gm,0,none⟩))]/\PI rest G/\Heap w0 B w (Ya gs 9 [Aa rest]::Ya gm 3 [.int .i64 most]::G)/\rest.length<=140737488355328/\m=rest.length) s.length ?_ ?_
 ·
  refine Qs ?_;exact ⟨s,G,rfl,hG,hH,hs,rfl⟩
 clear hG hH hs;rintro m e w ⟨rest,G,rfl,hG,hH,hs,rfl⟩;refine GQ [0,1,2,6] fun K hK=>?_;refine ⟨_,Aj (hH.at 0 rfl) rfl,?_⟩;(try refine Qs ?_);apply hK;clear hK;(repeat with_reducible refine A5 ?_);refine Dj rfl rfl (fun h=>?_) (fun h=>?_)
 ·
  have hne:rest≠[]:=by
   rintro rfl;simp at h
  clear h;obtain ⟨hf1,hf2⟩:=hfit rest hne;refine Fw ?_
  ((repeat with_reducible refine A5 ?_);refine K5 ?_)
  refine GQ [0,1,2,4] fun K hK=>?_;refine ⟨_,Aj (hH.at 0 rfl) rfl,?_⟩;(try refine Qs ?_);refine ⟨_,Aj (hH.at 1 rfl) rfl,?_⟩;(try refine Qs ?_);refine Ac Tryz.call56 ?_;refine Qs ?_;refine Yi (Qzb rest most (Xp (by omega) (by omega)) w (by omega)) ?_;rintro v w1 ⟨rfl,rfl⟩;(try refine Qs ?_);apply hK;clear hK;(repeat with_reducible refine A5 ?_);(repeat with_reducible refine A5 ?_);refine Nw [0,1,2,4,19] [7] (by kernel_rfl) fun K hK=>?_;simp only [go_sem,U5,U2,U6,U4,↓reduceIte,reduceEqDiff];refine ⟨fun _=>⟨_,Aj (hH.at 0 rfl) rfl,?_⟩,fun h=>by omega⟩;(try refine Qs ?_);refine Qp ?_;(try refine Qs ?_);refine Qa0 ?_;refine Qs ?_;refine ⟨l,rfl,(hR rest G w1 hne hG hH).mono ?_⟩;rintro v w2 ⟨rfl,G',hG',hH2⟩;clear hH hG;(try refine Qs ?_);apply hK;clear hK;(repeat with_reducible refine A5 ?_);refine Dj rfl rfl (fun h=>by simp at h) (fun h=>Fw ?_);clear h;refine GQ [0,1,2] fun K hK=>?_;refine ⟨_,Aj (hH2.at 0 rfl) rfl,?_⟩;(try refine Qs ?_);refine Qp ?_;(try refine Qs ?_);refine Af ?_;refine Qs ?_;refine Al hH2 0 (vs:=[Aa (rest.drop (Db rest most))]) rfl rfl (by kernel_rfl) (by simp) (by simp;rfl) fun w3 hH3=>?_;(try refine Qs ?_);apply hK;clear hK;refine Mx ?_;refine Vf ?_;refine Qs ?_;refine ⟨(rest.drop (Db rest most)).length,?_,_,G',rfl,hG',hH3,?_,rfl⟩ <;> rw [Yu] <;> omega
 have hne:rest=[]:=by
  simpa using h
 subst hne;refine Qa rfl ?_;refine La (QFb (I8 rfl ⟨G,hG,hH⟩))
set_option maxHeartbeats 4000000
theorem Qso (s:List UInt8) (most:Int) (w:World) :
  Does Yk 29 #[Aa s,.int .i64 most] w fun v w'=>∃ gs gm,Heap w [] w' [Ya gs 9 [Aa s],Ya gm 3 [.int .i64 most]] /\
   v=.func (.func 55) #[] #[.pointer (some ⟨gs,0,none⟩),.pointer (some ⟨gm,0,none⟩)]:=by
 refine En [Aa s,.int .i64 most] 6 Tryz.func29 ?_;refine VQ [2,3] fun K hK=>?_;refine Eb ?_;refine Qs ?_;have hH:=(Xj w).box 9 [Aa s];generalize w.alloc (Yr [Aa s].toArray 9)=w1 at *;generalize w.heap.size=gs at *;refine Eb ?_;refine Qs ?_;have hH1:=hH.box 3 [.int .i64 most];generalize w1.alloc (Yr [Uq .i64 most].toArray 3)=w2 at *;generalize w1.heap.size=gm at *;clear hH;apply hK;clear hK;refine VS [4] ?_;exact Ad (A2 rfl rfl ⟨gs,gm,hH1.perm (.swap _ _ _),rfl⟩)
set_option maxHeartbeats 4000000
theorem Qw5 {C:K3}{e:Env}{w:World}{t u:Tmp}{T U:TypeId}{a b:Addr} (hr:C.fn.results=#[.cell t T,.cell u U]) (ht:e.find? t=some (.pointer (some a))) (hu:e.find? u=some (.pointer (some b)))
  (h:Bf C.P T (.pointer (some a)) w fun v=>Bf C.P U (.pointer (some b)) w fun x=>C.F (.tuple #[v,x]) w):VX C [] .ret e w:=by
 intro ac n ha;obtain ⟨v,hv,r1⟩:=Oo h;obtain ⟨x,hv,r2⟩:=Oo hv;refine ⟨ha.defers,.tuple #[v,x],?_,_,w,n,rfl,rfl,hv⟩;have h1:=ha.at_ t _ ht;rw [Array.getD_eq_getD_getElem?] at h1;have h2:=ha.at_ u _ hu;rw [Array.getD_eq_getD_getElem?] at h2;have q1:=r1 (w.drewN n) (Ext.drewN w n);have q2:=r2 (w.drewN n) (Ext.drewN w n);simp [results,hr,h1,h2,asAddr,q1,q2]
theorem Qp1 {w1:World}{N g6 g7:Nat}{x y:Value}{F:Value->World->Prop} (h6:(Ya g6 9 [x]).holds w1) (h7:(Ya g7 23 [y]).holds w1) (hF:F (.tuple #[x,y]) w1) :
  VX ⟨Yk,Tryz.f15,F,N⟩ [] .ret [(6,pt g6),(7,pt g7)] w1:=by
 refine Qw5 rfl rfl rfl ?_;refine Sk h6 (by kernel_rfl) (by kernel_rfl) ?_;exact Sk h7 (by kernel_rfl) (by kernel_rfl) hF
def QE3 (s:List UInt8) (most:Int) (hd:List Bool) (r:Loop) (dr g6 g7 g8 g9:Nat) (rest:List UInt8) (G:List Res):Prop :=
 ∃ (ps:List (List UInt8)) (bs:List (List Bool)) (ga c1:Nat) (a2:Option Addr) (c2:Nat),L3 ps bs/\ps++Cz rest most=Cz s most/\rest.length<=262144 /\
  G=[Res.obj (dr+1) (.loop r),Res.obj dr (.deferred (some [])),Ya g9 72 [.slice a2 ps.length c2],Yf 78 1 a2 ps.length c2 (Bm (ps.map Cd)),
   Ya g8 71 [.slice (some ⟨ga,0,none⟩) (ps.length+1) c1],Yf 70 2 (some ⟨ga,0,none⟩) (ps.length+1) c1 (Fc (hd::bs)),Ya g7 23 [.int .i64 0],Ya g6 9 [.string ⟨#[]⟩]]
theorem Qw6 (s:List UInt8) (level most:Int) (w:World) (hl:I64 level) (hm:I64 most) (hs:s.length<=140737488355328) :
  Does Yk 15 #[Aa s,.int .i64 level,.int .i64 most] w fun v w'=>Heap w [] w' []/\PackOk s level most v:=by
 refine Ww (args:=[Aa s,.int .i64 level,.int .i64 most]) 87 Tryz.func15 rfl rfl (of_decide_eq_true rfl) ?_;simp only [Env.ofArgs,U8];refine GQ [0,1,2,6,7] fun K hK=>?_;refine A6 (.string ⟨#[]⟩) (by kernel_rfl) ?_;refine Qs ?_;have hH:=(Xj w).box 9 [.string ⟨#[]⟩];generalize w.alloc (Yr [Xr ⟨#[]⟩].toArray 9)=w1 at *;generalize w.heap.size=g6 at *;refine A6 (.int .i64 0) (by kernel_rfl) ?_;refine Qs ?_;have hH2:Heap w [] _ _:=hH.box 23 [.int .i64 0];generalize w1.alloc (Yr [Uq Uz 0].toArray 23)=w2 at *;generalize w1.heap.size=g7 at *;apply hK;clear hK;clear hH
 have bad:∀ (e:Int) {N:Nat}{w4:World},PackOk s level most (.tuple #[Aa [],.int .i64 e])->Heap w [] w4 [Ya g7 23 [.int .i64 e],Ya g6 9 [Aa []]] ->
   VX ⟨Yk,Tryz.f15,fun v w'=>Heap w [] w' []/\PackOk s level most v,N⟩ [] .ret [(6,pt g6),(7,pt g7)] w4 :=
  fun e N w4 hp hh=>Qp1 (hh.at 1 rfl) (hh.at 0 rfl) ⟨hh.sub (by simp),hp⟩
 refine GQ [0,1,2,6,7,31] fun K hK=>?_
 suffices out:∀ b:Bool,(b=true ↔ level < 1∨9 < level∨most < 1∨min (level * 100000) 262144 < most)->K [(0,Aa s),(1,.int .i64 level),(2,.int .i64 most),(6,pt g6),(7,pt g7),(31,.bool b)] w2 by
  refine ⟨fun h1=>⟨fun h2=>⟨fun h3=>?_,fun h3=>out _ (by simp;omega)⟩,fun h2=>out _ (by simp;omega)⟩,fun h1=>out _ (by simp;omega)⟩;refine Ac Tryz.call28 ?_;refine Qs ?_;refine Yi (Qjf level w2 (by omega)) ?_;rintro v w3 ⟨rfl,rfl⟩;(try refine Qs ?_);exact out _ (by simp;omega)
 intro b hb;apply hK;clear hK;(repeat with_reducible refine A5 ?_);refine Dj rfl rfl (fun h=>?_) (fun h=>Fw ?_)
 ·
  have hbad:=hb.1 h;refine GQ [6,7] fun K hK=>?_;refine Af ?_;refine Qs ?_;refine Al hH2 1 (vs:=[Aa []]) rfl rfl (by kernel_rfl) (by simp) (by simp [Yg]) fun w3 hH3=>?_;(try refine Qs ?_);refine Af ?_;refine Qs ?_;refine Al hH3 0 (vs:=[.int .i64 2]) rfl rfl (by kernel_rfl) (by simp) (by simp [Yg]) fun w4 hH4=>?_;(try refine Qs ?_);apply hK;clear hK;exact Nh (S8 (bad 2 (by rw [PackOk,if_pos hbad]) hH4))
 have hg:¬ (level < 1∨9 < level∨most < 1∨min (level * 100000) 262144 < most):=fun hh=>by rw [hb.2 hh] at h;cases h
 clear hb h;refine GS [0,1,2,6,7,34] ?_;(repeat with_reducible refine A5 ?_);refine Dj rfl rfl (fun h=>?_) (fun h=>Fw ?_)
 ·
  simp only [decide_eq_true_eq] at h;refine GQ [6,7] fun K hK=>?_;refine Af ?_;refine Qs ?_;refine Al hH2 1 (vs:=[Aa []]) rfl rfl (by kernel_rfl) (by simp) (by simp [Yg]) fun w3 hH3=>?_;(try refine Qs ?_);refine Af ?_;refine Qs ?_;refine Al hH3 0 (vs:=[.int .i64 3]) rfl rfl (by kernel_rfl) (by simp) (by simp [Yg]) fun w4 hH4=>?_;(try refine Qs ?_);apply hK;clear hK;exact Nh (S8 (bad 3 (by rw [PackOk,if_neg hg,if_pos (by omega)]) hH4))
 simp only [decide_eq_false_iff_not] at h;have hsl:s.length<=262144:=by omega
 clear h bad;obtain ⟨lv,rfl⟩:∃ n:Nat,level=n:=⟨level.toNat,by omega⟩;have hc0:(Xc (48+lv)).toNat=48+lv:=Tq (by omega);obtain ⟨hd,hhd⟩:∃ hd,hd=At [66,90,104,Xc (48+lv)]:=⟨_,rfl⟩
 have hbv:Ay hd=[Aa [66,90,104,Xc (48+lv)],.int .i64 32]:=by
  unfold Ay;rw [hhd,Qcx,D0];rfl
 refine GQ [0,2,6,7,8] fun K hK=>?_;(repeat first | refine Qo ?_ | refine Qp ?_);rw [show ((48:Int)+lv) % 256=((Xc (48+lv)).toNat:Int) by omega];refine Fb hH2 (An [Xc (48+lv)]) (xs:=[.tmp 37]) Uo Fj rfl rfl rfl (by omega) ?_;refine Qs ?_;refine ⟨rfl,by simp [Yw],fun g w4 hH3=>?_⟩;(try refine Qs ?_);refine ⟨[Xc (48+lv)],hH3.readsBytes 0 rfl,?_⟩;(try refine Qs ?_);refine And.intro (by simp) ?_;refine E4 hH3 2 (Ay hd) (xs:=[.tmp 41]) Yo Oc rfl rfl rfl (by omega) (by omega) ?_;refine Qs ?_;refine ⟨by rw [hbv];simp [Yw],by simp [Yw],fun ga w4 hH4=>?_⟩;(try refine Qs ?_);refine A6 (.slice none 0 0) (by kernel_rfl) ?_;refine Qs ?_;have hH5:=hH4.box 71 [.slice none 0 0];generalize w4.alloc (Yr [Y9 none 0 0].toArray 71)=w5 at *;generalize w4.heap.size=g8 at *;refine Af ?_;refine Qs ?_;refine Al hH5 0 (vs:=[.slice (some ⟨ga,0,none⟩) 1 1]) rfl rfl (by kernel_rfl) (by simp) (by simp [Yg]) fun w6 hH6=>?_;(try refine Qs ?_);apply hK;clear hK;have hH6:=hH6.sub (.cons_cons _ (.cons_cons _ (.cons _ (.refl _))));clear hH2 hH3 hH4 hH5;refine GQ [0,2,6,7,8,9] fun K hK=>?_;refine A6 (.slice none 0 0) (by kernel_rfl) ?_;refine Qs ?_;have hH7:=(hH6.nilRow 78 1).box 72 [.slice none 0 0];generalize w6.alloc (Yr [Y9 none 0 0].toArray 72)=w7 at *;generalize w6.heap.size=g9 at *;apply hK;clear hK;refine GQ [6,7,8,9,45] fun K hK=>?_;refine Ac Tryz.call29 ?_;refine Qs ?_;refine Yi (Qso s most w7) ?_;rintro v w8 ⟨gs,gm,hHp,rfl⟩;have hH8:=hH7.call0 hHp;clear hHp hH7 hH6;have hH9:Heap w [] w8 [Ya gs 9 [Aa s],Ya gm 3 [.int .i64 most],Ya g9 72 [.slice none 0 0],Yf 78 1 none 0 0 [],Ya g8 71 [.slice (some ⟨ga,0,none⟩) 1 1],Yf 70 2 (some ⟨ga,0,none⟩) 1 1 (Ay hd),Ya g7 23 [.int .i64 0],Ya g6 9 [.string ⟨#[]⟩]]:=hH8;clear hH8;(try refine Qs ?_);apply hK;clear hK
 ((repeat with_reducible refine A5 ?_);refine K5 ?_)
 refine Qao rfl rfl (fun _ _=>rfl) fun r r1 r2 r3 r4 r5 r6 r7 r8=>?_;generalize hdr:w8.heap.size=dr at *;have hH10:=(hH9.newObj (.deferred (some []))).newObj (.loop r);rw [show (w8.alloc (.deferred (some []))).heap.size=dr+1 by rw [<- hdr];show (w8.heap.push _).size=_;rw [Array.size_push],hdr] at hH10;clear r6;generalize (w8.alloc (Obj.deferred (some []))).alloc (Uk r)=wl at *;have hH11:=(hH10.front 3 rfl).front 3 rfl;clear hH10 hH9;refine (Qiy (dr+1) gs gm most w [] (QE3 s most hd r dr g6 g7 g8 g9) ?_ s hs ⟨by omega,by omega⟩ (fun t ht=>⟨(S0 ht (by omega)).1,(S0 ht (by omega)).2.1⟩) _ ⟨[],[],ga,1,none,0,trivial,rfl,hsl,by simp [Fc,Bm]⟩ wl hH11).mono ?_ (fun _ _ h=>h)
 ·
  clear hH11 hdr w8 wl;rintro rest G w9 hne ⟨ps,bs,ga,c1,a2,c2,hpb,hcut,hrl,rfl⟩ hHr;obtain ⟨f1,f2,f3⟩:=S0 hne (show 1<=most by omega);have hcs:=Qd5 hne (show 1<=most by omega)
  have hpl:ps.length<=262144:=by
   have h1:=congrArg Xv hcut;have h2:=(Qff (show 1<=most by omega) s.length s (Y5 _)).2.1;rw [Yb] at h1;omega
  have hbl:=Vu _ _ hpb;have hdl:(rest.drop (Db rest most)).length<=262144:=by rw [Yu];omega
  have hp1:(rest.take (Db rest most)).length<=262144:=by rw [Yv];omega
  have hp2:rest.take (Db rest most)≠[]:=by
   intro h0;have:=congrArg Xv h0;rw [Yv,Xb] at this;omega
  generalize rest.take (Db rest most)=part at *;generalize rest.drop (Db rest most)=rest2 at *;rw [hcs,List.append_cons] at hcut;clear hcs f1 f2 hne hrl;refine Qap (N:=87) (e:=(46,Aa part)::[(6,pt g6),(7,pt g7),(8,pt g8),(9,pt g9),(45,.func (.func 55) #[] #[pt gs,pt gm])]) (hHr.at 2 rfl) r1 r7 (by rw [r3];rfl) ?_ ?_
  ·
   intro t v ht;rw [r3,show (#[46].zip [Aa part].toArray)=#[(46,Aa part)] by first | rfl | simp | (apply Array.ext';simp)]
   show (r.tmps.setIfInBounds 46 (Aa part)).getD t undef=v
   rw [Env.find?] at ht;split at ht
   ·
    rename_i h46;subst h46;cases ht;rw [Array.getD_eq_getD_getElem?,Array.getElem?_setIfInBounds_self_of_lt (by rw [r7];decide)];rfl
   rename_i h46;rw [Array.getD_eq_getD_getElem?,Array.getElem?_setIfInBounds_ne (by exact fun h=>h46 h.symm),<- Array.getD_eq_getD_getElem?];exact r8 t v ht
  refine (congrArg (fun c=>VG _ [.code c] _ _) r4).mpr ?_;refine GS [6,7,8,9,10] ?_;refine La fun a n hf=>⟨rfl,_,_,n,rfl,hf,hHr.at 2 rfl,?_⟩;have hHb:=(hHr.front 2 rfl).put (.loop { r with state:=.busy });generalize w9.putObj (dr+1) (Uk { r with state:=.busy })=wb at *;clear hHr hf a n w9;refine (congrArg (fun c=>VG _ [.code c] _ _) r5).mpr ?_;clear r3 r4 r5 r7 r8
  ((repeat with_reducible refine A5 ?_);refine K5 ?_)
  refine GQ [6,7,8,9,10,11,12] fun K hK=>?_;refine Ac Tryz.call30 ?_;refine Qs ?_;refine Yi (Qf3 part (by omega) wb) ?_;rintro v w1 ⟨hHm,hv⟩;have hHc:=hHb.call0 hHm;simp only [Ye] at hHc;clear hHm hHb;rw [Rq,if_neg hp2,if_neg (by omega)] at hv;obtain ⟨σ,ho,rfl⟩:=hv;have hPB:PB part (Fy part σ):=⟨σ,ho,rfl⟩;generalize Fy part σ=B at *;(try refine Qs ?_);refine A6 (.agg #[.string ⟨#[]⟩,.int .i64 0]) (by kernel_rfl) ?_;refine Qs ?_;have hHd:=hHc.box 70 [.string ⟨#[]⟩,.int .i64 0];generalize w1.alloc (Yr [Xr ⟨#[]⟩,.int .i64 0].toArray 70)=w2 at *;generalize w1.heap.size=g11 at *;refine Af ?_;refine Qs ?_;refine Al hHd 0 (vs:=Ay B) rfl rfl (by kernel_rfl) (by simp [Ay]) (E5 _) fun w3 hHe=>?_;clear hHc hHd;(try refine Qs ?_);apply hK;clear hK;refine GS [6,7,8,9,10,11,53] ?_;(repeat with_reducible refine A5 ?_);refine Dj rfl rfl (fun h=>by simp at h) (fun h=>Fw ?_);clear h;refine GQ [6,7,8,9,10] fun K hK=>?_;refine ⟨_,Aj (hHe.at 7 rfl) rfl,?_⟩;(try refine Qs ?_);refine ⟨Ay B,⟨rfl,Ca (hHe.at 0 rfl)⟩,?_⟩;(try refine Qs ?_);refine E4 hHe 2 (Ay B) (xs:=[.tmp 56]) Yo Oc rfl rfl rfl (by omega) (by omega) ?_;refine Qs ?_;refine ⟨by simp [Ay,Yw],by simp [Ay,Yw],fun gl w4 hHf=>?_⟩;(try refine Qs ?_);refine Cl ?_;refine Qs ?_;refine Ew (zs:=#[.string ⟨#[]⟩,.int .i64 0]) (bytes:=24) hHf 9 rfl Yo (by kernel_rfl) rfl ⟨rfl,Az (hHf.at 0 rfl),70,Yo⟩ (E5 _) (fun h=>by omega) fun a' cap' w5 hc' hHg=>?_;(try refine Qs ?_);refine Af ?_;refine Qs ?_;refine Al hHg 8 (vs:=[.slice a' (ps.length+1+1) cap']) rfl rfl (by kernel_rfl) (by simp) (by simp [Yg]) fun w6 hHh=>?_;simp only [Yh,Yd] at hHh;rw [Q5,Yl] at hHh
  have hHi:Heap w [] w6 [Res.obj (dr+1) (.loop { r with state:=.busy }),Ya gs 9 [Aa rest],Ya gm 3 [.int .i64 most],Res.obj dr (.deferred (some [])),Ya g9 72 [.slice a2 ps.length c2],Yf 78 1 a2 ps.length c2 (Bm (ps.map Cd)),
   Ya g8 71 [.slice a' (ps.length+1+1) cap'],Yf 70 2 a' (ps.length+1+1) cap' (Fc (hd::(bs++[B]))),Ya g7 23 [.int .i64 0],Ya g6 9 [.string ⟨#[]⟩]]:=hHh.sub (.cons _ (.cons _ (.refl _)))
  obtain ⟨gp,rfl⟩:=Ir (hHi.at 7 rfl) (by omega);clear hHe hHf hHg hHh hc';(try refine Qs ?_);apply hK;clear hK;(repeat with_reducible refine A5 ?_);refine Qgf (bare w6) (Zn _ _) [6,7,8,9] (.two [(1,true)] 0 2 (.seq [(2,false),(3,false),(4,false),(5,false)]) (.two [] 0 3 (.seq [(3,false),(4,false),(5,false)]) (.seq [(0,false),(4,false),(5,false)]))) (by kernel_rfl) (by kernel_rfl) (by kernel_rfl) fun K hK=>?_
  suffices out:∀ (a':Option Addr) (c':Nat) (w10:World),Heap w [] w10 [Res.obj (dr+1) (.loop { r with state:=.busy }),Ya gs 9 [Aa rest],Ya gm 3 [.int .i64 most],Res.obj dr (.deferred (some [])),Ya g9 72 [.slice a' (ps.length+1) c'],Yf 78 1 a' (ps.length+1) c' (Bm (ps.map Cd)++Bm [Cd part]),
   Ya g8 71 [.slice (some ⟨gp,0,none⟩) (ps.length+1+1) cap'],Yf 70 2 (some ⟨gp,0,none⟩) (ps.length+1+1) cap' (Fc (hd::(bs++[B]))),Ya g7 23 [.int .i64 0],Ya g6 9 [.string ⟨#[]⟩]]->K [(6,pt g6),(7,pt g7),(8,pt g8),(9,pt g9)] w10 by
   have c0:w6.cell? ⟨g9,0,none⟩=some (.slice a2 ps.length c2):=Aj (hHi.at 4 rfl) rfl;simp only [Ti,Bd,List.filterMap_cons,List.filterMap_nil,List.getElem?_cons_succ,List.getElem?_cons_zero,Option.map_some];refine Qs ?_;simp only [Bo];(try refine Qs ?_);refine And.intro ?_ ?_
   ·
    refine ⟨_,c0,?_⟩;(try refine Qs ?_);(try simp only [Bo]);(try refine Qs ?_);refine Ac Gi ?_;refine Qs ?_;refine Yi (Zg part w6 (by omega)) ?_;rintro v w7 ⟨hHz,rfl⟩;have hHj:=hHi.call0 hHz;simp only [Ye] at hHj;(try refine Qs ?_);(try simp only [Bo]);(try refine Qs ?_);refine Fb hHj (Bm [Cd part]) (xs:=[.tmp 61]) Y7 Wh rfl rfl rfl (by omega) ?_;refine Qs ?_;refine ⟨rfl,by simp [Yw],fun g w4 hHk=>?_⟩;(try refine Qs ?_);(try simp only [Bo]);(try refine Qs ?_);refine Cl ?_;refine Qs ?_;refine Ew (zs:=#[.int .u32 0]) (bytes:=4) hHk 6 rfl Y7 (by kernel_rfl) rfl ⟨rfl,Az (hHk.at 0 rfl),78,Y7⟩ (by simp [Bm];rfl) (fun h=>by omega) fun a' cap' w12 hc' hHl=>?_;(try refine Qs ?_);(try simp only [Bo]);(try refine Qs ?_);refine Af ?_;refine Qs ?_;refine Al hHl 5 (vs:=[.slice a' (ps.length+1) cap']) rfl rfl (by kernel_rfl) (by simp) (by simp [Yg]) fun w13 hHm=>?_;simp only [Yh,Yd] at hHm;(try refine Qs ?_);(try simp only [Bo]);(try refine Qs ?_);refine out a' cap' w13 ?_;exact hHm.sub (Y0 _ _)
   refine Ac Gi ?_;refine Qs ?_;refine Yi (Zg part w6 (by omega)) ?_;rintro v w7 ⟨hHz,rfl⟩;have hHj:=hHi.call0 hHz;simp only [Ye] at hHj;have c1:w7.cell? ⟨g9,0,none⟩=some (.slice a2 ps.length c2):=Aj (hHj.at 4 rfl) rfl;(try refine Qs ?_);(try simp only [Bo]);(try refine Qs ?_);refine And.intro ?_ ?_
   ·
    refine ⟨_,c1,?_⟩;(try refine Qs ?_);(try simp only [Bo]);(try refine Qs ?_);refine Fb hHj (Bm [Cd part]) (xs:=[.tmp 61]) Y7 Wh rfl rfl rfl (by omega) ?_;refine Qs ?_;refine ⟨rfl,by simp [Yw],fun g w4 hHk=>?_⟩;(try refine Qs ?_);(try simp only [Bo]);(try refine Qs ?_);refine Cl ?_;refine Qs ?_;refine Ew (zs:=#[.int .u32 0]) (bytes:=4) hHk 6 rfl Y7 (by kernel_rfl) rfl ⟨rfl,Az (hHk.at 0 rfl),78,Y7⟩ (by simp [Bm];rfl) (fun h=>by omega) fun a' cap' w12 hc' hHl=>?_;(try refine Qs ?_);(try simp only [Bo]);(try refine Qs ?_);refine Af ?_;refine Qs ?_;refine Al hHl 5 (vs:=[.slice a' (ps.length+1) cap']) rfl rfl (by kernel_rfl) (by simp) (by simp [Yg]) fun w13 hHm=>?_;simp only [Yh,Yd] at hHm;(try refine Qs ?_);(try simp only [Bo]);(try refine Qs ?_);refine out a' cap' w13 ?_;exact hHm.sub (Y0 _ _)
   refine Fb hHj (Bm [Cd part]) (xs:=[.tmp 61]) Y7 Wh rfl rfl rfl (by omega) ?_;refine Qs ?_;refine ⟨rfl,by simp [Yw],fun g w4 hHk=>?_⟩;(try refine Qs ?_);have c2':w4.cell? ⟨g9,0,none⟩=some (.slice a2 ps.length c2):=Aj (hHk.at 5 rfl) rfl;(try simp only [Bo]);(try refine Qs ?_);refine ⟨_,c2',?_⟩;(try refine Qs ?_);(try simp only [Bo]);(try refine Qs ?_);refine Cl ?_;refine Qs ?_;refine Ew (zs:=#[.int .u32 0]) (bytes:=4) hHk 6 rfl Y7 (by kernel_rfl) rfl ⟨rfl,Az (hHk.at 0 rfl),78,Y7⟩ (by simp [Bm];rfl) (fun h=>by omega) fun a' cap' w12 hc' hHl=>?_;(try refine Qs ?_);(try simp only [Bo]);(try refine Qs ?_);refine Af ?_;refine Qs ?_;refine Al hHl 5 (vs:=[.slice a' (ps.length+1) cap']) rfl rfl (by kernel_rfl) (by simp) (by simp [Yg]) fun w13 hHm=>?_;simp only [Yh,Yd] at hHm;(try refine Qs ?_);(try simp only [Bo]);(try refine Qs ?_);refine out a' cap' w13 ?_;exact hHm.sub (Y0 _ _)
  intro a' c' w10 hHn;apply hK;clear hK
  have hr:({ r with state:=.ready,pending:=none }:Loop)=r:=by
   cases r;simp only at r1 r2;subst r1 r2;rfl
  refine Mx (La fun a n hf=>⟨_,n,rfl,hHn.at 0 rfl,rfl,?_⟩);rw [hr];refine ⟨_,⟨ps++[part],bs++[B],gp,cap',a',c',Qpt hPB _ _ hpb,hcut,hdl,rfl⟩,?_⟩;have hHo:=((hHn.put (.loop r)).front 2 rfl).front 2 rfl;rw [show (ps++[part]).length=ps.length+1 by simp,show Bm ((ps++[part]).map Cd)=Bm (ps.map Cd)++Bm [Cd part] by simp [Bm]];exact hHo
 rintro _ w9 ⟨G,⟨ps,bs,ga,c1,a2,c2,hpb,hcut,_,rfl⟩,hHr⟩
 have hr:({ r with state:=.ready,pending:=none }:Loop)=r:=by
  cases r;simp only at r1 r2;subst r1 r2;rfl
 refine ⟨.ready,none,?_,by simp,?_⟩
 ·
  rw [hr];exact hHr.at 2 rfl
 simp only;have hHs:=(hHr.front 2 rfl).put (.loop { r with state:=.exhausted,pending:=none });generalize w9.putObj (dr+1) (Uk { r with state:=.exhausted,pending:=none })=wb at *;generalize Uk { r with state:=.exhausted,pending:=none }=ro at *;clear hHr r1 r2 r3 r4 r5 r7 r8 hr hH11 w9;rw [Vl,Yq] at hcut;subst hcut;have hok:=Qff (show 1<=most by omega) s.length s (Y5 _);have hps:(Cz s most).length<=262144:=by omega
 have hfl:=Qh5 _ _ hpb fun p hp=>by
  obtain ⟨a,b,c⟩:=hok.2.2 p hp;exact ⟨a,by omega⟩
 have hbl:=Vu _ _ hpb
 have h32:∀ x∈(Cz s most).map Cd,x < 4294967296:=by
  intro x hx;obtain ⟨p,_,rfl⟩:=Uf.1 hx;exact Qbk p
 have hcl:=Wt _ h32
 have hend:PackOk s lv most (.tuple #[Aa (Bi ((hd::(bs++[A0 48 25779555029136++A0 32 (Ii ((Cz s most).map Cd))])).flatten)),.int .i64 0]):=by
  rw [PackOk,if_neg hg,if_neg (by omega)];refine ⟨bs,hpb,?_⟩;rw [hhd,X4];unfold Ib;simp only [Y4,U7,Xq,Yq,Ys]
 have hlL:((Cz s most).map Cd).length=(Cz s most).length:=Uu ..;generalize hsum:(Cz s most).map Cd=sums at *;generalize (Cz s most).length=m at *;refine Mx ?_;refine GQ [6,7,8,9,13] fun K hK=>?_;refine Ac Tryz.call32 ?_;refine Qs ?_;refine Yi (Q2 wb) ?_;rintro v w11 ⟨gw,hHw,rfl⟩;have hHt:=hHs.call0 hHw;clear hHs hHw;(try refine Qs ?_);apply hK;clear hK;refine GQ [6,7,8,9,13] fun K hK=>?_;refine Ac Ua ?_;refine Qs ?_;refine Yi (Iq gw none 0 [] 25779555029136 48 w11 (by omega) (by decide) (by simp) (hHt.focus 0 rfl)) ?_;rintro v w12 ⟨a',c',hHp,rfl⟩;have hHu:=hHt.call1 0 rfl hHp;clear hHt hHp;(try refine Qs ?_);apply hK;clear hK
 have hHv:Heap w [] w12 [wr gw a' c' (A0 48 25779555029136),Res.obj (dr+1) ro,Ya gs 9 [Aa []],Ya gm 3 [.int .i64 most],Res.obj dr (.deferred (some [])),Ya g9 72 [.slice a2 m c2],Yf 78 1 a2 m c2 (Bm sums),
   Ya g8 71 [.slice (some ⟨ga,0,none⟩) (m+1) c1],Yf 70 2 (some ⟨ga,0,none⟩) (m+1) c1 (Fc (hd::bs)),Ya g7 23 [.int .i64 0],Ya g6 9 [.string ⟨#[]⟩]]:=hHu
 clear hHu;refine GQ [6,7,8,13] fun K hK=>?_;refine ⟨_,Aj (hHv.at 5 rfl) rfl,?_⟩;(try refine Qs ?_);have hcs:=Qde sums a2 c2 w12 (by rw [hlL];exact Az (hHv.at 6 rfl)) h32 (by omega);rw [hlL] at hcs;refine Ac Tryz.call34 ?_;refine Qs ?_;refine Yi hcs ?_;rintro v w13 ⟨rfl,rfl⟩;(try refine Qs ?_);rw [show ((Ii sums:Nat):Int) % 18446744073709551616=((Ii sums:Nat):Int) by omega];refine Ac Ua ?_;refine Qs ?_;refine Yi (Iq gw a' c' (A0 48 25779555029136) (Ii sums) 32 w13 (by omega) (by simpa using hcl) (by rw [Ct];omega) (hHv.focus 0 rfl)) ?_;rintro v w14 ⟨a3,c3,hHp,rfl⟩;(try refine Qs ?_);apply hK;clear hK;have hBl:(A0 48 25779555029136++A0 32 (Ii sums)).length=80:=by simp [Ct]
 generalize A0 48 25779555029136++A0 32 (Ii sums)=B at *
 have hHw:Heap w [] w14 [wr gw a3 c3 B,Res.obj (dr+1) ro,Ya gs 9 [Aa []],Ya gm 3 [.int .i64 most],Res.obj dr (.deferred (some [])),Ya g9 72 [.slice a2 m c2],Yf 78 1 a2 m c2 (Bm sums),
   Ya g8 71 [.slice (some ⟨ga,0,none⟩) (m+1) c1],Yf 70 2 (some ⟨ga,0,none⟩) (m+1) c1 (Fc (hd::bs)),Ya g7 23 [.int .i64 0],Ya g6 9 [.string ⟨#[]⟩]]:=hHv.call1 0 rfl hHp
 clear hHv hHp hcs hcl h32 hlL hok hpb;have hf:=hHw.focus 8 rfl;have hW:=hHw.at 0 rfl;have hlen:(hd::(bs++[B])).length=m+1+1:=by simp;omega
 have hjn:=fun (gp cap:Nat) (w:World) hl=>Qdp (hd::(bs++[B])) ⟨gp,0,none⟩ rfl cap w hl (by
  have:hd.length=32:=by rw [hhd,D0];rfl
  simp only [Y4,U7,Xq,Yq,Yb];omega) (by omega)
 rw [hlen] at hjn;generalize hls:(hd::(bs++[B]))=ls at *;clear hlen;obtain ⟨w0,hx0,c0,hE⟩:∃ w0,Ext w0 w14/\w0.cell? ⟨g8,0,none⟩=some (.slice (some ⟨ga,0,none⟩) (m+1) c1)/\∀ w' G,Heap w14 (Yf 70 2 (some ⟨ga,0,none⟩) (m+1) c1 (Fc (hd::bs))).foot w' G->Ext w0 w':=⟨holes (Yf 70 2 (some ⟨ga,0,none⟩) (m+1) c1 (Fc (hd::bs))).foot w14,Ext.hole _ _,hHw.hole_at 8 7 rfl rfl (by omega) rfl,fun w' G h=>h.upd.extH⟩;(repeat with_reducible refine A5 ?_);refine Qgf w0 hx0 [6,7,14,15] (.two [(0,true),(1,true),(3,true)] 2 12 (.two [] 4 12 (.two [(5,true)] 6 12 (.two [] 7 12 (.two [] 8 12 (.seq [(9,true),(10,true),(11,true),(12,false),(13,false),(14,true)]) (.seq [(8,false),(9,true),(10,true),(11,true),(13,false),(14,true)])) (.seq [(7,false),(8,false),(9,true),(10,true),(11,true),(13,false),(14,true)])) (.seq [(6,false),(7,false),(8,false),(9,true),(10,true),(11,true),(13,false),(14,true)])) (.seq [(4,false),(5,true),(6,false),(7,false),(8,false),(9,true),(10,true),(11,true),(13,false),(14,true)])) (.seq [(2,false),(4,false),(5,true),(6,false),(7,false),(8,false),(9,true),(10,true),(11,true),(13,false),(14,true)])) (by kernel_rfl) (by kernel_rfl) (by kernel_rfl) fun K hK=>?_
 suffices out:∀ (g14:Nat) (w':World),Heap w [] w' [Ya g14 70 (Ay ls.flatten),Res.obj dr (.deferred (some [])),Ya g7 23 [.int .i64 0],Ya g6 9 [.string ⟨#[]⟩]]->K [(6,pt g6),(7,pt g7),(14,pt g14),(15,.int .i64 0)] w' by
  simp only [Ti,Bd,List.filterMap_cons,List.filterMap_nil,List.getElem?_cons_succ,List.getElem?_cons_zero,Option.map_some];refine Qs ?_;refine ⟨_,c0,?_⟩;(try simp only [Bo]);(try refine Qs ?_);refine And.intro ?_ ?_
  ·
   refine Ac Gj ?_;refine Qs ?_;refine Yi (Py gw a3 c3 B _ hW) ?_;rintro v wt ⟨rfl,rfl⟩;(try simp only [Mu]);refine ⟨hE _ _ hf,?_⟩;(try simp only [Bo]);(try refine Qs ?_);refine And.intro ?_ ?_
   ·
    refine Ac U1 ?_;refine Qs ?_;refine Yi (Oy gw a3 c3 B _ hW) ?_;rintro v wt ⟨rfl,rfl⟩;(try simp only [Mu]);refine ⟨hE _ _ hf,?_⟩;(try simp only [Bo]);(try refine Qs ?_);refine And.intro ?_ ?_
    ·
     refine E4 hf 2 (Ay B) (xs:=[.tmp 78]) Yo Oc rfl rfl rfl (by omega) (by omega) ?_;refine Qs ?_;refine ⟨by simp [Ay,Yw],by simp [Ay,Yw],fun gl wl hf=>?_⟩;refine ⟨hE _ _ hf,?_⟩;(try simp only [Bo]);(try refine Qs ?_);refine And.intro ?_ ?_
     ·
      refine Cl ?_;refine Qs ?_;refine Ew (zs:=#[.string ⟨#[]⟩,.int .i64 0]) (bytes:=24) hf 1 rfl Yo (by kernel_rfl) rfl ⟨rfl,Az (hf.at 0 rfl),70,Yo⟩ (E5 _) (fun h=>by omega) fun a' cap' wp hc' hf=>?_;obtain ⟨gp,rfl⟩:=Ir (hf.at 1 rfl) (by omega);refine ⟨hE _ _ hf,?_⟩;simp only [Yh,Yd] at hf;rw [Q5,Yl,hls] at hf;(try simp only [Bo]);(try refine Qs ?_);refine And.intro ?_ ?_
      ·
       refine Ac X1 ?_;refine Qs ?_;refine Yi (hjn gp cap' _ (Az (hf.at 1 rfl))) ?_;rintro v wj ⟨hJ,rfl⟩;have hf:=hf.call0 hJ;simp only [Ye] at hf;(try simp only [Mu]);refine ⟨hE _ _ hf,?_⟩;(try simp only [Bo]);(try refine Qs ?_);refine A6 (.agg #[.string ⟨#[]⟩,.int .i64 0]) (by kernel_rfl) ?_;refine Qs ?_;have hf:=hf.box 70 [.string ⟨#[]⟩,.int .i64 0];refine ⟨hE _ _ hf,?_⟩;(try simp only [Bo]);(try refine Qs ?_);refine Af ?_;refine Qs ?_;refine Al hf 0 (vs:=Ay ls.flatten) rfl rfl (by kernel_rfl) (by simp [Ay]) (E5 _) fun ws hf=>?_;refine ⟨hE _ _ hf,?_⟩;simp only [Yh,Yd] at hf;(try simp only [Bo]);(try refine Qs ?_);exact out _ _ ((hHw.call1 8 rfl (hf.perm (.swap _ _ _))).sub (.cons_cons _ (.cons _ (.cons _ (.cons _ (.cons _ (.cons _ (.cons_cons _ (.cons _ (.cons _ (.cons _ (.cons _ (.refl _)))))))))))))
      refine A6 (.agg #[.string ⟨#[]⟩,.int .i64 0]) (by kernel_rfl) ?_;refine Qs ?_;have hf:=hf.box 70 [.string ⟨#[]⟩,.int .i64 0];refine ⟨hE _ _ hf,?_⟩;(try simp only [Bo]);(try refine Qs ?_);refine Ac X1 ?_;refine Qs ?_;refine Yi (hjn gp cap' _ (Az (hf.at 2 rfl))) ?_;rintro v wj ⟨hJ,rfl⟩;have hf:=hf.call0 hJ;simp only [Ye] at hf;(try simp only [Mu]);refine ⟨hE _ _ hf,?_⟩;(try simp only [Bo]);(try refine Qs ?_);refine Af ?_;refine Qs ?_;refine Al hf 0 (vs:=Ay ls.flatten) rfl rfl (by kernel_rfl) (by simp [Ay]) (E5 _) fun ws hf=>?_;refine ⟨hE _ _ hf,?_⟩;simp only [Yh,Yd] at hf;(try simp only [Bo]);(try refine Qs ?_);exact out _ _ ((hHw.call1 8 rfl (hf.perm (.swap _ _ _))).sub (.cons_cons _ (.cons _ (.cons _ (.cons _ (.cons _ (.cons _ (.cons_cons _ (.cons _ (.cons _ (.cons _ (.cons _ (.refl _)))))))))))))
     refine A6 (.agg #[.string ⟨#[]⟩,.int .i64 0]) (by kernel_rfl) ?_;refine Qs ?_;have hf:=hf.box 70 [.string ⟨#[]⟩,.int .i64 0];refine ⟨hE _ _ hf,?_⟩;(try simp only [Bo]);(try refine Qs ?_);refine Cl ?_;refine Qs ?_;refine Ew (zs:=#[.string ⟨#[]⟩,.int .i64 0]) (bytes:=24) hf 2 rfl Yo (by kernel_rfl) rfl ⟨rfl,Az (hf.at 1 rfl),70,Yo⟩ (E5 _) (fun h=>by omega) fun a' cap' wp hc' hf=>?_;obtain ⟨gp,rfl⟩:=Ir (hf.at 2 rfl) (by omega);refine ⟨hE _ _ hf,?_⟩;simp only [Yh,Yd] at hf;rw [Q5,Yl,hls] at hf;(try simp only [Bo]);(try refine Qs ?_);refine Ac X1 ?_;refine Qs ?_;refine Yi (hjn gp cap' _ (Az (hf.at 2 rfl))) ?_;rintro v wj ⟨hJ,rfl⟩;have hf:=hf.call0 hJ;simp only [Ye] at hf;(try simp only [Mu]);refine ⟨hE _ _ hf,?_⟩;(try simp only [Bo]);(try refine Qs ?_);refine Af ?_;refine Qs ?_;refine Al hf 0 (vs:=Ay ls.flatten) rfl rfl (by kernel_rfl) (by simp [Ay]) (E5 _) fun ws hf=>?_;refine ⟨hE _ _ hf,?_⟩;simp only [Yh,Yd] at hf;(try simp only [Bo]);(try refine Qs ?_);exact out _ _ ((hHw.call1 8 rfl (hf.perm (.swap _ _ _))).sub (.cons_cons _ (.cons _ (.cons _ (.cons _ (.cons _ (.cons _ (.cons_cons _ (.cons _ (.cons _ (.cons _ (.cons _ (.refl _)))))))))))))
    refine A6 (.agg #[.string ⟨#[]⟩,.int .i64 0]) (by kernel_rfl) ?_;refine Qs ?_;have hf:=hf.box 70 [.string ⟨#[]⟩,.int .i64 0];refine ⟨hE _ _ hf,?_⟩;(try simp only [Bo]);(try refine Qs ?_);refine E4 hf 2 (Ay B) (xs:=[.tmp 78]) Yo Oc rfl rfl rfl (by omega) (by omega) ?_;refine Qs ?_;refine ⟨by simp [Ay,Yw],by simp [Ay,Yw],fun gl wl hf=>?_⟩;refine ⟨hE _ _ hf,?_⟩;(try simp only [Bo]);(try refine Qs ?_);refine Cl ?_;refine Qs ?_;refine Ew (zs:=#[.string ⟨#[]⟩,.int .i64 0]) (bytes:=24) hf 2 rfl Yo (by kernel_rfl) rfl ⟨rfl,Az (hf.at 0 rfl),70,Yo⟩ (E5 _) (fun h=>by omega) fun a' cap' wp hc' hf=>?_;obtain ⟨gp,rfl⟩:=Ir (hf.at 2 rfl) (by omega);refine ⟨hE _ _ hf,?_⟩;simp only [Yh,Yd] at hf;rw [Q5,Yl,hls] at hf;(try simp only [Bo]);(try refine Qs ?_);refine Ac X1 ?_;refine Qs ?_;refine Yi (hjn gp cap' _ (Az (hf.at 2 rfl))) ?_;rintro v wj ⟨hJ,rfl⟩;have hf:=hf.call0 hJ;simp only [Ye] at hf;(try simp only [Mu]);refine ⟨hE _ _ hf,?_⟩;(try simp only [Bo]);(try refine Qs ?_);refine Af ?_;refine Qs ?_;refine Al hf 1 (vs:=Ay ls.flatten) rfl rfl (by kernel_rfl) (by simp [Ay]) (E5 _) fun ws hf=>?_;refine ⟨hE _ _ hf,?_⟩;simp only [Yh,Yd] at hf;(try simp only [Bo]);(try refine Qs ?_);exact out _ _ ((hHw.call1 8 rfl hf).sub (.cons_cons _ (.cons _ (.cons _ (.cons _ (.cons _ (.cons _ (.cons_cons _ (.cons _ (.cons _ (.cons _ (.cons _ (.refl _)))))))))))))
   refine A6 (.agg #[.string ⟨#[]⟩,.int .i64 0]) (by kernel_rfl) ?_;refine Qs ?_;have hf:=hf.box 70 [.string ⟨#[]⟩,.int .i64 0];refine ⟨hE _ _ hf,?_⟩;(try simp only [Bo]);(try refine Qs ?_);have hW:=(hHw.call1 8 rfl hf).at 1 rfl;refine Ac U1 ?_;refine Qs ?_;refine Yi (Oy gw a3 c3 B _ hW) ?_;rintro v wt ⟨rfl,rfl⟩;(try simp only [Mu]);refine ⟨hE _ _ hf,?_⟩;(try simp only [Bo]);(try refine Qs ?_);refine E4 hf 2 (Ay B) (xs:=[.tmp 78]) Yo Oc rfl rfl rfl (by omega) (by omega) ?_;refine Qs ?_;refine ⟨by simp [Ay,Yw],by simp [Ay,Yw],fun gl wl hf=>?_⟩;refine ⟨hE _ _ hf,?_⟩;(try simp only [Bo]);(try refine Qs ?_);refine Cl ?_;refine Qs ?_;refine Ew (zs:=#[.string ⟨#[]⟩,.int .i64 0]) (bytes:=24) hf 2 rfl Yo (by kernel_rfl) rfl ⟨rfl,Az (hf.at 0 rfl),70,Yo⟩ (E5 _) (fun h=>by omega) fun a' cap' wp hc' hf=>?_;obtain ⟨gp,rfl⟩:=Ir (hf.at 2 rfl) (by omega);refine ⟨hE _ _ hf,?_⟩;simp only [Yh,Yd] at hf;rw [Q5,Yl,hls] at hf;(try simp only [Bo]);(try refine Qs ?_);refine Ac X1 ?_;refine Qs ?_;refine Yi (hjn gp cap' _ (Az (hf.at 2 rfl))) ?_;rintro v wj ⟨hJ,rfl⟩;have hf:=hf.call0 hJ;simp only [Ye] at hf;(try simp only [Mu]);refine ⟨hE _ _ hf,?_⟩;(try simp only [Bo]);(try refine Qs ?_);refine Af ?_;refine Qs ?_;refine Al hf 1 (vs:=Ay ls.flatten) rfl rfl (by kernel_rfl) (by simp [Ay]) (E5 _) fun ws hf=>?_;refine ⟨hE _ _ hf,?_⟩;simp only [Yh,Yd] at hf;(try simp only [Bo]);(try refine Qs ?_);exact out _ _ ((hHw.call1 8 rfl hf).sub (.cons_cons _ (.cons _ (.cons _ (.cons _ (.cons _ (.cons _ (.cons_cons _ (.cons _ (.cons _ (.cons _ (.cons _ (.refl _)))))))))))))
  refine A6 (.agg #[.string ⟨#[]⟩,.int .i64 0]) (by kernel_rfl) ?_;refine Qs ?_;have hf:=hf.box 70 [.string ⟨#[]⟩,.int .i64 0];refine ⟨hE _ _ hf,?_⟩;(try simp only [Bo]);(try refine Qs ?_);have hW:=(hHw.call1 8 rfl hf).at 1 rfl;refine Ac Gj ?_;refine Qs ?_;refine Yi (Py gw a3 c3 B _ hW) ?_;rintro v wt ⟨rfl,rfl⟩;(try simp only [Mu]);refine ⟨hE _ _ hf,?_⟩;(try simp only [Bo]);(try refine Qs ?_);refine Ac U1 ?_;refine Qs ?_;refine Yi (Oy gw a3 c3 B _ hW) ?_;rintro v wt ⟨rfl,rfl⟩;(try simp only [Mu]);refine ⟨hE _ _ hf,?_⟩;(try simp only [Bo]);(try refine Qs ?_);refine E4 hf 2 (Ay B) (xs:=[.tmp 78]) Yo Oc rfl rfl rfl (by omega) (by omega) ?_;refine Qs ?_;refine ⟨by simp [Ay,Yw],by simp [Ay,Yw],fun gl wl hf=>?_⟩;refine ⟨hE _ _ hf,?_⟩;(try simp only [Bo]);(try refine Qs ?_);refine Cl ?_;refine Qs ?_;refine Ew (zs:=#[.string ⟨#[]⟩,.int .i64 0]) (bytes:=24) hf 2 rfl Yo (by kernel_rfl) rfl ⟨rfl,Az (hf.at 0 rfl),70,Yo⟩ (E5 _) (fun h=>by omega) fun a' cap' wp hc' hf=>?_;obtain ⟨gp,rfl⟩:=Ir (hf.at 2 rfl) (by omega);refine ⟨hE _ _ hf,?_⟩;simp only [Yh,Yd] at hf;rw [Q5,Yl,hls] at hf;(try simp only [Bo]);(try refine Qs ?_);refine Ac X1 ?_;refine Qs ?_;refine Yi (hjn gp cap' _ (Az (hf.at 2 rfl))) ?_;rintro v wj ⟨hJ,rfl⟩;have hf:=hf.call0 hJ;simp only [Ye] at hf;(try simp only [Mu]);refine ⟨hE _ _ hf,?_⟩;(try simp only [Bo]);(try refine Qs ?_);refine Af ?_;refine Qs ?_;refine Al hf 1 (vs:=Ay ls.flatten) rfl rfl (by kernel_rfl) (by simp [Ay]) (E5 _) fun ws hf=>?_;refine ⟨hE _ _ hf,?_⟩;simp only [Yh,Yd] at hf;(try simp only [Bo]);(try refine Qs ?_);exact out _ _ ((hHw.call1 8 rfl hf).sub (.cons_cons _ (.cons _ (.cons _ (.cons _ (.cons _ (.cons _ (.cons_cons _ (.cons _ (.cons _ (.cons _ (.cons _ (.refl _)))))))))))))
 intro g14 w15 hHy;apply hK;clear hK;clear hf hW hx0 c0 hE hjn hHw;refine GQ [6,7] fun K hK=>?_;refine ⟨_,Aj (hHy.at 0 rfl) (show (Ay ls.flatten)[0]? = some _ from rfl),?_⟩;(try refine Qs ?_);refine Af ?_;refine Qs ?_;refine Al hHy 3 (vs:=[Aa (Bi ls.flatten)]) rfl rfl (by kernel_rfl) (by simp) (by simp [Yg]) fun w16 hHz=>?_;(try refine Qs ?_);refine Af ?_;refine Qs ?_;refine Al hHz 2 (vs:=[.int .i64 0]) rfl rfl (by kernel_rfl) (by simp) (by simp [Yg]) fun w17 hHq=>?_;(try refine Qs ?_);apply hK;clear hK;have hHr:Heap w [] w17 [Res.obj dr (.deferred (some [])),Ya g7 23 [.int .i64 0],Ya g6 9 [Aa (Bi ls.flatten)]]:=hHq.sub (.cons _ (.refl _));have hHp2:=hHr.put (.deferred none);exact Nh (QOv (hHr.at 0 rfl) (Qp1 (hHp2.at 2 rfl) (hHp2.at 1 rfl) ⟨hHp2.sub (by simp),hend⟩))
open Go.Shelf
def Qey:Go.Shelf.Ren:=⟨fun | 105=>38 | 212=>70 | 99=>23 | 165=>71 | 166=>53 | 170=>72 | 169=>54 | 263=>112 | 264=>113 | 206=>47 | 240=>95 | 241=>114 | 276=>134 | 277=>147 | n=>n,fun | 9=>9 | 3=>3 | 4=>4 | 20=>20 | 0=>0 | 46=>128 | 109=>133 | 5=>5 | 72=>105 | 76=>109 | 51=>78 | 146=>175 | 53=>83 | 148=>177 | 70=>103 | 37=>37 | 75=>108 | 127=>159 | 164=>193 | 80=>86 | n=>n,fun | n=>n⟩
theorem QE4:Go.Proofs.Lays.n105 Yk Qey:={
 mixed:=by kernel_rfl
 f99:=Tryz.func23.trans (congrArg some (by kernel_rfl))
 f105:=Tryz.func38.trans (congrArg some (by kernel_rfl))
 f165:=Tryz.func71.trans (congrArg some (by kernel_rfl))
 f166:=Tryz.func53.trans (congrArg some (by kernel_rfl))
 f169:=Tryz.func54.trans (congrArg some (by kernel_rfl))
 f170:=Tryz.func72.trans (congrArg some (by kernel_rfl))
 f206:=Tryz.func47.trans (congrArg some (by kernel_rfl))
 f212:=Tryz.func70.trans (congrArg some (by kernel_rfl))
 f240:=Tryz.func95.trans (congrArg some (by kernel_rfl))
 f241:=Tryz.func114.trans (congrArg some (by kernel_rfl))
 f263:=Tryz.func112.trans (congrArg some (by kernel_rfl))
 f264:=Tryz.func113.trans (congrArg some (by kernel_rfl))
 f276:=Tryz.func134.trans (congrArg some (by kernel_rfl))
 f277:=Tryz.func147.trans (congrArg some (by kernel_rfl))
 t0:=Tryz.underlying0
 a0:=Tryz.isAgg0
 z0:=Tryz.sizeOf0
 v0:=Tryz.zeroValue0
 t3:=Tryz.underlying3
 a3:=Tryz.isAgg3
 z3:=Tryz.sizeOf3
 v3:=Tryz.zeroValue3
 t4:=Tryz.underlying4
 a4:=Tryz.isAgg4
 z4:=Tryz.sizeOf4
 v4:=Tryz.zeroValue4
 t5:=Tryz.underlying5
 a5:=Tryz.isAgg5
 z5:=Tryz.sizeOf5
 v5:=Tryz.zeroValue5
 t9:=Tryz.underlying9
 a9:=Tryz.isAgg9
 z9:=Tryz.sizeOf9
 v9:=Tryz.zeroValue9
 t20:=Tryz.underlying20
 a20:=Tryz.isAgg20
 z20:=Tryz.sizeOf20
 v20:=Tryz.zeroValue20
 t37:=Uo
 a37:=Tryz.isAgg37
 z37:=Tryz.sizeOf37
 v37:=Tryz.zeroValue37
 t46:=Tryz.underlying128
 a46:=Tryz.isAgg128
 z46:=Tryz.sizeOf128
 v46:=Tryz.zeroValue128
 t51:=Tryz.underlying78
 a51:=Tryz.isAgg78
 z51:=Tryz.sizeOf78
 v51:=Tryz.zeroValue78
 t53:=Tryz.underlying83
 a53:=Tryz.isAgg83
 z53:=Tryz.sizeOf83
 v53:=Tryz.zeroValue83
 t70:=Tryz.underlying103
 a70:=Tryz.isAgg103
 z70:=Tryz.sizeOf103
 v70:=Tryz.zeroValue103
 t72:=Tryz.underlying105
 a72:=Tryz.isAgg105
 z72:=Tryz.sizeOf105
 v72:=Tryz.zeroValue105
 t75:=Tryz.underlying108
 a75:=Tryz.isAgg108
 z75:=Tryz.sizeOf108
 v75:=Tryz.zeroValue108
 t76:=Tryz.underlying109
 a76:=Tryz.isAgg109
 z76:=Tryz.sizeOf109
 v76:=Tryz.zeroValue109
 t109:=Tryz.underlying133
 a109:=Tryz.isAgg133
 z109:=Tryz.sizeOf133
 v109:=Tryz.zeroValue133
 t127:=Tryz.underlying159
 a127:=Tryz.isAgg159
 z127:=Tryz.sizeOf159
 v127:=Tryz.zeroValue159
 t146:=Tryz.underlying175
 a146:=Tryz.isAgg175
 z146:=Tryz.sizeOf175
 v146:=Tryz.zeroValue175
 t148:=Tryz.underlying177
 a148:=Tryz.isAgg177
 z148:=Tryz.sizeOf177
 v148:=Tryz.zeroValue177
 t164:=Tryz.underlying193
 a164:=Tryz.isAgg193
 z164:=Tryz.sizeOf193
 v164:=Tryz.zeroValue193 }
theorem Qz8:Go.Proofs.Builder.Extra Yk Qey where
 sizeBuilder:=by kernel_rfl
 liesBuilder:=by kernel_rfl
 t5:=Tryz.underlying5
 a5:=Tryz.isAgg5
 z5:=Tryz.sizeOf5
 v5:=Tryz.zeroValue5
 infoByte:=by kernel_rfl
 cellsByte:=by kernel_rfl
 sizeByte:=by kernel_rfl
 neB5:=by decide
open Go Go.Eng
set_option maxHeartbeats 1000000
theorem bdE {KV:Value->Prop} (s0:ByteArray):Cs Yk 29 [(0,.string s0)] KV=KV (.agg #[.string s0,.string ⟨#[]⟩]):=Dg (by kernel_rfl)
attribute [go_sem ↓] bdE
theorem Qoh (n:Nat) (w:World) (hn:n<=1000):Does Yk 38 #[Aa [0],.int .i64 n] w fun v w'=>Heap w [] w' []/\v=Aa (Bh n):=by
 intro m;have hm:=Go.Proofs.Any.strings_Repeat QE4 Qz8 ⟨#[0]⟩ n (w.drewN m) (by omega) (by simp [ByteArray.size];omega);refine hm.mono fun e w' ⟨he,hw⟩=>?_;refine ⟨_,w',0,he,rfl,⟨⟨hw.os,hw.tape,hw.output,hw.size,fun k hk _=>hw.block k hk⟩,by simp,by simp,.nil⟩,?_⟩
 have:∀ n,Lib.repeatL [0] n=Bh n:=by
  intro n
  induction n with
  | zero=>rfl
  | succ n ih=>rw [Lib.repeatL,ih,Bh,Bh,List.replicate_succ];rfl
 show _=Aa _
 rw [<- this]
theorem Qdh (s:Bs) (w:World) (hs:s.length<=1000000000000):Does Yk 16 #[Aa s] w fun v w'=>Heap w [] w' []/\v=Aa (F2 s):=by
 refine En [Aa s] 13 Tryz.func16 ?_;refine VS [0] ?_;refine VQ [0,3] fun K hK=>?_;rw [show (512 - (s.length:Int) % 512) % 512=(((512 - s.length % 512) % 512:Nat):Int) by omega];refine ⟨by omega,by omega,Xp (by omega) (by omega),by omega,by omega,?_⟩;apply hK;clear hK;refine VQ [2] fun K hK=>?_;refine Ac Tryz.call38 ?_;refine Qs ?_;refine Yi (Qoh ((512 - s.length % 512) % 512) w (by omega)) ?_;rintro v w2 ⟨hH,rfl⟩;(try refine Qs ?_);refine And.intro (by rw [Ey];omega) ?_;apply hK;clear hK;exact Ad (A2 rfl rfl ⟨hH,rfl⟩)
noncomputable def makeV (p c:Bs):Value :=
 if D6 p=some p then (if 8192 < c.length then .tuple #[Aa [],.int .i64 3] else .tuple #[Aa (Ck p c (tS c)),.int .i64 0]) else .tuple #[Aa [],.int .i64 140]
theorem Zb (p c:Bs) (w:World) (hT:Tb w) (hp:p.length<=1000000000) (hc:c.length<=140737488355328) :
  Does Yk 8 #[Aa p,Aa c] w fun v w'=>Heap w [] w' []/\v=makeV p c/\(D6 p=some p->c.length<=8192->P1 c (tS c)):=by
 rw [makeV];refine En [Aa p,Aa c] 52 Tryz.func8 ?_;refine VS [0,1] ?_;refine VS [0,1,13] ?_;refine VD (fun h=>?_) (fun h=>Ab ?_)
 ·
  refine VQ [7] fun K hK=>?_;refine Ac Tryz.call14 ?_;refine Qs ?_;refine Yi (Qex p [] w hT hp (by simp)) ?_;rintro v w2 ⟨hH,rfl⟩;rw [Qmk];by_cases hg:D6 p=some p
  ·
   rw [if_pos hg,if_neg (by simp)];(try refine Qs ?_);apply hK;clear hK;rw [if_pos hg,if_pos (by omega)];refine VS [7,21] ?_;refine Ae rfl rfl (fun h=>by simp at h) (fun h=>Ab ?_);refine VS [4,5] ?_;exact Ad (A7 rfl rfl rfl ⟨hH,rfl,fun _ h2=>by omega⟩)
  rw [if_neg hg];(try refine Qs ?_);apply hK;clear hK;rw [if_neg hg];refine VS [7,21] ?_;refine Ae rfl rfl (fun h=>?_) (fun h=>by simp at h);refine VS [4,5] ?_;exact Ad (A7 rfl rfl rfl ⟨hH,rfl,fun h2 _=>absurd h2 hg⟩)
 refine VQ [1,8,9] fun K hK=>?_;refine Ac Tryz.call14 ?_;refine Qs ?_;refine Yi (Qex p c w hT hp (by omega)) ?_;rintro v w2 ⟨hH,rfl⟩;rw [Qmk];by_cases hg:D6 p=some p
 ·
  rw [if_pos hg,if_neg (by omega)];(try refine Qs ?_);apply hK;clear hK;rw [if_pos hg,if_neg (by omega)];refine VS [1,8,9,31] ?_;refine Ae rfl rfl (fun h=>by simp at h) (fun h=>Ab ?_);refine VQ [1,8,9,10] fun K hK=>?_;refine Ac Tryz.call15 ?_;refine Qs ?_;refine Yi (Qw6 c 1 20000 w2 (Xp (by omega) (by omega)) (Xp (by omega) (by omega)) (by omega)) ?_;rintro v w3 ⟨hHx,hv⟩;rw [PackOk,if_neg (by omega),if_neg (by omega)] at hv;obtain ⟨bs,hb,rfl⟩:=hv;have hP:P1 c (Bi (Ib 1 bs ((Cz c 20000).map Cd))):=⟨bs,hb,rfl⟩;have hP2:=hP;rw [hP.tS] at hP2;replace hH:=hH.call0 hHx;rw [Ye] at hH;clear hHx;rw [show Xw 1=1 from rfl,hP.tS];generalize tS c=T at *;(try refine Qs ?_);apply hK;clear hK
  show VC _ _ [(1,Aa c),(8,Aa (Lc p c.length++F2 c)),(9,.int .i64 0),(10,Aa T)] w3
  refine VS [1,8,9,10,39] ?_;refine Ae rfl rfl (fun h=>by simp at h) (fun h=>Ab ?_);have hsm:=hP2.small (by omega);refine Vb [4,5] [(0,0),(1,0),(2,0),(3,0),(8,0),(4,2),(5,0),(6,0),(7,0),(9,2),(10,0),(11,0),(12,0)] fun K hK=>?_;refine Ac Tryz.call16 ?_;refine Qs ?_;refine Yi (Qdh c w3 (by omega)) ?_;rintro v w4 ⟨hHx,rfl⟩;replace hH:=hH.call0 hHx;rw [Ye] at hH;clear hHx;(try refine Qs ?_);have hfl:=Qj9 hg c.length;have hpc:=Rh c;have hpT:=Rh T;have hf2:(Lc p c.length).length<=1536:=by rw [hfl];split <;> omega
  rw [show (Lc p c.length++F2 c).take ((Lc p c.length++F2 c).length - (F2 c).length)=Lc p c.length by
   rw [Yb,Ui];exact Uw rfl]
  refine And.intro (Xp (by rw [Yb];omega) (by rw [Yb];omega)) (And.intro (by rw [Yb];omega) ?_);refine Ac Tryz.call16 ?_;refine Qs ?_;refine Yi (Qdh T w4 (by omega)) ?_;rintro v w5 ⟨hHx,rfl⟩;replace hH:=hH.call0 hHx;rw [Ye] at hH;clear hHx;(try refine Qs ?_);refine Qo ?_;apply hK;clear hK;exact Ad (A7 rfl rfl rfl ⟨hH,rfl,fun _ _=>hP2⟩)
 rw [if_neg hg];(try refine Qs ?_);apply hK;clear hK;rw [if_neg hg];refine VS [1,8,9,31] ?_;refine Ae rfl rfl (fun h=>?_) (fun h=>by simp at h);refine VS [4,5] ?_;exact Ad (A7 rfl rfl rfl ⟨hH,rfl,fun h2 _=>absurd h2 hg⟩)
set_option maxHeartbeats 1000000
def Th (s:Bs) (v:Value):Prop :=
 match Oe s with
 | some n=>v=.tuple #[.int .i64 n,.int .i64 0]
 | none=>∃ e:Int,e≠0/\v=.tuple #[.int .i64 0,.int .i64 e]
theorem Qd8 {s:Bs} (h:Oe s=none) {e:Int} (he:e≠0):Th s (.tuple #[.int .i64 0,.int .i64 e]):=by unfold Th;rw [h];exact ⟨e,he,rfl⟩
theorem Qw7 {s:Bs}{n:Nat} (h:Oe s=some n):Th s (.tuple #[.int .i64 n,.int .i64 0]):=by unfold Th;rw [h]
theorem Qp2:∀ (l:Bs) (m:Nat),m<=10 * 9007199254740992+255->l.foldl O7 m<=10 * 9007199254740992+255
 | [],_,h=>h
 | b::l,m,h=>by
  rw [List.foldl_cons];refine Qp2 l _ ?_;have:=b.toNat_lt;rw [O7];split <;> omega
theorem Qiz (s:Bs) (w:World) (hs:s.length<=1000000000):Does Yk 43 #[Aa s] w fun v w'=>w'=w/\Th s v:=by
 refine En [Aa s] 46 Tryz.func43 ?_;refine VS [0] ?_;refine VQ [0,16] fun K hK=>?_
 suffices out:∀ c:Bool,(c=true ↔ s=[]∨(s.getD 0 0=48/\s≠[48]))->K [(0,Aa s),(16,.bool c)] w by
  refine And.intro (fun h=>And.intro ⟨by omega,by have:=Xn.2 h;omega⟩ (And.intro (fun h2=>out _ ?_) (fun h2=>out _ ?_))) (fun h=>out _ (by simp [h]))
  ·
   rw [show Xw 0=0 from rfl,i8 (s.getD 0 0) 48 (n:=48) rfl] at h2;rw [decide_eq_true_eq];exact ⟨fun h3=>.inr ⟨h2,h3⟩,fun h3=>h3.elim (fun h4=>absurd h4 h) (·.2)⟩
  rw [show Xw 0=0 from rfl,i8 (s.getD 0 0) 48 (n:=48) rfl] at h2;simp only [Bool.false_eq_true,false_iff];rintro (h3 | h3)
  ·
   exact h h3
  exact h2 h3.1
 intro c hc;apply hK;clear hK;by_cases hbad:s=[]∨(s.getD 0 0=48/\s≠[48])
 ·
  obtain rfl:=hc.2 hbad;refine Ae rfl rfl (fun h=>?_) (fun h=>by simp at h);refine VS [2,3] ?_;refine Ad (A7 rfl rfl rfl ⟨rfl,?_⟩);exact Qd8 (by rw [Oe,if_pos hbad]) (e:=150) (by omega)
 have hcf:c=false:=by
  cases c
  ·
   rfl
  exact absurd (hc.1 rfl) hbad
 subst hcf;clear hc;refine Ae rfl rfl (fun h=>by simp at h) (fun h=>Ab ?_);refine VS [0,4] ?_;refine VS [0,4,18,19] ?_;refine Ar ?_;refine Au [0,4,18,19] (fun m e w'=>∃ (i n:Nat),Is e [(0,Aa s),(4,.int .i64 n),(18,.int .i64 s.length),(19,.int .i64 i)]/\Is w' w/\i<=s.length/\(s.take i).all Ph=true/\n=(s.take i).foldl O7 0/\m=s.length - i) s.length ?_ ?_
 ·
  refine Qs ?_;exact ⟨0,0,rfl,rfl,by omega,rfl,rfl,rfl⟩
 rintro m e w' ⟨i,n,rfl,rfl,hi,hall,hn,rfl⟩;have hnl:n<=10 * 9007199254740992+255:=by rw [hn];exact Qp2 _ _ (by omega)
 refine VS [0,4,18,19,20] ?_;(repeat refine Ax ?_);refine VD (fun h=>?_) (fun h=>?_)
 ·
  have hi2:i < s.length:=by omega
  have hsn:s.take (i+1)=s.take i++[s.getD i 0]:=by
   rw [Un,Yn hi2,Ym,Yn hi2];rfl
  have hlt:=(s.getD i 0).toNat_lt;refine Ab ?_;refine VB ?_;refine VS [0,4,5,18,19] ?_;refine VQ [0,4,5,18,19,31] fun K hK=>?_
  suffices out:∀ c:Bool,(c=true ↔ Ph (s.getD i 0)=false)->K [(0,Aa s),(4,.int .i64 n),(5,.int .i64 i),(18,.int .i64 s.length),(19,.int .i64 i),(31,.bool c)] w' by
   refine And.intro (by omega) (And.intro (fun h2=>And.intro (by omega) (out _ ?_)) (fun h2=>out _ ?_))
   ·
    rw [Ph,show decide (48<=(s.getD i 0).toNat)=true from decide_eq_true (by omega),Bool.true_and,decide_eq_true_eq,decide_eq_false_iff_not];omega
   rw [Ph,show decide (48<=(s.getD i 0).toNat)=false from decide_eq_false (by omega)];simp
  intro c hc;apply hK;clear hK;cases hd:Ph (s.getD i 0)
  ·
   obtain rfl:=hc.2 hd;refine Ae rfl rfl (fun h=>?_) (fun h=>by simp at h);refine VS [2,3] ?_;refine Ad (A7 rfl rfl rfl ⟨rfl,?_⟩)
   have hna:¬ s.all Ph=true:=by
    intro ha;have:=X8.1 ha (s.getD i 0) (by rw [Ym,Yn hi2];exact Up hi2);rw [hd] at this;cases this
   exact Qd8 (by rw [Oe,if_neg hbad,if_neg hna]) (e:=150) (by omega)
  have hcf:c=false:=by
   cases c
   ·
    rfl
   have:=hc.1 rfl;rw [hd] at this;cases this
  subst hcf;refine Ae rfl rfl (fun h=>by simp at h) (fun h=>Ab ?_);have hr:48<=(s.getD i 0).toNat/\(s.getD i 0).toNat<=57:=by simpa [Ph] using hd
  have hall2:(s.take (i+1)).all Ph=true:=by rw [hsn,List.all_append,hall];simpa using hd
  have hn2:(s.take (i+1)).foldl O7 0=O7 n (s.getD i 0):=by rw [hsn,List.foldl_append,<- hn];rfl
  refine VS [0,4,5,18,19,33] ?_;by_cases hbig:n<=9007199254740992
  ·
   refine Ae rfl rfl (fun h=>?_) (fun h=>absurd h (by simp;omega));rw [O7,if_pos hbig] at hn2;refine VQ [0,4,18,19] fun K hK=>?_;rw [show (((s.getD i 0).toNat:Int) - 48) % 256=(((s.getD i 0).toNat - 48:Nat):Int) by omega];(repeat first | refine Qo ?_ | refine Qp ?_);rw [show (10 * (n:Int)+(((s.getD i 0).toNat - 48:Nat):Int))=((10 * n+((s.getD i 0).toNat - 48):Nat):Int) by omega];apply hK;clear hK;refine Ao ?_;refine VS [0,4,18,19] ?_;refine Ah ?_;refine Qs ?_;exact ⟨s.length - (i+1),by omega,i+1,10 * n+((s.getD i 0).toNat - 48),rfl,rfl,by omega,hall2,hn2.symm,rfl⟩
  refine Ae rfl rfl (fun h=>absurd h (by simp;omega)) (fun h=>Ab ?_);rw [O7,if_neg hbig] at hn2;refine Ao ?_;refine VS [0,4,18,19] ?_;refine Ah ?_;refine Qs ?_;exact ⟨s.length - (i+1),by omega,i+1,n,rfl,rfl,by omega,hall2,hn2.symm,rfl⟩
 obtain rfl:i=s.length:=by omega
 refine As rfl ?_;rw [Us] at hall hn;have hdec:Oe s=if 9007199254740992 < n then none else some n:=by rw [Oe,if_neg hbad,if_pos hall,<- hn]
 refine VS [4,44] ?_;by_cases hbig:9007199254740992 < n
 ·
  refine Ae rfl rfl (fun h=>?_) (fun h=>absurd h (by simp;omega));rw [if_pos hbig] at hdec;refine VS [2,3] ?_;exact Ad (A7 rfl rfl rfl ⟨rfl,Qd8 hdec (e:=3) (by omega)⟩)
 refine Ae rfl rfl (fun h=>absurd h (by simp;omega)) (fun h=>Ab ?_);rw [if_neg hbig] at hdec;refine VS [2,3] ?_;exact Ad (A7 rfl rfl rfl ⟨rfl,Qw7 hdec⟩)
theorem Qsp (b:UInt8) (s:Bs):Lib.indexByte s b=if b∈s then ((Cw b s).length:Int) else -1:=by
 induction s with
 | nil=>rfl
 | cons c s ih =>
  rw [Lib.indexByte,ih];by_cases hb:c=b
  ·
   subst hb;simp [Cw]
  have h2:¬ b=c:=fun e=>hb e.symm;rw [if_neg (by simpa using hb)];simp only [Xh,h2,false_or,Cw,List.takeWhile_cons,bne_iff_ne,ne_eq,hb,not_false_eq_true,if_true,Yt];split
  ·
   rw [if_neg (by simp;try omega)];simp
  simp
abbrev QOj (b:UInt8):Value:=Aa [b]
def S7 (b:UInt8) (s:Bs):Value:=.tuple #[Aa (Cw b s),Aa (Mh b s),.bool (decide (b∈s))]
theorem Qsq (b:UInt8) (s:Bs) (w:World) (hs:s.length<=1000000000):Does Yk 80 #[Aa s,Aa [b]] w fun v w'=>w'=w/\v=S7 b s:=by
 have hi:Does Yk 118 #[Aa s,Aa [b]] w fun v w'=>w'=w/\v=.int .i64 (Lib.indexByte s b) :=
  Zd fun w=>Go.Proofs.Any.stringslite_Index_one Qq2 ⟨s.toArray⟩ b w
 have hle:(Cw b s).length<=s.length:=(Xt _).length_le;refine En [Aa s,QOj b] 23 Tryz.func80 ?_;refine VS [0,1] ?_;refine VQ [0,1,7] fun K hK=>?_;refine Ac Tryz.call118 ?_;refine Qs ?_;refine Yi hi ?_;rintro v w2 ⟨rfl,rfl⟩;rw [Qsp];(try refine Qs ?_);apply hK;clear hK;by_cases hm:b∈s
 ·
  rw [if_pos hm]
  have hlt:(Cw b s).length < s.length:=by
   rcases Gf (Cw b s).length s.length with h | h
   ·
    exact h
   have he:Cw b s=s:=List.IsPrefix.eq_of_length_le (Xt _) h;have h3:=List.all_takeWhile (p:=fun c=>c != b) (l:=s);rw [show s.takeWhile (fun c=>c != b)=s from he] at h3;have:=X8.1 h3 b hm;simp at this
  refine VS [0,1,7,12] ?_;refine Ae rfl rfl (fun h=>?_) (fun h=>absurd h (by simp));refine Vq [4,5,6] fun K hK=>?_;simp only [Yt,Xb];(repeat first | refine Qo ?_ | refine Qp ?_);apply hK;clear hK;refine Ad (Dh rfl rfl rfl rfl ⟨rfl,?_⟩);rw [S7,decide_eq_true hm,Mh,show s.take (Cw b s).length=Cw b s from Qos _ s]
 rw [if_neg hm];refine VS [0,1,7,12] ?_;refine Ae rfl rfl (fun h=>absurd h (by simp)) (fun h=>Ab ?_);refine VS [4,5,6] ?_;refine Ad (Dh rfl rfl rfl rfl ⟨rfl,?_⟩);rw [S7,decide_eq_false hm,Mh,Qyn hm,List.drop_eq_nil_of_le (by omega)]
theorem Qkc (b:UInt8) (s:Bs) (w:World) (hs:s.length<=1000000000):Does Yk 42 #[Aa s,Aa [b]] w fun v w'=>w'=w/\v=S7 b s:=by
 refine En [Aa s,QOj b] 13 Tryz.func42 ?_;refine VS [0,1] ?_;refine VQ [4,5,6] fun K hK=>?_;refine Ac Tryz.call80 ?_;refine Qs ?_;refine Yi (Qsq b s w hs) ?_;rintro v w2 ⟨rfl,rfl⟩;(try refine Qs ?_);apply hK;clear hK;exact Ad (Dh rfl rfl rfl rfl ⟨rfl,rfl⟩)
set_option maxHeartbeats 1000000
def QAy (x:Bs×Bs):List Value:=[Aa x.1,Aa x.2]
def Qk (l:List (Bs×Bs)):List Value:=Cf QAy l
theorem Qw8 (x:Bs×Bs):∀ v∈QAy x,v.oneCell'=true:=by simp [QAy,Yg,Aa]
def R0 (w:World) (s:Bs) (v:Value) (w':World):Prop :=
 match Mi s with
 | some l=>∃ a c,v=.tuple #[.slice a l.length c,.int .i64 0]/\Heap w [] w' [Yf tP 2 a l.length c (Qk l)]
 | none=>∃ e:Int,e≠0/\v=.tuple #[.slice none 0 0,.int .i64 e]/\Heap w [] w' []
theorem Qd9 {w w':World}{s:Bs}{e:Int} (h:Mi s=none) (he:e≠0) (hH:Heap w [] w' []):R0 w s (.tuple #[.slice none 0 0,.int .i64 e]) w':=by
 unfold R0;rw [h];exact ⟨e,he,rfl,hH⟩
theorem Qw9 {w w':World}{s:Bs}{l:List (Bs×Bs)}{a:Option Addr}{c:Nat} (h:Mi s=some l) (hH:Heap w [] w' [Yf tP 2 a l.length c (Qk l)]):R0 w s (.tuple #[.slice a l.length c,.int .i64 0]) w':=by
 unfold R0;rw [h];exact ⟨a,c,rfl,hH⟩
theorem Qxa (s:Bs) (w:World) (hs:s.length<=512):Does Yk 21 #[Aa s] w fun v w'=>R0 w s v w':=by
 have hpd:Mi s=Of (s.length+1) s []:=by rw [Mi,if_neg (by omega)]
 refine En [Aa s] 82 Tryz.func21 ?_;refine VS [0] ?_;(repeat refine Ax ?_);refine Vd ?_;refine VS [0,14] ?_;refine Ae rfl rfl (fun h=>absurd h (by simp;omega)) (fun h=>Ab ?_);clear h;refine VS [0,4] ?_;(repeat refine Ax ?_);refine Va ?_;refine VB ?_;refine Au [0,4] (fun m e w'=>∃ (r:Bs) (l:List (Bs×Bs)) (a:Option Addr) (c f:Nat),Is e [(0,Aa r),(4,.slice a l.length c)]/\Heap w [] w' [Yf tP 2 a l.length c (Qk l)]/\r.length < f/\l.length+r.length<=s.length/\Mi s=Of f r l/\m=r.length) s.length ?_ ?_
 ·
  refine Qs ?_;exact ⟨s,[],none,0,s.length+1,rfl,(Xj w).nilRow tP 2,by omega,by simp,hpd,rfl⟩
 clear hpd;rintro m e w' ⟨r,l,a,c,f,rfl,hH,hf,hlr,hpd,rfl⟩;obtain ⟨g,rfl⟩:∃ g,f=g+1:=⟨f - 1,by omega⟩;rw [Of] at hpd;refine Ar ?_;refine VS [0,4,16] ?_;by_cases hr:r=[]
 ·
  rw [if_pos hr] at hpd;refine Ae rfl rfl (fun h=>?_) (fun h=>absurd h (by simp [hr]));refine As rfl ?_;refine VS [2,3] ?_;exact Ad (A7 rfl rfl rfl (Qw9 hpd hH))
 rw [if_neg hr] at hpd;refine Ae rfl rfl (fun h=>absurd h (by simp [hr])) (fun h=>Ab ?_);clear h;have hle:(Cw 32 r).length<=r.length:=(Xt _).length_le;refine VQ [0,4,5,7] fun K hK=>?_;refine Ac Tryz.call42 ?_;refine Qs ?_;refine Yi (Qkc 32 r w' (by omega)) ?_;rintro v w2 ⟨rfl,rfl⟩;rw [S7];(try refine Qs ?_);apply hK;clear hK;refine VQ [0,4,5,7,8,9] fun K hK=>?_;refine Ac Tryz.call43 ?_;refine Qs ?_;refine Yi (Qiz (Cw 32 r) w2 (by omega)) ?_;rintro v w3 ⟨rfl,hv⟩;rw [Th] at hv;cases hd:Oe (Cw 32 r) with
 | none =>
  rw [hd] at hv hpd;obtain ⟨e,he,rfl⟩:=hv;(try refine Qs ?_);apply hK;clear hK;refine VQ [0,4,5,8,53] fun K hK=>?_
  suffices out:K [(0,Aa r),(4,.slice a l.length c),(5,Aa (Cw 32 r)),(8,.int .i64 0),(53,.bool true)] w3 by
   by_cases hm:32∈r
   ·
    rw [decide_eq_true hm,Qme];exact And.intro (fun h=>absurd h (by simp [he])) (fun _=>out)
   rw [decide_eq_false hm,Qmf];exact out
  apply hK;clear hK;refine Ae rfl rfl (fun h=>?_) (fun h=>by simp at h);refine VS [2,3] ?_;exact Ad (A7 rfl rfl rfl (Qd9 hpd (by omega) (hH.sub (Yj _))))
 | some n =>
  rw [hd] at hv hpd;subst hv;(try refine Qs ?_);apply hK;clear hK;refine VQ [0,4,5,8,53] fun K hK=>?_
  suffices out:∀ b:Bool,(b=false ↔ 32∈r/\n<=r.length/\(Cw 32 r).length+2<=n/\r.getD (n - 1) 0=10)->K [(0,Aa r),(4,.slice a l.length c),(5,Aa (Cw 32 r)),(8,.int .i64 n),(53,.bool b)] w3 by
   by_cases hm:32∈r
   ·
    rw [decide_eq_true hm,Qme];refine And.intro (fun _=>And.intro (fun h1=>And.intro (Xp (by omega) (by omega)) (And.intro (fun h2=>And.intro (Xp (by omega) (by omega)) (And.intro (by omega) (out _ ?_))) (fun h2=>out _ ?_))) (fun h1=>out _ ?_)) (fun h=>absurd trivial h)
    ·
     rw [decide_eq_false_iff_not,Decidable.not_not,i8 (r.getD (n - 1) 0) 10 (n:=10) rfl];exact ⟨fun h3=>⟨hm,by omega,by omega,h3⟩,fun h3=>h3.2.2.2⟩
    ·
     simp only [Ge,false_iff];intro h3;omega
    simp only [Ge,false_iff];intro h3;omega
   rw [decide_eq_false hm,Qmf];exact out _ (by simp [hm])
  intro b hb;apply hK;clear hK;by_cases hg:32∈r/\n<=r.length/\(Cw 32 r).length+2<=n/\r.getD (n - 1) 0=10
  ·
   obtain rfl:=hb.2 hg;refine Ae rfl rfl (fun h=>by simp at h) (fun h=>Ab ?_);simp only [if_pos hg] at hpd;obtain ⟨g1,g2,g3,g4⟩:=hg;have hxl:((r.take (n - 1)).drop ((Cw 32 r).length+1)).length<=512:=by rw [Yu,Yv];omega
   refine VQ [0,4,7,8,10,11] fun K hK=>?_;rw [<- List.drop_take];generalize (r.take (n - 1)).drop ((Cw 32 r).length+1)=x at *;refine And.intro (Xp (by omega) (by omega)) (And.intro (Xp (by omega) (by omega)) (And.intro (by omega) ?_));refine Ac Tryz.call42 ?_;refine Qs ?_;refine Yi (Qkc 61 x w3 (by omega)) ?_;rintro v w4 ⟨rfl,rfl⟩;rw [S7];(try refine Qs ?_);apply hK;clear hK;refine VQ [0,4,8,10,11,71] fun K hK=>?_
   suffices out:∀ b:Bool,(b=false ↔ 61∈x/\Cw 61 x≠[])->K [(0,Aa r),(4,.slice a l.length c),(8,.int .i64 n),(10,Aa (Cw 61 x)),(11,Aa (Mh 61 x)),(71,.bool b)] w4 by
    by_cases hm:61∈x
    ·
     rw [decide_eq_true hm,Qme];exact out _ (by rw [decide_eq_false_iff_not];exact ⟨fun h=>⟨hm,h⟩,fun h=>h.2⟩)
    rw [decide_eq_false hm,Qmf];exact out _ (by simp [hm])
   intro b hb;apply hK;clear hK;by_cases hg:61∈x/\Cw 61 x≠[]
   ·
    obtain rfl:=hb.2 hg;refine Ae rfl rfl (fun h=>by simp at h) (fun h=>Ab ?_);simp only [if_pos hg] at hpd;refine VQ [0,4,8] fun K hK=>?_;refine E4 hH 2 (Qk [(Cw 61 x,Mh 61 x)]) (xs:=[.tmp 75]) X5 QJx rfl rfl rfl (by omega) (by omega) ?_;refine Qs ?_;refine ⟨rfl,by intro v hv;simp only [Xh,List.not_mem_nil,or_false] at hv;subst hv;rfl,fun ga w8 hE2=>?_⟩;(try refine Qs ?_);refine Cl ?_;refine Qs ?_;refine Ew (zs:=#[.string ⟨#[]⟩,.string ⟨#[]⟩]) (bytes:=32) hE2 1 rfl X5 (by kernel_rfl) rfl (m:=1) (news:=Qk [(Cw 61 x,Mh 61 x)]) ⟨rfl,Az (hE2.at 0 rfl),60,X5⟩ (Qeb Qw8 _) (fun h=>by omega) fun a' cap' w5 hc' hH4=>?_
    have hH5:Heap w [] w5 [Yf tP 2 a' (l++[(Cw 61 x,Mh 61 x)]).length cap' (Qk (l++[(Cw 61 x,Mh 61 x)]))]:=by
     have h5:=hH4.sub (Y0 _ _);rw [Yb,Yp,Qk,Tl];exact h5
    (try refine Qs ?_);apply hK;clear hK;refine VQ [0,4] fun K hK=>?_;refine Qo ?_;apply hK;clear hK;refine Ao ?_;refine Ah ?_;refine Qs ?_;refine ⟨(r.drop n).length,by rw [Yu];omega,r.drop n,l++[(Cw 61 x,Mh 61 x)],a',cap',g,?_,hH5,by rw [Yu];omega,by rw [Yu,Yb,Yp];omega,hpd,rfl⟩;rw [Yb,Yp];rfl
   have hbt:b=true:=by
    cases b
    ·
     exact absurd (hb.1 rfl) hg
    rfl
   subst hbt;simp only [if_neg hg] at hpd;refine Ae rfl rfl (fun h=>?_) (fun h=>by simp at h);refine VS [2,3] ?_;exact Ad (A7 rfl rfl rfl (Qd9 hpd (by omega) (hH.sub (Yj _))))
  have hbt:b=true:=by
   cases b
   ·
    exact absurd (hb.1 rfl) hg
   rfl
  subst hbt;simp only [if_neg hg] at hpd;refine Ae rfl rfl (fun h=>?_) (fun h=>by simp at h);refine VS [2,3] ?_;exact Ad (A7 rfl rfl rfl (Qd9 hpd (by omega) (hH.sub (Yj _))))
set_option maxHeartbeats 1000000
def QOg (s:Bs) (k:UInt8) (v:Value):Prop :=
 ∃ (p:Bs) (n:Nat) (q:UInt8) (m t:Nat) (l n0 n1:Bs) (i0 i1:Nat) (ok:Bool),v=.tuple #[V9 p n q m t l n0 n1 i0 i1,.bool ok] /\
  (ok=true ↔ ∃ x,Er s=some x/\x.2.2=k)/\(ok=true->Er s=some (p,n,q))
theorem Qhd (s:Bs) (k:UInt8) (w:World) (hs:s.length<=1000000000000):Does Yk 20 #[Aa s,.int .u8 k.toNat] w fun v w'=>Heap w [] w' []/\QOg s k v:=by
 refine En [Aa s,.int .u8 k.toNat] 27 Tryz.func20 ?_;refine VQ [0,1,4] fun K hK=>?_;refine A6 Mm (by kernel_rfl) ?_;refine Qs ?_;have hH:=(Xj w).box tH (Ih [] 0 0 0 0 [] [] [] 0 0);generalize w.alloc (Yr (Ih [] 0 0 0 0 [] [] [] 0 0).toArray tH)=w1 at *;generalize w.heap.size=g4 at *;(try refine Qs ?_);apply hK;clear hK;refine VS [0,1,4,10] ?_;by_cases hlt:s.length < 512
 ·
  refine Ae rfl rfl (fun h=>?_) (fun h=>absurd h (by simp;omega));refine VQ [4,5] fun K hK=>?_;refine Af ?_;refine Qs ?_;refine Al hH 0 (vs:=[Aa [],.int .i64 0,.int .u8 0,.int .i64 0,.int .i64 0,Aa [],Aa [],Aa [],.int .i64 0,.int .i64 0]) rfl rfl (by kernel_rfl) (by first | decide | (simp;done) | (simp;omega)) (by simp [Yg]) fun w6 hH2=>?_;(try refine Qs ?_);apply hK;clear hK;refine Ad (I4 rfl rfl rfl (Cv (hH2.at 0 rfl) (by kernel_rfl) (by kernel_rfl) rfl ⟨hH2.sub (Yj _),[],0,0,0,0,[],[],[],0,0,false,rfl,?_,by simp⟩));rw [Er,if_pos hlt];simp
 refine Ae rfl rfl (fun h=>absurd h (by simp;omega)) (fun h=>Ab ?_);clear h;have hlen:(s.take 512).length=512:=by rw [Yv];omega
 have hU:Er s=Pg (s.take 512):=by rw [Er,if_neg hlt]
 refine VQ [1,4,6,7] fun K hK=>?_;refine Qo ?_;refine Ac Tryz.call41 ?_;refine Qs ?_;refine Yi (Qvf (s.take 512) hlen w1) ?_;rintro v w2 ⟨hHx,hv⟩;replace hH:=hH.call0 hHx;rw [Ye] at hH;clear hHx;rw [<- hU] at hv
 obtain ⟨p,n,q,m,t,l,n0,n1,i0,i1,er,rfl,h1,h2⟩:∃ (p:Bs) (n:Nat) (q:UInt8) (m t:Nat) (l n0 n1:Bs) (i0 i1:Nat) (er:Nat),v=.tuple #[V9 p n q m t l n0 n1 i0 i1,.int .i64 er]/\(er=0->Er s=some (p,n,q))/\(er≠0->Er s=none):=by
  cases hh:Er s with
  | some x =>
   obtain ⟨p,n,q⟩:=x;rw [hh] at hv;obtain ⟨m,t,l,n0,n1,i0,i1,rfl⟩:=hv;exact ⟨p,n,q,m,t,l,n0,n1,i0,i1,0,rfl,fun _=>rfl,fun h=>absurd rfl h⟩
  | none =>
   rw [hh] at hv;exact ⟨[],0,0,0,0,[],[],[],0,0,160,hv,fun h=>by omega,fun _=>rfl⟩
 (try refine Qs ?_);refine A6 Mm (by kernel_rfl) ?_;refine Qs ?_;have hH2:=hH.box tH (Ih [] 0 0 0 0 [] [] [] 0 0);generalize w2.alloc (Yr (Ih [] 0 0 0 0 [] [] [] 0 0).toArray tH)=w3 at *;generalize w2.heap.size=g6 at *;(try refine Qs ?_);refine Af ?_;refine Qs ?_;refine Al hH2 0 (vs:=[Aa p,.int .i64 n,.int .u8 q.toNat,.int .i64 m,.int .i64 t,Aa l,Aa n0,Aa n1,.int .i64 i0,.int .i64 i1]) rfl rfl (by kernel_rfl) (by first | decide | (simp;done) | (simp;omega)) (by simp [Yg]) fun w6 hH3=>?_;(try refine Qs ?_);have hH3:Heap w [] w6 [Es g6 p n q m t l n0 n1 i0 i1,Es g4 [] 0 0 0 0 [] [] [] 0 0]:=hH3;clear hH hH2;apply hK;clear hK;have hne:g6≠g4:=fun e=>(List.pairwise_cons.1 hH3.apart).1 _ (Gd ..) g6 (by simp [Ya]) (by simp [Ya,e]);have hrd:Reads (holes [g4] w6) ⟨g6,0,none⟩ (Ih p n q m t l n0 n1 i0 i1):=fun j u hu=>Ts (Ca (hH3.at 0 rfl) j u hu) (by unfold Addr.add;split <;> simpa using hne);have ck:(holes [g4] w6).cell? ⟨g6,2,none⟩=some (.int .u8 q.toNat):=hrd 2 _ rfl;refine VH (holes [g4] w6) (Ext.hole _ _) [4,5] [(0,true),(1,true),(2,true),(3,true),(4,true),(5,true),(6,true),(7,true),(8,true),(9,false),(10,true)] fun K hK=>?_;refine ⟨_,⟨rfl,hrd⟩,?_⟩;(try refine Qs ?_);have hF:=hH3.focus 1 rfl;refine And.intro (fun h=>?_) (fun h=>?_)
 ·
  have he:er=0:=by omega
  have hU2:=h1 he;refine ⟨_,ck,?_⟩;(try refine Qs ?_);refine Af ?_;refine Qs ?_;refine Al hF 0 (vs:=[Aa p,.int .i64 n,.int .u8 q.toNat,.int .i64 m,.int .i64 t,Aa l,Aa n0,Aa n1,.int .i64 i0,.int .i64 i1]) rfl rfl (by kernel_rfl) (by first | decide | (simp;done) | (simp;omega)) (by simp [Yg]) fun w6 hF2=>?_;(try refine Qs ?_);refine ⟨hF2.upd.extH,?_⟩;have hH4:=hH3.call1 1 rfl hF2;(try refine Qs ?_);apply hK;clear hK;refine Ad (I4 rfl rfl rfl (Cv (hH4.at 1 rfl) (by kernel_rfl) (by kernel_rfl) rfl ⟨hH4.sub (Yj _),p,n,q,m,t,l,n0,n1,i0,i1,decide ((q.toNat:Int)=k.toNat),rfl,?_,fun _=>hU2⟩));rw [hU2,decide_eq_true_eq,i8 q k rfl];exact ⟨fun h=>⟨_,rfl,h⟩,fun ⟨x,h3,h4⟩=>by cases h3;exact h4⟩
 have he:er≠0:=by omega
 have hU2:=h2 he;refine Af ?_;refine Qs ?_;refine Al hF 0 (vs:=[Aa p,.int .i64 n,.int .u8 q.toNat,.int .i64 m,.int .i64 t,Aa l,Aa n0,Aa n1,.int .i64 i0,.int .i64 i1]) rfl rfl (by kernel_rfl) (by first | decide | (simp;done) | (simp;omega)) (by simp [Yg]) fun w6 hF2=>?_;(try refine Qs ?_);refine ⟨hF2.upd.extH,?_⟩;have hH4:=hH3.call1 1 rfl hF2;(try refine Qs ?_);apply hK;clear hK;refine Ad (I4 rfl rfl rfl (Cv (hH4.at 1 rfl) (by kernel_rfl) (by kernel_rfl) rfl ⟨hH4.sub (Yj _),p,n,q,m,t,l,n0,n1,i0,i1,false,rfl,?_,by simp⟩));rw [hU2];simp
set_option maxHeartbeats 1000000
def Pc (s:Bs) (a:Nat) (path:Bs):Option (Bs×Nat) :=
 match Er (s.drop a) with
 | some (q,_,k)=>if k=48 then some (if path=[] then q else path,a) else none
 | none=>none
theorem Qsr {s:Bs}{a:Nat}{path:Bs} (h:¬ ∃ x,Er (s.drop a)=some x/\x.2.2=48):Pc s a path=none:=by
 unfold Pc;cases hh:Er (s.drop a) with
 | none=>rfl
 | some x=>exact if_neg fun hk=>h ⟨x,hh,hk⟩
theorem Qss {s:Bs}{a:Nat}{path q:Bs}{n:Nat} (h:Er (s.drop a)=some (q,n,48)):Pc s a path=some (if path=[] then q else path,a):=by
 unfold Pc;rw [h];exact if_pos rfl
theorem QE5 {s:Bs} (h:¬ ∃ x,Er s=some x/\x.2.2=120):Kf s=Pc s 0 []:=by
 unfold Kf Pc;rw [U4];cases hh:Er s with
 | none=>rfl
 | some x =>
  obtain ⟨p,n,k⟩:=x;have hk:k≠120:=fun e=>h ⟨_,hh,e⟩;simp only [if_neg hk,if_true]
theorem QE6 {s p:Bs}{n:Nat} (h:Er s=some (p,n,120)):Kf s=if 512 < n∨s.length < 1024∨s.length - 512 < n then none else
  match Mi ((s.drop 512).take n) with
  | some [(_,v)]=>Pc s 1024 v
  | _=>none:=by
 unfold Kf Pc;rw [h];simp only [if_true];(try rfl)
theorem Qxb {s p:Bs}{n:Nat}{k:UInt8} (h:Er s=some (p,n,k)):p.length<=256:=by
 rw [Er] at h;split at h
 ·
  cases h
 rw [Pg] at h;split at h
 ·
  cases h;have c:∀ a b,(Fr (Bl (s.take 512) a b)).length<=b:=fun a b=>Ue (Xt _).length_le (by rw [Bl,Yv];omega);have c1:=c 345 155;have c2:=c 0 100;rw [Lw];split
  ·
   omega
  rw [Yb,Yt];omega
 cases h
theorem Qp3 {N:Nat}:∀ (f:Nat) (s:Bs) (out l:List (Bs×Bs)),Of f s out=some l->s.length<=N->(∀ y∈out,y.2.length<=N)->∀ y∈l,y.2.length<=N
 | 0,_,_,_,h,_,_=>by simp [Of] at h
 | f+1,s,out,l,h,hs,ho=>by
  rw [Of] at h;split at h
  ·
   cases h;exact ho
  split at h
  ·
   cases h
  split at h
  ·
   split at h
   ·
    refine Qp3 f _ _ l h (by rw [Yu];omega) ?_;intro y hy;rcases Uc.1 hy with hy | hy
    ·
     exact ho y hy
    simp only [Xz] at hy;subst hy;simp only [Mh,Yu,Yv];omega
   cases h
  cases h
theorem Qz9 {s:Bs}{l:List (Bs×Bs)} (h:Mi s=some l):∀ y∈l,y.2.length<=s.length:=by
 rw [Mi] at h;split at h
 ·
  cases h
 exact Qp3 _ _ _ _ h (Y5 _) (by simp)
noncomputable def readV (s:Bs):Value :=
 match readS s with
 | some (p,c,n)=>.tuple #[Oa p c,.int .i64 n,.int .i64 0]
 | none=>.tuple #[Oa [] [],.int .i64 0,.int .i64 242]
theorem Ou {s:Bs} (h:readS s=none):readV s=.tuple #[Oa [] [],.int .i64 0,.int .i64 242]:=by unfold readV;rw [h]
theorem Qhe {s p c:Bs}{n:Nat} (h:readS s=some (p,c,n)):readV s=.tuple #[Oa p c,.int .i64 n,.int .i64 0]:=by unfold readV;rw [h]
theorem Vm {s:Bs} (h:Kf s=none):readS s=none:=by unfold readS;rw [h]
theorem Qst {s p:Bs}{a:Nat}{e:Int} (h:Kf s=some (p,a)) (ht:Ia s ((a+512:Nat):Int)=.error e):readS s=none:=by unfold readS;rw [h];simp only [ht]
theorem Qhf {s p c:Bs}{a b:Nat}{e:Nat} (h:Kf s=some (p,a)) (ht:Ia s ((a+512:Nat):Int)=.ok (c,b)) (hm:makeX p c=.error e):readS s=none:=by unfold readS;rw [h];simp only [ht,hm]
theorem Qxc {s p c own:Bs}{a b:Nat} (h:Kf s=some (p,a)) (ht:Ia s ((a+512:Nat):Int)=.ok (c,b)) (hm:makeX p c=.ok own):readS s=if own.isPrefixOf s then some (p,c,own.length) else none:=by unfold readS;rw [h];simp only [ht,hm]
theorem Qsu (s:Bs) (w:World) (hT:Tb w) (hs:s.length<=1000000):Does Yk 12 #[Aa s] w fun v w'=>Heap w [] w' []/\v=readV s:=by
 refine En [Aa s] 106 Tryz.func12 ?_;refine VQ [0,2] fun K hK=>?_;refine A6 (.agg #[Aa [],Aa []]) (by kernel_rfl) ?_;refine Qs ?_;have hH:=(Xj w).box tE [Aa [],Aa []];generalize w.alloc (Yr #[Aa [],Aa []] tE)=w1 at *;generalize w.heap.size=g2 at *;(try refine Qs ?_);apply hK;clear hK;refine VS [0,2,5,6] ?_;refine VQ [0,2,5,6,7,8] fun K hK=>?_;refine Ac Tryz.call20 ?_;refine Qs ?_;refine Yi (Qhd s 120 w1 (by omega)) ?_;rintro v w2 ⟨hHx,p,n,q,m,t,l,n0,n1,i0,i1,ok,rfl,hok,hok2⟩;replace hH:=hH.call0 hHx;rw [Ye] at hH;clear hHx;(try refine Qs ?_);refine A6 Mm (by kernel_rfl) ?_;refine Qs ?_;have hH2:=hH.box tH (Ih [] 0 0 0 0 [] [] [] 0 0);generalize w2.alloc (Yr (Ih [] 0 0 0 0 [] [] [] 0 0).toArray tH)=w3 at *;generalize w2.heap.size=g7 at *;(try refine Qs ?_);refine Af ?_;refine Qs ?_;refine Al hH2 0 (vs:=[Aa p,.int .i64 n,.int .u8 q.toNat,.int .i64 m,.int .i64 t,Aa l,Aa n0,Aa n1,.int .i64 i0,.int .i64 i1]) rfl rfl (by kernel_rfl) (by first | decide | (simp;done) | (simp;omega)) (by simp [Yg]) fun w6 hH3=>?_;(try refine Qs ?_);have hH3:Heap w [] w6 [Es g7 p n q m t l n0 n1 i0 i1,Ya g2 tE [Aa [],Aa []]]:=hH3;clear hH hH2;have hH:Heap w [] w6 [Ya g2 tE [Aa [],Aa []]]:=hH3.sub (Y0 _ _);apply hK;clear hK;refine VS [0,2,5,6,7,22] ?_;refine Dk [0,2,5,6] (fun e w'=>∃ (a:Nat) (path:Bs),Is e [(0,Aa s),(2,pV g2),(5,.int .i64 a),(6,Aa path)]/\Heap w [] w' [Ya g2 tE [Aa [],Aa []]]/\a<=s.length/\path.length<=512/\Kf s=Pc s a path) ?_ ?_
 ·
  cases ok with
  | false =>
   refine Ae rfl rfl (fun h=>by simp at h) (fun h=>Ab ?_);refine Ah ?_;refine Qs ?_;exact ⟨0,[],rfl,hH,by omega,by simp,QE5 (fun h=>by have:=hok.2 h;cases this)⟩
  | true =>
   have hU:=hok2 rfl;obtain ⟨x,hx1,hx2⟩:=hok.1 rfl;rw [hU] at hx1;cases hx1;obtain rfl:q=120:=hx2;clear hok hok2;refine Ae rfl rfl (fun h=>?_) (fun h=>by simp at h);have hnx:=QE6 hU;have cn:w6.cell? ⟨g7,1,none⟩=some (.int .i64 n):=Aj (hH3.at 0 rfl) rfl;refine VQ [0,2,7,38] fun K hK=>?_;refine ⟨_,cn,?_⟩;(try refine Qs ?_)
   suffices out:∀ b:Bool,(b=true ↔ 512 < n∨s.length < 1024∨s.length - 512 < n)->K [(0,Aa s),(2,pV g2),(7,pV g7),(38,.bool b)] w6 by
    refine And.intro (fun h1=>And.intro (fun h2=>⟨_,cn,Xp (by omega) (by omega),?_⟩) (fun h2=>out _ (by simp;omega))) (fun h1=>out _ (by simp;omega));(try refine Qs ?_);exact out _ (by rw [decide_eq_true_eq];omega)
   intro b hb;apply hK;clear hK;by_cases hbad:512 < n∨s.length < 1024∨s.length - 512 < n
   ·
    obtain rfl:=hb.2 hbad;refine Ae rfl rfl (fun h=>?_) (fun h=>by simp at h);have hno:readS s=none:=Vm (hnx.trans (if_pos hbad));refine VQ [2,3,4] fun K hK=>?_;refine Af ?_;refine Qs ?_;refine Al hH 0 (vs:=[Aa [],Aa []]) rfl rfl (by kernel_rfl) (by first | decide | (simp;done) | (simp;omega)) (by simp [Yg]) fun w6 hHd=>?_;(try refine Qs ?_);(apply hK;clear hK);exact Ad (I5 rfl rfl rfl rfl (Cv (hHd.at 0 rfl) (by kernel_rfl) (by kernel_rfl) rfl ⟨hHd.sub (Yj _),(Ou hno).symm⟩))
   have hbf:b=false:=by
    cases b
    ·
     rfl
    exact absurd (hb.1 rfl) hbad
   subst hbf;rw [if_neg hbad] at hnx;refine Ae rfl rfl (fun h=>by simp at h) (fun h=>Ab ?_);refine VQ [0,2,9,10] fun K hK=>?_;refine ⟨_,cn,?_⟩;(try refine Qs ?_);rw [show (512:Int)+n=((512+n:Nat):Int) by omega];refine And.intro (Xp (by omega) (by omega)) (And.intro (by omega) ?_);have hxl:(((s.drop 512).take n)).length<=512:=by rw [Yv];omega
   rw [show ((512+n:Nat):Int).toNat - Xw 512=n by omega,show Xw 512=512 from rfl];generalize ((s.drop 512).take n)=x at *;refine Ac Tryz.call21 ?_;refine Qs ?_;refine Yi (Qxa x w6 hxl) ?_;rintro v w7 hv;cases hpx:Mi x with
   | none =>
    rw [hpx] at hnx;rw [R0,hpx] at hv;obtain ⟨e,he,rfl,hHx⟩:=hv;replace hH:=hH.call0 hHx;rw [Ye] at hH;clear hHx;have hno:readS s=none:=Vm hnx;(try refine Qs ?_);apply hK;clear hK;refine VQ [0,2,9,55] fun K hK=>?_;refine And.intro (fun h=>absurd h (by simp [he])) (fun _=>?_);apply hK;clear hK;refine Ae rfl rfl (fun h=>?_) (fun h=>by simp at h);refine VQ [2,3,4] fun K hK=>?_;refine Af ?_;refine Qs ?_;refine Al hH 0 (vs:=[Aa [],Aa []]) rfl rfl (by kernel_rfl) (by first | decide | (simp;done) | (simp;omega)) (by simp [Yg]) fun w6 hHd=>?_;(try refine Qs ?_);(apply hK;clear hK);exact Ad (I5 rfl rfl rfl rfl (Cv (hHd.at 0 rfl) (by kernel_rfl) (by kernel_rfl) rfl ⟨hHd.sub (Yj _),(Ou hno).symm⟩))
   | some ls =>
    rw [hpx] at hnx;rw [R0,hpx] at hv;obtain ⟨pa,pc,rfl,hHx⟩:=hv;replace hH:=hH.call0 hHx;have hH:Heap w [] w7 [Ya g2 tE [Aa [],Aa []],Yf tP 2 pa ls.length pc (Qk ls)]:=hH.perm (.swap _ _ _);(try refine Qs ?_);apply hK;clear hK;by_cases h1:ls.length=1
    ·
     obtain ⟨y,rfl⟩:∃ y,ls=[y]:=List.length_eq_one_iff.1 h1;obtain ⟨ky,vy⟩:=y;have hvl:=Qz9 hpx (ky,vy) (by simp);refine VQ [0,2,9,55] fun K hK=>?_;refine And.intro (fun _=>?_) (fun h=>absurd trivial h);apply hK;clear hK;refine Ae rfl rfl (fun h=>by simp at h) (fun h=>Ab ?_)
     obtain ⟨gp,rfl⟩:∃ gp,pa=some ⟨gp,0,none⟩:=by
      obtain ⟨_,_,_,h4⟩:=hH.at 1 rfl;rcases h4 with ⟨_,h5,_⟩ | ⟨g,_,_,rfl,_⟩
      ·
       cases h5
      exact ⟨g,rfl⟩
     have hr1:=Qfa (Az (hH.at 1 rfl)) rfl 0 [Aa ky,Aa vy] (fun j u hu=>by rw [X3];exact hu);rw [Qgi] at hr1;have cv:w7.cell? ⟨gp,1,none⟩=some (Aa vy):=hr1 1 _ rfl;refine Vq [0,2,5,6] fun K hK=>?_;refine And.intro ⟨by omega,by simp⟩ ⟨_,cv,?_⟩;apply hK;clear hK;refine Ah ?_;refine Qs ?_;exact ⟨1024,vy,rfl,hH.sub (G':=[Ya g2 tE [Aa [],Aa []]]) (by simp),by omega,Ue hvl hxl,hnx⟩
    have hno:readS s=none:=Vm (by
     rw [hnx]
     match ls,h1 with
     | [],_=>rfl
     | [_],h=>exact absurd rfl h
     | _::_::_,_=>rfl)
    refine VQ [0,2,9,55] fun K hK=>?_;refine And.intro (fun _=>?_) (fun h=>absurd trivial h);apply hK;clear hK;refine Ae rfl rfl (fun h=>?_) (fun h=>absurd h (by simp;omega));refine VQ [2,3,4] fun K hK=>?_;refine Af ?_;refine Qs ?_;refine Al hH 0 (vs:=[Aa [],Aa []]) rfl rfl (by kernel_rfl) (by first | decide | (simp;done) | (simp;omega)) (by simp [Yg]) fun w6 hHd=>?_;(try refine Qs ?_);(apply hK;clear hK);exact Ad (I5 rfl rfl rfl rfl (Cv (hHd.at 0 rfl) (by kernel_rfl) (by kernel_rfl) rfl ⟨hHd.sub (Yj _),(Ou hno).symm⟩))
 clear hH hH3;rintro e w3 ⟨a,path,rfl,hH,ha,hpl,hname⟩;refine VQ [0,2,5,6,11,12] fun K hK=>?_;refine Qo ?_;refine Ac Tryz.call20 ?_;refine Qs ?_;refine Yi (Qhd (s.drop a) 48 w3 (by simp;omega)) ?_;rintro v w2 ⟨hHx,p,n,q,m,t,l,n0,n1,i0,i1,ok,rfl,hok,hok2⟩;replace hH:=hH.call0 hHx;rw [Ye] at hH;clear hHx;(try refine Qs ?_);refine A6 Mm (by kernel_rfl) ?_;refine Qs ?_;have hH2:=hH.box tH (Ih [] 0 0 0 0 [] [] [] 0 0);generalize w2.alloc (Yr (Ih [] 0 0 0 0 [] [] [] 0 0).toArray tH)=w3 at *;generalize w2.heap.size=g11 at *;(try refine Qs ?_);refine Af ?_;refine Qs ?_;refine Al hH2 0 (vs:=[Aa p,.int .i64 n,.int .u8 q.toNat,.int .i64 m,.int .i64 t,Aa l,Aa n0,Aa n1,.int .i64 i0,.int .i64 i1]) rfl rfl (by kernel_rfl) (by first | decide | (simp;done) | (simp;omega)) (by simp [Yg]) fun w6 hH3=>?_;(try refine Qs ?_);have hH3:Heap w [] w6 [Es g11 p n q m t l n0 n1 i0 i1,Ya g2 tE [Aa [],Aa []]]:=hH3;clear hH hH2;have hH:Heap w [] w6 [Ya g2 tE [Aa [],Aa []]]:=hH3.sub (Y0 _ _);apply hK;clear hK;refine VS [0,2,5,6,11,69] ?_;cases ok with
 | false =>
  refine Ae rfl rfl (fun h=>?_) (fun h=>by simp at h);have hno:readS s=none:=Vm (hname.trans (Qsr (fun h=>by have:=hok.2 h;cases this)));refine VQ [2,3,4] fun K hK=>?_;refine Af ?_;refine Qs ?_;refine Al hH 0 (vs:=[Aa [],Aa []]) rfl rfl (by kernel_rfl) (by first | decide | (simp;done) | (simp;omega)) (by simp [Yg]) fun w6 hHd=>?_;(try refine Qs ?_);(apply hK;clear hK);exact Ad (I5 rfl rfl rfl rfl (Cv (hHd.at 0 rfl) (by kernel_rfl) (by kernel_rfl) rfl ⟨hHd.sub (Yj _),(Ou hno).symm⟩))
 | true =>
  have hU:=hok2 rfl;obtain ⟨x,hx1,hx2⟩:=hok.1 rfl;rw [hU] at hx1;cases hx1;obtain rfl:q=48:=hx2;clear hok hok2;rw [Qss hU] at hname;have hp256:=Qxb hU;refine Ae rfl rfl (fun h=>by simp at h) (fun h=>Ab ?_);refine VS [0,2,5,6,11,72] ?_;refine Dk [0,2,5,6] (fun e w'=>Is e [(0,Aa s),(2,pV g2),(5,.int .i64 a),(6,Aa (if path=[] then p else path))]/\Heap w [] w' [Ya g2 tE [Aa [],Aa []]]) ?_ ?_
  ·
   by_cases hpe:path=[]
   ·
    rw [if_pos hpe];refine Ae rfl rfl (fun h=>?_) (fun h=>absurd h (by simp [hpe]));have c0:w6.cell? ⟨g11,0,none⟩=some (Aa p):=Aj (hH3.at 0 rfl) rfl;refine VQ [0,2,5,6] fun K hK=>?_;refine ⟨_,c0,?_⟩;(try refine Qs ?_);apply hK;clear hK;refine Ah ?_;refine Qs ?_;exact ⟨rfl,hH⟩
   rw [if_neg hpe];refine Ae rfl rfl (fun h=>absurd h (by simp [hpe])) (fun h=>Ab ?_);refine Ah ?_;refine Qs ?_;exact ⟨rfl,hH⟩
  clear hH hH3;rintro e w3 ⟨rfl,hH⟩;have hql:(if path=[] then p else path).length<=512:=by split <;> omega
  generalize (if path=[] then p else path)=path2 at *;refine VQ [0,2,6,13,15] fun K hK=>?_;(repeat first | refine Qo ?_ | refine Qp ?_);rw [show (a:Int)+512=((a+512:Nat):Int) by omega];refine Ac Tryz.call22 ?_;refine Qs ?_;refine Yi (Qe7 s ((a+512:Nat):Int) w3 (Xp (by omega) (by omega)) (by omega)) ?_;rintro v w4 ⟨hHx,rfl⟩;replace hH:=hH.call0 hHx;rw [Ye] at hH;clear hHx;cases ht:Ia s ((a+512:Nat):Int) with
  | error er =>
   rw [Qmh];(try refine Qs ?_);apply hK;clear hK;refine VS [0,2,6,13,84] ?_;have hne:=Qwc ht;refine Ae rfl rfl (fun h=>?_) (fun h=>absurd h (by simp [hne]));have hno:=Qst hname ht;refine VQ [2,3,4] fun K hK=>?_;refine Af ?_;refine Qs ?_;refine Al hH 0 (vs:=[Aa [],Aa []]) rfl rfl (by kernel_rfl) (by first | decide | (simp;done) | (simp;omega)) (by simp [Yg]) fun w6 hHd=>?_;(try refine Qs ?_);(apply hK;clear hK);exact Ad (I5 rfl rfl rfl rfl (Cv (hHd.at 0 rfl) (by kernel_rfl) (by kernel_rfl) rfl ⟨hHd.sub (Yj _),(Ou hno).symm⟩))
  | ok rr =>
   obtain ⟨c,b⟩:=rr;have hcl:=(Qzx ht).2.2;simp only at hcl;rw [Qmh];(try refine Qs ?_);apply hK;clear hK;refine VS [0,2,6,13,84] ?_;refine Ae rfl rfl (fun h=>by simp at h) (fun h=>Ab ?_);refine VQ [0,2,6,13,15,16] fun K hK=>?_;refine Ac Tryz.call8 ?_;refine Qs ?_;refine Yi (Zb path2 c w4 (hT.heap hH) (by omega) (by omega)) ?_;rintro v w5 ⟨hHx,rfl,hPP⟩;replace hH:=hH.call0 hHx;rw [Ye] at hH;clear hHx;rw [makeV];by_cases hg:D6 path2=some path2
   ·
    by_cases hc8:8192 < c.length
    ·
     have hm:makeX path2 c=.error 3:=by rw [makeX,if_pos hg,if_pos hc8]
     rw [if_pos hg,if_pos hc8];(try refine Qs ?_);apply hK;clear hK;refine VQ [2,6,13,16,99] fun K hK=>?_;refine And.intro (fun h=>absurd h (by simp)) (fun _=>?_);apply hK;clear hK;refine Ae rfl rfl (fun h=>?_) (fun h=>by simp at h);have hno:=Qhf hname ht hm;refine VQ [2,3,4] fun K hK=>?_;refine Af ?_;refine Qs ?_;refine Al hH 0 (vs:=[Aa [],Aa []]) rfl rfl (by kernel_rfl) (by first | decide | (simp;done) | (simp;omega)) (by simp [Yg]) fun w6 hHd=>?_;(try refine Qs ?_);(apply hK;clear hK);exact Ad (I5 rfl rfl rfl rfl (Cv (hHd.at 0 rfl) (by kernel_rfl) (by kernel_rfl) rfl ⟨hHd.sub (Yj _),(Ou hno).symm⟩))
    have hm:makeX path2 c=.ok (Ck path2 c (tS c)):=by rw [makeX,if_pos hg,if_neg hc8]
    have hend:=Qxc hname ht hm;have hol:=(Qfg (c:=c) (T:=tS c) hg).2.1;have hsm:=(hPP hg (by omega)).small (by omega);rw [if_pos hg,if_neg hc8];generalize Ck path2 c (tS c)=own at *;(try refine Qs ?_);apply hK;clear hK;refine VQ [2,6,13,16,99] fun K hK=>?_;refine And.intro (fun _=>?_) (fun h=>absurd trivial h);refine Ac Tryz.call23 ?_;refine Qs ?_;refine Yi (Qnd s own w5) ?_;rintro v w6 ⟨rfl,rfl⟩;(try refine Qs ?_);apply hK;clear hK;cases hpr:own.isPrefixOf s with
    | false =>
     rw [hpr] at hend;have hno:readS s=none:=hend;rw [show Lib.hasPrefix s own=false from hpr];refine Ae rfl rfl (fun h=>?_) (fun h=>by simp at h);refine VQ [2,3,4] fun K hK=>?_;refine Af ?_;refine Qs ?_;refine Al hH 0 (vs:=[Aa [],Aa []]) rfl rfl (by kernel_rfl) (by first | decide | (simp;done) | (simp;omega)) (by simp [Yg]) fun w6 hHd=>?_;(try refine Qs ?_);(apply hK;clear hK);exact Ad (I5 rfl rfl rfl rfl (Cv (hHd.at 0 rfl) (by kernel_rfl) (by kernel_rfl) rfl ⟨hHd.sub (Yj _),(Ou hno).symm⟩))
    | true =>
     rw [hpr] at hend;have hend:readS s=some (path2,c,own.length):=hend;rw [show Lib.hasPrefix s own=true from hpr];refine Ae rfl rfl (fun h=>by simp at h) (fun h=>Ab ?_);refine VQ [2,3,4] fun K hK=>?_;refine Af ?_;refine Qs ?_;refine Al hH 0 (vs:=[Aa path2,Aa c]) rfl rfl (by kernel_rfl) (by first | decide | (simp;done) | (simp;omega)) (by simp [Yg]) fun w6 hHd=>?_;(try refine Qs ?_);apply hK;clear hK;exact Ad (I5 rfl rfl rfl rfl (Cv (hHd.at 0 rfl) (by kernel_rfl) (by kernel_rfl) rfl ⟨hHd.sub (Yj _),(Qhe hend).symm⟩))
   have hm:makeX path2 c=.error 140:=by rw [makeX,if_neg hg]
   rw [if_neg hg];(try refine Qs ?_);apply hK;clear hK;refine VQ [2,6,13,16,99] fun K hK=>?_;refine And.intro (fun h=>absurd h (by simp)) (fun _=>?_);apply hK;clear hK;refine Ae rfl rfl (fun h=>?_) (fun h=>by simp at h);have hno:=Qhf hname ht hm;refine VQ [2,3,4] fun K hK=>?_;refine Af ?_;refine Qs ?_;refine Al hH 0 (vs:=[Aa [],Aa []]) rfl rfl (by kernel_rfl) (by first | decide | (simp;done) | (simp;omega)) (by simp [Yg]) fun w6 hHd=>?_;(try refine Qs ?_);(apply hK;clear hK);exact Ad (I5 rfl rfl rfl rfl (Cv (hHd.at 0 rfl) (by kernel_rfl) (by kernel_rfl) rfl ⟨hHd.sub (Yj _),(Ou hno).symm⟩))
end Go.Proofs.YtncpabbjpdogjaaGreatDoor
namespace Go.Eng
open Go
theorem Qsv {r:Loop}{p q:Nat}{v x:Value}{e:Env} (r3:r.params=#[p,q]) (hp:p < r.tmps.size) (hq:q < r.tmps.size) (hne:p≠q) (r8:∀ t v,e.find? t=some v->r.tmps.getD t undef=v) :
  ∀ t u,Env.find? ((p,v)::(q,x)::e) t=some u->((r.params.zip [v,x].toArray).foldl (fun tmps (t,a)=>tmps.setIfInBounds t a) r.tmps).getD t undef=u:=by
 intro t u ht;rw [r3,show (#[p,q].zip [v,x].toArray)=#[(p,v),(q,x)] by first | rfl | simp | (apply Array.ext';simp)]
 show ((r.tmps.setIfInBounds p v).setIfInBounds q x).getD t undef=u
 rw [Env.find?] at ht;split at ht
 ·
  rename_i h46;simp only at h46;subst h46;cases ht;rw [Array.getD_eq_getD_getElem?,Array.getElem?_setIfInBounds_ne hne.symm,Array.getElem?_setIfInBounds_self_of_lt hp];rfl
 rename_i h46;rw [Env.find?] at ht;split at ht
 ·
  rename_i h47;simp only at h47;subst h47;cases ht;rw [Array.getD_eq_getD_getElem?,Array.getElem?_setIfInBounds_self_of_lt (by rw [Array.size_setIfInBounds];exact hq)];rfl
 rename_i h47;rw [Array.getD_eq_getD_getElem?,Array.getElem?_setIfInBounds_ne (by exact fun h=>h47 h.symm),Array.getElem?_setIfInBounds_ne (by exact fun h=>h46 h.symm),<- Array.getD_eq_getD_getElem?];exact r8 t u ht
end Go.Eng
