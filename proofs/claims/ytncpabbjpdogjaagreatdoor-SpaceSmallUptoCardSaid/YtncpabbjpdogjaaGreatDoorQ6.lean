/- A program logic over the model, and what this program's functions do by it: part 6. No conditions: a library of lemmas. -/
import Derived.Test.YtncpabbjpdogjaaGreatDoorQ5
import Derived.Laws.StructEq
import Derived.Lib.Bytealg
import Derived.Lib.Join
import Derived.Scope
import Derived.Shelf.SlSortCmp.WholeK
import Derived.Shelf.Strings.Repeat
import Derived.Sort.Walk0
import Derived.Test.YtncpabbjpdogjaaGreatDoorChecked
open Nat (reduceEqDiff)
set_option linter.unusedSimpArgs false
set_option linter.unusedVariables false
set_option maxRecDepth 100000
open Go.Eng.Res renaming blk->Ya,row->Yf
open List renaming length_append->Yb,set_cons_zero->Yc,replicate->Yd,nil_append->Ye,set_cons_succ->Yh,nil_sublist->Yk,getElem?_eq_getElem->Yl,length_singleton->Yo,getD_eq_getElem?_getD->Yp,cons_append->Yq,append_nil->Yr,append_assoc->Ys,length_cons->Yt,length_take->Yu,length_drop->Yv,getElem?_map->Yx,flatten_cons->Yy,sublist_cons_self->Yz,getElem?_range->Y0,range->Y1,singleton_append->Y2,eq_nil_of_length_eq_zero->Y4,getElem?_eq_none->Y6,length_nil->Y7,getElem?_eq_some_iff->Xb,getElem?_append_left->Xc,mem_of_getElem?->Xd,take_of_length_le->Xf,mem_cons->Xg,flatten_nil->Xh,getElem?_append_right->Xi,perm_append_comm->Xj,ext_getElem?->Xk,length_pos_iff->Xl,getElem?_replicate->Xm,getElem?_zipWith->Xp,takeWhile_prefix->Xq,perm_append_singleton->Xr,length->Xs,sublist_append_right->Xu,length_take_le->Xv,mem_singleton->Xw,getElem?_set->Xz,take_append_drop->X2,filter_cons->X3,all_eq_true->X4,mem_of_mem_take->X5,count_eq_zero_of_not_mem->X7,mem_append->X8,replicate_zero->X9,mem_map->Ub,getElem?_drop->Uf,filter_append->Uh,pairwise_iff_getElem->Ui,drop_eq_getElem_cons->Uj,take_add_one->Uk,getElem_mem->Uo,take_length->Ur,drop_of_length_le->Uu,length_map->Uw,drop_left'->Ux,take_left'->Uy,countP_le_length->U0,set_append_right->U1,take_zero->U5,drop_drop->U6,drop_zero->U7,take_succ_cons->U8,drop_succ_cons->U9,flatten_append->Ga,sum_cons->Ge,mem_cons_self->Gg
open Go.Value renaming oneCell'->Yg,cells->Yw,slice->Y8,string->Xo,int->Up,bool->Gv,agg->Gw
open Go.Eng.CallK renaming mk->Yi
open Go.Proofs.Tryz renaming prog->Yj,underlying71->Ym,underlying72->Y5,f101->Y9,underlying148->Xx,call35->Xy,underlying56->X1,call33->X6,underlying114->Ud,underlying37->Um,underlying3->Us,underlying5->Ut,zeroValue5->Uz,call37->U4,underlying118->Gf,underlying128->Gh,sizeOf3->Gk,sizeOf5->Gl,zeroValue128->Gm,underlying78->Gn,underlying83->Gp,call31->Gq,call36->Gr,call26->Gs,isAgg3->Gt,isAgg5->Gu
open Go.Obj renaming cells->Yn,loop->Ug
open Nat renaming le_refl->Y3,zero_add->X0,le_trans->Ua,sub_self->Uc,add_sub_cancel->Ue,add_sub_cancel_left->Uq,mul_le_mul_right->U3,add_assoc->Gb,reduceAdd->Gd,lt_or_ge->Gj
open UInt8 renaming ofNat->Xa
open Go.Eng.Heap renaming start->Xe
open Go.Eng.I64 renaming mk->Xn
open Int renaming toNat->Xt,toNat_natCast->Ul
open Go.Result renaming andThen_ok->Un
open Go.Sem renaming run_bind->Uv
open Go.IntKind renaming i64->U2
open Bool renaming true_eq_false->Gi
namespace Go.Proofs.YtncpabbjpdogjaaGreatDoor
open Go Go.Eng
def C6 (list P:List Nat) (n m t:Nat):List Nat:=(Y1 n).map fun s=>(Y1 m).countP fun i=>list.getD i 0 == s && P.getD (i / 50) 0 == t
def Ee (list P:List Nat) (many n m:Nat):List (List Nat):=(Y1 many).map (C6 list P n m)
theorem Rd (list P:List Nat) (n m t:Nat):(C6 list P n m t).length=n:=by simp [C6]
theorem Qv9 (list P:List Nat) (many n m:Nat):(Ee list P many n m).length=many:=by simp [Ee]
theorem Qwa (list P:List Nat) (n t:Nat):C6 list P n 0 t=Yd n 0:=by
 unfold C6;apply Xk;intro j;rw [Yx,Xm];by_cases hj:j < n
 ·
  rw [Y0 hj,if_pos hj];rfl
 rw [Y6 (by simpa using hj),if_neg hj];rfl
theorem Qr8 (list P:List Nat) (many n:Nat):Ee list P many n 0=Yd many (Yd n 0):=by
 unfold Ee;apply Xk;intro j;rw [Yx,Xm];by_cases hj:j < many
 ·
  rw [Y0 hj,if_pos hj,Option.map_some,Qwa]
 rw [Y6 (by simpa using hj),if_neg hj];rfl
theorem Qzm {list P:List Nat}{n m t s:Nat} (hs:s < n):(C6 list P n m t).getD s 0<=m:=by
 rw [C6,Vd _ _ _ _ hs];exact Ua U0 (by simp)
theorem Qtw {list P:List Nat}{n m t:Nat}:∀ x∈C6 list P n m t,x<=m:=by
 intro x hx;obtain ⟨s,_,rfl⟩:=Ub.1 hx;exact Ua U0 (by simp)
theorem Qj7 {list P:List Nat}{n m t:Nat} (hx:list.getD m 0 < n):C6 list P n (m+1) t=if P.getD (m / 50) 0=t then (C6 list P n m t).set (list.getD m 0) ((C6 list P n m t).getD (list.getD m 0) 0+1) else C6 list P n m t:=by
 apply Xk;intro j;by_cases hj:j < n
 ·
  have h1:∀ m,(C6 list P n m t)[j]? = some ((Y1 m).countP fun i=>list.getD i 0 == j && P.getD (i / 50) 0 == t):=fun m=>by
   rw [C6,Yx,Y0 hj];rfl
  rw [h1,List.range_succ,List.countP_append,List.countP_singleton];by_cases ht:P.getD (m / 50) 0=t
  ·
   rw [if_pos ht,Xz];by_cases e:list.getD m 0=j
   ·
    have hb:(list.getD m 0 == j && P.getD (m / 50) 0 == t)=true:=by rw [e,ht];simp
    rw [if_pos hb,if_pos e,if_pos (by rw [Rd];exact hx),e]
    congr 2
    rw [Yp,h1];rfl
   have hb:(list.getD m 0 == j && P.getD (m / 50) 0 == t)=false:=by rw [show (list.getD m 0 == j)=false from beq_eq_false_iff_ne.2 e];rfl
   rw [hb,if_neg e,h1];rfl
  have hb:(list.getD m 0 == j && P.getD (m / 50) 0 == t)=false:=by rw [show (P.getD (m / 50) 0 == t)=false from beq_eq_false_iff_ne.2 ht,Bool.and_false]
  rw [hb,if_neg ht,h1];rfl
 rw [Y6 (by rw [Rd];omega),Y6];split
 ·
  rw [List.length_set,Rd];omega
 rw [Rd];omega
theorem Qr9 {list P:List Nat}{many n m b:Nat} (hx:list.getD m 0 < n) (hb:P.getD (m / 50) 0=b) (hbm:b < many):Ee list P many n (m+1)=(Ee list P many n m).set b ((C6 list P n m b).set (list.getD m 0) ((C6 list P n m b).getD (list.getD m 0) 0+1)):=by
 apply Xk;intro j;rw [Xz];unfold Ee;rw [Yx,Yx,Uw,List.length_range];by_cases e:b=j
 ·
  subst e;rw [if_pos rfl,if_pos hbm,Y0 hbm,Option.map_some,Qj7 hx,if_pos hb]
 rw [if_neg e];by_cases hj:j < many
 ·
  rw [Y0 hj,Option.map_some,Option.map_some,Qj7 hx,if_neg (by omega)]
 rw [Y6 (by simpa using hj)];rfl
theorem Qsa (list P:List Nat) (n t:Nat):Rh list P t n=C6 list P n list.length t:=rfl
def Br (hs:List (Option Addr×Nat)) (n:Nat):List Value:=hs.map fun h=>.slice h.1 n h.2
def Bp (hs:List (Option Addr×Nat)) (n:Nat) (L:List (List Nat)):List Res:=List.zipWith (fun h l=>Yf 3 1 h.1 n h.2 (Ag l)) hs L
theorem Sa (hs:List (Option Addr×Nat)) (n:Nat):(Br hs n).length=hs.length:=by simp [Br]
theorem W3 {hs:List (Option Addr×Nat)}{i:Nat}{h:Option Addr×Nat} (n:Nat) (h1:hs[i]? = some h):(Br hs n)[i]? = some (.slice h.1 n h.2):=by simp [Br,h1]
theorem Qn3 (hs:List (Option Addr×Nat)) (n i:Nat) (a:Option Addr) (c:Nat):(Br hs n).set i (.slice a n c)=Br (hs.set i (a,c)) n:=by simp [Br,List.map_set]
theorem Qsb {hs:List (Option Addr×Nat)}{T:List (List Nat)}{n:Nat} (hl:hs.length=T.length) (h:∀ t∈T,t.length=n):Dj hs T=Br hs n:=by
 apply Xk;intro i;unfold Dj Br;rw [Xp,Yx];rcases Gj i T.length with h1 | h1
 ·
  rw [Yl h1,Yl (by omega)];simp only [Option.map_some];rw [h _ (Uo h1)]
 rw [Y6 h1,Y6 (by omega)];rfl
theorem Qwb {hs:List (Option Addr×Nat)}{n:Nat}{L:List (List Nat)} (hl:hs.length=L.length):(Bp hs n L).length=L.length:=by simp [Bp,hl]
theorem Qd5 {hs:List (Option Addr×Nat)}{L:List (List Nat)}{i:Nat}{h:Option Addr×Nat}{l:List Nat} (n:Nat) (h1:hs[i]? = some h) (h2:L[i]? = some l):(Bp hs n L)[i]? = some (Yf 3 1 h.1 n h.2 (Ag l)):=by
 simp [Bp,Xp,h1,h2]
theorem Qck {hs:List (Option Addr×Nat)}{L:List (List Nat)} (n:Nat) (hl:hs.length=L.length) (a:Option Addr) (c:Nat) (l:List Nat):Bp hs n L++[Yf 3 1 a n c (Ag l)]=Bp (hs++[(a,c)]) n (L++[l]):=by
 unfold Bp;rw [List.zipWith_append hl];rfl
theorem Qwc {hs:List (Option Addr×Nat)}{L:List (List Nat)}{i n:Nat}{h:Option Addr×Nat} (h1:hs[i]? = some h) (l:List Nat):(Bp hs n L).set i (Yf 3 1 h.1 n h.2 (Ag l))=Bp hs n (L.set i l):=by
 apply Xk;intro j;unfold Bp;rw [Xz,Xp,Xp,Xz,List.length_zipWith];by_cases e:i=j
 ·
  subst e;have h2:=(Xb.1 h1).1;rw [if_pos rfl,if_pos rfl,h1];by_cases h3:i < L.length
  ·
   rw [if_pos (by omega),if_pos h3]
  rw [if_neg (by omega),if_neg h3]
 rw [if_neg e,if_neg e]
theorem Heap.hole_row {w0 w:World}{B:List Nat}{G:List Res}{r:Res} (h:Heap w0 B w G) (i j:Nat) (hi:G[i]? = some r) {g T sz n cap k:Nat}{xs:List Value}{v:Value} (hj:G[j]? = some (Yf T sz (some ⟨g,0,none⟩) n cap xs)) (hij:i≠j) (hv:xs[k]? = some v):(holes r.foot w).cell? ⟨g,k,none⟩=some v:=by
 refine Tw (Cm (h.at j hj) hv) ?_;obtain ⟨h1,e1⟩:=Xb.1 hi;obtain ⟨h2,e2⟩:=Xb.1 hj;have ha:=Ui.1 h.apart;rcases Gj i j with h3 | h3
 ·
  have h4:=ha i j h1 h2 h3;rw [e1,e2] at h4;exact fun hb=>h4 g hb (by simp [Yf])
 have h4:=ha j i h2 h1 (by omega);rw [e1,e2] at h4;exact h4 g (by simp [Yf])
theorem Qwd (list tab:List Nat) (n k t:Nat) (hk:50 * k < list.length) (hl:list.length<=1638350) (hs:∀ s∈list,s < n) (htl:tab.length=n) (htx:∀ x∈tab,x<=1000) (p:Addr) (hps:p.spot=none) (lc:Nat) (hlc:list.length<=lc) (gl gp gT many mc:Nat) (ht:t < many) (hmany:many<=6) (ta:Option Addr) (tc:Nat) (w:World)
  (c1:w.cell? ⟨gl,0,none⟩=some (.slice (some p) list.length lc)) (c2:w.cell? ⟨gp,0,none⟩=some (.slice (some ⟨gT,0,none⟩) many mc)) (c3:w.cell? ⟨gT,t,none⟩=some (.slice ta n tc)) (hr:RS w (some p) list.length 1 (Ag list)) (hrt:RS w ta n 1 (Ag tab)) :
  Does Yj 141 #[.int .i64 t,.int .i64 k,.pointer (some ⟨gl,0,none⟩),.pointer (some ⟨gp,0,none⟩)] w fun v w'=>w'=w/\v=.int .i64 (Ma tab (Dz list k):Nat):=by
 have hgd:=Qhb list k hk (by omega) p lc hlc w;have hrs:=Qpk hr hps hk;have hcm:∀ s∈Dz list k,s < n:=fun s h=>hs s (List.mem_of_mem_drop (X5 h));have hcl:(Dz list k).length<=50:=by simp [Dz];omega
 refine En [.int .i64 t,.int .i64 k,.pointer (some ⟨gl,0,none⟩),.pointer (some ⟨gp,0,none⟩)] 30 Tryz.func141 ?_;generalize hch:Dz list k=ch at *;generalize hnc:ch.length=nc at *;generalize list.length=nl at *;refine VS [0,1,2,3] ?_;refine VS [0,1,2,3,7] ?_;refine VQ [0,3,7,12,13,14] fun K hK=>?_;refine ⟨_,c1,?_⟩;refine Ac Tryz.call142 ?_;refine Qs ?_;refine Yi hgd ?_;rintro v w2 ⟨rfl,rfl⟩;refine Qs ?_;apply hK;clear hK;generalize hpk:p.add (50 * k)=pk at *;refine Ar ?_;refine Au [0,3,7,12,13,14] (fun m e w'=>∃ (i:Nat),Is e [(0,.int .i64 t),(3,.pointer (some ⟨gp,0,none⟩)),(7,.int .i64 (Ma tab (ch.take i):Nat)),(12,.slice (some pk) nc (lc - 50 * k)),(13,.int .i64 nc),(14,.int .i64 i)]/\Is w' w2/\Ma tab (ch.take i)<=1000 * i/\i<=nc/\m=nc - i) nc ?_ ?_
 ·
  refine Qs ?_;exact ⟨0,rfl,rfl,by simp [Ma],by omega,rfl⟩
 rintro m e w' ⟨i,rfl,rfl,hcb,hi,rfl⟩;refine VS [0,3,7,12,13,14,15] ?_;(repeat refine Ay ?_);refine VD (fun h=>?_) (fun h=>?_)
 ·
  have hcell:=Eh hrs (i:=i) (by omega);have hx:=hcm _ (Dm 0 (l:=ch) (i:=i) (by omega));have htk:ch.take (i+1)=ch.take i++[ch.getD i 0]:=Mo 0 (by omega);have hcs:Ma tab (ch.take (i+1))=Ma tab (ch.take i)+tab.getD (ch.getD i 0) 0:=by rw [htk];simp [Ma]
  generalize ch.getD i 0=x at *;obtain ⟨q,rfl⟩:=rs_pos hrt (by omega);have hct:=Eh hrt (i:=x) (by omega);have hcx:=htx _ (Dm 0 (l:=tab) (i:=x) (by omega));generalize tab.getD x 0=c at *;refine Ab ?_;refine VB ?_;refine VQ [0,3,7,9,12,13,14] fun K hK=>?_;refine ⟨⟨by omega,by omega⟩,_,hcell,?_⟩;apply hK;clear hK;refine VQ [0,3,7,12,13,14] fun K hK=>?_;refine ⟨_,c2,?_⟩;refine Qs ?_;refine ⟨⟨by omega,by omega⟩,_,c3,?_⟩;refine Qs ?_;refine ⟨⟨by omega,by omega⟩,_,hct,?_⟩;refine Qs ?_;(repeat refine Qo ?_);apply hK;clear hK;refine Ao ?_;refine VS [0,3,7,12,13,14] ?_;refine Ah ?_;refine Qs ?_;exact ⟨nc - (i+1),by omega,i+1,by rw [hcs];rfl,rfl,by omega,by omega,rfl⟩
 obtain rfl:i=nc:=by omega
 rw [Xf (by omega)];refine As rfl ?_;refine VS [6] ?_;exact Ad (A0 rfl rfl ⟨rfl,rfl⟩)
end Go.Proofs.YtncpabbjpdogjaaGreatDoor
namespace Go.Eng
open Go
def Qu:List Nat->Code->Code
 | [],c=>c
 | 0::p,.seq a _=>Qu p a
 | _::p,.seq _ b=>Qu p b
 | _::p,.block _ c=>Qu p c
 | _::p,.loop c=>Qu p c
 | _::p,.scope c=>Qu p c
 | 0::p,.cond _ a _=>Qu p a
 | _::p,.cond _ _ b=>Qu p b
 | _,c=>c
def Mw (p:List Nat) (fn:Func):Code :=
 match fn.body with
 | some c=>Qu p c
 | none=>.skip
theorem S3 {C:Ky}{k:List It}{e:Env}{w:World} (ks:List Nat) (h:D5 ks e fun e=>VC C k e w):VC C k e w :=
 fun a n ha=>((Kj ks e _).1 h) a n (ha.sel ks)
end Go.Eng
namespace Go.Proofs.YtncpabbjpdogjaaGreatDoor
open Go Go.Eng
set_option maxHeartbeats 4000000
theorem Qde (us:List (Option Addr×Nat)) (n:Nat) (a:Option Addr) (c:Nat):Br us n++[.slice a n c]=Br (us++[(a,c)]) n:=by simp [Br]
theorem Ql8 {w0 w:World}{B:List Nat}{G:List Res} (hX:Heap w0 B w G) (n:Nat) (hn:n<=1000000000):Heap w0 B (w.alloc (Yn (Yd n (Up U2 0)).toArray 3)) (Yf 3 1 (some ⟨w.heap.size,0,none⟩) n n (Ag (Yd n 0))::G):=by
 have h:=hX.row 3 (n:=n) (cap:=n) (sz:=1) (Ag (Yd n 0)) [] (by simp [Bi]) (by simp [Bi]) (by omega) (by omega);rw [Yr] at h;rw [<- L0];exact h
theorem Qj8 {w0 w:World}{B:List Nat}{G:List Res} (hX:Heap w0 B w G) (n:Nat) (hn:n<=1000000000):Heap w0 B (w.alloc (Yn (Yd n (Y8 none 0 0)).toArray 114)) (Yf 114 1 (some ⟨w.heap.size,0,none⟩) n n (Yd n (Y8 none 0 0))::G):=by
 have h:=hX.row 114 (n:=n) (cap:=n) (sz:=1) (Yd n (Y8 none 0 0)) [] (by simp) (by simp) (by omega) (by omega);rw [Yr] at h;exact h
abbrev zS:Value:=.slice none 0 0
def Ks (n many t s:Nat):Nat:=if s * many / n=t then 1 else 15
def Qmh (n many t:Nat):List Nat:=(Y1 n).map (Ks n many t)
theorem Qd6 (n many:Nat):L7 n many=(Y1 many).map (Qmh n many):=rfl
theorem Qn4 (n many:Nat) {t:Nat} (h:t < many):(L7 n many).take (t+1)=(L7 n many).take t++[Qmh n many t]:=by
 have hg:(L7 n many)[t]? = some (Qmh n many t):=by rw [Qd6,Yx,Y0 h];rfl
 rw [Uk,hg];rfl
theorem Qn5 (n many:Nat) {t:Nat} (h:t<=many):((L7 n many).take t).length=t:=by rw [Qd6];simp;omega
theorem Qtx {us vs:List (Option Addr×Nat)}{n i:Nat}{T W:List (List Nat)}{h:Option Addr×Nat}{l:List Nat} (h1:us[i]? = some h) (h2:T[i]? = some l):(Bp us n T++Bp vs n W)[i]? = some (Yf 3 1 h.1 n h.2 (Ag l)):=by
 have h3:=Qd5 n h1 h2;rw [Xc (Xb.1 h3).1,h3]
theorem Qzn {us vs:List (Option Addr×Nat)}{n many i:Nat}{T W:List (List Nat)}{h:Option Addr×Nat}{l:List Nat} (hm:(Bp us n T).length=many) (h1:vs[i]? = some h) (h2:W[i]? = some l):(Bp us n T++Bp vs n W)[many+i]? = some (Yf 3 1 h.1 n h.2 (Ag l)):=by
 rw [Xi (by omega),hm,Uq,Qd5 n h1 h2]
theorem Qwe {us vs:List (Option Addr×Nat)}{n many i:Nat}{T W:List (List Nat)}{h:Option Addr×Nat} (l:List Nat) (hm:(Bp us n T).length=many) (h1:vs[i]? = some h):(Bp us n T++Bp vs n W).set (many+i) (Yf 3 1 h.1 n h.2 (Ag l))=Bp us n T++Bp vs n (W.set i l):=by
 rw [U1 _ _ (by omega),hm,Uq,Qwc h1]
theorem getD_some {α:Type}{l:List α}{i:Nat} (d:α) (h:i < l.length):l[i]? = some (l.getD i d):=by
 rw [Yp,Yl h];rfl
theorem Qbw {α:Type}{A B:List α}{k:Nat} (x:α) (hA:A.length=k) (hB:k < B.length):(A++B.drop k).set k x=(A++[x])++B.drop (k+1):=by
 rw [U1 _ _ (by omega),hA,Uc,Uj hB,Yc,Ys];rfl
abbrev Kt (gl gp:Nat):Value:=.func (.func 141) #[] #[.pointer (some ⟨gl,0,none⟩),.pointer (some ⟨gp,0,none⟩)]
theorem Qzo {list:List Nat}{n:Nat} (hm:Nd list n) (many:Nat):∀ r,(Ec list n many r).1.length=many/\(∀ t∈(Ec list n many r).1,t.length=n/\∀ x∈t,x<=20)/\(Ec list n many r).2.length=Do list.length
 | 0=>by
  refine ⟨by simp [Ec,L7],fun t ht=>?_,by simp [Ec]⟩;obtain ⟨i,_,rfl⟩:=Ub.1 ht;refine ⟨by simp,fun x hx=>?_⟩;obtain ⟨s,_,rfl⟩:=Ub.1 hx;split <;> omega
 | r+1=>by
  obtain ⟨h1,h2,h3,h4,h5⟩:=hm;rw [Ec];refine ⟨by simp [Lj],fun t ht=>?_,by simp [Lj,F2]⟩;obtain ⟨i,_,rfl⟩:=Ub.1 ht;have hc:=Rd list (F2 list many (Ec list n many r).1) n list.length i;obtain ⟨a,b,c⟩:=Qtf (w:=C6 list (F2 list many (Ec list n many r).1) n list.length i) (most:=17) (by omega) (by omega) (by omega) (by omega) (fun x hx=>by have:=Qtw x hx;omega);rw [hc] at a;exact ⟨a,fun x hx=>by have:=b x hx;omega⟩
theorem Qlm {F:Value->World->Prop}{kk:List It}{n many gN nl lc gl gr gT gP gp:Nat}{p:Addr}{w w5:World} (h1:3<=n) (h2:n<=258) (t1:2<=many) (t2:many<=6)
  (hH2:Heap w [] w5 (Yf 114 1 (some ⟨gT,0,none⟩) many many (Yd many zS)::Yf 3 1 (some ⟨gP,0,none⟩) gN gN (Ag (Yd gN 0))::Ya gp 120 (Ai (some ⟨gT,0,none⟩) many many (some ⟨gP,0,none⟩) gN gN)::Ya gr 120 (Ai none 0 0 none 0 0)::Ya gl 114 [.slice (some p) nl lc]::[]))
  (out:∀ w' us,Heap w [] w' (Yf 114 1 (some ⟨gT,0,none⟩) many many (Br us n)::Yf 3 1 (some ⟨gP,0,none⟩) gN gN (Ag (Yd gN 0))::Ya gp 120 (Ai (some ⟨gT,0,none⟩) many many (some ⟨gP,0,none⟩) gN gN)::Ya gr 120 (Ai none 0 0 none 0 0)::Ya gl 114 [.slice (some p) nl lc]::Bp us n (L7 n many))->us.length=many->VC ⟨Yj,Y9,F,158⟩ kk [(1,.int .i64 n),(2,.pointer (some ⟨gl,0,none⟩)),(4,.pointer (some ⟨gr,0,none⟩)),(6,.int .i64 many),(8,.pointer (some ⟨gp,0,none⟩))] w') :
  VC ⟨Yj,Y9,F,158⟩ (.code (Mw [1,1,1,1,0,1] Y9)::kk) [(1,.int .i64 n),(2,.pointer (some ⟨gl,0,none⟩)),(4,.pointer (some ⟨gr,0,none⟩)),(6,.int .i64 many),(8,.pointer (some ⟨gp,0,none⟩)),(40,.int .i64 many),(41,.int .i64 0)] w5:=by
 conv in (Mw _ _)=>whnf
 refine Ar ?_;refine Au [1,2,4,6,8,40,41] (fun m e w'=>∃ (t:Nat) (us:List (Option Addr×Nat)),Is e [(1,.int .i64 n),(2,.pointer (some ⟨gl,0,none⟩)),(4,.pointer (some ⟨gr,0,none⟩)),(6,.int .i64 many),(8,.pointer (some ⟨gp,0,none⟩)),(40,.int .i64 many),(41,.int .i64 t)]/\Heap w [] w' (Yf 114 1 (some ⟨gT,0,none⟩) many many (Br us n++Yd (many - t) zS)::Yf 3 1 (some ⟨gP,0,none⟩) gN gN (Ag (Yd gN 0))::Ya gp 120 (Ai (some ⟨gT,0,none⟩) many many (some ⟨gP,0,none⟩) gN gN)::Ya gr 120 (Ai none 0 0 none 0 0)::Ya gl 114 [.slice (some p) nl lc]::Bp us n ((L7 n many).take t))/\us.length=t/\t<=many/\m=many - t) many ?_ ?_
 ·
  refine Qs ?_;exact ⟨0,[],rfl,hH2,rfl,by omega,rfl⟩
 clear hH2;rintro m e w4 ⟨t,us,rfl,hH,hus,ht,rfl⟩;refine VS [1,2,4,6,8,40,41,42] ?_;(repeat with_reducible refine Ay ?_);refine VD (fun h=>?_) (fun h=>?_)
 ·
  have hF:=hH.focus 0 rfl;have c0:=hH.hole_at 0 2 rfl rfl (by omega) (show (Ai (some ⟨gT,0,none⟩) many many (some ⟨gP,0,none⟩) gN gN)[0]? = some _ from rfl);have hAl:(Br us n++Yd (many - t) zS).length=many:=by simp [Sa];omega
  refine Ab ?_
  ((repeat with_reducible refine Ay ?_);(first | refine Ar ?_ | refine VB ?_))
  refine VS [1,2,4,6,8,9,40,41] ?_;refine VH (holes [gT] w4) (Ext.hole _ _) [1,2,4,6,8,9,40,41] [(0,true),(1,true),(2,true),(3,true),(4,false),(5,true),(6,false)] fun K hK=>?_;refine ⟨_,c0,?_⟩;refine Ew Ud E0 ?_;refine Qs ?_;refine ⟨n,n,⟨rfl,rfl,by omega,by omega,by omega⟩,?_⟩;have hF2:=Ql8 hF n (by omega);generalize w4.alloc (Yn (Yd n (Up U2 0)).toArray 3)=w5 at *;generalize w4.heap.size=gC at *;refine ⟨hF2.upd.extH,?_⟩;refine Qp ?_;refine Af ?_;refine Qs ?_;refine Eg hF2 1 (o:=t) (vs:=[.slice (some ⟨gC,0,none⟩) n n]) rfl (by simp [Bz]) rfl (by kernel_rfl) (by simp only [Yo];omega) (by simp [Yg]) fun w6 hF3=>?_;simp only [Yo,De (Br us n++Yd (many - t) zS) _ _ (show t < (Br us n++Yd (many - t) zS).length by omega),Sw (Br us n) zS _ (show t < many by omega) (by rw [Sa];exact hus),Qde,Yc,Yh] at hF3;refine ⟨hF3.upd.extH,?_⟩;apply hK;clear hK;have hH3:=hH.call1 0 rfl (hF3.perm (.swap _ _ _));simp only [Yc,Y2] at hH3;clear hH hF hF2 hF3 c0;have hus2:(us++[((some ⟨gC,0,none⟩:Option Addr),n)])[t]? = some (some ⟨gC,0,none⟩,n):=by rw [Xi (by omega),hus,Uc];rfl
  have hcT:(Br (us++[((some ⟨gC,0,none⟩:Option Addr),n)]) n++Yd (many - (t+1)) zS)[t]? = some (.slice (some ⟨gC,0,none⟩) n n):=by
   rw [Xc (by rw [Sa];simp;omega)];exact W3 n hus2
  refine VS [1,2,4,6,8,9,40,41,50,51] ?_;refine Ar ?_;refine Au [1,2,4,6,8,9,40,41,50,51] (fun m e w'=>∃ (i:Nat),Is e [(1,.int .i64 n),(2,.pointer (some ⟨gl,0,none⟩)),(4,.pointer (some ⟨gr,0,none⟩)),(6,.int .i64 many),(8,.pointer (some ⟨gp,0,none⟩)),(9,.int .i64 t),(40,.int .i64 many),(41,.int .i64 t),(50,.int .i64 n),(51,.int .i64 i)]/\Heap w [] w' (Yf 3 1 (some ⟨gC,0,none⟩) n n (Ag ((Y1 i).map (Ks n many t)++Yd (n - i) 0))::Yf 114 1 (some ⟨gT,0,none⟩) many many (Br (us++[((some ⟨gC,0,none⟩:Option Addr),n)]) n++Yd (many - (t+1)) zS)::Yf 3 1 (some ⟨gP,0,none⟩) gN gN (Ag (Yd gN 0))::Ya gp 120 (Ai (some ⟨gT,0,none⟩) many many (some ⟨gP,0,none⟩) gN gN)::Ya gr 120 (Ai none 0 0 none 0 0)::Ya gl 114 [.slice (some p) nl lc]::Bp us n ((L7 n many).take t))/\i<=n/\m=n - i) n ?_ ?_
  ·
   refine Qs ?_;exact ⟨0,rfl,hH3,by omega,rfl⟩
  clear hH3;rintro m e w7 ⟨i,rfl,hH,hi,rfl⟩;refine VS [1,2,4,6,8,9,40,41,50,51,52] ?_;(repeat with_reducible refine Ay ?_);refine VD (fun h=>?_) (fun h=>?_)
  ·
   have hmul:i * many<=258 * 6:=Nat.mul_le_mul (by omega) (by omega);have hsl:((Y1 i).map (Ks n many t)).length=i:=by simp
   have hsn:(Y1 (i+1)).map (Ks n many t)=(Y1 i).map (Ks n many t)++[Ks n many t i]:=by rw [List.range_succ,List.map_append];rfl
   have hs15:=Sw ((Y1 i).map (Ks n many t)) 0 15 (show i < n by omega) hsl
   have hfin:((Y1 i).map (Ks n many t)++Yd (n - i) 0).set i (Ks n many t i)=(Y1 (i+1)).map (Ks n many t)++Yd (n - (i+1)) 0:=by
    rw [Sw _ 0 _ (show i < n by omega) hsl,hsn]
   have hCl:((Y1 i).map (Ks n many t)++Yd (n - i) 0).length=n:=by simp;omega
   generalize (Y1 i).map (Ks n many t)++Yd (n - i) 0=C at *;have c0:w7.cell? ⟨gp,0,none⟩=some (.slice (some ⟨gT,0,none⟩) many many):=Aj (hH.at 3 rfl) rfl;have c1:=Cm (hH.at 1 rfl) hcT;refine Ab ?_
   ((repeat with_reducible refine Ay ?_);(first | refine Ar ?_ | refine VB ?_))
   refine VS [1,2,4,6,8,9,10,40,41,50,51] ?_;refine VQ [1,2,4,6,8,9,10,40,41,50,51] fun K hK=>?_;refine ⟨_,c0,?_⟩;refine Qs ?_;refine ⟨⟨by omega,by omega⟩,_,c1,?_⟩;refine Qs ?_;refine Qp ?_;refine Af ?_;refine Qs ?_;refine Eg hH 0 (o:=(i)) (vs:=[.int .i64 (15:Nat)]) rfl (by first | exact (Bz _ _ _).symm | rfl | simp [Bz]) rfl (by kernel_rfl) (by first | omega | (simp;done) | (simp;omega) | (simp [An,Bb];omega) | (rw [Bi];simp;omega)) (by simp [Yg]) fun w6 hH2=>?_;(try refine Qs ?_);simp only [Yo,De (Ag C) _ _ (show i < (Ag C).length by rw [Bi];omega),Ik,Yc] at hH2;clear hH c0 c1;apply hK;clear hK;refine VQ [1,2,4,6,8,9,10,40,41,50,51,67] fun K hK=>?_;(repeat first | refine Qo ?_ | refine Qp ?_);rw [show ((i:Int) * many / n)=((i * many / n:Nat):Int) by push_cast;rfl];have hdv:i * many / n<=i * many:=Nat.div_le_self _ _;generalize hdq:i * many / n=dq at *;refine ⟨Xn (by omega) (by omega),?_⟩;apply hK;clear hK;refine VD (fun h=>?_) (fun h=>Ab ?_)
   ·
    have hsf:Ks n many t i=1:=by unfold Ks;rw [hdq,if_pos (by omega)]
    rw [hsf] at hfin;have c0:w6.cell? ⟨gp,0,none⟩=some (.slice (some ⟨gT,0,none⟩) many many):=Aj (hH2.at 3 rfl) rfl;have c1:=Cm (hH2.at 1 rfl) hcT;refine VQ [1,2,4,6,8,9,40,41,50,51] fun K hK=>?_;refine ⟨_,c0,?_⟩;refine Qs ?_;refine ⟨⟨by omega,by omega⟩,_,c1,?_⟩;refine Qs ?_;refine Qp ?_;have hCl2:(C.set i 15).length=n:=by rw [List.length_set];exact hCl
    refine Af ?_;refine Qs ?_;refine Eg hH2 0 (o:=(i)) (vs:=[.int .i64 (1:Nat)]) rfl (by first | exact (Bz _ _ _).symm | rfl | simp [Bz]) rfl (by kernel_rfl) (by first | omega | (simp;done) | (simp;omega) | (simp [An,Bb];omega) | (rw [Bi];simp;omega)) (by simp [Yg]) fun w6 hH3=>?_;(try refine Qs ?_);simp only [Yo,De (Ag (C.set i 15)) _ _ (show i < (Ag (C.set i 15)).length by rw [Bi];omega),Ik,Yc,List.set_set,hfin] at hH3;clear hH2 c0 c1;apply hK;clear hK;refine Ao ?_;refine VS [1,2,4,6,8,9,40,41,50,51] ?_;refine Ah ?_;refine Qs ?_;exact ⟨n - (i+1),by omega,i+1,rfl,hH3,by omega,rfl⟩
   have hsf:Ks n many t i=15:=by unfold Ks;rw [hdq,if_neg (by omega)]
   rw [hsf] at hfin;rw [hfin] at hH2;refine Ao ?_;refine VS [1,2,4,6,8,9,40,41,50,51] ?_;refine Ah ?_;refine Qs ?_;exact ⟨n - (i+1),by omega,i+1,rfl,hH2,by omega,rfl⟩
  obtain rfl:i=n:=by omega
  rw [Uc,X9,Yr] at hH;have hH2:=hH.perm (Xr _ _).symm;simp only [Yq] at hH2;have hrr:=Qck (hs:=us) (L:=(L7 i many).take t) i (by rw [Qn5 _ _ (by omega)];exact hus) (some ⟨gC,0,none⟩) i (Qmh i many t);rw [<- Qn4 _ _ (by omega)] at hrr
  have hH3:Heap w [] w7 (Yf 114 1 (some ⟨gT,0,none⟩) many many (Br (us++[((some ⟨gC,0,none⟩:Option Addr),i)]) i++Yd (many - (t+1)) zS)::Yf 3 1 (some ⟨gP,0,none⟩) gN gN (Ag (Yd gN 0))::Ya gp 120 (Ai (some ⟨gT,0,none⟩) many many (some ⟨gP,0,none⟩) gN gN)::Ya gr 120 (Ai none 0 0 none 0 0)::Ya gl 114 [.slice (some p) nl lc]::Bp (us++[((some ⟨gC,0,none⟩:Option Addr),i)]) i ((L7 i many).take (t+1))):=by
   rw [<- hrr];exact hH2
  clear hH hH2 hrr;refine As rfl ?_;refine Ao ?_;refine VS [1,2,4,6,8,40,41] ?_;refine Ah ?_;refine Qs ?_;exact ⟨many - (t+1),by omega,t+1,_,rfl,hH3,by simp [hus],by omega,rfl⟩
 obtain rfl:t=many:=by omega
 rw [Uc,X9,Yr,Xf (by rw [Qd6];simp)] at hH;generalize t=many at *;refine As rfl ?_;refine S3 [1,2,4,6,8] ?_;refine Qs ?_;exact out _ _ hH hus
set_option maxHeartbeats 4000000
theorem Qf8 {F:Value->World->Prop}{kk:List It}{list N P:List Nat}{T:List (List Nat)}{us:List (Option Addr×Nat)}{n many gN nl lc gl gr gT gP gp gW r:Nat}{p:Addr}{w w5:World} (h1:3<=n) (h2:n<=258) (t1:2<=many) (t2:many<=6) (hus:us.length=many) (hTl:T.length=many)
  (hH2:Heap w [] w5 (Yf 114 1 (some ⟨gW,0,none⟩) many many (Yd many zS)::Yf 114 1 (some ⟨gT,0,none⟩) many many (Br us n)::Yf 3 1 (some ⟨gP,0,none⟩) gN gN (Ag P)::Ya gp 120 (Ai (some ⟨gT,0,none⟩) many many (some ⟨gP,0,none⟩) gN gN)::Ya gr 120 (Ai none 0 0 none 0 0)::Ya gl 114 [.slice (some p) nl lc]::Bp us n T))
  (out:∀ w' vs,Heap w [] w' (Yf 114 1 (some ⟨gW,0,none⟩) many many (Br vs n)::Yf 114 1 (some ⟨gT,0,none⟩) many many (Br us n)::Yf 3 1 (some ⟨gP,0,none⟩) gN gN (Ag P)::Ya gp 120 (Ai (some ⟨gT,0,none⟩) many many (some ⟨gP,0,none⟩) gN gN)::Ya gr 120 (Ai none 0 0 none 0 0)::Ya gl 114 [.slice (some p) nl lc]::(Bp us n T++Bp vs n (Ee list N many n 0)))->vs.length=many->VC ⟨Yj,Y9,F,158⟩ kk [(1,.int .i64 n),(2,.pointer (some ⟨gl,0,none⟩)),(4,.pointer (some ⟨gr,0,none⟩)),(6,.int .i64 many),(8,.pointer (some ⟨gp,0,none⟩)),(11,Kt gl gp),(12,.slice (some ⟨gW,0,none⟩) many many),(78,.int .i64 r)] w') :
  VC ⟨Yj,Y9,F,158⟩ (.code (Mw [1,1,1,1,1,1,0,1,0,0,1,1,0,0,1,0,1] Y9)::kk) [(1,.int .i64 n),(2,.pointer (some ⟨gl,0,none⟩)),(4,.pointer (some ⟨gr,0,none⟩)),(6,.int .i64 many),(8,.pointer (some ⟨gp,0,none⟩)),(11,Kt gl gp),(12,.slice (some ⟨gW,0,none⟩) many many),(78,.int .i64 r),(83,.int .i64 many),(84,.int .i64 0)] w5:=by
 conv in (Mw _ _)=>whnf
 refine Ar ?_;refine Au [1,2,4,6,8,11,12,78,83,84] (fun m e w'=>∃ (t:Nat) (vs:List (Option Addr×Nat)),Is e [(1,.int .i64 n),(2,.pointer (some ⟨gl,0,none⟩)),(4,.pointer (some ⟨gr,0,none⟩)),(6,.int .i64 many),(8,.pointer (some ⟨gp,0,none⟩)),(11,Kt gl gp),(12,.slice (some ⟨gW,0,none⟩) many many),(78,.int .i64 r),(83,.int .i64 many),(84,.int .i64 t)]/\Heap w [] w' (Yf 114 1 (some ⟨gW,0,none⟩) many many (Br vs n++Yd (many - t) zS)::Yf 114 1 (some ⟨gT,0,none⟩) many many (Br us n)::Yf 3 1 (some ⟨gP,0,none⟩) gN gN (Ag P)::Ya gp 120 (Ai (some ⟨gT,0,none⟩) many many (some ⟨gP,0,none⟩) gN gN)::Ya gr 120 (Ai none 0 0 none 0 0)::Ya gl 114 [.slice (some p) nl lc]::(Bp us n T++Bp vs n (Yd t (Yd n 0))))/\vs.length=t/\t<=many/\m=many - t) many ?_ ?_
 ·
  refine Qs ?_;exact ⟨0,[],rfl,by simpa [Bp,Br] using hH2,rfl,by omega,rfl⟩
 clear hH2;rintro m e w6 ⟨t,vs,rfl,hH,hvs,ht,rfl⟩;refine VS [1,2,4,6,8,11,12,78,83,84,85] ?_;(repeat with_reducible refine Ay ?_);refine VD (fun h=>?_) (fun h=>?_)
 ·
  have hAl:(Br vs n++Yd (many - t) zS).length=many:=by simp [Sa];omega
  refine Ab ?_
  ((repeat with_reducible refine Ay ?_);(first | refine Ar ?_ | refine VB ?_))
  refine VS [1,2,4,6,8,11,12,13,78,83,84] ?_;refine VQ [1,2,4,6,8,11,12,78,83,84] fun K hK=>?_;refine Ew Ud E0 ?_;refine Qs ?_;refine ⟨n,n,⟨rfl,rfl,by omega,by omega,by omega⟩,?_⟩;have hH2:=Ql8 hH n (by omega);generalize w6.alloc (Yn (Yd n (Up U2 0)).toArray 3)=w7 at *;generalize w6.heap.size=gC at *;refine Qp ?_;refine Af ?_;refine Qs ?_;refine Eg hH2 1 (o:=t) (vs:=[.slice (some ⟨gC,0,none⟩) n n]) rfl (by simp [Bz]) rfl (by kernel_rfl) (by simp only [Yo];omega) (by simp [Yg]) fun w8 hH3=>?_;simp only [Yo,De (Br vs n++Yd (many - t) zS) _ _ (show t < (Br vs n++Yd (many - t) zS).length by omega),Sw (Br vs n) zS _ (show t < many by omega) (by rw [Sa];exact hvs),Qde,Yc,Yh] at hH3;have hH4:=hH3.perm (Xr _ _).symm;simp only [Yq,Ys] at hH4;rw [Qck n (by simp [hvs]) _ _ _,<- List.replicate_succ'] at hH4;clear hH hH2 hH3;apply hK;clear hK;refine Ao ?_;refine VS [1,2,4,6,8,11,12,78,83,84] ?_;refine Ah ?_;refine Qs ?_;exact ⟨many - (t+1),by omega,t+1,_,rfl,hH4,by simp [hvs],by omega,rfl⟩
 have ht2:t=many:=by omega
 rw [ht2,Uc,X9,Yr,<- Qr8 list N] at hH;rw [ht2] at hvs;clear h ht ht2;refine As rfl ?_;refine S3 [1,2,4,6,8,11,12,78] ?_;refine Qs ?_;exact out _ _ hH hvs
set_option maxHeartbeats 4000000
theorem Qn6 {F:Value->World->Prop}{kk:List It}{n many gN gl gr gp gW r:Nat}{w5:World}{k:Nat}{cf:Nat->Nat} (t1:2<=many) (t2:many<=6)
  (hcost2:∀ t,t < many->Does Yj 141 #[.int .i64 t,.int .i64 k,.pointer (some ⟨gl,0,none⟩),.pointer (some ⟨gp,0,none⟩)] w5 fun v w'=>w'=w5/\v=.int .i64 (cf t:Nat))
  (out:VC ⟨Yj,Y9,F,158⟩ kk [(1,.int .i64 n),(2,.pointer (some ⟨gl,0,none⟩)),(4,.pointer (some ⟨gr,0,none⟩)),(6,.int .i64 many),(8,.pointer (some ⟨gp,0,none⟩)),(11,Kt gl gp),(12,.slice (some ⟨gW,0,none⟩) many many),(14,.int .i64 k),(15,.int .i64 (Mb cf (many - 1):Nat)),(78,.int .i64 r),(95,.int .i64 gN),(96,.int .i64 k)] w5) :
  VC ⟨Yj,Y9,F,158⟩ (.code (Mw [1,1,1,1,1,1,0,1,0,0,1,1,0,0,1,1,0,1,0,0,1,1,0,0,1,1,0,1] Y9)::kk) [(1,.int .i64 n),(2,.pointer (some ⟨gl,0,none⟩)),(4,.pointer (some ⟨gr,0,none⟩)),(6,.int .i64 many),(8,.pointer (some ⟨gp,0,none⟩)),(11,Kt gl gp),(12,.slice (some ⟨gW,0,none⟩) many many),(14,.int .i64 k),(15,.int .i64 (0:Nat)),(16,.int .i64 1),(78,.int .i64 r),(95,.int .i64 gN),(96,.int .i64 k)] w5:=by
 conv in (Mw _ _)=>whnf
 have hble:=fun t=>Zz cf t;refine Ar ?_;refine Au [1,2,4,6,8,11,12,14,15,16,78,95,96] (fun m e w'=>∃ (t:Nat),Is e [(1,.int .i64 n),(2,.pointer (some ⟨gl,0,none⟩)),(4,.pointer (some ⟨gr,0,none⟩)),(6,.int .i64 many),(8,.pointer (some ⟨gp,0,none⟩)),(11,Kt gl gp),(12,.slice (some ⟨gW,0,none⟩) many many),(14,.int .i64 k),(15,.int .i64 (Mb cf (t - 1):Nat)),(16,.int .i64 t),(78,.int .i64 r),(95,.int .i64 gN),(96,.int .i64 k)]/\Is w' w5/\1<=t/\t<=many/\m=many - t) (many - 1) ?_ ?_
 ·
  refine Qs ?_;exact ⟨1,rfl,rfl,by omega,by omega,by omega⟩
 rintro m e w' ⟨t,rfl,rfl,ht1,ht,rfl⟩;refine VS [1,2,4,6,8,11,12,14,15,16,78,95,96,101] ?_;(repeat with_reducible refine Ay ?_);refine VD (fun h=>?_) (fun h=>?_)
 ·
  have hb:=hble (t - 1);refine Ab ?_
  ((repeat with_reducible refine Ay ?_);(first | refine Ar ?_ | refine VB ?_))
  refine VQ [1,2,4,6,8,11,12,14,15,16,78,95,96,112] fun K hK=>?_;refine Ce ?_;refine Qs ?_;refine FnK.mk Tryz.call141 (hcost2 t (by omega)) ?_;rintro v w8 ⟨rfl,rfl⟩;refine Ce ?_;refine Qs ?_;refine FnK.mk Tryz.call141 (hcost2 (Mb cf (t - 1)) (by omega)) ?_;rintro v w9 ⟨rfl,rfl⟩;refine Qs ?_;apply hK;clear hK
  have hbs:Mb cf t=if cf t < cf (Mb cf (t - 1)) then t else Mb cf (t - 1):=by
   obtain ⟨q,rfl⟩:∃ q,t=q+1:=⟨t - 1,by omega⟩;rfl
  refine VD (fun h=>?_) (fun h=>Ab ?_)
  ·
   rw [if_pos (by omega)] at hbs;refine VS [1,2,4,6,8,11,12,14,15,16,78,95,96] ?_;refine Ao ?_;refine VS [1,2,4,6,8,11,12,14,15,16,78,95,96] ?_;refine Ah ?_;refine Qs ?_;exact ⟨many - (t+1),by omega,t+1,by rw [Ue,hbs];rfl,rfl,by omega,by omega,rfl⟩
  rw [if_neg (by omega)] at hbs;refine Ao ?_;refine VS [1,2,4,6,8,11,12,14,15,16,78,95,96] ?_;refine Ah ?_;refine Qs ?_;exact ⟨many - (t+1),by omega,t+1,by rw [Ue,hbs];rfl,rfl,by omega,by omega,rfl⟩
 have ht2:t=many:=by omega
 rw [ht2];clear h ht ht1 ht2 hcost2;refine As rfl ?_;refine S3 [1,2,4,6,8,11,12,14,15,78,95,96] ?_;refine Qs ?_;exact out
set_option maxHeartbeats 4000000
theorem Qln {F:Value->World->Prop}{kk:List It}{list N P:List Nat}{T:List (List Nat)}{us vs:List (Option Addr×Nat)}{n many gN nl lc gl gr gT gP gp gW r:Nat}{p:Addr}{w w5:World}{k b nc:Nat}{ch:List Nat}{pk:Addr} (h1:3<=n) (h2:n<=258) (t1:2<=many) (t2:many<=6) (h4:nl<=1638350) (hnl:list.length=nl) (h5:∀ s∈list,s < n) (hkl:50 * k < nl) (hnc:ch.length=nc) (hcl:nc=min 50 (nl - 50 * k)) (hmm:50 * k+nc=min (50 * (k+1)) nl)
  (hb:N.getD k 0=b) (hbm:b < many) (hus:us.length=many) (hvs:vs.length=many) (hRl:(Bp us n T).length=many) (hcg:∀ j,j < nc->ch.getD j 0=list.getD (50 * k+j) 0) (hgrs:RS w (some pk) nc 1 (Ag ch))
  (hH2:Heap w [] w5 (Yf 114 1 (some ⟨gW,0,none⟩) many many (Br vs n)::Yf 114 1 (some ⟨gT,0,none⟩) many many (Br us n)::Yf 3 1 (some ⟨gP,0,none⟩) gN gN (Ag (N.take (k+1)++P.drop (k+1)))::Ya gp 120 (Ai (some ⟨gT,0,none⟩) many many (some ⟨gP,0,none⟩) gN gN)::Ya gr 120 (Ai none 0 0 none 0 0)::Ya gl 114 [.slice (some p) nl lc]::(Bp us n T++Bp vs n (Ee list N many n (50 * k)))))
  (out:∀ w',Heap w [] w' (Yf 114 1 (some ⟨gW,0,none⟩) many many (Br vs n)::Yf 114 1 (some ⟨gT,0,none⟩) many many (Br us n)::Yf 3 1 (some ⟨gP,0,none⟩) gN gN (Ag (N.take (k+1)++P.drop (k+1)))::Ya gp 120 (Ai (some ⟨gT,0,none⟩) many many (some ⟨gP,0,none⟩) gN gN)::Ya gr 120 (Ai none 0 0 none 0 0)::Ya gl 114 [.slice (some p) nl lc]::(Bp us n T++Bp vs n (Ee list N many n (min (50 * (k+1)) nl))))->VC ⟨Yj,Y9,F,158⟩ kk [(1,.int .i64 n),(2,.pointer (some ⟨gl,0,none⟩)),(4,.pointer (some ⟨gr,0,none⟩)),(6,.int .i64 many),(8,.pointer (some ⟨gp,0,none⟩)),(11,Kt gl gp),(12,.slice (some ⟨gW,0,none⟩) many many),(78,.int .i64 r),(95,.int .i64 gN),(96,.int .i64 k)] w') :
  VC ⟨Yj,Y9,F,158⟩ (.code (Mw [1,1,1,1,1,1,0,1,0,0,1,1,0,0,1,1,0,1,0,0,1,1,0,0,1,1,1,1,1] Y9)::kk) [(1,.int .i64 n),(2,.pointer (some ⟨gl,0,none⟩)),(4,.pointer (some ⟨gr,0,none⟩)),(6,.int .i64 many),(8,.pointer (some ⟨gp,0,none⟩)),(11,Kt gl gp),(12,.slice (some ⟨gW,0,none⟩) many many),(15,.int .i64 b),(78,.int .i64 r),(95,.int .i64 gN),(96,.int .i64 k),(121,.slice (some pk) nc (lc - 50 * k)),(122,.int .i64 nc),(123,.int .i64 0)] w5:=by
 conv in (Mw _ _)=>whnf
 refine Ar ?_;refine Au [1,2,4,6,8,11,12,15,78,95,96,121,122,123] (fun m e w'=>∃ (j:Nat),Is e [(1,.int .i64 n),(2,.pointer (some ⟨gl,0,none⟩)),(4,.pointer (some ⟨gr,0,none⟩)),(6,.int .i64 many),(8,.pointer (some ⟨gp,0,none⟩)),(11,Kt gl gp),(12,.slice (some ⟨gW,0,none⟩) many many),(15,.int .i64 b),(78,.int .i64 r),(95,.int .i64 gN),(96,.int .i64 k),(121,.slice (some pk) nc (lc - 50 * k)),(122,.int .i64 nc),(123,.int .i64 j)]/\Heap w [] w' (Yf 114 1 (some ⟨gW,0,none⟩) many many (Br vs n)::Yf 114 1 (some ⟨gT,0,none⟩) many many (Br us n)::Yf 3 1 (some ⟨gP,0,none⟩) gN gN (Ag (N.take (k+1)++P.drop (k+1)))::Ya gp 120 (Ai (some ⟨gT,0,none⟩) many many (some ⟨gP,0,none⟩) gN gN)::Ya gr 120 (Ai none 0 0 none 0 0)::Ya gl 114 [.slice (some p) nl lc]::(Bp us n T++Bp vs n (Ee list N many n (50 * k+j))))/\j<=nc/\m=nc - j) nc ?_ ?_
 ·
  refine Qs ?_;exact ⟨0,rfl,hH2,by omega,rfl⟩
 clear hH2;rintro m e w9 ⟨j,rfl,hH,hj,rfl⟩;refine VS [1,2,4,6,8,11,12,15,78,95,96,121,122,123,124] ?_;(repeat with_reducible refine Ay ?_);refine VD (fun h=>?_) (fun h=>?_)
 ·
  have hcell:=Eh (hH.rs' hgrs) (i:=j) (by omega);have hcj:=hcg j (by omega);rw [hcj] at hcell;have hx:=h5 _ (Dm 0 (l:=list) (i:=50 * k+j) (by omega));have hcs:=Qr9 (P:=N) (many:=many) (n:=n) (b:=b) hx (by rw [show (50 * k+j) / 50=k by omega];exact hb) hbm;have hcu:=Qzm (list:=list) (P:=N) (n:=n) (m:=50 * k+j) (t:=b) hx;have hcul:=Rd list N n (50 * k+j) b
  have hWb:(Ee list N many n (50 * k+j))[b]? = some (C6 list N n (50 * k+j) b):=by
   unfold Ee;rw [Yx,Y0 hbm];rfl
  obtain ⟨⟨av,cv⟩,hvb⟩:∃ hv,vs[b]? = some hv:=⟨_,Yl (by omega)⟩;have hcW:w9.cell? ⟨gW,b,none⟩=some (.slice av n cv):=Cm (hH.at 0 rfl) (W3 n hvb);have hri2:(Yf 114 1 (some ⟨gW,0,none⟩) many many (Br vs n)::Yf 114 1 (some ⟨gT,0,none⟩) many many (Br us n)::Yf 3 1 (some ⟨gP,0,none⟩) gN gN (Ag (N.take (k+1)++P.drop (k+1)))::Ya gp 120 (Ai (some ⟨gT,0,none⟩) many many (some ⟨gP,0,none⟩) gN gN)::Ya gr 120 (Ai none 0 0 none 0 0)::Ya gl 114 [.slice (some p) nl lc]::(Bp us n T++Bp vs n (Ee list N many n (50 * k+j))))[many+b+6]? = some (Yf 3 1 av n cv (Ag (C6 list N n (50 * k+j) b))):=Qzn (many:=many) (W:=Ee list N many n (50 * k+j)) hRl hvb hWb;have hset:∀ l,(Bp us n T++Bp vs n (Ee list N many n (50 * k+j))).set (many+b) (Yf 3 1 av n cv (Ag l))=Bp us n T++Bp vs n ((Ee list N many n (50 * k+j)).set b l):=fun l=>Qwe (many:=many) (W:=Ee list N many n (50 * k+j)) l hRl hvb;obtain ⟨gv,rfl⟩:=Fz (hH.at (many+b+6) hri2) (by omega);generalize list.getD (50 * k+j) 0=x at *;have hcx:=Cm (hH.at (many+b+6) hri2) (Fx (l:=C6 list N n (50 * k+j) b) (i:=x) (by omega));generalize hcc:(C6 list N n (50 * k+j) b).getD x 0=c at *;refine Ab ?_
  ((repeat with_reducible refine Ay ?_);(first | refine Ar ?_ | refine VB ?_))
  refine VQ [1,2,4,6,8,11,12,15,18,78,95,96,121,122,123] fun K hK=>?_;refine ⟨⟨by omega,by omega⟩,_,hcell,?_⟩;apply hK;clear hK;refine VQ [1,2,4,6,8,11,12,15,78,95,96,121,122,123] fun K hK=>?_;refine ⟨⟨by omega,by omega⟩,_,hcW,?_⟩;refine Qs ?_;refine ⟨⟨by omega,by omega⟩,_,hcx,?_⟩;refine Qs ?_;refine ⟨Xn (by omega) (by omega),⟨by omega,by omega⟩,?_⟩;refine Af ?_;refine Qs ?_;refine Eg hH (many+b+6) (o:=x) (vs:=[.int .i64 (c+1:Nat)]) hri2 (by simp [Bz]) rfl (by kernel_rfl) (by simp only [Yo,Bi];omega) (by simp [Yg]) fun w10 hH3=>?_
  have e1:(Ag (C6 list N n (50 * k+j) b)).take x++[.int .i64 (c+1:Nat)]++(Ag (C6 list N n (50 * k+j) b)).drop (x+1)=Ag ((C6 list N n (50 * k+j) b).set x (c+1)):=by
   rw [De _ _ _ (by rw [Bi];omega),Ik]
  rw [Yo,e1] at hH3
  have hH4:Heap w [] w10 (Yf 114 1 (some ⟨gW,0,none⟩) many many (Br vs n)::Yf 114 1 (some ⟨gT,0,none⟩) many many (Br us n)::Yf 3 1 (some ⟨gP,0,none⟩) gN gN (Ag (N.take (k+1)++P.drop (k+1)))::Ya gp 120 (Ai (some ⟨gT,0,none⟩) many many (some ⟨gP,0,none⟩) gN gN)::Ya gr 120 (Ai none 0 0 none 0 0)::Ya gl 114 [.slice (some p) nl lc]::(Bp us n T++Bp vs n (Ee list N many n (50 * k+j+1)))):=by
   rw [hcs,<- hset];exact hH3
  clear hH3;clear hH hcW hcx hcell;apply hK;clear hK;refine Ao ?_;refine VS [1,2,4,6,8,11,12,15,78,95,96,121,122,123] ?_;refine Ah ?_;refine Qs ?_;exact ⟨nc - (j+1),by omega,j+1,rfl,hH4,by omega,rfl⟩
 have hj2:j=nc:=by omega
 rw [hj2,hmm] at hH;refine As rfl ?_;refine S3 [1,2,4,6,8,11,12,78,95,96] ?_;refine Qs ?_;exact out _ hH
set_option maxHeartbeats 4000000
theorem Qlo {F:Value->World->Prop}{kk:List It}{list N P:List Nat}{T:List (List Nat)}{us vs:List (Option Addr×Nat)}{n many gN nl lc gl gr gT gP gp gW r:Nat}{p:Addr}{w w5:World} (h1:3<=n) (h2:n<=258) (t1:2<=many) (t2:many<=6) (h3:1<=nl) (h4:nl<=1638350) (hnl:list.length=nl) (h5:∀ s∈list,s < n) (hps:p.spot=none) (hlc:nl<=lc) (hr:RS w (some p) nl 1 (Ag list)) (hgN:Do nl=gN)
  (hNk:∀ k,k < gN->N.getD k 0=Mb (fun t=>Ma (T.getD t []) (Dz list k)) (many - 1)) (hNl:N.length=gN) (hPl:P.length=gN) (hTg:∀ t,t < many->T[t]? = some (T.getD t [])/\(T.getD t []).length=n/\∀ x∈T.getD t [],x<=20) (hus:us.length=many) (hvs:vs.length=many) (hRl:(Bp us n T).length=many)
  (hH:Heap w [] w5 (Yf 114 1 (some ⟨gW,0,none⟩) many many (Br vs n)::Yf 114 1 (some ⟨gT,0,none⟩) many many (Br us n)::Yf 3 1 (some ⟨gP,0,none⟩) gN gN (Ag P)::Ya gp 120 (Ai (some ⟨gT,0,none⟩) many many (some ⟨gP,0,none⟩) gN gN)::Ya gr 120 (Ai none 0 0 none 0 0)::Ya gl 114 [.slice (some p) nl lc]::(Bp us n T++Bp vs n (Ee list N many n 0))))
  (out:∀ w',Heap w [] w' (Yf 114 1 (some ⟨gW,0,none⟩) many many (Br vs n)::Yf 114 1 (some ⟨gT,0,none⟩) many many (Br us n)::Yf 3 1 (some ⟨gP,0,none⟩) gN gN (Ag N)::Ya gp 120 (Ai (some ⟨gT,0,none⟩) many many (some ⟨gP,0,none⟩) gN gN)::Ya gr 120 (Ai none 0 0 none 0 0)::Ya gl 114 [.slice (some p) nl lc]::(Bp us n T++Bp vs n (Ee list N many n nl)))->VC ⟨Yj,Y9,F,158⟩ kk [(1,.int .i64 n),(2,.pointer (some ⟨gl,0,none⟩)),(4,.pointer (some ⟨gr,0,none⟩)),(6,.int .i64 many),(8,.pointer (some ⟨gp,0,none⟩)),(11,Kt gl gp),(12,.slice (some ⟨gW,0,none⟩) many many),(78,.int .i64 r)] w') :
  VC ⟨Yj,Y9,F,158⟩ (.code (Mw [1,1,1,1,1,1,0,1,0,0,1,1,0,0,1,1,0,1] Y9)::kk) [(1,.int .i64 n),(2,.pointer (some ⟨gl,0,none⟩)),(4,.pointer (some ⟨gr,0,none⟩)),(6,.int .i64 many),(8,.pointer (some ⟨gp,0,none⟩)),(11,Kt gl gp),(12,.slice (some ⟨gW,0,none⟩) many many),(78,.int .i64 r),(95,.int .i64 gN),(96,.int .i64 0)] w5:=by
 conv in (Mw _ _)=>whnf
 obtain ⟨g1,g2,g3⟩:1<=gN/\gN<=32767/\nl<=50 * gN:=by rw [<- hgN];exact Tz h3 h4
 refine Ar ?_;refine Au [1,2,4,6,8,11,12,78,95,96] (fun m e w'=>∃ (k:Nat),Is e [(1,.int .i64 n),(2,.pointer (some ⟨gl,0,none⟩)),(4,.pointer (some ⟨gr,0,none⟩)),(6,.int .i64 many),(8,.pointer (some ⟨gp,0,none⟩)),(11,Kt gl gp),(12,.slice (some ⟨gW,0,none⟩) many many),(78,.int .i64 r),(95,.int .i64 gN),(96,.int .i64 k)]/\Heap w [] w' (Yf 114 1 (some ⟨gW,0,none⟩) many many (Br vs n)::Yf 114 1 (some ⟨gT,0,none⟩) many many (Br us n)::Yf 3 1 (some ⟨gP,0,none⟩) gN gN (Ag (N.take k++P.drop k))::Ya gp 120 (Ai (some ⟨gT,0,none⟩) many many (some ⟨gP,0,none⟩) gN gN)::Ya gr 120 (Ai none 0 0 none 0 0)::Ya gl 114 [.slice (some p) nl lc]::(Bp us n T++Bp vs n (Ee list N many n (min (50 * k) nl))))/\k<=gN/\m=gN - k) gN ?_ ?_
 ·
  refine Qs ?_;exact ⟨0,rfl,by simpa using hH,by omega,rfl⟩
 clear hH;rintro m e w7 ⟨k,rfl,hH,hk,rfl⟩;refine VS [1,2,4,6,8,11,12,78,95,96,97] ?_;(repeat with_reducible refine Ay ?_);refine VD (fun h=>?_) (fun h=>?_)
 ·
  have hkl:50 * k < nl:=by unfold Do at hgN;omega
  rw [Nat.min_eq_left (by omega)] at hH;have hbest:=hNk k (by omega);have c1:w7.cell? ⟨gl,0,none⟩=some (.slice (some p) nl lc):=Aj (hH.at 5 rfl) rfl;have c2:w7.cell? ⟨gp,0,none⟩=some (.slice (some ⟨gT,0,none⟩) many many):=Aj (hH.at 3 rfl) rfl
  have hcost:∀ t,t < many->Does Yj 141 #[.int .i64 t,.int .i64 k,.pointer (some ⟨gl,0,none⟩),.pointer (some ⟨gp,0,none⟩)] w7 fun v w'=>w'=w7/\v=.int .i64 (Ma (T.getD t []) (Dz list k):Nat):=fun t ht=>by
   obtain ⟨g1,g2,g3⟩:=hTg t ht;have hut:=getD_some (none,0) (show t < us.length by omega);have hr2:=hH.rs' hr;have hrow:=Az (hH.at (t+6) (show _=some (Yf 3 1 (us.getD t (none,0)).1 n (us.getD t (none,0)).2 (Ag (T.getD t []))) from Qtx hut g1));rw [<- hnl] at hr2 c1 hkl h4;exact Qwd list (T.getD t []) n k t (by omega) (by omega) h5 g2 (fun x hx=>by have:=g3 x hx;omega) p hps lc (by omega) gl gp gT many many ht t2 _ _ w7 c1 c2 (Cm (hH.at 1 rfl) (W3 n hut)) hr2 hrow
  refine Ab ?_
  ((repeat with_reducible refine Ay ?_);(first | refine Ar ?_ | refine VB ?_))
  refine VS [1,2,4,6,8,11,12,14,78,95,96] ?_;refine VS [1,2,4,6,8,11,12,14,15,78,95,96] ?_;refine Ay ?_;refine Ay ?_;refine Qi8 [1,2,4,6,8,11,12,14,15,16,78,95,96] rfl fun K hK=>?_;refine Qs ?_;apply hK;clear hK;generalize hcf:(fun t=>Ma (T.getD t []) (Dz list k))=cf at *;have hcost2:∀ t,t < many->Does Yj 141 #[.int .i64 t,.int .i64 k,.pointer (some ⟨gl,0,none⟩),.pointer (some ⟨gp,0,none⟩)] w7 fun v w'=>w'=w7/\v=.int .i64 (cf t:Nat):=fun t ht=>by rw [<- hcf];exact hcost t ht
  clear hcost;refine Qn6 t1 t2 hcost2 ?_;rw [<- hbest];have hbm:N.getD k 0 < many:=by rw [hbest];exact Nat.lt_of_le_of_lt (Zz _ _) (by omega)
  have hNk2:N.take (k+1)=N.take k++[N.getD k 0]:=Mo 0 (by omega);have hPs:=Qbw (A:=N.take k) (B:=P) (k:=k) (N.getD k 0) (by rw [Yu];omega) (by omega);rw [<- hNk2] at hPs;have hPl2:(N.take k++P.drop k).length=gN:=by simp;omega
  have hgr:=Qhb list k (by omega) (by omega) p lc (by omega);have hgrs:=Qpk (l:=list) (p:=p) (k:=k) (w:=w) (by rw [hnl];exact hr) hps (by omega);have hcl:(Dz list k).length=min 50 (nl - 50 * k):=by simp [Dz,hnl]
  have hcg:∀ j,j < (Dz list k).length->(Dz list k).getD j 0=list.getD (50 * k+j) 0:=fun j hj=>by
   unfold Dz at hj ⊢;rw [Yp,List.getElem?_take_of_lt (by rw [Yu] at hj;omega),Uf,<- Yp]
  have hmm:50 * k+(Dz list k).length=min (50 * (k+1)) nl:=by omega
  generalize hch:Dz list k=ch at *;generalize hnc:ch.length=nc at *;rw [hnl] at hgr;generalize hb:N.getD k 0=b at *;refine VQ [1,2,4,6,8,11,12,14,15,78,95,96] fun K hK=>?_;refine ⟨_,Aj (hH.at 3 rfl) (show (Ai (some ⟨gT,0,none⟩) many many (some ⟨gP,0,none⟩) gN gN)[1]? = some _ from rfl),?_⟩;refine Qs ?_;refine Qp ?_;refine Af ?_;refine Qs ?_;refine Eg hH 2 (o:=(k)) (vs:=[.int .i64 (b:Nat)]) rfl (by first | exact (Bz _ _ _).symm | rfl | simp [Bz]) rfl (by kernel_rfl) (by first | omega | (simp;done) | (simp;omega) | (simp [An,Bb];omega) | (rw [Bi];simp;omega)) (by simp [Yg]) fun w6 hH2=>?_;(try refine Qs ?_);simp only [Yo,De (Ag (N.take k++P.drop k)) _ _ (show k < (Ag (N.take k++P.drop k)).length by rw [Bi];omega),Ik,Yc,Yh,hPs] at hH2;clear hH c1 c2;apply hK;clear hK;refine VQ [1,2,4,6,8,11,12,15,78,95,96,121,122,123] fun K hK=>?_;refine ⟨_,Aj (hH2.at 5 rfl) rfl,?_⟩;refine Ac Tryz.call142 ?_;refine Qs ?_;refine Yi (hgr w6) ?_;rintro v w8 ⟨rfl,rfl⟩;refine Qs ?_;apply hK;clear hK;generalize hpk:p.add (50 * k)=pk at *;refine Qln (us:=us) (vs:=vs) (T:=T) (P:=P) h1 h2 t1 t2 h4 hnl h5 hkl hnc hcl hmm hb hbm hus hvs hRl hcg hgrs hH2 fun w9 hH=>?_;refine Ao ?_;refine VS [1,2,4,6,8,11,12,78,95,96] ?_;refine Ah ?_;refine Qs ?_;exact ⟨gN - (k+1),by omega,k+1,rfl,hH,by omega,rfl⟩
 have hk2:k=gN:=by omega
 rw [hk2,Xf (by omega),Uu (by omega),Yr,Nat.min_eq_right (by omega)] at hH;clear h hk hk2;refine As rfl ?_;refine S3 [1,2,4,6,8,11,12,78] ?_;refine Qs ?_;exact out _ hH
set_option maxHeartbeats 4000000
theorem Qn7 {F:Value->World->Prop}{kk:List It}{list N:List Nat}{us vs:List (Option Addr×Nat)}{n many gN nl lc gl gr gT gP gp gW r:Nat}{p:Addr}{w w5:World}{X':List (List Nat)×List Nat} (h1:3<=n) (h2:n<=258) (t1:2<=many) (t2:many<=6) (h3:1<=nl) (h4:nl<=1638350) (hnl:list.length=nl) (hTx':∀ t∈X'.1,t.length=n/\∀ x∈t,x<=20) (hTl':X'.1.length=many) (hX2:X'.2=N) (hus:us.length=many) (hvl:vs.length=many)
  (hWl:(Ee list N many n nl).length=many) (hnew:∀ t,t < many->X'.1[t]? = some (Iv (C6 list N n nl t) 17))
  (hH2:Heap w [] w5 (Yf 114 1 (some ⟨gW,0,none⟩) many many (Br vs n)::Yf 114 1 (some ⟨gT,0,none⟩) many many (Br us n)::Yf 3 1 (some ⟨gP,0,none⟩) gN gN (Ag N)::Ya gp 120 (Ai (some ⟨gT,0,none⟩) many many (some ⟨gP,0,none⟩) gN gN)::Ya gr 120 (Ai none 0 0 none 0 0)::Ya gl 114 [.slice (some p) nl lc]::Bp vs n (Ee list N many n nl)))
  (out:∀ w' us,Heap w [] w' (Yf 114 1 (some ⟨gT,0,none⟩) many many (Br us n)::Yf 3 1 (some ⟨gP,0,none⟩) gN gN (Ag X'.2)::Ya gp 120 (Ai (some ⟨gT,0,none⟩) many many (some ⟨gP,0,none⟩) gN gN)::Ya gr 120 (Ai none 0 0 none 0 0)::Ya gl 114 [.slice (some p) nl lc]::Bp us n X'.1)->us.length=many->VC ⟨Yj,Y9,F,158⟩ kk [(1,.int .i64 n),(2,.pointer (some ⟨gl,0,none⟩)),(4,.pointer (some ⟨gr,0,none⟩)),(6,.int .i64 many),(8,.pointer (some ⟨gp,0,none⟩)),(11,Kt gl gp),(12,.slice (some ⟨gW,0,none⟩) many many),(78,.int .i64 r)] w') :
  VC ⟨Yj,Y9,F,158⟩ (.code (Mw [1,1,1,1,1,1,0,1,0,0,1,1,0,0,1,1,1,1] Y9)::kk) [(1,.int .i64 n),(2,.pointer (some ⟨gl,0,none⟩)),(4,.pointer (some ⟨gr,0,none⟩)),(6,.int .i64 many),(8,.pointer (some ⟨gp,0,none⟩)),(11,Kt gl gp),(12,.slice (some ⟨gW,0,none⟩) many many),(78,.int .i64 r),(139,.int .i64 many),(140,.int .i64 0)] w5:=by
 conv in (Mw _ _)=>whnf
 refine Ar ?_;refine Au [1,2,4,6,8,11,12,78,139,140] (fun m e w'=>∃ (t:Nat) (u2:List (Option Addr×Nat)),Is e [(1,.int .i64 n),(2,.pointer (some ⟨gl,0,none⟩)),(4,.pointer (some ⟨gr,0,none⟩)),(6,.int .i64 many),(8,.pointer (some ⟨gp,0,none⟩)),(11,Kt gl gp),(12,.slice (some ⟨gW,0,none⟩) many many),(78,.int .i64 r),(139,.int .i64 many),(140,.int .i64 t)]/\Heap w [] w' (Yf 114 1 (some ⟨gW,0,none⟩) many many (Br vs n)::Yf 114 1 (some ⟨gT,0,none⟩) many many (Br (u2++us.drop t) n)::Yf 3 1 (some ⟨gP,0,none⟩) gN gN (Ag N)::Ya gp 120 (Ai (some ⟨gT,0,none⟩) many many (some ⟨gP,0,none⟩) gN gN)::Ya gr 120 (Ai none 0 0 none 0 0)::Ya gl 114 [.slice (some p) nl lc]::(Bp vs n (Ee list N many n nl)++Bp u2 n (X'.1.take t)))/\u2.length=t/\t<=many/\m=many - t) many ?_ ?_
 ·
  refine Qs ?_;exact ⟨0,[],rfl,by simpa [Bp] using hH2,rfl,by omega,rfl⟩
 clear hH2;rintro m e w8 ⟨t,u2,rfl,hH,hu2,ht,rfl⟩;refine VS [1,2,4,6,8,11,12,78,139,140,141] ?_;(repeat with_reducible refine Ay ?_);refine VD (fun h=>?_) (fun h=>?_)
 ·
  obtain ⟨⟨av,cv⟩,hvt⟩:∃ hv,vs[t]? = some hv:=⟨_,Yl (by omega)⟩
  have hWt:(Ee list N many n nl)[t]? = some (C6 list N n nl t):=by
   unfold Ee;rw [Yx,Y0 (show t < many by omega)];rfl
  have hrw:=Az (hH.at (t+6) (show _=some (Yf 3 1 av n cv (Ag (C6 list N n nl t))) from Qtx hvt hWt));have hcl:=Rd list N n nl t;have hmk:=Qvy (C6 list N n nl t) 17 (by omega) (by omega) (fun x hx=>by have:=Qtw x hx;omega) (by omega) (by omega) av cv w8;rw [hcl] at hmk;have hnt:=hnew t (by omega);have hln:=(hTx' _ (Xd hnt)).1;have htk:X'.1.take (t+1)=X'.1.take t++[Iv (C6 list N n nl t) 17]:=by rw [Uk,hnt];rfl
  generalize Iv (C6 list N n nl t) 17=L at *;rw [hln] at hmk;have hF:=hH.focus 1 rfl;have c0:=hH.hole_at 1 3 rfl rfl (by omega) (show (Ai (some ⟨gT,0,none⟩) many many (some ⟨gP,0,none⟩) gN gN)[0]? = some _ from rfl);have cW:=Heap.hole_row hH 1 0 rfl rfl (by omega) (W3 n hvt);have hAl:(Br (u2++us.drop t) n).length=many:=by rw [Sa];simp;omega
  refine Ab ?_
  ((repeat with_reducible refine Ay ?_);(first | refine Ar ?_ | refine VB ?_))
  refine VS [1,2,4,6,8,11,12,19,78,139,140] ?_;refine VH (holes [gT] w8) (Ext.hole _ _) [1,2,4,6,8,11,12,78,139,140] [(0,true),(1,true),(2,true),(3,true),(4,true),(5,true),(6,true),(7,false),(8,true),(9,true),(10,true),(11,true),(12,false)] fun K hK=>?_;refine ⟨_,c0,?_⟩;refine ⟨⟨by omega,by omega⟩,_,cW,?_⟩;refine Qs ?_;refine Ac Tryz.call143 ?_;refine Qs ?_;refine Yi (hmk hrw) ?_;rintro v w9 ⟨aL,cL,hHL,rfl⟩;have hF2:=hF.call0 hHL;simp only [Y2] at hF2;refine ⟨hF2.upd.extH,?_⟩;refine Qp ?_;refine Af ?_;refine Qs ?_;refine Eg hF2 1 (o:=t) (vs:=[.slice aL n cL]) rfl (by simp [Bz]) rfl (by kernel_rfl) (by simp only [Yo];omega) (by simp [Yg]) fun w10 hF3=>?_
  have e1:(Br (u2++us.drop t) n).take t++[.slice aL n cL]++(Br (u2++us.drop t) n).drop (t+1)=Br ((u2++[(aL,cL)])++us.drop (t+1)) n:=by
   rw [De _ _ _ (by omega),Qn3,Qbw _ hu2 (by omega)]
  rw [Yo,e1] at hF3;simp only [Yc,Yh] at hF3;refine ⟨hF3.upd.extH,?_⟩;apply hK;clear hK;have hH3:=hH.call1 1 rfl (hF3.perm (.swap _ _ _));simp only [Yc,Yh,Y2] at hH3;have hH4:=hH3.perm (Xr _ _).symm;simp only [Yq,Ys] at hH4;rw [Qck n (by rw [Yu];omega) _ _ _,<- htk] at hH4;clear hH hF hF2 hF3 hH3 c0 cW hHL;refine Ao ?_;refine VS [1,2,4,6,8,11,12,78,139,140] ?_;refine Ah ?_;refine Qs ?_;have e2:u2++(aL,cL)::([]++us.drop (t+1))=(u2++[(aL,cL)])++us.drop (t+1):=by simp
  rw [e2] at hH4;exact ⟨many - (t+1),by omega,t+1,u2++[(aL,cL)],rfl,hH4,by simp [hu2],by omega,rfl⟩
 have ht2:t=many:=by omega
 rw [ht2,Uu (by omega),Yr,Xf (by omega),<- hX2] at hH;rw [ht2] at hu2;have hH2:=hH.sub (.cons _ (.cons_cons _ (.cons_cons _ (.cons_cons _ (.cons_cons _ (.cons_cons _ (Xu _ _)))))));clear hH;refine As rfl ?_;refine S3 [1,2,4,6,8,11,12,78] ?_;refine Qs ?_;exact out _ _ hH2 hu2
set_option maxHeartbeats 4000000
theorem Qn8 (list:List Nat) (n:Nat) (hm:Nd list n) (p:Addr) (hps:p.spot=none) (lc:Nat) (hlc:list.length<=lc) (w:World) (hr:RS w (some p) list.length 1 (Ag list)) :
  Does Yj 101 #[.slice (some p) list.length lc,.int .i64 n] w fun x w'=>∃ v G,Heap w [] w' G/\QAp G v (Kp list n).1 (Kp list n).2/\x=.tuple #[v,.int .i64 0]:=by
 have hml:=Qc8 list n hm (some p) lc;have hround:=Qzo hm (Ko list.length);have hchS:Kp list n=Ec list n (Ko list.length) 4:=rfl;rw [hchS];have hm0:=hm;obtain ⟨h1,h2,h3,h4,h5⟩:=hm;have hg1:=(Tz h3 h4);obtain ⟨t1,t2⟩:=Qgz list.length;have htd:=fun w=>Qn0 list.length h3 (by omega) w;have hgd:=fun w=>Qal list.length (by omega) w;generalize hmany:Ko list.length=many at *;generalize hgN:Do list.length=gN at *;refine En [.slice (some p) list.length lc,.int .i64 n] 158 Tryz.func101 ?_;generalize hnl:list.length=nl at *;refine VQ [1,2,4] fun K hK=>?_;refine Dx ?_;refine Qs ?_;have hH:=(Xe w).box 114 [.slice (some p) nl lc];generalize w.alloc (Yn [Y8 (some p) nl lc].toArray 114)=w1 at *;generalize w.heap.size=gl at *;refine A7 (.agg #[.slice none 0 0,.slice none 0 0]) (by kernel_rfl) ?_;refine Qs ?_;have hH1:=hH.box 120 (Ai none 0 0 none 0 0);have hpl:[Y8 none 0 0,Y8 none 0 0]=Ai none 0 0 none 0 0:=rfl;rw [hpl];generalize w1.alloc (Yn (Ai none 0 0 none 0 0).toArray 120)=w2 at *;generalize w1.heap.size=gr at *;clear hH;apply hK;clear hK;refine VQ [1,2,4,23] fun K hK=>?_;refine ⟨_,Aj (hH1.at 1 rfl) rfl,?_⟩;refine Ac Tryz.call139 ?_;refine Qs ?_;refine Yi (hml w2 (hH1.rs' hr)) ?_;rintro v w3 ⟨rfl,rfl⟩;refine Qs ?_;apply hK;clear hK;refine Ae rfl rfl (fun h=>by simp at h) (fun h=>Ab ?_);clear h;refine VQ [1,2,4,6] fun K hK=>?_;refine ⟨_,Aj (hH1.at 1 rfl) rfl,?_⟩;refine Qs ?_;refine Ac Tryz.call140 ?_;refine Qs ?_;refine Yi (htd w3) ?_;rintro v w4 ⟨rfl,rfl⟩;apply hK;clear hK;generalize w4=w2 at *;clear hml htd;refine V3 w2 (Ext.refl _) [1,2,4,6,8] (.three [(0,true),(2,true),(3,true)] 1 4 7 (.two [] 4 7 (.two [] 5 7 (.seq [(6,true),(7,false),(8,false)]) (.seq [(5,false),(6,true),(8,false)])) (.seq [(4,false),(5,false),(6,true),(8,false)])) (.three [] 1 5 7 (.two [] 5 7 (.seq [(6,true),(7,false),(8,false)]) (.seq [(5,false),(6,true),(8,false)])) (.two [] 1 7 (.seq [(6,true),(7,false),(8,false)]) (.seq [(1,false),(6,true),(8,false)])) (.two [] 1 5 (.seq [(5,false),(6,true),(8,false)]) (.seq [(1,false),(6,true),(8,false)]))) (.two [] 1 4 (.seq [(4,false),(5,false),(6,true),(8,false)]) (.two [] 1 5 (.seq [(5,false),(6,true),(8,false)]) (.seq [(1,false),(6,true),(8,false)])))) fun K hK=>?_
 suffices out:∀ gT gP gp w3,Heap w2 [] w3 [Yf 114 1 (some ⟨gT,0,none⟩) many many (Yd many zS),Yf 3 1 (some ⟨gP,0,none⟩) gN gN (Ag (Yd gN 0)),Ya gp 120 (Ai (some ⟨gT,0,none⟩) many many (some ⟨gP,0,none⟩) gN gN)]->K [(1,.int .i64 n),(2,.pointer (some ⟨gl,0,none⟩)),(4,.pointer (some ⟨gr,0,none⟩)),(6,.int .i64 many),(8,.pointer (some ⟨gp,0,none⟩))] w3 by
  simp only [Np,Be,List.filterMap_cons,List.filterMap_nil,List.getElem?_cons_succ,List.getElem?_cons_zero,Option.map_some];refine Qs ?_;refine ⟨_,Aj (hH1.at 1 rfl) rfl,?_⟩;refine Qs ?_;have hX:=Xe w2
  repeat' (first
   | (refine Ac Tryz.call108 ?_;refine Qs ?_;refine Yi (hgd _) ?_;rintro v w9 ⟨rfl,rfl⟩;skip;refine ⟨hX.ext,?_⟩;skip)
   | (refine Ew Gf QAm ?_;refine Qs ?_;refine ⟨many,many,⟨rfl,rfl,by omega,by omega,by omega⟩,?_⟩;have hX:=Qj8 hX many (by omega);skip;refine ⟨hX.ext,?_⟩;skip)
   | (refine Ew Ud E0 ?_;refine Qs ?_;refine ⟨gN,gN,⟨rfl,rfl,by omega,by omega,by omega⟩,?_⟩;have hX:=Ql8 hX gN (by omega);skip;refine ⟨hX.ext,?_⟩;skip)
   | (refine A7 (.agg #[.slice none 0 0,.slice none 0 0]) (by kernel_rfl) ?_;refine Qs ?_;have hX:=hX.box 120 (Ai none 0 0 none 0 0);skip;refine ⟨hX.ext,?_⟩;skip)
   | (refine Af ?_;refine Qs ?_;first
     | (refine Al hX 0 (vs:=Ai _ many many _ gN gN) rfl rfl (by kernel_rfl) (by simp [Ai]) (Fy _ _ _ _ _ _) fun w6 hX=>?_;simp only [Yc,Yh] at hX;skip;refine ⟨hX.ext,?_⟩;skip)
     | (refine Al hX 1 (vs:=Ai _ many many _ gN gN) rfl rfl (by kernel_rfl) (by simp [Ai]) (Fy _ _ _ _ _ _) fun w6 hX=>?_;simp only [Yc,Yh] at hX;skip;refine ⟨hX.ext,?_⟩;skip)
     | (refine Al hX 2 (vs:=Ai _ many many _ gN gN) rfl rfl (by kernel_rfl) (by simp [Ai]) (Fy _ _ _ _ _ _) fun w6 hX=>?_;simp only [Yc,Yh] at hX;skip;refine ⟨hX.ext,?_⟩;skip))
   | (simp only [vcH_nil];(try refine Qs ?_))
   | refine And.intro ?_ ?_)
  all_goals first
   | exact out _ _ _ _ hX
   | exact out _ _ _ _ (hX.front 1 rfl)
   | exact out _ _ _ _ (hX.front 2 rfl)
   | exact out _ _ _ _ ((hX.front 1 rfl).front 2 rfl)
   | exact out _ _ _ _ ((hX.front 2 rfl).front 2 rfl)
   | exact out _ _ _ _ ((hX.front 2 rfl).front 1 rfl)
 intro gT gP gp w3 hX;have hH2:=hH1.call0 hX;simp only [Yq,Ye] at hH2;clear hX hH1;apply hK;clear hK;refine VQ [1,2,4,6,8,40,41] fun K hK=>?_;refine ⟨_,Aj (hH2.at 2 rfl) (show (Ai (some ⟨gT,0,none⟩) many many (some ⟨gP,0,none⟩) gN gN)[0]? = some _ from rfl),?_⟩;refine Qs ?_;apply hK;clear hK;refine Qlm h1 h2 t1 t2 hH2 fun w4 us hH hus=>?_;refine VS [1,2,4,6,8,11] ?_;refine VS [1,2,4,6,8,11,78] ?_;refine Ar ?_;refine Au [1,2,4,6,8,11,78] (fun m e w'=>∃ (r:Nat) (us:List (Option Addr×Nat)),Is e [(1,.int .i64 n),(2,.pointer (some ⟨gl,0,none⟩)),(4,.pointer (some ⟨gr,0,none⟩)),(6,.int .i64 many),(8,.pointer (some ⟨gp,0,none⟩)),(11,Kt gl gp),(78,.int .i64 r)]/\Heap w [] w' (Yf 114 1 (some ⟨gT,0,none⟩) many many (Br us n)::Yf 3 1 (some ⟨gP,0,none⟩) gN gN (Ag (Ec list n many r).2)::Ya gp 120 (Ai (some ⟨gT,0,none⟩) many many (some ⟨gP,0,none⟩) gN gN)::Ya gr 120 (Ai none 0 0 none 0 0)::Ya gl 114 [.slice (some p) nl lc]::Bp us n (Ec list n many r).1)/\us.length=many/\r<=4/\m=4 - r) 4 ?_ ?_
 ·
  refine Qs ?_;have e0:Ec list n many 0=(L7 n many,Yd gN 0):=by rw [Ec,hnl,hgN]
  exact ⟨0,us,rfl,by rw [e0];exact hH,hus,by omega,rfl⟩
 clear hH hus us w4;rintro m e w4 ⟨r,us,rfl,hH,hus,hr4,rfl⟩;refine VS [1,2,4,6,8,11,78,79] ?_;(repeat with_reducible refine Ay ?_);refine VD (fun h=>?_) (fun h=>?_)
 ·
  obtain ⟨hTl,hTx,hPl⟩:=hround r;obtain ⟨hTl',hTx',hPl'⟩:=hround (r+1)
  have hstep:Ec list n many (r+1)=((Y1 many).map fun t=>Iv (C6 list (F2 list many (Ec list n many r).1) n nl t) 17,F2 list many (Ec list n many r).1):=by
   rw [Ec];unfold Lj;simp only [Qsa,hnl]
  generalize hXX:Ec list n many (r+1)=X' at *;generalize (Ec list n many r).2=P at *;generalize (Ec list n many r).1=T at *
  have hNk:∀ k,k < gN->(F2 list many T).getD k 0=Mb (fun t=>Ma (T.getD t []) (Dz list k)) (many - 1):=fun k hk=>by
   unfold F2;rw [Vd _ _ _ _ (by rw [hnl,hgN];exact hk)]
  have hNl:(F2 list many T).length=gN:=by unfold F2;simp [hnl,hgN]
  have hX1:X'.1=(Y1 many).map fun t=>Iv (C6 list (F2 list many T) n nl t) 17:=by rw [hstep]
  have hX2:X'.2=F2 list many T:=by rw [hstep]
  generalize F2 list many T=N at *
  have hTg:∀ t,t < many->T[t]? = some (T.getD t [])/\(T.getD t []).length=n/\∀ x∈T.getD t [],x<=20:=fun t ht=>by
   have h:=getD_some [] (show t < T.length by omega);exact ⟨h,hTx _ (Xd h)⟩
  have hRl:(Bp us n T).length=many:=by rw [Qwb (by omega),hTl]
  refine Ab ?_
  ((repeat with_reducible refine Ay ?_);(first | refine Ar ?_ | refine VB ?_))
  refine VQ [1,2,4,6,8,11,12,78] fun K hK=>?_;refine Ew Gf QAm ?_;refine Qs ?_;refine ⟨many,many,⟨rfl,rfl,by omega,by omega,by omega⟩,?_⟩;have hH2:=Qj8 hH many (by omega);generalize w4.alloc (Yn (Yd many (Y8 none 0 0)).toArray 114)=w5 at *;generalize w4.heap.size=gW at *;clear hH;apply hK;clear hK;refine VS [1,2,4,6,8,11,12,78,83,84] ?_;refine Qf8 (list:=list) (N:=N) h1 h2 t1 t2 hus hTl hH2 fun w6 vs hH hvs=>?_;refine VQ [1,2,4,6,8,11,12,78,95,96] fun K hK=>?_;refine ⟨_,Aj (hH.at 3 rfl) (show (Ai (some ⟨gT,0,none⟩) many many (some ⟨gP,0,none⟩) gN gN)[1]? = some _ from rfl),?_⟩;refine Qs ?_;apply hK;clear hK;refine Qlo (list:=list) (N:=N) (P:=P) (T:=T) (us:=us) (vs:=vs) h1 h2 t1 t2 h3 h4 hnl h5 hps hlc hr hgN hNk hNl hPl hTg hus hvs hRl hH fun w7 hH=>?_;have hvl:vs.length=many:=hvs;have hH2:Heap w [] w7 (Yf 114 1 (some ⟨gW,0,none⟩) many many (Br vs n)::Yf 114 1 (some ⟨gT,0,none⟩) many many (Br us n)::Yf 3 1 (some ⟨gP,0,none⟩) gN gN (Ag N)::Ya gp 120 (Ai (some ⟨gT,0,none⟩) many many (some ⟨gP,0,none⟩) gN gN)::Ya gr 120 (Ai none 0 0 none 0 0)::Ya gl 114 [.slice (some p) nl lc]::Bp vs n (Ee list N many n nl)):=hH.sub (.cons_cons _ (.cons_cons _ (.cons_cons _ (.cons_cons _ (.cons_cons _ (.cons_cons _ (Xu _ _)))))));clear hH;have hWl:=Qv9 list N many n nl
  have hnew:∀ t,t < many->X'.1[t]? = some (Iv (C6 list N n nl t) 17):=fun t ht=>by
   rw [hX1,Yx,Y0 ht];rfl
  refine VS [1,2,4,6,8,11,12,78,139,140] ?_;refine Qn7 (list:=list) (N:=N) h1 h2 t1 t2 h3 h4 hnl hTx' hTl' hX2 hus hvl hWl hnew hH2 fun w8 u2 hH2 hu2=>?_;refine Ao ?_;refine VS [1,2,4,6,8,11,78] ?_;refine Ah ?_;refine Qs ?_;exact ⟨4 - (r+1),by omega,r+1,u2,rfl,by rw [hXX];exact hH2,hu2,by omega,rfl⟩
 have hr2:r=4:=by omega
 obtain ⟨hTl,hTx,hPl⟩:=hround 4;rw [hr2] at hH;generalize (Ec list n many 4).1=T at *;generalize (Ec list n many 4).2=P at *;refine As rfl ?_;refine VQ [4,5] fun K hK=>?_;refine ⟨Ai (some ⟨gT,0,none⟩) many many (some ⟨gP,0,none⟩) gN gN,⟨rfl,B6 (hH.at 2 rfl)⟩,?_⟩;refine Af ?_;refine Qs ?_;refine Al hH 3 (vs:=Ai (some ⟨gT,0,none⟩) many many (some ⟨gP,0,none⟩) gN gN) rfl rfl (by kernel_rfl) (by simp [Ai]) (Fy _ _ _ _ _ _) fun w10 hH6=>?_;simp only [Yc,Yh] at hH6;apply hK;clear hK;refine Ad (I1 rfl rfl rfl (Cv (hH6.at 3 rfl) (by kernel_rfl) (by kernel_rfl) rfl ?_));refine ⟨_,_,hH6.sub (.cons_cons _ (.cons_cons _ (.cons _ (.cons _ (.cons _ (.refl _)))))),fun w' hh=>Qd3 rfl hTl hPl hus (by rw [Qsb (by omega) (fun t ht=>(hTx t ht).1)];exact Az (hh _ (Xd (i:=0) rfl))) (Az (hh _ (Xd (i:=1) rfl))) (fun i h t h6 h7=>?_),rfl⟩;rw [(hTx t (Xd h7)).1];exact Az (hh _ (Xd (i:=i+2) (show _=some (Yf 3 1 h.1 n h.2 (Ag t)) from Qd5 n h6 h7)))
theorem Qty {list:List Nat}{x:List (List Nat)×List Nat} (h1:Nq x.1 x.2) (h2:list.length<=1638350):Ir x list<=1000000000000:=by
 obtain ⟨m1,m2,m3,m4,m5,m6⟩:=h1;have hFl:=Zi (T:=x.1) (P:=x.2) (c:=20) (fun t ht y hy=>((m5 t ht).2.2.2.2.1 y hy).2) list 0;have hpl:=Qbf x.2 (Y1 x.1.length) (fun k hk=>by simpa using m6 k hk);have hpl2:x.2.length * (Y1 x.1.length).length<=32767 * 6:=Nat.mul_le_mul m4 (by simpa using m2)
 have h3:∀ Q:List (List Nat),(∀ t∈Q,E8 t)->(Q.flatMap Da).length<=Q.length * 20000:=fun Q=>by
  induction Q with
  | nil=>intro _;simp
  | cons t Q ih =>
   intro hQ;have h2:=ih fun t ht=>hQ t (by simp [ht]);obtain ⟨o1,o2,o3,_⟩:=hQ t (by simp);have h3:=W2 t (t.getD 0 0) (o3 _ (Dm 0 (by omega))).2 fun x hx=>(o3 x hx).2;simp only [List.flatMap_cons,Yb,Yt,Nat.succ_mul,Da,Ct];omega
 have h4:=h3 x.1 fun t ht=>(m5 t ht).2.2;have hm:=U3 20 h2;have hm2:=U3 20000 m2;unfold Ir Et;simp only [Yb,Ct];omega
theorem Qwf (list:List Nat) (n:Nat) (hm:Nd list n) (p:Addr) (hps:p.spot=none) (lc:Nat) (hlc:list.length<=lc) (w:World) (hr:RS w (some p) list.length 1 (Ag list)) :
  Does Yj 62 #[.slice (some p) list.length lc,.int .i64 n] w fun x w'=>∃ v G,Heap w [] w' G/\QAp G v (E6 list n).1 (E6 list n).2/\x=.tuple #[v,.int .i64 0]:=by
 obtain ⟨hmc,hnc⟩:=Qg0 hm;obtain ⟨hmf,hnf⟩:=Qo2 hm;have hch:=Qn8 list n hm p hps lc hlc;have hfl:=Qi1 list n hm (some p) lc;have hbs:E6 list n=if Ir (E2 list n) list < Ir (Kp list n) list then E2 list n else Kp list n:=rfl
 have hgf:(E2 list n).2.length=Do list.length:=by simp [E2]
 have hgc:(Kp list n).2.length=Do list.length:=by unfold Kp;rw [Ec];simp [Lj,F2]
 obtain ⟨h1,h2,h3,h4,h5⟩:=hm;have hzc:=Qty (list:=list) (x:=Kp list n) hmc h4;have hzf:=Qty (list:=list) (x:=E2 list n) hmf h4;rw [hbs];generalize Kp list n=C at *;generalize E2 list n=F at *;obtain ⟨CT,CP⟩:=C;obtain ⟨FT,FP⟩:=F;simp only at hmc hnc hmf hnf hch hfl hgf hgc;have hsc:=fun v=>Qbv v CT CP hmc list h3 (by rw [hnc];exact h5) (by omega) hzc (some p) lc;have hsf:=fun v=>Qbv v FT FP hmf list h3 (by rw [hnf];exact h5) (by omega) hzf (some p) lc;clear hmc hmf hnc hnf hbs;refine En [.slice (some p) list.length lc,.int .i64 n] 47 Tryz.func62 ?_;generalize hnl:list.length=nl at *;refine VQ [0,1,4] fun K hK=>?_;refine A7 (.agg #[.slice none 0 0,.slice none 0 0]) (by kernel_rfl) ?_;refine Qs ?_;have hH:=(Xe w).box 120 (Ai none 0 0 none 0 0);have hpl:[Y8 none 0 0,Y8 none 0 0]=Ai none 0 0 none 0 0:=rfl;rw [hpl];generalize w.alloc (Yn (Ai none 0 0 none 0 0).toArray 120)=w1 at *;generalize w.heap.size=gr at *;apply hK;clear hK;refine VQ [0,1,4,6,7] fun K hK=>?_;refine Ac Tryz.call101 ?_;refine Qs ?_;refine Yi (hch w1 (hH.rs' hr)) ?_;rintro v w2 ⟨pv,GC,hHc,hpc,rfl⟩;have hH2:=(hH.call0 hHc).perm Xj;simp only [Y2] at hH2;obtain ⟨ta,tc,pa,pc,us,rfl,_⟩:=hpc w2 hHc.holds;have hpv:Gw #[.slice ta CT.length tc,.slice pa CP.length pc]=.agg (Ai ta CT.length tc pa CP.length pc).toArray:=rfl;rw [hpv] at hpc ⊢;clear hH hHc;refine A7 (.agg #[.slice none 0 0,.slice none 0 0]) (by kernel_rfl) ?_;refine Qs ?_;have hH3:=hH2.box 120 (Ai none 0 0 none 0 0);rw [hpl];generalize w2.alloc (Yn (Ai none 0 0 none 0 0).toArray 120)=w3 at *;generalize w2.heap.size=ga at *;refine Af ?_;refine Qs ?_;refine Al hH3 0 (vs:=Ai ta CT.length tc pa CP.length pc) rfl rfl (by kernel_rfl) (by simp [Ai]) (Fy _ _ _ _ _ _) fun w4 hH4=>?_;have hH5:Heap w [] w4 (Ya ga 120 (Ai ta CT.length tc pa CP.length pc)::Ya gr 120 (Ai none 0 0 none 0 0)::GC):=hH4;clear hH2 hH3 hH4;apply hK;clear hK;refine VS [0,1,4,6,7,21] ?_;refine Ae rfl rfl (fun h=>by simp at h) (fun h=>Ab ?_);clear h;refine VQ [0,4,6,8] fun K hK=>?_;refine Ac Tryz.call102 ?_;refine Qs ?_;refine Yi (hfl w4 (hH5.rs' hr)) ?_;rintro v w5 ⟨pv,GF,hHf,hpf,rfl⟩;have hH6:=(hH5.call0 hHf).perm Xj;simp only [Yq] at hH6;obtain ⟨fa,fc,qa,qc,us2,rfl,_⟩:=hpf w5 hHf.holds;have hpv2:Gw #[.slice fa FT.length fc,.slice qa FP.length qc]=.agg (Ai fa FT.length fc qa FP.length qc).toArray:=rfl;rw [hpv2] at hpf ⊢;clear hH5 hHf;refine A7 (.agg #[.slice none 0 0,.slice none 0 0]) (by kernel_rfl) ?_;refine Qs ?_;have hH7:=hH6.box 120 (Ai none 0 0 none 0 0);rw [hpl];generalize w5.alloc (Yn (Ai none 0 0 none 0 0).toArray 120)=w6 at *;generalize w5.heap.size=gb at *;refine Af ?_;refine Qs ?_;refine Al hH7 0 (vs:=Ai fa FT.length fc qa FP.length qc) rfl rfl (by kernel_rfl) (by simp [Ai]) (Fy _ _ _ _ _ _) fun w7 hH8=>?_;have hH9:Heap w [] w7 (Ya gb 120 (Ai fa FT.length fc qa FP.length qc)::Ya ga 120 (Ai ta CT.length tc pa CP.length pc)::Ya gr 120 (Ai none 0 0 none 0 0)::(GC++GF)):=hH8;clear hH6 hH7 hH8;apply hK;clear hK;refine VQ [0,4,6,8,10] fun K hK=>?_;refine ⟨Ai ta CT.length tc pa CP.length pc,⟨rfl,B6 (hH9.at 1 rfl)⟩,?_⟩;refine Ac Tryz.call103 ?_;refine Qs ?_;refine Yi (hsc _ w7 (hpc w7 (fun r hr=>hH9.holds r (by simp [hr]))) (hH9.rs' hr)) ?_;rintro v w8 ⟨hHs,rfl⟩;have hH10:=hH9.call0 hHs;simp only [Ye] at hH10;clear hH9 hHs;apply hK;clear hK;refine VQ [4,6,8,10,12] fun K hK=>?_;refine ⟨Ai fa FT.length fc qa FP.length qc,⟨rfl,B6 (hH10.at 0 rfl)⟩,?_⟩;refine Ac Tryz.call103 ?_;refine Qs ?_;refine Yi (hsf _ w8 (hpf w8 (fun r hr=>hH10.holds r (by simp [hr]))) (hH10.rs' hr)) ?_;rintro v w9 ⟨hHs,rfl⟩;have hH11:=hH10.call0 hHs;simp only [Ye] at hH11;clear hH10 hHs
 apply hK;clear hK;generalize Ir (FT,FP) list=sf at *;generalize Ir (CT,CP) list=sc at *;refine VS [4,6,8,44] ?_;refine VD (fun h=>?_) (fun h=>Ab ?_)
 ·
  rw [if_pos (by omega)];refine VQ [4,5] fun K hK=>?_;refine ⟨Ai fa FT.length fc qa FP.length qc,⟨rfl,B6 (hH11.at 0 rfl)⟩,?_⟩;refine Af ?_;refine Qs ?_;refine Al hH11 2 (vs:=Ai fa FT.length fc qa FP.length qc) rfl rfl (by kernel_rfl) (by simp [Ai]) (Fy _ _ _ _ _ _) fun w10 hH12=>?_;simp only [Yc,Yh] at hH12;apply hK;clear hK;refine Ad (I1 rfl rfl rfl (Cv (hH12.at 2 rfl) (by kernel_rfl) (by kernel_rfl) rfl ?_));exact ⟨_,GF,hH12.sub (.cons _ (.cons _ (.cons _ (Xu _ _)))),hpf,rfl⟩
 rw [if_neg (by omega)];refine VQ [4,5] fun K hK=>?_;refine ⟨Ai ta CT.length tc pa CP.length pc,⟨rfl,B6 (hH11.at 1 rfl)⟩,?_⟩;refine Af ?_;refine Qs ?_;refine Al hH11 2 (vs:=Ai ta CT.length tc pa CP.length pc) rfl rfl (by kernel_rfl) (by simp [Ai]) (Fy _ _ _ _ _ _) fun w10 hH12=>?_;simp only [Yc,Yh] at hH12;apply hK;clear hK;refine Ad (I1 rfl rfl rfl (Cv (hH12.at 2 rfl) (by kernel_rfl) (by kernel_rfl) rfl ?_));exact ⟨_,GC,hH12.sub (.cons _ (.cons _ (.cons _ (List.sublist_append_left _ _)))),hpc,rfl⟩
set_option maxHeartbeats 8000000
abbrev Qs3:Value:=.agg #[.string ⟨#[]⟩,.int .i64 0]
def Rn (s:List UInt8) (v:Value):Prop :=
 if s=[] then v=.tuple #[Qs3,.int .i64 2]
 else if 262144 < (enc s).length then v=.tuple #[Qs3,.int .i64 3]
 else ∃ σ,Ordered (enc s) σ/\v=.tuple #[Ln (Fv s σ),.int .i64 0]
theorem QJg {s:List UInt8} (hs:s≠[]):enc s≠[]:=by
 intro e
 obtain ⟨c,r,rfl⟩:∃ c r,s=c::r:=by cases s with
  | nil=>exact absurd rfl hs
  | cons c r=>exact ⟨c,r,rfl⟩
 have h1:=Rc (c::r) (by simp);have h2:=L2 (c::r) (by simp);have h3:=(P0 (c::r)).1;have h4:=Pq (Ca (c::r)) (c::r) h3;rw [e] at h1;have h5:=congrArg Xs h1;simp only [Yb,Y7] at h5;split at h4 <;> omega
theorem Qsc (s:List UInt8):Cf s < 4294967296:=by
 have:=Zc s (r:=4294967295) (by omega);unfold Cf
 first | omega | exact Nat.xor_lt_two_pow (n:=32) this (by omega)
theorem Qf9 (s:List UInt8) (hs:s.length<=100000000) (w:World):Does Yj 30 #[Aa s] w fun v w'=>Heap w [] w' []/\Rn s v:=by
 have hel:=Qce s;have hcrc:=Qsc s;refine En [Aa s] 117 Tryz.func30 ?_;refine VQ [0,2] fun K hK=>?_;refine A7 (.agg #[.string ⟨#[]⟩,.int .i64 0]) (by kernel_rfl) ?_;refine Qs ?_;have hH:=(Xe w).box 70 [.string ⟨#[]⟩,.int .i64 0];generalize w.alloc (Yn [Xo ⟨#[]⟩,.int .i64 0].toArray 70)=w1 at *;generalize w.heap.size=gr at *;apply hK;clear hK;refine VS [0,2,21] ?_;refine VD (fun h=>?_) (fun h=>Ab ?_)
 ·
  refine VQ [2,3] fun K hK=>?_;refine Af ?_;refine Qs ?_;refine Al hH 0 (vs:=[.string ⟨#[]⟩,.int .i64 0]) rfl rfl (by kernel_rfl) (by simp) (by simp [Yg]) fun w4 hH3=>?_;simp only [Yc,Yh] at hH3;apply hK;clear hK;refine Ad (I1 rfl rfl rfl (Cv (hH3.at 0 rfl) (by kernel_rfl) (by kernel_rfl) rfl ?_));refine ⟨hH3.sub (by simp),?_⟩;rw [Rn,if_pos h];rfl
 have hne:=QJg h;have hMk:∀ v,(if 262144 < (enc s).length then v=.tuple #[Qs3,.int .i64 3] else ∃ σ,Ordered (enc s) σ/\v=.tuple #[Ln (Fv s σ),.int .i64 0])->Rn s v:=fun v hv=>by rw [Rn,if_neg h];exact hv
 refine VQ [0,2,4] fun K hK=>?_;refine Ac Tryz.call57 ?_;refine Qs ?_;refine Yi (Qyu s w1 (by omega)) ?_;rintro v w2 ⟨hHe,rfl⟩;have hH2:=hH.call0 hHe;simp only [Ye] at hH2;clear hH hHe;apply hK;clear hK;generalize ht:enc s=t at *;refine VS [0,2,4,27] ?_;refine VD (fun h=>?_) (fun h=>Ab ?_)
 ·
  refine VQ [2,3] fun K hK=>?_;refine Af ?_;refine Qs ?_;refine Al hH2 0 (vs:=[.string ⟨#[]⟩,.int .i64 0]) rfl rfl (by kernel_rfl) (by simp) (by simp [Yg]) fun w4 hH3=>?_;simp only [Yc,Yh] at hH3;apply hK;clear hK;refine Ad (I1 rfl rfl rfl (Cv (hH3.at 0 rfl) (by kernel_rfl) (by kernel_rfl) rfl ?_));refine ⟨hH3.sub (by simp),hMk _ ?_⟩;rw [if_pos (by omega)];rfl
 have htl:t.length<=262144:=by omega
 replace hMk:∀ v,(∃ σ,Ordered t σ/\v=.tuple #[Ln (Fv s σ),.int .i64 0])->Rn s v:=fun v hv=>hMk v (by rw [if_neg (by omega)];exact hv);refine VQ [0,2,4,5,6,7] fun K hK=>?_;refine Ac Tryz.call58 ?_;refine Qs ?_;refine Yi (Qla t (by omega) w2) ?_;rintro v w3 ⟨hHf,hf⟩;rw [We,if_neg hne,if_neg (by omega)] at hf;obtain ⟨σ,ho,rfl⟩:=hf;have hH3:=hH2.call0 hHf;simp only [Ye] at hH3;clear hH2 hHf;apply hK;clear hK;refine VS [0,2,4,5,6,7,36] ?_;refine Ae rfl rfl (fun h=>by simp at h) (fun h=>Ab ?_);clear h;refine VQ [0,2,5,6,8] fun K hK=>?_;refine Ac Tryz.call59 ?_;refine Qs ?_;refine Yi (QD1 t (by omega) w3) ?_;rintro v w4 ⟨hHo,rfl⟩;have hH4:=hH3.call0 hHo;simp only [Ye] at hH4;clear hH3 hHo;apply hK;clear hK;obtain ⟨u1,u2⟩:=P4 hne;have hcl:=Qcj ho;obtain ⟨p1,p2,p3⟩:=Zk ho;obtain ⟨z1,z2,z3,z4,z5,z6⟩:=Vv ho hne;have hmay:=Z7 ho hne htl;have hmu:=Qa9 hne;have hfr:=Qra (B4 t σ) (A8 t) (by omega) (by omega) w4;unfold Sv at hfr;simp only [hmu,p1,if_true] at hfr;refine VQ [0,2,6,7,8,9] fun K hK=>?_;refine Ac Tryz.call60 ?_;refine Qs ?_;refine Yi hfr ?_;rintro v w5 ⟨ap,cp,hHp,rfl⟩;have hH5:=hH4.call0 hHp;simp only [Y2] at hH5;clear hH4 hHp hfr;apply hK;clear hK;refine VS [0,2,6,7,8,9,48] ?_;refine Ae rfl rfl (fun h=>by simp at h) (fun h=>Ab ?_);clear h;have hzd:=Qvl ((A8 t).length:Nat) (Io t σ) ap cp (Xn (by omega) (by omega)) w5 (Az (hH5.at 0 rfl)) (by omega) (fun v hv=>by have:=p3 v hv;exact Xn (by omega) (by omega));unfold IntsErr at hzd;rw [z1,z2,<- z3] at hzd;refine VQ [0,2,6,7,8,10] fun K hK=>?_;refine Ac Tryz.call61 ?_;refine Qs ?_;refine Yi hzd ?_;rintro v w6 ⟨al,cl,hHl,rfl⟩;have hH6:=hH5.call0 hHl;simp only [Y2] at hH6;have hH7:=hH6.sub (.cons_cons _ (.cons _ (.refl _)));clear hH5 hHl hzd hH6;apply hK;clear hK;refine VS [0,2,6,7,8,10,59] ?_;refine Ae rfl rfl (fun h=>by simp at h) (fun h=>Ab ?_);clear h;have hbk:∀ σ',Ordered t σ'->Ln (Fv s σ')=Ln (Fv s σ'):=fun _ _=>rfl;obtain ⟨gl,rfl⟩:=Fz (hH7.at 0 rfl) (by omega);have hcap:(Ci t σ).length<=cl:=(hH7.at 0 rfl).2.1;have hbd:=Qwf (Ci t σ) ((A8 t).length+2) hmay ⟨gl,0,none⟩ rfl cl hcap w6 (Az (hH7.at 0 rfl));obtain ⟨b1,b2⟩:=Qo3 hmay;have b3:=Qep (Ci t σ) ((A8 t).length+2);have b4:=Qdx hmay;have hplan:Bu t σ=E6 (Ci t σ) ((A8 t).length+2):=rfl
 have hbs:Fv s σ=[Ql s (σ.idxOf 0),Fe (A8 t),Et (E6 (Ci t σ) ((A8 t).length+2)).1 (E6 (Ci t σ) ((A8 t).length+2)).2,E4 (E6 (Ci t σ) ((A8 t).length+2)).1 (E6 (Ci t σ) ((A8 t).length+2)).2 (Ci t σ) 0].flatten:=by
  unfold Fv;rw [ht,hplan]
 have hMk2:Rn s (.tuple #[Ln (Fv s σ),.int .i64 0]):=hMk _ ⟨σ,ho,rfl⟩;rw [hbs] at hMk2;have hnl:=Qdy (A8 t);have hhl:=Z8 s (σ.idxOf 0)
 have hrow:σ.idxOf 0<=262144:=by
  have h1:=List.idxOf_le_length (l:=σ) (a:=0);have h2:=ho.perm.length_eq;simp at h2;omega
 unfold Ir at b4;have hput:=fun v=>Qdb v (E6 (Ci t σ) ((A8 t).length+2)).1 (E6 (Ci t σ) ((A8 t).length+2)).2 b1 (Ci t σ) (by omega) (by rw [b2];exact z6) (by omega) (some ⟨gl,0,none⟩) cl;have hsho:=fun v=>Qbs v (E6 (Ci t σ) ((A8 t).length+2)).1 (E6 (Ci t σ) ((A8 t).length+2)).2 b1;generalize hHead:Ql s (σ.idxOf 0)=Head at *;have hHead2:A1 48 54156738319193++A1 32 (Cf s)++A1 1 0++A1 24 (σ.idxOf 0)=Head:=hHead;clear hHead hMk hbs hplan b2 b3 p1 p2 p3 ho hcl;generalize E6 (Ci t σ) ((A8 t).length+2)=B at *;obtain ⟨BT,BP⟩:=B;simp only at hput hsho hMk2 b4;generalize Ci t σ=L at *;generalize σ.idxOf 0=row at *;generalize hce:Cf s=crc at *;refine VQ [0,2,6,7,8,10,11] fun K hK=>?_;(repeat first | refine Qo ?_ | refine Qp ?_);rw [show (((A8 t).length:Int)+2)=(((A8 t).length+2:Nat):Int) by push_cast;rfl];refine Ac Tryz.call62 ?_;refine Qs ?_;refine Yi hbd ?_;rintro v w7 ⟨pv,GP,hHb,hpg,rfl⟩;have hH8:=(hH7.call0 hHb).perm Xj;simp only [Yq,Ye] at hH8;obtain ⟨ta,tc,pa,pc,us,rfl,_⟩:=hpg w7 hHb.holds;have hpv:Gw #[.slice ta BT.length tc,.slice pa BP.length pc]=.agg (Ai ta BT.length tc pa BP.length pc).toArray:=rfl;rw [hpv] at hpg ⊢;clear hH7 hHb;refine A7 (.agg #[.slice none 0 0,.slice none 0 0]) (by kernel_rfl) ?_;refine Qs ?_;have hH9:=hH8.box 120 (Ai none 0 0 none 0 0);have hpl:[Y8 none 0 0,Y8 none 0 0]=Ai none 0 0 none 0 0:=rfl;rw [hpl];generalize w7.alloc (Yn (Ai none 0 0 none 0 0).toArray 120)=w8 at *;generalize w7.heap.size=gp at *;refine Af ?_;refine Qs ?_;refine Al hH9 0 (vs:=Ai ta BT.length tc pa BP.length pc) rfl rfl (by kernel_rfl) (by simp [Ai]) (Fy _ _ _ _ _ _) fun w9 hH10=>?_;have hH11:Heap w [] w9 (Ya gp 120 (Ai ta BT.length tc pa BP.length pc)::Yf 3 1 (some ⟨gl,0,none⟩) L.length cl (Ag L)::Ya gr 70 [.string ⟨#[]⟩,.int .i64 0]::GP):=hH10;clear hH8 hH9 hH10;apply hK;clear hK;refine VS [0,2,6,7,8,10,11,71] ?_;refine Ae rfl rfl (fun h=>by simp at h) (fun h=>Ab ?_);clear h;refine VQ [0,2,6,8,10,11,12] fun K hK=>?_;refine Ac Tryz.call32 ?_;refine Qs ?_;refine Yi (Qz w9) ?_;rintro v w10 ⟨gw,hHw,rfl⟩;have hH:=hH11.call0 hHw;simp only [Y2] at hH;clear hH11 hHw;apply hK;clear hK;refine VQ [0,2,6,8,10,11,12] fun K hK=>?_;refine Ac X6 ?_;refine Qs ?_;refine Yi (Il gw none 0 [] 54156738319193 48 w10 (by omega) (by omega) (by simp) (hH.focus 0 rfl)) ?_;rintro v w11 ⟨a1,c1,hHq,rfl⟩;have hH2:=hH.call1 0 rfl hHq;simp only [Yc,Ye] at hH2;clear hH hHq;apply hK;clear hK;refine VQ [2,6,8,10,11,12] fun K hK=>?_;refine Ac Gq ?_;refine Qs ?_;refine Yi (Zj s w11 (by omega)) ?_;rintro v w12 ⟨hHc,rfl⟩;have hH3:=hH2.call0 hHc;simp only [Ye] at hH3;clear hH2 hHc;refine Qs ?_;rw [hce,show ((crc:Int) % 18446744073709551616)=crc by omega];refine Ac X6 ?_;refine Qs ?_;refine Yi (Il gw a1 c1 _ crc 32 w12 (by omega) (by omega) (by simp [Ct]) (hH3.focus 0 rfl)) ?_;rintro v w13 ⟨a2,c2,hHq,rfl⟩;have hH4:=hH3.call1 0 rfl hHq;simp only [Yc,Ye] at hH4;clear hH3 hHq;apply hK;clear hK;refine VQ [2,6,8,10,11,12] fun K hK=>?_;refine Ac X6 ?_;refine Qs ?_;refine Yi (Il gw a2 c2 _ 0 1 w13 (by omega) (by omega) (by simp [Ct]) (hH4.focus 0 rfl)) ?_;rintro v w14 ⟨a3,c3,hHq,rfl⟩;have hH5:=hH4.call1 0 rfl hHq;simp only [Yc,Ye] at hH5;clear hH4 hHq;apply hK;clear hK;refine VQ [2,8,10,11,12] fun K hK=>?_;rw [show ((row:Int) % 18446744073709551616)=row by omega];refine Ac X6 ?_;refine Qs ?_;refine Yi (Il gw a3 c3 _ row 24 w14 (by omega) (by omega) (by simp [Ct]) (hH5.focus 0 rfl)) ?_;rintro v w15 ⟨a4,c4,hHq,rfl⟩;have hH6:=hH5.call1 0 rfl hHq;simp only [Yc,Ye] at hH6
 rw [show A1 48 54156738319193++A1 32 crc++A1 1 0++A1 24 row=Head from hHead2] at hH6;clear hH5 hHq;apply hK;clear hK;refine VQ [2,8,10,11,13] fun K hK=>?_;refine Ac Gr ?_;refine Qs ?_;refine Yi (Px gw a4 c4 _ w15 (hH6.at 0 rfl)) ?_;rintro v w16 ⟨rfl,rfl⟩;refine Ac U4 ?_;refine Qs ?_;refine Yi (Ov gw a4 c4 _ w16 (hH6.at 0 rfl)) ?_;rintro v w17 ⟨rfl,rfl⟩;refine Qs ?_;refine A7 (.agg #[.string ⟨#[]⟩,.int .i64 0]) (by kernel_rfl) ?_;refine Qs ?_;have hH7:=(hH6.sub (Yz _ _)).box 70 [.string ⟨#[]⟩,.int .i64 0];generalize w17.alloc (Yn [Xo ⟨#[]⟩,.int .i64 0].toArray 70)=w18 at *;generalize w17.heap.size=gh at *;refine Af ?_;refine Qs ?_;refine Al hH7 0 (vs:=Ax Head) rfl rfl (by kernel_rfl) (by simp [Ax]) (E1 _) fun w19 hH8=>?_;have hH9:Heap w [] w19 (Ya gh 70 (Ax Head)::Ya gp 120 (Ai ta BT.length tc pa BP.length pc)::Yf 3 1 (some ⟨gl,0,none⟩) L.length cl (Ag L)::Ya gr 70 [.string ⟨#[]⟩,.int .i64 0]::GP):=hH8;clear hH6 hH7 hH8;apply hK;clear hK;generalize hNm:Fe (A8 t)=Nm at *;have hsy:=Qlk (A8 t) hmu (by omega) w19;rw [hNm] at hsy;refine VQ [2,10,11,13,14] fun K hK=>?_;refine Ac Tryz.call63 ?_;refine Qs ?_;refine Yi hsy ?_;rintro v w20 ⟨hHn,rfl⟩;have hH2:=hH9.call0 hHn;simp only [Ye] at hH2;clear hH9 hHn;refine A7 (.agg #[.string ⟨#[]⟩,.int .i64 0]) (by kernel_rfl) ?_;refine Qs ?_;have hH3:=hH2.box 70 [.string ⟨#[]⟩,.int .i64 0];generalize w20.alloc (Yn [Xo ⟨#[]⟩,.int .i64 0].toArray 70)=w21 at *;generalize w20.heap.size=gn at *;refine Af ?_;refine Qs ?_;refine Al hH3 0 (vs:=Ax Nm) rfl rfl (by kernel_rfl) (by simp [Ax]) (E1 _) fun w22 hH4=>?_;have hH5:Heap w [] w22 (Ya gn 70 (Ax Nm)::Ya gh 70 (Ax Head)::Ya gp 120 (Ai ta BT.length tc pa BP.length pc)::Yf 3 1 (some ⟨gl,0,none⟩) L.length cl (Ag L)::Ya gr 70 [.string ⟨#[]⟩,.int .i64 0]::GP):=hH4;clear hH2 hH3 hH4;apply hK;clear hK;generalize hPb:Et BT BP=Pb at *;generalize hPu:E4 BT BP L 0=Pu at *
 have hfl:[Head,Nm,Pb,Pu].flatten.length<=10000000000000:=by
  simp only [Yy,Xh,Yr,Yb];unfold Do at b4;omega
 refine VQ [2,10,11,13,14,16] fun K hK=>?_;refine ⟨Ai ta BT.length tc pa BP.length pc,⟨rfl,B6 (hH5.at 2 rfl)⟩,?_⟩;refine Ac Tryz.call64 ?_;refine Qs ?_;refine Yi (hsho _ w22 (hpg w22 (fun r hr=>hH5.holds r (by simp [hr])))) ?_;rintro v w23 ⟨hHs,rfl⟩;have hH6:=hH5.call0 hHs;simp only [Ye] at hH6;clear hH5 hHs;refine A7 (.agg #[.string ⟨#[]⟩,.int .i64 0]) (by kernel_rfl) ?_;refine Qs ?_;have hH7:=hH6.box 70 [.string ⟨#[]⟩,.int .i64 0];generalize w23.alloc (Yn [Xo ⟨#[]⟩,.int .i64 0].toArray 70)=w24 at *;generalize w23.heap.size=gt at *;refine Af ?_;refine Qs ?_;refine Al hH7 0 (vs:=Ax Pb) rfl rfl (by kernel_rfl) (by simp [Ax]) (E1 _) fun w25 hH8=>?_;have hH9:Heap w [] w25 (Ya gt 70 (Ax Pb)::Ya gn 70 (Ax Nm)::Ya gh 70 (Ax Head)::Ya gp 120 (Ai ta BT.length tc pa BP.length pc)::Yf 3 1 (some ⟨gl,0,none⟩) L.length cl (Ag L)::Ya gr 70 [.string ⟨#[]⟩,.int .i64 0]::GP):=hH8;clear hH6 hH7 hH8;apply hK;clear hK;refine VQ [2,13,14,16,18] fun K hK=>?_;refine ⟨Ai ta BT.length tc pa BP.length pc,⟨rfl,B6 (hH9.at 3 rfl)⟩,?_⟩;refine Ac Tryz.call65 ?_;refine Qs ?_;refine Yi (hput _ w25 (hpg w25 (fun r hr=>hH9.holds r (by simp [hr]))) (Az (hH9.at 4 rfl))) ?_;rintro v w26 ⟨hHs,rfl⟩;have hH6:=hH9.call0 hHs;simp only [Ye] at hH6;clear hH9 hHs;refine A7 (.agg #[.string ⟨#[]⟩,.int .i64 0]) (by kernel_rfl) ?_;refine Qs ?_;have hH7:=hH6.box 70 [.string ⟨#[]⟩,.int .i64 0];generalize w26.alloc (Yn [Xo ⟨#[]⟩,.int .i64 0].toArray 70)=w27 at *;generalize w26.heap.size=gc at *;refine Af ?_;refine Qs ?_;refine Al hH7 0 (vs:=Ax Pu) rfl rfl (by kernel_rfl) (by simp [Ax]) (E1 _) fun w28 hH8=>?_;have hH9:Heap w [] w28 (Ya gc 70 (Ax Pu)::Ya gt 70 (Ax Pb)::Ya gn 70 (Ax Nm)::Ya gh 70 (Ax Head)::Ya gp 120 (Ai ta BT.length tc pa BP.length pc)::Yf 3 1 (some ⟨gl,0,none⟩) L.length cl (Ag L)::Ya gr 70 [.string ⟨#[]⟩,.int .i64 0]::GP):=hH8;clear hH6 hH7 hH8;apply hK;clear hK;refine VQ [2,3] fun K hK=>?_;refine ⟨Ax Head,⟨rfl,B6 (hH9.at 3 rfl)⟩,?_⟩;refine ⟨Ax Nm,⟨rfl,B6 (hH9.at 2 rfl)⟩,?_⟩;refine ⟨Ax Pb,⟨rfl,B6 (hH9.at 1 rfl)⟩,?_⟩;refine ⟨Ax Pu,⟨rfl,B6 (hH9.at 0 rfl)⟩,?_⟩;refine Es hH9 2 (Fa [Head,Nm,Pb,Pu]) (xs:=[.tmp 109,.tmp 110,.tmp 111,.tmp 112]) Ym Oc rfl rfl rfl (by omega) (by omega) ?_;refine Qs ?_;refine ⟨by simp [Fa,Ax,Yw],by simp [Ax,Yw],fun ga w29 hH10=>?_⟩;refine Ac Xy ?_;refine Qs ?_;refine Yi (Qds [Head,Nm,Pb,Pu] ⟨ga,0,none⟩ rfl 4 w29 (Az (hH10.at 0 rfl)) hfl (by simp)) ?_;rintro v w30 ⟨hHj,rfl⟩;have hH11:=hH10.call0 hHj;simp only [Ye] at hH11;clear hH10 hHj hH9;generalize [Head,Nm,Pb,Pu].flatten=R at *;refine Af ?_;refine Qs ?_;refine Al hH11 7 (vs:=Ax R) rfl rfl (by kernel_rfl) (by simp [Ax]) (E1 _) fun w31 hH12=>?_;simp only [Yc,Yh] at hH12;apply hK;clear hK;refine Ad (I1 rfl rfl rfl (Cv (hH12.at 7 rfl) (by kernel_rfl) (by kernel_rfl) rfl ?_));exact ⟨hH12.sub (by simp),hMk2⟩
theorem Qzp (b:UInt8) (n:Nat) (s:List UInt8) (h1:1<=n) (h2:n<=255) (h3:n=255∨s[0]? ≠ some b):Ca (Yd n b++s)=n:=by
 have hz:(Yd n b++s)[0]? = some b:=by
  rw [Xc (by simp;omega),Xm,if_pos (by omega)]
 have h:=Qpd (Yd n b++s) 0 n (by simp;omega) h1 h2 ?_ ?_
 ·
  simpa using h
 ·
  intro j hj;rw [hz,X0,Xc (by simp;omega),Xm,if_pos (by omega)]
 rcases h3 with h3 | h3
 ·
  exact .inl h3
 refine .inr ?_;rw [hz,X0,Xi (by simp)];simpa using h3
theorem Ql9 (b:UInt8) (n:Nat) (s:List UInt8) (h1:1<=n) (h2:n<=255) (h3:n=255∨s[0]? ≠ some b) :
  (enc (Yd n b++s)).length=Fs n+(enc s).length:=by
 have hne:Yd n b++s≠[]:=by
  intro h;have:=congrArg Xs h;simp at this;omega
 rw [Rc _ hne,Qzp b n s h1 h2 h3,Yb,Pq _ _ (by simp)];have e:(Yd n b++s).drop n=s:=by simp
 rw [e,Fs]
 congr 1
 split <;> split <;> omega
theorem Qwg (l:List UInt8) (h:l≠[]):∃ (b:UInt8) (n:Nat) (s:List UInt8),l=Yd n b++s/\Ca l=n/\s=l.drop n/\1<=n/\n<=255/\(n=255∨s[0]? ≠ some b):=by
 cases l with
 | nil=>exact absurd rfl h
 | cons b l =>
  have hp:=L2 (b::l) (by simp);have hle:=P0 (b::l);refine ⟨b,Ca (b::l),(b::l).drop (Ca (b::l)),?_,rfl,rfl,hp,hle.2,?_⟩
  ·
   rw [<- Qic b l _ (Y3 _),X2]
  by_cases h255:Ca (b::l)=255
  ·
   exact .inl h255
  refine .inr ?_;rw [Uf,Nat.add_zero];exact Qtv b l (by omega)
theorem QAd:∀ (f:Nat) (l:List UInt8) (left:Int),l.length<=f ->
  C7 l left<=l.length/\((enc (l.take (C7 l left))).length:Int)<=max left 0/\(left < 0->C7 l left=0)/\(C7 l left=l.length∨left < ((enc (l.take (C7 l left+1))).length:Int)):=by
 intro f
 induction f with
 | zero =>
  intro l left h;have:l=[]:=Y4 (by omega);subst this;simp [Ql3,Qb];omega
 | succ f ih =>
  intro l left h;by_cases hl:l=[]
  ·
   subst hl;simp [Ql3,Qb];omega
  rw [Qh5 l left hl];obtain ⟨b,n,s,hls,hn,hd,h1,h2,h3⟩:=Qwg l hl;rw [hn,<- hd];have hlen:l.length=n+s.length:=by rw [hls];simp
  have inrun:∀ k,1<=k->k<=n->(enc (l.take k)).length=Fs k:=by
   intro k hk1 hk2
   have e:l.take k=Yd k b++[]:=by
    rw [hls,List.take_append_of_le_length (by simp;omega),List.take_replicate,Yr]
    congr 1;omega
   rw [e,Ql9 b k [] hk1 (by omega) (.inr (by simp)),Qb];rfl
  have behind:∀ k,(enc (l.take (n+k))).length=Fs n+(enc (s.take k)).length:=by
   intro k
   have e:l.take (n+k)=Yd n b++s.take k:=by
    rw [hls,List.take_append];simp
   by_cases hk:k=0
   ·
    subst hk;rw [e,Ql9 b n _ h1 h2 (.inr (by simp))]
   rw [e,Ql9 b n _ h1 h2 ?_];rw [List.getElem?_take,if_pos (by omega)];exact h3
  by_cases hc:left < (Fs n:Int)
  ·
   rw [if_pos hc];generalize hk:(max 0 (min left 3)).toNat=k;have hkn:k < n:=by simp only [Fs] at hc;split at hc <;> omega
   have hk3:k<=3:=by omega
   refine ⟨by omega,?_,by omega,.inr ?_⟩
   ·
    by_cases hk0:k=0
    ·
     subst hk0;rw [U5,Qb];simp;omega
    rw [inrun k (by omega) (by omega),Fs,if_pos hk3];omega
   rw [inrun (k+1) (by omega) (by omega)];simp only [Fs] at hc ⊢;split at hc <;> split <;> omega
  rw [if_neg hc];obtain ⟨g1,g2,g3,g4⟩:=ih s (left - Fs n) (by omega);refine ⟨by omega,?_,by omega,?_⟩
  ·
   rw [behind];omega
  rcases g4 with g4 | g4
  ·
   exact .inl (by omega)
  refine .inr ?_;rw [Gb,behind];omega
theorem Sy {s:List UInt8}{most:Int} (hs:s≠[]) (hm:1<=most):1<=C7 s most/\C7 s most<=s.length/\((enc (s.take (C7 s most))).length:Int)<=most:=by
 obtain ⟨h1,h2,_,_⟩:=QAd s.length s most (Y3 _);refine ⟨?_,h1,by omega⟩;rw [Qh5 s most hs];have:=L2 s hs;split <;> omega
def Nr:Nat->List UInt8->Int->List (List UInt8)
 | 0,_,_=>[]
 | f+1,s,most=>if s=[] then [] else s.take (C7 s most)::Nr f (s.drop (C7 s most)) most
theorem Qwh {most:Int} (hm:1<=most):∀ (f g:Nat) (s:List UInt8),s.length<=f->s.length<=g->Nr f s most=Nr g s most:=by
 intro f
 induction f with
 | zero =>
  intro g s h1 h2;obtain rfl:s=[]:=Y4 (by omega);cases g with
  | zero=>rfl
  | succ g=>rw [Nr,Nr,if_pos rfl]
 | succ f ih =>
  intro g s h1 h2;cases g with
  | zero =>
   obtain rfl:s=[]:=Y4 (by omega);rw [Nr,Nr,if_pos rfl]
  | succ g =>
   rw [Nr,Nr];split
   ·
    rfl
   rename_i hne;have:=Sy hne hm;rw [ih g _ (by rw [Yv];omega) (by rw [Yv];omega)]
def Cz (s:List UInt8) (most:Int):List (List UInt8):=Nr s.length s most
theorem Vo (most:Int):Cz [] most=[]:=rfl
theorem Qd7 {s:List UInt8}{most:Int} (hs:s≠[]) (hm:1<=most):Cz s most=s.take (C7 s most)::Cz (s.drop (C7 s most)) most:=by
 obtain ⟨n,hn⟩:∃ n,s.length=n+1:=⟨s.length - 1,by have:=Xl.2 hs;omega⟩;have:=Sy hs hm;rw [Cz,hn,Nr,if_neg hs,Cz]
 congr 1
 exact Qwh hm _ _ _ (by rw [Yv];omega) (Y3 _)
theorem Qfm {most:Int} (hm:1<=most):∀ (n:Nat) (s:List UInt8),s.length<=n->(Cz s most).flatten=s/\(Cz s most).length<=s.length/\∀ p∈Cz s most,p≠[]/\p.length<=s.length/\((enc p).length:Int)<=most:=by
 intro n
 induction n with
 | zero =>
  intro s h;obtain rfl:s=[]:=Y4 (by omega);rw [Vo];simp
 | succ n ih =>
  intro s h;by_cases hs:s=[]
  ·
   subst hs;rw [Vo];simp
  obtain ⟨f1,f2,f3⟩:=Sy hs hm;obtain ⟨h1,h2,h3⟩:=ih (s.drop (C7 s most)) (by rw [Yv];omega);rw [Yv] at h2 h3;rw [Qd7 hs hm];refine ⟨by rw [Yy,h1,X2],by rw [Yt];omega,fun p hp=>?_⟩;rcases Xg.1 hp with rfl | hp
  ·
   refine ⟨fun h0=>?_,by rw [Yu];omega,f3⟩;have:=congrArg Xs h0;rw [Yu,Y7] at this;omega
  obtain ⟨a,b,c⟩:=h3 p hp;exact ⟨a,by omega,c⟩
def PB (p:List UInt8) (b:List Bool):Prop:=∃ σ,Ordered (enc p) σ/\b=Fv p σ
def Lx:List (List UInt8)->List (List Bool)->Prop
 | [],[]=>True
 | p::ps,b::bs=>PB p b/\Lx ps bs
 | _,_=>False
theorem Qpt {p:List UInt8}{b:List Bool} (h:PB p b):∀ (ps:List (List UInt8)) (bs:List (List Bool)),Lx ps bs->Lx (ps++[p]) (bs++[b])
 | [],[],_=>⟨h,trivial⟩
 | _::ps,_::bs,hh=>⟨hh.1,Qpt h ps bs hh.2⟩
 | [],_::_,hh=>hh.elim
 | _::_,[],hh=>hh.elim
theorem Vw:∀ (ps:List (List UInt8)) (bs:List (List Bool)),Lx ps bs->bs.length=ps.length
 | [],[],_=>rfl
 | _::ps,_::bs,hh=>by rw [Yt,Yt,Vw ps bs hh.2]
 | [],_::_,hh=>hh.elim
 | _::_,[],hh=>hh.elim
theorem QJh {p:List UInt8}{b:List Bool} (h:PB p b) (hp:p≠[]) (he:(enc p).length<=262144):b.length<=20000000:=by
 obtain ⟨σ,ho,rfl⟩:=h;obtain ⟨u1,u2⟩:=P4 (Sx hp);have hlen:=(Vv ho (Sx hp)).2.2.2.1;have hb:=Qdx (Z7 ho (Sx hp) he);have hn:=Qdy (A8 (enc p));have hh:=Z8 p (σ.idxOf 0);unfold Fv;unfold Ir at hb;change (Et (Bu (enc p) σ).1 (Bu (enc p) σ).2).length+(E4 (Bu (enc p) σ).1 (Bu (enc p) σ).2 (Ci (enc p) σ) 0).length<=_ at hb;simp only [Yy,Xh,Yr,Yb];unfold Do at hb;omega
theorem Qie:∀ (ps:List (List UInt8)) (bs:List (List Bool)),Lx ps bs->(∀ p∈ps,p≠[]/\(enc p).length<=262144)->bs.flatten.length<=ps.length * 20000000
 | [],[],_,_=>by simp
 | p::ps,b::bs,hh,hp=>by
  have h1:=Qie ps bs hh.2 fun q hq=>hp q (by simp [hq]);obtain ⟨a1,a2⟩:=hp p (by simp);have h2:=QJh hh.1 a1 a2;rw [Yy,Yb,Yt];omega
 | [],_::_,hh,_=>hh.elim
 | _::_,[],hh,_=>hh.elim
def F6 (level:Nat) (bs:List (List Bool)) (sums:List Nat):List Bool :=
 At [66,90,104,Xa (48+level)]++bs.flatten++A1 48 25779555029136++A1 32 (Ic sums)
def PackOk (s:List UInt8) (level most:Int) (v:Value):Prop :=
 if level < 1∨9 < level∨most < 1∨min (level * 100000) 262144 < most then v=.tuple #[Aa [],.int .i64 2]
 else if 262144 < s.length then v=.tuple #[Aa [],.int .i64 3]
 else ∃ bs,Lx (Cz s most) bs/\v=.tuple #[Aa (Bh (F6 level.toNat bs ((Cz s most).map Cf))),.int .i64 0]
theorem QEr {p:List UInt8}{b:List Bool} (h:PB p b) (hp:p≠[]) (hl:p.length<=262144) {bits:List Bool}{at_:Nat}{r:List Bool} (hd:bits.drop at_=b++r) {most:Int} (h0:((enc p).length:Int)<=most) (h1:most<=262144) :
  Lo bits at_ most=.ok (p,Cf p,at_+b.length):=by
 obtain ⟨σ,ho,rfl⟩:=h;have he:=Xl.2 (Sx hp);rw [Qr3 ho hp hl (by omega) hd (by omega) h1,if_pos h0]
theorem Qpu {p:List UInt8}{b:List Bool} (h:PB p b):∃ t,b=A1 48 54156738319193++t:=by
 obtain ⟨σ,_,rfl⟩:=h;rw [Qd4,Ql];simp only [Ys];exact ⟨_,rfl⟩
theorem Qpv {s:List UInt8}{room:Int} (hr1:room<=262144) {r:List Bool}:∀ (ps:List (List UInt8)) (bs:List (List Bool)) (f bit:Nat) (out:List UInt8) (sums:List Nat),Lx ps bs ->
  (∀ p∈ps,p≠[]/\p.length<=262144/\((enc p).length:Int)<=room)->out.length+ps.flatten.length<=262144->ps.length < f->bit<=8 * s.length->(∀ x∈sums,x < 4294967296) ->
  (At s).drop bit=bs.flatten++(A1 48 25779555029136++(A1 32 (Ic (sums++ps.map Cf))++r)) ->
  Nt s room f bit out sums=.ok (out++ps.flatten,(bit+bs.flatten.length+87) / 8)
 | [],[],f,bit,out,sums,_,_,_,hf,hb,h32,hd=>by
  obtain ⟨f,rfl⟩:∃ k,f=k+1:=⟨f - 1,by simp only [Y7] at hf;omega⟩;simp only [Xh,Ye,List.map_nil,Yr] at hd;obtain ⟨a1,a2,a3⟩:=Q8 (n:=48) (by omega) (by decide) hd;obtain ⟨b1,b2,b3⟩:=Q8 (n:=32) (by omega) (Wy sums h32) a3;rw [D8] at a1 b1;rw [Nt,if_neg (by omega),a2,if_pos rfl,if_neg (by omega),b2,if_neg (by simp)];simp
 | p::ps,b::bs,f,bit,out,sums,hh,hp,ho,hf,hb,h32,hd=>by
  obtain ⟨f,rfl⟩:∃ k,f=k+1:=⟨f - 1,by simp only [Yt] at hf;omega⟩;obtain ⟨p1,p2,p3⟩:=hp p (by simp);simp only [Yy,Yb,Yt,List.map_cons,Ys] at hd ho hf;obtain ⟨t,ht⟩:=Qpu hh.1;have hd2:=hd;rw [ht,Ys] at hd2;obtain ⟨a1,a2,a3⟩:=Q8 (n:=48) (by omega) (by decide) hd2;have htk:=QEr hh.1 p1 p2 hd p3 hr1;have hle:=congrArg Xs hd;rw [Yv,Yb,D8] at hle;rw [D8] at a1
  have hroom:1<=room:=by
   have he:=Xl.2 (Sx p1);omega
  rw [Nt,if_neg (by omega),a2,if_neg (by decide),if_pos rfl,M0,if_neg (by omega),Ul,htk];simp only
  rw [if_neg (by omega),Qpv (r:=r) hr1 ps bs f (bit+b.length) (out++p) (sums++[Cf p]) hh.2 (fun q hq=>hp q (by simp [hq])) (by rw [Yb];omega) (by omega) (by omega) (fun x hx=>by
    rcases X8.1 hx with hx | hx
    ·
     exact h32 x hx
    simp only [Xw] at hx;subst hx;exact Qbg p)]
  ·
   simp only [Yy,Ys,Yb,Gb]
  rw [<- U6,hd,List.drop_left];simp only [Ys,Yq,Ye]
 | [],_::_,_,_,_,_,hh,_,_,_,_,_,_=>hh.elim
 | _::_,[],_,_,_,_,hh,_,_,_,_,_,_=>hh.elim
theorem Qzq {x y:List UInt8}{level:Nat} (h1:1<=level) (h9:level<=9):Kg (x++([66,90,104,Xa (48+level)]++y)) x.length 0 4=(level,0):=by
 have hg:∀ i,(x++([66,90,104,Xa (48+level)]++y)).getD (x.length+i) 0=([66,90,104,Xa (48+level)]++y).getD i 0:=by
  intro i;simp only [Yp];rw [Xi (by omega)]
  congr 2
  omega
 have hl:∀ i,i < 4->¬ ((x++([66,90,104,Xa (48+level)]++y)).length<=x.length+i):=by
  intro i hi;simp only [Yb,Yt];omega
 have hn:(Xa (48+level)).toNat=48+level:=Tv (by omega);simp only [Kg,hg,Gd];rw [if_neg (hl 0 (by omega)),if_neg (hl 1 (by omega)),if_neg (hl 2 (by omega)),if_neg (hl 3 (by omega))];rw [if_neg (by unfold M4;simp),if_neg (by unfold M4;simp),if_neg (by unfold M4;simp),if_neg (by unfold M4;simp [hn];omega)];simp only [hg,Yq,List.getD_cons_succ,List.getD_cons_zero,hn]
 congr 1
 omega
theorem Qsd {s x y:List UInt8}{level:Nat}{most:Int}{bs:List (List Bool)} (h1:1<=level) (h9:level<=9) (hm:1<=most) (hm2:most<=min ((level:Int) * 100000) 262144) (hs:s.length<=262144) (hb:Lx (Cz s most) bs) :
  Ka (x++(Bh (F6 level bs ((Cz s most).map Cf))++y)) x.length=.ok (s,x.length+(Bh (F6 level bs ((Cz s most).map Cf))).length):=by
 obtain ⟨c1,c2,c3⟩:=Qfm hm s.length s (Y3 _)
 obtain ⟨q,hq⟩:∃ q,Bh (F6 level bs ((Cz s most).map Cf))=[66,90,104,Xa (48+level)]++q:=by
  unfold F6;rw [Ys,Ys,Qbk _ _ (by rw [D8];simp),Qcw];exact ⟨_,rfl⟩
 have hbits:=Nx (F6 level bs ((Cz s most).map Cf));have htl:=Ly (F6 level bs ((Cz s most).map Cf))
 have hsl:(F6 level bs ((Cz s most).map Cf)).length=32+bs.flatten.length+80:=by
  unfold F6;simp only [Yb,Ct,D8,Yt,Y7]
 generalize hT:Bh (F6 level bs ((Cz s most).map Cf))=T at *;have hhd:=Qzq (x:=x) (y:=q++y) h1 h9;rw [<- Ys [66,90,104,_],<- hq] at hhd;rw [Ka,if_neg (by simp;omega),Ul,hhd,if_neg (by simp)]
 rw [Qpv (r:=Yd (8 * (((F6 level bs ((Cz s most).map Cf)).length+7) / 8) - (F6 level bs ((Cz s most).map Cf)).length) false++At y) (by omega) (Cz s most) bs _ _ [] [] hb (fun p hp=>by
   obtain ⟨a1,a2,a3⟩:=c3 p hp;exact ⟨a1,by omega,by show _<=min ((level:Int) * 100000) 262144;omega⟩) (by rw [c1];simpa using hs) (by
   have:=Vw _ _ hb
   have:(Cz s most).length<=bs.flatten.length:=by
    have key:∀ (ps:List (List UInt8)) (bs:List (List Bool)),Lx ps bs->ps.length<=bs.flatten.length:=by
     intro ps
     induction ps with
     | nil=>intro bs _;simp
     | cons p ps ih =>
      intro bs h;cases bs with
      | nil=>exact h.elim
      | cons b bs =>
       have h2:=ih bs h.2;obtain ⟨t,ht⟩:=Qpu h.1;rw [Yy,Yb,Yt,ht,Yb,Ct];omega
    exact key _ _ hb
   simp only [Yb];omega) (by simp only [Yb];omega) (by simp) ?_]
 ·
  rw [c1];simp only [Ye]
  congr 2
  omega
 rw [Wu,Wu,show 8 * (x.length+4)=(At x).length+32 by rw [D8];omega,<- U6,List.drop_left,hbits];unfold F6;simp only [Ys];rw [Ux (by rw [D8];rfl)];simp
def Pk (s T:List UInt8):Prop:=∃ (level:Nat) (most:Int) (bs:List (List Bool)),(1<=level/\level<=9/\1<=most/\most<=min ((level:Int) * 100000) 262144/\s.length<=262144)/\Lx (Cz s most) bs/\T=Bh (F6 level bs ((Cz s most).map Cf))
theorem PackOk.pk {s:List UInt8}{level most:Int}{v:Value} (h:PackOk s level most v) (h1:¬ (level < 1∨9 < level∨most < 1∨min (level * 100000) 262144 < most)) (hs:s.length<=262144) :
  ∃ T,Pk s T/\v=.tuple #[Aa T,.int .i64 0]:=by
 rw [PackOk,if_neg h1,if_neg (by omega)] at h;obtain ⟨bs,hb,rfl⟩:=h;exact ⟨_,⟨level.toNat,most,bs,by omega,hb,rfl⟩,rfl⟩
theorem Qj9 (level:Nat) (bs:List (List Bool)) (sums:List Nat):(F6 level bs sums).length=112+bs.flatten.length:=by
 unfold F6;simp only [Yb,Ct,D8,Yt,Y7];omega
theorem Pk.len {s T:List UInt8} (h:Pk s T):14<=T.length/\T.length<=15+s.length * 2500000:=by
 obtain ⟨level,most,bs,hx,hb,rfl⟩:=h;obtain ⟨c1,c2,c3⟩:=Qfm (most:=most) (by omega) s.length s (Y3 _)
 have:=Qie _ _ hb fun p hp=>by
  obtain ⟨a,b,c⟩:=c3 p hp;exact ⟨a,by omega⟩
 rw [Ly,Qj9];omega
theorem Pk.take {s T:List UInt8} (h:Pk s T) (x y:List UInt8):Ka (x++(T++y)) x.length=.ok (s,x.length+T.length):=by
 obtain ⟨level,most,bs,hx,hb,rfl⟩:=h;exact Qsd hx.1 hx.2.1 hx.2.2.1 hx.2.2.2.1 hx.2.2.2.2 hb
theorem QEs {s:List UInt8}{most:Int} (hs:s≠[]) (hm:1<=most) (hl:((s.length+s.length / 4:Nat):Int)<=most):Cz s most=[s]:=by
 obtain ⟨h1,_,_,h4⟩:=QAd s.length s most (Y3 _)
 have hf:C7 s most=s.length:=by
  rcases h4 with h4 | h4
  ·
   exact h4
  have h5:=Qce (s.take (C7 s most+1));have h6:(s.take (C7 s most+1)).length<=s.length:=by rw [Yu];omega
  omega
 rw [Qd7 hs hm,hf,Ur,List.drop_length,Vo]
theorem Qse {s:List UInt8}{level most:Int}{v:Value} (h:PackOk s level most v) (h1:1<=level/\level<=9) (hm:most<=100000) (h2:((s.length+s.length / 4:Nat):Int)<=most) (h0:1<=most) (hl:s.length<=20000) :
  ∃ T,Pk s T/\v=.tuple #[Aa T,.int .i64 0]/\T.length<=s.length+s.length / 2+600:=by
 rw [PackOk,if_neg (by omega),if_neg (by omega)] at h;obtain ⟨bs,hb,rfl⟩:=h;refine ⟨_,⟨level.toNat,most,bs,by omega,hb,rfl⟩,rfl,?_⟩;rw [Ly,Qj9];by_cases hs:s=[]
 ·
  subst hs;rw [Vo] at hb;cases bs with
  | nil=>simp
  | cons b bs=>exact hb.elim
 rw [QEs hs h0 h2] at hb
 obtain ⟨b,rfl⟩:∃ b,bs=[b]:=by
  have:=Vw _ _ hb;cases bs with
  | nil=>cases this
  | cons b bs=>cases bs with
   | nil=>exact ⟨b,rfl⟩
   | cons c bs=>cases this
 obtain ⟨⟨σ,ho,rfl⟩,_⟩:=hb;have:=Qv5 ho hs hl;simp only [Yy,Xh,Yr];omega
def Lm:List UInt8->List UInt8×List (List UInt8)
 | []=>([],[])
 | b::s=>if b=47 then ([],(Lm s).1::(Lm s).2) else (b::(Lm s).1,(Lm s).2)
def Db (s:List UInt8):List (List UInt8):=(Lm s).1::(Lm s).2
def El (l:List (List UInt8)):List UInt8:=Lib.join l [47]
theorem Qsf {a:List UInt8} (r:List UInt8) (h:(47:UInt8) ∉ a):Lm (a++47::r)=(a,Db r):=by
 induction a with
 | nil=>simp [Lm,Db]
 | cons b a ih =>
  simp only [Xg,not_or] at h;rw [Yq,Lm,if_neg (fun e=>h.1 e.symm),ih h.2]
theorem Qsg {a:List UInt8} (h:(47:UInt8) ∉ a):Lm a=(a,[]):=by
 induction a with
 | nil=>rfl
 | cons b a ih =>
  simp only [Xg,not_or] at h;rw [Lm,if_neg (fun e=>h.1 e.symm),ih h.2]
theorem Qcl {a:List UInt8} (r:List UInt8) (h:(47:UInt8) ∉ a):Db (a++47::r)=a::Db r:=by
 rw [Db,Qsf r h]
theorem Qcm {a:List UInt8} (h:(47:UInt8) ∉ a):Db a=[a]:=by
 rw [Db,Qsg h]
theorem Qn9 (s:List UInt8):(47:UInt8) ∉ s∨∃ a r,s=a++47::r/\(47:UInt8) ∉ a:=by
 induction s with
 | nil=>exact .inl (by simp)
 | cons b s ih =>
  by_cases hb:b=47
  ·
   exact .inr ⟨[],s,by simp [hb],by simp⟩
  rcases ih with h | ⟨a,r,rfl,h⟩
  ·
   exact .inl (by simp only [Xg,not_or];exact ⟨fun e=>hb e.symm,h⟩)
  exact .inr ⟨b::a,r,rfl,by simp only [Xg,not_or];exact ⟨fun e=>hb e.symm,h⟩⟩
theorem Qka {P:List UInt8->Prop} (h1:∀ a,(47:UInt8) ∉ a->P a) (h2:∀ a r,(47:UInt8) ∉ a->P r->P (a++47::r)):∀ s,P s:=by
 intro s;generalize hn:s.length=n
 induction n using Nat.strongRecOn generalizing s with
 | ind n ih =>
  rcases Qn9 s with h | ⟨a,r,rfl,h⟩
  ·
   exact h1 s h
  exact h2 a r h (ih r.length (by simp at hn;omega) r rfl)
theorem T1 (x y:List UInt8) (l:List (List UInt8)):El (x::y::l)=x++47::El (y::l):=by
 simp only [El];rw [Lib.join_cons,Lib.join_cons];simp [Lib.joinTail]
theorem Qd8 (x:List UInt8):El [x]=x:=Lib.join_one x _
theorem Qwi:El []=[]:=rfl
theorem Qe1:∀ s,El (Db s)=s:=by
 refine Qka (fun a h=>?_) (fun a r h ih=>?_)
 ·
  rw [Qcm h,Qd8]
 rw [Qcl r h];have e:Db r=(Lm r).1::(Lm r).2:=rfl;rw [e,T1,<- e,ih]
theorem Qwj {l m:List (List UInt8)} (hl:l≠[]) (hm:m≠[]):El (l++m)=El l++47::El m:=by
 induction l with
 | nil=>simp at hl
 | cons x l ih =>
  cases l with
  | nil =>
   cases m with
   | nil=>simp at hm
   | cons y m=>rw [Y2,T1,Qd8]
  | cons y l=>rw [Yq,Yq,T1,<- Yq,ih (by simp),T1,Ys];rfl
theorem Zl (l:List (List UInt8)) (h:l≠[]):(El l).length+1=(l.map fun x=>x.length+1).sum:=by
 induction l with
 | nil=>simp at h
 | cons x l ih =>
  cases l with
  | nil=>simp [Qd8]
  | cons y l =>
   rw [T1,List.map_cons,Ge,<- ih (by simp)];simp;omega
theorem Qlp:∀ s:List UInt8,(Db s).length=s.count 47+1:=by
 refine Qka (fun a h=>?_) (fun a r h ih=>?_)
 ·
  rw [Qcm h,X7 h];rfl
 rw [Qcl r h,Yt,ih,List.count_append,X7 h,List.count_cons_self];omega
theorem Qsh (s:List UInt8):(Db s).length<=s.length+1:=by
 rw [Qlp];have:=List.count_le_length (a:=(47:UInt8)) (l:=s);omega
abbrev Lp:=List (List UInt8)
def O8 (b:UInt8):Bool:=decide (32<=b.toNat) && decide (b.toNat<=126)
def Cj (x:List UInt8):Bool:=decide (x≠[]) && decide (x≠[46])
def Ei (s:List UInt8):Option (List UInt8) :=
 if s.all O8=true/\([46,46]:List UInt8) ∉ Db s/\El ((Db s).filter Cj)≠[]/\(El ((Db s).filter Cj)).length<=120 then some (El ((Db s).filter Cj)) else none
def QAe (o:Option (List UInt8)):Value:=.tuple #[Aa (o.getD []),.int .i64 (if o.isSome then 0 else 140)]
def Qmi (s:List UInt8):Int:=if Ei s=some s then 0 else 140
theorem Qga (l:Lp):(El (l.filter Cj)).length<=(El l).length:=by
 by_cases h:l.filter Cj=[]
 ·
  rw [h];exact Nat.zero_le _
 have hl:l≠[]:=by rintro rfl;exact h rfl
 have h1:=Zl _ h;have h2:=Zl _ hl
 have h3:∀ m:Lp,((m.filter Cj).map fun x=>x.length+1).sum<=(m.map fun x=>x.length+1).sum:=by
  intro m
  induction m with
  | nil=>simp
  | cons x m ih =>
   by_cases hx:Cj x=true
   ·
    simp [X3,hx];omega
   simp [X3,hx];omega
 have:=h3 l;omega
theorem Qoa {s:List UInt8} (h:Ei s=some s):s.all O8=true/\s.length<=120/\∀ x∈Db s,x≠[]/\x≠[46]/\x≠[46,46]:=by
 unfold Ei at h;split at h
 ·
  rename_i hh;obtain ⟨h1,h2,h3,h4⟩:=hh;have h5:=Option.some.inj h;rw [h5] at h4;refine ⟨h1,h4,?_⟩
  have hall:∀ l:Lp,El (l.filter Cj)=El l->l.filter Cj≠[]->∀ x∈l,Cj x=true:=by
   intro l he hne x hx;have hl:l≠[]:=by rintro rfl;simp at hx
   have e1:=Zl _ hne;have e2:=Zl _ hl;rw [he] at e1
   have key:∀ m:Lp,((m.filter Cj).map fun x=>x.length+1).sum<=(m.map fun x=>x.length+1).sum/\(x∈m->¬ Cj x=true->((m.filter Cj).map fun x=>x.length+1).sum < (m.map fun x=>x.length+1).sum):=by
    intro m
    induction m with
    | nil=>simp
    | cons y m ih =>
     by_cases hy:Cj y=true
     ·
      simp only [X3,hy,if_true,List.map_cons,Ge];refine ⟨by omega,fun hm hk=>?_⟩;rcases Xg.1 hm with rfl | hm
      ·
       exact absurd hy hk
      have:=ih.2 hm hk;omega
     simp only [X3,hy,List.map_cons,Ge];refine ⟨?_,fun hm hk=>?_⟩
     ·
      simp;omega
     simp;omega
   rcases Bool.eq_false_or_eq_true (Cj x) with hk | hk
   ·
    exact hk
   have:=(key l).2 hx (by simp [hk]);omega
  have hne:(Db s).filter Cj≠[]:=by
   intro e;rw [e] at h3;exact h3 rfl
  have:=hall (Db s) (by rw [h5,Qe1]) hne;intro x hx;have hk:=this x hx;simp [Cj] at hk;exact ⟨hk.1,hk.2,fun e=>h2 (e ▸ hx)⟩
 cases h
def P1 (c T:Bs):Prop:=∃ bs,Lx (Cz c 20000) bs/\T=Bh (F6 1 bs ((Cz c 20000).map Cf))
theorem Qhh:∀ (ps:List Bs) (bs cs:List (List Bool)),Lx ps bs->Lx ps cs->bs=cs
 | [],[],[],_,_=>rfl
 | p::ps,b::bs,c::cs,h,k=>by
  obtain ⟨⟨σ,ho,rfl⟩,h2⟩:=h;obtain ⟨⟨τ,hp,rfl⟩,k2⟩:=k;rw [ho.unique hp,Qhh ps bs cs h2 k2]
 | [],_::_,_,h,_=>h.elim
 | [],[],_::_,_,k=>k.elim
 | _::_,[],_,h,_=>h.elim
 | _::_,_::_,[],_,k=>k.elim
theorem P1.unique {c T U:Bs} (h:P1 c T) (k:P1 c U):T=U:=by
 obtain ⟨bs,hb,rfl⟩:=h;obtain ⟨cs,hc,rfl⟩:=k;rw [Qhh _ _ _ hb hc]
theorem P1.pk {c T:Bs} (h:P1 c T) (hc:c.length<=262144):Pk c T:=by
 obtain ⟨bs,hb,rfl⟩:=h;exact ⟨1,20000,bs,by omega,hb,rfl⟩
theorem P1.small {c T:Bs} (h:P1 c T) (hc:c.length<=8192):T.length<=c.length+c.length / 2+600:=by
 have hv:PackOk c 1 20000 (.tuple #[Aa T,.int .i64 0]):=by
  rw [PackOk,if_neg (by omega),if_neg (by omega)];obtain ⟨bs,hb,rfl⟩:=h;exact ⟨bs,hb,rfl⟩
 obtain ⟨U,hU,he,hl⟩:=Qse hv (by omega) (by omega) (by omega) (by omega) (by omega);have:T=U:=by simpa [Aa] using he
 rw [this];exact hl
noncomputable def tS (c:Bs):Bs:=Classical.epsilon (P1 c)
theorem P1.tS {c T:Bs} (h:P1 c T):T=tS c:=h.unique (Classical.epsilon_spec ⟨T,h⟩)
abbrev paxW:Bs:=[112,97,120]
def K5 (p:Bs) (n:Nat):Bs :=
 match Ie p with
 | some q=>Em q.1 q.2 48 n
 | none=>Em [] paxW 120 (p.length+10)++(I0 (Ef p)++Em [] (p.take 100) 48 n)
def Dc (p c T:Bs):Bs:=K5 p c.length++I0 T
noncomputable def makeX (p c:Bs):Except Nat Bs:=if Ei p=some p then (if 8192 < c.length then .error 3 else .ok (Dc p c (tS c))) else .error 140
def Fm (s:Bs):Option (Bs×Nat×UInt8):=if s.length < 512 then none else Qm (s.take 512)
def Md (s:Bs):Option (Bs×Nat) :=
 match Fm s with
 | none=>none
 | some (p,n,k) =>
  if k=120 then
   (if 512 < n∨s.length < 1024∨s.length - 512 < n then none else
    match Mf ((s.drop 512).take n) with
    | some [(_,v)] =>
     (match Fm (s.drop 1024) with
      | some (q,_,k2)=>if k2=48 then some (if v=[] then q else v,1024) else none
      | none=>none)
    | _=>none)
  else if k=48 then some (p,0) else none
noncomputable def readS (s:Bs):Option (Bs×Bs×Nat) :=
 match Md s with
 | none=>none
 | some (p,a) =>
  match Ka s ((a+512:Nat):Int) with
  | .error _=>none
  | .ok (c,_) =>
   match makeX p c with
   | .error _=>none
   | .ok own=>if own.isPrefixOf s then some (p,c,own.length) else none
theorem Qd9 {p:Bs} (h:Ei p=some p):p≠[]/\p.length<=120/\(0:UInt8) ∉ p:=by
 obtain ⟨h1,h2,h3⟩:=Qoa h;refine ⟨?_,h2,fun h0=>?_⟩
 ·
  rintro rfl;exact (h3 [] (by simp [Db,Lm])).1 rfl
 have:=X4.1 h1 0 h0
 revert this;decide
theorem Qlq {p:Bs} (h:(0:UInt8) ∉ p) {pre nm:Bs} (he:(if pre=[] then nm else pre++47::nm)=p):(0:UInt8) ∉ pre/\(0:UInt8) ∉ nm:=by
 subst he;split at h
 ·
  rename_i h0;subst h0;exact ⟨by simp,h⟩
 exact ⟨fun hh=>h (by simp [hh]),fun hh=>h (by simp [hh])⟩
theorem Qkb {p:Bs} (h:Ei p=some p) (n:Nat):(K5 p n).length=if Ie p=none then 1536 else 512:=by
 obtain ⟨h1,h2,h3⟩:=Qd9 h;rw [K5];cases hs:Ie p with
 | some q =>
  obtain ⟨a,b⟩:=q;obtain ⟨q1,q2,_⟩:=W1 hs h1;simp [Nb q1 q2]
 | none =>
  have:=Qa0 hs;simp [Nb (show ([]:Bs).length<=155 by simp) (show paxW.length<=100 by simp),Nb (show ([]:Bs).length<=155 by simp) (Xv 100 p),Rf,Sq];omega
theorem Qma {p c T:Bs} (h:Ei p=some p):(Dc p c T).length % 512=0/\(Dc p c T).length<=T.length+2047/\(T≠[]->512 < (Dc p c T).length)/\(Dc p c T).length=(if Ie p=none then 1536 else 512)+(I0 T).length:=by
 have hl:=Qkb h c.length;have hp:=Rf T;have he:(Dc p c T).length=(if Ie p=none then 1536 else 512)+(I0 T).length:=by rw [Dc,Yb,hl]
 refine ⟨?_,?_,fun hT=>?_,he⟩
 ·
  rw [he,hp];split <;> omega
 ·
  rw [he,hp];split <;> omega
 have:=Xl.2 hT;rw [he,hp];split <;> omega
theorem Qif {pre name:Bs} (h:pre.length<=155) (h2:name.length<=100) (hp:(0:UInt8) ∉ pre) (hn:(0:UInt8) ∉ name) (hne:pre=[]->name≠[]) {kind:UInt8} (hk:kind≠0) {size:Nat} (hs:size < 8 ^ 11) (y:Bs) :
  Fm (Em pre name kind size++y)=some (if pre=[] then name else pre++47::name,size,kind):=by
 have hl:=Nb h h2 kind size;rw [Fm,if_neg (by rw [Yb];omega),Uy hl,Qx7 h h2 hp hn hne hk hs]
theorem Qpw {c T x y:Bs} (h:Pk c T) {a:Nat} (hx:x.length=a):Ka (x++(T++y)) ((a:Nat):Int)=.ok (c,a+T.length):=by
 subst hx;exact h.take x y
theorem Qkc {p c:Bs} (h:Ei p=some p) (hc:c.length<=8192) (ht:P1 c (tS c)) (y:Bs):readS (Dc p c (tS c)++y)=some (p,c,(Dc p c (tS c)).length):=by
 obtain ⟨h1,h2,h3⟩:=Qd9 h;have hm:makeX p c=.ok (Dc p c (tS c)):=by rw [makeX,if_pos h,if_neg (by omega)]
 have hpk:=ht.pk (by omega);have hpre:(Dc p c (tS c)).isPrefixOf (Dc p c (tS c)++y)=true:=List.isPrefixOf_iff_prefix.2 (List.prefix_append _ _)
 suffices hh:∃ a,Md (Dc p c (tS c)++y)=some (p,a)/\Ka (Dc p c (tS c)++y) ((a+512:Nat):Int)=.ok (c,a+512+(tS c).length) by
  obtain ⟨a,e1,e2⟩:=hh;rw [readS,e1];simp only [e2,hm];rw [if_pos hpre]
 generalize tS c=T at *;have hpad:I0 T=T++Bl ((512 - T.length % 512) % 512):=rfl;cases hs:Ie p with
 | some q =>
  obtain ⟨pre,nm⟩:=q;obtain ⟨q1,q2,q3,q4⟩:=W1 hs h1;obtain ⟨z1,z2⟩:=Qlq h3 q4
  have e:Dc p c T++y=Em pre nm 48 c.length++(T++(Bl ((512 - T.length % 512) % 512)++y)):=by
   rw [Dc,K5,hs,hpad];simp
  refine ⟨0,?_,?_⟩
  ·
   rw [e,Md,Qif q1 q2 z1 z2 q3 (by decide) (by omega),q4];rfl
  rw [e,X0];exact Qpw hpk (Nb q1 q2 _ _)
 | none =>
  have h100:=Qa0 hs
  have e:Dc p c T++y=Em [] paxW 120 (p.length+10)++(Ef p++(Bl ((512 - (Ef p).length % 512) % 512)++(Em [] (p.take 100) 48 c.length++(T++(Bl ((512 - T.length % 512) % 512)++y))))):=by
   rw [Dc,K5,hs,hpad,I0];simp
  have l1:=Nb (show ([]:Bs).length<=155 by simp) (show paxW.length<=100 by simp) 120 (p.length+10);have l2:=Nb (show ([]:Bs).length<=155 by simp) (Xv 100 p) 48 c.length;have l3:=Sq p;have hne:p.take 100≠[]:=fun hh=>by have:=congrArg Xs hh;rw [Yu,Y7] at this;omega
  have hz:(0:UInt8) ∉ p.take 100:=fun hh=>h3 (X5 hh);have hh:=Qif (show ([]:Bs).length<=155 by simp) (Xv 100 p) (by simp) hz (fun _=>hne) (show (48:UInt8)≠0 by decide) (show c.length < 8 ^ 11 by omega) (T++(Bl ((512 - T.length % 512) % 512)++y));rw [if_pos rfl] at hh
  have hd:(Dc p c T++y).drop 1024=Em [] (p.take 100) 48 c.length++(T++(Bl ((512 - T.length % 512) % 512)++y)):=by
   rw [show Dc p c T++y=(Em [] paxW 120 (p.length+10)++(Ef p++Bl ((512 - (Ef p).length % 512) % 512)))++(Em [] (p.take 100) 48 c.length++(T++(Bl ((512 - T.length % 512) % 512)++y))) by rw [e];simp];exact Ux (by rw [Yb,Yb,l1,l3,F0];omega)
  have hr:((Dc p c T++y).drop 512).take (p.length+10)=Ef p:=by
   rw [e,Ux l1,Uy l3]
  have hlen:1024<=(Dc p c T++y).length:=by
   rw [e];simp only [Yb,l1,l2,l3];omega
  refine ⟨1024,?_,?_⟩
  ·
   rw [Md,show Fm (Dc p c T++y)=some (paxW,p.length+10,120) by
    rw [e,Qif (by simp) (by simp) (by simp) (by decide) (by simp) (by decide) (by omega),if_pos rfl]]
   have hbad:¬(512 < p.length+10∨(Dc p c T++y).length < 1024∨(Dc p c T++y).length - 512 < p.length+10):=by omega
   simp only [if_true,hbad,if_false,hr,Qya h100 h2,hd,hh,h1]
  rw [show Dc p c T++y=(Em [] paxW 120 (p.length+10)++(Ef p++(Bl ((512 - (Ef p).length % 512) % 512)++Em [] (p.take 100) 48 c.length)))++(T++(Bl ((512 - T.length % 512) % 512)++y)) by rw [e];simp];exact Qpw hpk (by rw [Yb,Yb,Yb,l1,l2,l3,F0];omega)
set_option maxHeartbeats 1000000
theorem bdH {KV:Value->Prop} (s0:ByteArray) (a b c:Int):Cr Yj 53 [(0,.string s0),(2,.int .u8 a),(1,.int .i64 b),(3,.int .i64 c)] KV=KV (.agg #[.string s0,.int .i64 b,.int .u8 a,.int .i64 c,.int .i64 0,.string ⟨#[]⟩,.string ⟨#[]⟩,.string ⟨#[]⟩,.int .i64 0,.int .i64 0]):=Dk (by kernel_rfl)
attribute [go_sem ↓] bdH
theorem Qlr (n:Nat) (w:World) (hn:n<=1000000):Does Yj 50 #[.int .i64 n] w fun v w'=>w'=w/\v=.int .i64 ((n+511) / 512 * 512:Nat):=by
 refine En [.int .i64 n] 8 Tryz.func50 ?_;refine VS [0] ?_;refine VQ [2] fun K hK=>?_;rw [show ((n:Int)+512 - 1) / 512 * 512=((n+511) / 512 * 512:Nat) by omega];refine ⟨Xn (by omega) (by omega),Xn (by omega) (by omega),by omega,by omega,Xn (by omega) (by omega),Xn (by omega) (by omega),?_⟩;apply hK;clear hK;exact Ad (A0 rfl rfl ⟨rfl,rfl⟩)
theorem Qam (p pre nm data:Bs) (k:UInt8) (w:World) (hs:Ie p=some (pre,nm)) (hp:p≠[]) (hpl:p.length<=1000) (h0:(0:UInt8) ∉ p) (hk:k=48∨k=120) (hd:data.length<=262144) :
  Does Yj 26 #[Aa p,.int .u8 k.toNat,Aa data] w fun v w'=>Heap w [] w' []/\v=.tuple #[Aa (Em pre nm k data.length++I0 data),.int .i64 0]:=by
 obtain ⟨q1,q2,q3,q4⟩:=W1 hs hp;refine En [Aa p,.int .u8 k.toNat,Aa data] 34 Tryz.func26 ?_;refine VS [0,1,2] ?_;refine VQ [2,8,9] fun K hK=>?_;refine Ac Tryz.call49 ?_;refine Qs ?_;refine Yi (Qu6 p pre nm k data.length w hs hp hpl h0 hk (by omega)) ?_;rintro v w2 ⟨hH,rfl⟩;(try refine Qs ?_);apply hK;clear hK;refine VS [2,8,9,20] ?_;refine Ae rfl rfl (fun h=>by simp at h) (fun h=>Ab ?_);have hl:=Nb q1 q2 k data.length;refine VQ [6,7] fun K hK=>?_;refine Qo ?_;refine Ac Tryz.call50 ?_;refine Qs ?_;refine Yi (Qlr data.length w2 (by omega)) ?_;rintro v w3 ⟨rfl,rfl⟩;(try refine Qs ?_);rw [show (((data.length+511) / 512 * 512:Nat):Int) - data.length=(((512 - data.length % 512) % 512:Nat):Int) by omega];refine And.intro (Xn (by omega) (by omega)) ?_;refine Ew Um Iz ?_;refine Qs ?_;refine ⟨(512 - data.length % 512) % 512,(512 - data.length % 512) % 512,⟨rfl,rfl,by omega,by omega,by omega⟩,?_⟩;obtain ⟨hH2,hrb⟩:=Qz4 w3 ((512 - data.length % 512) % 512) (by omega);generalize w3.alloc (Yn (Yd ((512 - data.length % 512) % 512) (Up .u8 0)).toArray 5)=w1 at *;generalize w3.heap.size=gb at *;(try refine Qs ?_);refine ⟨Bl ((512 - data.length % 512) % 512),hrb,?_⟩;(try refine Qs ?_);refine And.intro (by rw [Yb,F0];omega) ?_;apply hK;clear hK;refine Ad (A6 rfl rfl rfl ⟨(hH.call0 hH2).sub (Yk _),?_⟩);rw [I0];simp
end Go.Proofs.YtncpabbjpdogjaaGreatDoor
namespace Go.Eng
open Go
def Res.obj (l:Nat) (o:Obj):Res:=⟨[l],fun w=>w.heap[l]? = some o,fun _ _ h hh=>(h l (by simp)).trans hh⟩
theorem Heap.newObj {w0 w:World}{B:List Nat}{G:List Res} (h:Heap w0 B w G) (o:Obj):Heap w0 B (w.alloc o) (Res.obj w.heap.size o::G) :=
 h.new _ (heap_alloc_new w o) (by simp [Res.obj])
theorem Qwk {w:World}{l:Nat}{o:Obj} (h:l < w.heap.size):(w.putObj l o).heap[l]? = some o:=by
 simp [World.putObj,h]
theorem Qwl {w:World}{l k:Nat}{o:Obj} (h:k≠l):(w.putObj l o).heap[k]? = w.heap[k]? := by
 simp only [World.putObj];rw [Array.getElem?_setIfInBounds_ne (by omega)]
theorem Qe2 {w:World}{l:Nat}{o:Obj}:(w.putObj l o).heap.size=w.heap.size:=by simp [World.putObj]
theorem Heap.put {w0 w:World}{B:List Nat}{G:List Res}{l:Nat}{o:Obj} (h:Heap w0 B w (Res.obj l o::G)) (o':Obj):Heap w0 B (w.putObj l o') (Res.obj l o'::G):=by
 have hf:=(h.foot _ (Gg ..) l (by simp [Res.obj])).2
 have hh:Heap w [l] (w.putObj l o') [Res.obj l o'] :=
  ⟨⟨rfl,rfl,rfl,by rw [Qe2];exact Y3 _,fun k _ hk=>Qwl (by simpa using hk)⟩,
   fun r hr=>by simp at hr;subst hr;exact Qwk hf,
   fun r hr b hb=>by simp at hr;subst hr;simp [Res.obj] at hb;subst hb;exact ⟨.inl (by simp),by rw [Qe2];exact hf⟩,
   List.pairwise_singleton _ _⟩
 have:=Heap.call1 0 h rfl hh;simpa using this
theorem Loop.same {r:Loop} (r1:r.state=.ready) (r2:r.pending=none):({ r with state:=.ready,pending:=none }:Loop)=r:=by
 cases r;simp only at r1 r2;subst r1 r2;rfl
def QFf (ms:List Nat):List Res:=ms.map fun r=>Res.obj r (.deferred (some []))
theorem QJq {P:Program}{fn:Func}{F:Value->World->Prop}{Pn:List PanicEntry->World->Prop}{N:Nat}{e:Env}{w0 w:World}{B:List Nat}{ms:List Nat}{G:List Res} (hH:Heap w0 B w (QFf ms++G))
  (hx:∀ w',Heap w0 B w' G->VX ⟨P,fn,F,N⟩ [] .ret e w'):∀ a n,FitsG N (ms.map N7) e a->O3 P fn F Pn .ret a (w.drewN n):=fun a n ha=>by
 show LeavesInM _ _ _ _ _ _ a.defers _ _
 rw [ha.defers]
 have key:∀ (ms:List Nat) (w:World),Heap w0 B w (QFf ms++G)->LeavesInM Fence.wide 0 P fn a.tmps (Wb F Pn) (ms.map N7) .returning (w.drewN n):=by
  intro ms
  induction ms with
  | nil=>intro w hH;exact Zp (hx w hH) ha
  | cons r ms ih =>
   intro w hH;have hp:=Heap.put (l:=r) (o:=.deferred (some [])) hH (.deferred none);exact ⟨by simp,.inl ⟨r,(w.putObj r (.deferred none)).drewN n,rfl,run_takeDeferred (w:=w.drewN n) (hH.at 0 rfl),ih _ (hp.sub (Yz _ _))⟩⟩
 exact key ms w hH
theorem Qwm {r:Loop}{p:Nat}{v:Value}{e:Env} (r3:r.params=#[p]) (hp:p < r.tmps.size) (r8:∀ t v,e.find? t=some v->r.tmps.getD t undef=v) :
  ∀ t u,Env.find? ((p,v)::e) t=some u->((r.params.zip [v].toArray).foldl (fun tmps (t,a)=>tmps.setIfInBounds t a) r.tmps).getD t undef=u:=by
 intro t u ht;rw [r3,show (#[p].zip [v].toArray)=#[(p,v)] by first | rfl | simp | (apply Array.ext';simp)]
 show (r.tmps.setIfInBounds p v).getD t undef=u
 rw [Env.find?] at ht;split at ht
 ·
  rename_i h46;simp only at h46;subst h46;cases ht;rw [Array.getD_eq_getD_getElem?,Array.getElem?_setIfInBounds_self_of_lt hp];rfl
 rename_i h46;rw [Array.getD_eq_getD_getElem?,Array.getElem?_setIfInBounds_ne (by exact fun h=>h46 h.symm),<- Array.getD_eq_getD_getElem?];exact r8 t u ht
theorem Sb {P:Program}{b:Frame}{a:Act}{k:List Item}{cs:List Frame}{w:World}{c:Code}:step P (lone (b.atR a (.code (.scope c)::k)) cs w)=.next (lone (b.atR a (.code c::.inScope c::k)) cs w) :=
 step_lone_go (by simp [stepG,stepG.exec,Frame.atR])
theorem Qi2 {P:Program}{b:Frame}{a:Act}{k:List Item}{cs:List Frame}{w:World}{c:Code}:step P (lone (b.atR a (.inScope c::k)) cs w)=.next (lone (b.atR a k) cs w) :=
 step_lone_go (by simp [stepG,stepG.exec,Frame.atR])
theorem Qsi {F:Fence}{m:Nat}{P:Program}{Q:Exit->Act->World->Prop}{c:Code}{a:Act}{w:World} (h:c.wpIn F m P (fun ex a w=>match ex with | .goto _=>False | ex=>Q ex a w) a w):(Code.scope c).wpIn F m P Q a w:=by
 intro b k cs hro hb hr;have h0:(lone (b.atR a (.code (.scope c)::k)) cs w).fenced P F:=fenced_calm hb hr rfl;obtain ⟨e,a₁,w₁,hq,harr⟩:=h b (.inScope c::k) cs hro hb hr;cases e with
 | normal=>exact ⟨.normal,a₁,w₁,hq,.head h0 Sb (StepsIn.trans harr (.one (fenced_calm hb hr rfl) Qi2))⟩
 | exit id' =>
  have hx:exitTo id' (.inScope c::k)=exitTo id' k:=by simp [exitTo]
  exact ⟨.exit id',a₁,w₁,hq,fun k' hk=>.head h0 Sb (harr.1 k' (by rw [hx];exact hk)),
   fun hr' hk=>let ⟨k₁,h1,h2⟩:=harr.2 hr' (by rw [hx];exact hk);⟨k₁,h1,.head h0 Sb h2⟩⟩
 | goto l=>exact hq.elim
 | ret=>exact ⟨_,a₁,w₁,hq,.of_steps (.one h0 Sb) harr⟩
 | panic ch=>exact ⟨_,a₁,w₁,hq,.of_steps (.one h0 Sb) harr⟩
 | outgrown=>exact ⟨_,a₁,w₁,hq,.of_steps (.one h0 Sb) harr⟩
theorem Qsj {C:F8} (hC:∀ l a w,¬ C.post (.goto l) a w) {k:List It}{l:Nat}{a:Act}{w:World} (h:Ej C k (.goto l) a w):False:=by
 induction k with
 | nil=>exact hC _ _ _ h
 | cons x k ih=>cases x <;> exact ih h
theorem Qzr {C:F8} (hC:∀ l a w,¬ C.post (.goto l) a w) {k:List It}{e:Env}{w:World}{c:Code} (h:VG C (.code c::k) e w):VG C (.code (.scope c)::k) e w:=by
 intro a n ha;have h1:=h a n ha;simp only [Ej] at h1 ⊢;refine Qsi (wpIn_mono h1 fun ex a w hq=>?_);cases ex with
 | goto l=>exact (Qsj hC hq).elim
 | _=>exact hq
theorem Qzs {P:Program}{T E:TypeId}{sz:Nat} (hu:P.underlying T=some (.slice E)) (hsz:P.szo E=some sz) (w:World) :
  (Instr.buildSlice T 0 #[]).run P w=.ok (.slice (some ⟨w.heap.size,0,none⟩) 0 0) (w.alloc (.cells #[] E)):=by
 have hso:=I4 (P:=P) hsz;simp only [Instr.buildSlice,Uv,run_underlying hu,hso,Un];rw [if_neg (by simp),if_pos (by simp)];have hf:Instr.fill (fun i=>some (i * sz,sz)) (#[]:Array Value) []=some #[]:=rfl;have e2:((Array.range (0 * sz)).map fun x=>(#[]:Array Value)[x % (#[]:Array Value).size]!)=#[]:=by rw [Nat.zero_mul];simp
 simp only [Uv,Sem.run_pure,Un,e2,hf,M8]
theorem Qkd {P:Program}{N:Nat}{d:Option Tmp}{ty:Nat}{pos:String}{af:Array Edge}{gd:Option (Nat×Bool)}{e:Env}{w:World}{R:Env->World->(Env->World->Prop)->Prop}{K:Env->World->Prop}{w0:World}{B:List Nat}{G:List Res} (hH:Heap w0 B w G) (k:Nat) {T E:TypeId}{z:Value}
  (hu:P.underlying T=some (.slice E)) (hsz:P.szo E=some k) (hz:P.zeroOf E=some z) (hzl:z.cells.toList.length=k)
  (h:∀ g w',Heap w0 B w' (Yf E k (some ⟨g,0,none⟩) 0 0 []::G)->R (e.put d (.slice (some ⟨g,0,none⟩) 0 0)) w' K) :
  Cp P N ⟨d,.buildSlice T 0 #[],ty,pos,af,gd⟩ e w R K:=by
 refine M7 fun a m ha=>⟨.slice (some ⟨w.heap.size,0,none⟩) 0 0,w.alloc (.cells #[] E),m,?_,?_⟩
 ·
  have hr:=Qzs (P:=P) hu hsz (w.drewN m);simp only [execOp,Uv,Array.map_empty,Sem.run_pure];rw [hr];rfl
 have:=hH.row E (n:=0) (cap:=0) (sz:=k) [] [] (by simp) (by simp) (Y3 _) (by omega);exact h _ _ this
end Go.Eng
namespace Go.Proofs.YtncpabbjpdogjaaGreatDoor
open Go Go.Eng
set_option maxHeartbeats 1000000
abbrev slV:Value:=Aa [47]
abbrev L8 (a:Option Addr) (l:List (List UInt8)) (c:Nat):Res:=Yf 9 1 a l.length c (N9 l)
theorem Qls {l:List UInt8}{i f:Nat} (hf:f<=i) (hi:i < l.length) (h:(47:UInt8) ∉ (l.drop f).take (i - f)) (hb:l.getD i 0≠47):(47:UInt8) ∉ (l.drop f).take (i+1 - f):=by
 have h1:(l.drop f)[i - f]? = some (l.getD i 0):=by
  rw [Uf,show f+(i - f)=i by omega,Yp,Yl hi];rfl
 rw [show i+1 - f=(i - f)+1 by omega,Qb3 h1,X8];simp only [Xw,not_or];exact ⟨h,fun e=>hb e.symm⟩
theorem Qzt {l:List UInt8}{i f:Nat} (hf:f<=i) (hi:i < l.length) (h:(47:UInt8) ∉ (l.drop f).take (i - f)) (hb:l.getD i 0=47):Db (l.drop f)=(l.drop f).take (i - f)::Db (l.drop (i+1)):=by
 have h1:l.drop f=(l.drop f).take (i - f)++47::l.drop (i+1):=by
  conv=>lhs;rw [<- X2 (i - f) (l.drop f)]
  congr 1
  rw [U6,show f+(i - f)=i by omega,Uj hi]
  congr 1
  rw [<- hb,Yp,Yl hi];rfl
 conv=>lhs;rw [h1]
 exact Qcl _ h
theorem Qsk {l:List UInt8}{f:Nat} (hf:f<=l.length) (h:(47:UInt8) ∉ (l.drop f).take (l.length - f)):Db (l.drop f)=[(l.drop f).take (l.length - f)]:=by
 have h1:(l.drop f).take (l.length - f)=l.drop f:=Xf (by simp);rw [h1] at h ⊢;exact Qcm h
theorem i47 (b:UInt8):((b.toNat:Int)=47) ↔ b=47:=by
 constructor
 ·
  intro h;have e:(47:UInt8).toNat=47:=rfl;exact UInt8.toNat_inj.1 (by omega)
 rintro rfl;rfl
def QEt (l gs:Nat) (s:List UInt8) (w0:World) (PI:Lp->List Res->Prop) (PE:List Res->Prop):Prop :=
 ∀ x rest G FR w,x.length<=s.length->PI (x::rest) G->Heap w0 [] w (G++Ya gs 9 [Aa s]::FR) ->
  YieldK Yj l [Aa x] w fun v w'=>∃ G',Heap w0 [] w' (G'++Ya gs 9 [Aa s]::FR)/\(v=.bool true/\PI rest G'∨v=.bool false/\PE G')
abbrev yV (l:Nat):Value:=.func (.yield l) #[] #[]
abbrev Mi (g:Nat):Value:=.pointer (some ⟨g,0,none⟩)
theorem Qi3 (l gs:Nat) (s:List UInt8) (hs:s.length<=140737488355328) (w0:World) (PI:Lp->List Res->Prop) (PE:List Res->Prop) (hR:QEt l gs s w0 PI PE) (G FR:List Res) (hG:PI (Db s) G) (w:World)
  (hH:Heap w0 [] w (G++Ya gs 9 [Aa s]::FR)) :
  DoesP Yj 86 #[yV l,Mi gs] w (fun _ w'=>∃ G',Heap w0 [] w' (G'++Ya gs 9 [Aa s]::FR)/\(PI [] G'∨PE G')) Rv:=by
 refine Tt (args:=[yV l,Mi gs]) 30 Tryz.func86 rfl rfl (of_decide_eq_true rfl) ?_;simp only [Env.ofArgs];(repeat with_reducible refine Ba ?_);refine C4 [0,1,3] (by kernel_rfl) fun K hK=>?_;simp only [go_sem,↓reduceIte,reduceEqDiff]
 (refine hK _ _ ?_;clear hK)
 (repeat with_reducible refine Ba ?_);refine C4 [0,1,3,4] (by kernel_rfl) fun K hK=>?_;simp only [go_sem,↓reduceIte,reduceEqDiff]
 (refine hK _ _ ?_;clear hK)
 ((repeat with_reducible refine Ba ?_);refine Na ?_)
 refine Qht [0,1,3,4] (fun m e w=>∃ (f i:Nat) (G:List Res),Is e [(0,yV l),(1,Mi gs),(3,.int .i64 f),(4,.int .i64 i)]/\Heap w0 [] w (G++Ya gs 9 [Aa s]::FR)/\f<=i/\m=s.length+1 - i /\
   (i<=s.length/\(47:UInt8) ∉ (s.drop f).take (i - f)/\PI (Db (s.drop f)) G∨i=s.length+1/\PI [] G)) (s.length+1) ?_ ?_
 ·
  simp only [go_sem,↓reduceIte,reduceEqDiff];exact ⟨0,0,G,rfl,hH,Y3 _,rfl,.inl ⟨by omega,by simp,hG⟩⟩
 clear hG hH w G;rintro m e w ⟨f,i,G,rfl,hH,hfi,rfl,hst⟩;have hHs:Heap w0 [] w (Ya gs 9 [Aa s]::(G++FR)):=hH.perm List.perm_middle;have c1:w.cell? ⟨gs,0,none⟩=some (Aa s):=Aj (hHs.at 0 rfl) rfl;(repeat with_reducible refine Ba ?_);refine C4 [0,1,3,4,8] (by kernel_rfl) fun K hK=>?_;simp only [go_sem,↓reduceIte,reduceEqDiff];refine ⟨_,c1,?_⟩;(try simp only [go_sem,↓reduceIte,reduceEqDiff])
 (refine hK _ _ ?_;clear hK)
 (repeat with_reducible refine Ba ?_);refine Ea rfl rfl (fun h=>?_) (fun h=>?_)
 ·
  simp only [decide_eq_true_eq] at h;obtain ⟨hi,hno,hPI⟩:=hst.resolve_right (fun hh=>by omega);refine Im ?_
  ((repeat with_reducible refine Ba ?_);refine Na ?_)
  (repeat with_reducible refine Ba ?_);refine C4 [0,1,3,4,20] (by kernel_rfl) fun K hK=>?_;simp only [go_sem,↓reduceIte,reduceEqDiff]
  suffices out:∀ b:Bool,(b=true ↔ i=s.length∨i < s.length/\s.getD i 0=47)->K [(0,yV l),(1,Mi gs),(3,.int .i64 f),(4,.int .i64 i),(20,.bool b)] w by
   (try simp only [go_sem,↓Qz3 c1,↓reduceIte,reduceEqDiff]);refine And.intro (fun h1=>And.intro (by omega) (out _ ?_)) (fun h1=>out _ ?_)
   ·
    rw [decide_eq_true_eq,i47];constructor
    ·
     exact fun h=>.inr ⟨by omega,h⟩
    rintro (h | h)
    ·
     omega
    exact h.2
   simp only [true_iff];exact .inl (by omega)
  intro b hb
  (refine hK _ _ ?_;clear hK)
  (repeat with_reducible refine Ba ?_);refine Ea rfl rfl (fun h2=>?_) (fun h2=>?_)
  ·
   have h3:=hb.1 h2;clear hb h2 h
   have hnext:PI ((s.drop f).take (i - f)::(if i=s.length then [] else Db (s.drop (i+1)))) G:=by
    rcases h3 with h3 | ⟨h3,h4⟩
    ·
     subst h3;rw [Qsk hfi hno] at hPI;rw [if_pos rfl];exact hPI
    rw [Qzt hfi h3 hno h4] at hPI;rw [if_neg (by omega)];exact hPI
   (repeat with_reducible refine Ba ?_);refine Oq [0,1,4,27] [5] (by kernel_rfl) fun K hK=>?_;simp only [go_sem,U8,U5,U9,U7,↓reduceIte,reduceEqDiff];refine ⟨_,c1,?_⟩;(try simp only [go_sem,↓reduceIte,reduceEqDiff]);refine ⟨⟨by omega,by omega⟩,?_⟩;(try simp only [go_sem,↓reduceIte,reduceEqDiff]);refine Qee ?_;simp only [go_sem,↓reduceIte,reduceEqDiff];refine ⟨l,rfl,(hR _ _ G FR w (by simp;omega) hnext hH).mono ?_⟩;rintro v w2 ⟨G2,hH2,hv⟩;clear hH hHs c1 hPI hnext;rcases hv with ⟨rfl,hPI⟩ | ⟨rfl,hPE⟩
   ·
    (try simp only [go_sem,↓reduceIte,reduceEqDiff])
    (refine hK _ _ ?_;clear hK)
    (repeat with_reducible refine Ba ?_);refine Ea rfl rfl (fun h=>by simp at h) (fun h=>Im ?_);clear h;(repeat with_reducible refine Ba ?_);refine C4 [0,1,3,4] (by kernel_rfl) fun K hK=>?_;simp only [go_sem,↓reduceIte,reduceEqDiff]
    ((repeat refine And.intro (by omega) ?_);refine hK _ _ ?_;clear hK)
    refine Oz ?_;(repeat with_reducible refine Ba ?_);refine C4 [0,1,3,4] (by kernel_rfl) fun K hK=>?_;simp only [go_sem,↓reduceIte,reduceEqDiff]
    ((repeat refine And.intro (by omega) ?_);refine hK _ _ ?_;clear hK)
    refine Zo ?_;simp only [go_sem,↓reduceIte,reduceEqDiff];by_cases he:i=s.length
    ·
     rw [if_pos he] at hPI;exact ⟨s.length+1 - (i+1),by omega,i+1,i+1,G2,rfl,hH2,Y3 _,rfl,.inr ⟨by omega,hPI⟩⟩
    rw [if_neg he] at hPI;exact ⟨s.length+1 - (i+1),by omega,i+1,i+1,G2,rfl,hH2,Y3 _,rfl,.inl ⟨by omega,by simp,hPI⟩⟩
   (try simp only [go_sem,↓reduceIte,reduceEqDiff])
   (refine hK _ _ ?_;clear hK)
   (repeat with_reducible refine Ba ?_);refine Ea rfl rfl (fun h=>?_) (fun h=>by simp at h);exact N3 (S8 (Km rfl ⟨G2,hH2,.inr hPE⟩))
  have h3:¬ (i=s.length∨i < s.length/\s.getD i 0=47):=fun hh=>by rw [hb.2 hh] at h2;cases h2
  have h4:i < s.length:=by omega
  have h5:s.getD i 0≠47:=fun e=>h3 (.inr ⟨h4,e⟩);refine Im ?_;refine Oz ?_;(repeat with_reducible refine Ba ?_);refine C4 [0,1,3,4] (by kernel_rfl) fun K hK=>?_;simp only [go_sem,↓reduceIte,reduceEqDiff]
  ((repeat refine And.intro (by omega) ?_);refine hK _ _ ?_;clear hK)
  refine Zo ?_;simp only [go_sem,↓reduceIte,reduceEqDiff];exact ⟨s.length+1 - (i+1),by omega,f,i+1,G,rfl,hH,by omega,rfl,.inl ⟨by omega,Qls hfi h4 hno h5,hPI⟩⟩
 simp only [decide_eq_false_iff_not] at h;rcases hst with ⟨hi,hno,hPI⟩ | ⟨hi,hPI⟩
 ·
  omega
 refine St rfl ?_;exact Ng (QJk (Km rfl ⟨G,hH,.inl hPI⟩))
@[simp] theorem strsLen9 (l:List (List UInt8)):(N9 l).length=l.length:=by simp [N9]
theorem Qhi (l:Lp) (a:Option Addr) (c:Nat) (w:World) (h:(L8 a l c).holds w) (h1:l.length<=140737488355328) (h2:(El l).length<=140737488355328) :
  Does Yj 87 #[.slice a l.length c,slV] w fun v w'=>Heap w [] w' []/\v=Aa (El l):=by
 obtain ⟨_,r2,r3,r4⟩:=h;by_cases hl:l=[]
 ·
  subst hl;intro n;refine (Go.Proofs.Any.strings_Join_none Qhv Wv a c ⟨#[47]⟩ (w.drewN n)).mono fun e w' ⟨he,hw⟩=>⟨_,w,n,he,hw,Xe w,rfl⟩
 rcases r4 with ⟨_,r5,_⟩ | ⟨g,rest,fz,rfl,hg,hlen,_⟩
 ·
  exact absurd (Y4 r5) hl
 have hcell:∀ (j:Nat) (x:ByteArray),(l.map fun s=>(⟨s.toArray⟩:ByteArray))[j]? = some x->w.cell? ⟨g,0+j,none⟩=some (.string x):=by
  intro j x hx;rw [Yx] at hx;cases hj:l[j]? with
  | none=>rw [hj] at hx;cases hx
  | some s =>
   rw [hj] at hx;cases hx;rw [X0,cell_of_row w g j _ _ _ hg];have hlt:=(Xb.1 hj).1
   show (N9 l++rest).toArray[j]? = _
   rw [List.getElem?_toArray,Xc (by simpa using hlt),Quw hj]
 have hmm:(l.map fun s=>(⟨s.toArray⟩:ByteArray)).map (·.data.toList)=l:=by
  rw [List.map_map];exact List.map_id _
 intro n;have hm:=Go.Proofs.Any.strings_Join Qhv Wv g 0 c (l.map fun s=>(⟨s.toArray⟩:ByteArray)) ⟨#[47]⟩ (w.drewN n) (fun j x hx=>hcell j x hx) (Array.getElem?_eq_some_iff.1 hg).1 (by simpa using h1) (by simpa using r2) (by rw [hmm];exact h2);rw [hmm,Uw] at hm;exact hm.mono fun e w' ⟨he,hw⟩=>⟨_,w',0,he,rfl,⟨⟨hw.os,hw.tape,hw.output,hw.size,fun k hk _=>hw.block k hk⟩,by simp,by simp,.nil⟩,rfl⟩
theorem Zd {s:List UInt8}{dn rest:Lp} (h:dn++rest=Db s):dn.length<=s.length+1/\(El (dn.filter Cj)).length<=s.length/\(dn.filter Cj).length<=s.length+1:=by
 have h1:=Qsh s;rw [<- h,Yb] at h1;have h2:=List.length_filter_le Cj dn;have h3:=Qga dn;refine ⟨by omega,Ua h3 ?_,by omega⟩;have h4:=Qe1 s;rw [<- h] at h4;by_cases hd:dn=[]
 ·
  subst hd;simp [Qwi]
 by_cases hr:rest=[]
 ·
  subst hr;rw [Yr] at h4;rw [h4];exact Y3 _
 rw [Qwj hd hr] at h4;rw [<- h4];simp
theorem Qob (s:List UInt8) (w:World) (hs:s.length<=1000000000):Does Yj 48 #[Aa s] w fun v w'=>Heap w [] w' []/\v=QAe (Ei s):=by
 refine Qay (args:=[Aa s]) 53 Tryz.func48 rfl rfl (of_decide_eq_true rfl) ?_;simp only [Env.ofArgs,Gd];(repeat with_reducible refine Ba ?_);refine C4 [1] (by kernel_rfl) fun K hK=>?_;simp only [go_sem,↓reduceIte,reduceEqDiff];refine Dx ?_;simp only [go_sem,↓reduceIte,reduceEqDiff];have hH:=(Xe w).box 9 [Aa s];generalize w.alloc (Yn [Aa s].toArray 9)=w1 at *;generalize w.heap.size=gs at *
 (refine hK _ _ ?_;clear hK)
 (repeat with_reducible refine Ba ?_);refine Qzr (fun l a w=>id) ?_;(repeat with_reducible refine Ba ?_);refine C4 [1,4] (by kernel_rfl) fun K hK=>?_;simp only [go_sem,↓reduceIte,reduceEqDiff];refine Qkd hH 1 Xx sz9 (z:=Xo ⟨#[]⟩) (by kernel_rfl) rfl fun ga w2 hH2=>?_;(try simp only [go_sem,↓reduceIte,reduceEqDiff]);refine A7 (.slice none 0 0) (by kernel_rfl) ?_;simp only [go_sem,↓reduceIte,reduceEqDiff];have hH3:=hH2.box 148 [.slice none 0 0];generalize w2.alloc (Yn [Y8 none 0 0].toArray 148)=w3 at *;generalize w2.heap.size=go at *;refine Af ?_;simp only [go_sem,↓reduceIte,reduceEqDiff];refine Al hH3 0 (vs:=[.slice (some ⟨ga,0,none⟩) 0 0]) rfl rfl (by kernel_rfl) (by first | decide | (simp;done) | (simp;omega)) (by simp [Yg]) fun w6 hH4=>?_;(try simp only [go_sem,↓reduceIte,reduceEqDiff]);have hH4:Heap w [] w6 [Ya go 148 [.slice (some ⟨ga,0,none⟩) 0 0],L8 (some ⟨ga,0,none⟩) [] 0,Ya gs 9 [Aa s]]:=hH4;clear hH hH2 hH3
 (refine hK _ _ ?_;clear hK)
 (repeat with_reducible refine Ba ?_);refine C4 [1,4,5] (by kernel_rfl) fun K hK=>?_;simp only [go_sem,↓reduceIte,reduceEqDiff]
 (refine hK _ _ ?_;clear hK)
 have c1:w6.cell? ⟨gs,0,none⟩=some (Aa s):=Aj (hH4.at 2 rfl) rfl;(repeat with_reducible refine Ba ?_);refine C4 [1,4,5,13,14] (by kernel_rfl) fun K hK=>?_;simp only [go_sem,↓reduceIte,reduceEqDiff];refine ⟨_,c1,?_⟩;(try simp only [go_sem,↓reduceIte,reduceEqDiff])
 (refine hK _ _ ?_;clear hK)
 ((repeat with_reducible refine Ba ?_);refine Na ?_)
 refine Qht [1,4,5,13,14] (fun m e w'=>∃ (i:Nat),Is e [(1,Mi gs),(4,Mi go),(5,.func (.func 86) #[] #[Mi gs]),(13,.int .i64 s.length),(14,.int .i64 i)]/\Is w' w6/\i<=s.length/\(s.take i).all O8=true/\m=s.length - i) s.length ?_ ?_
 ·
  simp only [go_sem,↓reduceIte,reduceEqDiff];exact ⟨0,rfl,rfl,by omega,by simp,rfl⟩
 rintro m e w' ⟨i,rfl,rfl,hi,hall,rfl⟩;(repeat with_reducible refine Ba ?_);refine C4 [1,4,5,13,14,15] (by kernel_rfl) fun K hK=>?_;simp only [go_sem,↓reduceIte,reduceEqDiff]
 (refine hK _ _ ?_;clear hK)
 (repeat with_reducible refine Ba ?_);refine Ea rfl rfl (fun h=>?_) (fun h=>?_)
 ·
  simp only [decide_eq_true_eq] at h;have hi2:i < s.length:=by omega
  refine Im ?_
  ((repeat with_reducible refine Ba ?_);refine Na ?_)
  (repeat with_reducible refine Ba ?_);refine C4 [1,4,5,6,13,14] (by kernel_rfl) fun K hK=>?_;simp only [go_sem,↓reduceIte,reduceEqDiff]
  (refine hK _ _ ?_;clear hK)
  (repeat with_reducible refine Ba ?_);refine C4 [1,4,5,13,14,26] (by kernel_rfl) fun K hK=>?_;simp only [go_sem,↓reduceIte,reduceEqDiff];(try simp only [go_sem,↓Qz3 c1,↓reduceIte,reduceEqDiff])
  suffices out:∀ b:Bool,(b=true ↔ O8 (s.getD i 0)=false)->K [(1,Mi gs),(4,Mi go),(5,.func (.func 86) #[] #[Mi gs]),(13,.int .i64 s.length),(14,.int .i64 i),(26,.bool b)] w' by
   have e:O8 (s.getD i 0)=false ↔ ¬ (32<=(s.getD i 0).toNat/\(s.getD i 0).toNat<=126):=by
    cases h:O8 (s.getD i 0) <;> simp [O8] at h ⊢ <;> omega
   refine And.intro (by omega) (And.intro (fun h1=>And.intro (by omega) (out _ ?_)) (fun h1=>out _ ?_))
   ·
    rw [e,decide_eq_true_eq];omega
   rw [e];simp only [true_iff];omega
  intro b hb
  (refine hK _ _ ?_;clear hK)
  (repeat with_reducible refine Ba ?_);refine Ea rfl rfl (fun h2=>?_) (fun h2=>Im ?_)
  ·
   have hbad:=hb.1 h2
   have hno:Ei s=none:=by
    unfold Ei;rw [if_neg];rintro ⟨ha,_⟩;rw [X4] at ha;have:=ha (s.getD i 0) (by rw [Yp,Yl hi2];exact Uo hi2);rw [this] at hbad;cases hbad
   (repeat with_reducible refine Ba ?_);refine C4 [2,3] (by kernel_rfl) fun K hK=>?_;simp only [go_sem,↓reduceIte,reduceEqDiff]
   (refine hK _ _ ?_;clear hK)
   exact N3 (S8 (A6 rfl rfl rfl ⟨hH4.sub (Yk _),by rw [hno];rfl⟩))
  have hok:O8 (s.getD i 0)=true:=by
   cases h5:O8 (s.getD i 0)
   ·
    have:=hb.2 h5;rw [this] at h2;cases h2
   rfl
  refine Oz ?_;(repeat with_reducible refine Ba ?_);refine C4 [1,4,5,13,14] (by kernel_rfl) fun K hK=>?_;simp only [go_sem,↓reduceIte,reduceEqDiff]
  ((repeat refine And.intro (by omega) ?_);refine hK _ _ ?_;clear hK)
  refine Zo ?_;simp only [go_sem,↓reduceIte,reduceEqDiff];refine ⟨s.length - (i+1),by omega,i+1,rfl,rfl,by omega,?_,rfl⟩;rw [Qb3 (Yl hi2),List.all_append,hall];rw [Yp,Yl hi2] at hok;simpa using hok
 simp only [decide_eq_false_iff_not] at h;obtain rfl:i=s.length:=by omega
 rw [Ur] at hall;clear h c1;refine St rfl ?_;(repeat with_reducible refine Ba ?_);refine C4 [4,5,7] (by kernel_rfl) fun K hK=>?_;simp only [go_sem,↓reduceIte,reduceEqDiff];refine A7 (.bool false) (by kernel_rfl) ?_;simp only [go_sem,↓reduceIte,reduceEqDiff];have hH5:=hH4.box 4 [.bool false];generalize w'.alloc (Yn [Gv false].toArray 4)=w7 at *;generalize w'.heap.size=gb at *;refine Af ?_;simp only [go_sem,↓reduceIte,reduceEqDiff];refine Al hH5 0 (vs:=[.bool false]) rfl rfl (by kernel_rfl) (by first | decide | (simp;done) | (simp;omega)) (by simp [Yg]) fun w6 hH6=>?_;(try simp only [go_sem,↓reduceIte,reduceEqDiff]);have hH6:Heap w [] w6 [Ya gb 4 [.bool false],Ya go 148 [.slice (some ⟨ga,0,none⟩) 0 0],L8 (some ⟨ga,0,none⟩) [] 0,Ya gs 9 [Aa s]]:=hH6;clear hH4 hH5
 (refine hK _ _ ?_;clear hK)
 (repeat with_reducible refine Ba ?_);refine Qx1 ?_;(repeat with_reducible refine Ba ?_);refine C4 [4,7,28] (by kernel_rfl) fun K hK=>?_;simp only [go_sem,↓reduceIte,reduceEqDiff]
 (refine hK _ _ ?_;clear hK)
 ((repeat with_reducible refine Ba ?_);refine Na ?_)
 refine Qct rfl rfl (fun _ _=>rfl) fun r r1 r2 r3 r4 r5 r6 r7 r8=>?_;generalize hdr:w6.heap.size=dr at *;have hH7:=(hH6.newObj (.deferred (some []))).newObj (.loop r);rw [show (w6.alloc (.deferred (some []))).heap.size=dr+1 by rw [<- hdr];show (w6.heap.push _).size=_;rw [Array.size_push],hdr] at hH7;clear r6 hH6;generalize (w6.alloc (Obj.deferred (some []))).alloc (Ug r)=wl at *;have hr:=Loop.same r1 r2
 have hH8:Heap w [] wl ([Res.obj (dr+1) (.loop r),Ya go 148 [.slice (some ⟨ga,0,none⟩) 0 0],L8 (some ⟨ga,0,none⟩) [] 0,Ya gb 4 [.bool false]]++Ya gs 9 [Aa s]::[Res.obj dr (.deferred (some []))]):=by
  refine hH7.perm ?_;refine List.Perm.cons _ ?_;refine (Xj (l₁:=[Res.obj dr (.deferred (some []))]) (l₂:=_)).trans ?_;refine (Xj (l₁:=[Ya gb 4 [.bool false]]) (l₂:=[Ya go 148 [.slice (some ⟨ga,0,none⟩) 0 0],L8 (some ⟨ga,0,none⟩) [] 0])).append_right _
 clear hH7
 refine (Qi3 (dr+1) gs s (by omega) w
  (fun l0 G0=>∃ (dn:Lp) (a:Option Addr) (c:Nat),dn++l0=Db s/\([46,46]:List UInt8) ∉ dn/\G0=[Res.obj (dr+1) (.loop r),Ya go 148 [.slice a (dn.filter Cj).length c],L8 a (dn.filter Cj) c,Ya gb 4 [.bool false]])
  (fun G0=>([46,46]:List UInt8)∈Db s/\∃ (dn rest:Lp) (a:Option Addr) (c:Nat),dn++rest=Db s/\G0=[Res.obj (dr+1) (.loop { r with state:=.done,pending:=some (.exit 2) }),Ya go 148 [.slice a (dn.filter Cj).length c],L8 a (dn.filter Cj) c,Ya gb 4 [.bool true]]) ?_
  _ [Res.obj dr (.deferred (some []))] ⟨[],some ⟨ga,0,none⟩,0,rfl,by simp,rfl⟩ wl hH8).mono ?_ (fun _ _ h=>h)
 ·
  rintro x rest _ FR w7 hx ⟨dn,a0,c,hdn,hno,rfl⟩ hH9;have hb:=Zd hdn;have hb2:=Zd (s:=s) (dn:=dn++[x]) (rest:=rest) (by simpa using hdn);refine Qcu (N:=53) (e:=(29,Aa x)::[(4,Mi go),(7,Mi gb),(28,.func (.func 86) #[] #[Mi gs])]) (hH9.at 0 rfl) r1 r7 (by rw [r3];rfl) (Qwm r3 (by rw [r7];decide) r8) ?_;refine (congrArg (fun c=>VG _ [.code c] _ _) r4).mpr ?_;(repeat with_reducible refine Ba ?_);refine C4 [4,7,8] (by kernel_rfl) fun K hK=>?_;simp only [go_sem,↓reduceIte,reduceEqDiff]
  (refine hK _ _ ?_;clear hK)
  refine Ng fun a n hf=>⟨rfl,_,_,n,rfl,hf,hH9.at 0 rfl,?_⟩;have hHd:Heap w [] _ (Res.obj (dr+1) (.loop { r with state:=.busy })::Ya go 148 [.slice a0 (dn.filter Cj).length c]::L8 a0 (dn.filter Cj) c::Ya gb 4 [.bool false]::Ya gs 9 [Aa s]::FR):=Heap.put hH9 (.loop { r with state:=.busy });generalize w7.putObj (dr+1) (Ug { r with state:=.busy })=wb at *;clear hH9 hf a n;have hpi:dn++[x]++rest=Db s:=by simpa using hdn
  refine (congrArg (fun c=>VG _ [.code c] _ _) r5).mpr ?_
  have goOn:∀ {a:Option Addr}{c:Nat}{wz:World},x≠[46,46]->Heap w [] wz (Res.obj (dr+1) (.loop { r with state:=.busy })::Ya go 148 [.slice a ((dn++[x]).filter Cj).length c]::L8 a ((dn++[x]).filter Cj) c::Ya gb 4 [.bool false]::Ya gs 9 [Aa s]::FR) ->
    ∃ G',Heap w [] (wz.putObj (dr+1) (.loop { r with state:=.ready,pending:=none })) (G'++Ya gs 9 [Aa s]::FR)/\(Gv true=.bool true/\(∃ (dn:Lp) (a:Option Addr) (c:Nat),dn++rest=Db s/\([46,46]:List UInt8) ∉ dn/\G'=[Res.obj (dr+1) (.loop r),Ya go 148 [.slice a (dn.filter Cj).length c],L8 a (dn.filter Cj) c,Ya gb 4 [.bool false]]) ∨
     Gv true=.bool false/\([46,46]:List UInt8)∈Db s/\∃ (dn rest:Lp) (a:Option Addr) (c:Nat),dn++rest=Db s/\G'=[Res.obj (dr+1) (.loop { r with state:=.done,pending:=some (.exit 2) }),Ya go 148 [.slice a (dn.filter Cj).length c],L8 a (dn.filter Cj) c,Ya gb 4 [.bool true]]):=by
   intro a c wz hx2 hh;rw [hr];refine ⟨_,hh.put (.loop r),.inl ⟨rfl,dn++[x],a,c,hpi,?_,rfl⟩⟩;rw [X8,Xw];rintro (h | h)
   ·
    exact hno h
   exact hx2 h.symm
  ((repeat with_reducible refine Ba ?_);refine Na ?_)
  (repeat with_reducible refine Ba ?_);refine C4 [4,7,8,30] (by kernel_rfl) fun K hK=>?_;simp only [go_sem,↓reduceIte,reduceEqDiff]
  (refine hK _ _ ?_;clear hK)
  ((repeat with_reducible refine Ba ?_);refine Na ?_)
  (repeat with_reducible refine Ba ?_);refine C4 [4,7,8,30,31] (by kernel_rfl) fun K hK=>?_;simp only [go_sem,↓reduceIte,reduceEqDiff]
  (refine hK _ _ ?_;clear hK)
  (repeat with_reducible refine Ba ?_);by_cases hx0:x=[]
  ·
   subst hx0;refine Ea rfl rfl (fun h=>Im ?_) (fun h=>by simp at h);refine Ea rfl rfl (fun h=>?_) (fun h=>by simp at h);refine St rfl ?_;refine Ng fun a n hf=>⟨_,n,rfl,hHd.at 0 rfl,?_⟩;refine goOn (a:=a0) (c:=c) (by simp) ?_;rw [Uh,show ([[]]:Lp).filter Cj=[] from rfl,Yr];exact hHd
  refine Ea rfl rfl (fun h=>by simp at h;exact absurd h hx0) (fun h=>?_);clear h;(repeat with_reducible refine Ba ?_);refine C4 [4,7,8,30,31] (by kernel_rfl) fun K hK=>?_;simp only [go_sem,↓reduceIte,reduceEqDiff]
  (refine hK _ _ ?_;clear hK)
  (repeat with_reducible refine Ba ?_);by_cases hx1:x=[46]
  ·
   subst hx1;refine Ea rfl rfl (fun h=>?_) (fun h=>by simp at h);refine St rfl ?_;refine Ng fun a n hf=>⟨_,n,rfl,hHd.at 0 rfl,?_⟩;refine goOn (a:=a0) (c:=c) (by simp) ?_;rw [Uh,show ([[46]]:Lp).filter Cj=[] from rfl,Yr];exact hHd
  refine Ea rfl rfl (fun h=>by simp at h;exact absurd h hx1) (fun h=>?_);clear h;(repeat with_reducible refine Ba ?_);refine C4 [4,7,8,30,34] (by kernel_rfl) fun K hK=>?_;simp only [go_sem,↓reduceIte,reduceEqDiff]
  (refine hK _ _ ?_;clear hK)
  (repeat with_reducible refine Ba ?_);by_cases hx2:x=[46,46]
  ·
   subst hx2;refine Ea rfl rfl (fun h=>?_) (fun h=>by simp at h);(repeat with_reducible refine Ba ?_);refine C4 [4] (by kernel_rfl) fun K hK=>?_;simp only [go_sem,↓reduceIte,reduceEqDiff];refine Af ?_;simp only [go_sem,↓reduceIte,reduceEqDiff];refine Al hHd 3 (vs:=[.bool true]) rfl rfl (by kernel_rfl) (by first | decide | (simp;done) | (simp;omega)) (by simp [Yg]) fun w6 hHe=>?_;(try simp only [go_sem,↓reduceIte,reduceEqDiff])
   (refine hK _ _ ?_;clear hK)
   refine Qqs rfl fun a n hf=>?_;refine ⟨_,n,rfl,hHe.at 0 rfl,_,hHe.put (.loop { r with state:=.done,pending:=some (.exit 2) }),.inr ⟨rfl,?_,dn,[46,46]::rest,_,_,hdn,rfl⟩⟩;rw [<- hdn];simp
  refine Ea rfl rfl (fun h=>by simp at h;exact absurd h hx2) (fun h=>Im ?_);clear h;refine Oz ?_;have hkp:Cj x=true:=by simp [Cj,hx0,hx1]
  have hf1:(dn++[x]).filter Cj=dn.filter Cj++[x]:=by simp [Uh,hkp]
  have hf2:((dn++[x]).filter Cj).length=(dn.filter Cj).length+1:=by rw [hf1];simp
  (repeat with_reducible refine Ba ?_);refine C4 [4,7] (by kernel_rfl) fun K hK=>?_;simp only [go_sem,↓reduceIte,reduceEqDiff];refine ⟨_,Aj (hHd.at 1 rfl) rfl,?_⟩;(try simp only [go_sem,↓reduceIte,reduceEqDiff]);refine E9 hHd [Aa x] (xs:=[.tmp 37]) Xx sz9 rfl rfl rfl (by omega) ?_;simp only [go_sem,↓reduceIte,reduceEqDiff];refine ⟨trivial,by simp [Yw],fun g w4 hHe=>?_⟩;(try simp only [go_sem,↓reduceIte,reduceEqDiff]);refine Cd ?_;simp only [go_sem,↓reduceIte,reduceEqDiff];refine D9 (zs:=#[.string ⟨#[]⟩]) (bytes:=16) hHe 3 rfl Xx (by kernel_rfl) rfl (m:=1) (news:=N9 [x]) ⟨rfl,Az (hHe.at 0 rfl),9,Xx⟩ (Quv [x]) (fun h=>by omega) fun a' cap' w8 hc' hHf=>?_;simp only [Yh,Yc] at hHf;(try simp only [go_sem,↓reduceIte,reduceEqDiff]);refine Af ?_;simp only [go_sem,↓reduceIte,reduceEqDiff];refine Al hHf 2 (vs:=[.slice a' ((dn.filter Cj).length+1) cap']) rfl rfl (by kernel_rfl) (by first | decide | (simp;done) | (simp;omega)) (by simp [Yg]) fun w6 hHg=>?_;(try simp only [go_sem,↓reduceIte,reduceEqDiff])
  (refine hK _ _ ?_;clear hK)
  rw [<- hf2,<- Qkv,<- hf1] at hHg;refine Oz (Ng fun a n hf=>⟨_,n,rfl,hHg.at 1 rfl,?_⟩);refine goOn (a:=a') (c:=cap') hx2 ?_;exact hHg.sub (.cons _ (.refl _))
 rintro _ w7 ⟨G0,hH9,hv⟩;rcases hv with ⟨dn,a,c,hdn,hno,rfl⟩ | ⟨hbad,dn,rest,a,c,hdn,rfl⟩
 ·
  rw [Yr] at hdn;have hb:=Zd (rest:=[]) (s:=s) (dn:=dn) (by simpa using hdn);obtain ⟨kept,hkept⟩:∃ kept,kept=dn.filter Cj:=⟨_,rfl⟩;rw [<- hkept] at hb hH9;refine ⟨.ready,none,?_,by simp,?_⟩
  ·
   rw [hr];exact hH9.at 0 rfl
  simp only;have hHa:Heap w [] _ (Res.obj (dr+1) _::_):=Heap.put hH9 (.loop { r with state:=.exhausted,pending:=none });generalize w7.putObj (dr+1) (Ug { r with state:=.exhausted,pending:=none })=wb at *;have hHz:Heap w [] wb [Ya go 148 [.slice a kept.length c],L8 a kept c,Ya gb 4 [.bool false],Res.obj dr (.deferred (some []))]:=hHa.sub (.cons _ (.cons_cons _ (.cons_cons _ (.cons_cons _ (.cons _ (.refl _))))));clear hHa hH9;refine Oz ?_
  have hcl:Ei s=if El kept=[]∨120 < (El kept).length then none else some (El kept):=by
   unfold Ei;rw [<- hdn,<- hkept];by_cases h1:El kept=[]
   ·
    rw [if_neg (fun h=>h.2.2.1 h1),if_pos (.inl h1)]
   by_cases h2:120 < (El kept).length
   ·
    rw [if_neg (fun h=>by have:=h.2.2.2;omega),if_pos (.inr h2)]
   rw [if_pos ⟨hall,hno,h1,by omega⟩,if_neg (by rintro (h | h);exact h1 h;exact h2 h)]
  (repeat with_reducible refine Ba ?_);refine C4 [7,9] (by kernel_rfl) fun K hK=>?_;simp only [go_sem,↓reduceIte,reduceEqDiff];refine ⟨_,Aj (hHz.at 0 rfl) rfl,?_⟩;(try simp only [go_sem,↓reduceIte,reduceEqDiff]);refine Qgn Tryz.call87 (Qhi kept a c wb (hHz.at 1 rfl) (by omega) (by omega)) (by simp only [go_sem,↓reduceIte,reduceEqDiff] <;> rfl) ?_;rintro v wj ⟨hHj,rfl⟩;(try simp only [go_sem,↓reduceIte,reduceEqDiff]);(refine hK _ _ ?_;clear hK);have hHk:=hHz.call0 hHj;clear hHj;generalize El kept=p at *;(repeat with_reducible refine Ba ?_);refine C4 [9,51] (by kernel_rfl) fun K hK=>?_;simp only [go_sem,↓reduceIte,reduceEqDiff];refine ⟨_,Aj (hHk.at 2 rfl) rfl,?_⟩;(try simp only [go_sem,↓reduceIte,reduceEqDiff])
  suffices out:∀ b:Bool,(b=true ↔ (p=[]∨120 < p.length))->K [(9,Aa p),(51,.bool b)] wj by
   refine And.intro (fun h1=>out _ ?_) (fun h1=>out _ ?_)
   ·
    rw [decide_eq_true_eq];simp only [h1,false_or];omega
   simp [h1]
  intro b hb2
  (refine hK _ _ ?_;clear hK)
  (repeat with_reducible refine Ba ?_);have hHq:=hHk.front 3 rfl;refine Ea rfl rfl (fun h=>?_) (fun h=>Im ?_)
  ·
   rw [if_pos (hb2.1 h)] at hcl;(repeat with_reducible refine Ba ?_);refine C4 [2,3] (by kernel_rfl) fun K hK=>?_;simp only [go_sem,↓reduceIte,reduceEqDiff]
   (refine hK _ _ ?_;clear hK)
   refine N3 (QJq (ms:=[dr]) hHq fun w' hh=>A6 rfl rfl rfl ⟨hh.sub (Yk _),?_⟩);rw [hcl];rfl
  have hg:¬ (p=[]∨120 < p.length):=fun hh=>by rw [hb2.2 hh] at h;cases h
  rw [if_neg hg] at hcl;(repeat with_reducible refine Ba ?_);refine C4 [2,3] (by kernel_rfl) fun K hK=>?_;simp only [go_sem,↓reduceIte,reduceEqDiff]
  (refine hK _ _ ?_;clear hK)
  refine N3 (QJq (ms:=[dr]) hHq fun w' hh=>A6 rfl rfl rfl ⟨hh.sub (Yk _),?_⟩);rw [hcl];rfl
 have hb:=Zd hdn;obtain ⟨kept,hkept⟩:∃ kept,kept=dn.filter Cj:=⟨_,rfl⟩;rw [<- hkept] at hb hH9;refine ⟨.done,some (.exit 2),hH9.at 0 rfl,by simp,?_⟩;simp only;have hHa:Heap w [] _ (Res.obj (dr+1) _::_):=Heap.put hH9 (.loop { r with state:=.exhausted,pending:=some (.exit 2) });generalize w7.putObj (dr+1) (Ug { r with state:=.exhausted,pending:=some (.exit 2) })=wb at *;have hHz:Heap w [] wb [Ya go 148 [.slice a kept.length c],L8 a kept c,Ya gb 4 [.bool true],Res.obj dr (.deferred (some []))]:=hHa.sub (.cons _ (.cons_cons _ (.cons_cons _ (.cons_cons _ (.cons _ (.refl _))))));clear hHa hH9;refine St rfl ?_
 have hcl:Ei s=none:=by
  unfold Ei;rw [if_neg];exact fun h=>h.2.1 hbad
 (repeat with_reducible refine Ba ?_);refine C4 [7,9] (by kernel_rfl) fun K hK=>?_;simp only [go_sem,↓reduceIte,reduceEqDiff];refine ⟨_,Aj (hHz.at 0 rfl) rfl,?_⟩;(try simp only [go_sem,↓reduceIte,reduceEqDiff]);refine Qgn Tryz.call87 (Qhi kept a c wb (hHz.at 1 rfl) (by omega) (by omega)) (by simp only [go_sem,↓reduceIte,reduceEqDiff] <;> rfl) ?_;rintro v wj ⟨hHj,rfl⟩;(try simp only [go_sem,↓reduceIte,reduceEqDiff]);(refine hK _ _ ?_;clear hK);have hHk:=hHz.call0 hHj;clear hHj;generalize El kept=p at *;(repeat with_reducible refine Ba ?_);refine C4 [9,51] (by kernel_rfl) fun K hK=>?_;simp only [go_sem,↓reduceIte,reduceEqDiff];refine ⟨_,Aj (hHk.at 2 rfl) rfl,?_⟩;(try simp only [go_sem,↓reduceIte,reduceEqDiff])
 (refine hK _ _ ?_;clear hK)
 (repeat with_reducible refine Ba ?_);refine Ea rfl rfl (fun h=>?_) (fun h=>by simp at h);(repeat with_reducible refine Ba ?_);refine C4 [2,3] (by kernel_rfl) fun K hK=>?_;simp only [go_sem,↓reduceIte,reduceEqDiff]
 (refine hK _ _ ?_;clear hK)
 have hHq:=hHk.front 3 rfl;refine N3 (QJq (ms:=[dr]) hHq fun w' hh=>A6 rfl rfl rfl ⟨hh.sub (Yk _),?_⟩);rw [hcl];rfl
theorem Qoc (s:List UInt8) (w:World) (hs:s.length<=1000000000):Does Yj 24 #[Aa s] w fun v w'=>Heap w [] w' []/\v=.int .i64 (Qmi s):=by
 refine Ps (args:=[Aa s]) 17 Tryz.func24 rfl rfl (of_decide_eq_true rfl) ?_;simp only [Env.ofArgs];refine VR [0] rfl rfl fun K hK=>?_;simp only [go_sem,↓reduceIte,reduceEqDiff]
 ((repeat refine And.intro (by omega) ?_);refine hK _ _ ?_;clear hK)
 refine VR [0,3,4] rfl rfl fun K hK=>?_;simp only [go_sem,↓reduceIte,reduceEqDiff];refine Ac Tryz.call48 ?_;simp only [go_sem,↓reduceIte,reduceEqDiff];refine Yi (Qob s w hs) ?_;rintro v w2 ⟨hH,rfl⟩;unfold QAe;(try simp only [go_sem,↓reduceIte,reduceEqDiff])
 (refine hK _ _ ?_;clear hK)
 refine VR [16] rfl rfl fun K hK=>?_;simp only [go_sem,↓reduceIte,reduceEqDiff]
 suffices out:∀ b:Bool,(b=true ↔ Ei s≠some s)->K [(16,.bool b)] w2 by
  cases hc:Ei s with
  | none =>
   rw [hc] at out;exact And.intro (fun h=>absurd h (by simp)) (fun _=>out _ (by simp))
  | some q =>
   rw [hc] at out;refine And.intro (fun _=>out _ ?_) (fun h=>absurd rfl h);simp
 intro b hb
 (refine hK _ _ ?_;clear hK)
 refine Ae rfl rfl (fun h=>?_) (fun h=>Ab ?_)
 ·
  refine VR [2] rfl rfl fun K hK=>?_;simp only [go_sem,↓reduceIte,reduceEqDiff]
  ((repeat refine And.intro (by omega) ?_);refine hK _ _ ?_;clear hK)
  exact Ad (A0 rfl rfl ⟨hH,by rw [Qmi,if_neg (hb.1 h)]⟩)
 have hg:Ei s=some s:=Classical.byContradiction fun hh=>by rw [hb.2 hh] at h;cases h
 refine VR [2] rfl rfl fun K hK=>?_;simp only [go_sem,↓reduceIte,reduceEqDiff]
 ((repeat refine And.intro (by omega) ?_);refine hK _ _ ?_;clear hK)
 exact Ad (A0 rfl rfl ⟨hH,by rw [Qmi,if_pos hg]⟩)
set_option maxHeartbeats 1000000
abbrev tE:Nat:=29
def Qmj (p data:Bs):Value :=
 if Ei p=some p then (if 262144 < data.length then .tuple #[Aa [],.int .i64 3] else .tuple #[Aa (K5 p data.length++I0 data),.int .i64 0]) else .tuple #[Aa [],.int .i64 140]
abbrev Lq (p data:Bs):Value:=.agg #[Aa p,Aa data]
theorem Qdf {p:Bs} (h:p.length<=100):Ie p=some ([],p):=by rw [Ie,if_pos h]
theorem Qod {p:Bs}{q:Bs×Bs}{n:Nat} (h:Ie p=some q):K5 p n=Em q.1 q.2 48 n:=by unfold K5;rw [h]
theorem Qoe {p:Bs}{n:Nat} (h:Ie p=none):K5 p n=Em [] paxW 120 (p.length+10)++(I0 (Ef p)++Em [] (p.take 100) 48 n):=by unfold K5;rw [h]
theorem Qe3 (p data:Bs) (w:World) (hT:Tb w) (hp:p.length<=1000000000) (hd:data.length<=1000000000000) :
  Does Yj 14 #[Lq p data] w fun v w'=>Heap w [] w' []/\v=Qmj p data:=by
 refine En [Lq p data] 65 Tryz.func14 ?_;refine VQ [1] fun K hK=>?_;refine Dx ?_;refine Qs ?_;have hH:=(Xe w).box tE [Aa p,Aa data];generalize w.alloc (Yn #[Aa p,Aa data] tE)=w1 at *;generalize w.heap.size=ge at *;(try refine Qs ?_);apply hK;clear hK;have hc:∀ {w':World},Heap w [] w' [Ya ge tE [Aa p,Aa data]]->w'.cell? ⟨ge,0,none⟩=some (Aa p):=fun h=>Aj (h.at 0 rfl) rfl;have hc1:∀ {w':World},Heap w [] w' [Ya ge tE [Aa p,Aa data]]->w'.cell? ⟨ge,1,none⟩=some (Aa data):=fun h=>Aj (h.at 0 rfl) rfl;refine VQ [1,4] fun K hK=>?_;refine ⟨_,hc hH,?_⟩;(try refine Qs ?_);refine Ac Tryz.call24 ?_;refine Qs ?_;refine Yi (Qoc p w1 hp) ?_;rintro v w2 ⟨hHx,rfl⟩;replace hH:=hH.call0 hHx;rw [Ye] at hH;clear hHx;(try refine Qs ?_);apply hK;clear hK;rw [Qmi,Qmj];by_cases hg:Ei p=some p
 ·
  rw [if_pos hg,if_pos hg];obtain ⟨n1,n2,n3⟩:=Qd9 hg;refine VS [1,4,18] ?_;refine Ae rfl rfl (fun h=>by simp at h) (fun h=>Ab ?_);clear h;refine VQ [1,23] fun K hK=>?_;refine ⟨_,hc1 hH,?_⟩;(try refine Qs ?_);apply hK;clear hK;refine VD (fun h=>?_) (fun h=>Ab ?_)
  ·
   rw [if_pos (by omega)];refine VS [2,3] ?_;exact Ad (A6 rfl rfl rfl ⟨hH.sub (Yk _),rfl⟩)
  rw [if_neg (by omega)];refine VQ [1,7] fun K hK=>?_;refine ⟨_,hc hH,?_⟩;(try refine Qs ?_);refine Ac Tryz.call25 ?_;refine Qs ?_;refine Yi (Qej p w2 (by omega)) ?_;rintro v w3 ⟨rfl,rfl⟩;rw [Qmf];cases hs:Ie p with
  | some q =>
   obtain ⟨pre,nm⟩:=q;(try refine Qs ?_);apply hK;clear hK;rw [Qod hs];refine VS [1,31] ?_;refine Ae rfl rfl (fun h=>?_) (fun h=>by simp at h);refine VQ [2,3] fun K hK=>?_;refine ⟨_,hc hH,?_⟩;(try refine Qs ?_);refine ⟨_,hc1 hH,?_⟩;(try refine Qs ?_);refine Ac Gs ?_;refine Qs ?_;refine Yi (Qam p pre nm data 48 w3 hs n1 (by omega) n3 (.inl rfl) (by omega)) ?_;rintro v w4 ⟨hHx,rfl⟩;(try refine Qs ?_);apply hK;clear hK;exact Ad (A6 rfl rfl rfl ⟨(hH.call0 hHx).sub (Yk _),rfl⟩)
  | none =>
   have h100:=Qa0 hs;(try refine Qs ?_);apply hK;clear hK;rw [Qoe hs];refine VS [1,31] ?_;refine Ae rfl rfl (fun h=>by simp at h) (fun h=>Ab ?_);refine VQ [1,8] fun K hK=>?_;refine ⟨_,hc hH,?_⟩;(try refine Qs ?_);refine Es hH 2 [Aa pathW,Aa p] (xs:=[.tmp 42]) X1 QJm rfl rfl rfl (by omega) (by omega) ?_;refine Qs ?_;refine ⟨rfl,by intro v hv;simp only [Xg,List.not_mem_nil,or_false] at hv;subst hv;rfl,fun ga w8 hE2=>?_⟩;(try refine Qs ?_);refine Ac Tryz.call27 ?_;refine Qs ?_;refine Yi (Qu7 p ga w8 (hT.heap hE2) (by have h:=Qfh (Az (hE2.at 0 rfl)) rfl 0 [Aa pathW,Aa p] (fun j u hu=>by rw [X0];exact hu);rwa [Qgo] at h) h100 n2) ?_;rintro v w4 ⟨hHx,rfl⟩;replace hH:=(hE2.call0 hHx).sub (G':=[Ya ge tE [Aa p,Aa data]]) (by simp);clear hHx hE2;(try refine Qs ?_);apply hK;clear hK;refine VQ [1,10] fun K hK=>?_;refine Ac Gs ?_;refine Qs ?_;refine Yi (Qam paxW [] paxW (Ef p) 120 w4 (Qdf (by simp)) (by simp) (by simp) (by simp) (.inr rfl) (by rw [Sq];omega)) ?_;rintro v w5 ⟨hHx,rfl⟩;replace hH:=hH.call0 hHx;rw [Ye] at hH;clear hHx;(try refine Qs ?_);apply hK;clear hK;refine VH _ (Ext.refl _) [10,12,13] [(0,true),(1,true),(2,true),(3,true),(4,true),(5,false),(6,true),(7,true),(8,true),(9,true),(10,true)] fun K hK=>?_;refine ⟨_,hc hH,?_⟩;(try refine Qs ?_);refine And.intro (by omega) ⟨_,hc1 hH,?_⟩;(try refine Qs ?_);have hne:p.take (Xt 100)≠[]:=fun hh=>by have:=congrArg Xs hh;rw [Yu,Y7] at this;omega
   have hl1:(p.take (Xt 100)).length<=100:=Xv 100 p;refine Ac Gs ?_;refine Qs ?_;refine Yi (Qam (p.take (Xt 100)) [] (p.take (Xt 100)) data 48 w5 (Qdf hl1) hne (by omega) (fun hh=>n3 (X5 hh)) (.inl rfl) (by omega)) ?_;rintro v w6 ⟨hHx,rfl⟩;refine ⟨hHx.ext,?_⟩;replace hH:=hH.call0 hHx;rw [Ye] at hH;clear hHx;(try refine Qs ?_);apply hK;clear hK;have g1:=Nb (show ([]:Bs).length<=155 by simp) (show paxW.length<=100 by simp) 120 (Ef p).length;have g2:=Nb (show ([]:Bs).length<=155 by simp) hl1 48 data.length;have g3:=Rf (Ef p);have g4:=Rf data;have g5:=Sq p;refine VQ [2,3] fun K hK=>?_;refine And.intro (by simp only [Yb,g1,g2,g3,g4];omega) ?_;apply hK;clear hK;refine Ad (A6 rfl rfl rfl ⟨hH.sub (Yk _),?_⟩);rw [g5,show Xt 100=100 from rfl];simp [Ys]
 rw [if_neg hg,if_neg hg];refine VS [1,4,18] ?_;refine Ae rfl rfl (fun h=>?_) (fun h=>by simp at h);refine VS [2,3] ?_;exact Ad (A6 rfl rfl rfl ⟨hH.sub (Yk _),rfl⟩)
set_option maxHeartbeats 4000000
abbrev Qs4 (l:Nat):Value:=.func (.yield l) #[] #[]
def Qwn (l gs gm:Nat) (most:Int) (w0:World) (B:List Nat) (PI:List UInt8->List Res->Prop):Prop :=
 ∀ rest G w,rest≠[]->PI rest G->Heap w0 B w (Ya gs 9 [Aa rest]::Ya gm 3 [.int .i64 most]::G) ->
  YieldK Yj l [Aa (rest.take (C7 rest most))] w fun v w'=>v=.bool true/\∃ G',PI (rest.drop (C7 rest most)) G'/\Heap w0 B w' (Ya gs 9 [Aa rest]::Ya gm 3 [.int .i64 most]::G')
theorem Qi4 (l gs gm:Nat) (most:Int) (w0:World) (B:List Nat) (PI:List UInt8->List Res->Prop) (hR:Qwn l gs gm most w0 B PI) (s:List UInt8) (hs:s.length<=140737488355328) (hm:1<=most/\most<=262144)
  (hfit:∀ t:List UInt8,t≠[]->1<=C7 t most/\C7 t most<=t.length) (G:List Res) (hG:PI s G) (w:World) (hH:Heap w0 B w (Ya gs 9 [Aa s]::Ya gm 3 [.int .i64 most]::G)) :
  DoesP Yj 55 #[Qs4 l,.pointer (some ⟨gs,0,none⟩),.pointer (some ⟨gm,0,none⟩)] w
   (fun _ w'=>∃ G',PI [] G'/\Heap w0 B w' (Ya gs 9 [Aa []]::Ya gm 3 [.int .i64 most]::G')) Rv:=by
 refine Tt (args:=[Qs4 l,.pointer (some ⟨gs,0,none⟩),.pointer (some ⟨gm,0,none⟩)]) 23 Tryz.func55 rfl rfl (of_decide_eq_true rfl) ?_;simp only [Env.ofArgs]
 ((repeat with_reducible refine Ba ?_);refine Na ?_)
 refine Qht [0,1,2] (fun m e w=>∃ (rest:List UInt8) (G:List Res),Is e [(0,Qs4 l),(1,.pointer (some ⟨gs,0,none⟩)),(2,.pointer (some ⟨gm,0,none⟩))]/\PI rest G/\Heap w0 B w (Ya gs 9 [Aa rest]::Ya gm 3 [.int .i64 most]::G)/\rest.length<=140737488355328/\m=rest.length) s.length ?_ ?_
 ·
  refine Qs ?_;exact ⟨s,G,rfl,hG,hH,hs,rfl⟩
 clear hG hH hs;rintro m e w ⟨rest,G,rfl,hG,hH,hs,rfl⟩;refine GQ [0,1,2,6] fun K hK=>?_;refine ⟨_,Aj (hH.at 0 rfl) rfl,?_⟩;(try refine Qs ?_);apply hK;clear hK;(repeat with_reducible refine Ba ?_);refine Ea rfl rfl (fun h=>?_) (fun h=>?_)
 ·
  have hne:rest≠[]:=by
   rintro rfl;simp at h
  clear h;obtain ⟨hf1,hf2⟩:=hfit rest hne;refine Im ?_
  ((repeat with_reducible refine Ba ?_);refine Na ?_)
  refine GQ [0,1,2,4] fun K hK=>?_;refine ⟨_,Aj (hH.at 0 rfl) rfl,?_⟩;(try refine Qs ?_);refine ⟨_,Aj (hH.at 1 rfl) rfl,?_⟩;(try refine Qs ?_);refine Ac Tryz.call56 ?_;refine Qs ?_;refine Yi (Qyw rest most (Xn (by omega) (by omega)) w (by omega)) ?_;rintro v w1 ⟨rfl,rfl⟩;(try refine Qs ?_);apply hK;clear hK;(repeat with_reducible refine Ba ?_);(repeat with_reducible refine Ba ?_);refine Oq [0,1,2,4,19] [7] (by kernel_rfl) fun K hK=>?_;simp only [go_sem,U8,U5,U9,U7,↓reduceIte,reduceEqDiff];refine ⟨fun _=>⟨_,Aj (hH.at 0 rfl) rfl,?_⟩,fun h=>by omega⟩;(try refine Qs ?_);refine Qp ?_;(try refine Qs ?_);refine Qee ?_;refine Qs ?_;refine ⟨l,rfl,(hR rest G w1 hne hG hH).mono ?_⟩;rintro v w2 ⟨rfl,G',hG',hH2⟩;clear hH hG;(try refine Qs ?_);apply hK;clear hK;(repeat with_reducible refine Ba ?_);refine Ea rfl rfl (fun h=>by simp at h) (fun h=>Im ?_);clear h;refine GQ [0,1,2] fun K hK=>?_;refine ⟨_,Aj (hH2.at 0 rfl) rfl,?_⟩;(try refine Qs ?_);refine Qp ?_;(try refine Qs ?_);refine Af ?_;refine Qs ?_;refine Al hH2 0 (vs:=[Aa (rest.drop (C7 rest most))]) rfl rfl (by kernel_rfl) (by simp) (by simp;rfl) fun w3 hH3=>?_;(try refine Qs ?_);apply hK;clear hK;refine Oz ?_;refine Zo ?_;refine Qs ?_;refine ⟨(rest.drop (C7 rest most)).length,?_,_,G',rfl,hG',hH3,?_,rfl⟩ <;> rw [Yv] <;> omega
 have hne:rest=[]:=by
  simpa using h
 subst hne;refine St rfl ?_;refine Ng (QJk (Km rfl ⟨G,hG,hH⟩))
set_option maxHeartbeats 4000000
theorem Qsl (s:List UInt8) (most:Int) (w:World) :
  Does Yj 29 #[Aa s,.int .i64 most] w fun v w'=>∃ gs gm,Heap w [] w' [Ya gs 9 [Aa s],Ya gm 3 [.int .i64 most]] /\
   v=.func (.func 55) #[] #[.pointer (some ⟨gs,0,none⟩),.pointer (some ⟨gm,0,none⟩)]:=by
 refine En [Aa s,.int .i64 most] 6 Tryz.func29 ?_;refine VQ [2,3] fun K hK=>?_;refine Dx ?_;refine Qs ?_;have hH:=(Xe w).box 9 [Aa s];generalize w.alloc (Yn [Aa s].toArray 9)=w1 at *;generalize w.heap.size=gs at *;refine Dx ?_;refine Qs ?_;have hH1:=hH.box 3 [.int .i64 most];generalize w1.alloc (Yn [Up .i64 most].toArray 3)=w2 at *;generalize w1.heap.size=gm at *;clear hH;apply hK;clear hK;refine VS [4] ?_;exact Ad (A0 rfl rfl ⟨gs,gm,hH1.perm (.swap _ _ _),rfl⟩)
set_option maxHeartbeats 4000000
theorem Qwo {C:Ky}{e:Env}{w:World}{t u:Tmp}{T U:TypeId}{a b:Addr} (hr:C.fn.results=#[.cell t T,.cell u U]) (ht:e.find? t=some (.pointer (some a))) (hu:e.find? u=some (.pointer (some b)))
  (h:Bf C.P T (.pointer (some a)) w fun v=>Bf C.P U (.pointer (some b)) w fun x=>C.F (.tuple #[v,x]) w):VX C [] .ret e w:=by
 intro ac n ha;obtain ⟨v,hv,r1⟩:=Om h;obtain ⟨x,hv,r2⟩:=Om hv;refine ⟨ha.defers,.tuple #[v,x],?_,_,w,n,rfl,rfl,hv⟩;have h1:=ha.at_ t _ ht;rw [Array.getD_eq_getD_getElem?] at h1;have h2:=ha.at_ u _ hu;rw [Array.getD_eq_getD_getElem?] at h2;have q1:=r1 (w.drewN n) (Ext.drewN w n);have q2:=r2 (w.drewN n) (Ext.drewN w n);simp [results,hr,h1,h2,asAddr,q1,q2]
theorem Qpx {w1:World}{N g6 g7:Nat}{x y:Value}{F:Value->World->Prop} (h6:(Ya g6 9 [x]).holds w1) (h7:(Ya g7 23 [y]).holds w1) (hF:F (.tuple #[x,y]) w1) :
  VX ⟨Yj,Tryz.f15,F,N⟩ [] .ret [(6,pt g6),(7,pt g7)] w1:=by
 refine Qwo rfl rfl rfl ?_;refine Sh h6 (by kernel_rfl) (by kernel_rfl) ?_;exact Sh h7 (by kernel_rfl) (by kernel_rfl) hF
def QEu (s:List UInt8) (most:Int) (hd:List Bool) (r:Loop) (dr g6 g7 g8 g9:Nat) (rest:List UInt8) (G:List Res):Prop :=
 ∃ (ps:List (List UInt8)) (bs:List (List Bool)) (ga c1:Nat) (a2:Option Addr) (c2:Nat),Lx ps bs/\ps++Cz rest most=Cz s most/\rest.length<=262144 /\
  G=[Res.obj (dr+1) (.loop r),Res.obj dr (.deferred (some [])),Ya g9 72 [.slice a2 ps.length c2],Yf 78 1 a2 ps.length c2 (Bk (ps.map Cf)),
   Ya g8 71 [.slice (some ⟨ga,0,none⟩) (ps.length+1) c1],Yf 70 2 (some ⟨ga,0,none⟩) (ps.length+1) c1 (Fa (hd::bs)),Ya g7 23 [.int .i64 0],Ya g6 9 [.string ⟨#[]⟩]]
theorem Qwp (s:List UInt8) (level most:Int) (w:World) (hl:I64 level) (hm:I64 most) (hs:s.length<=140737488355328) :
  Does Yj 15 #[Aa s,.int .i64 level,.int .i64 most] w fun v w'=>Heap w [] w' []/\PackOk s level most v:=by
 refine Qay (args:=[Aa s,.int .i64 level,.int .i64 most]) 87 Tryz.func15 rfl rfl (of_decide_eq_true rfl) ?_;simp only [Env.ofArgs,Gd];refine GQ [0,1,2,6,7] fun K hK=>?_;refine A7 (.string ⟨#[]⟩) (by kernel_rfl) ?_;refine Qs ?_;have hH:=(Xe w).box 9 [.string ⟨#[]⟩];generalize w.alloc (Yn [Xo ⟨#[]⟩].toArray 9)=w1 at *;generalize w.heap.size=g6 at *;refine A7 (.int .i64 0) (by kernel_rfl) ?_;refine Qs ?_;have hH2:Heap w [] _ _:=hH.box 23 [.int .i64 0];generalize w1.alloc (Yn [Up U2 0].toArray 23)=w2 at *;generalize w1.heap.size=g7 at *;apply hK;clear hK;clear hH
 have bad:∀ (e:Int) {N:Nat}{w4:World},PackOk s level most (.tuple #[Aa [],.int .i64 e])->Heap w [] w4 [Ya g7 23 [.int .i64 e],Ya g6 9 [Aa []]] ->
   VX ⟨Yj,Tryz.f15,fun v w'=>Heap w [] w' []/\PackOk s level most v,N⟩ [] .ret [(6,pt g6),(7,pt g7)] w4 :=
  fun e N w4 hp hh=>Qpx (hh.at 1 rfl) (hh.at 0 rfl) ⟨hh.sub (by simp),hp⟩
 refine GQ [0,1,2,6,7,31] fun K hK=>?_
 suffices out:∀ b:Bool,(b=true ↔ level < 1∨9 < level∨most < 1∨min (level * 100000) 262144 < most)->K [(0,Aa s),(1,.int .i64 level),(2,.int .i64 most),(6,pt g6),(7,pt g7),(31,.bool b)] w2 by
  refine ⟨fun h1=>⟨fun h2=>⟨fun h3=>?_,fun h3=>out _ (by simp;omega)⟩,fun h2=>out _ (by simp;omega)⟩,fun h1=>out _ (by simp;omega)⟩;refine Ac Tryz.call28 ?_;refine Qs ?_;refine Yi (Qjk level w2 (by omega)) ?_;rintro v w3 ⟨rfl,rfl⟩;(try refine Qs ?_);exact out _ (by simp;omega)
 intro b hb;apply hK;clear hK;(repeat with_reducible refine Ba ?_);refine Ea rfl rfl (fun h=>?_) (fun h=>Im ?_)
 ·
  have hbad:=hb.1 h;refine GQ [6,7] fun K hK=>?_;refine Af ?_;refine Qs ?_;refine Al hH2 1 (vs:=[Aa []]) rfl rfl (by kernel_rfl) (by simp) (by simp [Yg]) fun w3 hH3=>?_;(try refine Qs ?_);refine Af ?_;refine Qs ?_;refine Al hH3 0 (vs:=[.int .i64 2]) rfl rfl (by kernel_rfl) (by simp) (by simp [Yg]) fun w4 hH4=>?_;(try refine Qs ?_);apply hK;clear hK;exact N3 (S8 (bad 2 (by rw [PackOk,if_pos hbad]) hH4))
 have hg:¬ (level < 1∨9 < level∨most < 1∨min (level * 100000) 262144 < most):=fun hh=>by rw [hb.2 hh] at h;cases h
 clear hb h;refine GS [0,1,2,6,7,34] ?_;(repeat with_reducible refine Ba ?_);refine Ea rfl rfl (fun h=>?_) (fun h=>Im ?_)
 ·
  simp only [decide_eq_true_eq] at h;refine GQ [6,7] fun K hK=>?_;refine Af ?_;refine Qs ?_;refine Al hH2 1 (vs:=[Aa []]) rfl rfl (by kernel_rfl) (by simp) (by simp [Yg]) fun w3 hH3=>?_;(try refine Qs ?_);refine Af ?_;refine Qs ?_;refine Al hH3 0 (vs:=[.int .i64 3]) rfl rfl (by kernel_rfl) (by simp) (by simp [Yg]) fun w4 hH4=>?_;(try refine Qs ?_);apply hK;clear hK;exact N3 (S8 (bad 3 (by rw [PackOk,if_neg hg,if_pos (by omega)]) hH4))
 simp only [decide_eq_false_iff_not] at h;have hsl:s.length<=262144:=by omega
 clear h bad;obtain ⟨lv,rfl⟩:∃ n:Nat,level=n:=⟨level.toNat,by omega⟩;have hc0:(Xa (48+lv)).toNat=48+lv:=Tv (by omega);obtain ⟨hd,hhd⟩:∃ hd,hd=At [66,90,104,Xa (48+lv)]:=⟨_,rfl⟩
 have hbv:Ax hd=[Aa [66,90,104,Xa (48+lv)],.int .i64 32]:=by
  unfold Ax;rw [hhd,Qcw,D8];rfl
 refine GQ [0,2,6,7,8] fun K hK=>?_;(repeat first | refine Qo ?_ | refine Qp ?_);rw [show ((48:Int)+lv) % 256=((Xa (48+lv)).toNat:Int) by omega];refine E9 hH2 (An [Xa (48+lv)]) (xs:=[.tmp 37]) Um Fg rfl rfl rfl (by omega) ?_;refine Qs ?_;refine ⟨rfl,by simp [Yw],fun g w4 hH3=>?_⟩;(try refine Qs ?_);refine ⟨[Xa (48+lv)],hH3.readsBytes 0 rfl,?_⟩;(try refine Qs ?_);refine And.intro (by simp) ?_;refine Es hH3 2 (Ax hd) (xs:=[.tmp 41]) Ym Oc rfl rfl rfl (by omega) (by omega) ?_;refine Qs ?_;refine ⟨by rw [hbv];simp [Yw],by simp [Yw],fun ga w4 hH4=>?_⟩;(try refine Qs ?_);refine A7 (.slice none 0 0) (by kernel_rfl) ?_;refine Qs ?_;have hH5:=hH4.box 71 [.slice none 0 0];generalize w4.alloc (Yn [Y8 none 0 0].toArray 71)=w5 at *;generalize w4.heap.size=g8 at *;refine Af ?_;refine Qs ?_;refine Al hH5 0 (vs:=[.slice (some ⟨ga,0,none⟩) 1 1]) rfl rfl (by kernel_rfl) (by simp) (by simp [Yg]) fun w6 hH6=>?_;(try refine Qs ?_);apply hK;clear hK;have hH6:=hH6.sub (.cons_cons _ (.cons_cons _ (.cons _ (.refl _))));clear hH2 hH3 hH4 hH5;refine GQ [0,2,6,7,8,9] fun K hK=>?_;refine A7 (.slice none 0 0) (by kernel_rfl) ?_;refine Qs ?_;have hH7:=(hH6.nilRow 78 1).box 72 [.slice none 0 0];generalize w6.alloc (Yn [Y8 none 0 0].toArray 72)=w7 at *;generalize w6.heap.size=g9 at *;apply hK;clear hK;refine GQ [6,7,8,9,45] fun K hK=>?_;refine Ac Tryz.call29 ?_;refine Qs ?_;refine Yi (Qsl s most w7) ?_;rintro v w8 ⟨gs,gm,hHp,rfl⟩;have hH8:=hH7.call0 hHp;clear hHp hH7 hH6;have hH9:Heap w [] w8 [Ya gs 9 [Aa s],Ya gm 3 [.int .i64 most],Ya g9 72 [.slice none 0 0],Yf 78 1 none 0 0 [],Ya g8 71 [.slice (some ⟨ga,0,none⟩) 1 1],Yf 70 2 (some ⟨ga,0,none⟩) 1 1 (Ax hd),Ya g7 23 [.int .i64 0],Ya g6 9 [.string ⟨#[]⟩]]:=hH8;clear hH8;(try refine Qs ?_);apply hK;clear hK
 ((repeat with_reducible refine Ba ?_);refine Na ?_)
 refine Qct rfl rfl (fun _ _=>rfl) fun r r1 r2 r3 r4 r5 r6 r7 r8=>?_;generalize hdr:w8.heap.size=dr at *;have hH10:=(hH9.newObj (.deferred (some []))).newObj (.loop r);rw [show (w8.alloc (.deferred (some []))).heap.size=dr+1 by rw [<- hdr];show (w8.heap.push _).size=_;rw [Array.size_push],hdr] at hH10;clear r6;generalize (w8.alloc (Obj.deferred (some []))).alloc (Ug r)=wl at *;have hH11:=(hH10.front 3 rfl).front 3 rfl;clear hH10 hH9;refine (Qi4 (dr+1) gs gm most w [] (QEu s most hd r dr g6 g7 g8 g9) ?_ s hs ⟨by omega,by omega⟩ (fun t ht=>⟨(Sy ht (by omega)).1,(Sy ht (by omega)).2.1⟩) _ ⟨[],[],ga,1,none,0,trivial,rfl,hsl,by simp [Fa,Bk]⟩ wl hH11).mono ?_ (fun _ _ h=>h)
 ·
  clear hH11 hdr w8 wl;rintro rest G w9 hne ⟨ps,bs,ga,c1,a2,c2,hpb,hcut,hrl,rfl⟩ hHr;obtain ⟨f1,f2,f3⟩:=Sy hne (show 1<=most by omega);have hcs:=Qd7 hne (show 1<=most by omega)
  have hpl:ps.length<=262144:=by
   have h1:=congrArg Xs hcut;have h2:=(Qfm (show 1<=most by omega) s.length s (Y3 _)).2.1;rw [Yb] at h1;omega
  have hbl:=Vw _ _ hpb;have hdl:(rest.drop (C7 rest most)).length<=262144:=by rw [Yv];omega
  have hp1:(rest.take (C7 rest most)).length<=262144:=by rw [Yu];omega
  have hp2:rest.take (C7 rest most)≠[]:=by
   intro h0;have:=congrArg Xs h0;rw [Yu,Y7] at this;omega
  generalize rest.take (C7 rest most)=part at *;generalize rest.drop (C7 rest most)=rest2 at *;rw [hcs,List.append_cons] at hcut;clear hcs f1 f2 hne hrl;refine Qcu (N:=87) (e:=(46,Aa part)::[(6,pt g6),(7,pt g7),(8,pt g8),(9,pt g9),(45,.func (.func 55) #[] #[pt gs,pt gm])]) (hHr.at 2 rfl) r1 r7 (by rw [r3];rfl) ?_ ?_
  ·
   intro t v ht;rw [r3,show (#[46].zip [Aa part].toArray)=#[(46,Aa part)] by first | rfl | simp | (apply Array.ext';simp)]
   show (r.tmps.setIfInBounds 46 (Aa part)).getD t undef=v
   rw [Env.find?] at ht;split at ht
   ·
    rename_i h46;subst h46;cases ht;rw [Array.getD_eq_getD_getElem?,Array.getElem?_setIfInBounds_self_of_lt (by rw [r7];decide)];rfl
   rename_i h46;rw [Array.getD_eq_getD_getElem?,Array.getElem?_setIfInBounds_ne (by exact fun h=>h46 h.symm),<- Array.getD_eq_getD_getElem?];exact r8 t v ht
  refine (congrArg (fun c=>VG _ [.code c] _ _) r4).mpr ?_;refine GS [6,7,8,9,10] ?_;refine Ng fun a n hf=>⟨rfl,_,_,n,rfl,hf,hHr.at 2 rfl,?_⟩;have hHb:=(hHr.front 2 rfl).put (.loop { r with state:=.busy });generalize w9.putObj (dr+1) (Ug { r with state:=.busy })=wb at *;clear hHr hf a n w9;refine (congrArg (fun c=>VG _ [.code c] _ _) r5).mpr ?_;clear r3 r4 r5 r7 r8
  ((repeat with_reducible refine Ba ?_);refine Na ?_)
  refine GQ [6,7,8,9,10,11,12] fun K hK=>?_;refine Ac Tryz.call30 ?_;refine Qs ?_;refine Yi (Qf9 part (by omega) wb) ?_;rintro v w1 ⟨hHm,hv⟩;have hHc:=hHb.call0 hHm;simp only [Ye] at hHc;clear hHm hHb;rw [Rn,if_neg hp2,if_neg (by omega)] at hv;obtain ⟨σ,ho,rfl⟩:=hv;have hPB:PB part (Fv part σ):=⟨σ,ho,rfl⟩;generalize Fv part σ=B at *;(try refine Qs ?_);refine A7 (.agg #[.string ⟨#[]⟩,.int .i64 0]) (by kernel_rfl) ?_;refine Qs ?_;have hHd:=hHc.box 70 [.string ⟨#[]⟩,.int .i64 0];generalize w1.alloc (Yn [Xo ⟨#[]⟩,.int .i64 0].toArray 70)=w2 at *;generalize w1.heap.size=g11 at *;refine Af ?_;refine Qs ?_;refine Al hHd 0 (vs:=Ax B) rfl rfl (by kernel_rfl) (by simp [Ax]) (E1 _) fun w3 hHe=>?_;clear hHc hHd;(try refine Qs ?_);apply hK;clear hK;refine GS [6,7,8,9,10,11,53] ?_;(repeat with_reducible refine Ba ?_);refine Ea rfl rfl (fun h=>by simp at h) (fun h=>Im ?_);clear h;refine GQ [6,7,8,9,10] fun K hK=>?_;refine ⟨_,Aj (hHe.at 7 rfl) rfl,?_⟩;(try refine Qs ?_);refine ⟨Ax B,⟨rfl,B6 (hHe.at 0 rfl)⟩,?_⟩;(try refine Qs ?_);refine Es hHe 2 (Ax B) (xs:=[.tmp 56]) Ym Oc rfl rfl rfl (by omega) (by omega) ?_;refine Qs ?_;refine ⟨by simp [Ax,Yw],by simp [Ax,Yw],fun gl w4 hHf=>?_⟩;(try refine Qs ?_);refine Cd ?_;refine Qs ?_;refine D9 (zs:=#[.string ⟨#[]⟩,.int .i64 0]) (bytes:=24) hHf 9 rfl Ym (by kernel_rfl) rfl ⟨rfl,Az (hHf.at 0 rfl),70,Ym⟩ (E1 _) (fun h=>by omega) fun a' cap' w5 hc' hHg=>?_;(try refine Qs ?_);refine Af ?_;refine Qs ?_;refine Al hHg 8 (vs:=[.slice a' (ps.length+1+1) cap']) rfl rfl (by kernel_rfl) (by simp) (by simp [Yg]) fun w6 hHh=>?_;simp only [Yh,Yc] at hHh;rw [Q2,Yq] at hHh
  have hHi:Heap w [] w6 [Res.obj (dr+1) (.loop { r with state:=.busy }),Ya gs 9 [Aa rest],Ya gm 3 [.int .i64 most],Res.obj dr (.deferred (some [])),Ya g9 72 [.slice a2 ps.length c2],Yf 78 1 a2 ps.length c2 (Bk (ps.map Cf)),
   Ya g8 71 [.slice a' (ps.length+1+1) cap'],Yf 70 2 a' (ps.length+1+1) cap' (Fa (hd::(bs++[B]))),Ya g7 23 [.int .i64 0],Ya g6 9 [.string ⟨#[]⟩]]:=hHh.sub (.cons _ (.cons _ (.refl _)))
  obtain ⟨gp,rfl⟩:=Fz (hHi.at 7 rfl) (by omega);clear hHe hHf hHg hHh hc';(try refine Qs ?_);apply hK;clear hK;(repeat with_reducible refine Ba ?_);refine Qgl (bare w6) (Zn _ _) [6,7,8,9] (.two [(1,true)] 0 2 (.seq [(2,false),(3,false),(4,false),(5,false)]) (.two [] 0 3 (.seq [(3,false),(4,false),(5,false)]) (.seq [(0,false),(4,false),(5,false)]))) (by kernel_rfl) (by kernel_rfl) (by kernel_rfl) fun K hK=>?_
  suffices out:∀ (a':Option Addr) (c':Nat) (w10:World),Heap w [] w10 [Res.obj (dr+1) (.loop { r with state:=.busy }),Ya gs 9 [Aa rest],Ya gm 3 [.int .i64 most],Res.obj dr (.deferred (some [])),Ya g9 72 [.slice a' (ps.length+1) c'],Yf 78 1 a' (ps.length+1) c' (Bk (ps.map Cf)++Bk [Cf part]),
   Ya g8 71 [.slice (some ⟨gp,0,none⟩) (ps.length+1+1) cap'],Yf 70 2 (some ⟨gp,0,none⟩) (ps.length+1+1) cap' (Fa (hd::(bs++[B]))),Ya g7 23 [.int .i64 0],Ya g6 9 [.string ⟨#[]⟩]]->K [(6,pt g6),(7,pt g7),(8,pt g8),(9,pt g9)] w10 by
   have c0:w6.cell? ⟨g9,0,none⟩=some (.slice a2 ps.length c2):=Aj (hHi.at 4 rfl) rfl;simp only [Tk,Be,List.filterMap_cons,List.filterMap_nil,List.getElem?_cons_succ,List.getElem?_cons_zero,Option.map_some];refine Qs ?_;simp only [Bm];(try refine Qs ?_);refine And.intro ?_ ?_
   ·
    refine ⟨_,c0,?_⟩;(try refine Qs ?_);(try simp only [Bm]);(try refine Qs ?_);refine Ac Gq ?_;refine Qs ?_;refine Yi (Zj part w6 (by omega)) ?_;rintro v w7 ⟨hHz,rfl⟩;have hHj:=hHi.call0 hHz;simp only [Ye] at hHj;(try refine Qs ?_);(try simp only [Bm]);(try refine Qs ?_);refine E9 hHj (Bk [Cf part]) (xs:=[.tmp 61]) Y5 Wl rfl rfl rfl (by omega) ?_;refine Qs ?_;refine ⟨rfl,by simp [Yw],fun g w4 hHk=>?_⟩;(try refine Qs ?_);(try simp only [Bm]);(try refine Qs ?_);refine Cd ?_;refine Qs ?_;refine D9 (zs:=#[.int .u32 0]) (bytes:=4) hHk 6 rfl Y5 (by kernel_rfl) rfl ⟨rfl,Az (hHk.at 0 rfl),78,Y5⟩ (by simp [Bk];rfl) (fun h=>by omega) fun a' cap' w12 hc' hHl=>?_;(try refine Qs ?_);(try simp only [Bm]);(try refine Qs ?_);refine Af ?_;refine Qs ?_;refine Al hHl 5 (vs:=[.slice a' (ps.length+1) cap']) rfl rfl (by kernel_rfl) (by simp) (by simp [Yg]) fun w13 hHm=>?_;simp only [Yh,Yc] at hHm;(try refine Qs ?_);(try simp only [Bm]);(try refine Qs ?_);refine out a' cap' w13 ?_;exact hHm.sub (Yz _ _)
   refine Ac Gq ?_;refine Qs ?_;refine Yi (Zj part w6 (by omega)) ?_;rintro v w7 ⟨hHz,rfl⟩;have hHj:=hHi.call0 hHz;simp only [Ye] at hHj;have c1:w7.cell? ⟨g9,0,none⟩=some (.slice a2 ps.length c2):=Aj (hHj.at 4 rfl) rfl;(try refine Qs ?_);(try simp only [Bm]);(try refine Qs ?_);refine And.intro ?_ ?_
   ·
    refine ⟨_,c1,?_⟩;(try refine Qs ?_);(try simp only [Bm]);(try refine Qs ?_);refine E9 hHj (Bk [Cf part]) (xs:=[.tmp 61]) Y5 Wl rfl rfl rfl (by omega) ?_;refine Qs ?_;refine ⟨rfl,by simp [Yw],fun g w4 hHk=>?_⟩;(try refine Qs ?_);(try simp only [Bm]);(try refine Qs ?_);refine Cd ?_;refine Qs ?_;refine D9 (zs:=#[.int .u32 0]) (bytes:=4) hHk 6 rfl Y5 (by kernel_rfl) rfl ⟨rfl,Az (hHk.at 0 rfl),78,Y5⟩ (by simp [Bk];rfl) (fun h=>by omega) fun a' cap' w12 hc' hHl=>?_;(try refine Qs ?_);(try simp only [Bm]);(try refine Qs ?_);refine Af ?_;refine Qs ?_;refine Al hHl 5 (vs:=[.slice a' (ps.length+1) cap']) rfl rfl (by kernel_rfl) (by simp) (by simp [Yg]) fun w13 hHm=>?_;simp only [Yh,Yc] at hHm;(try refine Qs ?_);(try simp only [Bm]);(try refine Qs ?_);refine out a' cap' w13 ?_;exact hHm.sub (Yz _ _)
   refine E9 hHj (Bk [Cf part]) (xs:=[.tmp 61]) Y5 Wl rfl rfl rfl (by omega) ?_;refine Qs ?_;refine ⟨rfl,by simp [Yw],fun g w4 hHk=>?_⟩;(try refine Qs ?_);have c2':w4.cell? ⟨g9,0,none⟩=some (.slice a2 ps.length c2):=Aj (hHk.at 5 rfl) rfl;(try simp only [Bm]);(try refine Qs ?_);refine ⟨_,c2',?_⟩;(try refine Qs ?_);(try simp only [Bm]);(try refine Qs ?_);refine Cd ?_;refine Qs ?_;refine D9 (zs:=#[.int .u32 0]) (bytes:=4) hHk 6 rfl Y5 (by kernel_rfl) rfl ⟨rfl,Az (hHk.at 0 rfl),78,Y5⟩ (by simp [Bk];rfl) (fun h=>by omega) fun a' cap' w12 hc' hHl=>?_;(try refine Qs ?_);(try simp only [Bm]);(try refine Qs ?_);refine Af ?_;refine Qs ?_;refine Al hHl 5 (vs:=[.slice a' (ps.length+1) cap']) rfl rfl (by kernel_rfl) (by simp) (by simp [Yg]) fun w13 hHm=>?_;simp only [Yh,Yc] at hHm;(try refine Qs ?_);(try simp only [Bm]);(try refine Qs ?_);refine out a' cap' w13 ?_;exact hHm.sub (Yz _ _)
  intro a' c' w10 hHn;apply hK;clear hK
  have hr:({ r with state:=.ready,pending:=none }:Loop)=r:=by
   cases r;simp only at r1 r2;subst r1 r2;rfl
  refine Oz (Ng fun a n hf=>⟨_,n,rfl,hHn.at 0 rfl,rfl,?_⟩);rw [hr];refine ⟨_,⟨ps++[part],bs++[B],gp,cap',a',c',Qpt hPB _ _ hpb,hcut,hdl,rfl⟩,?_⟩;have hHo:=((hHn.put (.loop r)).front 2 rfl).front 2 rfl;rw [show (ps++[part]).length=ps.length+1 by simp,show Bk ((ps++[part]).map Cf)=Bk (ps.map Cf)++Bk [Cf part] by simp [Bk]];exact hHo
 rintro _ w9 ⟨G,⟨ps,bs,ga,c1,a2,c2,hpb,hcut,_,rfl⟩,hHr⟩
 have hr:({ r with state:=.ready,pending:=none }:Loop)=r:=by
  cases r;simp only at r1 r2;subst r1 r2;rfl
 refine ⟨.ready,none,?_,by simp,?_⟩
 ·
  rw [hr];exact hHr.at 2 rfl
 simp only;have hHs:=(hHr.front 2 rfl).put (.loop { r with state:=.exhausted,pending:=none });generalize w9.putObj (dr+1) (Ug { r with state:=.exhausted,pending:=none })=wb at *;generalize Ug { r with state:=.exhausted,pending:=none }=ro at *;clear hHr r1 r2 r3 r4 r5 r7 r8 hr hH11 w9;rw [Vo,Yr] at hcut;subst hcut;have hok:=Qfm (show 1<=most by omega) s.length s (Y3 _);have hps:(Cz s most).length<=262144:=by omega
 have hfl:=Qie _ _ hpb fun p hp=>by
  obtain ⟨a,b,c⟩:=hok.2.2 p hp;exact ⟨a,by omega⟩
 have hbl:=Vw _ _ hpb
 have h32:∀ x∈(Cz s most).map Cf,x < 4294967296:=by
  intro x hx;obtain ⟨p,_,rfl⟩:=Ub.1 hx;exact Qbg p
 have hcl:=Wy _ h32
 have hend:PackOk s lv most (.tuple #[Aa (Bh ((hd::(bs++[A1 48 25779555029136++A1 32 (Ic ((Cz s most).map Cf))])).flatten)),.int .i64 0]):=by
  rw [PackOk,if_neg hg,if_neg (by omega)];refine ⟨bs,hpb,?_⟩;rw [hhd,Ul];unfold F6;simp only [Yy,Ga,Xh,Yr,Ys]
 have hlL:((Cz s most).map Cf).length=(Cz s most).length:=Uw ..;generalize hsum:(Cz s most).map Cf=sums at *;generalize (Cz s most).length=m at *;refine Oz ?_;refine GQ [6,7,8,9,13] fun K hK=>?_;refine Ac Tryz.call32 ?_;refine Qs ?_;refine Yi (Qz wb) ?_;rintro v w11 ⟨gw,hHw,rfl⟩;have hHt:=hHs.call0 hHw;clear hHs hHw;(try refine Qs ?_);apply hK;clear hK;refine GQ [6,7,8,9,13] fun K hK=>?_;refine Ac X6 ?_;refine Qs ?_;refine Yi (Il gw none 0 [] 25779555029136 48 w11 (by omega) (by decide) (by simp) (hHt.focus 0 rfl)) ?_;rintro v w12 ⟨a',c',hHp,rfl⟩;have hHu:=hHt.call1 0 rfl hHp;clear hHt hHp;(try refine Qs ?_);apply hK;clear hK
 have hHv:Heap w [] w12 [wr gw a' c' (A1 48 25779555029136),Res.obj (dr+1) ro,Ya gs 9 [Aa []],Ya gm 3 [.int .i64 most],Res.obj dr (.deferred (some [])),Ya g9 72 [.slice a2 m c2],Yf 78 1 a2 m c2 (Bk sums),
   Ya g8 71 [.slice (some ⟨ga,0,none⟩) (m+1) c1],Yf 70 2 (some ⟨ga,0,none⟩) (m+1) c1 (Fa (hd::bs)),Ya g7 23 [.int .i64 0],Ya g6 9 [.string ⟨#[]⟩]]:=hHu
 clear hHu;refine GQ [6,7,8,13] fun K hK=>?_;refine ⟨_,Aj (hHv.at 5 rfl) rfl,?_⟩;(try refine Qs ?_);have hcs:=Qdd sums a2 c2 w12 (by rw [hlL];exact Az (hHv.at 6 rfl)) h32 (by omega);rw [hlL] at hcs;refine Ac Tryz.call34 ?_;refine Qs ?_;refine Yi hcs ?_;rintro v w13 ⟨rfl,rfl⟩;(try refine Qs ?_);rw [show ((Ic sums:Nat):Int) % 18446744073709551616=((Ic sums:Nat):Int) by omega];refine Ac X6 ?_;refine Qs ?_;refine Yi (Il gw a' c' (A1 48 25779555029136) (Ic sums) 32 w13 (by omega) (by simpa using hcl) (by rw [Ct];omega) (hHv.focus 0 rfl)) ?_;rintro v w14 ⟨a3,c3,hHp,rfl⟩;(try refine Qs ?_);apply hK;clear hK;have hBl:(A1 48 25779555029136++A1 32 (Ic sums)).length=80:=by simp [Ct]
 generalize A1 48 25779555029136++A1 32 (Ic sums)=B at *
 have hHw:Heap w [] w14 [wr gw a3 c3 B,Res.obj (dr+1) ro,Ya gs 9 [Aa []],Ya gm 3 [.int .i64 most],Res.obj dr (.deferred (some [])),Ya g9 72 [.slice a2 m c2],Yf 78 1 a2 m c2 (Bk sums),
   Ya g8 71 [.slice (some ⟨ga,0,none⟩) (m+1) c1],Yf 70 2 (some ⟨ga,0,none⟩) (m+1) c1 (Fa (hd::bs)),Ya g7 23 [.int .i64 0],Ya g6 9 [.string ⟨#[]⟩]]:=hHv.call1 0 rfl hHp
 clear hHv hHp hcs hcl h32 hlL hok hpb;have hf:=hHw.focus 8 rfl;have hW:=hHw.at 0 rfl;have hlen:(hd::(bs++[B])).length=m+1+1:=by simp;omega
 have hjn:=fun (gp cap:Nat) (w:World) hl=>Qds (hd::(bs++[B])) ⟨gp,0,none⟩ rfl cap w hl (by
  have:hd.length=32:=by rw [hhd,D8];rfl
  simp only [Yy,Ga,Xh,Yr,Yb];omega) (by omega)
 rw [hlen] at hjn;generalize hls:(hd::(bs++[B]))=ls at *;clear hlen;obtain ⟨w0,hx0,c0,hE⟩:∃ w0,Ext w0 w14/\w0.cell? ⟨g8,0,none⟩=some (.slice (some ⟨ga,0,none⟩) (m+1) c1)/\∀ w' G,Heap w14 (Yf 70 2 (some ⟨ga,0,none⟩) (m+1) c1 (Fa (hd::bs))).foot w' G->Ext w0 w':=⟨holes (Yf 70 2 (some ⟨ga,0,none⟩) (m+1) c1 (Fa (hd::bs))).foot w14,Ext.hole _ _,hHw.hole_at 8 7 rfl rfl (by omega) rfl,fun w' G h=>h.upd.extH⟩;(repeat with_reducible refine Ba ?_);refine Qgl w0 hx0 [6,7,14,15] (.two [(0,true),(1,true),(3,true)] 2 12 (.two [] 4 12 (.two [(5,true)] 6 12 (.two [] 7 12 (.two [] 8 12 (.seq [(9,true),(10,true),(11,true),(12,false),(13,false),(14,true)]) (.seq [(8,false),(9,true),(10,true),(11,true),(13,false),(14,true)])) (.seq [(7,false),(8,false),(9,true),(10,true),(11,true),(13,false),(14,true)])) (.seq [(6,false),(7,false),(8,false),(9,true),(10,true),(11,true),(13,false),(14,true)])) (.seq [(4,false),(5,true),(6,false),(7,false),(8,false),(9,true),(10,true),(11,true),(13,false),(14,true)])) (.seq [(2,false),(4,false),(5,true),(6,false),(7,false),(8,false),(9,true),(10,true),(11,true),(13,false),(14,true)])) (by kernel_rfl) (by kernel_rfl) (by kernel_rfl) fun K hK=>?_
 suffices out:∀ (g14:Nat) (w':World),Heap w [] w' [Ya g14 70 (Ax ls.flatten),Res.obj dr (.deferred (some [])),Ya g7 23 [.int .i64 0],Ya g6 9 [.string ⟨#[]⟩]]->K [(6,pt g6),(7,pt g7),(14,pt g14),(15,.int .i64 0)] w' by
  simp only [Tk,Be,List.filterMap_cons,List.filterMap_nil,List.getElem?_cons_succ,List.getElem?_cons_zero,Option.map_some];refine Qs ?_;refine ⟨_,c0,?_⟩;(try simp only [Bm]);(try refine Qs ?_);refine And.intro ?_ ?_
  ·
   refine Ac Gr ?_;refine Qs ?_;refine Yi (Px gw a3 c3 B _ hW) ?_;rintro v wt ⟨rfl,rfl⟩;(try simp only [Ms]);refine ⟨hE _ _ hf,?_⟩;(try simp only [Bm]);(try refine Qs ?_);refine And.intro ?_ ?_
   ·
    refine Ac U4 ?_;refine Qs ?_;refine Yi (Ov gw a3 c3 B _ hW) ?_;rintro v wt ⟨rfl,rfl⟩;(try simp only [Ms]);refine ⟨hE _ _ hf,?_⟩;(try simp only [Bm]);(try refine Qs ?_);refine And.intro ?_ ?_
    ·
     refine Es hf 2 (Ax B) (xs:=[.tmp 78]) Ym Oc rfl rfl rfl (by omega) (by omega) ?_;refine Qs ?_;refine ⟨by simp [Ax,Yw],by simp [Ax,Yw],fun gl wl hf=>?_⟩;refine ⟨hE _ _ hf,?_⟩;(try simp only [Bm]);(try refine Qs ?_);refine And.intro ?_ ?_
     ·
      refine Cd ?_;refine Qs ?_;refine D9 (zs:=#[.string ⟨#[]⟩,.int .i64 0]) (bytes:=24) hf 1 rfl Ym (by kernel_rfl) rfl ⟨rfl,Az (hf.at 0 rfl),70,Ym⟩ (E1 _) (fun h=>by omega) fun a' cap' wp hc' hf=>?_;obtain ⟨gp,rfl⟩:=Fz (hf.at 1 rfl) (by omega);refine ⟨hE _ _ hf,?_⟩;simp only [Yh,Yc] at hf;rw [Q2,Yq,hls] at hf;(try simp only [Bm]);(try refine Qs ?_);refine And.intro ?_ ?_
      ·
       refine Ac Xy ?_;refine Qs ?_;refine Yi (hjn gp cap' _ (Az (hf.at 1 rfl))) ?_;rintro v wj ⟨hJ,rfl⟩;have hf:=hf.call0 hJ;simp only [Ye] at hf;(try simp only [Ms]);refine ⟨hE _ _ hf,?_⟩;(try simp only [Bm]);(try refine Qs ?_);refine A7 (.agg #[.string ⟨#[]⟩,.int .i64 0]) (by kernel_rfl) ?_;refine Qs ?_;have hf:=hf.box 70 [.string ⟨#[]⟩,.int .i64 0];refine ⟨hE _ _ hf,?_⟩;(try simp only [Bm]);(try refine Qs ?_);refine Af ?_;refine Qs ?_;refine Al hf 0 (vs:=Ax ls.flatten) rfl rfl (by kernel_rfl) (by simp [Ax]) (E1 _) fun ws hf=>?_;refine ⟨hE _ _ hf,?_⟩;simp only [Yh,Yc] at hf;(try simp only [Bm]);(try refine Qs ?_);exact out _ _ ((hHw.call1 8 rfl (hf.perm (.swap _ _ _))).sub (.cons_cons _ (.cons _ (.cons _ (.cons _ (.cons _ (.cons _ (.cons_cons _ (.cons _ (.cons _ (.cons _ (.cons _ (.refl _)))))))))))))
      refine A7 (.agg #[.string ⟨#[]⟩,.int .i64 0]) (by kernel_rfl) ?_;refine Qs ?_;have hf:=hf.box 70 [.string ⟨#[]⟩,.int .i64 0];refine ⟨hE _ _ hf,?_⟩;(try simp only [Bm]);(try refine Qs ?_);refine Ac Xy ?_;refine Qs ?_;refine Yi (hjn gp cap' _ (Az (hf.at 2 rfl))) ?_;rintro v wj ⟨hJ,rfl⟩;have hf:=hf.call0 hJ;simp only [Ye] at hf;(try simp only [Ms]);refine ⟨hE _ _ hf,?_⟩;(try simp only [Bm]);(try refine Qs ?_);refine Af ?_;refine Qs ?_;refine Al hf 0 (vs:=Ax ls.flatten) rfl rfl (by kernel_rfl) (by simp [Ax]) (E1 _) fun ws hf=>?_;refine ⟨hE _ _ hf,?_⟩;simp only [Yh,Yc] at hf;(try simp only [Bm]);(try refine Qs ?_);exact out _ _ ((hHw.call1 8 rfl (hf.perm (.swap _ _ _))).sub (.cons_cons _ (.cons _ (.cons _ (.cons _ (.cons _ (.cons _ (.cons_cons _ (.cons _ (.cons _ (.cons _ (.cons _ (.refl _)))))))))))))
     refine A7 (.agg #[.string ⟨#[]⟩,.int .i64 0]) (by kernel_rfl) ?_;refine Qs ?_;have hf:=hf.box 70 [.string ⟨#[]⟩,.int .i64 0];refine ⟨hE _ _ hf,?_⟩;(try simp only [Bm]);(try refine Qs ?_);refine Cd ?_;refine Qs ?_;refine D9 (zs:=#[.string ⟨#[]⟩,.int .i64 0]) (bytes:=24) hf 2 rfl Ym (by kernel_rfl) rfl ⟨rfl,Az (hf.at 1 rfl),70,Ym⟩ (E1 _) (fun h=>by omega) fun a' cap' wp hc' hf=>?_;obtain ⟨gp,rfl⟩:=Fz (hf.at 2 rfl) (by omega);refine ⟨hE _ _ hf,?_⟩;simp only [Yh,Yc] at hf;rw [Q2,Yq,hls] at hf;(try simp only [Bm]);(try refine Qs ?_);refine Ac Xy ?_;refine Qs ?_;refine Yi (hjn gp cap' _ (Az (hf.at 2 rfl))) ?_;rintro v wj ⟨hJ,rfl⟩;have hf:=hf.call0 hJ;simp only [Ye] at hf;(try simp only [Ms]);refine ⟨hE _ _ hf,?_⟩;(try simp only [Bm]);(try refine Qs ?_);refine Af ?_;refine Qs ?_;refine Al hf 0 (vs:=Ax ls.flatten) rfl rfl (by kernel_rfl) (by simp [Ax]) (E1 _) fun ws hf=>?_;refine ⟨hE _ _ hf,?_⟩;simp only [Yh,Yc] at hf;(try simp only [Bm]);(try refine Qs ?_);exact out _ _ ((hHw.call1 8 rfl (hf.perm (.swap _ _ _))).sub (.cons_cons _ (.cons _ (.cons _ (.cons _ (.cons _ (.cons _ (.cons_cons _ (.cons _ (.cons _ (.cons _ (.cons _ (.refl _)))))))))))))
    refine A7 (.agg #[.string ⟨#[]⟩,.int .i64 0]) (by kernel_rfl) ?_;refine Qs ?_;have hf:=hf.box 70 [.string ⟨#[]⟩,.int .i64 0];refine ⟨hE _ _ hf,?_⟩;(try simp only [Bm]);(try refine Qs ?_);refine Es hf 2 (Ax B) (xs:=[.tmp 78]) Ym Oc rfl rfl rfl (by omega) (by omega) ?_;refine Qs ?_;refine ⟨by simp [Ax,Yw],by simp [Ax,Yw],fun gl wl hf=>?_⟩;refine ⟨hE _ _ hf,?_⟩;(try simp only [Bm]);(try refine Qs ?_);refine Cd ?_;refine Qs ?_;refine D9 (zs:=#[.string ⟨#[]⟩,.int .i64 0]) (bytes:=24) hf 2 rfl Ym (by kernel_rfl) rfl ⟨rfl,Az (hf.at 0 rfl),70,Ym⟩ (E1 _) (fun h=>by omega) fun a' cap' wp hc' hf=>?_;obtain ⟨gp,rfl⟩:=Fz (hf.at 2 rfl) (by omega);refine ⟨hE _ _ hf,?_⟩;simp only [Yh,Yc] at hf;rw [Q2,Yq,hls] at hf;(try simp only [Bm]);(try refine Qs ?_);refine Ac Xy ?_;refine Qs ?_;refine Yi (hjn gp cap' _ (Az (hf.at 2 rfl))) ?_;rintro v wj ⟨hJ,rfl⟩;have hf:=hf.call0 hJ;simp only [Ye] at hf;(try simp only [Ms]);refine ⟨hE _ _ hf,?_⟩;(try simp only [Bm]);(try refine Qs ?_);refine Af ?_;refine Qs ?_;refine Al hf 1 (vs:=Ax ls.flatten) rfl rfl (by kernel_rfl) (by simp [Ax]) (E1 _) fun ws hf=>?_;refine ⟨hE _ _ hf,?_⟩;simp only [Yh,Yc] at hf;(try simp only [Bm]);(try refine Qs ?_);exact out _ _ ((hHw.call1 8 rfl hf).sub (.cons_cons _ (.cons _ (.cons _ (.cons _ (.cons _ (.cons _ (.cons_cons _ (.cons _ (.cons _ (.cons _ (.cons _ (.refl _)))))))))))))
   refine A7 (.agg #[.string ⟨#[]⟩,.int .i64 0]) (by kernel_rfl) ?_;refine Qs ?_;have hf:=hf.box 70 [.string ⟨#[]⟩,.int .i64 0];refine ⟨hE _ _ hf,?_⟩;(try simp only [Bm]);(try refine Qs ?_);have hW:=(hHw.call1 8 rfl hf).at 1 rfl;refine Ac U4 ?_;refine Qs ?_;refine Yi (Ov gw a3 c3 B _ hW) ?_;rintro v wt ⟨rfl,rfl⟩;(try simp only [Ms]);refine ⟨hE _ _ hf,?_⟩;(try simp only [Bm]);(try refine Qs ?_);refine Es hf 2 (Ax B) (xs:=[.tmp 78]) Ym Oc rfl rfl rfl (by omega) (by omega) ?_;refine Qs ?_;refine ⟨by simp [Ax,Yw],by simp [Ax,Yw],fun gl wl hf=>?_⟩;refine ⟨hE _ _ hf,?_⟩;(try simp only [Bm]);(try refine Qs ?_);refine Cd ?_;refine Qs ?_;refine D9 (zs:=#[.string ⟨#[]⟩,.int .i64 0]) (bytes:=24) hf 2 rfl Ym (by kernel_rfl) rfl ⟨rfl,Az (hf.at 0 rfl),70,Ym⟩ (E1 _) (fun h=>by omega) fun a' cap' wp hc' hf=>?_;obtain ⟨gp,rfl⟩:=Fz (hf.at 2 rfl) (by omega);refine ⟨hE _ _ hf,?_⟩;simp only [Yh,Yc] at hf;rw [Q2,Yq,hls] at hf;(try simp only [Bm]);(try refine Qs ?_);refine Ac Xy ?_;refine Qs ?_;refine Yi (hjn gp cap' _ (Az (hf.at 2 rfl))) ?_;rintro v wj ⟨hJ,rfl⟩;have hf:=hf.call0 hJ;simp only [Ye] at hf;(try simp only [Ms]);refine ⟨hE _ _ hf,?_⟩;(try simp only [Bm]);(try refine Qs ?_);refine Af ?_;refine Qs ?_;refine Al hf 1 (vs:=Ax ls.flatten) rfl rfl (by kernel_rfl) (by simp [Ax]) (E1 _) fun ws hf=>?_;refine ⟨hE _ _ hf,?_⟩;simp only [Yh,Yc] at hf;(try simp only [Bm]);(try refine Qs ?_);exact out _ _ ((hHw.call1 8 rfl hf).sub (.cons_cons _ (.cons _ (.cons _ (.cons _ (.cons _ (.cons _ (.cons_cons _ (.cons _ (.cons _ (.cons _ (.cons _ (.refl _)))))))))))))
  refine A7 (.agg #[.string ⟨#[]⟩,.int .i64 0]) (by kernel_rfl) ?_;refine Qs ?_;have hf:=hf.box 70 [.string ⟨#[]⟩,.int .i64 0];refine ⟨hE _ _ hf,?_⟩;(try simp only [Bm]);(try refine Qs ?_);have hW:=(hHw.call1 8 rfl hf).at 1 rfl;refine Ac Gr ?_;refine Qs ?_;refine Yi (Px gw a3 c3 B _ hW) ?_;rintro v wt ⟨rfl,rfl⟩;(try simp only [Ms]);refine ⟨hE _ _ hf,?_⟩;(try simp only [Bm]);(try refine Qs ?_);refine Ac U4 ?_;refine Qs ?_;refine Yi (Ov gw a3 c3 B _ hW) ?_;rintro v wt ⟨rfl,rfl⟩;(try simp only [Ms]);refine ⟨hE _ _ hf,?_⟩;(try simp only [Bm]);(try refine Qs ?_);refine Es hf 2 (Ax B) (xs:=[.tmp 78]) Ym Oc rfl rfl rfl (by omega) (by omega) ?_;refine Qs ?_;refine ⟨by simp [Ax,Yw],by simp [Ax,Yw],fun gl wl hf=>?_⟩;refine ⟨hE _ _ hf,?_⟩;(try simp only [Bm]);(try refine Qs ?_);refine Cd ?_;refine Qs ?_;refine D9 (zs:=#[.string ⟨#[]⟩,.int .i64 0]) (bytes:=24) hf 2 rfl Ym (by kernel_rfl) rfl ⟨rfl,Az (hf.at 0 rfl),70,Ym⟩ (E1 _) (fun h=>by omega) fun a' cap' wp hc' hf=>?_;obtain ⟨gp,rfl⟩:=Fz (hf.at 2 rfl) (by omega);refine ⟨hE _ _ hf,?_⟩;simp only [Yh,Yc] at hf;rw [Q2,Yq,hls] at hf;(try simp only [Bm]);(try refine Qs ?_);refine Ac Xy ?_;refine Qs ?_;refine Yi (hjn gp cap' _ (Az (hf.at 2 rfl))) ?_;rintro v wj ⟨hJ,rfl⟩;have hf:=hf.call0 hJ;simp only [Ye] at hf;(try simp only [Ms]);refine ⟨hE _ _ hf,?_⟩;(try simp only [Bm]);(try refine Qs ?_);refine Af ?_;refine Qs ?_;refine Al hf 1 (vs:=Ax ls.flatten) rfl rfl (by kernel_rfl) (by simp [Ax]) (E1 _) fun ws hf=>?_;refine ⟨hE _ _ hf,?_⟩;simp only [Yh,Yc] at hf;(try simp only [Bm]);(try refine Qs ?_);exact out _ _ ((hHw.call1 8 rfl hf).sub (.cons_cons _ (.cons _ (.cons _ (.cons _ (.cons _ (.cons _ (.cons_cons _ (.cons _ (.cons _ (.cons _ (.cons _ (.refl _)))))))))))))
 intro g14 w15 hHy;apply hK;clear hK;clear hf hW hx0 c0 hE hjn hHw;refine GQ [6,7] fun K hK=>?_;refine ⟨_,Aj (hHy.at 0 rfl) (show (Ax ls.flatten)[0]? = some _ from rfl),?_⟩;(try refine Qs ?_);refine Af ?_;refine Qs ?_;refine Al hHy 3 (vs:=[Aa (Bh ls.flatten)]) rfl rfl (by kernel_rfl) (by simp) (by simp [Yg]) fun w16 hHz=>?_;(try refine Qs ?_);refine Af ?_;refine Qs ?_;refine Al hHz 2 (vs:=[.int .i64 0]) rfl rfl (by kernel_rfl) (by simp) (by simp [Yg]) fun w17 hHq=>?_;(try refine Qs ?_);apply hK;clear hK;have hHr:Heap w [] w17 [Res.obj dr (.deferred (some [])),Ya g7 23 [.int .i64 0],Ya g6 9 [Aa (Bh ls.flatten)]]:=hHq.sub (.cons _ (.refl _));have hHp2:=hHr.put (.deferred none);exact N3 (QOk (hHr.at 0 rfl) (Qpx (hHp2.at 2 rfl) (hHp2.at 1 rfl) ⟨hHp2.sub (by simp),hend⟩))
open Go.Shelf
def Qe4:Go.Shelf.Ren:=⟨fun | 105=>38 | 212=>70 | 99=>23 | 165=>71 | 166=>53 | 170=>72 | 169=>54 | 263=>112 | 264=>113 | 206=>47 | 240=>95 | 241=>114 | 276=>134 | 277=>147 | n=>n,fun | 9=>9 | 3=>3 | 4=>4 | 20=>20 | 0=>0 | 46=>128 | 109=>133 | 5=>5 | 72=>105 | 76=>109 | 51=>78 | 146=>175 | 53=>83 | 148=>177 | 70=>103 | 37=>37 | 75=>108 | 127=>159 | 164=>193 | 80=>86 | n=>n,fun | n=>n⟩
theorem QEv:Go.Proofs.Lays.n105 Yj Qe4:={
 mixed:=by kernel_rfl
 f99:=Tryz.func23.trans (congrArg some (by kernel_rfl))
 f105:=Tryz.func38.trans (congrArg some (by kernel_rfl))
 f165:=Tryz.func71.trans (congrArg some (by kernel_rfl))
 f166:=Tryz.func53.trans (congrArg some (by kernel_rfl))
 f169:=Tryz.func54.trans (congrArg some (by kernel_rfl))
 f170:=Tryz.func72.trans (congrArg some (by kernel_rfl))
 f206:=Tryz.func47.trans (congrArg some (by kernel_rfl))
 f212:=Tryz.func70.trans (congrArg some (by kernel_rfl))
 f240:=Tryz.func95.trans (congrArg some (by kernel_rfl))
 f241:=Tryz.func114.trans (congrArg some (by kernel_rfl))
 f263:=Tryz.func112.trans (congrArg some (by kernel_rfl))
 f264:=Tryz.func113.trans (congrArg some (by kernel_rfl))
 f276:=Tryz.func134.trans (congrArg some (by kernel_rfl))
 f277:=Tryz.func147.trans (congrArg some (by kernel_rfl))
 t0:=Tryz.underlying0
 a0:=Tryz.isAgg0
 z0:=Tryz.sizeOf0
 v0:=Tryz.zeroValue0
 t3:=Us
 a3:=Gt
 z3:=Gk
 v3:=Tryz.zeroValue3
 t4:=Tryz.underlying4
 a4:=Tryz.isAgg4
 z4:=Tryz.sizeOf4
 v4:=Tryz.zeroValue4
 t5:=Ut
 a5:=Gu
 z5:=Gl
 v5:=Uz
 t9:=Tryz.underlying9
 a9:=Tryz.isAgg9
 z9:=Tryz.sizeOf9
 v9:=Tryz.zeroValue9
 t20:=Tryz.underlying20
 a20:=Tryz.isAgg20
 z20:=Tryz.sizeOf20
 v20:=Tryz.zeroValue20
 t37:=Um
 a37:=Tryz.isAgg37
 z37:=Tryz.sizeOf37
 v37:=Tryz.zeroValue37
 t46:=Gh
 a46:=Tryz.isAgg128
 z46:=Tryz.sizeOf128
 v46:=Gm
 t51:=Gn
 a51:=Tryz.isAgg78
 z51:=Tryz.sizeOf78
 v51:=Tryz.zeroValue78
 t53:=Gp
 a53:=Tryz.isAgg83
 z53:=Tryz.sizeOf83
 v53:=Tryz.zeroValue83
 t70:=Tryz.underlying103
 a70:=Tryz.isAgg103
 z70:=Tryz.sizeOf103
 v70:=Tryz.zeroValue103
 t72:=Tryz.underlying105
 a72:=Tryz.isAgg105
 z72:=Tryz.sizeOf105
 v72:=Tryz.zeroValue105
 t75:=Tryz.underlying108
 a75:=Tryz.isAgg108
 z75:=Tryz.sizeOf108
 v75:=Tryz.zeroValue108
 t76:=Tryz.underlying109
 a76:=Tryz.isAgg109
 z76:=Tryz.sizeOf109
 v76:=Tryz.zeroValue109
 t109:=Tryz.underlying133
 a109:=Tryz.isAgg133
 z109:=Tryz.sizeOf133
 v109:=Tryz.zeroValue133
 t127:=Tryz.underlying159
 a127:=Tryz.isAgg159
 z127:=Tryz.sizeOf159
 v127:=Tryz.zeroValue159
 t146:=Tryz.underlying175
 a146:=Tryz.isAgg175
 z146:=Tryz.sizeOf175
 v146:=Tryz.zeroValue175
 t148:=Tryz.underlying177
 a148:=Tryz.isAgg177
 z148:=Tryz.sizeOf177
 v148:=Tryz.zeroValue177
 t164:=Tryz.underlying193
 a164:=Tryz.isAgg193
 z164:=Tryz.sizeOf193
 v164:=Tryz.zeroValue193 }
theorem Qzu:Go.Proofs.Builder.Extra Yj Qe4 where
 sizeBuilder:=by kernel_rfl
 liesBuilder:=by kernel_rfl
 t5:=Ut
 a5:=Gu
 z5:=Gl
 v5:=Uz
 infoByte:=by kernel_rfl
 cellsByte:=by kernel_rfl
 sizeByte:=by kernel_rfl
 neB5:=by decide
open Go Go.Eng
set_option maxHeartbeats 1000000
theorem bdE {KV:Value->Prop} (s0:ByteArray):Cr Yj 29 [(0,.string s0)] KV=KV (.agg #[.string s0,.string ⟨#[]⟩]):=Dk (by kernel_rfl)
attribute [go_sem ↓] bdE
theorem Qof (n:Nat) (w:World) (hn:n<=1000):Does Yj 38 #[Aa [0],.int .i64 n] w fun v w'=>Heap w [] w' []/\v=Aa (Bl n):=by
 intro m;have hm:=Go.Proofs.Any.strings_Repeat QEv Qzu ⟨#[0]⟩ n (w.drewN m) (by omega) (by simp [ByteArray.size];omega);refine hm.mono fun e w' ⟨he,hw⟩=>?_;refine ⟨_,w',0,he,rfl,⟨⟨hw.os,hw.tape,hw.output,hw.size,fun k hk _=>hw.block k hk⟩,by simp,by simp,.nil⟩,?_⟩
 have:∀ n,Lib.repeatL [0] n=Bl n:=by
  intro n
  induction n with
  | zero=>rfl
  | succ n ih=>rw [Lib.repeatL,ih,Bl,Bl,List.replicate_succ];rfl
 show _=Aa _
 rw [<- this]
theorem Qdg (s:Bs) (w:World) (hs:s.length<=1000000000000):Does Yj 16 #[Aa s] w fun v w'=>Heap w [] w' []/\v=Aa (I0 s):=by
 refine En [Aa s] 13 Tryz.func16 ?_;refine VS [0] ?_;refine VQ [0,3] fun K hK=>?_;rw [show (512 - (s.length:Int) % 512) % 512=(((512 - s.length % 512) % 512:Nat):Int) by omega];refine ⟨by omega,by omega,Xn (by omega) (by omega),by omega,by omega,?_⟩;apply hK;clear hK;refine VQ [2] fun K hK=>?_;refine Ac Tryz.call38 ?_;refine Qs ?_;refine Yi (Qof ((512 - s.length % 512) % 512) w (by omega)) ?_;rintro v w2 ⟨hH,rfl⟩;(try refine Qs ?_);refine And.intro (by rw [F0];omega) ?_;apply hK;clear hK;exact Ad (A0 rfl rfl ⟨hH,rfl⟩)
noncomputable def makeV (p c:Bs):Value :=
 if Ei p=some p then (if 8192 < c.length then .tuple #[Aa [],.int .i64 3] else .tuple #[Aa (Dc p c (tS c)),.int .i64 0]) else .tuple #[Aa [],.int .i64 140]
theorem Ze (p c:Bs) (w:World) (hT:Tb w) (hp:p.length<=1000000000) (hc:c.length<=140737488355328) :
  Does Yj 8 #[Aa p,Aa c] w fun v w'=>Heap w [] w' []/\v=makeV p c/\(Ei p=some p->c.length<=8192->P1 c (tS c)):=by
 rw [makeV];refine En [Aa p,Aa c] 52 Tryz.func8 ?_;refine VS [0,1] ?_;refine VS [0,1,13] ?_;refine VD (fun h=>?_) (fun h=>Ab ?_)
 ·
  refine VQ [7] fun K hK=>?_;refine Ac Tryz.call14 ?_;refine Qs ?_;refine Yi (Qe3 p [] w hT hp (by simp)) ?_;rintro v w2 ⟨hH,rfl⟩;rw [Qmj];by_cases hg:Ei p=some p
  ·
   rw [if_pos hg,if_neg (by simp)];(try refine Qs ?_);apply hK;clear hK;rw [if_pos hg,if_pos (by omega)];refine VS [7,21] ?_;refine Ae rfl rfl (fun h=>by simp at h) (fun h=>Ab ?_);refine VS [4,5] ?_;exact Ad (A6 rfl rfl rfl ⟨hH,rfl,fun _ h2=>by omega⟩)
  rw [if_neg hg];(try refine Qs ?_);apply hK;clear hK;rw [if_neg hg];refine VS [7,21] ?_;refine Ae rfl rfl (fun h=>?_) (fun h=>by simp at h);refine VS [4,5] ?_;exact Ad (A6 rfl rfl rfl ⟨hH,rfl,fun h2 _=>absurd h2 hg⟩)
 refine VQ [1,8,9] fun K hK=>?_;refine Ac Tryz.call14 ?_;refine Qs ?_;refine Yi (Qe3 p c w hT hp (by omega)) ?_;rintro v w2 ⟨hH,rfl⟩;rw [Qmj];by_cases hg:Ei p=some p
 ·
  rw [if_pos hg,if_neg (by omega)];(try refine Qs ?_);apply hK;clear hK;rw [if_pos hg,if_neg (by omega)];refine VS [1,8,9,31] ?_;refine Ae rfl rfl (fun h=>by simp at h) (fun h=>Ab ?_);refine VQ [1,8,9,10] fun K hK=>?_;refine Ac Tryz.call15 ?_;refine Qs ?_;refine Yi (Qwp c 1 20000 w2 (Xn (by omega) (by omega)) (Xn (by omega) (by omega)) (by omega)) ?_;rintro v w3 ⟨hHx,hv⟩;rw [PackOk,if_neg (by omega),if_neg (by omega)] at hv;obtain ⟨bs,hb,rfl⟩:=hv;have hP:P1 c (Bh (F6 1 bs ((Cz c 20000).map Cf))):=⟨bs,hb,rfl⟩;have hP2:=hP;rw [hP.tS] at hP2;replace hH:=hH.call0 hHx;rw [Ye] at hH;clear hHx;rw [show Xt 1=1 from rfl,hP.tS];generalize tS c=T at *;(try refine Qs ?_);apply hK;clear hK
  show VC _ _ [(1,Aa c),(8,Aa (K5 p c.length++I0 c)),(9,.int .i64 0),(10,Aa T)] w3
  refine VS [1,8,9,10,39] ?_;refine Ae rfl rfl (fun h=>by simp at h) (fun h=>Ab ?_);have hsm:=hP2.small (by omega);refine Vb [4,5] [(0,0),(1,0),(2,0),(3,0),(8,0),(4,2),(5,0),(6,0),(7,0),(9,2),(10,0),(11,0),(12,0)] fun K hK=>?_;refine Ac Tryz.call16 ?_;refine Qs ?_;refine Yi (Qdg c w3 (by omega)) ?_;rintro v w4 ⟨hHx,rfl⟩;replace hH:=hH.call0 hHx;rw [Ye] at hH;clear hHx;(try refine Qs ?_);have hfl:=Qkb hg c.length;have hpc:=Rf c;have hpT:=Rf T;have hf2:(K5 p c.length).length<=1536:=by rw [hfl];split <;> omega
  rw [show (K5 p c.length++I0 c).take ((K5 p c.length++I0 c).length - (I0 c).length)=K5 p c.length by
   rw [Yb,Ue];exact Uy rfl]
  refine And.intro (Xn (by rw [Yb];omega) (by rw [Yb];omega)) (And.intro (by rw [Yb];omega) ?_);refine Ac Tryz.call16 ?_;refine Qs ?_;refine Yi (Qdg T w4 (by omega)) ?_;rintro v w5 ⟨hHx,rfl⟩;replace hH:=hH.call0 hHx;rw [Ye] at hH;clear hHx;(try refine Qs ?_);refine Qo ?_;apply hK;clear hK;exact Ad (A6 rfl rfl rfl ⟨hH,rfl,fun _ _=>hP2⟩)
 rw [if_neg hg];(try refine Qs ?_);apply hK;clear hK;rw [if_neg hg];refine VS [1,8,9,31] ?_;refine Ae rfl rfl (fun h=>?_) (fun h=>by simp at h);refine VS [4,5] ?_;exact Ad (A6 rfl rfl rfl ⟨hH,rfl,fun h2 _=>absurd h2 hg⟩)
set_option maxHeartbeats 1000000
def Ti (s:Bs) (v:Value):Prop :=
 match Oe s with
 | some n=>v=.tuple #[.int .i64 n,.int .i64 0]
 | none=>∃ e:Int,e≠0/\v=.tuple #[.int .i64 0,.int .i64 e]
theorem Qea {s:Bs} (h:Oe s=none) {e:Int} (he:e≠0):Ti s (.tuple #[.int .i64 0,.int .i64 e]):=by unfold Ti;rw [h];exact ⟨e,he,rfl⟩
theorem Qwq {s:Bs}{n:Nat} (h:Oe s=some n):Ti s (.tuple #[.int .i64 n,.int .i64 0]):=by unfold Ti;rw [h]
theorem Qpy:∀ (l:Bs) (m:Nat),m<=10 * 9007199254740992+255->l.foldl O5 m<=10 * 9007199254740992+255
 | [],_,h=>h
 | b::l,m,h=>by
  rw [List.foldl_cons];refine Qpy l _ ?_;have:=b.toNat_lt;rw [O5];split <;> omega
theorem Qi5 (s:Bs) (w:World) (hs:s.length<=1000000000):Does Yj 43 #[Aa s] w fun v w'=>w'=w/\Ti s v:=by
 refine En [Aa s] 46 Tryz.func43 ?_;refine VS [0] ?_;refine VQ [0,16] fun K hK=>?_
 suffices out:∀ c:Bool,(c=true ↔ s=[]∨(s.getD 0 0=48/\s≠[48]))->K [(0,Aa s),(16,.bool c)] w by
  refine And.intro (fun h=>And.intro ⟨by omega,by have:=Xl.2 h;omega⟩ (And.intro (fun h2=>out _ ?_) (fun h2=>out _ ?_))) (fun h=>out _ (by simp [h]))
  ·
   rw [show Xt 0=0 from rfl,i8 (s.getD 0 0) 48 (n:=48) rfl] at h2;rw [decide_eq_true_eq];exact ⟨fun h3=>.inr ⟨h2,h3⟩,fun h3=>h3.elim (fun h4=>absurd h4 h) (·.2)⟩
  rw [show Xt 0=0 from rfl,i8 (s.getD 0 0) 48 (n:=48) rfl] at h2;simp only [Bool.false_eq_true,false_iff];rintro (h3 | h3)
  ·
   exact h h3
  exact h2 h3.1
 intro c hc;apply hK;clear hK;by_cases hbad:s=[]∨(s.getD 0 0=48/\s≠[48])
 ·
  obtain rfl:=hc.2 hbad;refine Ae rfl rfl (fun h=>?_) (fun h=>by simp at h);refine VS [2,3] ?_;refine Ad (A6 rfl rfl rfl ⟨rfl,?_⟩);exact Qea (by rw [Oe,if_pos hbad]) (e:=150) (by omega)
 have hcf:c=false:=by
  cases c
  ·
   rfl
  exact absurd (hc.1 rfl) hbad
 subst hcf;clear hc;refine Ae rfl rfl (fun h=>by simp at h) (fun h=>Ab ?_);refine VS [0,4] ?_;refine VS [0,4,18,19] ?_;refine Ar ?_;refine Au [0,4,18,19] (fun m e w'=>∃ (i n:Nat),Is e [(0,Aa s),(4,.int .i64 n),(18,.int .i64 s.length),(19,.int .i64 i)]/\Is w' w/\i<=s.length/\(s.take i).all Pf=true/\n=(s.take i).foldl O5 0/\m=s.length - i) s.length ?_ ?_
 ·
  refine Qs ?_;exact ⟨0,0,rfl,rfl,by omega,rfl,rfl,rfl⟩
 rintro m e w' ⟨i,n,rfl,rfl,hi,hall,hn,rfl⟩;have hnl:n<=10 * 9007199254740992+255:=by rw [hn];exact Qpy _ _ (by omega)
 refine VS [0,4,18,19,20] ?_;(repeat refine Ay ?_);refine VD (fun h=>?_) (fun h=>?_)
 ·
  have hi2:i < s.length:=by omega
  have hsn:s.take (i+1)=s.take i++[s.getD i 0]:=by
   rw [Uk,Yl hi2,Yp,Yl hi2];rfl
  have hlt:=(s.getD i 0).toNat_lt;refine Ab ?_;refine VB ?_;refine VS [0,4,5,18,19] ?_;refine VQ [0,4,5,18,19,31] fun K hK=>?_
  suffices out:∀ c:Bool,(c=true ↔ Pf (s.getD i 0)=false)->K [(0,Aa s),(4,.int .i64 n),(5,.int .i64 i),(18,.int .i64 s.length),(19,.int .i64 i),(31,.bool c)] w' by
   refine And.intro (by omega) (And.intro (fun h2=>And.intro (by omega) (out _ ?_)) (fun h2=>out _ ?_))
   ·
    rw [Pf,show decide (48<=(s.getD i 0).toNat)=true from decide_eq_true (by omega),Bool.true_and,decide_eq_true_eq,decide_eq_false_iff_not];omega
   rw [Pf,show decide (48<=(s.getD i 0).toNat)=false from decide_eq_false (by omega)];simp
  intro c hc;apply hK;clear hK;cases hd:Pf (s.getD i 0)
  ·
   obtain rfl:=hc.2 hd;refine Ae rfl rfl (fun h=>?_) (fun h=>by simp at h);refine VS [2,3] ?_;refine Ad (A6 rfl rfl rfl ⟨rfl,?_⟩)
   have hna:¬ s.all Pf=true:=by
    intro ha;have:=X4.1 ha (s.getD i 0) (by rw [Yp,Yl hi2];exact Uo hi2);rw [hd] at this;cases this
   exact Qea (by rw [Oe,if_neg hbad,if_neg hna]) (e:=150) (by omega)
  have hcf:c=false:=by
   cases c
   ·
    rfl
   have:=hc.1 rfl;rw [hd] at this;cases this
  subst hcf;refine Ae rfl rfl (fun h=>by simp at h) (fun h=>Ab ?_);have hr:48<=(s.getD i 0).toNat/\(s.getD i 0).toNat<=57:=by simpa [Pf] using hd
  have hall2:(s.take (i+1)).all Pf=true:=by rw [hsn,List.all_append,hall];simpa using hd
  have hn2:(s.take (i+1)).foldl O5 0=O5 n (s.getD i 0):=by rw [hsn,List.foldl_append,<- hn];rfl
  refine VS [0,4,5,18,19,33] ?_;by_cases hbig:n<=9007199254740992
  ·
   refine Ae rfl rfl (fun h=>?_) (fun h=>absurd h (by simp;omega));rw [O5,if_pos hbig] at hn2;refine VQ [0,4,18,19] fun K hK=>?_;rw [show (((s.getD i 0).toNat:Int) - 48) % 256=(((s.getD i 0).toNat - 48:Nat):Int) by omega];(repeat first | refine Qo ?_ | refine Qp ?_);rw [show (10 * (n:Int)+(((s.getD i 0).toNat - 48:Nat):Int))=((10 * n+((s.getD i 0).toNat - 48):Nat):Int) by omega];apply hK;clear hK;refine Ao ?_;refine VS [0,4,18,19] ?_;refine Ah ?_;refine Qs ?_;exact ⟨s.length - (i+1),by omega,i+1,10 * n+((s.getD i 0).toNat - 48),rfl,rfl,by omega,hall2,hn2.symm,rfl⟩
  refine Ae rfl rfl (fun h=>absurd h (by simp;omega)) (fun h=>Ab ?_);rw [O5,if_neg hbig] at hn2;refine Ao ?_;refine VS [0,4,18,19] ?_;refine Ah ?_;refine Qs ?_;exact ⟨s.length - (i+1),by omega,i+1,n,rfl,rfl,by omega,hall2,hn2.symm,rfl⟩
 obtain rfl:i=s.length:=by omega
 refine As rfl ?_;rw [Ur] at hall hn;have hdec:Oe s=if 9007199254740992 < n then none else some n:=by rw [Oe,if_neg hbad,if_pos hall,<- hn]
 refine VS [4,44] ?_;by_cases hbig:9007199254740992 < n
 ·
  refine Ae rfl rfl (fun h=>?_) (fun h=>absurd h (by simp;omega));rw [if_pos hbig] at hdec;refine VS [2,3] ?_;exact Ad (A6 rfl rfl rfl ⟨rfl,Qea hdec (e:=3) (by omega)⟩)
 refine Ae rfl rfl (fun h=>absurd h (by simp;omega)) (fun h=>Ab ?_);rw [if_neg hbig] at hdec;refine VS [2,3] ?_;exact Ad (A6 rfl rfl rfl ⟨rfl,Qwq hdec⟩)
theorem Qsm (b:UInt8) (s:Bs):Lib.indexByte s b=if b∈s then ((Cw b s).length:Int) else -1:=by
 induction s with
 | nil=>rfl
 | cons c s ih =>
  rw [Lib.indexByte,ih];by_cases hb:c=b
  ·
   subst hb;simp [Cw]
  have h2:¬ b=c:=fun e=>hb e.symm;rw [if_neg (by simpa using hb)];simp only [Xg,h2,false_or,Cw,List.takeWhile_cons,bne_iff_ne,ne_eq,hb,not_false_eq_true,if_true,Yt];split
  ·
   rw [if_neg (by simp;try omega)];simp
  simp
abbrev QN8 (b:UInt8):Value:=Aa [b]
def S7 (b:UInt8) (s:Bs):Value:=.tuple #[Aa (Cw b s),Aa (Me b s),.bool (decide (b∈s))]
theorem Qsn (b:UInt8) (s:Bs) (w:World) (hs:s.length<=1000000000):Does Yj 80 #[Aa s,Aa [b]] w fun v w'=>w'=w/\v=S7 b s:=by
 have hi:Does Yj 118 #[Aa s,Aa [b]] w fun v w'=>w'=w/\v=.int .i64 (Lib.indexByte s b) :=
  Zg fun w=>Go.Proofs.Any.stringslite_Index_one Qqz ⟨s.toArray⟩ b w
 have hle:(Cw b s).length<=s.length:=(Xq _).length_le;refine En [Aa s,QN8 b] 23 Tryz.func80 ?_;refine VS [0,1] ?_;refine VQ [0,1,7] fun K hK=>?_;refine Ac Tryz.call118 ?_;refine Qs ?_;refine Yi hi ?_;rintro v w2 ⟨rfl,rfl⟩;rw [Qsm];(try refine Qs ?_);apply hK;clear hK;by_cases hm:b∈s
 ·
  rw [if_pos hm]
  have hlt:(Cw b s).length < s.length:=by
   rcases Gj (Cw b s).length s.length with h | h
   ·
    exact h
   have he:Cw b s=s:=List.IsPrefix.eq_of_length_le (Xq _) h;have h3:=List.all_takeWhile (p:=fun c=>c != b) (l:=s);rw [show s.takeWhile (fun c=>c != b)=s from he] at h3;have:=X4.1 h3 b hm;simp at this
  refine VS [0,1,7,12] ?_;refine Ae rfl rfl (fun h=>?_) (fun h=>absurd h (by simp));refine Vq [4,5,6] fun K hK=>?_;simp only [Yt,Y7];(repeat first | refine Qo ?_ | refine Qp ?_);apply hK;clear hK;refine Ad (Dd rfl rfl rfl rfl ⟨rfl,?_⟩);rw [S7,decide_eq_true hm,Me,show s.take (Cw b s).length=Cw b s from Qos _ s]
 rw [if_neg hm];refine VS [0,1,7,12] ?_;refine Ae rfl rfl (fun h=>absurd h (by simp)) (fun h=>Ab ?_);refine VS [4,5,6] ?_;refine Ad (Dd rfl rfl rfl rfl ⟨rfl,?_⟩);rw [S7,decide_eq_false hm,Me,Qx8 hm,List.drop_eq_nil_of_le (by omega)]
theorem Qke (b:UInt8) (s:Bs) (w:World) (hs:s.length<=1000000000):Does Yj 42 #[Aa s,Aa [b]] w fun v w'=>w'=w/\v=S7 b s:=by
 refine En [Aa s,QN8 b] 13 Tryz.func42 ?_;refine VS [0,1] ?_;refine VQ [4,5,6] fun K hK=>?_;refine Ac Tryz.call80 ?_;refine Qs ?_;refine Yi (Qsn b s w hs) ?_;rintro v w2 ⟨rfl,rfl⟩;(try refine Qs ?_);apply hK;clear hK;exact Ad (Dd rfl rfl rfl rfl ⟨rfl,rfl⟩)
set_option maxHeartbeats 1000000
def QAq (x:Bs×Bs):List Value:=[Aa x.1,Aa x.2]
def Qf (l:List (Bs×Bs)):List Value:=B8 QAq l
theorem Qwr (x:Bs×Bs):∀ v∈QAq x,v.oneCell'=true:=by simp [QAq,Yg,Aa]
def Rz (w:World) (s:Bs) (v:Value) (w':World):Prop :=
 match Mf s with
 | some l=>∃ a c,v=.tuple #[.slice a l.length c,.int .i64 0]/\Heap w [] w' [Yf tP 2 a l.length c (Qf l)]
 | none=>∃ e:Int,e≠0/\v=.tuple #[.slice none 0 0,.int .i64 e]/\Heap w [] w' []
theorem Qeb {w w':World}{s:Bs}{e:Int} (h:Mf s=none) (he:e≠0) (hH:Heap w [] w' []):Rz w s (.tuple #[.slice none 0 0,.int .i64 e]) w':=by
 unfold Rz;rw [h];exact ⟨e,he,rfl,hH⟩
theorem Qws {w w':World}{s:Bs}{l:List (Bs×Bs)}{a:Option Addr}{c:Nat} (h:Mf s=some l) (hH:Heap w [] w' [Yf tP 2 a l.length c (Qf l)]):Rz w s (.tuple #[.slice a l.length c,.int .i64 0]) w':=by
 unfold Rz;rw [h];exact ⟨a,c,rfl,hH⟩
theorem Qwt (s:Bs) (w:World) (hs:s.length<=512):Does Yj 21 #[Aa s] w fun v w'=>Rz w s v w':=by
 have hpd:Mf s=Of (s.length+1) s []:=by rw [Mf,if_neg (by omega)]
 refine En [Aa s] 82 Tryz.func21 ?_;refine VS [0] ?_;(repeat refine Ay ?_);refine Vg ?_;refine VS [0,14] ?_;refine Ae rfl rfl (fun h=>absurd h (by simp;omega)) (fun h=>Ab ?_);clear h;refine VS [0,4] ?_;(repeat refine Ay ?_);refine Ve ?_;refine VB ?_;refine Au [0,4] (fun m e w'=>∃ (r:Bs) (l:List (Bs×Bs)) (a:Option Addr) (c f:Nat),Is e [(0,Aa r),(4,.slice a l.length c)]/\Heap w [] w' [Yf tP 2 a l.length c (Qf l)]/\r.length < f/\l.length+r.length<=s.length/\Mf s=Of f r l/\m=r.length) s.length ?_ ?_
 ·
  refine Qs ?_;exact ⟨s,[],none,0,s.length+1,rfl,(Xe w).nilRow tP 2,by omega,by simp,hpd,rfl⟩
 clear hpd;rintro m e w' ⟨r,l,a,c,f,rfl,hH,hf,hlr,hpd,rfl⟩;obtain ⟨g,rfl⟩:∃ g,f=g+1:=⟨f - 1,by omega⟩;rw [Of] at hpd;refine Ar ?_;refine VS [0,4,16] ?_;by_cases hr:r=[]
 ·
  rw [if_pos hr] at hpd;refine Ae rfl rfl (fun h=>?_) (fun h=>absurd h (by simp [hr]));refine As rfl ?_;refine VS [2,3] ?_;exact Ad (A6 rfl rfl rfl (Qws hpd hH))
 rw [if_neg hr] at hpd;refine Ae rfl rfl (fun h=>absurd h (by simp [hr])) (fun h=>Ab ?_);clear h;have hle:(Cw 32 r).length<=r.length:=(Xq _).length_le;refine VQ [0,4,5,7] fun K hK=>?_;refine Ac Tryz.call42 ?_;refine Qs ?_;refine Yi (Qke 32 r w' (by omega)) ?_;rintro v w2 ⟨rfl,rfl⟩;rw [S7];(try refine Qs ?_);apply hK;clear hK;refine VQ [0,4,5,7,8,9] fun K hK=>?_;refine Ac Tryz.call43 ?_;refine Qs ?_;refine Yi (Qi5 (Cw 32 r) w2 (by omega)) ?_;rintro v w3 ⟨rfl,hv⟩;rw [Ti] at hv;cases hd:Oe (Cw 32 r) with
 | none =>
  rw [hd] at hv hpd;obtain ⟨e,he,rfl⟩:=hv;(try refine Qs ?_);apply hK;clear hK;refine VQ [0,4,5,8,53] fun K hK=>?_
  suffices out:K [(0,Aa r),(4,.slice a l.length c),(5,Aa (Cw 32 r)),(8,.int .i64 0),(53,.bool true)] w3 by
   by_cases hm:32∈r
   ·
    rw [decide_eq_true hm,Qmd];exact And.intro (fun h=>absurd h (by simp [he])) (fun _=>out)
   rw [decide_eq_false hm,Qme];exact out
  apply hK;clear hK;refine Ae rfl rfl (fun h=>?_) (fun h=>by simp at h);refine VS [2,3] ?_;exact Ad (A6 rfl rfl rfl (Qeb hpd (by omega) (hH.sub (Yk _))))
 | some n =>
  rw [hd] at hv hpd;subst hv;(try refine Qs ?_);apply hK;clear hK;refine VQ [0,4,5,8,53] fun K hK=>?_
  suffices out:∀ b:Bool,(b=false ↔ 32∈r/\n<=r.length/\(Cw 32 r).length+2<=n/\r.getD (n - 1) 0=10)->K [(0,Aa r),(4,.slice a l.length c),(5,Aa (Cw 32 r)),(8,.int .i64 n),(53,.bool b)] w3 by
   by_cases hm:32∈r
   ·
    rw [decide_eq_true hm,Qmd];refine And.intro (fun _=>And.intro (fun h1=>And.intro (Xn (by omega) (by omega)) (And.intro (fun h2=>And.intro (Xn (by omega) (by omega)) (And.intro (by omega) (out _ ?_))) (fun h2=>out _ ?_))) (fun h1=>out _ ?_)) (fun h=>absurd trivial h)
    ·
     rw [decide_eq_false_iff_not,Decidable.not_not,i8 (r.getD (n - 1) 0) 10 (n:=10) rfl];exact ⟨fun h3=>⟨hm,by omega,by omega,h3⟩,fun h3=>h3.2.2.2⟩
    ·
     simp only [Gi,false_iff];intro h3;omega
    simp only [Gi,false_iff];intro h3;omega
   rw [decide_eq_false hm,Qme];exact out _ (by simp [hm])
  intro b hb;apply hK;clear hK;by_cases hg:32∈r/\n<=r.length/\(Cw 32 r).length+2<=n/\r.getD (n - 1) 0=10
  ·
   obtain rfl:=hb.2 hg;refine Ae rfl rfl (fun h=>by simp at h) (fun h=>Ab ?_);simp only [if_pos hg] at hpd;obtain ⟨g1,g2,g3,g4⟩:=hg;have hxl:((r.take (n - 1)).drop ((Cw 32 r).length+1)).length<=512:=by rw [Yv,Yu];omega
   refine VQ [0,4,7,8,10,11] fun K hK=>?_;rw [<- List.drop_take];generalize (r.take (n - 1)).drop ((Cw 32 r).length+1)=x at *;refine And.intro (Xn (by omega) (by omega)) (And.intro (Xn (by omega) (by omega)) (And.intro (by omega) ?_));refine Ac Tryz.call42 ?_;refine Qs ?_;refine Yi (Qke 61 x w3 (by omega)) ?_;rintro v w4 ⟨rfl,rfl⟩;rw [S7];(try refine Qs ?_);apply hK;clear hK;refine VQ [0,4,8,10,11,71] fun K hK=>?_
   suffices out:∀ b:Bool,(b=false ↔ 61∈x/\Cw 61 x≠[])->K [(0,Aa r),(4,.slice a l.length c),(8,.int .i64 n),(10,Aa (Cw 61 x)),(11,Aa (Me 61 x)),(71,.bool b)] w4 by
    by_cases hm:61∈x
    ·
     rw [decide_eq_true hm,Qmd];exact out _ (by rw [decide_eq_false_iff_not];exact ⟨fun h=>⟨hm,h⟩,fun h=>h.2⟩)
    rw [decide_eq_false hm,Qme];exact out _ (by simp [hm])
   intro b hb;apply hK;clear hK;by_cases hg:61∈x/\Cw 61 x≠[]
   ·
    obtain rfl:=hb.2 hg;refine Ae rfl rfl (fun h=>by simp at h) (fun h=>Ab ?_);simp only [if_pos hg] at hpd;refine VQ [0,4,8] fun K hK=>?_;refine Es hH 2 (Qf [(Cw 61 x,Me 61 x)]) (xs:=[.tmp 75]) X1 QJm rfl rfl rfl (by omega) (by omega) ?_;refine Qs ?_;refine ⟨rfl,by intro v hv;simp only [Xg,List.not_mem_nil,or_false] at hv;subst hv;rfl,fun ga w8 hE2=>?_⟩;(try refine Qs ?_);refine Cd ?_;refine Qs ?_;refine D9 (zs:=#[.string ⟨#[]⟩,.string ⟨#[]⟩]) (bytes:=32) hE2 1 rfl X1 (by kernel_rfl) rfl (m:=1) (news:=Qf [(Cw 61 x,Me 61 x)]) ⟨rfl,Az (hE2.at 0 rfl),60,X1⟩ (Qed Qwr _) (fun h=>by omega) fun a' cap' w5 hc' hH4=>?_
    have hH5:Heap w [] w5 [Yf tP 2 a' (l++[(Cw 61 x,Me 61 x)]).length cap' (Qf (l++[(Cw 61 x,Me 61 x)]))]:=by
     have h5:=hH4.sub (Yz _ _);rw [Yb,Yo,Qf,To];exact h5
    (try refine Qs ?_);apply hK;clear hK;refine VQ [0,4] fun K hK=>?_;refine Qo ?_;apply hK;clear hK;refine Ao ?_;refine Ah ?_;refine Qs ?_;refine ⟨(r.drop n).length,by rw [Yv];omega,r.drop n,l++[(Cw 61 x,Me 61 x)],a',cap',g,?_,hH5,by rw [Yv];omega,by rw [Yv,Yb,Yo];omega,hpd,rfl⟩;rw [Yb,Yo];rfl
   have hbt:b=true:=by
    cases b
    ·
     exact absurd (hb.1 rfl) hg
    rfl
   subst hbt;simp only [if_neg hg] at hpd;refine Ae rfl rfl (fun h=>?_) (fun h=>by simp at h);refine VS [2,3] ?_;exact Ad (A6 rfl rfl rfl (Qeb hpd (by omega) (hH.sub (Yk _))))
  have hbt:b=true:=by
   cases b
   ·
    exact absurd (hb.1 rfl) hg
   rfl
  subst hbt;simp only [if_neg hg] at hpd;refine Ae rfl rfl (fun h=>?_) (fun h=>by simp at h);refine VS [2,3] ?_;exact Ad (A6 rfl rfl rfl (Qeb hpd (by omega) (hH.sub (Yk _))))
set_option maxHeartbeats 1000000
def QN6 (s:Bs) (k:UInt8) (v:Value):Prop :=
 ∃ (p:Bs) (n:Nat) (q:UInt8) (m t:Nat) (l n0 n1:Bs) (i0 i1:Nat) (ok:Bool),v=.tuple #[Wc p n q m t l n0 n1 i0 i1,.bool ok] /\
  (ok=true ↔ ∃ x,Fm s=some x/\x.2.2=k)/\(ok=true->Fm s=some (p,n,q))
theorem Qhj (s:Bs) (k:UInt8) (w:World) (hs:s.length<=1000000000000):Does Yj 20 #[Aa s,.int .u8 k.toNat] w fun v w'=>Heap w [] w' []/\QN6 s k v:=by
 refine En [Aa s,.int .u8 k.toNat] 27 Tryz.func20 ?_;refine VQ [0,1,4] fun K hK=>?_;refine A7 Mk (by kernel_rfl) ?_;refine Qs ?_;have hH:=(Xe w).box tH (Ib [] 0 0 0 0 [] [] [] 0 0);generalize w.alloc (Yn (Ib [] 0 0 0 0 [] [] [] 0 0).toArray tH)=w1 at *;generalize w.heap.size=g4 at *;(try refine Qs ?_);apply hK;clear hK;refine VS [0,1,4,10] ?_;by_cases hlt:s.length < 512
 ·
  refine Ae rfl rfl (fun h=>?_) (fun h=>absurd h (by simp;omega));refine VQ [4,5] fun K hK=>?_;refine Af ?_;refine Qs ?_;refine Al hH 0 (vs:=[Aa [],.int .i64 0,.int .u8 0,.int .i64 0,.int .i64 0,Aa [],Aa [],Aa [],.int .i64 0,.int .i64 0]) rfl rfl (by kernel_rfl) (by first | decide | (simp;done) | (simp;omega)) (by simp [Yg]) fun w6 hH2=>?_;(try refine Qs ?_);apply hK;clear hK;refine Ad (I1 rfl rfl rfl (Cv (hH2.at 0 rfl) (by kernel_rfl) (by kernel_rfl) rfl ⟨hH2.sub (Yk _),[],0,0,0,0,[],[],[],0,0,false,rfl,?_,by simp⟩));rw [Fm,if_pos hlt];simp
 refine Ae rfl rfl (fun h=>absurd h (by simp;omega)) (fun h=>Ab ?_);clear h;have hlen:(s.take 512).length=512:=by rw [Yu];omega
 have hU:Fm s=Qm (s.take 512):=by rw [Fm,if_neg hlt]
 refine VQ [1,4,6,7] fun K hK=>?_;refine Qo ?_;refine Ac Tryz.call41 ?_;refine Qs ?_;refine Yi (Qu4 (s.take 512) hlen w1) ?_;rintro v w2 ⟨hHx,hv⟩;replace hH:=hH.call0 hHx;rw [Ye] at hH;clear hHx;rw [<- hU] at hv
 obtain ⟨p,n,q,m,t,l,n0,n1,i0,i1,er,rfl,h1,h2⟩:∃ (p:Bs) (n:Nat) (q:UInt8) (m t:Nat) (l n0 n1:Bs) (i0 i1:Nat) (er:Nat),v=.tuple #[Wc p n q m t l n0 n1 i0 i1,.int .i64 er]/\(er=0->Fm s=some (p,n,q))/\(er≠0->Fm s=none):=by
  cases hh:Fm s with
  | some x =>
   obtain ⟨p,n,q⟩:=x;rw [hh] at hv;obtain ⟨m,t,l,n0,n1,i0,i1,rfl⟩:=hv;exact ⟨p,n,q,m,t,l,n0,n1,i0,i1,0,rfl,fun _=>rfl,fun h=>absurd rfl h⟩
  | none =>
   rw [hh] at hv;exact ⟨[],0,0,0,0,[],[],[],0,0,160,hv,fun h=>by omega,fun _=>rfl⟩
 (try refine Qs ?_);refine A7 Mk (by kernel_rfl) ?_;refine Qs ?_;have hH2:=hH.box tH (Ib [] 0 0 0 0 [] [] [] 0 0);generalize w2.alloc (Yn (Ib [] 0 0 0 0 [] [] [] 0 0).toArray tH)=w3 at *;generalize w2.heap.size=g6 at *;(try refine Qs ?_);refine Af ?_;refine Qs ?_;refine Al hH2 0 (vs:=[Aa p,.int .i64 n,.int .u8 q.toNat,.int .i64 m,.int .i64 t,Aa l,Aa n0,Aa n1,.int .i64 i0,.int .i64 i1]) rfl rfl (by kernel_rfl) (by first | decide | (simp;done) | (simp;omega)) (by simp [Yg]) fun w6 hH3=>?_;(try refine Qs ?_);have hH3:Heap w [] w6 [Eo g6 p n q m t l n0 n1 i0 i1,Eo g4 [] 0 0 0 0 [] [] [] 0 0]:=hH3;clear hH hH2;apply hK;clear hK;have hne:g6≠g4:=fun e=>(List.pairwise_cons.1 hH3.apart).1 _ (Gg ..) g6 (by simp [Ya]) (by simp [Ya,e]);have hrd:Reads (holes [g4] w6) ⟨g6,0,none⟩ (Ib p n q m t l n0 n1 i0 i1):=fun j u hu=>Tw (B6 (hH3.at 0 rfl) j u hu) (by unfold Addr.add;split <;> simpa using hne);have ck:(holes [g4] w6).cell? ⟨g6,2,none⟩=some (.int .u8 q.toNat):=hrd 2 _ rfl;refine VH (holes [g4] w6) (Ext.hole _ _) [4,5] [(0,true),(1,true),(2,true),(3,true),(4,true),(5,true),(6,true),(7,true),(8,true),(9,false),(10,true)] fun K hK=>?_;refine ⟨_,⟨rfl,hrd⟩,?_⟩;(try refine Qs ?_);have hF:=hH3.focus 1 rfl;refine And.intro (fun h=>?_) (fun h=>?_)
 ·
  have he:er=0:=by omega
  have hU2:=h1 he;refine ⟨_,ck,?_⟩;(try refine Qs ?_);refine Af ?_;refine Qs ?_;refine Al hF 0 (vs:=[Aa p,.int .i64 n,.int .u8 q.toNat,.int .i64 m,.int .i64 t,Aa l,Aa n0,Aa n1,.int .i64 i0,.int .i64 i1]) rfl rfl (by kernel_rfl) (by first | decide | (simp;done) | (simp;omega)) (by simp [Yg]) fun w6 hF2=>?_;(try refine Qs ?_);refine ⟨hF2.upd.extH,?_⟩;have hH4:=hH3.call1 1 rfl hF2;(try refine Qs ?_);apply hK;clear hK;refine Ad (I1 rfl rfl rfl (Cv (hH4.at 1 rfl) (by kernel_rfl) (by kernel_rfl) rfl ⟨hH4.sub (Yk _),p,n,q,m,t,l,n0,n1,i0,i1,decide ((q.toNat:Int)=k.toNat),rfl,?_,fun _=>hU2⟩));rw [hU2,decide_eq_true_eq,i8 q k rfl];exact ⟨fun h=>⟨_,rfl,h⟩,fun ⟨x,h3,h4⟩=>by cases h3;exact h4⟩
 have he:er≠0:=by omega
 have hU2:=h2 he;refine Af ?_;refine Qs ?_;refine Al hF 0 (vs:=[Aa p,.int .i64 n,.int .u8 q.toNat,.int .i64 m,.int .i64 t,Aa l,Aa n0,Aa n1,.int .i64 i0,.int .i64 i1]) rfl rfl (by kernel_rfl) (by first | decide | (simp;done) | (simp;omega)) (by simp [Yg]) fun w6 hF2=>?_;(try refine Qs ?_);refine ⟨hF2.upd.extH,?_⟩;have hH4:=hH3.call1 1 rfl hF2;(try refine Qs ?_);apply hK;clear hK;refine Ad (I1 rfl rfl rfl (Cv (hH4.at 1 rfl) (by kernel_rfl) (by kernel_rfl) rfl ⟨hH4.sub (Yk _),p,n,q,m,t,l,n0,n1,i0,i1,false,rfl,?_,by simp⟩));rw [hU2];simp
set_option maxHeartbeats 1000000
def O9 (s:Bs) (a:Nat) (path:Bs):Option (Bs×Nat) :=
 match Fm (s.drop a) with
 | some (q,_,k)=>if k=48 then some (if path=[] then q else path,a) else none
 | none=>none
theorem Qso {s:Bs}{a:Nat}{path:Bs} (h:¬ ∃ x,Fm (s.drop a)=some x/\x.2.2=48):O9 s a path=none:=by
 unfold O9;cases hh:Fm (s.drop a) with
 | none=>rfl
 | some x=>exact if_neg fun hk=>h ⟨x,hh,hk⟩
theorem Qsp {s:Bs}{a:Nat}{path q:Bs}{n:Nat} (h:Fm (s.drop a)=some (q,n,48)):O9 s a path=some (if path=[] then q else path,a):=by
 unfold O9;rw [h];exact if_pos rfl
theorem QEw {s:Bs} (h:¬ ∃ x,Fm s=some x/\x.2.2=120):Md s=O9 s 0 []:=by
 unfold Md O9;rw [U7];cases hh:Fm s with
 | none=>rfl
 | some x =>
  obtain ⟨p,n,k⟩:=x;have hk:k≠120:=fun e=>h ⟨_,hh,e⟩;simp only [if_neg hk,if_true]
theorem QEx {s p:Bs}{n:Nat} (h:Fm s=some (p,n,120)):Md s=if 512 < n∨s.length < 1024∨s.length - 512 < n then none else
  match Mf ((s.drop 512).take n) with
  | some [(_,v)]=>O9 s 1024 v
  | _=>none:=by
 unfold Md O9;rw [h];simp only [if_true];(try rfl)
theorem Qwu {s p:Bs}{n:Nat}{k:UInt8} (h:Fm s=some (p,n,k)):p.length<=256:=by
 rw [Fm] at h;split at h
 ·
  cases h
 rw [Qm] at h;split at h
 ·
  cases h;have c:∀ a b,(Fr (Bo (s.take 512) a b)).length<=b:=fun a b=>Ua (Xq _).length_le (by rw [Bo,Yu];omega);have c1:=c 345 155;have c2:=c 0 100;rw [Lr];split
  ·
   omega
  rw [Yb,Yt];omega
 cases h
theorem Qpz {N:Nat}:∀ (f:Nat) (s:Bs) (out l:List (Bs×Bs)),Of f s out=some l->s.length<=N->(∀ y∈out,y.2.length<=N)->∀ y∈l,y.2.length<=N
 | 0,_,_,_,h,_,_=>by simp [Of] at h
 | f+1,s,out,l,h,hs,ho=>by
  rw [Of] at h;split at h
  ·
   cases h;exact ho
  split at h
  ·
   cases h
  split at h
  ·
   split at h
   ·
    refine Qpz f _ _ l h (by rw [Yv];omega) ?_;intro y hy;rcases X8.1 hy with hy | hy
    ·
     exact ho y hy
    simp only [Xw] at hy;subst hy;simp only [Me,Yv,Yu];omega
   cases h
  cases h
theorem Qzv {s:Bs}{l:List (Bs×Bs)} (h:Mf s=some l):∀ y∈l,y.2.length<=s.length:=by
 rw [Mf] at h;split at h
 ·
  cases h
 exact Qpz _ _ _ _ h (Y3 _) (by simp)
noncomputable def readV (s:Bs):Value :=
 match readS s with
 | some (p,c,n)=>.tuple #[Lq p c,.int .i64 n,.int .i64 0]
 | none=>.tuple #[Lq [] [],.int .i64 0,.int .i64 242]
theorem Pw {s:Bs} (h:readS s=none):readV s=.tuple #[Lq [] [],.int .i64 0,.int .i64 242]:=by unfold readV;rw [h]
theorem Qcn {s p c:Bs}{n:Nat} (h:readS s=some (p,c,n)):readV s=.tuple #[Lq p c,.int .i64 n,.int .i64 0]:=by unfold readV;rw [h]
theorem Qdi {s:Bs} (h:Md s=none):readS s=none:=by unfold readS;rw [h]
theorem Qsq {s p:Bs}{a:Nat}{e:Int} (h:Md s=some (p,a)) (ht:Ka s ((a+512:Nat):Int)=.error e):readS s=none:=by unfold readS;rw [h];simp only [ht]
theorem Qhk {s p c:Bs}{a b:Nat}{e:Nat} (h:Md s=some (p,a)) (ht:Ka s ((a+512:Nat):Int)=.ok (c,b)) (hm:makeX p c=.error e):readS s=none:=by unfold readS;rw [h];simp only [ht,hm]
theorem Qwv {s p c own:Bs}{a b:Nat} (h:Md s=some (p,a)) (ht:Ka s ((a+512:Nat):Int)=.ok (c,b)) (hm:makeX p c=.ok own):readS s=if own.isPrefixOf s then some (p,c,own.length) else none:=by unfold readS;rw [h];simp only [ht,hm]
theorem Qhl (s:Bs) (w:World) (hT:Tb w) (hs:s.length<=1000000):Does Yj 12 #[Aa s] w fun v w'=>Heap w [] w' []/\v=readV s:=by
 refine En [Aa s] 106 Tryz.func12 ?_;refine VQ [0,2] fun K hK=>?_;refine A7 (.agg #[Aa [],Aa []]) (by kernel_rfl) ?_;refine Qs ?_;have hH:=(Xe w).box tE [Aa [],Aa []];generalize w.alloc (Yn #[Aa [],Aa []] tE)=w1 at *;generalize w.heap.size=g2 at *;(try refine Qs ?_);apply hK;clear hK;refine VS [0,2,5,6] ?_;refine VQ [0,2,5,6,7,8] fun K hK=>?_;refine Ac Tryz.call20 ?_;refine Qs ?_;refine Yi (Qhj s 120 w1 (by omega)) ?_;rintro v w2 ⟨hHx,p,n,q,m,t,l,n0,n1,i0,i1,ok,rfl,hok,hok2⟩;replace hH:=hH.call0 hHx;rw [Ye] at hH;clear hHx;(try refine Qs ?_);refine A7 Mk (by kernel_rfl) ?_;refine Qs ?_;have hH2:=hH.box tH (Ib [] 0 0 0 0 [] [] [] 0 0);generalize w2.alloc (Yn (Ib [] 0 0 0 0 [] [] [] 0 0).toArray tH)=w3 at *;generalize w2.heap.size=g7 at *;(try refine Qs ?_);refine Af ?_;refine Qs ?_;refine Al hH2 0 (vs:=[Aa p,.int .i64 n,.int .u8 q.toNat,.int .i64 m,.int .i64 t,Aa l,Aa n0,Aa n1,.int .i64 i0,.int .i64 i1]) rfl rfl (by kernel_rfl) (by first | decide | (simp;done) | (simp;omega)) (by simp [Yg]) fun w6 hH3=>?_;(try refine Qs ?_);have hH3:Heap w [] w6 [Eo g7 p n q m t l n0 n1 i0 i1,Ya g2 tE [Aa [],Aa []]]:=hH3;clear hH hH2;have hH:Heap w [] w6 [Ya g2 tE [Aa [],Aa []]]:=hH3.sub (Yz _ _);apply hK;clear hK;refine VS [0,2,5,6,7,22] ?_;refine C8 [0,2,5,6] (fun e w'=>∃ (a:Nat) (path:Bs),Is e [(0,Aa s),(2,pV g2),(5,.int .i64 a),(6,Aa path)]/\Heap w [] w' [Ya g2 tE [Aa [],Aa []]]/\a<=s.length/\path.length<=512/\Md s=O9 s a path) ?_ ?_
 ·
  cases ok with
  | false =>
   refine Ae rfl rfl (fun h=>by simp at h) (fun h=>Ab ?_);refine Ah ?_;refine Qs ?_;exact ⟨0,[],rfl,hH,by omega,by simp,QEw (fun h=>by have:=hok.2 h;cases this)⟩
  | true =>
   have hU:=hok2 rfl;obtain ⟨x,hx1,hx2⟩:=hok.1 rfl;rw [hU] at hx1;cases hx1;obtain rfl:q=120:=hx2;clear hok hok2;refine Ae rfl rfl (fun h=>?_) (fun h=>by simp at h);have hnx:=QEx hU;have cn:w6.cell? ⟨g7,1,none⟩=some (.int .i64 n):=Aj (hH3.at 0 rfl) rfl;refine VQ [0,2,7,38] fun K hK=>?_;refine ⟨_,cn,?_⟩;(try refine Qs ?_)
   suffices out:∀ b:Bool,(b=true ↔ 512 < n∨s.length < 1024∨s.length - 512 < n)->K [(0,Aa s),(2,pV g2),(7,pV g7),(38,.bool b)] w6 by
    refine And.intro (fun h1=>And.intro (fun h2=>⟨_,cn,Xn (by omega) (by omega),?_⟩) (fun h2=>out _ (by simp;omega))) (fun h1=>out _ (by simp;omega));(try refine Qs ?_);exact out _ (by rw [decide_eq_true_eq];omega)
   intro b hb;apply hK;clear hK;by_cases hbad:512 < n∨s.length < 1024∨s.length - 512 < n
   ·
    obtain rfl:=hb.2 hbad;refine Ae rfl rfl (fun h=>?_) (fun h=>by simp at h);have hno:readS s=none:=Qdi (hnx.trans (if_pos hbad));refine VQ [2,3,4] fun K hK=>?_;refine Af ?_;refine Qs ?_;refine Al hH 0 (vs:=[Aa [],Aa []]) rfl rfl (by kernel_rfl) (by first | decide | (simp;done) | (simp;omega)) (by simp [Yg]) fun w6 hHd=>?_;(try refine Qs ?_);(apply hK;clear hK);exact Ad (I2 rfl rfl rfl rfl (Cv (hHd.at 0 rfl) (by kernel_rfl) (by kernel_rfl) rfl ⟨hHd.sub (Yk _),(Pw hno).symm⟩))
   have hbf:b=false:=by
    cases b
    ·
     rfl
    exact absurd (hb.1 rfl) hbad
   subst hbf;rw [if_neg hbad] at hnx;refine Ae rfl rfl (fun h=>by simp at h) (fun h=>Ab ?_);refine VQ [0,2,9,10] fun K hK=>?_;refine ⟨_,cn,?_⟩;(try refine Qs ?_);rw [show (512:Int)+n=((512+n:Nat):Int) by omega];refine And.intro (Xn (by omega) (by omega)) (And.intro (by omega) ?_);have hxl:(((s.drop 512).take n)).length<=512:=by rw [Yu];omega
   rw [show ((512+n:Nat):Int).toNat - Xt 512=n by omega,show Xt 512=512 from rfl];generalize ((s.drop 512).take n)=x at *;refine Ac Tryz.call21 ?_;refine Qs ?_;refine Yi (Qwt x w6 hxl) ?_;rintro v w7 hv;cases hpx:Mf x with
   | none =>
    rw [hpx] at hnx;rw [Rz,hpx] at hv;obtain ⟨e,he,rfl,hHx⟩:=hv;replace hH:=hH.call0 hHx;rw [Ye] at hH;clear hHx;have hno:readS s=none:=Qdi hnx;(try refine Qs ?_);apply hK;clear hK;refine VQ [0,2,9,55] fun K hK=>?_;refine And.intro (fun h=>absurd h (by simp [he])) (fun _=>?_);apply hK;clear hK;refine Ae rfl rfl (fun h=>?_) (fun h=>by simp at h);refine VQ [2,3,4] fun K hK=>?_;refine Af ?_;refine Qs ?_;refine Al hH 0 (vs:=[Aa [],Aa []]) rfl rfl (by kernel_rfl) (by first | decide | (simp;done) | (simp;omega)) (by simp [Yg]) fun w6 hHd=>?_;(try refine Qs ?_);(apply hK;clear hK);exact Ad (I2 rfl rfl rfl rfl (Cv (hHd.at 0 rfl) (by kernel_rfl) (by kernel_rfl) rfl ⟨hHd.sub (Yk _),(Pw hno).symm⟩))
   | some ls =>
    rw [hpx] at hnx;rw [Rz,hpx] at hv;obtain ⟨pa,pc,rfl,hHx⟩:=hv;replace hH:=hH.call0 hHx;have hH:Heap w [] w7 [Ya g2 tE [Aa [],Aa []],Yf tP 2 pa ls.length pc (Qf ls)]:=hH.perm (.swap _ _ _);(try refine Qs ?_);apply hK;clear hK;by_cases h1:ls.length=1
    ·
     obtain ⟨y,rfl⟩:∃ y,ls=[y]:=List.length_eq_one_iff.1 h1;obtain ⟨ky,vy⟩:=y;have hvl:=Qzv hpx (ky,vy) (by simp);refine VQ [0,2,9,55] fun K hK=>?_;refine And.intro (fun _=>?_) (fun h=>absurd trivial h);apply hK;clear hK;refine Ae rfl rfl (fun h=>by simp at h) (fun h=>Ab ?_)
     obtain ⟨gp,rfl⟩:∃ gp,pa=some ⟨gp,0,none⟩:=by
      obtain ⟨_,_,_,h4⟩:=hH.at 1 rfl;rcases h4 with ⟨_,h5,_⟩ | ⟨g,_,_,rfl,_⟩
      ·
       cases h5
      exact ⟨g,rfl⟩
     have hr1:=Qfh (Az (hH.at 1 rfl)) rfl 0 [Aa ky,Aa vy] (fun j u hu=>by rw [X0];exact hu);rw [Qgo] at hr1;have cv:w7.cell? ⟨gp,1,none⟩=some (Aa vy):=hr1 1 _ rfl;refine Vq [0,2,5,6] fun K hK=>?_;refine And.intro ⟨by omega,by simp⟩ ⟨_,cv,?_⟩;apply hK;clear hK;refine Ah ?_;refine Qs ?_;exact ⟨1024,vy,rfl,hH.sub (G':=[Ya g2 tE [Aa [],Aa []]]) (by simp),by omega,Ua hvl hxl,hnx⟩
    have hno:readS s=none:=Qdi (by
     rw [hnx]
     match ls,h1 with
     | [],_=>rfl
     | [_],h=>exact absurd rfl h
     | _::_::_,_=>rfl)
    refine VQ [0,2,9,55] fun K hK=>?_;refine And.intro (fun _=>?_) (fun h=>absurd trivial h);apply hK;clear hK;refine Ae rfl rfl (fun h=>?_) (fun h=>absurd h (by simp;omega));refine VQ [2,3,4] fun K hK=>?_;refine Af ?_;refine Qs ?_;refine Al hH 0 (vs:=[Aa [],Aa []]) rfl rfl (by kernel_rfl) (by first | decide | (simp;done) | (simp;omega)) (by simp [Yg]) fun w6 hHd=>?_;(try refine Qs ?_);(apply hK;clear hK);exact Ad (I2 rfl rfl rfl rfl (Cv (hHd.at 0 rfl) (by kernel_rfl) (by kernel_rfl) rfl ⟨hHd.sub (Yk _),(Pw hno).symm⟩))
 clear hH hH3;rintro e w3 ⟨a,path,rfl,hH,ha,hpl,hname⟩;refine VQ [0,2,5,6,11,12] fun K hK=>?_;refine Qo ?_;refine Ac Tryz.call20 ?_;refine Qs ?_;refine Yi (Qhj (s.drop a) 48 w3 (by simp;omega)) ?_;rintro v w2 ⟨hHx,p,n,q,m,t,l,n0,n1,i0,i1,ok,rfl,hok,hok2⟩;replace hH:=hH.call0 hHx;rw [Ye] at hH;clear hHx;(try refine Qs ?_);refine A7 Mk (by kernel_rfl) ?_;refine Qs ?_;have hH2:=hH.box tH (Ib [] 0 0 0 0 [] [] [] 0 0);generalize w2.alloc (Yn (Ib [] 0 0 0 0 [] [] [] 0 0).toArray tH)=w3 at *;generalize w2.heap.size=g11 at *;(try refine Qs ?_);refine Af ?_;refine Qs ?_;refine Al hH2 0 (vs:=[Aa p,.int .i64 n,.int .u8 q.toNat,.int .i64 m,.int .i64 t,Aa l,Aa n0,Aa n1,.int .i64 i0,.int .i64 i1]) rfl rfl (by kernel_rfl) (by first | decide | (simp;done) | (simp;omega)) (by simp [Yg]) fun w6 hH3=>?_;(try refine Qs ?_);have hH3:Heap w [] w6 [Eo g11 p n q m t l n0 n1 i0 i1,Ya g2 tE [Aa [],Aa []]]:=hH3;clear hH hH2;have hH:Heap w [] w6 [Ya g2 tE [Aa [],Aa []]]:=hH3.sub (Yz _ _);apply hK;clear hK;refine VS [0,2,5,6,11,69] ?_;cases ok with
 | false =>
  refine Ae rfl rfl (fun h=>?_) (fun h=>by simp at h);have hno:readS s=none:=Qdi (hname.trans (Qso (fun h=>by have:=hok.2 h;cases this)));refine VQ [2,3,4] fun K hK=>?_;refine Af ?_;refine Qs ?_;refine Al hH 0 (vs:=[Aa [],Aa []]) rfl rfl (by kernel_rfl) (by first | decide | (simp;done) | (simp;omega)) (by simp [Yg]) fun w6 hHd=>?_;(try refine Qs ?_);(apply hK;clear hK);exact Ad (I2 rfl rfl rfl rfl (Cv (hHd.at 0 rfl) (by kernel_rfl) (by kernel_rfl) rfl ⟨hHd.sub (Yk _),(Pw hno).symm⟩))
 | true =>
  have hU:=hok2 rfl;obtain ⟨x,hx1,hx2⟩:=hok.1 rfl;rw [hU] at hx1;cases hx1;obtain rfl:q=48:=hx2;clear hok hok2;rw [Qsp hU] at hname;have hp256:=Qwu hU;refine Ae rfl rfl (fun h=>by simp at h) (fun h=>Ab ?_);refine VS [0,2,5,6,11,72] ?_;refine C8 [0,2,5,6] (fun e w'=>Is e [(0,Aa s),(2,pV g2),(5,.int .i64 a),(6,Aa (if path=[] then p else path))]/\Heap w [] w' [Ya g2 tE [Aa [],Aa []]]) ?_ ?_
  ·
   by_cases hpe:path=[]
   ·
    rw [if_pos hpe];refine Ae rfl rfl (fun h=>?_) (fun h=>absurd h (by simp [hpe]));have c0:w6.cell? ⟨g11,0,none⟩=some (Aa p):=Aj (hH3.at 0 rfl) rfl;refine VQ [0,2,5,6] fun K hK=>?_;refine ⟨_,c0,?_⟩;(try refine Qs ?_);apply hK;clear hK;refine Ah ?_;refine Qs ?_;exact ⟨rfl,hH⟩
   rw [if_neg hpe];refine Ae rfl rfl (fun h=>absurd h (by simp [hpe])) (fun h=>Ab ?_);refine Ah ?_;refine Qs ?_;exact ⟨rfl,hH⟩
  clear hH hH3;rintro e w3 ⟨rfl,hH⟩;have hql:(if path=[] then p else path).length<=512:=by split <;> omega
  generalize (if path=[] then p else path)=path2 at *;refine VQ [0,2,6,13,15] fun K hK=>?_;(repeat first | refine Qo ?_ | refine Qp ?_);rw [show (a:Int)+512=((a+512:Nat):Int) by omega];refine Ac Tryz.call22 ?_;refine Qs ?_;refine Yi (Qfe s ((a+512:Nat):Int) w3 (Xn (by omega) (by omega)) (by omega)) ?_;rintro v w4 ⟨hHx,rfl⟩;replace hH:=hH.call0 hHx;rw [Ye] at hH;clear hHx;cases ht:Ka s ((a+512:Nat):Int) with
  | error er =>
   rw [Qmg];(try refine Qs ?_);apply hK;clear hK;refine VS [0,2,6,13,84] ?_;have hne:=Qv2 ht;refine Ae rfl rfl (fun h=>?_) (fun h=>absurd h (by simp [hne]));have hno:=Qsq hname ht;refine VQ [2,3,4] fun K hK=>?_;refine Af ?_;refine Qs ?_;refine Al hH 0 (vs:=[Aa [],Aa []]) rfl rfl (by kernel_rfl) (by first | decide | (simp;done) | (simp;omega)) (by simp [Yg]) fun w6 hHd=>?_;(try refine Qs ?_);(apply hK;clear hK);exact Ad (I2 rfl rfl rfl rfl (Cv (hHd.at 0 rfl) (by kernel_rfl) (by kernel_rfl) rfl ⟨hHd.sub (Yk _),(Pw hno).symm⟩))
  | ok rr =>
   obtain ⟨c,b⟩:=rr;have hcl:=(Qzi ht).2.2;simp only at hcl;rw [Qmg];(try refine Qs ?_);apply hK;clear hK;refine VS [0,2,6,13,84] ?_;refine Ae rfl rfl (fun h=>by simp at h) (fun h=>Ab ?_);refine VQ [0,2,6,13,15,16] fun K hK=>?_;refine Ac Tryz.call8 ?_;refine Qs ?_;refine Yi (Ze path2 c w4 (hT.heap hH) (by omega) (by omega)) ?_;rintro v w5 ⟨hHx,rfl,hPP⟩;replace hH:=hH.call0 hHx;rw [Ye] at hH;clear hHx;rw [makeV];by_cases hg:Ei path2=some path2
   ·
    by_cases hc8:8192 < c.length
    ·
     have hm:makeX path2 c=.error 3:=by rw [makeX,if_pos hg,if_pos hc8]
     rw [if_pos hg,if_pos hc8];(try refine Qs ?_);apply hK;clear hK;refine VQ [2,6,13,16,99] fun K hK=>?_;refine And.intro (fun h=>absurd h (by simp)) (fun _=>?_);apply hK;clear hK;refine Ae rfl rfl (fun h=>?_) (fun h=>by simp at h);have hno:=Qhk hname ht hm;refine VQ [2,3,4] fun K hK=>?_;refine Af ?_;refine Qs ?_;refine Al hH 0 (vs:=[Aa [],Aa []]) rfl rfl (by kernel_rfl) (by first | decide | (simp;done) | (simp;omega)) (by simp [Yg]) fun w6 hHd=>?_;(try refine Qs ?_);(apply hK;clear hK);exact Ad (I2 rfl rfl rfl rfl (Cv (hHd.at 0 rfl) (by kernel_rfl) (by kernel_rfl) rfl ⟨hHd.sub (Yk _),(Pw hno).symm⟩))
    have hm:makeX path2 c=.ok (Dc path2 c (tS c)):=by rw [makeX,if_pos hg,if_neg hc8]
    have hend:=Qwv hname ht hm;have hol:=(Qma (c:=c) (T:=tS c) hg).2.1;have hsm:=(hPP hg (by omega)).small (by omega);rw [if_pos hg,if_neg hc8];generalize Dc path2 c (tS c)=own at *;(try refine Qs ?_);apply hK;clear hK;refine VQ [2,6,13,16,99] fun K hK=>?_;refine And.intro (fun _=>?_) (fun h=>absurd trivial h);refine Ac Tryz.call23 ?_;refine Qs ?_;refine Yi (Qnc s own w5) ?_;rintro v w6 ⟨rfl,rfl⟩;(try refine Qs ?_);apply hK;clear hK;cases hpr:own.isPrefixOf s with
    | false =>
     rw [hpr] at hend;have hno:readS s=none:=hend;rw [show Lib.hasPrefix s own=false from hpr];refine Ae rfl rfl (fun h=>?_) (fun h=>by simp at h);refine VQ [2,3,4] fun K hK=>?_;refine Af ?_;refine Qs ?_;refine Al hH 0 (vs:=[Aa [],Aa []]) rfl rfl (by kernel_rfl) (by first | decide | (simp;done) | (simp;omega)) (by simp [Yg]) fun w6 hHd=>?_;(try refine Qs ?_);(apply hK;clear hK);exact Ad (I2 rfl rfl rfl rfl (Cv (hHd.at 0 rfl) (by kernel_rfl) (by kernel_rfl) rfl ⟨hHd.sub (Yk _),(Pw hno).symm⟩))
    | true =>
     rw [hpr] at hend;have hend:readS s=some (path2,c,own.length):=hend;rw [show Lib.hasPrefix s own=true from hpr];refine Ae rfl rfl (fun h=>by simp at h) (fun h=>Ab ?_);refine VQ [2,3,4] fun K hK=>?_;refine Af ?_;refine Qs ?_;refine Al hH 0 (vs:=[Aa path2,Aa c]) rfl rfl (by kernel_rfl) (by first | decide | (simp;done) | (simp;omega)) (by simp [Yg]) fun w6 hHd=>?_;(try refine Qs ?_);apply hK;clear hK;exact Ad (I2 rfl rfl rfl rfl (Cv (hHd.at 0 rfl) (by kernel_rfl) (by kernel_rfl) rfl ⟨hHd.sub (Yk _),(Qcn hend).symm⟩))
   have hm:makeX path2 c=.error 140:=by rw [makeX,if_neg hg]
   rw [if_neg hg];(try refine Qs ?_);apply hK;clear hK;refine VQ [2,6,13,16,99] fun K hK=>?_;refine And.intro (fun h=>absurd h (by simp)) (fun _=>?_);apply hK;clear hK;refine Ae rfl rfl (fun h=>?_) (fun h=>by simp at h);have hno:=Qhk hname ht hm;refine VQ [2,3,4] fun K hK=>?_;refine Af ?_;refine Qs ?_;refine Al hH 0 (vs:=[Aa [],Aa []]) rfl rfl (by kernel_rfl) (by first | decide | (simp;done) | (simp;omega)) (by simp [Yg]) fun w6 hHd=>?_;(try refine Qs ?_);(apply hK;clear hK);exact Ad (I2 rfl rfl rfl rfl (Cv (hHd.at 0 rfl) (by kernel_rfl) (by kernel_rfl) rfl ⟨hHd.sub (Yk _),(Pw hno).symm⟩))
end Go.Proofs.YtncpabbjpdogjaaGreatDoor
namespace Go.Eng
open Go
end Go.Eng
namespace Go.Proofs.YtncpabbjpdogjaaGreatDoor
open Go Go.Eng
set_option maxHeartbeats 1000000
abbrev Fk:Bs:=[104,101,108,108,111]
theorem Qzw {T:Bs} (h:P1 Fk T):T.length<=210:=by
 obtain ⟨bs,hb,rfl⟩:=h;rw [show Cz Fk 20000=[Fk] by decide +kernel] at hb ⊢
 match bs,hb with
 | [b],⟨⟨σ,ho,hbb⟩,_⟩ =>
  have e:σ=[1,0,2,3,4]:=ho.unique ⟨by decide +kernel,by decide +kernel⟩;subst e;subst hbb;have h1:(Fv Fk [1,0,2,3,4]).length<=1500:=by decide +kernel
  rw [Ly];simp only [F6,Yb,Ct,D8,Yy,Xh,Y7,Yt];omega
set_option maxHeartbeats 1000000
set_option maxHeartbeats 1000000
theorem Qog:makeV [97] Fk=.tuple #[Aa (Dc [97] Fk (tS Fk)),.int .i64 0]:=by
 rw [makeV,if_pos (by decide +kernel),if_neg (by decide)]
open Go.Shelf
def Qoh:Go.Shelf.Ren:=⟨fun | 6=>74 | 15=>116 | 14=>115 | 28=>156 | 29=>157 | 20=>148 | 21=>149 | 22=>150 | 23=>151 | 24=>152 | 25=>153 | 26=>154 | 27=>155 | 46=>181 | 47=>182 | 48=>183 | 49=>184 | 50=>185 | 57=>205 | n=>n,fun | 22=>44 | 24=>48 | 25=>137 | 3=>3 | 39=>128 | 0=>0 | 53=>78 | 55=>83 | 4=>4 | 46=>212 | 45=>211 | 50=>216 | 5=>5 | 9=>9 | 66=>243 | 70=>247 | 76=>265 | 77=>197 | n=>n,fun | n=>n⟩
theorem QEy:Go.Proofs.SlLaysF0.n6 Yj Qoh:={
 mixed:=by kernel_rfl
 f6:=⟨Tryz.f74.name,by decide,Tryz.func74.trans (congrArg some (by kernel_rfl))⟩
 f14:=⟨Tryz.f115.name,by decide,Tryz.func115.trans (congrArg some (by kernel_rfl))⟩
 f15:=Tryz.func116.trans (congrArg some (by kernel_rfl))
 f20:=⟨Tryz.f148.name,by decide,Tryz.func148.trans (congrArg some (by kernel_rfl))⟩
 f21:=⟨Tryz.f149.name,by decide,Tryz.func149.trans (congrArg some (by kernel_rfl))⟩
 f22:=⟨Tryz.f150.name,by decide,Tryz.func150.trans (congrArg some (by kernel_rfl))⟩
 f23:=⟨Tryz.f151.name,by decide,Tryz.func151.trans (congrArg some (by kernel_rfl))⟩
 f24:=⟨Tryz.f152.name,by decide,Tryz.func152.trans (congrArg some (by kernel_rfl))⟩
 f25:=⟨Tryz.f153.name,by decide,Tryz.func153.trans (congrArg some (by kernel_rfl))⟩
 f26:=⟨Tryz.f154.name,by decide,Tryz.func154.trans (congrArg some (by kernel_rfl))⟩
 f27:=⟨Tryz.f155.name,by decide,Tryz.func155.trans (congrArg some (by kernel_rfl))⟩
 f28:=Tryz.func156.trans (congrArg some (by kernel_rfl))
 f29:=Tryz.func157.trans (congrArg some (by kernel_rfl))
 f46:=⟨Tryz.f181.name,by decide,Tryz.func181.trans (congrArg some (by kernel_rfl))⟩
 f47:=Tryz.func182.trans (congrArg some (by kernel_rfl))
 f48:=Tryz.func183.trans (congrArg some (by kernel_rfl))
 f49:=⟨Tryz.f184.name,by decide,Tryz.func184.trans (congrArg some (by kernel_rfl))⟩
 f50:=⟨Tryz.f185.name,by decide,Tryz.func185.trans (congrArg some (by kernel_rfl))⟩
 f57:=⟨Tryz.f205.name,by decide,Tryz.func205.trans (congrArg some (by kernel_rfl))⟩
 t0:=Tryz.underlying0
 a0:=Tryz.isAgg0
 z0:=Tryz.sizeOf0
 v0:=Tryz.zeroValue0
 t3:=Us
 a3:=Gt
 z3:=Gk
 v3:=Tryz.zeroValue3
 t4:=Tryz.underlying4
 a4:=Tryz.isAgg4
 z4:=Tryz.sizeOf4
 v4:=Tryz.zeroValue4
 t5:=Ut
 a5:=Gu
 z5:=Gl
 v5:=Uz
 t9:=Tryz.underlying9
 a9:=Tryz.isAgg9
 z9:=Tryz.sizeOf9
 v9:=Tryz.zeroValue9
 t22:=Tryz.underlying44
 a22:=Tryz.isAgg44
 z22:=Tryz.sizeOf44
 v22:=Tryz.zeroValue44
 t25:=Tryz.underlying137
 a25:=Tryz.isAgg137
 z25:=Tryz.sizeOf137
 v25:=Tryz.zeroValue137
 t39:=Gh
 a39:=Tryz.isAgg128
 z39:=Tryz.sizeOf128
 v39:=Gm
 t45:=Tryz.underlying211
 a45:=Tryz.isAgg211
 z45:=Tryz.sizeOf211
 v45:=Tryz.zeroValue211
 t46:=Tryz.underlying212
 a46:=Tryz.isAgg212
 z46:=Tryz.sizeOf212
 v46:=Tryz.zeroValue212
 t50:=Tryz.underlying216
 a50:=Tryz.isAgg216
 z50:=Tryz.sizeOf216
 v50:=Tryz.zeroValue216
 t53:=Gn
 a53:=Tryz.isAgg78
 z53:=Tryz.sizeOf78
 v53:=Tryz.zeroValue78
 t55:=Gp
 a55:=Tryz.isAgg83
 z55:=Tryz.sizeOf83
 v55:=Tryz.zeroValue83
 t66:=Tryz.underlying243
 a66:=Tryz.isAgg243
 z66:=Tryz.sizeOf243
 v66:=Tryz.zeroValue243
 t70:=Tryz.underlying247
 a70:=Tryz.isAgg247
 z70:=Tryz.sizeOf247
 v70:=Tryz.zeroValue247
 t76:=Tryz.underlying265
 a76:=Tryz.isAgg265
 z76:=Tryz.sizeOf265
 v76:=Tryz.zeroValue265
 t77:=Tryz.underlying197
 a77:=Tryz.isAgg197
 z77:=Tryz.sizeOf197
 v77:=Tryz.zeroValue197 }
open Go Go.Eng
abbrev Ex:=Int×Int
def Cs (t:Ex):List Value:=[.int .i64 t.1,.int .i64 t.2]
theorem Qig (t:Ex):(Cs t).length=2:=rfl
theorem Sr (t:Ex):∀ v∈Cs t,v.oneCell'=true:=by
 intro v hv;simp [Cs] at hv;rcases hv with rfl | rfl <;> rfl
def Dr (l:List Ex):List Value:=B8 Cs l
theorem Qww (l:List Ex):∀ v∈Dr l,v.oneCell'=true:=Qed Sr l
def Qx (t:Ex):Prop:=I64 t.1/\I64 t.2
def Ns (a b:Ex):Int:=if a=b then 0 else if a.1 < b.1∨a.1=b.1/\a.2 < b.2 then -1 else 1
theorem QJi (a b:Ex) (xo yo:Operand) (w:World) (KV:Value->Prop):A5 Yj .eql 48 xo yo (.agg (Cs a).toArray) (.agg (Cs b).toArray) w KV=KV (.bool (decide (a=b))):=by
 refine N2 fun w'=>?_;have hS:Yj.underlying 48=some (.struct (Yj.fieldsOf 48)):=by kernel_rfl
 have hp:Yj.stoodInHeld 48=false:=by kernel_rfl
 have hg:Yj.eqGuardType Yj.depth 48=false:=by kernel_rfl
 simp only [Uv];rw [run_eqGuard_agg _ _ _ _ _ _ _ hg];simp only [Un];rw [run_eql_struct,show (10000:Nat)=9999+1 from rfl,run_equalIn_agg w' 9999 48 _ _ hS hp];simp only [Program.fieldsOf,Tryz.underlying48];have u3:=Us;have a3:=Gt;have z3:=Gk;simp only [Cs]
 go_simp
 obtain ⟨a1,a2⟩:=a;obtain ⟨b1,b2⟩:=b;simp only [Prod.mk.injEq];by_cases h1:a1=b1
 ·
  by_cases h2:a2=b2
  ·
   subst h1 h2;simp
  have h3:¬ (a2=b2):=by omega
  simp [h1,h2,h3]
 simp [h1]
abbrev QP6:Value:=.func (.func 75) #[] #[]
theorem Qwx (a b:Ex) (w:World):Does Yj 75 #[.agg (Cs a).toArray,.agg (Cs b).toArray] w fun v w'=>v=.int .i64 (Ns a b)/\w'=(w.alloc (Yn (Cs a).toArray 48)).alloc (Yn (Cs b).toArray 48):=by
 refine En [.agg (Cs a).toArray,.agg (Cs b).toArray] 27 Tryz.func75 ?_;refine VQ [2,3] fun K hK=>?_;refine Dx ?_;refine Qs ?_;have hH:=(Xe w).box 48 (Cs a);generalize w.alloc (Yn (Cs a).toArray 48)=w1 at *;generalize w.heap.size=ga at *;refine Dx ?_;refine Qs ?_;have hH2:=hH.box 48 (Cs b);generalize w1.alloc (Yn (Cs b).toArray 48)=w2 at *;generalize w1.heap.size=gb at *;clear hH;apply hK;clear hK;have c1:w2.cell? ⟨ga,0,none⟩=some (.int .i64 a.1):=Aj (hH2.at 1 rfl) rfl;have c2:w2.cell? ⟨ga,1,none⟩=some (.int .i64 a.2):=Aj (hH2.at 1 rfl) rfl;have c3:w2.cell? ⟨gb,0,none⟩=some (.int .i64 b.1):=Aj (hH2.at 0 rfl) rfl;have c4:w2.cell? ⟨gb,1,none⟩=some (.int .i64 b.2):=Aj (hH2.at 0 rfl) rfl;refine VQ [2,3,7] fun K hK=>?_;refine ⟨Cs a,⟨rfl,B6 (hH2.at 1 rfl)⟩,?_⟩;(try refine Qs ?_);refine ⟨Cs b,⟨rfl,B6 (hH2.at 0 rfl)⟩,?_⟩;(try refine Qs ?_);rw [QJi];(try refine Qs ?_);apply hK;clear hK;refine VD (fun h=>?_) (fun h=>Ab ?_)
 ·
  subst h;refine VS [4] ?_;exact Ad (A0 rfl rfl ⟨by simp [Ns],rfl⟩)
 refine VQ [26] fun K hK=>?_
 suffices out:∀ b1:Bool,(b1=true ↔ (a.1 < b.1∨a.1=b.1/\a.2 < b.2))->K [(26,.bool b1)] w2 by
  refine ⟨_,c1,_,c3,?_⟩;(try refine Qs ?_);refine ⟨fun h1=>?_,fun h1=>?_⟩
  ·
   refine ⟨_,c1,_,c3,?_⟩;(try refine Qs ?_);refine ⟨fun h2=>?_,fun h2=>?_⟩
   ·
    refine ⟨_,c2,_,c4,?_⟩;(try refine Qs ?_);(repeat' (first | exact out _ _ (by first | omega | (simp;done) | (simp;omega)) | exact out _ (by first | omega | (simp;done) | (simp;omega)) | refine ⟨fun _=>?_,fun _=>?_⟩ | refine Qo ?_))
   (repeat' (first | exact out _ _ (by first | omega | (simp;done) | (simp;omega)) | exact out _ (by first | omega | (simp;done) | (simp;omega)) | refine ⟨fun _=>?_,fun _=>?_⟩ | refine Qo ?_))
  (repeat' (first | exact out _ _ (by first | omega | (simp;done) | (simp;omega)) | exact out _ (by first | omega | (simp;done) | (simp;omega)) | refine ⟨fun _=>?_,fun _=>?_⟩ | refine Qo ?_))
 intro b1 hb;apply hK;clear hK;refine Ae rfl rfl (fun h3=>?_) (fun h3=>Ab ?_)
 ·
  refine VS [4] ?_;exact Ad (A0 rfl rfl ⟨by rw [Ns,if_neg h,if_pos (hb.1 h3)],rfl⟩)
 have hg:¬ (a.1 < b.1∨a.1=b.1/\a.2 < b.2):=fun h2=>by have:=hb.2 h2;simp_all
 refine VS [4] ?_;exact Ad (A0 rfl rfl ⟨by rw [Ns,if_neg h,if_neg hg],rfl⟩)
abbrev R2:={ t:Ex // Qx t }
instance:Inhabited R2:=⟨⟨(0,0),by unfold Qx I64;omega⟩⟩
def Qv (x:R2):List Value:=Cs x.1
def Rr (x y:R2):Int:=Ns x.1 y.1
theorem Qmb (x y:Ex):Ns x y < 0 ↔ (x.1 < y.1∨(x.1=y.1/\x.2 < y.2)):=by
 unfold Ns;obtain ⟨x1,x2⟩:=x;obtain ⟨y1,y2⟩:=y;simp only [Prod.mk.injEq];split
 ·
  omega
 split <;> omega
theorem QP7:Sort.SWO (Go.Proofs.ltOf Rr) where
 irrefl x:=by simp [Go.Proofs.ltOf,Rr,Ns]
 trans x y z h1 h2:=by
  simp only [Go.Proofs.ltOf,Rr,decide_eq_true_eq,Qmb] at *;omega
 ntrans x y z h1 h2:=by
  simp only [Go.Proofs.ltOf,Rr,decide_eq_false_iff_not,Qmb] at *;omega
def Tj (g cap:Nat) (l:List Ex):Res:=Yf 48 2 (some ⟨g,0,none⟩) l.length cap (Dr l)
theorem Qsr (T:List Ex) (hT:T.length<=10000000000000) (hok:∀ t∈T,Qx t) (g cap:Nat) (w0 w:World) (B:List Nat) (G:List Res) (hL:Heap w0 B w (Tj g cap T::G)) :
  Does Yj 74 #[.slice (some ⟨g,0,none⟩) T.length cap,QP6] w fun v w'=>∃ T':List Ex,T'.Perm T/\(T'.Pairwise fun a b=>¬ Ns b a < 0)/\Heap w0 B w' (Tj g cap T'::G):=by
 intro n
 obtain ⟨d,hd⟩:∃ d:Array R2,d.toList.map (·.1)=T:=by
  refine ⟨(T.pmap (fun t h=>(⟨t,h⟩:R2)) hok).toArray,?_⟩;rw [List.toList_toArray,List.map_pmap];simp
 have hdl:d.size=T.length:=by rw [<- hd];simp
 have henc:∀ d:Array R2,B8 Qv d.toList=Dr (d.toList.map (·.1)):=fun d=>by
  unfold Dr B8;rw [List.flatMap_map];rfl
 have hrow:(Yf 48 2 (some ⟨g,0,none⟩) d.size cap (B8 Qv d.toList)).holds w:=by
  rw [henc d,hd,hdl];exact hL.at 0 rfl
 have hlt:g < w.heap.size:=(hL.foot (Tj g cap T) (by simp) g (by simp [Tj,Yf])).2
 have hcmp:Go.Proofs.CmpLays Yj 75 #[] Qv 2 Rr g 0 d.size (w.drewN n):=by
  intro m os dk hdk x y;rw [Array.append_empty];have h:=Qwx x.1 y.1 (Go.Proofs.sortWorldK Qv 2 (w.drewN n) g 0 m dk os) 0;rw [Qzz] at h;refine Calls.mono h ?_;rintro e w' ⟨v,w1,q,rfl,rfl,rfl,rfl⟩;refine ⟨rfl,q,#[Yn (Cs x.1).toArray 48,Yn (Cs y.1).toArray 48],?_⟩;rw [Sort.alloc_eq_grow,Sort.alloc_eq_grow,Sort.grow_grow];rfl
 have hcon:=AnyQ.slices_SortFunc QEy 2 Tryz.isAgg48 Tryz.sizeOf48 Qv (fun _=>rfl) (fun x=>Sr x.1) Rr QP7 75 #[] g 0 cap d (w.drewN n) Tryz.call75 hcmp (Qbu (enc:=Qv) (k:=2) (fun _=>rfl) hrow) hlt (by omega);change Calls Yj 74 _ _ _ at hcon;rw [hdl] at hcon;refine hcon.mono ?_;rintro e w' ⟨rfl,d',m,os,⟨hp1,hp2,hp3⟩,hs,rfl⟩;obtain ⟨w1,e1,hH⟩:=Qe0 (enc:=Qv) (k:=2) (fun _=>rfl) hrow hp1 n m os;have e2:(w1.drewN n).drewN m=w1.drewN (n+m):=by simp [World.drewN,Gb]
 have hH2:=hL.call1 0 rfl hH;simp only [Yc,Ye] at hH2;have hlen:(d'.toList.map (·.1)).length=d'.size:=by simp
 have e3:Yf 48 2 (some ⟨g,0,none⟩) d'.size cap (B8 Qv d'.toList)=Tj g cap (d'.toList.map (·.1)):=by
  rw [Tj,hlen,<- henc d']
 rw [e3] at hH2;have hfull:∀ x:Array R2,(x.extract 0 x.size).toList=x.toList:=fun x=>by simp
 refine ⟨_,w1,n+m,rfl,by rw [e1,e2],d'.toList.map (·.1),?_,?_,hH2⟩
 ·
  rw [<- hd];have h1:=hp3;rw [<- hdl,hfull d,<- hp1,hfull d'] at h1;exact h1.map _
 rw [List.pairwise_map,Ui];intro i j hi hj hij;have h1:=hs i j (by omega) hij (by rw [<- hdl,<- hp1];simpa using hj);have h1:=of_decide_eq_false h1;simp only [Rr] at h1;have hi':i < d'.size:=by simpa using hi
 have hj':j < d'.size:=by simpa using hj
 rw [getElem!_pos d' i hi',getElem!_pos d' j hj'] at h1;simpa using h1
end Go.Proofs.YtncpabbjpdogjaaGreatDoor
