/- A program logic over the model, and what this program's functions do by it: part 3. No conditions: a library of lemmas. -/
import Derived.Test.YthcdlcdnchaoiaaGreatW2
import Derived.Laws.StructEq
open Nat (reduceEqDiff)
set_option linter.unusedSimpArgs false
set_option linter.unusedVariables false
set_option maxRecDepth 100000
open List renaming replicate->Ya,getD_eq_getElem?_getD->Yb,getElem?_eq_getElem->Yc,set_cons_zero->Yd,length_append->Ye,range->Yf,append_assoc->Yg,take_of_length_le->Yh,set_cons_succ->Yj,length_singleton->Yk,append_nil->Yl,nil_append->Yp,length_take->Ys,take_append_drop->Yw,getElem?_append_right->Yx,drop_of_length_le->Yy,idxOf_lt_length_iff->Yz,singleton_append->Y0,length_cons->Y1,sublist_cons_self->Y4,length_drop->Y5,getElem?_eq_some_iff->Y6,take_append_of_le_length->Y7,set_append_right->Y9,replicate_succ->Xa,getElem?_append_left->Xb,length_replicate->Xc,cons_append->Xd,take_add_one->Xf,range_succ->Xg,mem_map->Xh,getElem?_zipWith->Xm,map_append->Xo,flatMap_cons->Xq,mem_of_getElem?->Xs,mem_cons->Xt,filter_cons_of_pos->Xv,drop_eq_nil_of_le->Xw,filter_append->Xx,length_set->Xy,perm_append_comm->Xz,mem_of_mem_take->X0,set_append_left->X1,perm_append_singleton->X4,eraseIdx_of_length_le->X5,drop_eq_getElem_cons->X7,flatten_append->X8,replicate_zero->X9,mem_append->Ua,length_map->Ub,filter_cons_of_neg->Ud,flatten_cons->Uf,length_range->Uj,getElem?_set->Uk,mem_range->Ul,filter_congr->Um,any_eq_true->Uo,ext_getElem->Up,length_nil->Ut,mem_filter->Uu,getElem?_range->Uv,getElem_range->Uy,getElem?_map->U0,range'->U2,getElem_mem->U5,eraseIdx_cons_succ->U6,eraseIdx_cons_zero->U7,getElem_map->U8,flatten_singleton->Gb,filter_nil->Gg,replicate_succ'->Gl,drop_zero->Gp,range_eq_range'->Gq,mem_cons_of_mem->Gr,zipWith_append->Gs,getElem_idxOf->Gu,map_set->Gz,all_eq_false->G0
open Go.Proofs.Tryz renaming prog->Yi,underlying51->Yn,underlying31->Yv,underlying165->Xl,call13->Xr,underlying34->Un,call12->Gi,call16->Gj,call17->Gk,call141->G4,call40->G6,call41->G7
open Go.Eng.CallK renaming mk->Ym
open Go.Eng.Res renaming row->Yo,blk->Yr
open Go.Value renaming oneCell'->Yq,cells->Y3,int->Xn,string->Ui,agg->Uq,slice->Us
open Nat renaming pow_le_pow_right->Yt,lt_or_ge->Xe,sub_self->Xi,add_sub_cancel->Xk,mul_le_mul->X3,le_refl->Uc,add_sub_cancel_left->Ue,zero_add->Ug,add_assoc->Ur,succ_mul->Uw,two_pow_add_eq_or_of_lt->Ux,mod_eq_of_lt->U3,mul_comm->U9,add_zero->Ga,le_trans->Gd,div_le_self->Gf,mul_one->Gn,lt_of_lt_of_le->Gv,and_one_is_mod->Gw,add_comm->G3
open Go.Obj renaming cells->Yu
open Go.Eng.Heap renaming start->Y2
open Int renaming toNat_natCast->Y8,toNat->X6,emod_eq_of_lt->Uz
open UInt8 renaming ofNat->Xj,toNat_ofNat'->Gy
open Go.IntKind renaming i64->Xp,bits->Uh,u64->Gh,u8->G8
open Go.Eng.I64 renaming mk->Xu
open Bool renaming and_eq_true->U4,false_and->Gm,true_and->Gt
open Option renaming map_eq_some_iff->Ge,getD_some->G5
open Go.Eng.FnK renaming mk->Gx
namespace Go.Proofs.YthcdlcdnchaoiaaGreat
def Qiu (a b:Nat):List Bool:=if a < b then (Ya (b - a) [true,false]).flatten else (Ya (a - b) [true,true]).flatten
def Qcc:Nat->List Nat->List Bool
 | _,[]=>[]
 | p,x::r=>Qiu p x++(false::Qcc x r)
def Qce (l:List Nat):List Bool:=Qas 5 (l.getD 0 0)++Qcc (l.getD 0 0) l
def tdGo:List Bool->Nat->Nat->Nat->Except Int (List Nat×Nat)
 | [],now,k,at_=>if k=0 then .ok ([],at_) else if now < 1∨20 < now then .error 80 else .error 10
 | false::r,now,k,at_=>if k=0 then .ok ([],at_) else if now < 1∨20 < now then .error 80 else match tdGo r now (k - 1) (at_+1) with
  | .error e=>.error e
  | .ok q=>.ok (now::q.1,q.2)
 | [true],now,k,at_=>if k=0 then .ok ([],at_) else if now < 1∨20 < now then .error 80 else .error 10
 | true::d::r,now,k,at_=>if k=0 then .ok ([],at_) else if now < 1∨20 < now then .error 80 else tdGo r (if d=true then now - 1 else now+1) k (at_+2)
def Qdb (bits:List Bool) (at_ n:Nat):Except Int (List Nat×Nat) :=
 if (Qgt bits at_ 5).2≠0 then .error (Qgt bits at_ 5).2 else tdGo (bits.drop (at_+5)) (Qgt bits at_ 5).1 n (at_+5)
theorem QSg:∀ (d p k:Nat) (r:List Bool) (at_:Nat),0 < k->1<=p->p+d<=20->tdGo ((Ya d [true,false]).flatten++r) p k at_=tdGo r (p+d) k (at_+2 * d)
 | 0,p,k,r,at_,_,_,_=>rfl
 | d+1,p,k,r,at_,h1,h2,h3=>by
  rw [Xa,Uf,Yg]
  show tdGo (true::false::((Ya d [true,false]).flatten++r)) p k at_=_
  rw [tdGo,if_neg (by omega),if_neg (by omega),if_neg (by simp),QSg d (p+1) k r (at_+2) h1 (by omega) (by omega)]
  congr 1 <;> omega
theorem QGj:∀ (d p k:Nat) (r:List Bool) (at_:Nat),0 < k->d < p->p<=20->tdGo ((Ya d [true,true]).flatten++r) p k at_=tdGo r (p - d) k (at_+2 * d)
 | 0,p,k,r,at_,_,_,_=>rfl
 | d+1,p,k,r,at_,h1,h2,h3=>by
  rw [Xa,Uf,Yg]
  show tdGo (true::true::((Ya d [true,true]).flatten++r)) p k at_=_
  rw [tdGo,if_neg (by omega),if_neg (by omega),if_pos rfl,QGj d (p - 1) k r (at_+2) h1 (by omega) (by omega)]
  congr 1 <;> omega
theorem Qfv (d:Nat) (b:Bool):(Ya d [true,b]).flatten.length=2 * d:=by
 induction d with
 | zero=>rfl
 | succ d ih=>rw [Xa,Uf,Ye,ih];simp;omega
theorem Qk7 (a b:Nat):(Qiu a b).length=2 * ((b - a)+(a - b)):=by
 unfold Qiu;split <;> rw [Qfv] <;> omega
theorem QOy {p x k:Nat} (r:List Bool) (at_:Nat) (hk:0 < k) (hp:1<=p/\p<=20) (hx:1<=x/\x<=20):tdGo (Qiu p x++r) p k at_=tdGo r x k (at_+(Qiu p x).length):=by
 rw [Qk7];unfold Qiu;split
 ·
  rw [QSg _ _ _ _ _ hk hp.1 (by omega)];congr 1 <;> omega
 rw [QGj _ _ _ _ _ hk (by omega) hp.2];congr 1 <;> omega
theorem QSh:∀ (l:List Nat) (p:Nat) (r:List Bool) (at_:Nat),(1<=p/\p<=20)->(∀ x∈l,1<=x/\x<=20)->tdGo (Qcc p l++r) p l.length at_=.ok (l,at_+(Qcc p l).length)
 | [],p,r,at_,_,_=>by
  show tdGo r p 0 at_=_
  match r with
  | []=>simp [tdGo,Qcc]
  | false::r=>simp [tdGo,Qcc]
  | [true]=>simp [tdGo,Qcc]
  | true::d::r=>simp [tdGo,Qcc]
 | x::l,p,r,at_,hp,hx=>by
  have h1:=hx x (by simp);rw [Qcc,Yg,Xd,QOy _ _ (by simp) hp h1,tdGo,if_neg (by simp),if_neg (by omega)];rw [Y1,Xk,QSh l x r _ h1 fun y hy=>hx y (by simp [hy])];simp;omega
theorem QD0 {l:List Nat} (hl:l≠[]) (h:∀ x∈l,1<=x/\x<=20) {bits:List Bool}{at_:Nat}{r:List Bool} (hb:bits.drop at_=Qce l++r):Qdb bits at_ l.length=.ok (l,at_+(Qce l).length):=by
 have h0:1<=l.getD 0 0/\l.getD 0 0<=20:=h _ (by
  cases l with
  | nil=>exact absurd rfl hl
  | cons x l=>simp)
 have hlen:bits.length - at_=(Qce l).length+r.length:=by rw [<- Y5,hb,Ye]
 have h5:(Qce l).length=5+(Qcc (l.getD 0 0) l).length:=by rw [Qce,Ye,Qan]
 have ht:(bits.drop at_).take 5=Qas 5 (l.getD 0 0):=by
  rw [hb,Qce,Yg];have:=Qan 5 (l.getD 0 0);rw [Y7 (by omega),Yh (by omega)]
 have hd:bits.drop (at_+5)=Qcc (l.getD 0 0) l++r:=by
  have:=Qbz (bits:=bits) (at_:=at_) (a:=Qas 5 (l.getD 0 0)) (b:=Qcc (l.getD 0 0) l++r) (by rw [hb,Qce,Yg])
  rwa [Qan] at this
 have hts:Qgt bits at_ 5=(l.getD 0 0,0):=by
  rw [Qgt,if_neg (by omega),ht,Qdz,U3 (by omega)]
 rw [Qdb,hts,hd,h5,QSh l _ r _ h0 h];simp;omega
theorem Qnm {k:Nat}:∀ (l:List Nat) (p:Nat),(p=k∨p=k+1)->(∀ x∈l,x=k∨x=k+1)->(Qcc p l).length<=3 * l.length
 | [],p,_,_=>by simp [Qcc]
 | x::l,p,hp,hx=>by
  have h1:=hx x (by simp);have h2:=Qnm l x h1 fun y hy=>hx y (by simp [hy]);have h3:=Qk7 p x;simp only [Qcc,Ye,Y1];omega
def Qek (li:List Nat) (at_:Nat):List Nat:=li.getD at_ 0::(li.take at_++li.drop (at_+1))
theorem Qga {li:List Nat}{at_:Nat} (h:at_ < li.length):(Qek li at_).length=li.length:=by simp [Qek];omega
theorem Qg2 {li:List Nat}{at_:Nat} (h:at_ < li.length) (c:Nat):c∈Qek li at_ ↔ c∈li:=by
 have e:li=li.take at_++li.getD at_ 0::li.drop (at_+1):=by
  have:li.getD at_ 0=li[at_]:=by rw [Yb,Yc h];rfl
  rw [this,<- X7 h,Yw]
 unfold Qek
 conv=>rhs;rw [e]
 simp only [Xt,Ua];constructor
 ·
  rintro (h | h | h)
  ·
   exact .inr (.inl h)
  ·
   exact .inl h
  exact .inr (.inr h)
 rintro (h | h | h)
 ·
  exact .inr (.inl h)
 ·
  exact .inl h
 exact .inr (.inr h)
theorem Qm1 {li:List Nat}{c:Nat} (h:c∈li):li.getD (li.idxOf c) 0=c:=by
 have h1:=Yz.2 h;rw [Yb,Yc h1,G5];exact Gu h1
def Qcw:List Nat->List Nat->List Bool
 | _,[]=>[]
 | li,p::r=>Ya (li.idxOf p) true++(false::Qcw (Qek li (li.idxOf p)) r)
def Qbx (T:List (List Nat)) (P:List Nat):List Bool:=Qas 3 T.length++(Qas 15 P.length++(Qcw (Yf T.length) P++T.flatMap Qce))
def ptGo (bits:List Bool) (many:Nat):List Nat->Nat->Nat->Except Int (List Nat×Nat)
 | li,0,at_=>.ok ([],at_)
 | li,k+1,at_=>if (unS (bits.drop at_) (many - 1) 0).2≠0 then .error (if (unS (bits.drop at_) (many - 1) 0).2=3 then 110 else (unS (bits.drop at_) (many - 1) 0).2) else
  match ptGo bits many (Qek li (unS (bits.drop at_) (many - 1) 0).1) k (at_+(unS (bits.drop at_) (many - 1) 0).1+1) with
  | .error e=>.error e
  | .ok q=>.ok (li.getD (unS (bits.drop at_) (many - 1) 0).1 0::q.1,q.2)
def okLB (l:List Nat):Bool:=decide (2<=l.length) && decide (l.length<=258) && l.all (fun x=>decide (1<=x) && decide (x<=20)) && decide (Qcn l<=1048576)
theorem Ql2 {l:List Nat}:okLB l=true ↔ okL l:=by
 simp only [okLB,okL,U4,decide_eq_true_eq,List.all_eq_true,and_assoc]
def ttGo (bits:List Bool) (n:Nat):Nat->Nat->Except Int (List (List Nat)×Nat)
 | 0,at_=>.ok ([],at_)
 | k+1,at_=>match Qdb bits at_ n with
  | .error e=>.error e
  | .ok q=>if okLB q.1=false then .error 80 else match ttGo bits n k q.2 with
   | .error e=>.error e
   | .ok q'=>.ok (q.1::q'.1,q'.2)
def Qel (bits:List Bool) (at_ n:Nat):Except Int ((List (List Nat)×List Nat)×Nat) :=
 if (Qgt bits at_ 3).2≠0 then .error (Qgt bits at_ 3).2 else
 if (Qgt bits at_ 3).1 < 2∨6 < (Qgt bits at_ 3).1 then .error 110 else
 if (Qgt bits (at_+3) 15).2≠0 then .error (Qgt bits (at_+3) 15).2 else
 if (Qgt bits (at_+3) 15).1=0 then .error 110 else
 match ptGo bits (Qgt bits at_ 3).1 (Yf (Qgt bits at_ 3).1) (Qgt bits (at_+3) 15).1 (at_+18) with
 | .error e=>.error e
 | .ok q=>match ttGo bits n (Qgt bits at_ 3).1 q.2 with
  | .error e=>.error e
  | .ok q'=>.ok ((q'.1,q.1),q'.2)
def mayP (T:List (List Nat)) (P:List Nat):Prop:=2<=T.length/\T.length<=6/\1<=P.length/\P.length<=32767/\(∀ t∈T,t.length=(T.getD 0 []).length/\3<=t.length/\okL t)/\∀ k∈P,k < T.length
theorem QGk:∀ (k most n:Nat) (r:List Bool),n+k<=most->unS (Ya k true++false::r) most n=(n+k,0)
 | 0,most,n,r,_=>rfl
 | k+1,most,n,r,h=>by
  rw [Xa,Xd,unS,if_neg (by omega),QGk k most (n+1) r (by omega)]
  congr 1;omega
theorem QSi (many:Nat):∀ (P li:List Nat) {bits:List Bool}{at_:Nat}{r:List Bool},li.length=many->(∀ k∈P,k∈li)->bits.drop at_=Qcw li P++r->ptGo bits many li P.length at_=.ok (P,at_+(Qcw li P).length)
 | [],li,bits,at_,r,_,_,_=>by simp [ptGo,Qcw]
 | p::P,li,bits,at_,r,hl,hm,hb=>by
  have hp:=hm p (by simp);have h1:=Yz.2 hp;have hb':bits.drop at_=(Ya (li.idxOf p) true++[false])++(Qcw (Qek li (li.idxOf p)) P++r):=by rw [hb,Qcw];simp
  have hu:unS (bits.drop at_) (many - 1) 0=(li.idxOf p,0):=by
   rw [hb',Yg,Y0,QGk _ _ _ _ (by omega),Ug]
  have hd:=Qbz hb';simp only [Ye,Xc,Yk] at hd;rw [Y1,ptGo,hu];simp only;rw [Ur,QSi many P (Qek li (li.idxOf p)) (by rw [Qga h1,hl]) (fun k hk=>(Qg2 h1 k).2 (hm k (by simp [hk]))) hd,Qm1 hp];simp [Qcw];omega
theorem QSj (n:Nat):∀ (T:List (List Nat)) {bits:List Bool}{at_:Nat}{r:List Bool},(∀ t∈T,t.length=n/\okL t)->bits.drop at_=T.flatMap Qce++r->ttGo bits n T.length at_=.ok (T,at_+(T.flatMap Qce).length)
 | [],bits,at_,r,_,_=>by simp [ttGo]
 | t::T,bits,at_,r,hT,hb=>by
  obtain ⟨h1,h2⟩:=hT t (by simp);have hb':bits.drop at_=Qce t++(T.flatMap Qce++r):=by rw [hb];simp
  have hne:t≠[]:=fun e=>by subst e;have:=h2.1;simp at this
  have ht:=QD0 hne h2.2.2.1 hb';rw [h1] at ht;rw [Y1,ttGo,ht];simp only;rw [if_neg (by rw [Ql2.2 h2];simp),QSj n T (fun t ht=>hT t (by simp [ht])) (Qbz hb')];simp;omega
theorem Qwy {n v:Nat}{bits:List Bool}{at_:Nat}{r:List Bool} (h0:0 < n) (hv:v < 2 ^ n) (hb:bits.drop at_=Qas n v++r):Qgt bits at_ n=(v,0)/\bits.drop (at_+n)=r:=by
 have hlen:bits.length - at_=n+r.length:=by rw [<- Y5,hb,Ye,Qan]
 have hd:=Qbz hb;rw [Qan] at hd;refine ⟨?_,hd⟩;have hl:=Qan n v
 have ht:(bits.drop at_).take n=Qas n v:=by
  rw [hb,Y7 (by omega),Yh (by omega)]
 rw [Qgt,ht,Qdz,U3 hv];rw [if_neg (by omega)]
theorem QGl {T:List (List Nat)}{P:List Nat} (h:mayP T P) {bits:List Bool}{at_:Nat}{r:List Bool} (hb:bits.drop at_=Qbx T P++r):Qel bits at_ (T.getD 0 []).length=.ok ((T,P),at_+(Qbx T P).length):=by
 obtain ⟨h1,h2,h3,h4,h5,h6⟩:=h;unfold Qbx at hb;simp only [Yg] at hb;obtain ⟨t1,d1⟩:=Qwy (by omega) (by omega) hb;obtain ⟨t2,d2⟩:=Qwy (by omega) (by omega) d1;rw [Ur] at d2;have p1:=QSi T.length P (Yf T.length) (by simp) (fun k hk=>by simpa using h6 k hk) d2;have d3:=Qbz d2;have p2:=QSj (T.getD 0 []).length T (fun t ht=>⟨(h5 t ht).1,(h5 t ht).2.2⟩) d3;rw [Qel,t1,t2];simp only;rw [if_neg (by simp),if_neg (by omega),if_neg (by simp),if_neg (by omega),p1];simp only;rw [p2];simp [Qbx,Qan];omega
open Go Go.Eng
def Qak (l:List Nat):List Value:=l.map fun n:Nat=>.int .i64 (n:Int)
def ni (l:List Nat):List Int:=l.map fun n:Nat=>(n:Int)
theorem QKc (l:List Nat):Qak l=Qat (ni l):=by simp [Qak,Qat,ni]
theorem Qal (l:List Nat):(Qak l).length=l.length:=by simp [Qak]
theorem Qcy (l m:List Nat):Qak (l++m)=Qak l++Qak m:=by simp [Qak]
theorem QD1 (l:List Nat) (x:Nat):Qak l++[.int .i64 (x:Int)]=Qak (l++[x]):=by simp [Qak]
theorem Qb4 {l:List Nat}{i:Nat} (h:i < l.length):(Qak l)[i]? = some (.int .i64 ((l.getD i 0:Nat):Int)):=by
 simp [Qak,Yc h,Yb]
theorem Qck (l:List Nat) (i v:Nat):(Qak l).set i (.int .i64 (v:Int))=Qak (l.set i v):=by simp [Qak,Gz]
theorem Qm2 (l:List Nat) (k:Nat):(Qak l).take k=Qak (l.take k):=by simp [Qak]
theorem Qsh (l:List Nat) (k:Nat):(Qak l).drop k=Qak (l.drop k):=by simp [Qak]
theorem Qdc (l:List Nat):∀ u∈Qak l,u.oneCell'=true:=by
 intro u hu;obtain ⟨b,_,rfl⟩:=Xh.1 hu;rfl
theorem Qbr {w:World}{p:Addr}{l:List Nat}{n:Nat} (h:RS w (some p) n 1 (Qak l)) {i:Nat} (hi:i < l.length):w.cell? (p.add i)=some (.int .i64 ((l.getD i 0:Nat):Int)) :=
 h.2.2 p rfl i _ (Qb4 hi)
def u64V (l:List Nat):List Value:=l.map fun n:Nat=>.int .u64 (n:Int)
theorem Qon (l:List Nat):(u64V l).length=l.length:=by simp [u64V]
theorem Qt4 {l:List Nat}{i:Nat} (h:i < l.length):(u64V l)[i]? = some (.int .u64 ((l.getD i 0:Nat):Int)):=by
 simp [u64V,Yc h,Yb]
theorem QKd (l:List Nat) (i v:Nat):(u64V l).set i (.int .u64 (v:Int))=u64V (l.set i v):=by simp [u64V,Gz]
theorem Qzv:∀ {l:List Value}{i:Nat}{v:Value}{K:Value->Prop},l[i]? = some v->vNth l i K=K v:=by
 intro l i v K h;rw [QFx,h]
section
variable {P:Program}{w w0:World}{B:List Nat}{G:List Res}
theorem Qiv (hH:Heap w0 B w G) (i:Nat) {T E ty:TypeId}{bytes:Nat}{z:Value}{a:Option Addr}{cap:Nat}{o:List Nat} (k:Nat) {n:Int}{C:Value->World->Prop}
  (hi:G[i]? = some (Yo E 1 a o.length cap (Qak o))) (hu:P.underlying T=some (.slice E)) (hz:(P.info? E).map (fun i=>(i.zero.map Y3,i.size,i.bytes))=some (some #[z],1,bytes)) (hn:n=k)
  (hb:cap < (o++[k]).length->(o++[k]).length * bytes<=140737488355328/\(o++[k]).length<=9223372036854775807)
  (h:∀ a' cap' w',((o++[k]).length<=cap->a'=a/\cap'=cap)->Heap w0 B w' (G.set i (Yo E 1 a' (o++[k]).length cap' (Qak (o++[k]))))->C (.slice a' (o++[k]).length cap') w') :
  AppK P #[T,T] ty [.slice a o.length cap,.slice (some ⟨w.heap.size,0,none⟩) 1 1] (w.alloc (.cells [Xn .i64 n].toArray E)) C:=by
 subst hn;have e:o.length+1=(o++[k]).length:=by simp
 refine Qtj hH i hi hu hz rfl (by rw [e];exact hb) fun a' cap' w' hc hH'=>?_;rw [QD1,e] at hH';rw [e] at hc ⊢;exact h a' cap' w' hc hH'
end
theorem Qh4 {l:List Nat}{i:Nat} (h:i < l.length):maxL (l.take (i+1))=max (maxL (l.take i)) (l.getD i 0):=by
 rw [Qb2 0 h,maxL,List.foldl_append];rfl
theorem QBs (l:List Nat) (hl:0 < l.length) (hs:l.length<=1000000000) (a:Option Addr) (lc:Nat) (w:World) (hr:RS w a l.length 1 (Qak l)) :
  Does Yi 131 #[.slice a l.length lc] w fun v w'=>w'=w/\v=.int .i64 (maxL l:Nat):=by
 obtain ⟨p,rfl⟩:=Qbj hr (by omega);refine En [.slice (some p) l.length lc] 25 Tryz.func131 ?_;generalize hn:l.length=n at *;refine VS [0] ?_;refine VS [0,7] ?_;refine Qdl [0] (fun e w'=>Is e [(0,.slice (some p) n lc)]/\Is w' w) ?_ ?_
 ·
  refine Qaf rfl rfl (fun h=>by simp at h;omega) (fun h=>?_);refine VC_skip ?_;refine Qab ?_;refine Qs ?_;exact ⟨rfl,rfl⟩
 rintro e w' ⟨rfl,rfl⟩;have h0:=Qbr hr (i:=0) (by omega);refine VQ [0,3] fun K hK=>?_;refine ⟨by omega,_,h0,?_⟩;apply hK;clear hK;refine VS [0,3,4] ?_
 have hm0:l.getD 0 0=maxL (l.take 1):=by
  cases l with
  | nil=>simp at hn;omega
  | cons x l=>simp [maxL]
 rw [hm0];refine Qac ?_;refine Qad [0,3,4] (fun m e w1=>∃ (i:Nat),Is e [(0,.slice (some p) n lc),(3,.int .i64 (maxL (l.take i):Nat)),(4,.int .i64 i)]/\Is w1 w'/\1<=i/\i<=n/\m=n - i) (n - 1) ?_ ?_
 ·
  refine Qs ?_;exact ⟨1,rfl,rfl,by omega,by omega,rfl⟩
 rintro m e w2 ⟨i,rfl,rfl,h1,h2,rfl⟩;refine VS [0,3,4,15] ?_;refine VD (fun h=>?_) (fun h=>?_)
 ·
  have hi:=Qbr hr (i:=i) (by omega);have hs2:=Qh4 (l:=l) (i:=i) (by omega);refine VC_skip ?_;refine VB ?_;refine VQ [0,3,4] fun K hK=>?_;refine ⟨⟨by omega,by omega⟩,_,hi,?_⟩;refine Qs ?_;rw [show max ((maxL (l.take i):Nat):Int) ((l.getD i 0:Nat):Int)=((maxL (l.take (i+1)):Nat):Int) by rw [hs2];omega];apply hK;clear hK;refine Qaj ?_;refine VS [0,3,4] ?_;refine Qab ?_;refine Qs ?_;exact ⟨n - (i+1),by omega,i+1,rfl,rfl,by omega,by omega,rfl⟩
 refine Qag rfl ?_;refine VS [2] ?_;refine VC_ret (VX_ret1 rfl rfl ⟨rfl,?_⟩);rw [Yh (by omega)]
theorem QKe (l:List Nat) (hl:0 < l.length) (hs:l.length<=1000000000) (a:Option Addr) (lc:Nat) (w:World) (hr:RS w a l.length 1 (Qak l)) :
  Does Yi 156 #[.slice a l.length lc] w fun v w'=>w'=w/\∃ n:Nat,v=.int .i64 n:=by
 obtain ⟨p,rfl⟩:=Qbj hr (by omega);refine En [.slice (some p) l.length lc] 25 Tryz.func156 ?_;generalize hn:l.length=n at *;refine VS [0] ?_;refine VS [0,7] ?_;refine Qdl [0] (fun e w'=>Is e [(0,.slice (some p) n lc)]/\Is w' w) ?_ ?_
 ·
  refine Qaf rfl rfl (fun h=>by simp at h;omega) (fun h=>?_);refine VC_skip ?_;refine Qab ?_;refine Qs ?_;exact ⟨rfl,rfl⟩
 rintro e w' ⟨rfl,rfl⟩;have h0:=Qbr hr (i:=0) (by omega);refine VQ [0,3] fun K hK=>?_;refine ⟨by omega,_,h0,?_⟩;apply hK;clear hK;refine VS [0,3,4] ?_;refine Qac ?_;refine Qad [0,3,4] (fun m e w1=>∃ (i x:Nat),Is e [(0,.slice (some p) n lc),(3,.int .i64 x),(4,.int .i64 i)]/\Is w1 w'/\1<=i/\i<=n/\m=n - i) (n - 1) ?_ ?_
 ·
  refine Qs ?_;exact ⟨1,_,rfl,rfl,by omega,by omega,rfl⟩
 rintro m e w2 ⟨i,x,rfl,rfl,h1,h2,rfl⟩;refine VS [0,3,4,15] ?_;refine VD (fun h=>?_) (fun h=>?_)
 ·
  have hi:=Qbr hr (i:=i) (by omega);refine VC_skip ?_;refine VB ?_;refine VQ [0,3,4] fun K hK=>?_;refine ⟨⟨by omega,by omega⟩,_,hi,?_⟩;refine Qs ?_;rw [show min ((x:Nat):Int) ((l.getD i 0:Nat):Int)=((min x (l.getD i 0):Nat):Int) by omega];apply hK;clear hK;refine Qaj ?_;refine VS [0,3,4] ?_;refine Qab ?_;refine Qs ?_;exact ⟨n - (i+1),by omega,i+1,_,rfl,rfl,by omega,by omega,rfl⟩
 refine Qag rfl ?_;refine VS [2] ?_;exact VC_ret (VX_ret1 rfl rfl ⟨rfl,_,rfl⟩)
theorem Qpo (l:List Nat) (hl:2<=l.length) (hl2:l.length<=258) (hx:∀ x∈l,x<=1073741824) (a:Option Addr) (lc:Nat) (w:World) (hr:RS w a l.length 1 (Qak l)) :
  Does Yi 128 #[.slice a l.length lc] w fun v w'=>w'=w/\v=.bool true:=by
 have hmax:=(Qit (l:=l)).2 hx;have hc1:=QKe l (by omega) (by omega) a lc w hr;have hc2:=QBs l (by omega) (by omega) a lc w hr;refine En [.slice a l.length lc] 21 Tryz.func128 ?_;generalize l.length=n at *;generalize maxL l=mx at *;refine VS [0] ?_;refine VQ [2] fun K hK=>?_;refine ⟨fun h1=>⟨fun h2=>?_,fun h2=>absurd h2 (by simp;omega)⟩,fun h1=>absurd h1 (by simp;omega)⟩;refine MemK_call Tryz.call156 ?_;refine Qs ?_;refine Ym hc1 ?_;rintro v w2 ⟨rfl,q,rfl⟩;refine Qs ?_;refine ⟨fun h3=>?_,fun h3=>absurd h3 (by simp)⟩;refine MemK_call Tryz.call131 ?_;refine Qs ?_;refine Ym hc2 ?_;rintro v w3 ⟨rfl,rfl⟩;refine Qs ?_;rw [decide_eq_true (show ((mx:Nat):Int)<=1073741824 by omega)];apply hK;clear hK;exact VC_ret (VX_ret1 rfl rfl ⟨rfl,rfl⟩)
def sumS (l:List Nat):Nat:=if l.length < 2∨258 < l.length then 0 else if l.all (fun x=>decide (1<=x) && decide (x<=20)) then Qcn l else 0
theorem Qpp (l:List Nat) (x:Nat):Qcn (l++[x])=Qcn l+2 ^ (20 - x):=by rw [Qly];rfl
theorem Qpq (l:List Nat):Qcn l<=l.length * 1048576:=by
 induction l with
 | nil=>simp [Qcn]
 | cons x l ih =>
  have:2 ^ (20 - x)<=2 ^ 20:=Yt (by omega) (by omega);simp only [Qcn,Y1,Uw];have e:(2:Nat) ^ 20=1048576:=by decide
  omega
theorem Qzw (l:List Nat) (a:Option Addr) (lc:Nat) (w:World) (hr:RS w a l.length 1 (Qak l)) :
  Does Yi 134 #[.slice a l.length lc] w fun v w'=>w'=w/\v=.int .i64 (sumS l:Nat):=by
 generalize hres:sumS l=res;unfold sumS at hres;refine En [.slice a l.length lc] 33 Tryz.func134 ?_;generalize hn:l.length=n at *;refine VS [0] ?_;refine VQ [0,13] fun K hK=>?_
 suffices out:∀ b:Bool,(b=true ↔ (n < 2∨258 < n))->K [(0,.slice a n lc),(13,.bool b)] w by (repeat' (first | exact out _ _ (by first | omega | (simp;done) | (simp;omega)) | exact out _ (by first | omega | (simp;done) | (simp;omega)) | refine ⟨fun _=>?_,fun _=>?_⟩ | refine Qo ?_))
 intro b hb;apply hK;clear hK;refine Vi (fun h=>?_) (fun h=>VC_skip ?_)
 ·
  rw [if_pos (hb.1 h)] at hres;subst hres;refine VS [2] ?_;exact VC_ret (VX_ret1 rfl rfl ⟨rfl,rfl⟩)
 have hg:¬ (n < 2∨258 < n):=fun h2=>by have:=hb.2 h2;simp_all
 rw [if_neg hg] at hres;clear hb h;obtain ⟨p,rfl⟩:=Qbj hr (by omega);refine VS [0,3] ?_;refine VS [3,14,15,16] ?_;refine Qac ?_;refine Qad [3,14,15,16] (fun m e w'=>∃ (i:Nat),Is e [(3,.int .i64 (Qcn (l.take i):Nat)),(14,.slice (some p) n lc),(15,.int .i64 n),(16,.int .i64 i)]/\Is w' w/\i<=n/\(l.take i).all (fun x=>decide (1<=x) && decide (x<=20))=true/\m=n - i) n ?_ ?_
 ·
  refine Qs ?_;exact ⟨0,rfl,rfl,by omega,by simp,rfl⟩
 rintro m e w' ⟨i,rfl,rfl,hi,hall,rfl⟩;refine VS [3,14,15,16,17] ?_;(repeat refine Qax ?_);refine VD (fun h=>?_) (fun h=>?_)
 ·
  have hcell:=Qbr hr (i:=i) (by omega);have htk:=Qb2 0 (l:=l) (i:=i) (by omega);have hks:=Qpp (l.take i) (l.getD i 0);rw [<- htk] at hks;have hmem:=Qa3 0 (l:=l) (i:=i) (by omega);have hkl:=Qpq (l.take i);have hlt:(l.take i).length<=258:=by rw [Ys];omega
  generalize hx:l.getD i 0=x at *;refine VC_skip ?_;refine VB ?_;refine VQ [3,5,14,15,16] fun K hK=>?_;refine ⟨⟨by omega,by omega⟩,_,hcell,?_⟩;apply hK;clear hK;refine VQ [3,5,14,15,16,25] fun K hK=>?_
  suffices out:∀ b:Bool,(b=true ↔ (x < 1∨20 < x))->K [(3,.int .i64 (Qcn (l.take i):Nat)),(5,.int .i64 x),(14,.slice (some p) n lc),(15,.int .i64 n),(16,.int .i64 i),(25,.bool b)] w' by (repeat' (first | exact out _ _ (by first | omega | (simp;done) | (simp;omega)) | exact out _ (by first | omega | (simp;done) | (simp;omega)) | refine ⟨fun _=>?_,fun _=>?_⟩ | refine Qo ?_))
  intro b hb;apply hK;clear hK;refine Vi (fun h=>?_) (fun h=>VC_skip ?_)
  ·
   have hb1:=hb.1 h
   have:l.all (fun x=>decide (1<=x) && decide (x<=20))=false:=by
    rw [G0];exact ⟨x,hmem,by simp;omega⟩
   rw [this,if_neg (by simp)] at hres;subst hres;refine VS [2] ?_;exact VC_ret (VX_ret1 rfl rfl ⟨rfl,rfl⟩)
  have hg2:¬ (x < 1∨20 < x):=fun h2=>by have:=hb.2 h2;simp_all
  clear hb h;have hsh:shN Xp (20 - (x:Int))=20 - x:=Qr2 (by omega) (by simp [Uh];omega);have hp2:2 ^ (20 - x)<=2 ^ 20:=Yt (by omega) (by omega);have hp3:2 ^ (20 - x)<=1048576:=hp2;have hp:(1:Int) * 2 ^ (20 - x)=((2 ^ (20 - x):Nat):Int):=by push_cast;exact Int.one_mul _
  refine VQ [3,14,15,16] fun K hK=>?_;rw [hsh,hp];clear hp hp2 hsh;generalize 2 ^ (20 - x)=pw at *;(repeat first | refine Qo ?_ | refine Qp ?_);rw [show ((Qcn (l.take i):Nat):Int)+pw=((Qcn (l.take (i+1)):Nat):Int) by rw [hks];omega];apply hK;clear hK;refine Qaj ?_;refine VS [3,14,15,16] ?_;refine Qab ?_;refine Qs ?_;refine ⟨n - (i+1),by omega,i+1,rfl,rfl,by omega,?_,rfl⟩;rw [htk,List.all_append,hall];simp;omega
 obtain rfl:i=n:=by omega
 rw [Yh (by omega)] at hall ⊢;rw [if_pos hall] at hres;refine Qag rfl ?_;refine VS [2] ?_;exact VC_ret (VX_ret1 rfl rfl ⟨rfl,by rw [hres]⟩)
theorem QOz (l:List Nat):okLB l=true ↔ ¬ (sumS l=0∨1048576 < sumS l):=by
 unfold sumS okLB;by_cases h1:l.length < 2∨258 < l.length
 ·
  rw [if_pos h1];simp;omega
 rw [if_neg h1];cases h2:l.all (fun x=>decide (1<=x) && decide (x<=20)) with
 | false=>simp
 | true =>
  have hpos:0 < Qcn l:=by
   cases l with
   | nil=>simp at h1
   | cons x l=>have:=Nat.two_pow_pos (20 - x);simp only [Qcn];omega
  simp;omega
theorem Qiw (l:List Nat) (a:Option Addr) (lc:Nat) (w:World) (hr:RS w a l.length 1 (Qak l)) :
  Does Yi 102 #[.slice a l.length lc] w fun v w'=>w'=w/\v=.int .i64 (if okLB l=true then 0 else 80):=by
 have hc:=Qzw l a lc w hr;have hs:=QOz l;refine En [.slice a l.length lc] 12 Tryz.func102 ?_;generalize sumS l=n at *;refine VS [0] ?_;refine VQ [3] fun K hK=>?_;refine MemK_call Tryz.call134 ?_;refine Qs ?_;refine Ym hc ?_;rintro v w2 ⟨rfl,rfl⟩;apply hK;clear hK;refine VQ [11] fun K hK=>?_
 suffices out:∀ b:Bool,(b=true ↔ (n=0∨1048576 < n))->K [(11,.bool b)] w2 by (repeat' (first | exact out _ _ (by first | omega | (simp;done) | (simp;omega)) | exact out _ (by first | omega | (simp;done) | (simp;omega)) | refine ⟨fun _=>?_,fun _=>?_⟩ | refine Qo ?_))
 intro b hb;apply hK;clear hK;refine Vi (fun h=>?_) (fun h=>VC_skip ?_)
 ·
  have h2:=hb.1 h;refine VS [2] ?_;exact VC_ret (VX_ret1 rfl rfl ⟨rfl,by rw [if_neg (fun h3=>hs.1 h3 h2)]⟩)
 have hg:¬ (n=0∨1048576 < n):=fun h2=>by have:=hb.2 h2;simp_all
 refine VS [2] ?_;exact VC_ret (VX_ret1 rfl rfl ⟨rfl,by rw [if_pos (hs.2 hg)]⟩)
theorem Qkd {P:Program}{w:World}{a:Option Addr}{n c:Nat}{l:List Nat}{T E:TypeId} (h:RS w a n 1 (Qak l)) (hu:P.underlying T=some (.slice E)):Src P w (.slice a n c) T 1 n (Qak l):=⟨rfl,h,E,hu⟩
theorem QO0 {w:World}{KV:Value->Prop} (a:Option Addr) (n c n' c':Nat) (xo yo:Operand):Qb9 Yi .eql 51 xo yo (.slice a n c) (.slice none n' c') w KV=KV (.bool a.isNone):=QJt Yn a n c n' c' xo yo
attribute [go_sem] QO0
theorem QD2 (l:List Nat) (hl:0 < l.length) (hs:l.length<=1000000000) (a:Option Addr) (lc:Nat) (w:World) (hr:RS w a l.length 1 (Qak l)) :
  Does Yi 129 #[.slice a l.length lc] w fun v w'=>∃ a' cap,Heap w [] w' [Yo 3 1 a' l.length cap (Qak l)]/\v=.slice a' l.length cap:=by
 obtain ⟨p,rfl⟩:=Qbj hr (by omega);refine En [.slice (some p) l.length lc] 8 Tryz.func129 ?_;refine VS [0] ?_;refine VS [0,4] ?_;refine Qaf rfl rfl (fun h=>by simp at h) (fun h=>VC_skip ?_);refine VQ [2] fun K hK=>?_;have hS:=Y2 w;refine Qbb hS (Qak []) (xs:=[]) Yn sz3 rfl rfl rfl (by omega) ?_;refine Qs ?_;refine ⟨rfl,by simp [Y3],fun g w4 hH2=>?_⟩;(try refine Qs ?_);refine Qai ?_;refine Qs ?_;refine Qbn hH2 0 rfl Yn zi3 rfl (Qkd (hH2.rs' hr) Yn) (Qdc _) (fun h=>by omega) fun a' cap' w5 hc' hH4=>?_;refine Qs ?_;apply hK;clear hK;exact VC_ret (VX_ret1 rfl rfl ⟨a',cap',by simpa [Qak] using hH4,by simp⟩)
set_option maxHeartbeats 2000000
theorem QD3 (l:List Nat) (hl:l.length<=1000000) (hx:∀ x∈l,x<=1000000) (a:Option Addr) (lc:Nat) (w:World) (hr:RS w a l.length 1 (Qak l)) :
  Does Yi 140 #[.slice a l.length lc] w fun v w'=>w'=w/\v=.int .i64 (if okLB l=true then (Qcn l:Int) else -1):=by
 generalize hn:l.length=n at *;refine En [.slice a n lc] 45 Tryz.func140 ?_;refine VS [0] ?_;refine VS [0,3] ?_;refine VS [0,3,4] ?_;refine Qac ?_;refine Qad [0,3,4] (fun m e w'=>∃ (i:Nat),Is e [(0,.slice a n lc),(3,.int .i64 (Qcn (l.take i):Nat)),(4,.int .i64 i)]/\Is w' w/\i<=n/\(l.take i).all (fun x=>decide (1<=x) && decide (x<=20))=true/\m=n - i) n ?_ ?_
 ·
  refine Qs ?_;exact ⟨0,rfl,rfl,by omega,by simp,rfl⟩
 rintro m e w' ⟨i,rfl,rfl,hi,hall,rfl⟩;refine VS [0,3,4,8] ?_;refine VD (fun h=>?_) (fun h=>?_)
 ·
  obtain ⟨p,rfl⟩:=Qbj hr (by omega);have hcell:=Qbr hr (i:=i) (by omega);have htk:=Qb2 0 (l:=l) (i:=i) (by omega);have hks:=Qpp (l.take i) (l.getD i 0);rw [<- htk] at hks;have hmem:=Qa3 0 (l:=l) (i:=i) (by omega);have hkl:=Qpq (l.take i);have hlt:(l.take i).length<=1000000:=by rw [Ys];omega
  have hx1:=hx _ hmem;generalize hx:l.getD i 0=x at *;refine VC_skip ?_;refine VB ?_;refine VQ [0,3,4,22] fun K hK=>?_;refine ⟨⟨by omega,by omega⟩,_,hcell,?_⟩;(try refine Qs ?_)
  suffices out:∀ b:Bool,(b=true ↔ (x < 1∨20 < x))->K [(0,.slice (some p) n lc),(3,.int .i64 (Qcn (l.take i):Nat)),(4,.int .i64 i),(22,.bool b)] w' by
   refine ⟨fun h3=>?_,fun h3=>out _ (by simp at h3 ⊢;omega)⟩;refine ⟨⟨by omega,by omega⟩,_,hcell,?_⟩;(try refine Qs ?_);exact out _ (by simp at h3 ⊢;omega)
  intro b hb;apply hK;clear hK;refine Vi (fun h=>?_) (fun h=>VC_skip ?_)
  ·
   have hb1:=hb.1 h
   have:okLB l=false:=by
    have h3:l.all (fun x=>decide (1<=x) && decide (x<=20))=false:=by
     rw [G0];exact ⟨x,hmem,by simp;omega⟩
    unfold okLB;rw [h3];simp
   refine VS [2] ?_;refine VC_ret (VX_ret1 rfl rfl ⟨rfl,?_⟩);rw [this];rfl
  have hg2:¬ (x < 1∨20 < x):=fun h2=>by have:=hb.2 h2;simp_all
  clear hb h;have hsh:shN Xp ((20 - (x:Int)) % 18446744073709551616)=20 - x:=Qtk (by omega) (by simp [Uh];omega) (by decide);have hp2:2 ^ (20 - x)<=2 ^ 20:=Yt (by omega) (by omega);have hp3:2 ^ (20 - x)<=1048576:=hp2;have hp:(1:Int) * 2 ^ (20 - x)=((2 ^ (20 - x):Nat):Int):=by push_cast;exact Int.one_mul _
  refine VQ [0,3,4] fun K hK=>?_;refine ⟨⟨by omega,by omega⟩,_,hcell,?_⟩;(try refine Qs ?_);rw [hsh,hp];clear hp hp2 hsh;generalize 2 ^ (20 - x)=pw at *;(repeat first | refine Qo ?_ | refine Qp ?_);rw [show ((Qcn (l.take i):Nat):Int)+pw=((Qcn (l.take (i+1)):Nat):Int) by rw [hks];omega];apply hK;clear hK;refine Qaj ?_;refine VS [0,3,4] ?_;refine Qab ?_;refine Qs ?_;refine ⟨n - (i+1),by omega,i+1,rfl,rfl,by omega,?_,rfl⟩;rw [htk,List.all_append,hall];simp;omega
 obtain rfl:i=n:=by omega
 have htl:l.take i=l:=Yh (by omega);rw [htl] at hall ⊢;refine Qag rfl ?_
 have hok:okLB l=true ↔ 2<=i/\i<=258/\Qcn l<=1048576:=by
  unfold okLB;rw [hall,hn];simp [and_assoc]
 have hkl:=Qpq l;rw [hn] at hkl;refine VQ [3,43] fun K hK=>?_
 suffices out:∀ b:Bool,(b=true ↔ ¬ (2<=i/\i<=258/\Qcn l<=1048576))->K [(3,.int .i64 (Qcn l:Nat)),(43,.bool b)] w' by (repeat' (first | exact out _ _ (by first | omega | (simp;done) | (simp;omega)) | exact out _ (by first | omega | (simp;done) | (simp;omega)) | refine ⟨fun _=>?_,fun _=>?_⟩ | refine Qo ?_))
 intro b hb;apply hK;clear hK;refine Vi (fun h=>?_) (fun h=>VC_skip ?_)
 ·
  have hb1:=hb.1 h;refine VS [2] ?_;refine VC_ret (VX_ret1 rfl rfl ⟨rfl,?_⟩);rw [if_neg fun h3=>hb1 (hok.1 h3)]
 have hb1:okLB l=true:=hok.2 (Decidable.not_not.1 fun h3=>by rw [hb.2 h3] at h;cases h);refine VS [2] ?_;refine VC_ret (VX_ret1 rfl rfl ⟨rfl,?_⟩);rw [if_pos hb1]
theorem Qzx (l:List Nat) (hl:l.length<=1000000) (hx:∀ x∈l,x<=1000000) (a:Option Addr) (lc:Nat) (w:World) (hr:RS w a l.length 1 (Qak l)) :
  Does Yi 113 #[.slice a l.length lc] w fun v w'=>w'=w/\v=.int .i64 (if okLB l=true then 0 else 80):=by
 have hc:=QD3 l hl hx a lc w hr;refine En [.slice a l.length lc] 6 Tryz.func113 ?_;refine VS [0] ?_;refine VQ [5] fun K hK=>?_;refine MemK_call Tryz.call140 ?_;refine Qs ?_;refine Ym hc ?_;rintro v w2 ⟨rfl,rfl⟩;(try refine Qs ?_);apply hK;clear hK;refine VD (fun h=>?_) (fun h=>VC_skip ?_)
 ·
  refine VS [2] ?_;refine VC_ret (VX_ret1 rfl rfl ⟨rfl,?_⟩);by_cases hb:okLB l=true
  ·
   rw [if_pos hb] at h;omega
  rw [if_neg hb]
 refine VS [2] ?_;refine VC_ret (VX_ret1 rfl rfl ⟨rfl,?_⟩);by_cases hb:okLB l=true
 ·
  rw [if_pos hb]
 rw [if_neg hb] at h;omega
def wr (g:Nat) (a:Option Addr) (cap:Nat) (l:List Bool):Res :=
 Res.pair (Yr g 77 [.slice a (Qbo l).length cap,.int .i64 l.length]) (Yo 5 1 a (Qbo l).length cap (Qar (Qbo l)))
theorem Qds (w:World):Does Yi 12 #[] w fun v w'=>∃ g,Heap w [] w' [wr g none 0 []]/\v=.pointer (some ⟨g,0,none⟩):=by
 refine En [] 3 Tryz.func12 ?_;refine VS [] ?_;refine VQ [0] fun K hK=>?_;refine Qch ?_;refine Qs ?_;have hH:=(Qj8 (w:=w) (E:=5) (sz:=1)).box 77 [.slice none 0 0,.int .i64 0];generalize w.alloc (Yu [Us none 0 0,.int .i64 0].toArray 77)=w1 at *;apply hK;clear hK;refine VC_ret (VX_ret1 rfl rfl ?_);exact ⟨_,hH.pair,rfl⟩
theorem Qde (g:Nat) (a:Option Addr) (cap:Nat) (l:List Bool) (v:Nat) (n:Nat) (w:World) (hn:n<=64) (hv:v < 2 ^ n) (hl:l.length<=100000000000000)
  (hL:Heap w (wr g a cap l).foot w [wr g a cap l]):Does Yi 13 #[.pointer (some ⟨g,0,none⟩),.int .u64 v,.int .i64 n] w fun x w'=>∃ a' cap',Heap w (wr g a cap l).foot w' [wr g a' cap' (l++Qas n v)]/\x=.int .i64 0:=by
 have hv64:v < 18446744073709551616:=Gv hv (Yt (n:=2) (by omega) hn);have hdiv:v / 2 ^ n=0:=Nat.div_eq_of_lt hv;refine En [.pointer (some ⟨g,0,none⟩),.int .u64 v,.int .i64 n] 81 Tryz.func13 ?_;refine VS [0,1,2] ?_;refine VS [0,1,2,9] ?_;refine Qaf rfl rfl (fun h=>by cases h) (fun h=>VC_skip ?_);refine VQ [0,1,2,26] fun K hK=>?_
 have hsh:shN Gh ((n:Int) % 18446744073709551616)=n:=by
  rw [Uz (by omega) (by omega),shN,show IntKind.u64.bits=64 from rfl];omega
 have hdv:(v:Int) / 2 ^ n=0:=by
  have e:((2:Int) ^ n)=((2 ^ n:Nat):Int):=by push_cast;rfl
  rw [e,<- Int.natCast_ediv,hdiv];rfl
 rw [hsh,hdv]
 suffices out:∀ b:Bool,(b=true ↔ False)->K [(0,.pointer (some ⟨g,0,none⟩)),(1,.int .u64 v),(2,.int .i64 n),(26,.bool b)] w by (repeat' (first | exact out _ _ (by first | omega | (simp;done) | (simp;omega)) | exact out _ (by first | omega | (simp;done) | (simp;omega)) | refine ⟨fun _=>?_,fun _=>?_⟩ | refine Qo ?_))
 intro b hb;apply hK;clear hK;refine Qaf rfl rfl (fun h=>(hb.1 h).elim) (fun h=>VC_skip ?_);refine VS [0,1,7] ?_;refine VB ?_;refine Qad [0,1,7] (fun m e w'=>∃ (k:Nat) (i:Int) (a':Option Addr) (cap':Nat),Is e [(0,.pointer (some ⟨g,0,none⟩)),(1,.int .u64 v),(7,.int .i64 i)]/\Heap w (wr g a cap l).foot w' [wr g a' cap' (l++(Qas n v).take k)]/\k<=n/\i=(n:Int) - 1 - k/\m=n - k) n ?_ ?_
 ·
  refine Qs ?_;exact ⟨0,_,a,cap,rfl,by simpa using hL,by omega,by omega,rfl⟩
 rintro m e w1 ⟨k,i,a1,cap1,rfl,hH,hk,hi,rfl⟩;refine VS [0,1,7,30] ?_;refine VD (fun h=>?_) (fun h=>?_)
 ·
  refine VC_skip ?_;refine VB ?_;have htk:=Qpl n v k (by omega);have hlen:(l++(Qas n v).take k).length=l.length+k:=by rw [Ye,Ys,Qan];omega
  generalize hl1:l++(Qas n v).take k=l1 at *;have htl:=Qci l1;have hH1:=hH.unpair;refine VQ [0,1,7,38] fun K hK=>?_;(repeat first | refine Qo ?_ | refine Qp ?_ | (refine Gc hH1 ?_;(try refine Qs ?_)));apply hK;clear hK;(repeat refine Qax ?_);refine Qdl [0,1,7] (fun e w'=>∃ a2 cap2,Is e [(0,.pointer (some ⟨g,0,none⟩)),(1,.int .u64 v),(7,.int .i64 i)]/\Heap w (wr g a cap l).foot w' [Yo 5 1 a2 (Qbo (l1++[false])).length cap2 (Qar (Qbo (l1++[false]))),Yr g 77 [.slice a2 (Qbo (l1++[false])).length cap2,.int .i64 l1.length]]) ?_ ?_
  ·
   refine VD (fun h=>?_) (fun h=>VC_skip ?_)
   ·
    have e1:Qbo (l1++[false])=Qbo l1++[0]:=by rw [Qpk,if_pos (by omega)]
    refine VQ [0,1,7] fun K hK=>?_;(repeat first | refine Qo ?_ | refine Qp ?_ | (refine Gc hH1 ?_;(try refine Qs ?_)));refine Qcd (xs:=[.const (.int .u8 0)]) Yv sz5 rfl rfl rfl (by omega) ?_;refine Qs ?_;refine ⟨by simp [Y3],?_⟩;refine Qai ?_;refine Qs ?_;refine Qg9 hH1 1 (0) rfl Yv zi5 (by first | rfl | (simp;done) | omega) (fun h=>by (first | omega | (simp;done) | (simp;omega))) fun a' cap' w5 hc' hH2=>?_;(try refine Qs ?_);rw [<- e1] at hH2 ⊢;refine Qaa ?_;refine Qs ?_;refine Qae hH2 0 (vs:=[.slice a' (Qbo (l1++[false])).length cap']) rfl rfl (by kernel_rfl) (by first | decide | (simp;done) | (simp;omega)) (by simp [Yq]) fun w6 hH3=>?_;(try refine Qs ?_);apply hK;clear hK;refine Qab ?_;refine Qs ?_;exact ⟨_,_,rfl,hH3.perm (List.Perm.swap _ _ _)⟩
   have e1:Qbo (l1++[false])=Qbo l1:=by rw [Qpk,if_neg (by omega)]
   rw [e1];refine Qab ?_;refine Qs ?_;exact ⟨_,_,rfl,hH1.perm (List.Perm.swap _ _ _)⟩
  clear hH hH1;rintro e w2 ⟨a2,cap2,rfl,hH⟩;generalize hb:v.testBit (n - 1 - k)=b at htk;have hi2:i=((n - 1 - k:Nat):Int):=by omega
  have hsh2:shN Gh (i % 18446744073709551616)=n - 1 - k:=by
   rw [hi2,Uz (by omega) (by omega),shN,show IntKind.u64.bits=64 from rfl];omega
  have hsh3:(v:Int) / 2 ^ (n - 1 - k)=((v / 2 ^ (n - 1 - k):Nat):Int):=by
   rw [Int.natCast_ediv];push_cast;rfl
  have hle:v / 2 ^ (n - 1 - k)<=v:=Gf _ _;have hbit:=Qhe v (n - 1 - k);rw [hb] at hbit;refine VQ [0,1,7,53] fun K hK=>?_;rw [hsh2,hsh3];clear hsh3;generalize v / 2 ^ (n - 1 - k)=q at *;(repeat first | refine Qo ?_ | refine Qp ?_ | (refine Gc hH ?_;(try refine Qs ?_)));rw [show X6 1=1 from rfl,Y8,Gw,hbit];apply hK;clear hK;(repeat refine Qax ?_);refine Qdl [0,1,7] (fun e w'=>Is e [(0,.pointer (some ⟨g,0,none⟩)),(1,.int .u64 v),(7,.int .i64 i)]/\Heap w (wr g a cap l).foot w' [Yo 5 1 a2 (Qbo (l1++[b])).length cap2 (Qar (Qbo (l1++[b]))),Yr g 77 [.slice a2 (Qbo (l1++[b])).length cap2,.int .i64 l1.length]]) ?_ ?_
  ·
   cases b with
   | false =>
    refine Qaf rfl rfl (fun h=>by simp at h) (fun h=>VC_skip ?_);refine Qab ?_;refine Qs ?_;exact ⟨rfl,hH⟩
   | true =>
    refine Qaf rfl rfl (fun h=>?_) (fun h=>by simp at h);have hol:(Qbo (l1++[false])).length=(l1.length+8) / 8:=by rw [Qci,Ye];rfl
    have hlen2:(Qbo (l1++[true])).length=(Qbo (l1++[false])).length:=by rw [Qci,Qci];simp
    have htrue:=QDy l1;generalize Qbo (l1++[true])=o2 at *;generalize Qbo (l1++[false])=o at *;obtain ⟨ga,rfl⟩:=Qc1 (hH.at 0 rfl) (by omega);have hsh4:shN G8 (((l1.length:Int) % 8) % 18446744073709551616)=l1.length % 8:=Qtk (by omega) (by simp [Uh];omega) (by decide);refine VL [0,1,7] 20 fun K hK=>?_;(repeat first | refine Qo ?_ | refine Qp ?_ | (refine Gc hH ?_;(try refine Qs ?_)));have e1:((l1.length:Int) / 8).toNat=l1.length / 8:=by omega
    rw [hsh4,e1,show (128:Int) / 2 ^ (l1.length % 8)=((128 / 2 ^ (l1.length % 8):Nat):Int) from Qgs 128 _];have hm128:128 / 2 ^ (l1.length % 8)<=128:=Gf _ _;have hx256:=(o.getD (l1.length / 8) 0).toNat_lt;generalize hmm:128 / 2 ^ (l1.length % 8)=mm at *
    have hy:(Xj ((o.getD (l1.length / 8) 0).toNat ||| mm)).toNat=(o.getD (l1.length / 8) 0).toNat ||| mm :=
     ofNat_toNat (Nat.or_lt_two_pow (n:=8) hx256 (by omega))
    have ho2:=htrue _ hy;rw [Y8,<- hy];generalize (Xj ((o.getD (l1.length / 8) 0).toNat ||| mm))=y at *;refine ⟨⟨by omega,by omega⟩,⟨by omega,by omega⟩,⟨by omega,by omega⟩,?_⟩;refine Qaa ?_;refine Qs ?_;refine Qaz hH 0 (o:=(l1.length / 8)) (vs:=[.int .u8 y.toNat]) rfl (by first | exact (Qbg _ _ _).symm | rfl | simp [Qbg]) rfl (by kernel_rfl) (by first | omega | (simp;done) | (simp;omega) | (simp [Qar,Qat];omega) | (rw [natsV_len];simp;omega)) (by simp [Yq]) fun w6 hH2=>?_;(try refine Qs ?_);simp only [Yk,Qcb (Qar o) _ _ (show l1.length / 8 < (Qar o).length by rw [Qf5];omega),Qj7,<- ho2,Yd] at hH2;apply hK;clear hK;refine Qab ?_;refine Qs ?_;rw [hlen2];exact ⟨rfl,hH2⟩
  clear hH;rintro e w3 ⟨rfl,hH⟩;refine VQ [0,1,7] fun K hK=>?_;(repeat first | refine Qo ?_ | refine Qp ?_ | (refine Gc hH ?_;(try refine Qs ?_)));refine Qaa ?_;refine Qs ?_;refine Qae hH 1 (vs:=[.int .i64 (l1.length+1)]) rfl rfl (by kernel_rfl) (by first | decide | (simp;done) | (simp;omega)) (by simp [Yq]) fun w6 hH2=>?_;(try refine Qs ?_);apply hK;clear hK;refine Qaj ?_;refine VS [0,1,7] ?_;refine Qab ?_;refine Qs ?_;refine ⟨n - (k+1),by omega,k+1,i - 1,a2,cap2,rfl,?_,by omega,by omega,rfl⟩;rw [htk,<- Yg,hl1];have hH3:=(hH2.perm (List.Perm.swap _ _ _)).pair;have e:wr g a2 cap2 (l1++[b])=Res.pair (Yr g 77 [.slice a2 (Qbo (l1++[b])).length cap2,.int .i64 (l1.length+1)]) (Yo 5 1 a2 (Qbo (l1++[b])).length cap2 (Qar (Qbo (l1++[b])))):=by simp [wr]
  rw [e];exact hH3
 refine Qag rfl ?_;refine VS [6] ?_;refine VC_ret (VX_ret1 rfl rfl ?_);have e:(Qas n v).take k=Qas n v:=Yh (by rw [Qan];omega);rw [e] at hH;exact ⟨_,_,hH,rfl⟩
theorem Qgi (g:Nat) (a:Option Addr) (cap:Nat) (l:List Bool) (w:World) (hL:(wr g a cap l).holds w) :
  Does Yi 16 #[.pointer (some ⟨g,0,none⟩)] w fun x w'=>w'=w/\x=Str (Qbo l):=by
 obtain ⟨h1,h2,_⟩:=hL;refine En [.pointer (some ⟨g,0,none⟩)] 10 Tryz.func16 ?_;refine VS [0] ?_;refine VS [0,4] ?_;refine Qaf rfl rfl (fun h=>by cases h) (fun h=>VC_skip ?_);refine VQ [2] fun K hK=>?_;refine ⟨_,Qah h1 rfl,?_⟩;refine Qs ?_;refine ⟨_,Qgr (Qaq h2),?_⟩;apply hK;clear hK;exact VC_ret (VX_ret1 rfl rfl ⟨rfl,rfl⟩)
theorem Qgv (g:Nat) (a:Option Addr) (cap:Nat) (l:List Bool) (w:World) (hL:(wr g a cap l).holds w) :
  Does Yi 17 #[.pointer (some ⟨g,0,none⟩)] w fun x w'=>w'=w/\x=.int .i64 l.length:=by
 obtain ⟨h1,h2,_⟩:=hL;refine En [.pointer (some ⟨g,0,none⟩)] 9 Tryz.func17 ?_;refine VS [0] ?_;refine VS [0,4] ?_;refine Qaf rfl rfl (fun h=>by cases h) (fun h=>VC_skip ?_);refine VQ [2] fun K hK=>?_;refine ⟨_,Qah h1 rfl,?_⟩;apply hK;clear hK;exact VC_ret (VX_ret1 rfl rfl ⟨rfl,rfl⟩)
def rd (g gs:Nat) (s:List UInt8) (at_:Nat):Res :=
 Res.pair (Yr g 112 [.func (.func 70) #[] #[.pointer (some ⟨gs,0,none⟩)],.int .i64 at_,.int .i64 (8 * s.length:Nat)]) (Yr gs 9 [Str s])
theorem QBt (s:List UInt8) (gs i:Nat) (w:World) (hi:i < 8 * s.length) (hs:s.length<=1000000000000000000) (hc:w.cell? ⟨gs,0,none⟩=some (Str s)) :
  Does Yi 70 #[.int .i64 i,.pointer (some ⟨gs,0,none⟩)] w fun x w'=>w'=w/\x=.int .u64 ((Qap s).getD i false).toNat:=by
 have hb:=Qka s i hi;have hlt:=(s.getD (i / 8) 0).toNat_lt;have e1:((i:Int) / 8).toNat=i / 8:=by omega
 have hsh:shN Gh ((7 - (i:Int) % 8) % 18446744073709551616)=7 - i % 8:=Qtk (by omega) (by simp [Uh];omega) (by decide);have hbit:=Qhe (s.getD (i / 8) 0).toNat (7 - i % 8);refine En [.int .i64 i,.pointer (some ⟨gs,0,none⟩)] 15 Tryz.func70 ?_;refine VS [0,1] ?_;refine VQ [3] fun K hK=>?_;refine ⟨_,hc,?_⟩;refine Qs ?_;(repeat first | refine Qo ?_ | refine Qp ?_);rw [hsh,e1,Uz (by omega) (by omega),Qgs];have hle:=Gf (s.getD (i / 8) 0).toNat (2 ^ (7 - i % 8));generalize (s.getD (i / 8) 0).toNat / 2 ^ (7 - i % 8)=q at *;(repeat first | refine Qo ?_ | refine Qp ?_);rw [show X6 1=1 from rfl,Y8,Gw,hbit];apply hK;clear hK;have hb2:(Qap s).getD i false=(s.getD (i / 8) 0).toNat.testBit (7 - i % 8):=by rw [Yb,hb];rfl
 rw [hb2];exact VC_ret (VX_ret1 rfl rfl ⟨rfl,rfl⟩)
theorem Qdt (s:List UInt8) (at_:Int) (w:World) (ha:I64 at_) (hs:s.length<=1000000000000000000) :
  Does Yi 40 #[Str s,.int .i64 at_] w fun v w' =>
   ((at_ < 0∨8 * (s.length:Int) < at_)/\Heap w [] w' []/\v=.pointer none)∨(¬ (at_ < 0∨8 * (s.length:Int) < at_)/\∃ g gs,Heap w [] w' [rd g gs s at_.toNat]/\v=.pointer (some ⟨g,0,none⟩)):=by
 obtain ⟨ha1,ha2⟩:=ha;refine En [Str s,.int .i64 at_] 21 Tryz.func40 ?_;refine VQ [1,2] fun K hK=>?_;refine Qch ?_;refine Qs ?_;have hH:=(Y2 w).box 9 [Str s];generalize w.alloc (Yu [Str s].toArray 9)=w1 at *;generalize w.heap.size=gs at *;apply hK;clear hK;refine VQ [1,2,13] fun K hK=>?_
 suffices out:∀ b:Bool,(b=true ↔ at_ < 0∨8 * (s.length:Int) < at_)->K [(1,.int .i64 at_),(2,.pointer (some ⟨gs,0,none⟩)),(13,.bool b)] w1 by
  refine ⟨fun h=>⟨_,Qah (hH.at 0 rfl) rfl,?_⟩,fun h=>out _ (by simp [h])⟩;refine Qs ?_;(repeat' (first | exact out _ _ (by first | omega | (simp;done) | (simp;omega)) | exact out _ (by first | omega | (simp;done) | (simp;omega)) | refine ⟨fun _=>?_,fun _=>?_⟩ | refine Qo ?_))
 intro b hb;apply hK;clear hK;refine Vi (fun h=>?_) (fun h=>VC_skip ?_)
 ·
  refine VS [4] ?_;exact VC_ret (VX_ret1 rfl rfl (.inl ⟨hb.1 h,hH.sub (by simp),rfl⟩))
 have hg:¬ (at_ < 0∨8 * (s.length:Int) < at_):=fun h'=>by rw [hb.2 h'] at h;cases h
 clear h hb;obtain ⟨at_,rfl⟩:∃ n:Nat,at_=n:=⟨at_.toNat,by omega⟩;refine VQ [4] fun K hK=>?_;(repeat first | refine Qo ?_ | refine Qp ?_ | (refine Gc hH ?_;(try refine Qs ?_)));refine Qch ?_;refine Qs ?_;have hH2:=hH.box 112 [.func (.func 70) #[] #[.pointer (some ⟨gs,0,none⟩)],.int .i64 at_,.int .i64 (8 * s.length:Nat)];apply hK;clear hK;refine VC_ret (VX_ret1 rfl rfl (.inr ⟨hg,_,gs,?_,rfl⟩));exact hH2.pair
theorem Qpr (g gs at_:Nat) (s:List UInt8) (w:World) (hL:(rd g gs s at_).holds w) :
  Does Yi 118 #[.pointer (some ⟨g,0,none⟩)] w fun x w'=>w'=w/\x=.int .i64 at_:=by
 obtain ⟨h1,h2,_⟩:=hL;refine En [.pointer (some ⟨g,0,none⟩)] 9 Tryz.func118 ?_;refine VS [0] ?_;refine VS [0,4] ?_;refine Qaf rfl rfl (fun h=>by cases h) (fun h=>VC_skip ?_);refine VQ [2] fun K hK=>?_;refine ⟨_,Qah h1 rfl,?_⟩;apply hK;clear hK;exact VC_ret (VX_ret1 rfl rfl ⟨rfl,rfl⟩)
theorem Qex (g gs:Nat) (s:List UInt8) (at_ n:Nat) (w:World) (hn:n<=64) (ha:at_<=8 * s.length) (hs:s.length<=1000000000000000)
  (hL:Heap w (rd g gs s at_).foot w [rd g gs s at_]):Does Yi 41 #[.pointer (some ⟨g,0,none⟩),.int .i64 n] w fun x w' =>
   (8 * s.length < at_+n/\w'=w/\x=.tuple #[.int .u64 0,.int .i64 10])∨(at_+n<=8 * s.length/\Heap w (rd g gs s at_).foot w' [rd g gs s (at_+n)]/\x=.tuple #[.int .u64 (numB (((Qap s).drop at_).take n)),.int .i64 0]):=by
 have hH:=hL.unpair;have hbl:=Qaw s;refine En [.pointer (some ⟨g,0,none⟩),.int .i64 n] 62 Tryz.func41 ?_;refine VS [0,1] ?_;refine VQ [0,1,16] fun K hK=>?_;refine ⟨_,Qah (hH.at 0 rfl) rfl,?_⟩;refine Qs ?_;apply hK;clear hK;refine Qaf rfl rfl (fun h=>by cases h) (fun h=>VC_skip ?_);refine VQ [0,1,22] fun K hK=>?_
 suffices out:∀ b:Bool,(b=true ↔ False)->K [(0,.pointer (some ⟨g,0,none⟩)),(1,.int .i64 n),(22,.bool b)] w by (repeat' (first | exact out _ _ (by first | omega | (simp;done) | (simp;omega)) | exact out _ (by first | omega | (simp;done) | (simp;omega)) | refine ⟨fun _=>?_,fun _=>?_⟩ | refine Qo ?_))
 intro b hb;apply hK;clear hK;refine Qaf rfl rfl (fun h=>(hb.1 h).elim) (fun h=>VC_skip ?_);clear hb h;refine Vq [0,1,33] fun K hK=>?_;(repeat first | refine Qo ?_ | refine Qp ?_ | (refine Gc hH ?_;(try refine Qs ?_)));apply hK;clear hK;refine VD (fun h=>?_) (fun h=>VC_skip ?_)
 ·
  refine VS [4,5] ?_;exact VC_ret (Qav rfl rfl rfl (.inl ⟨by omega,rfl,rfl⟩))
 refine VS [0,1,6] ?_;refine VS [0,1,6,34,35] ?_;refine VB ?_;refine Qad [0,1,6,34,35] (fun m e w'=>∃ (k:Nat),Is e [(0,.pointer (some ⟨g,0,none⟩)),(1,.int .i64 n),(6,.int .u64 (numB (((Qap s).drop at_).take k))),(34,.int .i64 n),(35,.int .i64 k)]/\Is w' w/\k<=n/\m=n - k) n ?_ ?_
 ·
  refine Qs ?_;exact ⟨0,rfl,rfl,by omega,rfl⟩
 rintro m e w' ⟨k,rfl,rfl,hk,rfl⟩;refine VS [0,1,6,34,35,36] ?_;(repeat refine Qax ?_);refine VD (fun h=>?_) (fun h=>?_)
 ·
  refine VC_skip ?_;refine VB ?_;have hlt:=Qes (((Qap s).drop at_).take k);rw [Ys,Y5,Nat.min_eq_left (by omega)] at hlt;have h63:numB (((Qap s).drop at_).take k) < 2 ^ 63:=Gv hlt (Yt (by omega) (by omega));have htk:=Qb2 false (l:=(Qap s).drop at_) (i:=k) (by simp;omega);have hnext:=Qpj (((Qap s).drop at_).take k) (((Qap s).drop at_).getD k false);rw [<- htk] at hnext;have hgd:((Qap s).drop at_).getD k false=(Qap s).getD (at_+k) false:=by simp [Yb]
  rw [hgd] at hnext;refine VS [0,1,6,7,34,35] ?_;refine VH w' (Ext.refl _) [0,1,6,34,35] [(0,true),(1,true),(2,true),(3,true),(4,true),(5,true),(6,true),(7,true),(8,true),(9,true),(10,true),(11,true),(12,false),(13,true),(14,true)] fun K hK=>?_;(repeat first | refine Qo ?_ | refine Qp ?_ | (refine Gc hH ?_;(try refine Qs ?_)));have hbd:=QBt s gs (at_+k) w' (by omega) (by omega) (Qah (hH.at 1 rfl) rfl);rw [Int.natCast_add] at hbd;refine Qbp ?_;refine Qs ?_;refine Gx Tryz.call70 hbd ?_;rintro v w3 ⟨rfl,rfl⟩;refine Qs ?_;refine ⟨Ext.refl _,?_⟩;rw [show shN Gh 1=1 from rfl];generalize (Qap s).getD (at_+k) false=b at *
  have hor:numB (((Qap s).drop at_).take k) * 2 ||| b.toNat=2 * numB (((Qap s).drop at_).take k)+b.toNat:=by
   rw [U9];cases b
   ·
    simp
   exact (Ux (i:=1) (b:=1) (by omega) _).symm
  rw [G3] at htk;generalize numB (((Qap s).drop at_).take k)=q at *;have e1:(q:Int) * 2 ^ 1 % 18446744073709551616=((q * 2:Nat):Int):=by omega
  rw [e1];refine ⟨⟨by omega,by omega⟩,⟨by cases b <;> simp,by cases b <;> simp⟩,?_⟩;simp only [Y8];rw [hor,<- hnext];apply hK;clear hK;refine Qaj ?_;refine VS [0,1,6,34,35] ?_;refine Qab ?_;refine Qs ?_;exact ⟨n - (k+1),by omega,k+1,rfl,rfl,by omega,rfl⟩
 refine Qag rfl ?_;refine VQ [6] fun K hK=>?_;(repeat first | refine Qo ?_ | refine Qp ?_ | (refine Gc hH ?_;(try refine Qs ?_)));have hkn:k=n:=by omega
 subst hkn;refine Qaa ?_;refine Qs ?_;refine Qae hH 0 (vs:=[.int .i64 (at_+k:Nat)]) rfl rfl (by kernel_rfl) (by first | decide | (simp;done) | (simp;omega)) (by simp [Yq]) fun w6 hH2=>?_;(try refine Qs ?_);apply hK;clear hK;refine VS [4,5] ?_;exact VC_ret (Qav rfl rfl rfl (.inr ⟨by omega,hH2.pair,rfl⟩))
theorem QD4 (g gs:Nat) (s:List UInt8) (at_ most:Nat) (w:World) (hm:most<=1000) (ha:at_<=8 * s.length) (hs:s.length<=1000000000000000)
  (hL:Heap w (rd g gs s at_).foot w [rd g gs s at_]):Does Yi 119 #[.pointer (some ⟨g,0,none⟩),.int .i64 most] w fun x w' =>
   x=.tuple #[.int .i64 (unS ((Qap s).drop at_) most 0).1,.int .i64 (unS ((Qap s).drop at_) most 0).2]/\(((unS ((Qap s).drop at_) most 0).2≠0/\w'=w)∨((unS ((Qap s).drop at_) most 0).2=0/\at_+(unS ((Qap s).drop at_) most 0).1+1<=8 * s.length/\(unS ((Qap s).drop at_) most 0).1<=most/\Heap w (rd g gs s at_).foot w' [rd g gs s (at_+(unS ((Qap s).drop at_) most 0).1+1)])):=by
 have hH:=hL.unpair;have hbl:=Qaw s;refine En [.pointer (some ⟨g,0,none⟩),.int .i64 most] 56 Tryz.func119 ?_;refine VS [0,1] ?_;refine VQ [0,1,15] fun K hK=>?_;refine ⟨_,Qah (hH.at 0 rfl) rfl,?_⟩;refine Qs ?_;apply hK;clear hK;refine Qaf rfl rfl (fun h=>by cases h) (fun h=>VC_skip ?_);refine VS [0,1,17] ?_;refine Qaf rfl rfl (fun h=>by simp at h;omega) (fun h=>VC_skip ?_);refine VS [0,1,6] ?_;refine VB ?_;generalize hu:unS ((Qap s).drop at_) most 0=u at *;refine Qad [0,1,6] (fun m e w'=>∃ (k:Nat),Is e [(0,.pointer (some ⟨g,0,none⟩)),(1,.int .i64 most),(6,.int .i64 k)]/\Is w' w/\k<=most/\at_+k<=8 * s.length/\unS ((Qap s).drop (at_+k)) most k=u/\m=8 * s.length - (at_+k)) (8 * s.length - at_) ?_ ?_
 ·
  refine Qs ?_;exact ⟨0,rfl,rfl,by omega,by omega,hu,rfl⟩
 rintro m e w' ⟨k,rfl,rfl,hk,hk2,hk3,rfl⟩;refine Vq [0,1,6,28] fun K hK=>?_;(repeat first | refine Qo ?_ | refine Qp ?_ | (refine Gc hH ?_;(try refine Qs ?_)));apply hK;clear hK;refine VD (fun h=>?_) (fun h=>?_)
 ·
  refine VC_skip ?_;refine VB ?_;have hdr:=drop_getD false (l:=Qap s) (i:=at_+k) (by omega);rw [hdr] at hk3;have hbd:=QBt s gs (at_+k) w' (by omega) (by omega) (Qah (hH.at 1 rfl) rfl);rw [Int.natCast_add] at hbd;refine VL [0,1,6,42] 10 fun K hK=>?_;(repeat first | refine Qo ?_ | refine Qp ?_ | (refine Gc hH ?_;(try refine Qs ?_)));refine Qbp ?_;refine Qs ?_;refine Gx Tryz.call70 hbd ?_;rintro v w3 ⟨rfl,rfl⟩;refine Qs ?_;apply hK;clear hK;generalize (Qap s).getD (at_+k) false=b at *;cases b with
  | false =>
   refine Qaf rfl rfl (fun h=>?_) (fun h=>by simp at h);rw [unS] at hk3;subst hk3;refine VQ [6] fun K hK=>?_;(repeat first | refine Qo ?_ | refine Qp ?_ | (refine Gc hH ?_;(try refine Qs ?_)));refine Qaa ?_;refine Qs ?_;refine Qae hH 0 (vs:=[.int .i64 (at_+k+1:Nat)]) rfl rfl (by kernel_rfl) (by first | decide | (simp;done) | (simp;omega)) (by simp [Yq]) fun w6 hH2=>?_;(try refine Qs ?_);apply hK;clear hK;refine VS [4,5] ?_;exact VC_ret (Qav rfl rfl rfl ⟨rfl,.inr ⟨rfl,by simp only;omega,hk,hH2.pair⟩⟩)
  | true =>
   refine Qaf rfl rfl (fun h=>by simp at h) (fun h=>VC_skip ?_);rw [unS] at hk3;refine VS [0,1,6,55] ?_;refine VD (fun h=>?_) (fun h=>VC_skip ?_)
   ·
    rw [if_pos (by omega)] at hk3;subst hk3;refine VS [4,5] ?_;exact VC_ret (Qav rfl rfl rfl ⟨rfl,.inl ⟨by simp,rfl⟩⟩)
   rw [if_neg (by omega)] at hk3;refine Qaj ?_;refine VS [0,1,6] ?_;refine Qab ?_;refine Qs ?_;exact ⟨8 * s.length - (at_+(k+1)),by omega,k+1,rfl,rfl,by omega,by omega,hk3,rfl⟩
 refine Qag rfl ?_;rw [Yy (by omega),unS] at hk3;subst hk3;refine VS [4,5] ?_;exact VC_ret (Qav rfl rfl rfl ⟨rfl,.inl ⟨by simp,rfl⟩⟩)
def Qa7 (l:List Bool):List Value:=[Str (Qbo l),.int .i64 l.length]
def Qk8 (l:List Bool):Value:=.agg (Qa7 l).toArray
theorem QGm (l:List Bool) (h:l.length % 8≠0):((Qbo l).getD ((Qbo l).length - 1) 0).toNat * 2 ^ (l.length % 8) % 256=0:=by
 have e:l=l.take (8 * (l.length / 8))++l.drop (8 * (l.length / 8)):=(Yw _ _).symm;have h1:(l.take (8 * (l.length / 8))).length % 8=0:=by rw [Ys];omega
 have h2:(l.drop (8 * (l.length / 8))).length=l.length % 8:=by rw [Y5];omega
 have h3:Qbo l=Qbo (l.take (8 * (l.length / 8)))++Qbo (l.drop (8 * (l.length / 8))):=by
  conv=>lhs;rw [e]
  exact Qlv _ _ h1
 generalize l.drop (8 * (l.length / 8))=m at *;generalize l.take (8 * (l.length / 8))=q at *;have h4:(Qbo m).length=1:=by rw [Qci,h2];omega
 have h5:=Qdk m
 match hm:Qbo m,h4 with
 | [x],_ =>
  rw [h3,hm];have:((Qbo q++[x]).getD ((Qbo q++[x]).length - 1) 0)=x:=by simp [Yb]
  rw [this];rw [hm,Qd8,Qj9,Yl] at h5;have h6:=congrArg numB h5;rw [Qdz,Qpi,Xc] at h6
  have hz:numB (Ya (8 * ((m.length+7) / 8) - m.length) false)=0:=by
   rw [<- Qmy,Qdz,Nat.zero_mod]
  rw [hz,h2,U3 x.toNat_lt,Ga,show 8 * ((l.length % 8+7) / 8) - l.length % 8=8 - l.length % 8 by omega] at h6;rw [h6,Nat.mul_assoc,<- Nat.pow_add,show 8 - l.length % 8+l.length % 8=8 by omega];exact Nat.mul_mod_left _ _
theorem QKf (l:List Bool) (w:World) (hl:l.length<=1000000000000000000):Does Yi 39 #[Qk8 l] w fun x w'=>Heap w [] w' []/\x=.bool true:=by
 have htl:=Qci l;refine En [Qk8 l] 40 Tryz.func39 ?_;refine VQ [1] fun K hK=>?_;refine Qch ?_;refine Qs ?_;have hH:=(Y2 w).box 33 (Qa7 l);rw [Qk8];refine Qs ?_;generalize w.alloc (Yu (Qa7 l).toArray 33)=w1 at *;apply hK;clear hK;generalize w.heap.size=g at *;refine VQ [1,20] fun K hK=>?_;(repeat first | refine Qo ?_ | refine Qp ?_ | (refine Gc hH ?_;(try refine Qs ?_)))
 suffices out:∀ b:Bool,(b=true ↔ False)->K [(1,.pointer (some ⟨g,0,none⟩)),(20,.bool b)] w1 by
  refine ⟨fun _=>?_,fun h=>absurd h (by omega)⟩;(repeat first | refine Qo ?_ | refine Qp ?_ | (refine Gc hH ?_;(try refine Qs ?_)));exact out _ (by simp;omega)
 intro b hb;apply hK;clear hK;refine Qaf rfl rfl (fun h=>(hb.1 h).elim) (fun h=>VC_skip ?_);clear h hb;refine Vq [2] fun K hK=>?_;(repeat first | refine Qo ?_ | refine Qp ?_ | (refine Gc hH ?_;(try refine Qs ?_)))
 suffices out:K [(2,.bool true)] by
  refine ⟨fun h=>?_,fun h=>?_⟩
  ·
   have hlb:=QGm l (by omega);(repeat first | refine Qo ?_ | refine Qp ?_ | (refine Gc hH ?_;(try refine Qs ?_)));have hsh:shN G8 (((l.length:Int) % 8) % 18446744073709551616)=l.length % 8:=Qtk (by omega) (by simp [Uh];omega) (by decide);rw [hsh,Qof,show (((Qbo l).getD ((Qbo l).length - 1) 0).toNat * 2 ^ (l.length % 8):Nat)=_ from rfl];have e:((((Qbo l).getD ((Qbo l).length - 1) 0).toNat * 2 ^ (l.length % 8):Nat):Int) % 256=0:=by omega
   rw [e];exact out
  exact out
 apply hK;clear hK;exact VC_ret (VX_ret1 rfl rfl ⟨hH.sub (by simp),rfl⟩)
def Qdd (ls:List (List Bool)):List Value:=ls.flatMap Qa7
theorem Qzy (ls:List (List Bool)):∀ (i:Nat) (l:List Bool),ls[i]? = some l->∀ j u,(Qa7 l)[j]? = some u->(Qdd ls)[i * 2+j]? = some u:=by
 induction ls with
 | nil=>intro i l h;simp at h
 | cons x ls ih =>
  intro i l h j u hu;have hj:j < 2:=by have:=(Y6.1 hu).1;simpa [Qa7] using this
  cases i with
  | zero =>
   simp at h;subst h;simp only [Qdd,Xq];rw [Xb (by simp [Qa7];omega)];simpa using hu
  | succ i =>
   have:=ih i l (by simpa using h) j u hu;simp only [Qdd,Xq] at this ⊢;rw [Yx (by simp [Qa7];omega)];rw [<- this]
   congr 1
   simp [Qa7];omega
theorem Qps (ls:List (List Bool)) (p:Addr) (hp:p.spot=none) (cap:Nat) (w:World) (hl:RS w (some p) ls.length 2 (Qdd ls)) (hs:ls.flatten.length<=10000000000000) (hls:ls.length<=1000000000) :
  Does Yi 15 #[.slice (some p) ls.length cap] w fun x w'=>Heap w [] w' []/\x=.tuple #[Qk8 ls.flatten,.int .i64 0]:=by
 refine En [.slice (some p) ls.length cap] 43 Tryz.func15 ?_;refine VQ [0,2] fun K hK=>?_;refine Qao (.agg #[.string ⟨#[]⟩,.int .i64 0]) (by kernel_rfl) ?_;refine Qs ?_;have hH:=(Y2 w).box 33 [.string ⟨#[]⟩,.int .i64 0];generalize w.alloc (Yu [Ui ⟨#[]⟩,.int .i64 0].toArray 33)=w1 at *;generalize w.heap.size=gr at *;apply hK;clear hK;refine VQ [0,2,4] fun K hK=>?_;refine MemK_call Gi ?_;refine Qs ?_;refine Ym (Qds w1) ?_;rintro v w2 ⟨gw,hH2,rfl⟩;apply hK;clear hK;have hH3:=hH.call0 hH2;clear hH hH2;refine VS [2,4,11,12,13] ?_;refine VB ?_;refine Qad [2,4,11,12,13] (fun m e w'=>∃ (i:Nat) (a:Option Addr) (c:Nat),Is e [(2,.pointer (some ⟨gr,0,none⟩)),(4,.pointer (some ⟨gw,0,none⟩)),(11,.slice (some p) ls.length cap),(12,.int .i64 ls.length),(13,.int .i64 i)]/\Heap w [] w' [wr gw a c (ls.take i).flatten,Yr gr 33 [.string ⟨#[]⟩,.int .i64 0]]/\i<=ls.length/\m=ls.length - i) ls.length ?_ ?_
 ·
  refine Qs ?_;exact ⟨0,none,0,rfl,hH3,by omega,rfl⟩
 clear hH3;rintro m e w' ⟨i,a,c,rfl,hH,hi,rfl⟩;refine VS [2,4,11,12,13,14] ?_;(repeat refine Qax ?_);refine VD (fun h=>?_) (fun h=>?_)
 ·
  refine VC_skip ?_;refine VB ?_;have hi':i < ls.length:=by omega
  have hli:ls[i]? = some ls[i]:=Yc hi';have htk:(ls.take (i+1)).flatten=(ls.take i).flatten++ls[i]:=by rw [Xf,hli,Option.toList_some,X8,Gb]
  have hfl:(ls.take (i+1)).flatten.length<=ls.flatten.length:=by
   have:ls.flatten=(ls.take (i+1)).flatten++(ls.drop (i+1)).flatten:=by rw [<- X8,Yw]
   rw [this];simp
  rw [htk,Ye] at hfl;generalize hlx:ls[i]=l at *;generalize (ls.take i).flatten=acc at *;have htl:=Qci l;have hrd:=QFz (hH.rs' hl) hp (i * 2) (Qa7 l) (fun j u hu=>Qzy ls i l hli j u hu);refine VQ [2,4,6,11,12,13] fun K hK=>?_;refine ⟨⟨by omega,by omega⟩,Qa7 l,⟨rfl,hrd⟩,?_⟩;refine Qao (.agg #[.string ⟨#[]⟩,.int .i64 0]) (by kernel_rfl) ?_;refine Qs ?_;have hH1:=hH.box 33 [.string ⟨#[]⟩,.int .i64 0];generalize w'.alloc (Yu [Ui ⟨#[]⟩,.int .i64 0].toArray 33)=w1 at *;generalize w'.heap.size=gb at *;refine Qaa ?_;refine Qs ?_;refine Qae hH1 0 (vs:=Qa7 l) rfl rfl (by kernel_rfl) (by simp [Qa7]) (by simp [Qa7,Yq]) fun w2 hH2=>?_;have hH2:Heap w [] w2 [Yr gb 33 (Qa7 l),wr gw a c acc,Yr gr 33 [.string ⟨#[]⟩,.int .i64 0]]:=hH2;clear hH1 hH;apply hK;clear hK;refine VQ [2,4,6,11,12,13,19] fun K hK=>?_;refine ⟨Qa7 l,⟨rfl,Qay (hH2.at 0 rfl)⟩,?_⟩;refine MemK_call Tryz.call39 ?_;refine Qs ?_;refine Ym (QKf l w2 (by omega)) ?_;rintro v w3 ⟨hHm,rfl⟩;refine Qs ?_;apply hK;clear hK;have hH3:=hH2.call0 hHm;clear hH2 hHm;refine Qaf rfl rfl (fun h=>by simp at h) (fun h=>VC_skip ?_);refine VQ [2,4,6,7,11,12,13] fun K hK=>?_;(repeat first | refine Qo ?_ | refine Qp ?_ | (refine Gc hH3 ?_;(try refine Qs ?_)));refine MemK_call G6 ?_;refine Qs ?_;refine Ym (Qdt (Qbo l) 0 w3 (Xu (by omega) (by omega)) (by omega)) ?_;rintro v w4 (⟨hbad,_⟩ | ⟨_,grd,gs,hHr,rfl⟩)
  ·
   exact absurd hbad (by omega)
  apply hK;clear hK;have hH4:=hH3.call0 hHr;clear hH3 hHr;refine VQ [2,4,7,11,12,13,25,26] fun K hK=>?_;(repeat first | refine Qo ?_ | refine Qp ?_ | (refine Gc hH4 ?_;(try refine Qs ?_)));apply hK;clear hK;have hH5:Heap w [] w4 [rd grd gs (Qbo l) 0,wr gw a c acc,Yr gr 33 [.string ⟨#[]⟩,.int .i64 0]]:=hH4.sub (by simp);clear hH4;refine VB ?_;refine Qad [2,4,7,11,12,13,25,26] (fun m e w'=>∃ (k:Nat) (a:Option Addr) (c:Nat),Is e [(2,.pointer (some ⟨gr,0,none⟩)),(4,.pointer (some ⟨gw,0,none⟩)),(7,.pointer (some ⟨grd,0,none⟩)),(11,.slice (some p) ls.length cap),(12,.int .i64 ls.length),(13,.int .i64 i),(25,.int .i64 l.length),(26,.int .i64 k)]/\Heap w [] w' [rd grd gs (Qbo l) k,wr gw a c (acc++l.take k),Yr gr 33 [.string ⟨#[]⟩,.int .i64 0]]/\k<=l.length/\m=l.length - k) l.length ?_ ?_
  ·
   refine Qs ?_;exact ⟨0,a,c,rfl,by simpa using hH5,by omega,rfl⟩
  clear hH5;rintro m e w5 ⟨k,a1,c1,rfl,hH,hk,rfl⟩;refine VS [2,4,7,11,12,13,25,26,27] ?_;(repeat refine Qax ?_);refine VD (fun h=>?_) (fun h=>?_)
  ·
   refine VC_skip ?_;refine VB ?_
   have htb:(Qap (Qbo l)).getD k false=l.getD k false:=by
    rw [Qdk,Yb,Xb (by omega),Yb]
   have hbl:=Qaw (Qbo l)
   have hnum:numB (((Qap (Qbo l)).drop k).take 1)=(l.getD k false).toNat:=by
    rw [drop_getD false (by omega),htb];cases l.getD k false <;> rfl
   refine VQ [2,4,7,8,11,12,13,25,26] fun K hK=>?_;refine MemK_call G7 ?_;refine Qs ?_;refine Ym (Qex grd gs (Qbo l) k 1 w5 (by omega) (by omega) (by omega) (hH.focus 0 rfl)) ?_;rintro v w6 (⟨hbad,_⟩ | ⟨_,hHr,rfl⟩)
   ·
    exact absurd hbad (by omega)
   rw [hnum];apply hK;clear hK;have hH2:=hH.call1 0 rfl hHr;clear hHr hH;have htl2:=Qci (acc++l.take k);have hbt:(l.getD k false).toNat < 2 ^ 1:=by cases l.getD k false <;> simp
   refine VQ [2,4,7,11,12,13,25,26] fun K hK=>?_;refine MemK_call Xr ?_;refine Qs ?_;refine Ym (Qde gw a1 c1 (acc++l.take k) (l.getD k false).toNat 1 w6 (by omega) hbt (by simp;omega) (hH2.focus 1 rfl)) ?_;rintro v w7 ⟨a2,c2,hHw,rfl⟩;apply hK;clear hK;have hH3:=hH2.call1 1 rfl hHw;clear hHw hH2;have hb1:Qas 1 (l.getD k false).toNat=[l.getD k false]:=by cases l.getD k false <;> rfl
   rw [hb1,Yg,<- Qb2 false (show k < l.length by omega)] at hH3;refine Qaj ?_;refine VS [2,4,7,11,12,13,25,26] ?_;refine Qab ?_;refine Qs ?_;exact ⟨l.length - (k+1),by omega,k+1,a2,c2,rfl,hH3,by omega,rfl⟩
  refine Qag rfl ?_;refine Qaj ?_;refine VS [2,4,11,12,13] ?_;refine Qab ?_;refine Qs ?_;rw [Yh (by omega),<- htk] at hH;exact ⟨ls.length - (i+1),by omega,i+1,a1,c1,rfl,hH.sub (by simp),by omega,rfl⟩
 refine Qag rfl ?_;rw [Yh (by omega)] at hH;refine VQ [2,3] fun K hK=>?_;refine MemK_call Gj ?_;refine Qs ?_;refine Ym (Qgi gw a c _ w' (hH.at 0 rfl)) ?_;rintro v w2 ⟨rfl,rfl⟩;refine MemK_call Gk ?_;refine Qs ?_;refine Ym (Qgv gw a c _ w2 (hH.at 0 rfl)) ?_;rintro v w3 ⟨rfl,rfl⟩;refine Qs ?_;refine Qaa ?_;refine Qs ?_;refine Qae hH 1 (vs:=Qa7 ls.flatten) rfl rfl (by kernel_rfl) (by simp [Qa7]) (by simp [Qa7,Yq]) fun w4 hH2=>?_;have hH2:Heap w [] w4 [wr gw a c ls.flatten,Yr gr 33 (Qa7 ls.flatten)]:=hH2;apply hK;clear hK;refine VC_ret (Qdo rfl rfl rfl (Qbw (hH2.at 1 rfl) (by kernel_rfl) (by kernel_rfl) rfl ?_));exact ⟨hH2.sub (by simp),rfl⟩
theorem Qt5 (d:Nat) (b:Bool):(Ya (d+1) [true,b]).flatten=(Ya d [true,b]).flatten++[true,b]:=by
 rw [Gl,X8];simp
def Qid:Nat->List Nat->Nat
 | p,[]=>p
 | _,y::l=>Qid y l
theorem Qjv:∀ (l:List Nat) (p x:Nat),Qcc p (l++[x])=Qcc p l++(Qiu (Qid p l) x++[false])
 | [],p,x=>by simp [Qcc,Qid]
 | y::l,p,x=>by
  rw [Xd,Qcc,Qjv l y x,Qcc,Qid];simp
theorem Qix:∀ (l:List Nat) (p x:Nat),Qid p (l++[x])=x
 | [],p,x=>rfl
 | y::l,p,x=>by rw [Xd,Qid,Qix l y x]
theorem Qpt {lo hi:Nat}:∀ (l:List Nat) (p:Nat),(lo<=p/\p<=hi)->(∀ x∈l,lo<=x/\x<=hi)->lo<=Qid p l/\Qid p l<=hi
 | [],p,hp,_=>hp
 | y::l,p,hp,h=>Qpt l y (h y (by simp)) fun x hx=>h x (by simp [hx])
theorem Qsi (p x:Nat):Qiu p x=(Ya (x - p) [true,false]).flatten++(Ya (p - x) [true,true]).flatten:=by
 unfold Qiu;split
 ·
  rw [show p - x=0 by omega];simp
 rw [show x - p=0 by omega];simp
theorem Qgb:∀ (l:List Nat) (p:Nat),(p<=20)->(∀ x∈l,x<=20)->(Qcc p l).length<=41 * l.length
 | [],p,_,_=>by simp [Qcc]
 | x::l,p,hp,hx=>by
  have h1:=hx x (by simp);have h2:=Qgb l x h1 fun y hy=>hx y (by simp [hy]);have h3:=Qk7 p x;simp only [Qcc,Ye,Y1];omega
theorem Qrd (l:List Nat) (hl:2<=l.length) (hl2:l.length<=258) (hx:∀ x∈l,1<=x/\x<=20) (a:Option Addr) (lc:Nat) (w:World) (hr:RS w a l.length 1 (Qak l)) :
  Does Yi 66 #[.slice a l.length lc] w fun v w'=>Heap w [] w' []/\v=.tuple #[Qk8 (Qce l),.int .i64 0]:=by
 obtain ⟨p,rfl⟩:=Qbj hr (by omega);have hget:∀ i,i < l.length->1<=l.getD i 0/\l.getD i 0<=20:=fun i hi=>hx _ (Qa3 0 hi);refine En [.slice (some p) l.length lc] 71 Tryz.func66 ?_;generalize hn:l.length=n at *;refine VQ [0,2] fun K hK=>?_;refine Qao (.agg #[.string ⟨#[]⟩,.int .i64 0]) (by kernel_rfl) ?_;refine Qs ?_;have hH:=(Y2 w).box 33 [.string ⟨#[]⟩,.int .i64 0];generalize w.alloc (Yu [Ui ⟨#[]⟩,.int .i64 0].toArray 33)=w1 at *;generalize w.heap.size=gr at *;apply hK;clear hK;refine VQ [0,2,17] fun K hK=>?_
 suffices out:∀ b:Bool,(b=true ↔ False)->K [(0,.slice (some p) n lc),(2,.pointer (some ⟨gr,0,none⟩)),(17,.bool b)] w1 by (repeat' (first | exact out _ _ (by first | omega | (simp;done) | (simp;omega)) | exact out _ (by first | omega | (simp;done) | (simp;omega)) | refine ⟨fun _=>?_,fun _=>?_⟩ | refine Qo ?_))
 intro b hb;apply hK;clear hK;refine Qaf rfl rfl (fun h=>(hb.1 h).elim) (fun h=>VC_skip ?_);clear hb h;refine VS [0,2,19,20,21] ?_;refine Qac ?_;refine Qad [0,2,19,20,21] (fun m e w'=>∃ (i:Nat),Is e [(0,.slice (some p) n lc),(2,.pointer (some ⟨gr,0,none⟩)),(19,.slice (some p) n lc),(20,.int .i64 n),(21,.int .i64 i)]/\Is w' w1/\i<=n/\m=n - i) n ?_ ?_
 ·
  refine Qs ?_;exact ⟨0,rfl,rfl,by omega,rfl⟩
 rintro m e w2 ⟨i,rfl,rfl,hi,rfl⟩;refine VS [0,2,19,20,21,22] ?_;(repeat refine Qax ?_);refine VD (fun h=>?_) (fun h=>?_)
 ·
  have hcell:=Qbr (hH.rs' hr) (i:=i) (by omega);have hg:=hget i (by omega);generalize l.getD i 0=x at *;refine VC_skip ?_;refine VB ?_;refine VQ [0,2,5,19,20,21] fun K hK=>?_;refine ⟨⟨by omega,by omega⟩,_,hcell,?_⟩;apply hK;clear hK;refine VQ [0,2,19,20,21,30] fun K hK=>?_
  suffices out:∀ b:Bool,(b=true ↔ False)->K [(0,.slice (some p) n lc),(2,.pointer (some ⟨gr,0,none⟩)),(19,.slice (some p) n lc),(20,.int .i64 n),(21,.int .i64 i),(30,.bool b)] w2 by (repeat' (first | exact out _ _ (by first | omega | (simp;done) | (simp;omega)) | exact out _ (by first | omega | (simp;done) | (simp;omega)) | refine ⟨fun _=>?_,fun _=>?_⟩ | refine Qo ?_))
  intro b hb;apply hK;clear hK;refine Qaf rfl rfl (fun h=>(hb.1 h).elim) (fun h=>VC_skip ?_);refine Qaj ?_;refine VS [0,2,19,20,21] ?_;refine Qab ?_;refine Qs ?_;exact ⟨n - (i+1),by omega,i+1,rfl,rfl,by omega,rfl⟩
 obtain rfl:i=n:=by omega
 refine Qag rfl ?_;refine VQ [0,2,6] fun K hK=>?_;refine MemK_call Gi ?_;refine Qs ?_;refine Ym (Qds w2) ?_;rintro v w5 ⟨gw,hH2,rfl⟩;have hH3:=hH.call0 hH2;clear hH hH2 hi h;apply hK;clear hK;have h0:=hget 0 (by omega);have hc0:=Qbr (hH3.rs' hr) (i:=0) (by omega);have hdS:Qce l=Qas 5 (l.getD 0 0)++Qcc (l.getD 0 0) l:=rfl;rw [hdS];generalize hx0:l.getD 0 0=x0 at *;refine VQ [0,2,6] fun K hK=>?_;refine ⟨by omega,_,hc0,?_⟩;refine Qs ?_;rw [show ((x0:Int) % 18446744073709551616)=x0 by omega];refine MemK_call Xr ?_;refine Qs ?_;refine Ym (Qde gw none 0 [] x0 5 w5 (by omega) (by omega) (by simp) (hH3.focus 0 rfl)) ?_;rintro v w7 ⟨a2,c2,hHw,rfl⟩;rw [Yp] at hHw;have hH4:=hH3.call1 0 rfl hHw;simp only [Yd,Yp] at hH4;clear hH3 hHw hc0;have hc0:=Qbr (hH4.rs' hr) (i:=0) (by omega);rw [hx0] at hc0;apply hK;clear hK;refine VQ [0,2,6,7] fun K hK=>?_;refine ⟨by omega,_,hc0,?_⟩;apply hK;clear hK;refine VS [2,6,7,43,44,45] ?_;refine Qac ?_;refine Qad [2,6,7,43,44,45] (fun m e w'=>∃ (k:Nat) (a:Option Addr) (c:Nat),Is e [(2,.pointer (some ⟨gr,0,none⟩)),(6,.pointer (some ⟨gw,0,none⟩)),(7,.int .i64 (Qid x0 (l.take k):Nat)),(43,.slice (some p) i lc),(44,.int .i64 i),(45,.int .i64 k)]/\Heap w [] w' [wr gw a c (Qas 5 x0++Qcc x0 (l.take k)),Yr gr 33 [.string ⟨#[]⟩,.int .i64 0]]/\k<=i/\m=i - k) i ?_ ?_
 ·
  refine Qs ?_;exact ⟨0,a2,c2,rfl,by simpa [Qcc] using hH4,by omega,rfl⟩
 clear hH4 hc0 hdS;rintro m e w8 ⟨k,a3,c3,rfl,hH,hk,rfl⟩;refine VS [2,6,7,43,44,45,46] ?_;(repeat refine Qax ?_);refine VD (fun h=>?_) (fun h=>?_)
 ·
  have hcell:=Qbr (hH.rs' hr) (i:=k) (by omega);have hg:=hget k (by omega);have htk:=Qb2 0 (l:=l) (i:=k) (by omega);have hlo:=Qpt (l.take k) x0 h0 fun x hx'=>hx x (X0 hx');have hdl:=Qgb (l.take k) x0 h0.2 fun x hx'=>(hx x (X0 hx')).2;have hdl2:(l.take k).length<=258:=by rw [Ys];omega
  have hsn:=Qjv (l.take k) x0 (l.getD k 0);have hls:=Qix (l.take k) x0 (l.getD k 0);rw [<- htk] at hsn hls;rw [Qsi] at hsn;have hbl:=Qan 5 x0;generalize l.getD k 0=x at *;generalize Qid x0 (l.take k)=p0 at *;generalize hB:Qas 5 x0++Qcc x0 (l.take k)=Bt at *;have hBl:Bt.length<=11000:=by rw [<- hB,Ye];omega
  refine VC_skip ?_;refine VB ?_;refine VQ [2,6,7,9,43,44,45] fun K hK=>?_;refine ⟨⟨by omega,by omega⟩,_,hcell,?_⟩;apply hK;clear hK;refine VB ?_;refine Qad [2,6,7,9,43,44,45] (fun m e w'=>∃ (d:Nat) (a:Option Addr) (c:Nat),Is e [(2,.pointer (some ⟨gr,0,none⟩)),(6,.pointer (some ⟨gw,0,none⟩)),(7,.int .i64 (p0+d:Nat)),(9,.int .i64 x),(43,.slice (some p) i lc),(44,.int .i64 i),(45,.int .i64 k)]/\Heap w [] w' [wr gw a c (Bt++(Ya d [true,false]).flatten),Yr gr 33 [.string ⟨#[]⟩,.int .i64 0]]/\d<=x - p0/\m=x - p0 - d) (x - p0) ?_ ?_
  ·
   refine Qs ?_;exact ⟨0,a3,c3,rfl,by simpa using hH,by omega,rfl⟩
  clear hH hcell;rintro m e w9 ⟨d,a4,c4,rfl,hH,hd,rfl⟩;refine VS [2,6,7,9,43,44,45,51] ?_;refine VD (fun h=>?_) (fun h=>?_)
  ·
   refine VC_skip ?_;refine VB ?_;refine VQ [2,6,7,9,43,44,45] fun K hK=>?_;refine MemK_call Xr ?_;refine Qs ?_;refine Ym (Qde gw a4 c4 _ 2 2 w9 (by omega) (by omega) (by rw [Ye,Qfv];omega) (hH.focus 0 rfl)) ?_;rintro v w10 ⟨a5,c5,hHw,rfl⟩;have e2:Qas 2 2=[true,false]:=rfl;rw [e2,Yg,<- Qt5] at hHw;have hH2:=hH.call1 0 rfl hHw;simp only [Yd,Yp] at hH2;apply hK;clear hK;refine Qaj ?_;refine VS [2,6,7,9,43,44,45] ?_;refine Qab ?_;refine Qs ?_;exact ⟨x - p0 - (d+1),by omega,d+1,a5,c5,rfl,hH2,by omega,rfl⟩
  obtain rfl:d=x - p0:=by omega
  refine Qag rfl ?_;generalize hB2:Bt++(Ya (x - p0) [true,false]).flatten=Bt2 at *;have hBl2:Bt2.length<=11100:=by rw [<- hB2,Ye,Qfv];omega
  refine VB ?_;refine Qad [2,6,7,9,43,44,45] (fun m e w'=>∃ (d:Nat) (a:Option Addr) (c:Nat),Is e [(2,.pointer (some ⟨gr,0,none⟩)),(6,.pointer (some ⟨gw,0,none⟩)),(7,.int .i64 ((p0+(x - p0) - d:Nat):Int)),(9,.int .i64 x),(43,.slice (some p) i lc),(44,.int .i64 i),(45,.int .i64 k)]/\Heap w [] w' [wr gw a c (Bt2++(Ya d [true,true]).flatten),Yr gr 33 [.string ⟨#[]⟩,.int .i64 0]]/\d<=p0 - x/\m=p0 - x - d) (p0 - x) ?_ ?_
  ·
   refine Qs ?_;exact ⟨0,a4,c4,rfl,by simpa using hH,by omega,rfl⟩
  clear hH;rintro m e w10 ⟨d,a5,c5,rfl,hH,hd,rfl⟩;refine VS [2,6,7,9,43,44,45,58] ?_;refine VD (fun h=>?_) (fun h=>?_)
  ·
   refine VC_skip ?_;refine VB ?_;refine VQ [2,6,7,9,43,44,45] fun K hK=>?_;refine MemK_call Xr ?_;refine Qs ?_;refine Ym (Qde gw a5 c5 _ 3 2 w10 (by omega) (by omega) (by rw [Ye,Qfv];omega) (hH.focus 0 rfl)) ?_;rintro v w11 ⟨a6,c6,hHw,rfl⟩;have e2:Qas 2 3=[true,true]:=rfl;rw [e2,Yg,<- Qt5] at hHw;have hH2:=hH.call1 0 rfl hHw;simp only [Yd,Yp] at hH2;apply hK;clear hK;refine Qaj ?_;refine VS [2,6,7,9,43,44,45] ?_;refine Qab ?_;refine Qs ?_;refine ⟨p0 - x - (d+1),by omega,d+1,a6,c6,?_,hH2,by omega,rfl⟩;rw [show ((p0+(x - p0) - d:Nat):Int) - 1=((p0+(x - p0) - (d+1):Nat):Int) by omega];rfl
  obtain rfl:d=p0 - x:=by omega
  refine Qag rfl ?_;refine VQ [2,6,7,43,44,45] fun K hK=>?_;refine MemK_call Xr ?_;refine Qs ?_;refine Ym (Qde gw a5 c5 _ 0 1 w10 (by omega) (by omega) (by rw [Ye,Qfv];omega) (hH.focus 0 rfl)) ?_;rintro v w11 ⟨a6,c6,hHw,rfl⟩;have e2:Qas 1 0=[false]:=rfl;rw [e2] at hHw;have hH2:=hH.call1 0 rfl hHw;simp only [Yd,Yp] at hH2;apply hK;clear hK;refine Qaj ?_;refine VS [2,6,7,43,44,45] ?_;refine Qab ?_;refine Qs ?_;refine ⟨i - (k+1),by omega,k+1,a6,c6,?_,?_,by omega,rfl⟩
  ·
   rw [hls,show p0+(x - p0) - (p0 - x)=x by omega];rfl
  rw [hsn,<- Yg,hB,<- Yg,<- Yg,hB2];exact hH2
 obtain rfl:k=i:=by omega
 rw [Yh (by omega)] at hH;refine Qag rfl ?_;refine VQ [2,3] fun K hK=>?_;refine MemK_call Gj ?_;refine Qs ?_;refine Ym (Qgi gw a3 c3 _ w8 (hH.at 0 rfl)) ?_;rintro v w9 ⟨rfl,rfl⟩;refine MemK_call Gk ?_;refine Qs ?_;refine Ym (Qgv gw a3 c3 _ w9 (hH.at 0 rfl)) ?_;rintro v w10 ⟨rfl,rfl⟩;refine Qs ?_;generalize Qas 5 x0++Qcc x0 l=R at *;refine Qaa ?_;refine Qs ?_;refine Qae hH 1 (vs:=Qa7 R) rfl rfl (by kernel_rfl) (by simp [Qa7]) (by simp [Qa7,Yq]) fun w11 hH2=>?_;have hH2:Heap w [] w11 [wr gw a3 c3 R,Yr gr 33 (Qa7 R)]:=hH2;apply hK;clear hK;refine VC_ret (Qdo rfl rfl rfl (Qbw (hH2.at 1 rfl) (by kernel_rfl) (by kernel_rfl) rfl ?_));exact ⟨hH2.sub (by simp),rfl⟩
def QGn (r:Except Int (List Nat×Nat)) (w:World) (v:Value) (w':World):Prop:=match r with
 | .ok q=>∃ a cap,Heap w [] w' [Yo 3 1 a q.1.length cap (Qak q.1)]/\v=.tuple #[.slice a q.1.length cap,.int .i64 q.2,.int .i64 0]
 | .error e=>Heap w [] w' []/\v=.tuple #[.slice none 0 0,.int .i64 0,.int .i64 e]
theorem QO1 (r:List Bool) (now at_:Nat):tdGo r now 0 at_=.ok ([],at_):=by
 match r with
 | []=>simp [tdGo]
 | false::r=>simp [tdGo]
 | [true]=>simp [tdGo]
 | true::d::r=>simp [tdGo]
theorem QSk (r:List Bool) {now k:Nat} (at_:Nat) (hk:k≠0) (h:now < 1∨20 < now):tdGo r now k at_=.error 80:=by
 match r with
 | []=>simp only [tdGo,if_neg hk,if_pos h]
 | false::r=>simp only [tdGo,if_neg hk,if_pos h]
 | [true]=>simp only [tdGo,if_neg hk,if_pos h]
 | true::d::r=>simp only [tdGo,if_neg hk,if_pos h]
theorem Qk9 (s:List UInt8) (g9 gr gs p n:Nat) (hn:n<=60) (hp:p<=8 * s.length) (hs:s.length<=100000000000000) (w0 w:World) (B:List Nat) (G:List Res) (hL:Heap w0 B w (rd gr gs s p::Yr g9 80 [.pointer (some ⟨gr,0,none⟩)]::G)) :
  Does Yi 141 #[.int .i64 n,.pointer (some ⟨g9,0,none⟩)] w fun x w' =>
   (8 * s.length < p+n/\w'=w/\x=.tuple #[.int .i64 0,.int .i64 10])∨(p+n<=8 * s.length/\Heap w0 B w' (rd gr gs s (p+n)::Yr g9 80 [.pointer (some ⟨gr,0,none⟩)]::G)/\x=.tuple #[.int .i64 (numB (((Qap s).drop p).take n):Nat),.int .i64 0]):=by
 refine En [.int .i64 n,.pointer (some ⟨g9,0,none⟩)] 16 Tryz.func141 ?_;refine VS [0,1] ?_;refine VQ [5,6] fun K hK=>?_;refine ⟨_,Qah (hL.at 1 rfl) rfl,?_⟩;refine MemK_call G7 ?_;refine Qs ?_;refine Ym (Qex gr gs s p n w (by omega) (by omega) (by omega) (hL.focus 0 rfl)) ?_;rintro v w3 (⟨h1,rfl,rfl⟩ | ⟨h1,hH2,rfl⟩)
 ·
  skip
  apply hK;clear hK;refine VS [3,4] ?_;exact VC_ret (Qav rfl rfl rfl (.inl ⟨h1,rfl,rfl⟩))
 have hH3:=hL.call1 0 rfl hH2;simp only [Yd,Yp] at hH3;have hlt:=Qes (((Qap s).drop p).take n);have hlen:(((Qap s).drop p).take n).length<=60:=by rw [Ys];omega
 have hlt2:=Yt (n:=2) (by omega) hlen;generalize numB (((Qap s).drop p).take n)=q at *;apply hK;clear hK;refine VS [3,4] ?_;exact VC_ret (Qav rfl rfl rfl (.inr ⟨h1,hH3,rfl⟩))
theorem Qre (s:List UInt8) (at_ n:Nat) (ha:at_<=8 * s.length) (hs:s.length<=100000000000000) (hn:2<=n/\n<=258) (w:World) :
  Does Yi 120 #[Str s,.int .i64 at_,.int .i64 n] w (QGn (Qdb (Qap s) at_ n) w):=by
 have hbl:=Qaw s;generalize hbits:Qap s=bits at *;generalize hres:Qdb bits at_ n=res;unfold Qdb at hres;refine En [Str s,.int .i64 at_,.int .i64 n] 79 Tryz.func120 ?_;refine VS [0,1,2] ?_;(repeat refine Qax ?_);refine Qoe ?_;refine VQ [2,9] fun K hK=>?_;refine MemK_call G6 ?_;refine Qs ?_;refine Ym (Qdt s at_ w (Xu (by omega) (by omega)) (by omega)) ?_;rintro v w2 (⟨hbad,_⟩ | ⟨_,gr,gs,hH,rfl⟩)
 ·
  omega
 rw [Y8] at hH;refine Qao (.pointer none) (by kernel_rfl) ?_;refine Qs ?_;have hH1:=hH.box 80 [.pointer none];generalize w2.alloc (Yu [Value.pointer none].toArray 80)=w3 at *;generalize w2.heap.size=g9 at *;refine Qaa ?_;refine Qs ?_;refine Qae hH1 0 (vs:=[.pointer (some ⟨gr,0,none⟩)]) rfl rfl (by kernel_rfl) (by simp) (by simp [Yq]) fun w4 hH2=>?_;have hH3:Heap w [] w4 [rd gr gs s at_,Yr g9 80 [.pointer (some ⟨gr,0,none⟩)]]:=hH2.perm (List.Perm.swap _ _ _);clear hH hH1 hH2;apply hK;clear hK;refine VQ [2,9,29] fun K hK=>?_
 suffices out:∀ b:Bool,(b=true ↔ False)->K [(2,.int .i64 n),(9,.pointer (some ⟨g9,0,none⟩)),(29,.bool b)] w4 by
  refine ⟨_,Qah (hH3.at 1 rfl) rfl,?_⟩;refine Qs ?_;(repeat' (first | exact out _ _ (by first | omega | (simp;done) | (simp;omega)) | exact out _ (by first | omega | (simp;done) | (simp;omega)) | refine ⟨fun _=>?_,fun _=>?_⟩ | refine Qo ?_))
 intro b hb;apply hK;clear hK;refine Qaf rfl rfl (fun h=>(hb.1 h).elim) (fun h=>VC_skip ?_);clear hb h;refine VS [2,9,10] ?_;refine VQ [2,9,10,11,12] fun K hK=>?_;refine Qbp ?_;refine Qs ?_;refine Gx G4 (Qk9 s g9 gr gs at_ 5 (by omega) ha hs w w4 [] [] hH3) ?_;have hts:Qgt bits at_ 5=if bits.length < at_+5 then (0,10) else (numB ((bits.drop at_).take 5),0):=rfl
 rintro v w5 (⟨h1,rfl,rfl⟩ | ⟨h1,hH4,rfl⟩)
 ·
  rw [if_pos (by omega)] at hts;rw [hts,if_pos (by simp)] at hres;subst hres;apply hK;clear hK;refine VS [2,9,10,11,12,37] ?_;refine Qaf rfl rfl (fun h=>?_) (fun h=>by cases h);refine VS [6,7,8] ?_;exact VC_ret (Qcv rfl rfl rfl rfl ⟨hH3.sub (by simp),rfl⟩)
 rw [if_neg (by omega)] at hts;rw [hts,if_neg (by simp)] at hres;rw [hbits];have hlt:=Qes ((bits.drop at_).take 5);have hlen:((bits.drop at_).take 5).length<=5:=by rw [Ys];omega
 have hlt2:=Yt (n:=2) (by omega) hlen;clear hH3 hts;simp only at hres;generalize numB ((bits.drop at_).take 5)=now0 at *;apply hK;clear hK;refine VS [2,9,10,11,12,37] ?_;refine Qaf rfl rfl (fun h=>by cases h) (fun h=>VC_skip ?_);clear h;refine VS [2,9,10,11,13] ?_;(repeat refine Qax ?_);refine Qoc ?_;refine VB ?_;refine Qad [2,9,10,11,13] (fun m e w'=>∃ (p now cap:Nat) (a:Option Addr) (out:List Nat),Is e [(2,.int .i64 n),(9,.pointer (some ⟨g9,0,none⟩)),(10,.func (.func 141) #[] #[.pointer (some ⟨g9,0,none⟩)]),(11,.int .i64 now),(13,.slice a out.length cap)]/\Heap w [] w' [rd gr gs s p,Yr g9 80 [.pointer (some ⟨gr,0,none⟩)],Yo 3 1 a out.length cap (Qak out)]/\p<=8 * s.length/\now<=100/\out.length<=n/\(match tdGo (bits.drop p) now (n - out.length) p with | .error e=>.error e | .ok q=>.ok (out++q.1,q.2))=res/\m=8 * s.length - p) (8 * s.length - (at_+5)) ?_ ?_
 ·
  refine Qs ?_;have hH5:=(hH4.nilRow 3 1).perm (G':=[rd gr gs s (at_+5),Yr g9 80 [.pointer (some ⟨gr,0,none⟩)],Yo 3 1 none 0 0 []]) (by exact (Xz (l₁:=[Yo 3 1 none 0 0 []])));exact ⟨at_+5,now0,0,none,[],rfl,hH5,by omega,by omega,by simp,by rw [<- hres];simp only [Ut,Nat.sub_zero,Yp];cases tdGo (bits.drop (at_+5)) now0 n (at_+5) <;> rfl,rfl⟩
 clear hH4 hres;rintro m e w6 ⟨p,now,cap,a,out,rfl,hH,hp,hnow,hol,hres,rfl⟩;refine VS [2,9,10,11,13,42] ?_;refine VD (fun h=>?_) (fun h=>?_)
 ·
  have hol2:out.length < n:=by omega
  obtain ⟨p0,hp0⟩:∃ q,q=p:=⟨p,rfl⟩;refine VC_skip ?_;refine Qac ?_;refine Qac ?_;refine Qad [2,9,10,11,13] (fun m e w'=>∃ (p now:Nat),Is e [(2,.int .i64 n),(9,.pointer (some ⟨g9,0,none⟩)),(10,.func (.func 141) #[] #[.pointer (some ⟨g9,0,none⟩)]),(11,.int .i64 now),(13,.slice a out.length cap)]/\Heap w [] w' [rd gr gs s p,Yr g9 80 [.pointer (some ⟨gr,0,none⟩)],Yo 3 1 a out.length cap (Qak out)]/\p0<=p/\p<=8 * s.length/\now<=100/\(match tdGo (bits.drop p) now (n - out.length) p with | .error e=>.error e | .ok q=>.ok (out++q.1,q.2))=res/\m=8 * s.length - p) (8 * s.length - p) ?_ ?_
  ·
   refine Qs ?_;exact ⟨p,now,rfl,hH,by omega,hp,hnow,hres,rfl⟩
  clear hH hres hp hnow;rintro m e w7 ⟨p,now,rfl,hH,hpp,hp,hnow,hres,rfl⟩;refine Qac ?_;refine VQ [2,9,10,11,13,48] fun K hK=>?_
  suffices out:∀ b:Bool,(b=true ↔ (now < 1∨20 < now))->K [(2,.int .i64 n),(9,.pointer (some ⟨g9,0,none⟩)),(10,.func (.func 141) #[] #[.pointer (some ⟨g9,0,none⟩)]),(11,.int .i64 now),(13,.slice a out.length cap),(48,.bool b)] w7 by (repeat' (first | exact out _ _ (by first | omega | (simp;done) | (simp;omega)) | exact out _ (by first | omega | (simp;done) | (simp;omega)) | refine ⟨fun _=>?_,fun _=>?_⟩ | refine Qo ?_))
  intro b hb;apply hK;clear hK;refine Vi (fun h=>?_) (fun h=>VC_skip ?_)
  ·
   rw [QSk _ _ (by omega) (hb.1 h)] at hres;subst hres;refine VS [6,7,8] ?_;exact VC_ret (Qcv rfl rfl rfl rfl ⟨hH.sub (by simp),rfl⟩)
  have hg:¬ (now < 1∨20 < now):=fun h2=>by have:=hb.2 h2;simp_all
  clear hb h;refine VQ [2,9,10,11,13,14,15] fun K hK=>?_;refine Qbp ?_;refine Qs ?_;refine Gx G4 (Qk9 s g9 gr gs p 1 (by omega) hp hs w w7 [] _ hH) ?_;rintro v w8 (⟨h1,rfl,rfl⟩ | ⟨h1,hH4,rfl⟩)
  ·
   rw [Yy (by omega),tdGo,if_neg (by omega),if_neg hg] at hres;subst hres;apply hK;clear hK;refine VS [2,9,10,11,13,14,15,55] ?_;refine Qaf rfl rfl (fun h=>?_) (fun h=>by cases h);refine VS [6,7,8] ?_;exact VC_ret (Qcv rfl rfl rfl rfl ⟨hH.sub (by simp),rfl⟩)
  have hdp:bits.drop p=bits.getD p false::bits.drop (p+1):=drop_getD false (by omega);have hnum:numB ((bits.drop p).take 1)=(bits.getD p false).toNat:=by rw [hdp];cases bits.getD p false <;> rfl
  rw [hbits,hnum];rw [hdp] at hres;apply hK;clear hK;refine VS [2,9,10,11,13,14,15,55] ?_;refine Qaf rfl rfl (fun h=>by cases h) (fun h=>VC_skip ?_);clear h hH;refine VS [2,9,10,11,13,58] ?_;generalize bits.getD p false=b at *;cases b with
  | false =>
   rw [tdGo,if_neg (by omega),if_neg hg] at hres;refine Qaf rfl rfl (fun h=>?_) (fun h=>by simp at h);refine VQ [2,9,10,11,13] fun K hK=>?_;refine Qcd (xs:=[.tmp 60]) Yn sz3 rfl rfl rfl (by omega) ?_;refine Qs ?_;refine ⟨by simp [Y3],?_⟩;refine Qai ?_;refine Qs ?_;refine Qiv hH4 2 (now) rfl Yn zi3 (by first | rfl | (simp;done) | omega | (simp;omega)) (fun h=>by (first | omega | (simp;done) | (simp;omega))) fun a' cap' w5 hc' hH5=>?_;(try refine Qs ?_);simp only [Yj,Yd] at hH5;apply hK;clear hK;refine Qag rfl ?_;refine Qab ?_;refine Qs ?_;refine ⟨8 * s.length - (p+1),by omega,p+1,now,cap',a',out++[now],rfl,hH5,by omega,hnow,by simp;omega,?_,rfl⟩;rw [<- hres,show n - (out++[now]).length=n - out.length - 1 by simp;omega];cases tdGo (bits.drop (p+1)) now (n - out.length - 1) (p+1) with
   | error e=>rfl
   | ok q=>simp
  | true =>
   refine Qaf rfl rfl (fun h=>by simp at h) (fun h=>VC_skip ?_);clear h;refine VQ [2,9,10,11,13,15,16] fun K hK=>?_;refine Qbp ?_;refine Qs ?_;refine Gx G4 (Qk9 s g9 gr gs (p+1) 1 (by omega) h1 hs w w8 [] _ hH4) ?_;rintro v w9 (⟨h2,rfl,rfl⟩ | ⟨h2,hH6,rfl⟩)
   ·
    rw [Yy (by omega),tdGo,if_neg (by omega),if_neg hg] at hres;subst hres;apply hK;clear hK;refine VS [2,9,10,11,13,15,16,69] ?_;refine Qaf rfl rfl (fun h=>?_) (fun h=>by cases h);refine VS [6,7,8] ?_;exact VC_ret (Qcv rfl rfl rfl rfl ⟨hH4.sub (by simp),rfl⟩)
   have hdp2:bits.drop (p+1)=bits.getD (p+1) false::bits.drop (p+1+1):=drop_getD false (by omega);have hnum2:numB ((bits.drop (p+1)).take 1)=(bits.getD (p+1) false).toNat:=by rw [hdp2];cases bits.getD (p+1) false <;> rfl
   rw [hbits,hnum2];rw [hdp2,tdGo,if_neg (by omega),if_neg hg] at hres;generalize bits.getD (p+1) false=d at *;have hd1:d.toNat<=1:=by cases d <;> simp
   apply hK;clear hK;refine VS [2,9,10,11,13,15,16,69] ?_;refine Qaf rfl rfl (fun h=>by cases h) (fun h=>VC_skip ?_);clear h;refine VS [2,9,10,11,13] ?_;refine Qaj ?_;refine Qab ?_;refine Qs ?_;refine ⟨8 * s.length - (p+1+1),by omega,p+1+1,(if d=true then now - 1 else now+1),?_,hH6,by omega,by omega,by split <;> omega,hres,rfl⟩;cases d with
   | true=>rw [if_pos rfl,show ((now:Int)+(1 - 2 * ((true.toNat:Nat):Int)))=((now - 1:Nat):Int) by simp;omega];rfl
   | false=>rw [if_neg (by simp),show ((now:Int)+(1 - 2 * ((false.toNat:Nat):Int)))=((now+1:Nat):Int) by simp];rfl
 rw [show n - out.length=0 by omega,QO1] at hres;simp only [Yl] at hres;subst hres;refine Qag rfl ?_;refine VQ [6,7,8] fun K hK=>?_;refine ⟨_,Qah (hH.at 1 rfl) rfl,?_⟩;refine MemK_call Tryz.call118 ?_;refine Qs ?_;refine Ym (Qpr gr gs p s w6 (hH.at 0 rfl)) ?_;rintro v w7 ⟨rfl,rfl⟩;apply hK;clear hK;exact VC_ret (Qcv rfl rfl rfl rfl ⟨a,cap,hH.sub (by simp),rfl⟩)
set_option maxHeartbeats 2000000
theorem Qwz (l:List Nat) (i:Nat):(Qib l i).length=l.getD i 0:=by rw [Qib,Qan]
def Qe3 (T:List (List Nat)) (P:List Nat):List Nat->Nat->List Bool
 | [],_=>[]
 | s::r,i=>Qib (T.getD (P.getD (i / 50) 0) []) s++Qe3 T P r (i+1)
def putC (T:List (List Nat)):List Nat->List Nat->List Bool
 | [],_=>[]
 | p::P,list=>Qe7 (T.getD p []) (list.take 50)++putC T P (list.drop 50)
def Qgw (T:List (List Nat)) (bits:List Bool) (fin:Nat):List Nat->Nat->Except Int (List Nat×Nat)
 | [],_=>.error 110
 | p::P,at_=>match Qe6 (T.getD p []) bits fin 50 at_ with
  | .error e=>.error e
  | .ok q=>if q.1.getLast? = some fin then .ok q else match Qgw T bits fin P q.2 with
   | .error e=>.error e
   | .ok q'=>.ok (q.1++q'.1,q'.2)
theorem Qpu (T:List (List Nat)) (P:List Nat) (j:Nat) (b:List Nat):∀ (a:List Nat) (m:Nat),a.length+m<=50->Qe3 T P (a++b) (50 * j+m)=Qe7 (T.getD (P.getD j 0) []) a++Qe3 T P b (50 * j+m+a.length)
 | [],m,_=>rfl
 | s::a,m,h=>by
  simp at h;rw [Xd,Qe3,show (50 * j+m) / 50=j by omega,show 50 * j+m+1=50 * j+(m+1) by omega,Qpu T P j b a (m+1) (by omega)];simp only [Qe7,Xq,Yg,Y1]
  congr 3;omega
theorem Qsj (T:List (List Nat)) (P:List Nat):∀ (Q:List Nat) (j:Nat) (list:List Nat),P.drop j=Q->list.length<=50 * Q.length->Qe3 T P list (50 * j)=putC T Q list
 | [],j,list,hQ,hl=>by
  simp at hl;subst hl;rfl
 | p::Q,j,list,hQ,hl=>by
  have hj:P.getD j 0=p:=by
   have:=congrArg (fun l=>l.getD 0 0) hQ;simpa [Yb,List.getElem?_drop] using this
  have h1:=Qpu T P j (list.drop 50) (list.take 50) 0 (by simp;omega);rw [Yw,Ga,hj] at h1;rw [h1,putC]
  congr 1
  rcases Xe list.length 50 with h2 | h2
  ·
   have hd:list.drop 50=[]:=Xw (by omega);rw [hd];clear hl h1;generalize 50 * j+(list.take 50).length=i
   have:∀ Q:List Nat,putC T Q []=[]:=fun Q=>by induction Q with
    | nil=>rfl
    | cons q Q ih=>rw [putC];simp [Qe7,ih]
   rw [this];rfl
  rw [Ys,Nat.min_eq_left h2,show 50 * j+50=50 * (j+1) by omega];refine Qsj T P Q (j+1) _ ?_ (by simp at hl ⊢;omega);rw [<- List.drop_drop,hQ];rfl
theorem QBu (T:List (List Nat)):∀ Q:List Nat,putC T Q []=[]
 | []=>rfl
 | q::Q=>by rw [putC,List.drop_nil,QBu T Q];rfl
theorem QGo {T:List (List Nat)}{n fin:Nat} (hf:fin < n) (hT:∀ t,t < T.length->(T.getD t []).length=n/\okL (T.getD t [])):∀ (P body:List Nat) {bits:List Bool}{at_:Nat}{r:List Bool},(∀ k∈P,k < T.length)->(∀ s∈body,s < n/\s≠fin)->(body++[fin]).length<=50 * P.length->bits.drop at_=putC T P (body++[fin])++r ->
  Qgw T bits fin P at_=.ok (body++[fin],at_+(putC T P (body++[fin])).length)
 | [],body,bits,at_,r,_,_,hl,_=>by simp at hl
 | p::P,body,bits,at_,r,hP,hs,hl,hb=>by
  obtain ⟨h1,h2⟩:=hT p (hP p (by simp));rw [putC,Yg] at hb;rw [Qgw,putC];rcases Xe body.length 50 with h3 | h3
  ·
   have e1:(body++[fin]).take 50=body++[fin]:=Yh (by simp;omega);have e2:(body++[fin]).drop 50=[]:=Xw (by simp;omega);rw [e1,e2,QBu] at hb ⊢;rw [Ql1 h2 fin (by omega) body 50 (fun s hs'=>by rw [h1];exact hs s hs') (by omega) hb];simp only;rw [if_pos (by simp),Yl]
  have e1:(body++[fin]).take 50=body.take 50:=by rw [Y7 h3]
  have e2:(body++[fin]).drop 50=body.drop 50++[fin]:=by rw [List.drop_append_of_le_length h3]
  rw [e1,e2] at hb ⊢;have hmem:∀ s∈body.take 50,s < (T.getD p []).length/\s≠fin:=fun s hs'=>by rw [h1];exact hs s (X0 hs')
  rw [Qwx h2 fin (body.take 50) 50 hmem (by rw [Ys];omega) hb];simp only;have hlast:¬ (body.take 50).getLast? = some fin:=fun e=>(hmem fin (List.mem_of_getLast? e)).2 rfl;rw [if_neg hlast,QGo hf hT P (body.drop 50) (fun k hk=>hP k (by simp [hk])) (fun s hs'=>hs s (List.mem_of_mem_drop hs')) (by simp at hl ⊢;omega) (Qbz hb)];simp only [Except.ok.injEq,Prod.mk.injEq,Ye];refine ⟨?_,by omega⟩;rw [<- Yg,Yw]
def Qeo (list:List Nat) (n:Nat):List Nat:=(Yf n).map fun s=>list.count s
def Qgc (list P:List Nat) (t n:Nat):List Nat:=(Yf n).map fun s=>(Yf list.length).countP fun i=>list.getD i 0 == s && P.getD (i / 50) 0 == t
def Qfw (tab chunk:List Nat):Nat:=(chunk.map fun s=>tab.getD s 0).sum
def Qie (c:Nat->Nat):Nat->Nat
 | 0=>0
 | t+1=>if c (t+1) < c (Qie c t) then t+1 else Qie c t
def Qcs (list:List Nat) (k:Nat):List Nat:=(list.drop (50 * k)).take 50
def Qbe (m:Nat):Nat:=(m+49) / 50
def Qcf (m:Nat):Nat:=if m < 200 then 2 else if m < 600 then 3 else if m < 1200 then 4 else if m < 2400 then 5 else 6
def Qd6 (list:List Nat) (many:Nat) (T:List (List Nat)):List Nat:=(Yf (Qbe list.length)).map fun k=>Qie (fun t=>Qfw (T.getD t []) (Qcs list k)) (many - 1)
def Qgj (list:List Nat) (n many:Nat) (x:List (List Nat)×List Nat):List (List Nat)×List Nat :=
 ((Yf many).map fun t=>lenS (Qgc list (Qd6 list many x.1) t n) 17,Qd6 list many x.1)
def Qhf (n many:Nat):List (List Nat):=(Yf many).map fun t=>(Yf n).map fun s=>if s * many / n=t then 1 else 15
def Qct (list:List Nat) (n many:Nat):Nat->List (List Nat)×List Nat
 | 0=>(Qhf n many,Ya (Qbe list.length) 0)
 | k+1=>Qgj list n many (Qct list n many k)
def Qc4 (list:List Nat) (n:Nat):List (List Nat)×List Nat:=Qct list n (Qcf list.length) 4
def Qby (list:List Nat) (n:Nat):List (List Nat)×List Nat:=([Qdr (Qeo list n),Qdr (Qeo list n)],Ya (Qbe list.length) 0)
def Qgo (x:List (List Nat)×List Nat) (list:List Nat):Nat:=(Qbx x.1 x.2).length+(Qe3 x.1 x.2 list 0).length
def Qei (list:List Nat) (n:Nat):List (List Nat)×List Nat:=if Qgo (Qby list n) list < Qgo (Qc4 list n) list then Qby list n else Qc4 list n
def Qfg (list:List Nat) (n:Nat):Prop:=3<=n/\n<=258/\1<=list.length/\list.length<=1638350/\∀ s∈list,s < n
theorem Qoo (c:Nat->Nat):∀ t,Qie c t<=t
 | 0=>Uc _
 | t+1=>by
  have:=Qoo c t;rw [Qie];split <;> omega
theorem Qm3 (m:Nat):2<=Qcf m/\Qcf m<=6:=by
 unfold Qcf;(repeat' split) <;> omega
theorem Qfk {m:Nat} (h:1<=m) (h2:m<=1638350):1<=Qbe m/\Qbe m<=32767/\m<=50 * Qbe m:=by unfold Qbe;omega
theorem Qgk {α:Type} (f:Nat->α) (n:Nat) (d:α) (i:Nat) (h:i < n):((Yf n).map f).getD i d=f i:=by
 rw [Yb,U0,Uv h];rfl
theorem Qm4 {list:List Nat}{n:Nat} (h:Qfg list n):mayP (Qc4 list n).1 (Qc4 list n).2/\((Qc4 list n).1.getD 0 []).length=n:=by
 obtain ⟨h1,h2,h3,h4,h5⟩:=h;obtain ⟨t1,t2⟩:=Qm3 list.length;obtain ⟨g1,g2,_⟩:=Qfk h3 h4;unfold Qc4;generalize Qcf list.length=many at *;rw [Qct];generalize Qct list n many 3=x
 have hlen:∀ P t,(lenS (Qgc list P t n) 17).length=n/\okL (lenS (Qgc list P t n) 17):=fun P t=>by
  have hc:(Qgc list P t n).length=n:=by simp [Qgc]
  obtain ⟨a,b,c⟩:=QGh (w:=Qgc list P t n) (most:=17) (by omega) (by omega) (by omega) (by omega) (fun x hx=>by
   obtain ⟨s,_,rfl⟩:=Xh.1 hx;have:=List.countP_le_length (p:=fun i=>list.getD i 0 == s && P.getD (i / 50) 0 == t) (l:=Yf list.length);simp only [Uj] at this;omega)
  rw [hc] at a;exact ⟨a,by omega,by omega,fun x hx=>by have:=b x hx;omega,by omega⟩
 have h0:((Qgj list n many x).1.getD 0 []).length=n:=by
  unfold Qgj;simp only;rw [Qgk _ _ _ _ (by omega)];exact (hlen _ _).1
 refine ⟨⟨by simp [Qgj];omega,by simp [Qgj];omega,by simp [Qgj,Qd6];omega,by simp [Qgj,Qd6];omega,fun t ht=>?_,fun k hk=>?_⟩,h0⟩
 ·
  rw [h0];obtain ⟨i,_,rfl⟩:=Xh.1 ht;have:=hlen (Qd6 list many x.1) i;exact ⟨this.1,by omega,this.2⟩
 simp only [Qgj,Qd6,Xh] at hk;obtain ⟨j,_,rfl⟩:=hk;have:=Qoo (fun t=>Qfw (x.1.getD t []) (Qcs list j)) (many - 1);simp only [Qgj,Ub,Uj];omega
theorem Qw0 (w:List Nat):∀ x∈Qdr w,x=Qfp w.length∨x=Qfp w.length+1:=by
 intro x hx;obtain ⟨i,_,rfl⟩:=Xh.1 hx;unfold Qk6;split <;> simp
theorem Qt6 {list:List Nat}{n:Nat} (h:Qfg list n):(Qdr (Qeo list n)).length=n/\okL (Qdr (Qeo list n)):=by
 obtain ⟨h1,h2,h3,h4,h5⟩:=h;have hc:(Qeo list n).length=n:=by simp [Qeo]
 obtain ⟨a,b,c⟩:=QBp (w:=Qeo list n) (by omega) (by omega);rw [hc] at a;exact ⟨a,by omega,by omega,fun x hx=>by have:=b x hx;omega,by omega⟩
theorem Qt7 {list:List Nat}{n:Nat} (h:Qfg list n):mayP (Qby list n).1 (Qby list n).2/\((Qby list n).1.getD 0 []).length=n:=by
 obtain ⟨a,b⟩:=Qt6 h;obtain ⟨h1,h2,h3,h4,h5⟩:=h;obtain ⟨g1,g2,_⟩:=Qfk h3 h4;unfold Qby;simp only;generalize Qdr (Qeo list n)=l at *;refine ⟨⟨by simp,by simp,by simp;omega,by simp;omega,fun t ht=>?_,fun k hk=>?_⟩,by simpa using a⟩
 ·
  have:t=l:=by simpa using ht
  subst this;exact ⟨rfl,by omega,b⟩
 have:=List.eq_of_mem_replicate hk;subst this;simp
theorem Qt8 {list:List Nat}{n:Nat} (h:Qfg list n):mayP (Qei list n).1 (Qei list n).2/\((Qei list n).1.getD 0 []).length=n:=by
 unfold Qei;split
 ·
  exact Qt7 h
 exact Qm4 h
theorem Qla (list:List Nat) (n:Nat):(Qei list n).2.length=Qbe list.length:=by
 unfold Qei;split
 ·
  simp [Qby]
 simp [Qc4,Qct,Qgj,Qd6]
theorem Qnn:∀ g,(Qcw [0,1] (Ya g 0)).length=g
 | 0=>rfl
 | g+1=>by
  rw [Xa,Qcw];have e:Qek [0,1] (List.idxOf 0 [0,1])=[0,1]:=rfl;have e2:List.idxOf 0 [0,1]=0:=rfl;rw [e,e2];simp [Qnn g]
theorem Qjw {T:List (List Nat)}{P:List Nat}{c:Nat} (h:∀ t∈T,∀ x∈t,x<=c):∀ (list:List Nat) (i:Nat),(Qe3 T P list i).length<=list.length * c
 | [],i=>by simp [Qe3]
 | s::r,i=>by
  have h1:=Qjw (P:=P) h r (i+1)
  have h2:(Qib (T.getD (P.getD (i / 50) 0) []) s).length<=c:=by
   have:=Qsg (l:=T.getD (P.getD (i / 50) 0) []) (c:=c) (fun x hx=>by
    by_cases ht:P.getD (i / 50) 0 < T.length
    ·
     refine h (T.getD (P.getD (i / 50) 0) []) ?_ x hx;rw [Yb,Yc ht];exact U5 ht
    rw [Yb,List.getElem?_eq_none (by omega)] at hx;simp at hx) [s]
   simpa [Qe7] using this
  simp only [Qe3,Ye,Y1,Uw];omega
theorem Qpv {list:List Nat}{n:Nat} (h:Qfg list n):Qgo (Qei list n) list<=18+Qbe list.length+2 * (5+3 * n)+list.length * 9:=by
 have h1:Qgo (Qei list n) list<=Qgo (Qby list n) list:=by
  unfold Qei;split <;> omega
 refine Gd h1 ?_;obtain ⟨a,b⟩:=Qt6 h;have hc:(Qeo list n).length=n:=by simp [Qeo]
 obtain ⟨h3,h4,h5,h6,h7⟩:=h;have hfl:=Qw0 (Qeo list n);have hok:=(QBp (w:=Qeo list n) (by omega) (by omega)).2.1
 have hp:=Qjw (T:=(Qby list n).1) (P:=(Qby list n).2) (c:=9) (fun t ht x hx=>by
  have:t=Qdr (Qeo list n):=by simpa [Qby] using ht
  subst this;exact (hok x hx).2) list 0
 have hd:(Qce (Qdr (Qeo list n))).length<=5+3 * n:=by
  rw [Qce,Ye,Qan]
  have:=Qnm (k:=Qfp (Qeo list n).length) (Qdr (Qeo list n)) ((Qdr (Qeo list n)).getD 0 0) (hfl _ (by
   generalize Qdr (Qeo list n)=l at *;cases l with
   | nil=>simp at a;omega
   | cons x l=>simp)) hfl
  rw [a] at this;omega
 have hb:(Qbx (Qby list n).1 (Qby list n).2).length=18+Qbe list.length+2 * (Qce (Qdr (Qeo list n))).length:=by
  have e:Yf 2=[0,1]:=rfl;simp only [Qbx,Qby,Ye,Qan,Y1,Ut,Ug,Nat.reduceAdd,e,Qnn,Xq,List.flatMap_nil,Yl];omega
 unfold Qgo;omega
def ascB:List UInt8->Bool
 | []=>true
 | [_]=>true
 | a::b::r=>decide (a.toNat < b.toNat) && ascB (b::r)
def Qno (l:List UInt8):Bool:=ascB l && !l.isEmpty
theorem Qlb (l:List UInt8) (hl:l.length<=1000000000000) (w:World):Does Yi 57 #[Str l] w fun v w'=>w'=w/\v=.bool (Qno l):=by
 refine En [Str l] 20 Tryz.func57 ?_;refine VS [0] ?_;refine VS [0,3] ?_;refine Qac ?_;refine Qad [0,3] (fun m e w'=>∃ (i:Nat),Is e [(0,Str l),(3,.int .i64 i)]/\Is w' w/\1<=i/\i<=max l.length 1/\ascB (l.drop (i - 1))=ascB l/\m=l.length - i) (l.length - 1) ?_ ?_
 ·
  refine Qs ?_;exact ⟨1,rfl,rfl,by omega,by omega,rfl,rfl⟩
 rintro m e w' ⟨i,rfl,rfl,hi1,hi2,ha,hm⟩;refine VS [0,3,7] ?_;refine VD (fun h=>?_) (fun h=>?_)
 ·
  have e1:l.drop (i - 1)=l.getD (i - 1) 0::l.getD i 0::l.drop (i+1):=by
   rw [drop_getD 0 (l:=l) (i:=i - 1) (by omega),show i - 1+1=i by omega,drop_getD 0 (l:=l) (i:=i) (by omega)]
  have e2:l.drop i=l.getD i 0::l.drop (i+1):=drop_getD 0 (by omega);rw [e1,ascB,<- e2] at ha;refine VC_skip ?_;refine VB ?_;refine Vq [0,3,17] fun K hK=>?_;(repeat first | refine Qo ?_ | refine Qp ?_);apply hK;clear hK;refine VD (fun h=>?_) (fun h=>?_)
  ·
   refine VS [2] ?_;refine VC_ret (VX_ret1 rfl rfl ⟨rfl,?_⟩);rw [decide_eq_false (by omega),Gm] at ha;rw [Qno,<- ha,Gm]
  rw [decide_eq_true (by omega),Gt] at ha;refine VC_skip ?_;refine Qaj ?_;refine VS [0,3] ?_;refine Qab ?_;refine Qs ?_;exact ⟨l.length - (i+1),by omega,i+1,rfl,rfl,by omega,by omega,by rw [Xk];exact ha,rfl⟩
 refine Qag rfl ?_;refine VS [2] ?_;refine VC_ret (VX_ret1 rfl rfl ⟨rfl,?_⟩)
 have e1:ascB (l.drop (i - 1))=true:=by
  have hlen:(l.drop (i - 1)).length<=1:=by rw [Y5];omega
  generalize l.drop (i - 1)=d at *
  match d,hlen with
  | [],_=>rfl
  | [_],_=>rfl
  | _::_::_,h=>simp at h
 rw [Qno,<- ha,e1];cases l <;> rfl
def Qgq (li:List UInt8) (at_:Nat):List UInt8:=li.getD at_ 0::(li.take at_++li.drop (at_+1))
theorem Qsk (li:List UInt8) (g cap at_:Nat) (hat:at_ < li.length) (hl:li.length<=1000000000000) (w0 w:World) (B:List Nat) (G:List Res) (hL:Heap w0 B w (Yo 5 1 (some ⟨g,0,none⟩) li.length cap (Qar li)::G)) :
  Does Yi 58 #[.slice (some ⟨g,0,none⟩) li.length cap,.int .i64 at_] w
   fun v w'=>Heap w0 B w' (Yo 5 1 (some ⟨g,0,none⟩) li.length cap (Qar (Qgq li at_))::G)/\v=.int .u8 (li.getD at_ 0).toNat:=by
 refine En [.slice (some ⟨g,0,none⟩) li.length cap,.int .i64 at_] 22 Tryz.func58 ?_;refine VS [0,1] ?_;refine VQ [0,1,5] fun K hK=>?_;(repeat first | refine Qo ?_ | refine Qp ?_ | (refine Gc hL ?_;(try refine Qs ?_)));apply hK;clear hK;refine VL [0,5] 7 fun K hK=>?_;obtain ⟨hx1,hx2,hx3,hx4⟩:=hL.at 0 rfl;clear hx1 hx4;refine ⟨Xu (by omega) (by omega),⟨by omega,by omega,by omega⟩,⟨by omega,by omega⟩,?_⟩
 have hsrc:RS w (some ⟨g,0,none⟩) at_ 1 (Qar (li.take at_)):=by
  rw [<- bytesV_take];have h:=(Qaq (hL.at 0 rfl)).take at_ (by omega)
  rwa [Gn] at h
 suffices hall:∀ w5,Heap w0 B w5 (Yo 5 1 (some ⟨g,0,none⟩) li.length cap (Qar (li.take 1++li.take at_++li.drop (at_+1)))::G)->K [(0,.slice (some ⟨g,0,none⟩) li.length cap),(5,.int .u8 (li.getD at_ 0).toNat)] w5 by
  refine Qo6 ?_;refine Qs ?_;by_cases hc1:cap=1
  ·
   have h0:at_=0:=by omega
   subst h0;rw [if_pos (by rw [hc1];rfl)];refine Qjj hL 0 rfl Yv sz5 (off:=0) rfl ⟨rfl,hsrc,5,Yv⟩ (Qji _) (by simp) fun w5 hu hH4=>?_;refine hall w5 ?_;rw [show li.take 1++li.take 0++li.drop (0+1)=li by rw [List.take_zero,Yl];exact Yw 1 li];simpa using hH4
  rw [if_neg (by rw [show X6 1=1 from rfl];exact hc1)];simp only [Option.map_some];refine Qjj hL 0 rfl Yv sz5 (off:=1) rfl ⟨rfl,hsrc,5,Yv⟩ (Qji _) (by rw [Qf5,show X6 1=1 from rfl];omega) fun w5 hu hH4=>?_;refine hall w5 ?_;have e:min at_ (at_+1 - X6 1) * 1=at_:=by rw [show X6 1=1 from rfl];omega
  simp only [e,Yd] at hH4;rw [Qd7,Qd7,<- bytesV_take,<- bytesV_drop];have e5:(Qar (li.take at_)).take at_=Qar (li.take at_):=Yh (by rw [Qf5,Ys];omega);rw [e5,show 1+at_=at_+1 by omega] at hH4;exact hH4
 intro w5 hH;apply hK;clear hK;have hlen:(li.take 1++li.take at_++li.drop (at_+1)).length=li.length:=by simp;omega
 have hmv:(li.take 1++li.take at_++li.drop (at_+1)).set 0 (li.getD at_ 0)=Qgq li at_:=by
  cases li with
  | nil=>simp at hat
  | cons x r=>simp [Qgq]
 generalize li.take 1++li.take at_++li.drop (at_+1)=li2 at *;refine VQ [5] fun K hK=>?_;refine Qp ?_;refine Qaa ?_;refine Qs ?_;refine Qaz hH 0 (o:=(0)) (vs:=[.int .u8 (li.getD at_ 0).toNat]) rfl (by first | exact (Qbg _ _ _).symm | rfl | simp [Qbg]) rfl (by kernel_rfl) (by first | omega | (simp;done) | (simp;omega) | (simp [Qar,Qat];omega) | (rw [natsV_len];simp;omega)) (by simp [Yq]) fun w6 hH2=>?_;(try refine Qs ?_);simp only [Yk,Qcb (Qar li2) _ _ (show 0 < (Qar li2).length by rw [Qf5];omega),Qj7,Yd,hmv] at hH2;apply hK;clear hK;refine VS [4] ?_;exact VC_ret (VX_ret1 rfl rfl ⟨hH2,rfl⟩)
def Qhw (l:List Bool):List Value:=l.map Value.bool
theorem Qsl (l:List Bool):(Qhw l).length=l.length:=by simp [Qhw]
theorem QD5 {l:List Bool}{i:Nat} (h:i < l.length):(Qhw l)[i]? = some (.bool (l.getD i false)):=by
 simp [Qhw,Yc h,Yb]
theorem QD6 (l:List Bool) (i:Nat) (v:Bool):(Qhw l).set i (.bool v)=Qhw (l.set i v):=by simp [Qhw,Gz]
def Qkj (l:List UInt8) (n:Nat):List UInt8:=((Yf n).filter fun b=>l.any fun c=>c.toNat == b).map Xj
def Qbc (l:List UInt8):List UInt8:=Qkj l 256
theorem Qsm (l:List UInt8) (n:Nat):Qkj l (n+1)=Qkj l n++if (l.any fun c=>c.toNat == n) then [Xj n] else []:=by
 unfold Qkj;rw [Xg,Xx,Xo]
 congr 1
 by_cases h:(l.any fun c=>c.toNat == n)=true
 ·
  rw [if_pos h,Xv (p:=fun b=>l.any fun c=>c.toNat == b) h];rfl
 rw [if_neg h,Ud (p:=fun b=>l.any fun c=>c.toNat == b) h];rfl
theorem Qw1 (l:List UInt8) (n:Nat):(Qkj l n).length<=n:=by
 unfold Qkj;rw [Ub];exact Gd (List.length_filter_le _ _) (by simp)
theorem QO2 (l:List UInt8) (hl:l.length<=1000000000000) (w:World):Does Yi 31 #[Str l] w fun v w'=>Heap w [] w' []/\v=Str (Qbc l):=by
 refine En [Str l] 32 Tryz.func31 ?_;refine VS [0] ?_;refine VQ [0,3] fun K hK=>?_;refine Qao (.agg (Qhw (Ya 256 false)).toArray) (by kernel_rfl) ?_;refine Qs ?_;have hH0:=(Y2 w).box 99 (Qhw (Ya 256 false));generalize w.alloc (Yu (Qhw (Ya 256 false)).toArray 99)=w1 at *;generalize w.heap.size=gu at *;apply hK;clear hK;refine VS [0,3,8,9] ?_;generalize hn:l.length=n at *;refine Qac ?_;refine Qad [0,3,8,9] (fun m e w'=>∃ (k:Nat) (bl:List Bool),Is e [(0,Str l),(3,.pointer (some ⟨gu,0,none⟩)),(8,.int .i64 n),(9,.int .i64 k)]/\Heap w [] w' [Yr gu 99 (Qhw bl)]/\bl.length=256/\k<=n/\(∀ b,b < 256->bl.getD b false=(l.take k).any fun c=>c.toNat == b)/\m=n - k) n ?_ ?_
 ·
  refine Qs ?_;exact ⟨0,_,rfl,hH0,by simp,by omega,fun b hb=>by rw [Yb,List.getElem?_replicate,if_pos hb];rfl,rfl⟩
 clear hH0;rintro m e w2 ⟨k,bl,rfl,hH,hbl,hk,hb,hm⟩;refine VS [0,3,8,9,10] ?_;(repeat refine Qax ?_);refine VD (fun h=>?_) (fun h=>?_)
 ·
  have hbk:=(l.getD k 0).toNat_lt
  have htk:l.take (k+1)=l.take k++[l.getD k 0]:=by
   rw [Xf,Yc (by omega),Yb,Yc (by omega)];rfl
  refine VC_skip ?_;refine VB ?_;refine VS [0,3,4,8,9] ?_;refine VQ [0,3,8,9] fun K hK=>?_;rw [hn];refine ⟨⟨by omega,by omega⟩,⟨by omega,by omega⟩,?_⟩;refine Qaa ?_;refine Qs ?_;refine Qae hH 0 (o:=(l.getD k 0).toNat) (vs:=[.bool true]) rfl rfl (by kernel_rfl) (by rw [Qsl,Yk];omega) (by simp [Yq]) fun w6 hH2=>?_;simp only [Yk,Qcb (Qhw bl) _ _ (show (l.getD k 0).toNat < (Qhw bl).length by rw [Qsl];omega),QD6,Yd] at hH2;apply hK;clear hK;refine Qaj ?_;refine VS [0,3,8,9] ?_;refine Qab ?_;refine Qs ?_;refine ⟨n - (k+1),by omega,k+1,_,rfl,hH2,by simp [hbl],by omega,fun b hb2=>?_,rfl⟩;rw [htk,List.any_append,<- hb b hb2];generalize l.getD k 0=c at *;simp only [Yb,Uk];by_cases e:c.toNat=b
  ·
   rw [if_pos e,if_pos (by omega)];simp [e]
  rw [if_neg e];simp [e]
 obtain rfl:k=n:=by omega
 rw [Yh (by omega)] at hb;refine Qag rfl ?_;refine VQ [3,5] fun K hK=>?_;refine Qbb hH (Qar []) (xs:=[]) Yv sz5 rfl rfl rfl (by omega) ?_;refine Qs ?_;refine ⟨rfl,by simp [Y3],fun g w4 hH2=>?_⟩;(try refine Qs ?_);apply hK;clear hK;refine VS [3,5,18] ?_;refine Qac ?_;refine Qad [3,5,18] (fun m e w'=>∃ (b cap:Nat) (a:Option Addr),Is e [(3,.pointer (some ⟨gu,0,none⟩)),(5,.slice a (Qkj l b).length cap),(18,.int .i64 b)]/\Heap w [] w' [Yo 5 1 a (Qkj l b).length cap (Qar (Qkj l b)),Yr gu 99 (Qhw bl)]/\b<=256/\m=256 - b) 256 ?_ ?_
 ·
  refine Qs ?_;exact ⟨0,_,_,rfl,hH2,by omega,rfl⟩
 clear hH hH2;rintro m e w5 ⟨b,cap,a,rfl,hH,hb2,hm⟩;refine VS [3,5,18,19] ?_;(repeat refine Qax ?_);refine VD (fun h=>?_) (fun h=>?_)
 ·
  have hus:=Qsm l b;have hul:=Qw1 l b;have hbb:=hb b (by omega);refine VC_skip ?_;refine VB ?_;refine VS [3,5,6,18] ?_;refine VQ [3,5,6,18,23] fun K hK=>?_;refine ⟨⟨by omega,by omega⟩,_,Qah (hH.at 1 rfl) (QD5 (by omega)),?_⟩;rw [hbb];apply hK;clear hK;generalize (l.any fun c=>c.toNat == b)=bb at *;refine Vi (fun h=>?_) (fun h=>?_)
  ·
   subst h;rw [if_pos rfl] at hus;refine VQ [3,5,18] fun K hK=>?_;rw [show ((b:Int) % 256)=((Xj b).toNat:Int) by rw [Gy];omega];have hlen:(Qkj l (b+1)).length=(Qkj l b).length+1:=by rw [hus];simp
   refine Qcd (xs:=[.tmp 26]) Yv sz5 rfl rfl rfl (by omega) ?_;refine Qs ?_;refine ⟨by simp [Y3],?_⟩;refine Qai ?_;refine Qs ?_;refine Qg9 hH 0 (Xj b) rfl Yv zi5 (by first | rfl | (simp;done) | omega) (fun h=>by (first | omega | (simp;done) | (simp;omega))) fun a' cap' w5 hc' hH2=>?_;(try refine Qs ?_);rw [<- hus] at hH2 ⊢;apply hK;clear hK;refine Qaj ?_;refine VS [3,5,18] ?_;refine Qab ?_;refine Qs ?_;exact ⟨256 - (b+1),by omega,b+1,cap',a',rfl,hH2,by omega,rfl⟩
  subst h;rw [if_neg (by simp),Yl] at hus;refine VC_skip ?_;refine Qaj ?_;refine VS [3,5,18] ?_;refine Qab ?_;refine Qs ?_;exact ⟨256 - (b+1),by omega,b+1,cap,a,by rw [hus];rfl,by rw [hus];exact hH,by omega,rfl⟩
 obtain rfl:b=256:=by omega
 refine Qag rfl ?_;refine VQ [2] fun K hK=>?_;refine ⟨Qbc l,hH.readsBytes 0 rfl,?_⟩;apply hK;clear hK;exact VC_ret (VX_ret1 rfl rfl ⟨hH.sub (by simp),rfl⟩)
def Qdi:List UInt8->List UInt8->Option (List Int)
 | _,[]=>some []
 | li,c::r=>if c∈li then (Qdi (Qgq li (li.idxOf c)) r).map ((li.idxOf c:Int)::·) else none
theorem Qke {li:List UInt8}{at_:Nat} (h:at_ < li.length):(Qgq li at_).length=li.length:=by simp [Qgq];omega
def Qm5 (sym l:List UInt8) (w:World) (v:Value) (w':World):Prop :=
 if Qno sym=true then match Qdi sym l with
  | none=>Heap w [] w' []/\v=.tuple #[.slice none 0 0,.int .i64 60]
  | some out=>∃ a cap,Heap w [] w' [Yo 3 1 a out.length cap (Qat out)]/\v=.tuple #[.slice a out.length cap,.int .i64 0]
 else Heap w [] w' []/\v=.tuple #[.slice none 0 0,.int .i64 2]
theorem QD7 (l sym:List UInt8) (hl:l.length<=1000000000000) (hs:sym.length<=1000000000000) (w:World):Does Yi 32 #[Str l,Str sym] w fun v w'=>Qm5 sym l w v w':=by
 refine En [Str l,Str sym] 52 Tryz.func32 ?_;refine VS [0,1] ?_;refine VQ [0,1,12] fun K hK=>?_;refine MemK_call Tryz.call57 ?_;refine Qs ?_;refine Ym (Qlb sym hs w) ?_;rintro v w2 ⟨rfl,rfl⟩;refine Qs ?_;apply hK;clear hK;refine Vi (fun h=>?_) (fun h=>?_)
 ·
  simp at h;refine VS [4,5] ?_;exact VC_ret (Qav rfl rfl rfl (by show Qm5 _ _ _ _ _;unfold Qm5;rw [if_neg (by simp [h])];exact ⟨Y2 _,rfl⟩))
 simp at h
 have hfo:∀ v w',Qm5 sym l w2 v w'=match Qdi sym l with
  | none=>Heap w2 [] w' []/\v=.tuple #[.slice none 0 0,.int .i64 60]
  | some out=>∃ a cap,Heap w2 [] w' [Yo 3 1 a out.length cap (Qat out)]/\v=.tuple #[.slice a out.length cap,.int .i64 0]:=fun v w'=>by unfold Qm5;rw [if_pos h]
 simp only [hfo];clear hfo h;generalize hfr:Qdi sym l=res at *;refine VC_skip ?_;refine VQ [0,6] fun K hK=>?_;refine Qrx ?_;refine Qs ?_;refine Qry (Y2 w2) Tryz.underlying9 Yv Tryz.underlying5 (by omega) fun gl cl w3 hH=>?_;apply hK;clear hK;refine VQ [0,6,7] fun K hK=>?_;refine Qbi Yn zi3 ?_;refine Qs ?_;refine ⟨0,l.length,⟨rfl,rfl,by omega,by omega,by omega⟩,?_⟩;have hH1:=hH.row 3 (n:=0) (cap:=l.length) (sz:=1) [] (Ya l.length (.int .i64 0)) (by simp) (by simp) (by omega) (by omega);simp only [Yp] at hH1;generalize w3.alloc (Yu (Ya l.length (Xn Xp 0)).toArray 3)=w4 at *;generalize w3.heap.size=go at *;apply hK;clear hK;generalize hn:l.length=n at *;refine VS [0,6,7,19,20] ?_;rw [hn];have hsl:sym.length<=1000000000000:=hs;generalize hm0:sym.length=sl_ at *;refine Qac ?_;refine Qad [0,6,7,19,20] (fun m e w'=>∃ (k cap:Nat) (a:Option Addr) (li:List UInt8) (out:List Int),Is e [(0,Str l),(6,.slice (some ⟨gl,0,none⟩) sl_ cl),(7,.slice a out.length cap),(19,.int .i64 n),(20,.int .i64 k)]/\Heap w2 [] w' [Yo 3 1 a out.length cap (Qat out),Yo 5 1 (some ⟨gl,0,none⟩) sl_ cl (Qar li)]/\li.length=sl_/\k<=n/\out.length=k/\res=(Qdi li (l.drop k)).map (out++·)/\m=n - k) n ?_ ?_
 ·
  refine Qs ?_;exact ⟨0,n,_,sym,[],rfl,hH1,hm0,by omega,rfl,by rw [Gp,hfr];simp,rfl⟩
 clear hH hH1 hfr;rintro m e w5 ⟨k,cap,a,li,out,rfl,hH,hli,hk,hol,hres,hm⟩;refine VS [0,6,7,19,20,21] ?_;(repeat refine Qax ?_);refine VD (fun h=>?_) (fun h=>?_)
 ·
  have hdk:l.drop k=l.getD k 0::l.drop (k+1):=drop_getD 0 (by omega);rw [hdk,Qdi] at hres;refine VC_skip ?_;refine VB ?_;refine VS [0,6,7,8,19,20] ?_;refine VS [0,6,7,8,9,19,20] ?_;refine VB ?_;refine Qad [0,6,7,8,9,19,20] (fun m e w'=>∃ (at_:Nat),Is e [(0,Str l),(6,.slice (some ⟨gl,0,none⟩) sl_ cl),(7,.slice a out.length cap),(8,.int .i64 k),(9,.int .i64 at_),(19,.int .i64 n),(20,.int .i64 k)]/\Is w' w5/\at_<=sl_/\l.getD k 0 ∉ li.take at_/\m=sl_ - at_) sl_ ?_ ?_
  ·
   refine Qs ?_;exact ⟨0,rfl,rfl,by omega,by simp,rfl⟩
  rintro m2 e w6 ⟨at_,rfl,rfl,hat,hnot,hm2⟩;refine Vq [0,6,7,8,9,19,20,36] fun K hK=>?_
  suffices hall:∀ bb:Bool,(bb=true ↔ (at_ < sl_/\li.getD at_ 0≠l.getD k 0))->K [(0,Str l),(6,.slice (some ⟨gl,0,none⟩) sl_ cl),(7,.slice a out.length cap),(8,.int .i64 k),(9,.int .i64 at_),(19,.int .i64 n),(20,.int .i64 k),(36,.bool bb)] by
   refine ⟨fun hg=>?_,fun hg=>hall _ (by simp;omega)⟩;refine ⟨⟨by omega,by omega⟩,_,Qa1 (hH.at 1 rfl) (bytesV_get (by omega)),⟨by omega,by omega⟩,?_⟩;refine Qs ?_;refine hall _ ?_;have:(li.getD at_ 0).toNat=(l.getD k 0).toNat ↔ li.getD at_ 0=l.getD k 0:=UInt8.toNat_inj;generalize li.getD at_ 0=c1 at *;generalize l.getD k 0=c2 at *;by_cases e:c1=c2
   ·
    subst e;simp
   have h3:c1.toNat≠c2.toNat:=fun h=>e (this.1 h);exact ⟨fun _=>⟨by omega,e⟩,fun _=>decide_eq_true (by omega)⟩
  intro bb hbb;apply hK;clear hK;refine Vi (fun h=>?_) (fun h=>?_)
  ·
   obtain ⟨h1,h2⟩:=hbb.1 h;refine VC_skip ?_;refine Qac ?_;refine VS [0,6,7,8,9,19,20] ?_;refine Qaj ?_;refine Qab ?_;refine Qs ?_;refine ⟨sl_ - (at_+1),by omega,at_+1,rfl,rfl,by omega,?_,rfl⟩;rw [Xf,Yc (by omega),Ua];rintro (h3 | h3)
   ·
    exact hnot h3
   have h4:l.getD k 0=li[at_]:=by simpa using h3
   apply h2;rw [h4,Yb,Yc (by omega)];rfl
  refine Qag rfl ?_
  have hstop:at_=sl_∨li.getD at_ 0=l.getD k 0:=by
   by_cases h1:at_ < sl_
   ·
    right;by_cases h2:li.getD at_ 0=l.getD k 0
    ·
     exact h2
    have:=hbb.2 ⟨h1,h2⟩
    simp_all
   left;omega
  clear hbb h;refine VS [0,6,7,9,19,20,42] ?_;refine VD (fun h=>?_) (fun h=>?_)
  ·
   obtain rfl:at_=sl_:=by omega
   rw [Yh (by omega)] at hnot;rw [if_neg hnot] at hres;subst hres;refine VS [4,5] ?_;exact VC_ret (Qav rfl rfl rfl ⟨hH.sub (by simp),rfl⟩)
  have hat2:at_ < sl_:=by omega
  have heq:li.getD at_ 0=l.getD k 0:=by rcases hstop with h1 | h1;omega;exact h1
  have hidx:li.idxOf (l.getD k 0)=at_:=by
   have e:=Yw at_ li;rw [drop_getD 0 (l:=li) (i:=at_) (by omega),heq] at e
   have h3:(li.take at_++l.getD k 0::li.drop (at_+1)).idxOf (l.getD k 0)=at_:=by
    rw [List.idxOf_append,if_neg hnot,List.idxOf_cons_self,Ys];omega
   rwa [e] at h3
  have hmem:l.getD k 0∈li:=by rw [<- heq];exact Qa3 0 (by omega)
  rw [if_pos hmem,hidx] at hres;refine VC_skip ?_;refine VQ [0,6,7,9,19,20] fun K hK=>?_;have hc:=Qsk li gl cl at_ (by omega) (by omega) w2 w6 [] _ (by rw [hli];exact hH.front 1 rfl);rw [hli] at hc;refine MemK_call Tryz.call58 ?_;refine Qs ?_;refine Ym hc ?_;clear hc;rintro v w7 ⟨hH2,rfl⟩;have hH3:=hH2.front 1 rfl;simp only [U6,U7] at hH3;apply hK;clear hK;refine VQ [0,6,7,19,20] fun K hK=>?_;refine Qcd (xs:=[.tmp 47]) Yn sz3 rfl rfl rfl (by omega) ?_;refine Qs ?_;refine ⟨by simp [Y3],?_⟩;refine Qai ?_;refine Qs ?_;refine Qge hH3 0 rfl Yn zi3 (fun h=>by (first | omega | (simp;done) | (simp;omega))) fun a' cap' w5 hc' hH4=>?_;(try refine Qs ?_);apply hK;clear hK;refine Qaj ?_;refine VS [0,6,7,19,20] ?_;refine Qab ?_;refine Qs ?_;refine ⟨n - (k+1),by omega,k+1,cap',a',Qgq li at_,out++[(at_:Int)],rfl,hH4,by rw [Qke (by omega)];exact hli,by omega,by simp [hol],?_,rfl⟩;rw [hres,Option.map_map]
  congr 1
  funext x;simp
 obtain rfl:k=n:=by omega
 rw [Xw (by omega),Qdi] at hres;simp only [Option.map_some,Yl] at hres;subst hres;refine Qag rfl ?_;refine VS [4,5] ?_;exact VC_ret (Qav rfl rfl rfl ⟨a,cap,hH.sub (by simp),rfl⟩)
def Qeb:List UInt8->List Int->Option (List UInt8)
 | _,[]=>some []
 | li,v::r=>if 0<=v/\v < li.length then (Qeb (Qgq li v.toNat) r).map (li.getD v.toNat 0::·) else none
def Qd9 (sym:List UInt8) (l:List Int):List UInt8×Int :=
 if Qno sym=true then match Qeb sym l with
  | none=>([],60)
  | some out=>(out,0)
 else ([],2)
theorem Qw2 (l:List Int) (sym:List UInt8) (la:Option Addr) (lc:Nat) (hl:l.length<=1000000000000) (hs:sym.length<=1000000000000) (hi:∀ v∈l,I64 v) (w:World) (hr:RS w la l.length 1 (Qat l)) :
  Does Yi 123 #[.slice la l.length lc,Str sym] w fun v w'=>Heap w [] w' []/\v=.tuple #[Str (Qd9 sym l).1,.int .i64 (Qd9 sym l).2]:=by
 refine En [.slice la l.length lc,Str sym] 41 Tryz.func123 ?_;refine VS [0,1] ?_;refine VQ [0,1,12] fun K hK=>?_;refine MemK_call Tryz.call57 ?_;refine Qs ?_;refine Ym (Qlb sym hs w) ?_;rintro v w2 ⟨rfl,rfl⟩;refine Qs ?_;apply hK;clear hK;refine Vi (fun h=>?_) (fun h=>?_)
 ·
  simp at h;refine VS [4,5] ?_;exact VC_ret (Qav rfl rfl rfl ⟨Y2 _,by rw [Qd9,if_neg (by simp [h])]⟩)
 simp at h
 have hbs:Qd9 sym l=match Qeb sym l with
  | none=>([],60)
  | some out=>(out,0):=by rw [Qd9,if_pos h]
 rw [hbs];clear hbs h;generalize hfr:Qeb sym l=res;refine VC_skip ?_;refine VQ [0,6] fun K hK=>?_;refine Qrx ?_;refine Qs ?_;refine Qry (Y2 w2) Tryz.underlying9 Yv Tryz.underlying5 (by omega) fun gl cl w3 hH=>?_;apply hK;clear hK;refine VQ [0,6,7] fun K hK=>?_;refine Qbi Yv zi5 ?_;refine Qs ?_;refine ⟨0,l.length,⟨rfl,rfl,by omega,by omega,by omega⟩,?_⟩;have hH1:=hH.row 5 (n:=0) (cap:=l.length) (sz:=1) [] (Ya l.length (.int .u8 0)) (by simp) (by simp) (by omega) (by omega);simp only [Yp] at hH1;generalize w3.alloc (Yu (Ya l.length (Xn G8 0)).toArray 5)=w4 at *;generalize w3.heap.size=go at *;apply hK;clear hK;generalize hn:l.length=n at *;refine VS [6,7,18,19,20] ?_;have hsl:sym.length<=1000000000000:=hs;generalize hm0:sym.length=sl_ at *;refine Qac ?_;refine Qad [6,7,18,19,20] (fun m e w'=>∃ (k cap:Nat) (a:Option Addr) (li out:List UInt8),Is e [(6,.slice (some ⟨gl,0,none⟩) sl_ cl),(7,.slice a out.length cap),(18,.slice la n lc),(19,.int .i64 n),(20,.int .i64 k)]/\Heap w2 [] w' [Yo 5 1 a out.length cap (Qar out),Yo 5 1 (some ⟨gl,0,none⟩) sl_ cl (Qar li)]/\li.length=sl_/\k<=n/\out.length=k/\res=(Qeb li (l.drop k)).map (out++·)/\m=n - k) n ?_ ?_
 ·
  refine Qs ?_;exact ⟨0,n,_,sym,[],rfl,hH1,hm0,by omega,rfl,by rw [Gp,hfr];simp,rfl⟩
 clear hH hH1 hfr;rintro m e w5 ⟨k,cap,a,li,out,rfl,hH,hli,hk,hol,hres,hm⟩;refine VS [6,7,18,19,20,21] ?_;(repeat refine Qax ?_);refine VD (fun h=>?_) (fun h=>?_)
 ·
  have hdk:l.drop k=l.getD k 0::l.drop (k+1):=drop_getD 0 (by omega);rw [hdk,Qeb] at hres;have hr5:=hH.rs' hr;obtain ⟨pa,rfl⟩:=Qbj hr (by omega);have hi64:=hi _ (Qa3 0 (l:=l) (i:=k) (by omega));have hcell:=Qht hr5 (i:=k) (by omega);generalize l.getD k 0=v at *;refine VC_skip ?_;refine VB ?_;refine VQ [6,7,9,18,19,20] fun K hK=>?_;refine ⟨⟨by omega,by omega⟩,_,hcell,?_⟩;apply hK;clear hK;refine VQ [6,7,9,18,19,20,31] fun K hK=>?_
  suffices hall:∀ bb:Bool,(bb=true ↔ (v < 0∨(sl_:Int)<=v))->K [(6,.slice (some ⟨gl,0,none⟩) sl_ cl),(7,.slice a out.length cap),(9,.int .i64 v),(18,.slice (some pa) n lc),(19,.int .i64 n),(20,.int .i64 k),(31,.bool bb)] w5 by (repeat' (first | exact hall _ _ (by first | omega | (simp;done) | (simp;omega)) | exact hall _ (by first | omega | (simp;done) | (simp;omega)) | refine ⟨fun _=>?_,fun _=>?_⟩ | refine Qo ?_))
  intro bb hbb;apply hK;clear hK;refine Vi (fun h=>?_) (fun h=>?_)
  ·
   have h2:=hbb.1 h;rw [if_neg (by omega)] at hres;subst hres;refine VS [4,5] ?_;exact VC_ret (Qav rfl rfl rfl ⟨hH.sub (by simp),rfl⟩)
  have h2:¬ (v < 0∨(sl_:Int)<=v):=fun h3=>by have:=hbb.2 h3;simp_all
  rw [if_pos (by omega)] at hres;obtain ⟨at_,rfl⟩:∃ p:Nat,v=p:=⟨v.toNat,by omega⟩;rw [Y8] at hres;clear hbb h;refine VC_skip ?_;refine VQ [6,7,18,19,20] fun K hK=>?_;have hc:=Qsk li gl cl at_ (by omega) (by omega) w2 w5 [] _ (by rw [hli];exact hH.front 1 rfl);rw [hli] at hc;refine MemK_call Tryz.call58 ?_;refine Qs ?_;refine Ym hc ?_;clear hc;rintro v w7 ⟨hH2,rfl⟩;have hH3:=hH2.front 1 rfl;simp only [U6,U7] at hH3;refine Qcd (xs:=[.tmp 35]) Yv sz5 rfl rfl rfl (by omega) ?_;refine Qs ?_;refine ⟨by simp [Y3],?_⟩;refine Qai ?_;refine Qs ?_;refine Qg9 hH3 0 (li.getD at_ 0) rfl Yv zi5 (by first | rfl | (simp;done) | omega) (fun h=>by (first | omega | (simp;done) | (simp;omega))) fun a' cap' w5 hc' hH4=>?_;(try refine Qs ?_);apply hK;clear hK;refine Qaj ?_;refine VS [6,7,18,19,20] ?_;refine Qab ?_;refine Qs ?_;refine ⟨n - (k+1),by omega,k+1,cap',a',Qgq li at_,out++[li.getD at_ 0],rfl,hH4,by rw [Qke (by omega)];exact hli,by omega,by simp [hol],?_,rfl⟩;rw [hres,Option.map_map]
  congr 1
  funext x;simp
 obtain rfl:k=n:=by omega
 rw [Xw (by omega),Qeb] at hres;simp only [Option.map_some,Yl] at hres;subst hres;refine Qag rfl ?_;refine VQ [4,5] fun K hK=>?_;refine ⟨out,hH.readsBytes 0 rfl,?_⟩;apply hK;clear hK;exact VC_ret (Qav rfl rfl rfl ⟨hH.sub (by simp),rfl⟩)
theorem QD8 {li:List UInt8}{c:UInt8} (h:c∈li):li.getD (li.idxOf c) 0=c:=by
 have h1:=Yz.2 h;rw [Yb,Yc h1,G5];exact Gu h1
theorem Qsn:∀ (l li:List UInt8) (out:List Int),Qdi li l=some out->Qeb li out=some l
 | [],li,out,h=>by
  simp only [Qdi,Option.some.injEq] at h;subst h;rfl
 | c::r,li,out,h=>by
  rw [Qdi] at h;split at h
  ·
   rename_i hc;have h1:=Yz.2 hc;rw [Ge] at h;obtain ⟨out',h2,rfl⟩:=h;rw [Qeb,if_pos (by omega),Y8,Qsn r _ out' h2,QD8 hc];rfl
  cases h
theorem Qpw:∀ (l li:List UInt8) (out:List Int),Qdi li l=some out->out.length=l.length/\∀ v∈out,0<=v/\v < li.length
 | [],li,out,h=>by
  simp only [Qdi,Option.some.injEq] at h;subst h;simp
 | c::r,li,out,h=>by
  rw [Qdi] at h;split at h
  ·
   rename_i hc;have h1:=Yz.2 hc;rw [Ge] at h;obtain ⟨out',h2,rfl⟩:=h;obtain ⟨h3,h4⟩:=Qpw r _ out' h2;rw [Qke h1] at h4;refine ⟨by simp [h3],fun v hv=>?_⟩;rcases Xt.1 hv with rfl | hv
   ·
    omega
   exact h4 v hv
  cases h
theorem QD9 {li:List UInt8}{at_:Nat} (h:at_ < li.length) (c:UInt8):c∈Qgq li at_ ↔ c∈li:=by
 have e:li=li.take at_++li.getD at_ 0::li.drop (at_+1):=by
  rw [<- Go.Eng.drop_getD 0 h,Yw]
 unfold Qgq
 conv=>rhs;rw [e]
 simp only [Xt,Ua];constructor
 ·
  rintro (h | h | h)
  ·
   exact .inr (.inl h)
  ·
   exact .inl h
  exact .inr (.inr h)
 rintro (h | h | h)
 ·
  exact .inr (.inl h)
 ·
  exact .inl h
 exact .inr (.inr h)
theorem Qso:∀ (l li:List UInt8),(∀ c∈l,c∈li)->∃ out,Qdi li l=some out
 | [],li,_=>⟨[],rfl⟩
 | c::r,li,h=>by
  have hc:=h c (by simp);have h1:=Yz.2 hc;obtain ⟨out,ho⟩:=Qso r (Qgq li (li.idxOf c)) fun d hd=>(QD9 h1 d).2 (h d (by simp [hd]));exact ⟨_,by rw [Qdi,if_pos hc,ho];rfl⟩
theorem Qif {l:List UInt8}{c:UInt8}:c∈Qbc l ↔ c∈l:=by
 simp only [Qbc,Qkj,Xh,Uu,Ul,Uo,beq_iff_eq];constructor
 ·
  rintro ⟨b,⟨hb,d,hd,rfl⟩,rfl⟩;simpa using hd
 intro h;exact ⟨c.toNat,⟨c.toNat_lt,c,h,rfl⟩,by simp⟩
theorem QLn:∀ (l:List Nat),l.Pairwise (· < ·)->(∀ b∈l,b < 256)->ascB (l.map Xj)=true
 | [],_,_=>rfl
 | [_],_,_=>rfl
 | a::b::r,h,hb=>by
  have h1:=List.pairwise_cons.1 h;have ha:=hb a (by simp);have hb1:=hb b (by simp);have h2:=h1.1 b (by simp);simp only [List.map_cons,ascB,U4,decide_eq_true_eq];refine ⟨by simp only [Gy];omega,?_⟩;have:=QLn (b::r) h1.2 fun x hx=>hb x (by simp [hx]);simpa using this
theorem Qlc {l:List UInt8} (h:l≠[]):Qno (Qbc l)=true:=by
 have h1:ascB (Qbc l)=true:=QLn _ (List.Pairwise.filter _ List.pairwise_lt_range) fun b hb=>by simp at hb;exact hb.1
 have h2:Qbc l≠[]:=fun e=>by
  cases l with
  | nil=>exact h rfl
  | cons c r=>have:=(Qif (l:=c::r) (c:=c)).2 (by simp);rw [e] at this;cases this
 rw [Qno,h1];cases hu:Qbc l with
 | nil=>exact absurd hu h2
 | cons=>rfl
def memB (u:List UInt8) (b:Nat):Bool:=u.any fun c=>c.toNat == b
def Qb5 (u:List UInt8) (i:Nat):Bool:=(Yf 16).any fun k=>memB u (16 * i+k)
def rowS (u:List UInt8) (i:Nat):List Bool:=(Yf 16).map fun k=>memB u (16 * i+k)
def Qe8 (u:List UInt8):List Bool:=(Yf 16).map (Qb5 u)++(Yf 16).flatMap fun i=>if Qb5 u i then rowS u i else []
def Qhx (i:Nat) (row:List Bool):List UInt8:=((Yf 16).filter fun k=>row.getD k false).map fun k=>Xj (16 * i+k)
def stGo (bits:List Bool):List Bool->Nat->Nat->Except Int (List UInt8×Nat)
 | [],_,at_=>.ok ([],at_)
 | false::r,i,at_=>stGo bits r (i+1) at_
 | true::r,i,at_=>if bits.length < at_+16 then .error 10 else match stGo bits r (i+1) (at_+16) with
  | .error e=>.error e
  | .ok q=>.ok (Qhx i ((bits.drop at_).take 16)++q.1,q.2)
def Qey (bits:List Bool) (at_:Nat):Except Int (List UInt8×Nat) :=
 if bits.length < at_+16 then .error 10 else match stGo bits ((bits.drop at_).take 16) 0 (at_+16) with
 | .error e=>.error e
 | .ok q=>if q.1=[] then .error 60 else .ok q
theorem Ql3 (u:List UInt8) (i:Nat):(rowS u i).length=16:=by simp [rowS]
theorem Qnp (u:List UInt8) (i:Nat):Qhx i (rowS u i)=(((Yf 16).map fun k=>16 * i+k).filter (memB u)).map Xj:=by
 unfold Qhx;rw [List.filter_map,List.map_map]
 have:(Yf 16).filter (fun k=>(rowS u i).getD k false)=(Yf 16).filter (memB u ∘ fun k=>16 * i+k):=by
  refine Um fun k hk=>?_;have hk:k < 16:=by simpa using hk
  simp [rowS,Yb,Uv hk]
 rw [this];rfl
theorem Qt9 {u:List UInt8}{i:Nat} (h:Qb5 u i=false):Qhx i (rowS u i)=[]:=by
 rw [Qnp,List.map_eq_nil_iff,List.filter_eq_nil_iff];intro b hb;obtain ⟨k,hk,rfl⟩:=Xh.1 hb;unfold Qb5 at h;rw [List.any_eq_false] at h;exact h k hk
theorem QO3 (u:List UInt8):∀ (n i:Nat) {bits:List Bool}{at_:Nat}{r:List Bool},bits.drop at_=((U2 i n).flatMap fun i=>if Qb5 u i then rowS u i else [])++r ->
  stGo bits ((U2 i n).map (Qb5 u)) i at_=.ok ((U2 i n).flatMap (fun i=>Qhx i (rowS u i)),at_+((U2 i n).flatMap fun i=>if Qb5 u i then rowS u i else []).length)
 | 0,i,bits,at_,r,_=>rfl
 | n+1,i,bits,at_,r,hb=>by
  rw [List.range'_succ] at hb ⊢;simp only [List.map_cons,Xq,Yg] at hb ⊢;cases h:Qb5 u i with
  | false =>
   rw [h] at hb;simp only [Bool.false_eq_true,if_false,Yp] at hb ⊢;rw [stGo,QO3 u n (i+1) hb,Qt9 h];simp
  | true =>
   rw [h] at hb;simp only [if_true] at hb ⊢;have hl:=Ql3 u i;have hlen:bits.length - at_=(rowS u i).length+(((U2 (i+1) n).flatMap fun i=>if Qb5 u i then rowS u i else [])++r).length:=by rw [<- Y5,hb,Ye]
   have ht:(bits.drop at_).take 16=rowS u i:=by
    rw [hb,Y7 (by omega),Yh (by omega)]
   have hd:=Qbz hb;rw [hl] at hd;rw [stGo,if_neg (by omega),QO3 u n (i+1) hd,ht];simp [hl];omega
theorem QGp (u:List UInt8):(Yf 16).flatMap (fun i=>Qhx i (rowS u i))=((Yf 256).filter (memB u)).map Xj:=by
 have e:Yf 256=(Yf 16).flatMap fun i=>(Yf 16).map fun k=>16 * i+k:=by decide
 rw [e,List.filter_flatMap,List.map_flatMap];simp only [Qnp]
theorem QGq (l:List UInt8) (b:Nat) (hb:b < 256):memB (Qbc l) b=l.any fun c=>c.toNat == b:=by
 unfold memB;rw [Bool.eq_iff_iff,Uo,Uo];constructor
 ·
  rintro ⟨c,hc,h⟩;exact ⟨c,Qif.1 hc,h⟩
 rintro ⟨c,hc,h⟩;exact ⟨c,Qif.2 hc,h⟩
theorem Qsp (l:List UInt8):((Yf 256).filter (memB (Qbc l))).map Xj=Qbc l:=by
 conv=>rhs;unfold Qbc Qkj
 congr 1
 refine Um fun b hb=>?_;rw [QGq l b (by simpa using hb)]
theorem Ql4 (u:List UInt8):(Qe8 u).length<=272:=by
 have h:∀ m,((Yf m).flatMap fun i=>if Qb5 u i then rowS u i else []).length<=16 * m:=fun m=>by
  induction m with
  | zero=>simp
  | succ m ih =>
   rw [Xg,List.flatMap_append,Ye];have:((if Qb5 u m=true then rowS u m else []):List Bool).length<=16:=by split <;> simp [Ql3]
   simp only [Xq,List.flatMap_nil,Yl];omega
 have:=h 16;unfold Qe8;simp only [Ye,Ub,Uj];omega
theorem QKg {l:List UInt8} (hl:l≠[]) {bits:List Bool}{at_:Nat}{r:List Bool} (hb:bits.drop at_=Qe8 (Qbc l)++r):Qey bits at_=.ok (Qbc l,at_+(Qe8 (Qbc l)).length):=by
 generalize hu:Qbc l=u at *;rw [Qe8,Yg] at hb;have h16:((Yf 16).map (Qb5 u)).length=16:=by simp
 have hlen:bits.length - at_=((Yf 16).map (Qb5 u)).length+(((Yf 16).flatMap fun i=>if Qb5 u i then rowS u i else [])++r).length:=by rw [<- Y5,hb,Ye]
 have ht:(bits.drop at_).take 16=(Yf 16).map (Qb5 u):=by
  rw [hb,Y7 (by omega),Yh (by omega)]
 have hd:=Qbz hb;rw [h16] at hd
 have hne:u≠[]:=fun e=>by
  cases l with
  | nil=>exact hl rfl
  | cons c r=>have:=(Qif (l:=c::r) (c:=c)).2 (by simp);rw [hu,e] at this;cases this
 rw [Qey,if_neg (by omega),ht];have:=QO3 u 16 0 (bits:=bits) (at_:=at_+16) (r:=r) (by rw [<- Gq];exact hd);rw [<- Gq] at this;rw [this,QGp,<- hu,Qsp];simp only;rw [if_neg (by rw [hu];exact hne)];simp [Qe8];omega
def ordN (l:List Nat):Nat->List Nat
 | 0=>[]
 | n+1=>ordN l n++idxs l (n+1)
def begS (l:List Nat) (n:Nat):Nat:=(ordN l (n - 1)).length
theorem Qzz (l:List Nat):∀ (n k:Nat),k < (ordN l n).length->(ordN l n).getD k 0 < l.length/\1<=l.getD ((ordN l n).getD k 0) 0/\k=begS l (l.getD ((ordN l n).getD k 0) 0)+(idxN l (l.getD ((ordN l n).getD k 0) 0) ((ordN l n).getD k 0)).length
 | 0,k,h=>by simp [ordN] at h
 | n+1,k,h=>by
  rw [ordN] at h ⊢;rcases Xe k (ordN l n).length with h1 | h1
  ·
   rw [Qc3 h1];exact Qzz l n k h1
  have h2:(ordN l n++idxs l (n+1)).getD k 0=(idxs l (n+1)).getD (k - (ordN l n).length) 0:=by
   rw [Yb,Yx h1,Yb]
  rw [h2];have h3:k - (ordN l n).length < (idxs l (n+1)).length:=by rw [Ye] at h;omega
  obtain ⟨a,b,c⟩:=QGi l (n+1) l.length _ h3;change (idxs l (n+1)).getD (k - (ordN l n).length) 0 < l.length at a;change l.getD ((idxs l (n+1)).getD (k - (ordN l n).length) 0) 0=n+1 at b;change (idxN l (n+1) ((idxs l (n+1)).getD (k - (ordN l n).length) 0)).length=_ at c;rw [b,c,begS,Xk];exact ⟨a,by omega,by omega⟩
theorem QBv {l:List Nat}{i:Nat} (hi:i < l.length) (h1:1<=l.getD i 0):∀ n,l.getD i 0<=n->i∈ordN l n
 | 0,h=>by omega
 | n+1,h=>by
  rw [ordN,Ua];rcases Xe n (l.getD i 0) with h2 | h2
  ·
   right;rw [show n+1=l.getD i 0 by omega];exact Qom.2 ⟨hi,rfl⟩
  exact .inl (QBv hi h1 n h2)
theorem QGr {l:List Nat}{n i k:Nat} (h:k < (ordN l n).length) (hk:(ordN l n).getD k 0=i):Qe5 l i+begS l (l.getD i 0)=Qbf l (l.getD i 0)+k:=by
 have:=(Qzz l n k h).2.2;rw [hk] at this;unfold Qe5;omega
theorem Qz0 (l:List Nat) {m n:Nat} (h:m<=n):∃ r,ordN l n=ordN l m++r:=by
 induction n with
 | zero=>exact ⟨[],by rw [show m=0 by omega];simp⟩
 | succ n ih =>
  rcases Xe m (n+1) with h1 | h1
  ·
   obtain ⟨r,hr⟩:=ih (by omega);exact ⟨_,by rw [ordN,hr,Yg]⟩
  exact ⟨[],by rw [show m=n+1 by omega];simp⟩
theorem QKh (l:List Nat) {n L j:Nat} (hn:1<=n) (hL:n<=L) (hj:j < cnt l n):begS l n+j < (ordN l L).length/\(ordN l L).getD (begS l n+j) 0=(idxs l n).getD j 0:=by
 obtain ⟨r,hr⟩:=Qz0 l hL;obtain ⟨m,rfl⟩:∃ m,n=m+1:=⟨n - 1,by omega⟩;have hb:begS l (m+1)=(ordN l m).length:=by rw [begS,Xk]
 have hj':j < (idxs l (m+1)).length:=hj;rw [hr,ordN,hb];constructor
 ·
  simp only [Ye];omega
 rw [Yg,Yb,Yx (by omega),Ue,Xb hj',Yb]
theorem QKi {l:List Nat}{n:Nat} (h:maxL l < n):cnt l n=0:=by
 rw [cnt,List.length_eq_zero_iff,List.eq_nil_iff_forall_not_mem];intro i hi;obtain ⟨h1,h2⟩:=Qom.1 hi;have:=Qit.1 (Uc (maxL l)) _ (Qa3 0 h1);omega
theorem Qop (l:List Nat) (n:Nat):(ordN l n).length<=n * l.length:=by
 induction n with
 | zero=>simp [ordN]
 | succ n ih =>
  have:=QBq l (n+1) l.length;rw [ordN,Ye,Uw];unfold idxs;omega
def Qec (sv ov:Value) (F Bg C:List Nat):List Value:=sv::ov::(Qak F++(Qak Bg++Qak C))
section
variable {sv ov:Value}{F Bg C:List Nat}
theorem QKj (hF:F.length=22) {n:Nat} (hn:n < 22):(Qec sv ov F Bg C)[2+n]? = some (.int .i64 (F.getD n 0:Nat)):=by
 rw [Qec,G3,List.getElem?_cons_succ,List.getElem?_cons_succ,Xb (by rw [Qal];omega),Qb4 (by omega)]
theorem QKk (hF:F.length=22) (hB:Bg.length=22) {n:Nat} (hn:n < 22):(Qec sv ov F Bg C)[24+n]? = some (.int .i64 (Bg.getD n 0:Nat)):=by
 rw [Qec,show 24+n=(22+n+1)+1 by omega,List.getElem?_cons_succ,List.getElem?_cons_succ,Yx (by rw [Qal];omega),Qal,hF,Ue,Xb (by rw [Qal];omega),Qb4 (by omega)]
theorem QBw (hF:F.length=22) (hB:Bg.length=22) (hC:C.length=22) {n:Nat} (hn:n < 22):(Qec sv ov F Bg C)[46+n]? = some (.int .i64 (C.getD n 0:Nat)):=by
 rw [Qec,show 46+n=(44+n+1)+1 by omega,List.getElem?_cons_succ,List.getElem?_cons_succ,Yx (by rw [Qal];omega),Qal,hF,Yx (by rw [Qal];omega),Qal,hB,show 44+n - 22 - 22=n by omega,Qb4 (by omega)]
theorem Qpx (hF:F.length=22) (hB:Bg.length=22) (hC:C.length=22):(Qec sv ov F Bg C).length=68:=by simp [Qec,Qal,hF,hB,hC]
theorem QO4 (hF:F.length=22) {n x:Nat} (hn:n < 22):(Qec sv ov F Bg C).set (2+n) (.int .i64 (x:Nat))=Qec sv ov (F.set n x) Bg C:=by
 rw [Qec,G3,Yj,Yj,X1 _ _ (by rw [Qal];omega),Qck];rfl
theorem QO5 (hF:F.length=22) (hB:Bg.length=22) {n x:Nat} (hn:n < 22):(Qec sv ov F Bg C).set (24+n) (.int .i64 (x:Nat))=Qec sv ov F (Bg.set n x) C:=by
 rw [Qec,show 24+n=(22+n+1)+1 by omega,Yj,Yj,Y9 _ _ (by rw [Qal];omega),Qal,hF,Ue,X1 _ _ (by rw [Qal];omega),Qck];rfl
theorem QO6 (hF:F.length=22) (hB:Bg.length=22) (hC:C.length=22) {n x:Nat} (hn:n < 22):(Qec sv ov F Bg C).set (46+n) (.int .i64 (x:Nat))=Qec sv ov F Bg (C.set n x):=by
 rw [Qec,show 46+n=(44+n+1)+1 by omega,Yj,Yj,Y9 _ _ (by rw [Qal];omega),Qal,hF,Y9 _ _ (by rw [Qal];omega),Qal,hB,show 44+n - 22 - 22=n by omega,Qck];rfl
end
theorem Qpy {α:Type} (f:Nat->α) (n:Nat) (d:α) (i:Nat) (h:i < n):((Yf n).map f).getD i d=f i:=by
 rw [Yb,U0,Uv h];rfl
def upTo (f:Nat->Nat) (n:Nat):List Nat:=(Yf 22).map fun j=>if j < n then f j else 0
theorem Qhy (f:Nat->Nat) (n:Nat):(upTo f n).length=22:=by simp [upTo]
theorem QBx (f:Nat->Nat) {n j:Nat} (hj:j < 22):(upTo f n).getD j 0=if j < n then f j else 0:=Qpy _ _ _ _ hj
theorem Qua (f:Nat->Nat) (n:Nat) (hn:n < 22):(upTo f n).set n (f n)=upTo f (n+1):=by
 apply Up
 ·
  simp [upTo]
 intro j h1 h2;have hj:j < 22:=by simpa [upTo] using h2
 rw [List.getElem_set];simp only [upTo,U8,Uy];by_cases e:n=j
 ·
  subst e;rw [if_pos rfl,if_pos (by omega)]
 rw [if_neg e];by_cases h3:j < n
 ·
  rw [if_pos h3,if_pos (by omega)]
 rw [if_neg h3,if_neg (by omega)]
theorem Qnq (l:List Nat) (hs:l.length<=1000000000) (a:Option Addr) (lc:Nat) (w:World) (hr:RS w a l.length 1 (Qak l)) :
  Does Yi 135 #[.agg #[.slice a l.length lc]] w fun v w'=>Heap w [] w' []/\v=.int .i64 (maxL l:Nat):=by
 have hen:#[Uq #[Us a l.length lc]]=[Uq [Us a l.length lc].toArray].toArray:=rfl;rw [hen];refine Qdx 18 Tryz.func135 rfl rfl (of_decide_eq_true rfl) ?_;simp only [Env.ofArgs];generalize hn:l.length=n at *;refine VQ [1] fun K hK=>?_;refine Qch ?_;refine Qs ?_;have hH:=(Y2 w).box 171 [.slice a n lc];generalize w.alloc (Yu [Us a n lc].toArray 171)=w1 at *;generalize w.heap.size=gz at *;apply hK;clear hK;refine VS [1,3] ?_;refine VQ [3,7,8,9] fun K hK=>?_;refine ⟨_,Qah (hH.at 0 rfl) rfl,?_⟩;refine Qs ?_;apply hK;clear hK;refine Qac ?_;refine Qad [3,7,8,9] (fun m e w'=>∃ (i:Nat),Is e [(3,.int .i64 (maxL (l.take i):Nat)),(7,.slice a n lc),(8,.int .i64 n),(9,.int .i64 i)]/\Is w' w1/\i<=n/\m=n - i) n ?_ ?_
 ·
  refine Qs ?_;exact ⟨0,rfl,rfl,by omega,rfl⟩
 rintro m e w' ⟨i,rfl,rfl,hi,rfl⟩;refine VS [3,7,8,9,10] ?_;(repeat refine Qax ?_);refine VD (fun h=>?_) (fun h=>?_)
 ·
  obtain ⟨p,rfl⟩:=Qbj hr (by omega);have hcell:=Qbr (hH.rs' hr) (i:=i) (by omega);have hs2:=Qh4 (l:=l) (i:=i) (by omega);refine VC_skip ?_;refine VB ?_;refine VQ [3,5,7,8,9] fun K hK=>?_;refine ⟨⟨by omega,by omega⟩,_,hcell,?_⟩;apply hK;clear hK;refine VQ [3,7,8,9] fun K hK=>?_;rw [show max ((maxL (l.take i):Nat):Int) ((l.getD i 0:Nat):Int)=((maxL (l.take (i+1)):Nat):Int) by rw [hs2];omega];apply hK;clear hK;refine Qaj ?_;refine VS [3,7,8,9] ?_;refine Qab ?_;refine Qs ?_;exact ⟨n - (i+1),by omega,i+1,rfl,rfl,by omega,rfl⟩
 refine Qag rfl ?_;refine VS [2] ?_;refine VC_ret (VX_ret1 rfl rfl ⟨hH.sub (by simp),?_⟩);rw [Yh (by omega)]
def tabB (g:Nat) (sv:Value) (ao:Option Addr) (co no:Nat) (F Bg C:List Nat):Res:=Yr g 174 (Qec sv (.slice ao no co) F Bg C)
def tabR (g:Nat) (sv:Value) (ao:Option Addr) (co:Nat) (l:List Nat):Res:=tabB g sv ao co (ordN l (maxL l)).length (upTo (Qbf l) (maxL l+1)) (upTo (begS l) (maxL l+1)) (upTo (cnt l) (maxL l+1))
def ordR (ao:Option Addr) (co:Nat) (l:List Nat):Res:=Yo 3 1 ao (ordN l (maxL l)).length co (Qak (ordN l (maxL l)))
theorem Qoq {l:List Nat} (h:okL l):1<=maxL l/\maxL l<=20:=by
 refine ⟨?_,Qit.2 fun x hx=>(h.2.2.1 x hx).2⟩;obtain ⟨h1,_,h3,_⟩:=h;cases l with
 | nil=>simp at h1
 | cons x l=>exact Gd (h3 x (by simp)).1 (Qit.1 (Uc _) x (by simp))
theorem Qub {f:Nat->Nat} (h:f 0=0):upTo f 1=Ya 22 0:=by
 apply Up
 ·
  simp [upTo]
 intro j h1 h2;simp only [upTo,U8,Uy,List.getElem_replicate];split
 ·
  rw [show j=0 by omega,h]
 rfl
section
variable {w0 w:World}{B:List Nat}{G:List Res}{g:Nat}{sv:Value}{ao:Option Addr}{co no:Nat}{F Bg C:List Nat}{D:World->Prop}
theorem Qz1 (hH:Heap w0 B w G) (i:Nat) {n x:Nat} (hi:G[i]? = some (tabB g sv ao co no F Bg C)) (lF:F.length=22) (lB:Bg.length=22) (lC:C.length=22) (hn:n < 22)
  (h:∀ w',Heap w0 B w' (G.set i (tabB g sv ao co no (F.set n x) Bg C))->D w'):Qi7 Yi 3 (.pointer (some ⟨g,2+n,none⟩)) (.int .i64 (x:Nat)) w D:=by
 refine Qae hH i (o:=2+n) (vs:=[.int .i64 (x:Nat)]) hi rfl (by kernel_rfl) (by rw [Qpx lF lB lC];simp;omega) (by simp [Yq]) fun w' hH2=>h w' ?_;rw [Yk,Qcb _ _ _ (by rw [Qpx lF lB lC];omega),QO4 lF hn] at hH2;exact hH2
theorem Qz2 (hH:Heap w0 B w G) (i:Nat) {n x:Nat} (hi:G[i]? = some (tabB g sv ao co no F Bg C)) (lF:F.length=22) (lB:Bg.length=22) (lC:C.length=22) (hn:n < 22)
  (h:∀ w',Heap w0 B w' (G.set i (tabB g sv ao co no F (Bg.set n x) C))->D w'):Qi7 Yi 3 (.pointer (some ⟨g,24+n,none⟩)) (.int .i64 (x:Nat)) w D:=by
 refine Qae hH i (o:=24+n) (vs:=[.int .i64 (x:Nat)]) hi rfl (by kernel_rfl) (by rw [Qpx lF lB lC];simp;omega) (by simp [Yq]) fun w' hH2=>h w' ?_;rw [Yk,Qcb _ _ _ (by rw [Qpx lF lB lC];omega),QO5 lF lB hn] at hH2;exact hH2
theorem Qz3 (hH:Heap w0 B w G) (i:Nat) {n x:Nat} (hi:G[i]? = some (tabB g sv ao co no F Bg C)) (lF:F.length=22) (lB:Bg.length=22) (lC:C.length=22) (hn:n < 22)
  (h:∀ w',Heap w0 B w' (G.set i (tabB g sv ao co no F Bg (C.set n x)))->D w'):Qi7 Yi 3 (.pointer (some ⟨g,46+n,none⟩)) (.int .i64 (x:Nat)) w D:=by
 refine Qae hH i (o:=46+n) (vs:=[.int .i64 (x:Nat)]) hi rfl (by kernel_rfl) (by rw [Qpx lF lB lC];simp;omega) (by simp [Yq]) fun w' hH2=>h w' ?_;rw [Yk,Qcb _ _ _ (by rw [Qpx lF lB lC];omega),QO6 lF lB lC hn] at hH2;exact hH2
theorem Qz4 (hH:Heap w0 B w G) (i:Nat) {ao':Option Addr}{co' no':Nat} (hi:G[i]? = some (tabB g sv ao co no F Bg C)) (lF:F.length=22) (lB:Bg.length=22) (lC:C.length=22)
  (h:∀ w',Heap w0 B w' (G.set i (tabB g sv ao' co' no' F Bg C))->D w'):Qi7 Yi 51 (.pointer (some ⟨g,1,none⟩)) (.slice ao' no' co') w D:=by
 refine Qae hH i (o:=1) (vs:=[.slice ao' no' co']) hi rfl (by kernel_rfl) (by rw [Qpx lF lB lC];simp) (by simp [Yq]) fun w' hH2=>h w' ?_;exact hH2
end
theorem Qw3 (l:List Nat) (hok:okL l) (a:Option Addr) (lc:Nat) (w:World) (hr:RS w a l.length 1 (Qak l)) :
  Does Yi 103 #[.slice a l.length lc] w fun v w'=>∃ g ao co,Heap w [] w' [tabR g (.slice a l.length lc) ao co l,ordR ao co l]/\v=.tuple #[.pointer (some ⟨g,0,none⟩),.int .i64 0]:=by
 have hc1:=Qiw l a lc w hr;rw [if_pos (Ql2.2 hok)] at hc1;obtain ⟨hL1,hL20⟩:=Qoq hok;have hfl:=fun n hn=>Qkc hok (n:=n) hn;have hc0:cnt l 0=0:=Qlz fun x hx=>(hok.2.2.1 x hx).1;obtain ⟨hl2,hl258,_,_⟩:=hok;have hcl:=Qnq l (by omega) a lc;refine En [.slice a l.length lc] 84 Tryz.func103 ?_;unfold tabR ordR tabB;generalize hLL:maxL l=L at *;generalize hn:l.length=n at *;obtain ⟨p,rfl⟩:=Qbj hr (by omega);refine VQi [0] fun K hK=>?_;apply hK;clear hK;refine VQi [0,4] fun K hK=>?_;refine MemK_call Tryz.call102 ?_;refine Qi ?_;refine Ym hc1 ?_;rintro v w2 ⟨rfl,rfl⟩;apply hK;clear hK;refine VQi [0,4,13] fun K hK=>?_;apply hK;clear hK;refine Qaf rfl rfl (fun h=>by simp at h) (fun h=>VC_skip ?_);clear h hc1;refine VQi [5] fun K hK=>?_;refine Qch ?_;refine Qi ?_
 suffices hsuf:K [(5,.pointer (some ⟨w2.heap.size,0,none⟩))] (w2.alloc (Yu (Qec (.slice (some p) n lc) (.slice none 0 0) (Ya 22 0) (Ya 22 0) (Ya 22 0)).toArray 174)) from hsuf
 have hH:=((Y2 w2).box 174 (Qec (.slice (some p) n lc) (.slice none 0 0) (Ya 22 0) (Ya 22 0) (Ya 22 0))).nilRow 3 1;generalize w2.alloc (Yu (Qec (.slice (some p) n lc) (.slice none 0 0) (Ya 22 0) (Ya 22 0) (Ya 22 0)).toArray 174)=w3 at *;generalize w2.heap.size=g at *;apply hK;clear hK;refine VQi [5,6] fun K hK=>?_;apply hK;clear hK;refine VQi [5,6,7] fun K hK=>?_;apply hK;clear hK;refine Qac ?_;refine Qad [5,6,7] (fun m e w'=>∃ (j:Nat) (ao:Option Addr) (co:Nat),Is e [(5,.pointer (some ⟨g,0,none⟩)),(6,.int .i64 (Qbf l j+cnt l j:Nat)),(7,.int .i64 (j+1:Nat))]/\Heap w2 [] w' [Yo 3 1 ao (ordN l j).length co (Qak (ordN l j)),tabB g (.slice (some p) n lc) ao co (ordN l j).length (upTo (Qbf l) (j+1)) (upTo (begS l) (j+1)) (upTo (cnt l) (j+1))]/\j<=L/\m=L - j) L ?_ ?_
 ·
  refine Qi ?_;refine ⟨0,none,0,?_,?_,by omega,rfl⟩
  ·
   rw [hc0];rfl
  rw [Qub rfl,Qub rfl,Qub hc0];exact hH
 clear hH;rintro m e w4 ⟨j,ao,co,rfl,hH,hj,rfl⟩;have hcz:(Qec (.slice (some p) n lc) (.slice ao (ordN l j).length co) (upTo (Qbf l) (j+1)) (upTo (begS l) (j+1)) (upTo (cnt l) (j+1)))[0]? = some (.slice (some p) n lc):=rfl
 have hsv:Reads w4 ⟨g,0,none⟩ [.slice (some p) n lc]:=by
  intro q u hu;cases q with
  | zero =>
   simp at hu;subst hu;exact Qah (hH.at 1 rfl) hcz
  | succ q=>simp at hu
 have hol:=Qop l j;rw [hn] at hol;have hol2:(ordN l j).length<=20 * 258:=Gd hol (X3 (by omega) hl258);have hf1:=hfl j (by omega);have hp2:2 ^ j<=2 ^ 20:=Yt (by omega) (by omega);have hp3:2 ^ j<=1048576:=hp2;refine VQi [5,6,7,25] fun K hK=>?_;refine ⟨_,⟨rfl,hsv⟩,?_⟩;refine MemK_call Tryz.call135 ?_;refine Qi ?_;refine Ym (hcl w4 (hH.rs' hr)) ?_;rintro v w5 ⟨hHl,rfl⟩;have hH2:=hH.call0 hHl;simp only [Yp] at hH2;clear hH hHl hsv;refine Qi ?_;apply hK;clear hK;refine VD (fun h=>?_) (fun h=>?_)
 ·
  have hj2:j+1<=L:=by omega
  have hf2:=hfl (j+1) (by omega);have hp4:2 ^ (j+1)<=2 ^ 20:=Yt (by omega) (by omega);have hp5:2 ^ (j+1)<=1048576:=hp4;have hfs:Qbf l (j+1)=(Qbf l j+cnt l j) * 2:=by rw [Qbf,U9]
  have hbs:begS l (j+1)=(ordN l j).length:=by rw [begS,Xk]
  have hsF:=Qua (Qbf l) (j+1) (by omega);have hsB:=Qua (begS l) (j+1) (by omega);have hsC:=Qua (cnt l) (j+1) (by omega);have lF:=Qhy (Qbf l) (j+1);have lB:=Qhy (begS l) (j+1);have lC:=Qhy (cnt l) (j+1);have lF2:=Qhy (Qbf l) (j+1+1);have lB2:=Qhy (begS l) (j+1+1);have hcnt:(idxN l (j+1) n).length=cnt l (j+1):=by rw [cnt,idxs,hn]
  have hoS:ordN l (j+1)=ordN l j++idxN l (j+1) n:=by rw [ordN,idxs,hn]
  generalize hFF:upTo (Qbf l) (j+1)=F at *;generalize hBB:upTo (begS l) (j+1)=Bg at *;generalize hCC:upTo (cnt l) (j+1)=C at *;generalize hO:ordN l j=O at *;refine VC_skip ?_
  ((repeat refine Qax ?_);refine Qac ?_)
  refine VQi [5,6,7] fun K hK=>?_;rw [show shN Xp 1=1 from rfl,show (((Qbf l j+cnt l j:Nat):Int) * 2 ^ 1)=((Qbf l (j+1):Nat):Int) by rw [hfs];push_cast;rfl];(repeat first | refine Qo ?_ | refine ⟨⟨by omega,by omega⟩,?_⟩);apply hK;clear hK;(repeat refine Qax ?_);refine Qms [5,6,7] [(0,0),(1,0),(2,0),(3,0),(4,0),(5,0),(6,0),(7,0),(10,0),(11,0),(14,0),(15,0),(8,1),(9,0),(12,0),(13,2),(16,0),(17,2)] (by kernel_rfl) (by kernel_rfl) (by kernel_rfl) (by simp only [Qbd,List.map_cons,List.map_nil,beq_self_eq_true,Nat.reduceBEq,List.filterMap_cons,List.filterMap_nil,List.getElem?_cons_succ,List.getElem?_cons_zero,Option.map_some];rfl) fun K hK=>?_;refine Qi ?_;refine ⟨_,Qah (hH2.at 1 rfl) (show (Qec (.slice (some p) n lc) (.slice ao O.length co) F Bg C)[1]? = some _ from rfl),?_⟩;refine Qi ?_;refine ⟨⟨by omega,by omega⟩,?_⟩;refine Qaa ?_;refine Qi ?_;refine Qz1 hH2 1 (n:=j+1) rfl lF lB lC (by omega) fun w6 hH3=>?_;simp only [Yj,Yd,hsF] at hH3;refine ⟨⟨by omega,by omega⟩,?_⟩;refine Qaa ?_;refine Qi ?_;rw [<- hbs];refine Qz2 hH3 1 (n:=j+1) rfl lF2 lB lC (by omega) fun w7 hH4=>?_;simp only [Yj,Yd,hsB] at hH4;clear hH2 hH3;apply hK;clear hK;refine VQi [5,6,7,50,51,52] fun K hK=>?_;refine ⟨_,Qah (hH4.at 1 rfl) (show (Qec (.slice (some p) n lc) (.slice ao (begS l (j+1)) co) (upTo (Qbf l) (j+1+1)) (upTo (begS l) (j+1+1)) C)[0]? = some _ from rfl),?_⟩;refine Qi ?_;apply hK;clear hK;refine Qac ?_;refine Qad [5,6,7,50,51,52] (fun m e w'=>∃ (i:Nat) (ao:Option Addr) (co:Nat),Is e [(5,.pointer (some ⟨g,0,none⟩)),(6,.int .i64 (Qbf l (j+1)+(idxN l (j+1) i).length:Nat)),(7,.int .i64 (j+1:Nat)),(50,.slice (some p) n lc),(51,.int .i64 n),(52,.int .i64 i)]/\Heap w2 [] w' [Yo 3 1 ao (O++idxN l (j+1) i).length co (Qak (O++idxN l (j+1) i)),tabB g (.slice (some p) n lc) ao co (O++idxN l (j+1) i).length (upTo (Qbf l) (j+1+1)) (upTo (begS l) (j+1+1)) (C.set (j+1) (idxN l (j+1) i).length)]/\i<=n/\m=n - i) n ?_ ?_
  ·
   refine Qi ?_;have e0:idxN l (j+1) 0=[]:=rfl;refine ⟨0,ao,co,rfl,?_,by omega,rfl⟩
   have hcs:C.set (j+1) (idxN l (j+1) 0).length=C:=by
    rw [e0,Ut];apply Up
    ·
     simp
    intro q h1 h2;rw [List.getElem_set];split
    ·
     rename_i e;subst e;have:=QBx (cnt l) (n:=j+1) (j:=j+1) (by omega);rw [hCC,if_neg (by omega),Yb,Yc h2] at this;exact this.symm
    rfl
   rw [hcs,e0,Yl];exact hH4
  clear hH4;rintro m e w8 ⟨i,ao,co,rfl,hH,hi,rfl⟩;refine VQi [5,6,7,50,51,52,53] fun K hK=>?_;apply hK;clear hK;(repeat refine Qax ?_);refine VD (fun h=>?_) (fun h=>?_)
  ·
   have hcell:=Qbr (hH.rs' hr) (i:=i) (by omega);have hix:=Qic l (j+1) i;have hil:=QBq l (j+1) i;have hlC:(C.set (j+1) (idxN l (j+1) i).length).length=22:=by rw [Xy];exact lC
   have hgC:(C.set (j+1) (idxN l (j+1) i).length).getD (j+1) 0=(idxN l (j+1) i).length:=Qc8 (by omega);have hset:∀ x,(C.set (j+1) (idxN l (j+1) i).length).set (j+1) x=C.set (j+1) x:=fun x=>List.set_set _;generalize hx:l.getD i 0=x at *;generalize hI:idxN l (j+1) i=I at *;refine VC_skip ?_
   ((repeat refine Qax ?_);refine Qac ?_)
   refine VQi [5,6,7,8,9,50,51,52] fun K hK=>?_;refine ⟨⟨by omega,by omega⟩,_,hcell,?_⟩;apply hK;clear hK;refine VQi [5,6,7,8,50,51,52,59] fun K hK=>?_;apply hK;clear hK;refine VD (fun h=>?_) (fun h=>?_)
   ·
    rw [if_pos (by omega)] at hix;refine VQi [5,6,7,50,51,52] fun K hK=>?_;refine ⟨_,Qah (hH.at 1 rfl) (show (Qec (.slice (some p) n lc) (.slice ao (O++I).length co) (upTo (Qbf l) (j+1+1)) (upTo (begS l) (j+1+1)) (C.set (j+1) I.length))[1]? = some _ from rfl),?_⟩;refine Qcd (xs:=[.tmp 65]) Yn sz3 rfl rfl rfl (by omega) ?_;refine Qi ?_;refine ⟨by simp [Y3],?_⟩;refine Qai ?_;refine Qi ?_;refine Qiv hH 0 (i) rfl Yn zi3 (by first | rfl | (simp;done) | omega | (simp;omega)) (fun h=>by (first | omega | (simp;done) | (simp;omega))) fun a' cap' w5 hc' hH5=>?_;(try refine Qi ?_);simp only [Yd] at hH5;rw [Yg,<- hix] at hH5 ⊢;refine Qaa ?_;refine Qi ?_;refine Qz4 hH5 1 rfl lF2 lB2 hlC fun w9 hH6=>?_;simp only [Yj,Yd] at hH6;clear hH5;apply hK;clear hK;have hcc:=QBw (sv:=.slice (some p) n lc) (ov:=.slice a' (O++idxN l (j+1) (i+1)).length cap') lF2 lB2 hlC (n:=j+1) (by omega);rw [hgC] at hcc;(repeat refine Qax ?_);refine Qj6 [5,6,7,50,51,52] 10 (by kernel_rfl) (by kernel_rfl) (by kernel_rfl) rfl fun K hK=>?_;refine Qi ?_;refine ⟨⟨by omega,by omega⟩,_,Qah (hH6.at 1 rfl) hcc,?_⟩;refine Qi ?_;refine ⟨Xu (by omega) (by omega),⟨by omega,by omega⟩,?_⟩;refine Qaa ?_;refine Qi ?_;refine Qz3 hH6 1 (n:=j+1) (x:=I.length+1) rfl lF2 lB2 hlC (by omega) fun w10 hH7=>?_;simp only [Yj,Yd,hset] at hH7;apply hK;clear hK;refine VQi [5,6,7,50,51,52] fun K hK=>?_;(repeat refine Qo ?_);apply hK;clear hK;refine Qaj ?_;refine VQi [5,6,7,50,51,52] fun K hK=>?_;(repeat refine Qo ?_);apply hK;clear hK;refine Qab ?_;refine Qi ?_;have hil2:(idxN l (j+1) (i+1)).length=I.length+1:=by rw [hix];simp
    refine ⟨n - (i+1),by omega,i+1,a',cap',?_,?_,by omega,rfl⟩
    ·
     rw [hil2];rfl
    rw [hil2];exact hH7
   rw [if_neg (by omega),Yl] at hix;refine VC_skip ?_;refine Qaj ?_;refine VQi [5,6,7,50,51,52] fun K hK=>?_;(repeat refine Qo ?_);apply hK;clear hK;refine Qab ?_;refine Qi ?_;exact ⟨n - (i+1),by omega,i+1,ao,co,by rw [hix];rfl,by rw [hix];exact hH,by omega,rfl⟩
  obtain rfl:i=n:=by omega
  rw [hcnt,hsC,<- hoS] at hH;refine Qag rfl ?_;refine Qaj ?_;rw [hcnt];refine VQi [5,6,7] fun K hK=>?_;(repeat refine Qo ?_);apply hK;clear hK;refine Qab ?_;refine Qi ?_;exact ⟨L - (j+1),by omega,j+1,ao,co,rfl,hH,by omega,rfl⟩
 obtain rfl:j=L:=by omega
 refine Qag rfl ?_;refine VQi [2,3] fun K hK=>?_;apply hK;clear hK;exact VC_ret (Qav rfl rfl rfl ⟨g,ao,co,hH2.perm (List.Perm.swap _ _ _),rfl⟩)
def Qdh (l:List Nat):List Nat:=(Yf l.length).map (Qe5 l)
theorem Qm6 (l:List Nat):(Qdh l).length=l.length:=by simp [Qdh]
theorem QGs {g n lc:Nat}{p:Addr}{ao:Option Addr}{co:Nat}{l:List Nat}{w:World} (h:(tabR g (.slice (some p) n lc) ao co l).holds w) {k:Nat} (hk:k<=maxL l) (hL:maxL l<=20) :
  w.cell? ⟨g,2+k,none⟩=some (.int .i64 (Qbf l k:Nat))/\w.cell? ⟨g,24+k,none⟩=some (.int .i64 (begS l k:Nat))/\w.cell? ⟨g,46+k,none⟩=some (.int .i64 (cnt l k:Nat)):=by
 have lF:=Qhy (Qbf l) (maxL l+1);have lB:=Qhy (begS l) (maxL l+1);have lC:=Qhy (cnt l) (maxL l+1);have h1:=QKj (sv:=.slice (some p) n lc) (ov:=.slice ao (ordN l (maxL l)).length co) (Bg:=upTo (begS l) (maxL l+1)) (C:=upTo (cnt l) (maxL l+1)) lF (n:=k) (by omega);have h2:=QKk (sv:=.slice (some p) n lc) (ov:=.slice ao (ordN l (maxL l)).length co) (C:=upTo (cnt l) (maxL l+1)) lF lB (n:=k) (by omega);have h3:=QBw (sv:=.slice (some p) n lc) (ov:=.slice ao (ordN l (maxL l)).length co) lF lB lC (n:=k) (by omega);rw [QBx _ (by omega),if_pos (by omega)] at h1 h2 h3;exact ⟨Qah h h1,Qah h h2,Qah h h3⟩
theorem Qw4 {g n lc:Nat}{p:Addr}{ao:Option Addr}{co:Nat}{l:List Nat}{w:World} (h:(tabR g (.slice (some p) n lc) ao co l).holds w):w.cell? ⟨g,0,none⟩=some (.slice (some p) n lc)/\w.cell? ⟨g,1,none⟩=some (.slice ao (ordN l (maxL l)).length co)/\Reads w ⟨g,0,none⟩ [.slice (some p) n lc]:=by
 have h0:w.cell? ⟨g,0,none⟩=some (.slice (some p) n lc):=Qah h (k:=0) rfl;refine ⟨h0,Qah h (k:=1) rfl,fun q u hu=>?_⟩;cases q with
 | zero=>simp at hu;subst hu;exact h0
 | succ q=>simp at hu
theorem Qw5 (l:List Nat) (hok:okL l) (g:Nat) (p:Addr) (lc:Nat) (ao:Option Addr) (co:Nat) (w0 w:World) (G:List Res) (hr:RS w0 (some p) l.length 1 (Qak l)) (hL:Heap w0 [] w (tabR g (.slice (some p) l.length lc) ao co l::ordR ao co l::G)) :
  Does Yi 104 #[.pointer (some ⟨g,0,none⟩)] w fun v w'=>∃ a cap,Heap w0 [] w' (Yo 3 1 a (Qdh l).length cap (Qak (Qdh l))::tabR g (.slice (some p) l.length lc) ao co l::ordR ao co l::G)/\v=.slice a (Qdh l).length cap:=by
 obtain ⟨hL1,hL20⟩:=Qoq hok;have hat:=fun i hi=>Qnl hok (i:=i) hi;have hfl:=fun n hn=>Qkc hok (n:=n) hn
 have hbl:∀ n,n<=20->begS l n<=5160:=fun n hn=>by
  have:=Qop l (n - 1);have h2:=X3 (show n - 1<=20 by omega) hok.2.1;unfold begS;omega
 obtain ⟨hl2,hl258,hin,_⟩:=id hok;refine En [.pointer (some ⟨g,0,none⟩)] 52 Tryz.func104 ?_;have hcl:=Qm6 l;generalize hn:l.length=n at *;refine VS [0] ?_;refine VQ [0,3] fun K hK=>?_;refine ⟨_,(Qw4 (hL.at 0 rfl)).1,?_⟩;refine Qs ?_;refine Qbi Yn zi3 ?_;refine Qs ?_;refine ⟨n,n,⟨rfl,rfl,by omega,by omega,by omega⟩,?_⟩;have hH:=hL.row 3 (n:=n) (cap:=n) (sz:=1) (Qak (Ya n 0)) [] (by simp [Qal]) (by simp [Qal]) (by omega) (by omega);have er:Qak (Ya n 0)=Ya n (.int .i64 0):=by simp [Qak]
 rw [Yl,er] at hH;generalize w.alloc (Yu (Ya n (Xn Xp 0)).toArray 3)=w1 at *;generalize w.heap.size=gu at *;rw [<- er] at hH;clear hL;apply hK;clear hK;refine VQ [0,3,17,18,19] fun K hK=>?_;refine ⟨_,(Qw4 (hH.at 1 rfl)).2.1,?_⟩;refine Qs ?_;apply hK;clear hK;have hol:=Qop l (maxL l)
 have hol2:(ordN l (maxL l)).length<=5160:=by
  have h2:=X3 hL20 hl258;rw [hn] at hol;omega
 generalize hoL:(ordN l (maxL l)).length=oL at *;refine Qac ?_;refine Qad [0,3,17,18,19] (fun m e w'=>∃ (k:Nat) (O:List Nat),Is e [(0,.pointer (some ⟨g,0,none⟩)),(3,.slice (some ⟨gu,0,none⟩) n n),(17,.slice ao oL co),(18,.int .i64 oL),(19,.int .i64 k)]/\Heap w0 [] w' (Yo 3 1 (some ⟨gu,0,none⟩) n n (Qak O)::tabR g (.slice (some p) n lc) ao co l::ordR ao co l::G)/\O.length=n/\(∀ j,j < k->O.getD ((ordN l (maxL l)).getD j 0) 0=Qe5 l ((ordN l (maxL l)).getD j 0))/\k<=oL/\m=oL - k) oL ?_ ?_
 ·
  refine Qs ?_;exact ⟨0,_,rfl,hH,by simp,fun j hj=>by omega,by omega,rfl⟩
 clear hH;rintro m e w2 ⟨k,O,rfl,hH,hOl,hO,hk,rfl⟩;refine VS [0,3,17,18,19,20] ?_;(repeat refine Qax ?_);refine VD (fun h=>?_) (fun h=>?_)
 ·
  have hkL:k < (ordN l (maxL l)).length:=by omega
  obtain ⟨go,rfl⟩:=Qc1 (hH.at 2 rfl) (by omega);have hcell:=Qa1 (hH.at 2 rfl) (Qb4 hkL);obtain ⟨h1,h2,h3⟩:=Qzz l (maxL l) k hkL;have hcode:=QGr hkL rfl;rw [hn] at h1;have hti:=hat _ (by rw [hn] at *;exact h1);have hco:=(Ql0 hok (by rw [hn] at *;exact h1)).2.2;generalize hi:(ordN l (maxL l)).getD k 0=i at *;have hle:l.getD i 0<=maxL l:=Qit.1 (Uc _) _ (Qa3 0 (by omega));obtain ⟨c1,c2,c3⟩:=QGs (hH.at 1 rfl) hle hL20;have csv:=Qw4 (hH.at 1 rfl);have hcx:=Qbr (hH.rs' hr) (i:=i) (by omega);have hff:=hfl (l.getD i 0) hti.2;have hbb:=hbl (l.getD i 0) hti.2;have hp2:2 ^ (l.getD i 0)<=2 ^ 20:=Yt (by omega) hti.2;have hp3:2 ^ (l.getD i 0)<=1048576:=hp2;generalize hx:l.getD i 0=x at *;refine VC_skip ?_;refine VB ?_;refine VQ [0,3,4,5,17,18,19] fun K hK=>?_;refine ⟨⟨by omega,by omega⟩,_,hcell,?_⟩;apply hK;clear hK;refine VQ [0,3,4,5,6,17,18,19] fun K hK=>?_;refine ⟨_,csv.1,?_⟩;refine Qs ?_;refine ⟨⟨by omega,by omega⟩,_,hcx,?_⟩;apply hK;clear hK;refine VL [0,3,17,18,19] 18 fun K hK=>?_;refine ⟨⟨by omega,by omega⟩,_,c1,?_⟩;refine Qs ?_;refine ⟨Xu (by omega) (by omega),⟨by omega,by omega⟩,_,c2,?_⟩;refine Qs ?_;refine ⟨Xu (by omega) (by omega),⟨by omega,by omega⟩,?_⟩;rw [show ((Qbf l x:Nat):Int)+k - (begS l x:Nat)=((Qe5 l i:Nat):Int) by omega];refine Qaa ?_;refine Qs ?_;refine Qaz hH 0 (o:=(i)) (vs:=[.int .i64 (Qe5 l i:Nat)]) rfl (by first | exact (Qbg _ _ _).symm | rfl | simp [Qbg]) rfl (by kernel_rfl) (by first | omega | (simp;done) | (simp;omega) | (simp [Qar,Qat];omega) | (rw [Qal];simp;omega)) (by simp [Yq]) fun w6 hH2=>?_;(try refine Qs ?_);simp only [Yk,Qcb (Qak O) _ _ (show i < (Qak O).length by rw [Qal,hOl];omega),Qck,Yd] at hH2;apply hK;clear hK;refine Qaj ?_;refine VS [0,3,17,18,19] ?_;refine Qab ?_;refine Qs ?_;refine ⟨oL - (k+1),by omega,k+1,_,rfl,hH2,by simp [hOl],fun j hj=>?_,by omega,rfl⟩;by_cases e:(ordN l (maxL l)).getD j 0=i
  ·
   rw [e,Qc8 (by omega)]
  rw [Qda (fun e2=>e e2.symm)];have:j≠k:=fun e2=>e (by rw [e2];exact hi);exact hO j (by omega)
 have hfin:O=Qdh l:=by
  apply Up
  ·
   rw [hOl,hcl]
  intro i h1 h2;have hi:i < l.length:=by omega
  have hm:=QBv hi (hat i (by omega)).1 (maxL l) (Qit.1 (Uc _) _ (Qa3 0 hi));obtain ⟨j,hj,e⟩:=List.getElem_of_mem hm;have e2:(ordN l (maxL l)).getD j 0=i:=by rw [Yb,Yc hj];exact e
  have:=hO j (by omega);rw [e2,Yb,Yc h1] at this;simp only [Qdh,U8,Uy];exact this
 refine Qag rfl ?_;refine VS [2] ?_;refine VC_ret (VX_ret1 rfl rfl ⟨some ⟨gu,0,none⟩,n,?_,by rw [hcl]⟩);rw [hcl,<- hfin];exact hH
theorem Qn9 (l:List Nat) (hok:okL l) (a:Option Addr) (lc:Nat) (w:World) (hr:RS w a l.length 1 (Qak l)) :
  Does Yi 68 #[.slice a l.length lc] w fun v w'=>∃ a' cap,Heap w [] w' [Yo 3 1 a' (Qdh l).length cap (Qak (Qdh l))]/\v=.tuple #[.slice a' (Qdh l).length cap,.int .i64 0]:=by
 have hl2:=hok.1;obtain ⟨p,rfl⟩:=Qbj hr (by omega);refine En [.slice (some p) l.length lc] 16 Tryz.func68 ?_;refine VS [0] ?_;refine VQ [4,5] fun K hK=>?_;refine MemK_call Tryz.call103 ?_;refine Qs ?_;refine Ym (Qw3 l hok (some p) lc w hr) ?_;rintro v w2 ⟨g,ao,co,hH,rfl⟩;apply hK;clear hK;refine VS [4,5,12] ?_;refine Qaf rfl rfl (fun h=>by simp at h) (fun h=>VC_skip ?_);refine VQ [2,3] fun K hK=>?_;refine MemK_call Tryz.call104 ?_;refine Qs ?_;refine Ym (Qw5 l hok g p lc ao co w w2 [] hr hH) ?_;rintro v w3 ⟨a',cap,hH2,rfl⟩;apply hK;clear hK;exact VC_ret (Qav rfl rfl rfl ⟨a',cap,hH2.sub (by simp),rfl⟩)
def begC (l:List Nat) (c k m:Nat):Bool:=decide (k < m) && decide (0 < cnt l m) && decide (c * 2 ^ (m - k) < Qbf l m+cnt l m)
theorem QGt {l:List Nat}{c k:Nat} (hL:maxL l<=20):begP l c k=true ↔ ∃ m,k < m/\m<=maxL l/\begC l c k m=true:=by
 unfold begP;rw [Uo];constructor
 ·
  rintro ⟨m,hm,h⟩;refine ⟨m,?_,?_,h⟩
  ·
   simp only [U4,decide_eq_true_eq] at h;exact h.1.1
  rcases Xe (maxL l) m with h2 | h2
  ·
   have:=QKi h2;simp [this] at h
  exact h2
 rintro ⟨m,h1,h2,h3⟩;exact ⟨m,Ul.2 (by omega),h3⟩
theorem Qz5 (l:List Nat) (hok:okL l) (c k:Nat) (hc:c<=2097152) (hk:k<=20) (g:Nat) (p:Addr) (lc:Nat) (ao:Option Addr) (co i:Nat) (w0 w:World) (G:List Res) (hr:RS w0 (some p) l.length 1 (Qak l)) (hL:Heap w0 [] w G) (hi:G[i]? = some (tabR g (.slice (some p) l.length lc) ao co l)) :
  Does Yi 162 #[.pointer (some ⟨g,0,none⟩),.int .i64 c,.int .i64 k] w fun v w'=>Heap w0 [] w' G/\v=.bool (begP l c k):=by
 obtain ⟨hL1,hL20⟩:=Qoq hok;have hfl:=fun n hn=>Qkc hok (n:=n) hn;have hbp:=QGt (l:=l) (c:=c) (k:=k) hL20;obtain ⟨hl2,hl258,hin,_⟩:=hok;have hcl:=Qnq l (by omega) (some p) lc;refine En [.pointer (some ⟨g,0,none⟩),.int .i64 c,.int .i64 k] 47 Tryz.func162 ?_;generalize hres:begP l c k=res at *;generalize hn:l.length=n at *;refine VS [0,1,2] ?_;refine VS [0,1,2,7] ?_;refine Qac ?_;refine Qad [0,1,2,7] (fun m e w'=>∃ (j:Nat),Is e [(0,.pointer (some ⟨g,0,none⟩)),(1,.int .i64 c),(2,.int .i64 k),(7,.int .i64 (j+1:Nat))]/\Heap w0 [] w' G/\k<=j/\j<=20/\(∀ m',k < m'->m'<=j->begC l c k m'=false)/\m=21 - j) (21 - k) ?_ ?_
 ·
  refine Qs ?_;exact ⟨k,rfl,hL,by omega,by omega,fun m' h1 h2=>by omega,rfl⟩
 clear hL;rintro m e w1 ⟨j,rfl,hH,hkj,hj20,hno,rfl⟩;have hsv:=Qw4 (hH.at i hi);refine VQ [0,1,2,7,16] fun K hK=>?_;refine ⟨_,⟨rfl,hsv.2.2⟩,?_⟩;refine MemK_call Tryz.call135 ?_;refine Qs ?_;refine Ym (hcl w1 (hH.rs' hr)) ?_;rintro v w2 ⟨hHl,rfl⟩;have hH2:=hH.call0 hHl;simp only [Yp] at hH2;clear hH hHl hsv;refine Qs ?_;apply hK;clear hK;refine VD (fun h=>?_) (fun h=>?_)
 ·
  have hj2:j+1<=maxL l:=by omega
  obtain ⟨c1,c2,c3⟩:=QGs (hH2.at i hi) hj2 hL20;have hff:=hfl (j+1) (by omega);have hp2:2 ^ (j+1)<=2 ^ 20:=Yt (by omega) (by omega);have hp3:2 ^ (j+1)<=1048576:=hp2;have hp4:2 ^ (j+1 - k)<=2 ^ 20:=Yt (by omega) (by omega);have hp5:2 ^ (j+1 - k)<=1048576:=hp4;have hmul:c * 2 ^ (j+1 - k)<=2097152 * 1048576:=X3 hc hp5;have hsh:shN Xp ((j+1:Nat) - (k:Int))=j+1 - k:=Qr2 (by omega) (by simp [Uh];omega);have hbc:begC l c k (j+1)=(decide (k < j+1) && decide (0 < cnt l (j+1)) && decide (c * 2 ^ (j+1 - k) < Qbf l (j+1)+cnt l (j+1))):=rfl;rw [decide_eq_true (show k < j+1 by omega),Gt] at hbc;have hsc:=Qof c (j+1 - k);refine VC_skip ?_;refine VB ?_;refine Vq [0,1,2,7,46] fun K hK=>?_;refine ⟨⟨by omega,by omega⟩,_,c3,?_⟩;refine Qs ?_;rw [hsh,hsc];clear hsc hsh hp2 hp4;generalize c * 2 ^ (j+1 - k)=q at *
  suffices out:K [(0,.pointer (some ⟨g,0,none⟩)),(1,.int .i64 c),(2,.int .i64 k),(7,.int .i64 (j+1:Nat)),(46,.bool (begC l c k (j+1)))] by
   refine ⟨fun h2=>?_,fun h2=>?_⟩
   ·
    rw [decide_eq_true (show 0 < cnt l (j+1) by omega),Gt] at hbc;refine ⟨Xu (by omega) (by omega),by omega,Xu (by omega) (by omega),⟨by omega,by omega⟩,_,c1,?_⟩;refine ⟨⟨by omega,by omega⟩,_,c3,?_⟩;refine Qs ?_;refine ⟨Xu (by omega) (by omega),?_⟩;rw [show decide (((q:Nat):Int) < ((Qbf l (j+1):Nat):Int)+((cnt l (j+1):Nat):Int))=begC l c k (j+1) by rw [hbc];exact decide_eq_decide.2 (by omega)];exact out
   rw [decide_eq_false (show ¬ 0 < cnt l (j+1) by omega),Gm] at hbc;rw [hbc] at out;exact out
  apply hK;clear hK;refine Vi (fun h=>?_) (fun h=>VC_skip ?_)
  ·
   have:res=true:=hbp.2 ⟨j+1,by omega,hj2,h⟩;subst this;refine VS [6] ?_;exact VC_ret (VX_ret1 rfl rfl ⟨hH2,rfl⟩)
  refine Qaj ?_;refine VS [0,1,2,7] ?_;refine Qab ?_;refine Qs ?_;refine ⟨21 - (j+1),by omega,j+1,rfl,hH2,by omega,by omega,fun m' h1 h2=>?_,rfl⟩;by_cases e:m'=j+1
  ·
   rw [e];exact h
  exact hno m' h1 (by omega)
 have:res=false:=by
  rw [Bool.eq_false_iff];intro h2;obtain ⟨m',h3,h4,h5⟩:=hbp.1 h2;have:=hno m' h3 (by omega);rw [this] at h5;cases h5
 subst this;refine Qag rfl ?_;refine VS [6] ?_;exact VC_ret (VX_ret1 rfl rfl ⟨hH2,rfl⟩)
theorem QGu (l:List Nat) (hok:okL l) (s:List UInt8) (gr gs at_:Nat) (hat:at_<=8 * s.length) (hs:s.length<=100000000000000) (g:Nat) (p:Addr) (lc:Nat) (ao:Option Addr) (co:Nat) (w0 w:World) (G:List Res) (hr:RS w0 (some p) l.length 1 (Qak l)) (hL:Heap w0 [] w (rd gr gs s at_::tabR g (.slice (some p) l.length lc) ao co l::ordR ao co l::G)) :
  Does Yi 142 #[.pointer (some ⟨g,0,none⟩),.pointer (some ⟨gr,0,none⟩)] w fun v w'=>match Qju l (Qap s) at_ with
   | .ok q=>Heap w0 [] w' (rd gr gs s q.2::tabR g (.slice (some p) l.length lc) ao co l::ordR ao co l::G)/\q.2<=8 * s.length/\at_ < q.2/\v=.tuple #[.int .i64 q.1,.int .i64 0]
   | .error e=>Heap w0 [] w' []/\e≠0/\v=.tuple #[.int .i64 0,.int .i64 e]:=by
 obtain ⟨hL1,hL20⟩:=Qoq hok;have hfl:=fun n hn=>Qkc hok (n:=n) hn;have hbp:=fun c k=>QGt (l:=l) (c:=c) (k:=k) hL20;have hbl:=Qaw s;refine En [.pointer (some ⟨g,0,none⟩),.pointer (some ⟨gr,0,none⟩)] 74 Tryz.func142 ?_;generalize hres:Qju l (Qap s) at_=res;generalize hbits:Qap s=bits at *;unfold Qju at hres;refine VS [0,1] ?_;refine VS [0,1,6] ?_;refine VS [0,1,6,7] ?_;refine Qac ?_;refine Qad [0,1,6,7] (fun m e w'=>∃ (j c:Nat),Is e [(0,.pointer (some ⟨g,0,none⟩)),(1,.pointer (some ⟨gr,0,none⟩)),(6,.int .i64 c),(7,.int .i64 (j+1:Nat))]/\Heap w0 [] w' (rd gr gs s (at_+j)::tabR g (.slice (some p) l.length lc) ao co l::ordR ao co l::G)/\at_+j<=8 * s.length/\j+1<=maxL l/\c < 2 ^ j/\Qbf l j+cnt l j<=c/\(match Qho l (bits.drop (at_+j)) j c with | .ok q=>.ok (q.1,at_+q.2) | .error e=>.error e)=res/\m=21 - j) 21 ?_ ?_
 ·
  refine Qs ?_;have hc0:cnt l 0=0:=Qlz fun x hx=>(hok.2.2.1 x hx).1;refine ⟨0,0,rfl,hL,by omega,by omega,by simp,by rw [hc0];simp [Qbf],?_,rfl⟩;rw [<- hres,Ga];cases Qho l (bits.drop at_) 0 0 <;> rfl
 clear hL hres;rintro m e w1 ⟨j,c,rfl,hH,hp,hj,hc,hfc,hres,rfl⟩;refine VB ?_;refine VQ [0,1,6,7,8,9] fun K hK=>?_;refine MemK_call G7 ?_;refine Qs ?_;refine Ym (Qex gr gs s (at_+j) 1 w1 (by omega) hp (by omega) (hH.focus 0 rfl)) ?_;rintro v w2 (⟨h1,rfl,rfl⟩ | ⟨h1,hH2,rfl⟩)
 ·
  rw [Yy (by omega),Qho] at hres;subst hres;apply hK;clear hK;refine VS [0,1,6,7,8,9,19] ?_;refine Qaf rfl rfl (fun h=>?_) (fun h=>by cases h);refine VS [4,5] ?_;exact VC_ret (Qav rfl rfl rfl ⟨hH.sub (by simp),by decide,rfl⟩)
 have hH3:=hH.call1 0 rfl hH2;simp only [Yd,Yp] at hH3;clear hH hH2;have hdp:bits.drop (at_+j)=bits.getD (at_+j) false::bits.drop (at_+j+1):=drop_getD false (by omega);have hnum:numB ((bits.drop (at_+j)).take 1)=(bits.getD (at_+j) false).toNat:=by rw [hdp];cases bits.getD (at_+j) false <;> rfl
 rw [hbits,hnum];rw [hdp,Qho] at hres;generalize bits.getD (at_+j) false=b at *;have hb1:b.toNat<=1:=by cases b <;> simp
 apply hK;clear hK;refine VS [0,1,6,7,8,9,19] ?_;refine Qaf rfl rfl (fun h=>by cases h) (fun h=>VC_skip ?_);clear h;have hj20:j+1<=20:=by omega
 have hpj:2 ^ j<=2 ^ 19:=Yt (by omega) (by omega);have hpj2:2 ^ j<=524288:=hpj;have hps:2 ^ (j+1)=2 * 2 ^ j:=by rw [Nat.pow_succ,U9]
 have hor:(c * 2) ||| b.toNat=2 * c+b.toNat:=by
  have h3:(2 ^ 1 * c) ||| b.toNat=2 ^ 1 * c+b.toNat:=(Ux (i:=1) (by omega) c).symm
  rw [U9 c 2];exact h3
 have hfs:Qbf l (j+1)=2 * (Qbf l j+cnt l j):=rfl;have hffl:=hfl (j+1) hj20;refine VQ [0,1,6,7] fun K hK=>?_;rw [show shN Xp 1=1 from rfl,show ((c:Int) * 2 ^ 1)=((c * 2:Nat):Int) by push_cast;rfl];(repeat first | refine Qo ?_ | refine Qp ?_);rw [Y8,hor];generalize hc2:2 * c+b.toNat=c2 at *;apply hK;clear hK;obtain ⟨c1,c2',c3⟩:=QGs (hH3.at 1 rfl) hj hL20;have csv:=Qw4 (hH3.at 1 rfl);refine VQ [0,1,6,7,10] fun K hK=>?_;refine ⟨⟨by omega,by omega⟩,_,c1,?_⟩;refine Qs ?_;refine ⟨Xu (by omega) (by omega),?_⟩;apply hK;clear hK;refine VQ [0,1,6,7,10,54] fun K hK=>?_
 suffices out:∀ bb:Bool,(bb=true ↔ (Qbf l (j+1)<=c2/\c2 < Qbf l (j+1)+cnt l (j+1)))->K [(0,.pointer (some ⟨g,0,none⟩)),(1,.pointer (some ⟨gr,0,none⟩)),(6,.int .i64 c2),(7,.int .i64 (j+1:Nat)),(10,.int .i64 (((c2:Nat):Int) - (Qbf l (j+1):Nat))),(54,.bool bb)] w2 by
  refine ⟨⟨by omega,by omega⟩,_,c3,?_⟩;refine Qs ?_;refine ⟨fun h1=>⟨fun h2=>⟨⟨by omega,by omega⟩,_,c3,?_⟩,fun h2=>out false (by simp;omega)⟩,fun h1=>out false (by simp;omega)⟩;refine Qs ?_;exact out _ (by simp;omega)
 intro bb hbb;apply hK;clear hK;refine Vi (fun h=>?_) (fun h=>VC_skip ?_)
 ·
  have hb2:=hbb.1 h;rw [if_pos hb2] at hres;subst hres;obtain ⟨s1,s2⟩:=QKh l (n:=j+1) (L:=maxL l) (j:=c2 - Qbf l (j+1)) (by omega) hj (by omega);obtain ⟨go,rfl⟩:=Qc1 (hH3.at 2 rfl) (by omega);have hcell:=Qa1 (hH3.at 2 rfl) (Qb4 s1);rw [s2] at hcell
  have hbl2:begS l (j+1)<=5160:=by
   have h5:=Qop l (j+1 - 1);have h6:=X3 (show j+1 - 1<=20 by omega) hok.2.1;unfold begS;omega
  refine Vq [4,5] fun K hK=>?_;refine ⟨_,csv.2.1,?_⟩;refine ⟨⟨by omega,by omega⟩,_,c2',?_⟩;refine Qs ?_;refine ⟨Xu (by omega) (by omega),⟨by omega,by omega⟩,?_⟩;rw [show (((begS l (j+1):Nat):Int)+(((c2:Nat):Int) - (Qbf l (j+1):Nat))).toNat=begS l (j+1)+(c2 - Qbf l (j+1)) by omega];refine ⟨_,hcell,?_⟩;apply hK;clear hK;exact VC_ret (Qav rfl rfl rfl ⟨by rw [<- Ur];exact hH3,by simp only;omega,by simp only;omega,rfl⟩)
 have hnb:¬ (Qbf l (j+1)<=c2/\c2 < Qbf l (j+1)+cnt l (j+1)):=fun h2=>by have:=hbb.2 h2;simp_all
 rw [if_neg hnb] at hres;clear hbb h;refine VQ [0,1,6,7,73] fun K hK=>?_;refine MemK_call Tryz.call162 ?_;refine Qs ?_;refine Ym (Qz5 l hok c2 (j+1) (by omega) hj20 g p lc ao co 1 w0 w2 _ hr hH3 rfl) ?_;rintro v w3 ⟨hH4,rfl⟩;refine Qs ?_;apply hK;clear hK;refine Vi (fun h=>?_) (fun h=>VC_skip ?_)
 ·
  have h2:begP l c2 (j+1)=false:=by simpa using h
  rw [h2,if_neg (by simp)] at hres;subst hres;refine VS [4,5] ?_;exact VC_ret (Qav rfl rfl rfl ⟨hH4.sub (by simp),by decide,rfl⟩)
 have h2:begP l c2 (j+1)=true:=by simpa using h
 rw [if_pos h2] at hres;obtain ⟨m',h3,h4,h5⟩:=(hbp c2 (j+1)).1 h2;refine Qaj ?_;refine VS [0,1,6,7] ?_;refine Qab ?_;refine Qs ?_;exact ⟨21 - (j+1),by omega,j+1,c2,rfl,by rw [<- Ur];exact hH4,by omega,by omega,by omega,by omega,by rw [<- hres,<- Ur],rfl⟩
theorem QKl (l:List Nat) (hok:okL l) (s:List UInt8) (at_ n fin:Nat) (hat:at_<=8 * s.length) (hs:s.length<=100000000000000) (hn:n<=100000) (hfin:fin<=100000) (a:Option Addr) (lc:Nat) (w:World) (hr:RS w a l.length 1 (Qak l)) :
  Does Yi 121 #[.slice a l.length lc,Str s,.int .i64 at_,.int .i64 n,.int .i64 fin] w (QGn (Qe6 l (Qap s) fin n at_) w):=by
 have hl2:=hok.1;obtain ⟨p,rfl⟩:=Qbj hr (by omega);refine En [.slice (some p) l.length lc,Str s,.int .i64 at_,.int .i64 n,.int .i64 fin] 59 Tryz.func121 ?_;generalize hres:Qe6 l (Qap s) fin n at_=res;refine VS [0,1,2,3,4] ?_;refine VQ [1,2,3,4,13,14] fun K hK=>?_;refine MemK_call Tryz.call103 ?_;refine Qs ?_;refine Ym (Qw3 l hok (some p) lc w hr) ?_;rintro v w2 ⟨g,ao,co,hH,rfl⟩;apply hK;clear hK;refine VS [1,2,3,4,13,14,25] ?_;refine Qaf rfl rfl (fun h=>by simp at h) (fun h=>VC_skip ?_);clear h;refine VQ [3,4,13,15] fun K hK=>?_;refine MemK_call G6 ?_;refine Qs ?_;refine Ym (Qdt s at_ w2 (Xu (by omega) (by omega)) (by omega)) ?_;rintro v w3 (⟨hbad,_⟩ | ⟨_,gr,gs,hHr,rfl⟩)
 ·
  omega
 rw [Y8] at hHr;have hH2:=hH.call0 hHr;simp only [Y0] at hH2;clear hH hHr;apply hK;clear hK;refine VQ [3,4,13,15,35] fun K hK=>?_
 suffices out:∀ b:Bool,(b=true ↔ False)->K [(3,.int .i64 n),(4,.int .i64 fin),(13,.pointer (some ⟨g,0,none⟩)),(15,.pointer (some ⟨gr,0,none⟩)),(35,.bool b)] w3 by (repeat' (first | exact out _ _ (by first | omega | (simp;done) | (simp;omega)) | exact out _ (by first | omega | (simp;done) | (simp;omega)) | refine ⟨fun _=>?_,fun _=>?_⟩ | refine Qo ?_))
 intro b hb;apply hK;clear hK;refine Qaf rfl rfl (fun h=>(hb.1 h).elim) (fun h=>VC_skip ?_);clear hb h;refine VS [3,4,13,15,16] ?_;(repeat refine Qax ?_);refine Qdl [15,16] (fun e w'=>∃ (q:List Nat) (to cap:Nat) (a':Option Addr),Is e [(15,.pointer (some ⟨gr,0,none⟩)),(16,.slice a' q.length cap)]/\Heap w [] w' [rd gr gs s to,Yo 3 1 a' q.length cap (Qak q)]/\to<=8 * s.length/\res=.ok (q,to)) ?_ ?_
 ·
  refine Qac ?_;refine Qad [3,4,13,15,16] (fun m e w'=>∃ (q:List Nat) (to cap:Nat) (a':Option Addr),Is e [(3,.int .i64 n),(4,.int .i64 fin),(13,.pointer (some ⟨g,0,none⟩)),(15,.pointer (some ⟨gr,0,none⟩)),(16,.slice a' q.length cap)]/\Heap w [] w' [rd gr gs s to,tabR g (.slice (some p) l.length lc) ao co l,ordR ao co l,Yo 3 1 a' q.length cap (Qak q)]/\to<=8 * s.length/\q.length<=n/\(match Qe6 l (Qap s) fin (n - q.length) to with | .error e=>.error e | .ok x=>.ok (q++x.1,x.2))=res/\m=n - q.length) n ?_ ?_
  ·
   refine Qs ?_;have hH3:=(hH2.nilRow 3 1).perm (G':=[rd gr gs s at_,tabR g (.slice (some p) l.length lc) ao co l,ordR ao co l,Yo 3 1 none 0 0 []]) (by exact (Xz (l₁:=[Yo 3 1 none 0 0 []])));refine ⟨[],at_,0,none,rfl,hH3,hat,by simp,?_,rfl⟩;rw [<- hres,Ut,Nat.sub_zero];cases Qe6 l (Qap s) fin n at_ <;> rfl
  clear hH2 hres;rintro m e w4 ⟨q,to,cap,a',rfl,hH,hto,hq,hres,rfl⟩;refine VS [3,4,13,15,16,39] ?_;refine VD (fun h=>?_) (fun h=>?_)
  ·
   rw [show n - q.length=(n - (q.length+1))+1 by omega,Qe6] at hres;refine VC_skip ?_;refine Qac ?_;refine VQ [3,4,13,15,16,17,18] fun K hK=>?_;refine MemK_call Tryz.call142 ?_;refine Qs ?_;refine Ym (QGu l hok s gr gs to hto hs g p lc ao co w w4 _ hr hH) ?_;intro v w5 hnx;generalize Qju l (Qap s) to=r at *;cases r with
   | error e =>
    obtain ⟨hH3,hne,rfl⟩:=hnx;subst hres;apply hK;clear hK;refine VS [3,4,13,15,16,17,18,47] ?_;refine Vi (fun h=>?_) (fun h=>?_)
    ·
     refine VS [10,11,12] ?_;exact VC_ret (Qcv rfl rfl rfl rfl ⟨hH3,rfl⟩)
    simp at h;exact absurd h hne
   | ok x =>
    obtain ⟨hH3,hx1,hx2,rfl⟩:=hnx;simp only at hres;apply hK;clear hK;refine VS [3,4,13,15,16,17,18,47] ?_;refine Qaf rfl rfl (fun h=>by cases h) (fun h=>VC_skip ?_);clear h;refine VQ [3,4,13,15,16,17] fun K hK=>?_;refine Qcd (xs:=[.tmp 50]) Yn sz3 rfl rfl rfl (by omega) ?_;refine Qs ?_;refine ⟨by simp [Y3],?_⟩;refine Qai ?_;refine Qs ?_;refine Qiv hH3 3 (x.1) rfl Yn zi3 (by first | rfl | (simp;done) | omega | (simp;omega)) (fun h=>by (first | omega | (simp;done) | (simp;omega))) fun a' cap' w5 hc' hH4=>?_;(try refine Qs ?_);simp only [Yj,Yd] at hH4;apply hK;clear hK;refine VS [3,4,13,15,16,55] ?_;refine VD (fun h=>?_) (fun h=>VC_skip ?_)
    ·
     rw [if_pos (by omega)] at hres;refine Qag rfl ?_;refine Qab ?_;refine Qs ?_;exact ⟨q++[x.1],x.2,cap',a',rfl,hH4.sub (.cons_cons _ (.cons _ (.cons _ (.refl _)))),hx1,hres.symm⟩
    rw [if_neg (by omega)] at hres;refine Qaj ?_;refine Qab ?_;refine Qs ?_;refine ⟨n - (q++[x.1]).length,by simp;omega,q++[x.1],x.2,cap',a',rfl,hH4,hx1,by simp;omega,?_,rfl⟩;rw [<- hres,show n - (q++[x.1]).length=n - (q.length+1) by simp];cases Qe6 l (Qap s) fin (n - (q.length+1)) x.2 with
    | error e=>rfl
    | ok y=>simp
  rw [show n - q.length=0 by omega,Qe6] at hres;simp only [Yl] at hres;refine Qag rfl ?_;refine Qab ?_;refine Qs ?_;exact ⟨q,to,cap,a',rfl,hH.sub (.cons_cons _ (.cons _ (.cons _ (.refl _)))),hto,hres.symm⟩
 rintro e w' ⟨q,to,cap,a',rfl,hH,hto,rfl⟩;refine VQ [10,11,12] fun K hK=>?_;refine MemK_call Tryz.call118 ?_;refine Qs ?_;refine Ym (Qpr gr gs to s w' (hH.at 0 rfl)) ?_;rintro v w7 ⟨rfl,rfl⟩;apply hK;clear hK;exact VC_ret (Qcv rfl rfl rfl rfl ⟨a',cap,hH.sub (by simp),rfl⟩)
abbrev Tr:=Int×Nat
def Qbm (t:Tr):List Value:=[.int .i64 t.1,.int .i64 t.2]
theorem Qfx (t:Tr):(Qbm t).length=2:=rfl
theorem Qd2 (t:Tr):∀ v∈Qbm t,v.oneCell'=true:=by
 intro v hv;simp [Qbm] at hv;rcases hv with rfl | rfl <;> rfl
def Qfl (l:List Tr):List Value:=Qd3 Qbm l
def cmpT (a b:Tr):Int:=if a.1=b.1 then (a.2:Int) - b.2 else a.1 - b.1
theorem Qz6 (a b:Tr) (xo yo:Operand) (w:World) (KV:Value->Prop):Qb9 Yi .eql 167 xo yo (.agg (Qbm a).toArray) (.agg (Qbm b).toArray) w KV=KV (.bool (decide (a=b))):=by
 refine Qo9 fun w'=>?_;have hS:Yi.underlying 167=some (.struct (Yi.fieldsOf 167)):=by kernel_rfl
 have hp:Yi.stoodInHeld 167=false:=by kernel_rfl
 have hg:Yi.eqGuardType Yi.depth 167=false:=by kernel_rfl
 simp only [Sem.run_bind];rw [run_eqGuard_agg _ _ _ _ _ _ _ hg];simp only [Result.andThen_ok];rw [run_eql_struct,show (10000:Nat)=9999+1 from rfl,run_equalIn_agg w' 9999 167 _ _ hS hp];simp only [Program.fieldsOf,Tryz.underlying167];have u3:=Tryz.underlying3;have a3:=Tryz.isAgg3;have z3:=Tryz.sizeOf3;simp only [Qbm]
 go_simp
 obtain ⟨a1,a2⟩:=a;obtain ⟨b1,b2⟩:=b;simp only [Prod.mk.injEq];by_cases h1:a1=b1
 ·
  by_cases h2:a2=b2
  ·
   subst h1 h2;simp
  have h3:¬ ((a2:Int)=b2):=by omega
  simp [h1,h2,h3]
 simp [h1]
theorem Qm7 (a b:Tr):a=b ↔ a.1=b.1/\a.2=b.2:=by
 obtain ⟨a1,a2⟩:=a;obtain ⟨b1,b2⟩:=b;simp
def TrOk (t:Tr):Prop:=-1099511627776<=t.1/\t.1<=1099511627776/\t.2<=1000000
theorem Qrf (a b:Tr) (ha:TrOk a) (hb:TrOk b) (w:World):Does Yi 133 #[.agg (Qbm a).toArray,.agg (Qbm b).toArray] w fun v w'=>Heap w [] w' []/\v=.int .i64 (cmpT a b):=by
 obtain ⟨ha1,ha2,ha3⟩:=ha;obtain ⟨hb1,hb2,hb3⟩:=hb;refine En [.agg (Qbm a).toArray,.agg (Qbm b).toArray] 23 Tryz.func133 ?_;refine VQ [2,3] fun K hK=>?_;refine Qch ?_;refine Qs ?_;have hH:=(Y2 w).box 167 (Qbm a);have e1:w.alloc (Yu (Qbm a).toArray 167)=w.alloc (Yu (Qbm a).toArray 167):=rfl;generalize w.alloc (Yu (Qbm a).toArray 167)=w1 at *;generalize w.heap.size=ga at *;refine Qch ?_;refine Qs ?_;have hH2:=hH.box 167 (Qbm b);generalize w1.alloc (Yu (Qbm b).toArray 167)=w2 at *;generalize w1.heap.size=gb at *;clear hH e1;apply hK;clear hK;refine VQ [2,3,7] fun K hK=>?_;refine ⟨Qbm a,⟨rfl,Qay (hH2.at 1 rfl)⟩,?_⟩;refine ⟨Qbm b,⟨rfl,Qay (hH2.at 0 rfl)⟩,?_⟩;rw [Qz6];apply hK;clear hK;refine Vi (fun h=>?_) (fun h=>VC_skip ?_)
 ·
  simp only [decide_eq_true_eq] at h;subst h;refine VS [4] ?_;exact VC_ret (VX_ret1 rfl rfl ⟨hH2.sub (by simp),by simp [cmpT]⟩)
 clear h;have c1:w2.cell? ⟨ga,0,none⟩=some (.int .i64 a.1):=Qah (hH2.at 1 rfl) rfl;have c2:w2.cell? ⟨ga,1,none⟩=some (.int .i64 a.2):=Qah (hH2.at 1 rfl) rfl;have c3:w2.cell? ⟨gb,0,none⟩=some (.int .i64 b.1):=Qah (hH2.at 0 rfl) rfl;have c4:w2.cell? ⟨gb,1,none⟩=some (.int .i64 b.2):=Qah (hH2.at 0 rfl) rfl;refine VQ [2,3,12] fun K hK=>?_;refine ⟨_,c1,_,c3,?_⟩;refine Qs ?_;apply hK;clear hK;refine Vi (fun h=>?_) (fun h=>VC_skip ?_)
 ·
  simp only [decide_eq_true_eq] at h;refine VQ [4] fun K hK=>?_;refine ⟨_,c1,_,c3,?_⟩;refine Qs ?_;refine ⟨Xu (by omega) (by omega),?_⟩;apply hK;clear hK;exact VC_ret (VX_ret1 rfl rfl ⟨hH2.sub (by simp),by rw [cmpT,if_neg h]⟩)
 simp only [decide_eq_false_iff_not,Decidable.not_not] at h;refine VQ [4] fun K hK=>?_;refine ⟨_,c2,_,c4,?_⟩;refine Qs ?_;refine ⟨Xu (by omega) (by omega),?_⟩;apply hK;clear hK;exact VC_ret (VX_ret1 rfl rfl ⟨hH2.sub (by simp),by rw [cmpT,if_pos h]⟩)
theorem Qkf (l:List Tr):(Qfl l).length=l.length * 2:=Qvz Qfx l
def minT:Tr->List Tr->Tr
 | m,[]=>m
 | m,t::l=>minT (if cmpT t m < 0 then t else m) l
theorem Qw6:∀ (l:List Tr) (m t:Tr),minT m (l++[t])=if cmpT t (minT m l) < 0 then t else minT m l
 | [],m,t=>rfl
 | x::l,m,t=>by rw [Xd,minT,Qw6 l _ t,minT]
theorem Quc:∀ (l:List Tr) (m:Tr),minT m l=m∨minT m l∈l
 | [],m=>.inl rfl
 | x::l,m=>by
  rw [minT];rcases Quc l (if cmpT x m < 0 then x else m) with h | h
  ·
   rw [h];split
   ·
    simp
   simp
  simp [h]
theorem Qsq {a b c:Tr} (h1:¬ cmpT b a < 0) (h2:¬ cmpT c b < 0):¬ cmpT c a < 0:=by
 unfold cmpT at *;(repeat' split at *) <;> omega
theorem QGv:∀ (l:List Tr) (m:Tr),¬ cmpT m (minT m l) < 0/\∀ t∈l,¬ cmpT t (minT m l) < 0
 | [],m=>⟨by simp [minT,cmpT],by simp⟩
 | x::l,m=>by
  rw [minT];obtain ⟨h1,h2⟩:=QGv l (if cmpT x m < 0 then x else m);by_cases hx:cmpT x m < 0
  ·
   rw [if_pos hx] at h1 h2 ⊢;refine ⟨Qsq h1 (by unfold cmpT at hx ⊢;(repeat' split at *) <;> omega),fun t ht=>?_⟩;rcases Xt.1 ht with rfl | ht
   ·
    exact h1
   exact h2 t ht
  rw [if_neg hx] at h1 h2 ⊢;refine ⟨h1,fun t ht=>?_⟩;rcases Xt.1 ht with rfl | ht
  ·
   exact Qsq h1 hx
  exact h2 t ht
abbrev Qw7:Value:=.func (.func 133) #[] #[]
def trow (g cap:Nat) (l:List Tr):Res:=Yo 167 2 (some ⟨g,0,none⟩) l.length cap (Qfl l)
theorem Qw8 (t0:Tr) (l:List Tr) (hl:l.length<=1000000) (hok:∀ t∈t0::l,TrOk t) (g cap:Nat) (w:World) (hL:(trow g cap (t0::l)).holds w) :
  Does Yi 158 #[.slice (some ⟨g,0,none⟩) (t0::l).length cap,Qw7] w fun v w'=>Heap w [] w' []/\v=.agg (Qbm (minT t0 l)).toArray:=by
 have hrs:RS w (some ⟨g,0,none⟩) (t0::l).length 2 (Qfl (t0::l)):=Qaq hL
 have hget:∀ (w':World) (i:Nat) (x:Tr),RS w' (some ⟨g,0,none⟩) (t0::l).length 2 (Qfl (t0::l))->(t0::l)[i]? = some x->Reads w' ⟨g,i * 2,none⟩ (Qbm x):=fun w' i x h hi=>by
  have:=Qik Qfx h rfl hi
  rwa [Qbg,Ug] at this
 refine En [.slice (some ⟨g,0,none⟩) (t0::l).length cap,Qw7] 33 Tryz.func158 ?_;generalize hn:(t0::l).length=n at *;have hn1:l.length+1=n:=by rw [<- hn];simp
 refine VQ [0,1,4] fun K hK=>?_;refine Qao (.agg #[.int .i64 0,.int .i64 0]) (by kernel_rfl) ?_;refine Qs ?_;have hH:=(Y2 w).box 167 [.int .i64 0,.int .i64 0];generalize w.alloc (Yu [Xn .i64 0,.int .i64 0].toArray 167)=w1 at *;generalize w.heap.size=gr at *;apply hK;clear hK;refine VS [0,1,4,9] ?_;refine Qdl [0,1,4] (fun e w'=>Is e [(0,.slice (some ⟨g,0,none⟩) n cap),(1,Qw7),(4,.pointer (some ⟨gr,0,none⟩))]/\Is w' w1) ?_ ?_
 ·
  refine Qaf rfl rfl (fun h=>by simp at h;omega) (fun h=>VC_skip ?_);refine Qab ?_;refine Qs ?_;exact ⟨rfl,rfl⟩
 rintro e w' ⟨rfl,rfl⟩;have h0:=hget w' 0 t0 (hH.rs' hrs) rfl;refine VQ [0,1,4,5] fun K hK=>?_;refine ⟨by omega,Qbm t0,⟨rfl,h0⟩,?_⟩;refine Qao (.agg #[.int .i64 0,.int .i64 0]) (by kernel_rfl) ?_;refine Qs ?_;have hH1:=hH.box 167 [.int .i64 0,.int .i64 0];generalize w'.alloc (Yu [Xn .i64 0,.int .i64 0].toArray 167)=w2 at *;generalize w'.heap.size=gm at *;refine Qaa ?_;refine Qs ?_;refine Qae hH1 0 (vs:=Qbm t0) rfl rfl (by kernel_rfl) (by simp [Qbm]) (Qd2 _) fun w3 hH2=>?_;have hH2:Heap w [] w3 [Yr gm 167 (Qbm t0),Yr gr 167 [.int .i64 0,.int .i64 0]]:=hH2;clear hH hH1 h0;apply hK;clear hK;refine VS [0,1,4,5,6] ?_;refine Qac ?_;refine Qad [0,1,4,5,6] (fun m e w'=>∃ (i:Nat),Is e [(0,.slice (some ⟨g,0,none⟩) n cap),(1,Qw7),(4,.pointer (some ⟨gr,0,none⟩)),(5,.pointer (some ⟨gm,0,none⟩)),(6,.int .i64 (i+1:Nat))]/\Heap w [] w' [Yr gm 167 (Qbm (minT t0 (l.take i))),Yr gr 167 [.int .i64 0,.int .i64 0]]/\i+1<=n/\m=n - i) n ?_ ?_
 ·
  refine Qs ?_;exact ⟨0,rfl,hH2,by omega,rfl⟩
 clear hH2;rintro m e w4 ⟨i,rfl,hH,hi,rfl⟩;refine VS [0,1,4,5,6,17] ?_;refine VD (fun h=>?_) (fun h=>?_)
 ·
  have hil:i < l.length:=by omega
  have hgi:(t0::l)[i+1]? = some l[i]:=by simp [Yc hil]
  have hrd:=hget w4 (i+1) l[i] (hH.rs' hrs) hgi;have htk:l.take (i+1)=l.take i++[l[i]]:=by rw [Xf,Yc hil];rfl
  have hmn:=Qw6 (l.take i) t0 l[i];rw [<- htk] at hmn;have hokx:TrOk l[i]:=hok _ (by simp)
  have hokm:TrOk (minT t0 (l.take i)):=hok _ (by
   rcases Quc (l.take i) t0 with h | h
   ·
    rw [h];simp
   exact Gr _ (X0 h))
  generalize l[i]=x at *;generalize minT t0 (l.take i)=mt at *;refine VC_skip ?_;refine VB ?_;refine VL [0,1,4,5,6,27] 6 fun K hK=>?_;refine ⟨⟨by omega,by omega⟩,Qbm x,⟨rfl,hrd⟩,?_⟩;refine ⟨Qbm mt,⟨rfl,Qay (hH.at 0 rfl)⟩,?_⟩;refine Qbp ?_;refine Qs ?_;refine Gx Tryz.call133 (Qrf x mt hokx hokm w4) ?_;rintro v w5 ⟨hHc,rfl⟩;have hH2:=hH.call0 hHc;simp only [Yp] at hH2;refine Qs ?_;apply hK;clear hK;have hrd5:=hget w5 (i+1) x (hH2.rs' hrs) hgi;clear hH hHc;refine VD (fun h=>?_) (fun h=>?_)
  ·
   rw [if_pos h] at hmn;refine VQ [0,1,4,5,6] fun K hK=>?_;refine ⟨⟨by omega,by omega⟩,Qbm x,⟨rfl,hrd5⟩,?_⟩;refine Qaa ?_;refine Qs ?_;refine Qae hH2 0 (vs:=Qbm x) rfl rfl (by kernel_rfl) (by simp [Qbm]) (Qd2 _) fun w6 hH3=>?_;have hH3:Heap w [] w6 [Yr gm 167 (Qbm x),Yr gr 167 [.int .i64 0,.int .i64 0]]:=hH3;apply hK;clear hK;refine Qaj ?_;refine VS [0,1,4,5,6] ?_;refine Qab ?_;refine Qs ?_;exact ⟨n - (i+1),by omega,i+1,rfl,by rw [hmn];exact hH3,by omega,rfl⟩
  rw [if_neg h] at hmn;refine VC_skip ?_;refine Qaj ?_;refine VS [0,1,4,5,6] ?_;refine Qab ?_;refine Qs ?_;exact ⟨n - (i+1),by omega,i+1,rfl,by rw [hmn];exact hH2,by omega,rfl⟩
 refine Qag rfl ?_;rw [Yh (by omega)] at hH;refine VQ [4] fun K hK=>?_;refine ⟨Qbm (minT t0 l),⟨rfl,Qay (hH.at 0 rfl)⟩,?_⟩;refine Qaa ?_;refine Qs ?_;refine Qae hH 1 (vs:=Qbm (minT t0 l)) rfl rfl (by kernel_rfl) (by simp [Qbm]) (Qd2 _) fun w6 hH3=>?_;have hH3:Heap w [] w6 [Yr gm 167 (Qbm (minT t0 l)),Yr gr 167 (Qbm (minT t0 l))]:=hH3;apply hK;clear hK;refine VC_ret (Qtl rfl rfl (Qbw (hH3.at 1 rfl) (by kernel_rfl) (by kernel_rfl) rfl ?_));exact ⟨hH3.sub (by simp),rfl⟩
theorem Qz7 (x:Tr) (l:List Tr) (hl:l.length<=1000000) (hx:x∈l) (g cap:Nat) (w:World) (hL:(trow g cap l).holds w) :
  Does Yi 159 #[.slice (some ⟨g,0,none⟩) l.length cap,.agg (Qbm x).toArray] w fun v w'=>Heap w [] w' []/\∃ i:Nat,l[i]? = some x/\v=.int .i64 i:=by
 have hrs:RS w (some ⟨g,0,none⟩) l.length 2 (Qfl l):=Qaq hL
 have hget:∀ (w':World) (i:Nat) (y:Tr),RS w' (some ⟨g,0,none⟩) l.length 2 (Qfl l)->l[i]? = some y->Reads w' ⟨g,i * 2,none⟩ (Qbm y):=fun w' i y h hi=>by
  have:=Qik Qfx h rfl hi
  rwa [Qbg,Ug] at this
 refine En [.slice (some ⟨g,0,none⟩) l.length cap,.agg (Qbm x).toArray] 19 Tryz.func159 ?_;generalize hn:l.length=n at *;refine VQ [0,3] fun K hK=>?_;refine Qch ?_;refine Qs ?_;have hH:=(Y2 w).box 167 (Qbm x);generalize w.alloc (Yu (Qbm x).toArray 167)=w1 at *;generalize w.heap.size=gx at *;apply hK;clear hK;refine VS [0,3,7,8] ?_;refine Qac ?_;refine Qad [0,3,7,8] (fun m e w'=>∃ (i:Nat),Is e [(0,.slice (some ⟨g,0,none⟩) n cap),(3,.pointer (some ⟨gx,0,none⟩)),(7,.int .i64 n),(8,.int .i64 i)]/\Is w' w1/\i<=n/\x ∉ l.take i/\m=n - i) n ?_ ?_
 ·
  refine Qs ?_;exact ⟨0,rfl,rfl,by omega,by simp,rfl⟩
 rintro m e w' ⟨i,rfl,rfl,hi,hnot,rfl⟩;refine VS [0,3,7,8,9] ?_;(repeat refine Qax ?_);refine VD (fun h=>?_) (fun h=>?_)
 ·
  have hil:i < l.length:=by omega
  have hgi:l[i]? = some l[i]:=Yc hil;have hrd:=hget w' i l[i] (hH.rs' hrs) hgi;have htk:l.take (i+1)=l.take i++[l[i]]:=by rw [Xf,hgi];rfl
  generalize l[i]=y at *;refine VC_skip ?_;refine VB ?_;refine VS [0,3,5,7,8] ?_;refine Vq [0,3,5,7,8,16] fun K hK=>?_;refine ⟨Qbm x,⟨rfl,Qay (hH.at 0 rfl)⟩,?_⟩;refine ⟨⟨by omega,by omega⟩,Qbm y,⟨rfl,hrd⟩,?_⟩;rw [Qz6];apply hK;clear hK;refine VD (fun h=>?_) (fun h=>VC_skip ?_)
  ·
   subst h;refine VS [4] ?_;exact VC_ret (VX_ret1 rfl rfl ⟨hH.sub (by simp),i,hgi,rfl⟩)
  refine Qaj ?_;refine VS [0,3,7,8] ?_;refine Qab ?_;refine Qs ?_;refine ⟨n - (i+1),by omega,i+1,rfl,rfl,by omega,?_,rfl⟩;rw [htk,Ua];rintro (h2 | h2)
  ·
   exact hnot h2
  simp at h2;exact h h2
 rw [Yh (by omega)] at hnot;exact absurd hx hnot
def Qfm (ws ov:List Nat):List Tr:=((Yf ws.length).filter fun i=>ov.getD i 0 == 0).map fun i=>((ws.getD i 0:Nat),i)
theorem Qpz {ws ov:List Nat}{t:Tr}:t∈Qfm ws ov ↔ t.2 < ws.length/\ov.getD t.2 0=0/\t.1=(ws.getD t.2 0:Nat):=by
 unfold Qfm;rw [Xh];constructor
 ·
  rintro ⟨i,hi,rfl⟩;rw [Uu,Ul,beq_iff_eq] at hi;exact ⟨hi.1,hi.2,rfl⟩
 rintro ⟨h1,h2,h3⟩;refine ⟨t.2,?_,?_⟩
 ·
  rw [Uu,Ul,beq_iff_eq];exact ⟨h1,h2⟩
 rw [Qm7];exact ⟨h3.symm,rfl⟩
theorem Qp0 {ws ov:List Nat}{t:Tr} (ht:t∈Qfm ws ov) (hm:∀ x∈Qfm ws ov,¬ cmpT x t < 0):IsLeast ws ov t.2/\t.1=(ws.getD t.2 0:Nat):=by
 obtain ⟨h1,h2,h3⟩:=Qpz.1 ht;refine ⟨⟨h1,h2,fun i hi hf=>?_⟩,h3⟩;have:=hm (((ws.getD i 0:Nat):Int),i) (Qpz.2 ⟨hi,hf,rfl⟩);unfold cmpT at this;simp only at this;split at this <;> omega
theorem Qw9 {p q:Nat->Bool}{a n:Nat} (ha:a < n) (hpa:p a=true) (hqa:q a=false) (h:∀ i,i≠a->q i=p i):((Yf n).filter p).Perm (a::(Yf n).filter q):=by
 induction n with
 | zero=>omega
 | succ n ih =>
  rw [Xg,Xx,Xx];by_cases e:a=n
  ·
   subst e
   have e1:(Yf a).filter p=(Yf a).filter q:=Um fun i hi=>by
    have:i < a:=by simpa using hi
    exact (h i (by omega)).symm
   rw [Xv hpa,Ud (by simp [hqa]),Gg,Gg,Yl,e1];exact X4 _ _
  have e1:[n].filter p=[n].filter q:=by
   have:=h n (fun x=>e x.symm);cases hp:p n <;> simp [hp,this]
  rw [e1,<- Xd];exact (ih (by omega)).append_right _
theorem Qxa {ws ov:List Nat}{a v:Nat} (ha:a < ws.length) (hl:ov.length=ws.length) (h0:ov.getD a 0=0) (hv:v≠0):(Qfm ws ov).Perm (((ws.getD a 0:Nat),a)::Qfm ws (ov.set a v)):=by
 unfold Qfm;have:=Qw9 (p:=fun i=>ov.getD i 0 == 0) (q:=fun i=>(ov.set a v).getD i 0 == 0) ha (by simp only [beq_iff_eq];exact h0) (by rw [Qc8 (by omega)];simp [hv]) (fun i hi=>by rw [Qda (fun x=>hi x.symm)]);have h2:=this.map fun i=>(((ws.getD i 0:Nat):Int),i);rw [List.map_cons] at h2;exact h2
theorem QEa {ws ov:List Nat} (x:Nat) (hl:ov.length=ws.length):Qfm (ws++[x]) (ov++[0])=Qfm ws ov++[(((x:Nat):Int),ws.length)]:=by
 unfold Qfm;rw [Ye,Yk,Xg,Xx,Xo]
 congr 1
 ·
  have e:(Yf ws.length).filter (fun i=>(ov++[0]).getD i 0 == 0)=(Yf ws.length).filter fun i=>ov.getD i 0 == 0:=Um fun i hi=>by
   rw [Qc3 (by rw [hl];simpa using hi)]
  rw [e];refine List.map_congr_left fun i hi=>?_;rw [Uu,Ul] at hi;rw [Qc3 hi.1]
 have e1:(ov++[0]).getD ws.length 0=0:=by rw [<- hl];exact Qjt
 rw [Xv (by rw [beq_iff_eq];exact e1),Gg,List.map_cons,List.map_nil,Qjt]
theorem QGw (ws ov:List Nat):(Qfm ws ov).length=Qb3 (fun i=>if ov.getD i 0=0 then 1 else 0) ws.length:=by
 unfold Qfm;rw [Ub];generalize ws.length=n
 induction n with
 | zero=>rfl
 | succ n ih =>
  rw [Xg,Xx,Ye,ih,Qb3];by_cases h:ov.getD n 0=0
  ·
   rw [Xv (by rw [beq_iff_eq];exact h),if_pos h];rfl
  rw [Ud (by rw [beq_iff_eq];exact h),if_neg h];rfl
theorem Qz8 (w:List Nat):Qfm w (Ya w.length 0)=(Yf w.length).map fun i=>(((w.getD i 0:Nat):Int),i):=by
 unfold Qfm;rw [List.filter_eq_self.2 fun i hi=>by rw [Qd1];rfl]
theorem QKm {α:Type} (l:List α) (i:Nat) (x z:α) (hx:l[i]? = some x) (hz:l[l.length - 1]? = some z):l.Perm (x::(l.set i z).take (l.length - 1)):=by
 have hi:=(Y6.1 hx).1;have hxe:l[i]=x:=(Y6.1 hx).2
 have h1:l=l.take (l.length - 1)++[z]:=by
  have h2:l.drop (l.length - 1)=[z]:=by
   have h3:=(Y6.1 hz);rw [X7 h3.1,h3.2,Yy (by omega)]
  rw [<- h2,Yw]
 rw [List.take_set];generalize hin:l.take (l.length - 1)=t at *;have htl:t.length=l.length - 1:=by rw [<- hin,Ys];omega
 by_cases e:i=l.length - 1
 ·
  have:x=z:=by rw [e,hz] at hx;exact (Option.some.inj hx).symm
  subst this;rw [List.set_eq_of_length_le (by omega),h1];exact X4 _ _
 have hit:i < t.length:=by omega
 have hti:t[i]? = some x:=by
  rw [<- hin,List.getElem?_take,if_pos (by omega)];exact hx
 have ht:t=t.take i++x::t.drop (i+1):=by
  have h4:=Y6.1 hti;have h5:=X7 h4.1;rw [h4.2] at h5;rw [<- h5,Yw]
 rw [List.set_eq_take_append_cons_drop,if_pos hit];generalize t.take i=a at *;generalize t.drop (i+1)=b at *;rw [h1,ht,Yg];have p1:(a++(x::b++[z])).Perm (x::(a++(b++[z]))):=by simp
 refine p1.trans (List.Perm.cons x ?_);exact (Xz (l₁:=b) (l₂:=[z])).append_left a
def tvar (gT g cap:Nat) (l:List Tr):Res:=Yr gT 165 [.slice (some ⟨g,0,none⟩) l.length cap]
theorem Qsr (trees:List Tr) (hl:trees.length<=1000000) (hne:0 < trees.length) (hok:∀ t∈trees,TrOk t) (gT g cap:Nat) (w0 w:World) (B:List Nat) (G:List Res) (hL:Heap w0 B w (trow g cap trees::tvar gT g cap trees::G)) :
  Does Yi 157 #[.pointer (some ⟨gT,0,none⟩)] w fun v w'=>∃ (t:Tr) (trees':List Tr),trees.Perm (t::trees')/\(∀ x∈trees,¬ cmpT x t < 0)/\Heap w0 B w' (trow g cap trees'::tvar gT g cap trees'::G)/\v=.agg (Qbm t).toArray:=by
 obtain ⟨t0,l0,rfl⟩:∃ t0 l0,trees=t0::l0:=by
  cases trees with
  | nil=>simp at hne
  | cons t l=>exact ⟨t,l,rfl⟩
 have hmin:=QGv l0 t0
 have hmem:minT t0 l0∈t0::l0:=by
  rcases Quc l0 t0 with h | h
  ·
   rw [h];simp
  exact Gr _ h
 have hall:∀ x∈t0::l0,¬ cmpT x (minT t0 l0) < 0:=fun x hx=>by
  rcases Xt.1 hx with rfl | hx
  ·
   exact hmin.1
  exact hmin.2 x hx
 clear hmin;refine En [.pointer (some ⟨gT,0,none⟩)] 24 Tryz.func157 ?_;refine VQ [0,1] fun K hK=>?_;refine Qao (.agg #[.int .i64 0,.int .i64 0]) (by kernel_rfl) ?_;refine Qs ?_;have hH:=hL.box 167 [.int .i64 0,.int .i64 0];generalize w.alloc (Yu [Xn .i64 0,.int .i64 0].toArray 167)=w1 at *;generalize w.heap.size=gr at *;clear hL;apply hK;clear hK;refine VQ [0,1,2] fun K hK=>?_;refine ⟨_,Qah (hH.at 2 rfl) rfl,?_⟩;refine MemK_call Tryz.call158 ?_;refine Qs ?_;refine Ym (Qw8 t0 l0 (by simp at hl;omega) hok g cap w1 (hH.at 1 rfl)) ?_;rintro v w2 ⟨hHm,rfl⟩;have hH2:=hH.call0 hHm;simp only [Yp] at hH2;clear hH hHm;generalize minT t0 l0=t at *;generalize hT:t0::l0=trees at *;refine Qao (.agg #[.int .i64 0,.int .i64 0]) (by kernel_rfl) ?_;refine Qs ?_;have hH3:=hH2.box 167 [.int .i64 0,.int .i64 0];generalize w2.alloc (Yu [Xn .i64 0,.int .i64 0].toArray 167)=w3 at *;generalize w2.heap.size=gt at *;refine Qaa ?_;refine Qs ?_;refine Qae hH3 0 (vs:=Qbm t) rfl rfl (by kernel_rfl) (by simp [Qbm]) (Qd2 _) fun w4 hH4=>?_;have hH4:Heap w0 B w4 (Yr gt 167 (Qbm t)::Yr gr 167 [.int .i64 0,.int .i64 0]::trow g cap trees::tvar gT g cap trees::G):=hH4;clear hH2 hH3;apply hK;clear hK;refine VQ [0,1,2,3] fun K hK=>?_;refine ⟨_,Qah (hH4.at 3 rfl) rfl,?_⟩;refine ⟨Qbm t,⟨rfl,Qay (hH4.at 0 rfl)⟩,?_⟩;refine MemK_call Tryz.call159 ?_;refine Qs ?_;refine Ym (Qz7 t trees hl hmem g cap w4 (hH4.at 2 rfl)) ?_;rintro v w5 ⟨hHi,i,hi,rfl⟩;have hH5:=hH4.call0 hHi;simp only [Yp] at hH5;clear hH4 hHi;apply hK;clear hK;have hil:i < trees.length:=(Y6.1 hi).1;have hlast:trees[trees.length - 1]? = some trees[trees.length - 1]:=Yc (by omega);have hout:=QKm trees i t _ hi hlast;generalize trees[trees.length - 1]=z at *;have hrs:=Qaq (hH5.at 2 rfl);have hrd:=Qik Qfx hrs rfl hlast;rw [Qbg,Ug] at hrd;obtain ⟨hx1,hx2,hx3,hx4⟩:=hH5.at 2 rfl;clear hx1 hx4;refine VL [0,1,2] 9 fun K hK=>?_;refine ⟨_,Qah (hH5.at 3 rfl) rfl,_,Qah (hH5.at 3 rfl) rfl,_,Qah (hH5.at 3 rfl) rfl,?_⟩;refine Qs ?_;refine ⟨Xu (by omega) (by omega),⟨by omega,by omega⟩,?_⟩;refine ⟨Qbm z,⟨rfl,hrd⟩,?_⟩;refine Qp ?_;refine Qaa ?_;refine Qs ?_;refine Qaz hH5 2 (o:=i * 2) (vs:=Qbm z) rfl (by rw [Qbg,Ug]) rfl (by kernel_rfl) (by rw [Qkf];simp [Qbm];omega) (Qd2 z) fun w6 hH6=>?_;have e6:=Qv2 Qfx trees i z hil;simp only [Yj,Yd] at hH6;rw [Qfx] at hH6
 have hH7:Heap w0 B w6 (Yr gt 167 (Qbm t)::Yr gr 167 [.int .i64 0,.int .i64 0]::trow g cap (trees.set i z)::tvar gT g cap trees::G):=by
  have e7:trow g cap (trees.set i z)=Yo 167 2 (some ⟨g,0,none⟩) trees.length cap ((Qfl trees).take (i * 2)++Qbm z++(Qfl trees).drop (i * 2+2)):=by
   rw [trow,Xy];exact congrArg _ e6.symm
  rw [e7];exact hH6
 clear hH6 hH5 e6 hrd hrs;have hlen2:((trees.set i z).take (trees.length - 1)).length=trees.length - 1:=by rw [Ys,Xy];omega
 have hsh:(trow g cap (trees.set i z)).holds w6->(trow g cap ((trees.set i z).take (trees.length - 1))).holds w6:=fun h=>by
  have h1:=QDi (m:=trees.length - 1) h (by rw [Xy];omega);have h2:=Qr4 Qfx (trees.set i z) (trees.length - 1);rw [show Qfl (trees.set i z)=Qd3 Qbm (trees.set i z) from rfl,h2] at h1;rw [trow,hlen2];exact h1
 have hH8:=hH7.view 2 rfl hsh (fun b hb=>hb);simp only [Yj,Yd] at hH8;clear hH7 hsh;generalize (trees.set i z).take (trees.length - 1)=trees' at *;apply hK;clear hK;refine VQ [1,2] fun K hK=>?_;refine ⟨_,Qah (hH8.at 3 rfl) rfl,_,Qah (hH8.at 3 rfl) rfl,?_⟩;refine Qs ?_;refine ⟨Xu (by omega) (by omega),⟨by omega,by omega⟩,?_⟩;refine Qaa ?_;refine Qs ?_;refine Qae hH8 3 (vs:=[.slice (some ⟨g,0,none⟩) trees'.length cap]) rfl (by rw [hlen2];rfl) (by kernel_rfl) (by simp) (by simp [Yq]) fun w7 hH9=>?_;have hH9:Heap w0 B w7 (Yr gt 167 (Qbm t)::Yr gr 167 [.int .i64 0,.int .i64 0]::trow g cap trees'::tvar gT g cap trees'::G):=hH9;apply hK;clear hK;refine VQ [1] fun K hK=>?_;refine ⟨Qbm t,⟨rfl,Qay (hH9.at 0 rfl)⟩,?_⟩;refine Qaa ?_;refine Qs ?_;refine Qae hH9 1 (vs:=Qbm t) rfl rfl (by kernel_rfl) (by simp [Qbm]) (Qd2 _) fun w8 hH10=>?_;have hH10:Heap w0 B w8 (Yr gt 167 (Qbm t)::Yr gr 167 (Qbm t)::trow g cap trees'::tvar gT g cap trees'::G):=hH10;apply hK;clear hK;refine VC_ret (Qtl rfl rfl (Qbw (hH10.at 1 rfl) (by kernel_rfl) (by kernel_rfl) rfl ?_));exact ⟨t,trees',hout,hall,hH10.sub ((Y4 _ _).trans (Y4 _ _)),rfl⟩
theorem Qbs (n:Nat):Qak (Ya n 0)=Ya n (.int .i64 0):=by simp [Qak]
theorem QGx {n:Nat} (h:0 < n):Ya n (0:Nat)=[0]++Ya (n - 1) 0:=by
 obtain ⟨m,rfl⟩:∃ m,n=m+1:=⟨n - 1,by omega⟩;rfl
abbrev QSl (gT:Nat):Value:=.func (.func 157) #[] #[.pointer (some ⟨gT,0,none⟩)]
theorem QEb (l:List Nat) (hl:2<=l.length) (hl2:l.length<=258) (hx:∀ x∈l,1<=x/\x<=2147483648) (pa:Option Addr) (lc:Nat) (w:World) (hr:RS w pa l.length 1 (Qak l)) :
  Does Yi 130 #[.slice pa l.length lc] w fun v w'=>∃ a cap,Heap w [] w' [Yo 3 1 a (Qco l).length cap (Qak (Qco l))]/\v=.slice a (Qco l).length cap:=by
 obtain ⟨p,rfl⟩:=Qbj hr (by omega);have hget:∀ i,i < l.length->1<=l.getD i 0/\l.getD i 0<=2147483648:=fun i hi=>hx _ (Qa3 0 hi)
 have htot:Qb3 (fun i=>l.getD i 0) l.length<=1099511627776:=by
  have:=Qol (fun i=>l.getD i 0) 2147483648 l.length fun i hi=>(hget i hi).2;omega
 refine En [.slice (some p) l.length lc] 90 Tryz.func130 ?_;generalize hn:l.length=n at *;refine VS [0] ?_;refine VQ [0,3] fun K hK=>?_;refine Qao (.slice none 0 0) (by kernel_rfl) ?_;refine Qs ?_;have hH0:=((Y2 w).box 165 [.slice none 0 0]).nilRow 167 2;generalize w.alloc (Yu [Us none 0 0].toArray 165)=w1 at *;generalize w.heap.size=gT at *;apply hK;clear hK;refine VS [0,3,14,15,16] ?_;refine Qac ?_;refine Qad [0,3,14,15,16] (fun m e w'=>∃ (i cap:Nat) (a:Option Addr),Is e [(0,.slice (some p) n lc),(3,.pointer (some ⟨gT,0,none⟩)),(14,.slice (some p) n lc),(15,.int .i64 n),(16,.int .i64 i)]/\Heap w [] w' [Yo 167 2 a i cap (Qfl ((Yf i).map fun i=>(((l.getD i 0:Nat):Int),i))),Yr gT 165 [.slice a i cap]]/\i<=n/\m=n - i) n ?_ ?_
 ·
  refine Qs ?_;exact ⟨0,0,none,rfl,hH0,by omega,rfl⟩
 clear hH0;rintro m e w2 ⟨i,cap,a,rfl,hH,hi,rfl⟩;refine VS [0,3,14,15,16,17] ?_;(repeat refine Qax ?_);refine VD (fun h=>?_) (fun h=>?_)
 ·
  have hcell:=Qbr (hH.rs' hr) (i:=i) (by omega);have hsn:(Yf (i+1)).map (fun i=>(((l.getD i 0:Nat):Int),i))=(Yf i).map (fun i=>(((l.getD i 0:Nat):Int),i))++[(((l.getD i 0:Nat):Int),i)]:=by rw [Xg,Xo];rfl
  have hml:((Yf i).map (fun i=>(((l.getD i 0:Nat):Int),i))).length=i:=by simp
  generalize hL1:(Yf i).map (fun i=>(((l.getD i 0:Nat):Int),i))=L at *;generalize hxx:l.getD i 0=x at *;refine VC_skip ?_;refine VB ?_;refine VQ [0,3,4,5,14,15,16] fun K hK=>?_;refine ⟨⟨by omega,by omega⟩,_,hcell,?_⟩;apply hK;clear hK;refine VQ [0,3,14,15,16] fun K hK=>?_;refine ⟨_,Qah (hH.at 1 rfl) rfl,?_⟩;refine Qeq hH 2 (Qbm ((x:Int),i)) (xs:=[.tmp 24]) Xl QN6 rfl rfl rfl (by omega) (by omega) ?_;refine Qs ?_;refine ⟨rfl,by simp [Y3],fun g w4 hH2=>?_⟩;refine Qai ?_;refine Qs ?_;refine Qbn (zs:=#[.int .i64 0,.int .i64 0]) (bytes:=16) hH2 1 rfl Xl (by kernel_rfl) rfl ⟨rfl,Qaq (hH2.at 0 rfl),167,Xl⟩ (Qd2 _) (fun h=>by omega) fun a' cap' w5 hc' hH3=>?_;simp only [Yj,Yd] at hH3;refine Qaa ?_;refine Qs ?_;refine Qae hH3 2 (vs:=[.slice a' (i+1) cap']) rfl rfl (by kernel_rfl) (by simp) (by simp [Yq]) fun w6 hH4=>?_
  have hH5:Heap w [] w6 [Yo 167 2 a' (i+1) cap' (Qfl (L++[((x:Int),i)])),Yr gT 165 [.slice a' (i+1) cap']]:=by
   rw [Qfl,Qjl,Qv0];exact (hH4.sub (Y4 _ _))
  apply hK;clear hK;refine Qaj ?_;refine VS [0,3,14,15,16] ?_;refine Qab ?_;refine Qs ?_;exact ⟨n - (i+1),by omega,i+1,cap',a',rfl,by rw [hsn];exact hH5,by omega,rfl⟩
 obtain rfl:i=n:=by omega
 obtain ⟨g,rfl⟩:=Qc1 (hH.at 0 rfl) (by omega);have hroots:=Qz8 l;rw [hn] at hroots;rw [<- hroots] at hH;have hrl:(Qfm l (Ya i 0)).length=i:=by rw [hroots];simp
 clear hroots;generalize hT0:Qfm l (Ya i 0)=T0 at *
 have hH1:Heap w [] w2 [trow g cap T0,tvar gT g cap T0]:=by
  unfold trow tvar;rw [hrl];exact hH
 clear hH;refine Qag rfl ?_;generalize i=n at *;refine VQ [0,3,6] fun K hK=>?_;refine ⟨Xu (by omega) (by omega),?_⟩;refine Qbi Yn zi3 ?_;refine Qs ?_;refine ⟨2 * n,2 * n,⟨by push_cast;rfl,by push_cast;rfl,by omega,by omega,by omega⟩,?_⟩;have hH2:=hH1.row 3 (n:=2 * n) (cap:=2 * n) (sz:=1) (Qak (Ya (2 * n) 0)) [] (by simp [Qal]) (by simp [Qal]) (by omega) (by omega);rw [Yl,Qbs] at hH2;generalize w2.alloc (Yu (Ya (2 * n) (Xn Xp 0)).toArray 3)=w3 at *;generalize w2.heap.size=go at *;rw [<- Qbs] at hH2;clear hH1;apply hK;clear hK;refine VS [0,3,6,7] ?_;refine VS [0,3,6,7,8] ?_;refine VB ?_;refine Qad [0,3,6,7,8] (fun m e w'=>∃ (k cap g:Nat) (ws ov:List Nat) (hh:Nat->Nat) (T:List Tr),Is e [(0,.slice (some p) n lc),(3,.pointer (some ⟨gT,0,none⟩)),(6,.slice (some ⟨go,0,none⟩) (2 * n) (2 * n)),(7,.int .i64 (n+k:Nat)),(8,QSl gT)]/\Heap w [] w' [trow g cap T,tvar gT g cap T,Yo 3 1 (some ⟨go,0,none⟩) (2 * n) (2 * n) (Qak (ov++Ya (n - k) 0))]/\Qjq k (l,Ya n 0)=(ws,ov)/\Grown l k ws ov hh/\T.Perm (Qfm ws ov)/\k+1<=n/\m=n - k) n ?_ ?_
 ·
  refine Qs ?_;have hg:=Grown.start l (by omega) (fun i hi=>(hget i (by omega)).1);rw [hn] at hg;refine ⟨0,cap,g,l,Ya n 0,_,T0,rfl,?_,rfl,hg,by rw [hT0],by omega,rfl⟩;have e:Ya n 0++Ya (n - 0) 0=Ya (2 * n) (0:Nat):=by rw [List.replicate_append_replicate];congr 1;omega
  rw [e];exact hH2.perm ((Xz (l₁:=[_])))
 clear hH2 hT0 hrl;rintro m e w4 ⟨k,cap,g,ws,ov,hh,T,rfl,hH,hgr,hg,hp,hk,rfl⟩
 have hTl:T.length+k=n:=by
  have h1:=hg.roots;rw [hp.length_eq,QGw,hg.lws,hn];rw [hn] at h1;exact h1
 have hTok:∀ t∈T,TrOk t:=fun t ht=>by
  obtain ⟨h1,h2,h3⟩:=Qpz.1 (hp.mem_iff.1 ht);have h4:=Qok (fun i=>if ov.getD i 0=0 then ws.getD i 0 else 0) (l.length+k) t.2 (by have:=hg.lws;omega);simp only [if_pos h2] at h4;rw [hg.weight,hn] at h4;have:=hg.lws;unfold TrOk;omega
 refine VQ [0,3,6,7,8,37] fun K hK=>?_;refine ⟨_,Qah (hH.at 1 rfl) rfl,?_⟩;refine Qs ?_;apply hK;clear hK;refine VD (fun h=>?_) (fun h=>?_)
 ·
  have hk2:k+1 < n:=by omega
  have hpick:=hg.pick (by omega);obtain ⟨hla,hlb,hne,hbf⟩:=hpick;have hlw:=hg.lws;have hlo:=hg.lov;rw [hn] at hlw hlo;refine VC_skip ?_;refine Qac ?_;refine VQ [0,3,6,7,8,9,10] fun K hK=>?_;refine Qbp ?_;refine Qs ?_;refine Gx Tryz.call157 (Qsr T (by omega) (by omega) hTok gT g cap w w4 [] _ hH) ?_;rintro v w5 ⟨ta,Ta,hpa,hma,hH2,rfl⟩;have hta:=Qp0 (hp.mem_iff.1 (hpa.mem_iff.2 (by simp))) (fun x hx'=>hma x (hp.mem_iff.2 hx'));have hta2:ta.2=Qdp ws ov:=hta.1.unique hla;have htaE:ta=(((ws.getD (Qdp ws ov) 0:Nat):Int),Qdp ws ov):=(Qm7 _ _).2 ⟨by rw [hta.2,hta2],hta2⟩;have hTaok:∀ t∈Ta,TrOk t:=fun t ht=>hTok t (hpa.mem_iff.2 (by simp [ht]));have hTal:Ta.length+1=T.length:=by have:=hpa.length_eq;simp at this;omega
  have hcut:=Qxa (v:=ws.length) hla.lt (by omega) hla.free (by omega);rw [<- htaE] at hcut;have hpTa:Ta.Perm (Qfm ws (ov.set (Qdp ws ov) ws.length)):=((hpa.symm.trans hp).trans hcut).cons_inv;clear hH;refine Qbp ?_;refine Qs ?_;refine Gx Tryz.call157 (Qsr Ta (by omega) (by omega) hTaok gT g cap w w5 [] _ hH2) ?_;rintro v w6 ⟨tb,Tb,hpb,hmb,hH3,rfl⟩;have htb:=Qp0 (hpTa.mem_iff.1 (hpb.mem_iff.2 (by simp))) (fun x hx'=>hmb x (hpTa.mem_iff.2 hx'));have htb2:tb.2=Qdp ws (ov.set (Qdp ws ov) ws.length):=htb.1.unique hlb;have htbE:tb=(((ws.getD tb.2 0:Nat):Int),tb.2):=(Qm7 _ _).2 ⟨htb.2,rfl⟩;rw [<- htb2] at hlb hne hbf;have hTbok:∀ t∈Tb,TrOk t:=fun t ht=>hTaok t (hpb.mem_iff.2 (by simp [ht]));have hTbl:Tb.length+1=Ta.length:=by have:=hpb.length_eq;simp at this;omega
  rw [<- hta2] at hla hlb hne hpTa;have hl1:(ov.set ta.2 ws.length).length=ws.length:=by simp;omega
  have hcut2:=Qxa (v:=ws.length) hlb.lt hl1 hlb.free (by omega);rw [<- htbE] at hcut2;have hpTb:Tb.Perm (Qfm ws ((ov.set ta.2 ws.length).set tb.2 ws.length)):=((hpb.symm.trans hpTa).trans hcut2).cons_inv;have hoka:=hTok ta (hpa.mem_iff.2 (by simp));have hokb:=hTaok tb (hpb.mem_iff.2 (by simp))
  have hstep:Qjq (k+1) (l,Ya n 0)=(ws++[ws.getD ta.2 0+ws.getD tb.2 0],(ov.set ta.2 ws.length).set tb.2 ws.length++[0]):=by
   rw [Qjq,hgr,Qgu];simp only;rw [<- htb2,<- hta2]
  obtain ⟨h',hg'⟩:=hg.step (by omega)
  have hgs:Qgu (ws,ov)=(ws++[ws.getD ta.2 0+ws.getD tb.2 0],(ov.set ta.2 ws.length).set tb.2 ws.length++[0]):=by
   rw [Qgu];simp only;rw [<- htb2,<- hta2]
  rw [hgs] at hg';simp only at hg';have ha1:=hla.lt;have hb1:=hlb.lt;have hwa:=hta.2;have hwb:=htb.2;clear hH2 hgs hcut hcut2 hta htb htaE htbE hma hmb;generalize hA:ta.2=A at *;generalize hB:tb.2=Bn at *;refine Qao (.agg #[.int .i64 0,.int .i64 0]) (by kernel_rfl) ?_;refine Qs ?_;have hH4:=hH3.box 167 [.int .i64 0,.int .i64 0];generalize w6.alloc (Yu [Xn .i64 0,.int .i64 0].toArray 167)=w7 at *;generalize w6.heap.size=ga at *;refine Qao (.agg #[.int .i64 0,.int .i64 0]) (by kernel_rfl) ?_;refine Qs ?_;have hH5:=hH4.box 167 [.int .i64 0,.int .i64 0];generalize w7.alloc (Yu [Xn .i64 0,.int .i64 0].toArray 167)=w8 at *;generalize w7.heap.size=gb at *;refine Qaa ?_;refine Qs ?_;refine Qae hH5 1 (vs:=Qbm ta) rfl rfl (by kernel_rfl) (by simp [Qbm]) (Qd2 _) fun w9 hH6=>?_;refine Qaa ?_;refine Qs ?_;refine Qae hH6 0 (vs:=Qbm tb) rfl rfl (by kernel_rfl) (by simp [Qbm]) (Qd2 _) fun w10 hH7=>?_;have hH7:Heap w [] w10 [Yr gb 167 (Qbm tb),Yr ga 167 (Qbm ta),trow g cap Tb,tvar gT g cap Tb,Yo 3 1 (some ⟨go,0,none⟩) (2 * n) (2 * n) (Qak (ov++Ya (n - k) 0))]:=hH7;clear hH3 hH4 hH5 hH6;apply hK;clear hK;have ca1:(Qbm ta)[1]? = some (.int .i64 (A:Nat)):=by rw [<- hA];rfl
  have cb1:(Qbm tb)[1]? = some (.int .i64 (Bn:Nat)):=by rw [<- hB];rfl
  have hol:(ov++Ya (n - k) 0).length=2 * n:=by simp;omega
  have hF:=hH7.focus 4 rfl;have hla1:=hH7.hole_at 4 1 rfl rfl (by omega) ca1;have hlb1:=hH7.hole_at 4 0 rfl rfl (by omega) cb1;refine VH (holes [go] w10) (Ext.hole _ _) [0,3,6,7,8,9,10] [(0,true),(1,true),(2,true),(3,true),(4,true),(5,true),(6,true),(7,true),(8,true),(9,false),(10,true),(11,false)] fun K hK=>?_;refine ⟨_,hla1,_,hlb1,?_⟩;refine Qs ?_;refine Qp ?_;refine Qaa ?_;refine Qs ?_;refine Qaz hF 0 (o:=(A)) (vs:=[.int .i64 (n+k:Nat)]) rfl (by first | exact (Qbg _ _ _).symm | rfl | simp [Qbg]) rfl (by kernel_rfl) (by first | omega | (simp;done) | (simp;omega) | (simp [Qar,Qat];omega) | (rw [Qal];simp;omega)) (by simp [Yq]) fun w6 hH8=>?_;(try refine Qs ?_);simp only [Yk,Qcb (Qak (ov++Ya (n - k) 0)) _ _ (show A < (Qak (ov++Ya (n - k) 0)).length by rw [Qal,hol];omega),Qck,Yd,Yj] at hH8;refine ⟨hH8.upd.extH,⟨by omega,by omega⟩,?_⟩;refine Qaa ?_;refine Qs ?_;refine Qaz hH8 0 (o:=(Bn)) (vs:=[.int .i64 (n+k:Nat)]) rfl (by first | exact (Qbg _ _ _).symm | rfl | simp [Qbg]) rfl (by kernel_rfl) (by first | omega | (simp;done) | (simp;omega) | (simp [Qar,Qat];omega) | (rw [Qal];simp;omega)) (by simp [Yq]) fun w6 hH9=>?_;(try refine Qs ?_);simp only [Yk,Qcb (Qak ((ov++Ya (n - k) 0).set A (n+k))) _ _ (show Bn < (Qak ((ov++Ya (n - k) 0).set A (n+k))).length by rw [Qal,Xy,hol];omega),Qck,Yd,Yj] at hH9;refine ⟨hH9.upd.extH,?_⟩;apply hK;clear hK;have hH9:=hH7.call1 4 rfl hH9;simp only [Yd,Yj,Yp] at hH9;clear hF hla1 hlb1
  have hrow:((ov++Ya (n - k) 0).set A (n+k)).set Bn (n+k)=((ov.set A ws.length).set Bn ws.length++[0])++Ya (n - (k+1)) 0:=by
   rw [X1 _ _ (by omega),X1 _ _ (by rw [Xy];omega),hlw,QGx (show 0 < n - k by omega),Yg,show n - k - 1=n - (k+1) by omega]
  rw [hrow] at hH9;have hH10:Heap w [] w6 [Yr gb 167 (Qbm tb),Yr ga 167 (Qbm ta),trow g cap Tb,tvar gT g cap Tb,Yo 3 1 (some ⟨go,0,none⟩) (2 * n) (2 * n) (Qak (((ov.set A ws.length).set Bn ws.length++[0])++Ya (n - (k+1)) 0))]:=hH9;have hso:=QEa (ws:=ws) (ov:=(ov.set A ws.length).set Bn ws.length) (ws.getD A 0+ws.getD Bn 0) (by simp;omega);clear hH7 hH8 hH9 hrow hol ca1 cb1;generalize (ov.set A ws.length).set Bn ws.length++[0]=ov' at *;generalize hwx:ws.getD A 0+ws.getD Bn 0=wx at *
  have hpf:(Tb++[(((wx:Nat):Int),n+k)]).Perm (Qfm (ws++[wx]) ov'):=by
   rw [hso,hlw];rw [hlw] at hpTb;exact hpTb.append_right _
  clear hso hpTb;have hoka':=hoka;have hokb':=hokb;unfold TrOk at hoka' hokb';have hsum:ta.1+tb.1=((wx:Nat):Int):=by rw [hwa,hwb,<- hwx];push_cast;rfl
  have ca0:(Qbm ta)[0]? = some (.int .i64 ta.1):=rfl;have cb0:(Qbm tb)[0]? = some (.int .i64 tb.1):=rfl;refine VQ [0,3,6,7,8] fun K hK=>?_;refine ⟨_,Qah (hH10.at 3 rfl) rfl,_,Qah (hH10.at 1 rfl) ca0,_,Qah (hH10.at 0 rfl) cb0,?_⟩;refine Qs ?_;refine ⟨Xu (by omega) (by omega),?_⟩;rw [hsum];refine Qeq hH10 2 (Qbm ((wx:Int),n+k)) (xs:=[.tmp 59]) Xl QN6 rfl rfl rfl (by omega) (by omega) ?_;refine Qs ?_;refine ⟨rfl,by simp [Y3],fun g2 w11 hH11=>?_⟩;refine Qai ?_;refine Qs ?_;refine Qbn (zs:=#[.int .i64 0,.int .i64 0]) (bytes:=16) hH11 3 rfl Xl (by kernel_rfl) rfl ⟨rfl,Qaq (hH11.at 0 rfl),167,Xl⟩ (Qd2 _) (fun h=>by omega) fun a' cap' w12 hc' hH12=>?_;simp only [Yj,Yd] at hH12;obtain ⟨g',rfl⟩:=Qc1 (hH12.at 3 rfl) (by omega);refine Qaa ?_;refine Qs ?_;refine Qae hH12 4 (vs:=[.slice (some ⟨g',0,none⟩) (Tb.length+1) cap']) rfl rfl (by kernel_rfl) (by simp) (by simp [Yq]) fun w13 hH13=>?_
  have hH14:Heap w [] w13 [trow g' cap' (Tb++[((wx:Int),n+k)]),tvar gT g' cap' (Tb++[((wx:Int),n+k)]),Yo 3 1 (some ⟨go,0,none⟩) (2 * n) (2 * n) (Qak (ov'++Ya (n - (k+1)) 0))]:=by
   rw [trow,tvar,Qfl,Qjl,Qv0,Ye,Yk];exact hH13.sub (((Y4 _ _).trans (Y4 _ _)).trans (Y4 _ _))
  apply hK;clear hK;refine VS [0,3,6,7,8] ?_;refine Qaj ?_;refine Qab ?_;refine Qs ?_;exact ⟨n - (k+1),by omega,k+1,cap',g',_,_,h',_,rfl,hH14,hstep,hg',hpf,by omega,rfl⟩
 obtain rfl:n=k+1:=by omega
 have hover:Qrc l=ov:=by rw [Qrc,hn,Xk,hgr]
 have hgrS:Qco l=(Yf (k+1)).map fun i=>Qb7 ov (2 * (k+1)) i:=by rw [Qco,hover,hn]
 have hdl:∀ f i,Qb7 ov f i<=f:=fun f=>by
  induction f with
  | zero=>intro i;simp [Qb7]
  | succ f ih=>intro i;rw [Qb7];split;omega;have:=ih (ov.getD i 0);omega
 have hlo:=hg.lov;rw [hn] at hlo;have hup:=hg.up;rw [hn] at hup;have hdep:∀ i,i < k+1+k->ov.getD i 0≠0->Qb7 ov (2 * (k+1)) i=Qb7 ov (2 * (k+1)) (ov.getD i 0)+1:=fun i hi h0=>hg.dep _ (by omega) (by omega) h0
 have hd0:∀ i,ov.getD i 0=0->Qb7 ov (2 * (k+1)) i=0:=fun i h0=>by
  rw [show 2 * (k+1)=(2 * k+1)+1 by omega,Qb7,if_pos h0]
 rw [hgrS]
 have hH1:Heap w [] w4 [Yo 3 1 (some ⟨go,0,none⟩) (2 * (k+1)) (2 * (k+1)) (Qak (ov++[0]))]:=by
  have e:k+1 - k=1:=by omega
  rw [e] at hH;exact hH.sub ((Y4 _ _).trans (Y4 _ _))
 clear hH hgrS hgr hg hp hTl hTok hover;have hog:∀ i,i < k+1+k->(ov++[0]).getD i 0=ov.getD i 0:=fun i hi=>Qc3 (by omega);have hol:(ov++[0]).length=2 * (k+1):=by simp;omega
 refine Qag rfl ?_;refine VQ [0,6,11] fun K hK=>?_;refine Qbi Yn zi3 ?_;refine Qs ?_;refine ⟨k+1,k+1,⟨rfl,rfl,by omega,by omega,by omega⟩,?_⟩;have hH2:=hH1.row 3 (n:=k+1) (cap:=k+1) (sz:=1) (Qak (Ya (k+1) 0)) [] (by simp [Qal]) (by simp [Qal]) (by omega) (by omega);rw [Yl,Qbs] at hH2;generalize w4.alloc (Yu (Ya (k+1) (Xn Xp 0)).toArray 3)=w5 at *;generalize w4.heap.size=gu at *;rw [<- Qbs] at hH2;clear hH1;apply hK;clear hK;refine VS [6,11,68,69] ?_;refine Qac ?_;refine Qad [6,11,68,69] (fun m e w'=>∃ (i:Nat),Is e [(6,.slice (some ⟨go,0,none⟩) (2 * (k+1)) (2 * (k+1))),(11,.slice (some ⟨gu,0,none⟩) (k+1) (k+1)),(68,.int .i64 (k+1:Nat)),(69,.int .i64 i)]/\Heap w [] w' [Yo 3 1 (some ⟨gu,0,none⟩) (k+1) (k+1) (Qak ((Yf i).map (fun i=>Qb7 ov (2 * (k+1)) i)++Ya (k+1 - i) 0)),Yo 3 1 (some ⟨go,0,none⟩) (2 * (k+1)) (2 * (k+1)) (Qak (ov++[0]))]/\i<=k+1/\m=k+1 - i) (k+1) ?_ ?_
 ·
  refine Qs ?_;exact ⟨0,rfl,by simpa using hH2,by omega,rfl⟩
 clear hH2;rintro m e w6 ⟨i,rfl,hH,hi,rfl⟩;refine VS [6,11,68,69,70] ?_;(repeat refine Qax ?_);refine VD (fun h=>?_) (fun h=>?_)
 ·
  have hsn:(Yf (i+1)).map (fun i=>Qb7 ov (2 * (k+1)) i)=(Yf i).map (fun i=>Qb7 ov (2 * (k+1)) i)++[Qb7 ov (2 * (k+1)) i]:=by rw [Xg,Xo];rfl
  have hml:((Yf i).map (fun i=>Qb7 ov (2 * (k+1)) i)).length=i:=by simp
  have hdi:=hdl (2 * (k+1)) i;generalize (Yf i).map (fun i=>Qb7 ov (2 * (k+1)) i)=Dn at *;rw [QGx (show 0 < k+1 - i by omega),Y0] at hH;refine VC_skip ?_;refine VB ?_;refine VS [6,11,12,68,69] ?_;refine VS [6,11,12,13,68,69] ?_;refine Qac ?_;refine Qad [6,11,12,13,68,69] (fun m e w'=>∃ (c at_:Nat),Is e [(6,.slice (some ⟨go,0,none⟩) (2 * (k+1)) (2 * (k+1))),(11,.slice (some ⟨gu,0,none⟩) (k+1) (k+1)),(12,.int .i64 i),(13,.int .i64 at_),(68,.int .i64 (k+1:Nat)),(69,.int .i64 i)]/\Heap w [] w' [Yo 3 1 (some ⟨gu,0,none⟩) (k+1) (k+1) (Qak (Dn++c::Ya (k+1 - i - 1) 0)),Yo 3 1 (some ⟨go,0,none⟩) (2 * (k+1)) (2 * (k+1)) (Qak (ov++[0]))]/\at_ < k+1+k/\c+Qb7 ov (2 * (k+1)) at_=Qb7 ov (2 * (k+1)) i/\m=2 * (k+1) - at_) (2 * (k+1) - i) ?_ ?_
  ·
   refine Qs ?_;exact ⟨0,i,rfl,hH,by omega,by omega,rfl⟩
  clear hH;rintro m e w7 ⟨c,at_,rfl,hH,hat,hc,rfl⟩;have hov:=hup at_ hat
  have hcell:w7.cell? ⟨go,at_,none⟩=some (.int .i64 ((ov.getD at_ 0:Nat):Int)):=by
   rw [<- hog at_ hat];exact Qa1 (hH.at 1 rfl) (Qb4 (by omega))
  refine VQ [6,11,12,13,68,69,77] fun K hK=>?_;refine ⟨⟨by omega,by omega⟩,_,hcell,?_⟩;refine Qs ?_;apply hK;clear hK;refine VD (fun h=>?_) (fun h=>?_)
  ·
   have h0:ov.getD at_ 0≠0:=by omega
   have hda:=hdep at_ hat h0;have hlen:(Dn++c::Ya (k+1 - i - 1) 0).length=k+1:=by simp;omega
   have hgc:(Dn++c::Ya (k+1 - i - 1) 0).getD i 0=c:=by
    rw [Yb,Yx (by omega),hml,Xi];rfl
   have hsc:(Dn++c::Ya (k+1 - i - 1) 0).set i (c+1)=Dn++(c+1)::Ya (k+1 - i - 1) 0:=by
    rw [Y9 _ _ (by omega),hml,Xi];rfl
   have hcu:w7.cell? ⟨gu,i,none⟩=some (.int .i64 ((c:Nat):Int)):=by
    have:=Qa1 (hH.at 0 rfl) (Qb4 (l:=Dn++c::Ya (k+1 - i - 1) 0) (i:=i) (by omega))
    rwa [hgc] at this
   refine VC_skip ?_;refine VB ?_;refine VQ [6,11,12,13,68,69] fun K hK=>?_;refine ⟨⟨by omega,by omega⟩,_,hcu,?_⟩;refine Qs ?_;refine ⟨Xu (by omega) (by omega),⟨by omega,by omega⟩,?_⟩;refine Qaa ?_;refine Qs ?_;refine Qaz hH 0 (o:=(i)) (vs:=[.int .i64 (c+1:Nat)]) rfl (by first | exact (Qbg _ _ _).symm | rfl | simp [Qbg]) rfl (by kernel_rfl) (by first | omega | (simp;done) | (simp;omega) | (simp [Qar,Qat];omega) | (rw [Qal];simp;omega)) (by simp [Yq]) fun w6 hH3=>?_;(try refine Qs ?_);simp only [Yk,Qcb (Qak (Dn++c::Ya (k+1 - i - 1) 0)) _ _ (show i < (Qak (Dn++c::Ya (k+1 - i - 1) 0)).length by rw [Qal,hlen];omega),Qck,Yd,hsc] at hH3;apply hK;clear hK;refine Qaj ?_
   have hcell2:w6.cell? ⟨go,at_,none⟩=some (.int .i64 ((ov.getD at_ 0:Nat):Int)):=by
    rw [<- hog at_ hat];exact Qa1 (hH3.at 1 rfl) (Qb4 (by omega))
   refine VQ [6,11,12,13,68,69] fun K hK=>?_;refine ⟨⟨by omega,by omega⟩,_,hcell2,?_⟩;apply hK;clear hK;refine Qab ?_;refine Qs ?_;exact ⟨2 * (k+1) - ov.getD at_ 0,by omega,c+1,ov.getD at_ 0,rfl,hH3,by omega,by omega,rfl⟩
  have h0:ov.getD at_ 0=0:=by omega
  rw [hd0 at_ h0] at hc;refine Qag rfl ?_;refine Qaj ?_;refine VS [6,11,68,69] ?_;refine Qab ?_;refine Qs ?_;refine ⟨k+1 - (i+1),by omega,i+1,rfl,?_,by omega,rfl⟩;rw [hsn,<- hc,Yg,Y0,Ga,show k+1 - (i+1)=k+1 - i - 1 by omega];exact hH
 obtain rfl:i=k+1:=by omega
 refine Qag rfl ?_;refine VS [2] ?_;refine VC_ret (VX_ret1 rfl rfl ?_);have e:((Yf (k+1)).map fun i=>Qb7 ov (2 * (k+1)) i).length=k+1:=by simp
 rw [e];rw [Xi,X9,Yl] at hH;exact ⟨_,_,hH.sub (by simp),rfl⟩
theorem Qor (l:List Nat) (f:Nat->Nat) {i:Nat} (h:i < l.length):((l.take i).map f++l.drop i).set i (f (l.getD i 0))=(l.take (i+1)).map f++l.drop (i+1)/\((l.take i).map f++l.drop i).getD i 0=l.getD i 0/\((l.take i).map f++l.drop i).length=l.length:=by
 have h1:=Qb2 0 h;have h2:=drop_getD 0 h;have h3:((l.take i).map f).length=i:=by rw [Ub,Ys];omega
 refine ⟨?_,?_,?_⟩
 ·
  rw [h2,Y9 _ _ (by omega),h3,Xi,Yd,h1,Xo,Yg];rfl
 ·
  rw [h2,Yb,Yx (by omega),h3,Xi];rfl
 rw [Ye,h3,Y5];omega
theorem QGy (l:List Nat) (most:Nat) (hl:2<=l.length) (hl2:l.length<=258) (hx:∀ x∈l,x<=1073741824) (hm:12<=most) (hm2:most<=20) (pa:Option Addr) (lc:Nat) (w:World) (hr:RS w pa l.length 1 (Qak l)) :
  Does Yi 100 #[.slice pa l.length lc,.int .i64 most] w fun v w'=>∃ a cap,Heap w [] w' [Yo 3 1 a (lenS l most).length cap (Qak (lenS l most))]/\v=.tuple #[.slice a (lenS l most).length cap,.int .i64 0]:=by
 have hc1:=Qpo l hl hl2 hx pa lc w hr;have hc2:=QD2 l (by omega) (by omega) pa lc w hr;refine En [.slice pa l.length lc,.int .i64 most] 59 Tryz.func100 ?_;have hlS:lenS l most=Qk2 most 40 (l.map fun x=>max x 1):=rfl;generalize lenS l most=res at *;generalize hn:l.length=n at *;refine VS [0,1] ?_;refine VQ [0,1,22] fun K hK=>?_;refine MemK_call Tryz.call128 ?_;refine Qs ?_;refine Ym hc1 ?_;rintro v w2 ⟨rfl,rfl⟩;refine Qs ?_
 suffices out:∀ b:Bool,(b=true ↔ False)->K [(0,.slice pa n lc),(1,.int .i64 most),(22,.bool b)] w2 by
  rw [Bool.not_true];refine Qs ?_;refine ⟨fun h=>out _ (by simp;omega),fun h=>absurd h (by omega)⟩
 intro b hb;apply hK;clear hK;refine Qaf rfl rfl (fun h=>(hb.1 h).elim) (fun h=>VC_skip ?_);clear hb h;refine VQ [1,6] fun K hK=>?_;refine MemK_call Tryz.call129 ?_;refine Qs ?_;refine Ym hc2 ?_;rintro v w3 ⟨a,cap,hH,rfl⟩;apply hK;clear hK;obtain ⟨g,rfl⟩:=Qc1 (hH.at 0 rfl) (by omega);refine VS [1,6,25,26,27] ?_;refine Qac ?_;refine Qad [1,6,25,26,27] (fun m e w'=>∃ (i:Nat),Is e [(1,.int .i64 most),(6,.slice (some ⟨g,0,none⟩) n cap),(25,.slice (some ⟨g,0,none⟩) n cap),(26,.int .i64 n),(27,.int .i64 i)]/\Heap w2 [] w' [Yo 3 1 (some ⟨g,0,none⟩) n cap (Qak ((l.take i).map (fun x=>max x 1)++l.drop i))]/\i<=n/\m=n - i) n ?_ ?_
 ·
  refine Qs ?_;exact ⟨0,rfl,by simpa using hH,by omega,rfl⟩
 clear hH;rintro m e w4 ⟨i,rfl,hH,hi,rfl⟩;refine VS [1,6,25,26,27,28] ?_;(repeat refine Qax ?_);refine VD (fun h=>?_) (fun h=>?_)
 ·
  obtain ⟨hs1,hs2,hs3⟩:=Qor l (fun x=>max x 1) (i:=i) (by omega);have hxi:=hx _ (Qa3 0 (l:=l) (i:=i) (by omega));have hcell:=Qa1 (hH.at 0 rfl) (Qb4 (l:=(l.take i).map (fun x=>max x 1)++l.drop i) (i:=i) (by omega));rw [hs2] at hcell;generalize l.getD i 0=x at *;refine VC_skip ?_;refine VB ?_;refine VQ [1,6,7,8,25,26,27] fun K hK=>?_;refine ⟨⟨by omega,by omega⟩,_,hcell,?_⟩;apply hK;clear hK;refine VQ [1,6,25,26,27] fun K hK=>?_;refine Qp ?_;rw [show max ((x:Nat):Int) 1=((max x 1:Nat):Int) by omega];refine Qaa ?_;refine Qs ?_;refine Qaz hH 0 (o:=(i)) (vs:=[.int .i64 (max x 1:Nat)]) rfl (by first | exact (Qbg _ _ _).symm | rfl | simp [Qbg]) rfl (by kernel_rfl) (by first | omega | (simp;done) | (simp;omega) | (simp [Qar,Qat];omega) | (rw [Qal];simp;omega)) (by simp [Yq]) fun w6 hH2=>?_;(try refine Qs ?_);simp only [Yk,Qcb (Qak ((l.take i).map (fun x=>max x 1)++l.drop i)) _ _ (show i < (Qak ((l.take i).map (fun x=>max x 1)++l.drop i)).length by rw [Qal,hs3];omega),Qck,Yd,hs1] at hH2;apply hK;clear hK;refine Qaj ?_;refine VS [1,6,25,26,27] ?_;refine Qab ?_;refine Qs ?_;exact ⟨n - (i+1),by omega,i+1,rfl,hH2,by omega,rfl⟩
 obtain rfl:i=n:=by omega
 rw [Yh (by omega),Yy (by omega),Yl] at hH;refine Qag rfl ?_
 have hown1:∀ x∈l.map (fun x=>max x 1),1<=x/\x<=bnd 40/\x<=2147483648:=fun x hx'=>by
  obtain ⟨y,hy,rfl⟩:=Xh.1 hx';have:=hx y hy;have e:bnd 40=549755813890:=by decide
  omega
 have hownl:(l.map fun x=>max x 1).length=i:=by simp [hn]
 generalize l.map (fun x=>max x 1)=own0 at *;generalize i=n at *;clear hn hx hi h;refine Qac ?_;refine Qad [1,6] (fun m e w'=>∃ (t:Nat) (own:List Nat),Is e [(1,.int .i64 most),(6,.slice (some ⟨g,0,none⟩) n cap)]/\Heap w2 [] w' [Yo 3 1 (some ⟨g,0,none⟩) n cap (Qak own)]/\own.length=n/\(∀ x∈own,1<=x/\x<=bnd t/\x<=2147483648)/\res=Qk2 most t own/\m=t) 40 ?_ ?_
 ·
  refine Qs ?_;exact ⟨40,own0,rfl,hH,hownl,hown1,hlS,rfl⟩
 clear hH hown1 hownl hlS;rintro m e w5 ⟨t,own,rfl,hH,hol,hob,hres,rfl⟩;have hgl:=Qfu own;have hc3:=QEb own (by omega) (by omega) (fun x hx'=>⟨(hob x hx').1,(hob x hx').2.2⟩) (some ⟨g,0,none⟩) cap w5 (by rw [hol];exact Qaq (hH.at 0 rfl));rw [hol] at hc3 hgl;refine Qac ?_;refine VQ [1,6,9] fun K hK=>?_;refine MemK_call Tryz.call130 ?_;refine Qs ?_;refine Ym hc3 ?_;rintro v w6 ⟨a2,cap2,hHg,rfl⟩;have hH2:=hH.call0 hHg;clear hH hHg;simp only [Y0] at hH2;apply hK;clear hK;refine VQ [1,6,9,43] fun K hK=>?_;refine MemK_call Tryz.call131 ?_;refine Qs ?_;refine Ym (QBs (Qco own) (by omega) (by omega) a2 cap2 w6 (Qaq (hH2.at 0 rfl))) ?_;rintro v w7 ⟨rfl,rfl⟩;refine Qs ?_;apply hK;clear hK;refine VD (fun h=>?_) (fun h=>VC_skip ?_)
 ·
  have hfin:res=Qco own:=by
   rw [hres];cases m with
   | zero=>rfl
   | succ t=>rw [Qk2,if_pos (by omega)]
  refine VS [4,5] ?_;exact VC_ret (Qav rfl rfl rfl ⟨a2,cap2,by rw [hfin];exact hH2.sub (by simp),by rw [hfin]⟩)
 obtain ⟨t,rfl⟩:∃ t,m=t+1:=by
  cases m with
  | succ t=>exact ⟨t,rfl⟩
  | zero =>
   have:=Qnk (w:=own) (by omega) (by omega) (fun x hx'=>⟨(hob x hx').1,(hob x hx').2.1⟩);omega
 rw [Qk2,if_neg (by omega)] at hres;have hH3:Heap w2 [] w7 [Yo 3 1 (some ⟨g,0,none⟩) n cap (Qak own)]:=hH2.sub (by simp);clear hH2 h;refine VS [1,6,45,46,47] ?_;refine Qac ?_;refine Qad [1,6,45,46,47] (fun m e w'=>∃ (i:Nat),Is e [(1,.int .i64 most),(6,.slice (some ⟨g,0,none⟩) n cap),(45,.slice (some ⟨g,0,none⟩) n cap),(46,.int .i64 n),(47,.int .i64 i)]/\Heap w2 [] w' [Yo 3 1 (some ⟨g,0,none⟩) n cap (Qak ((own.take i).map (fun x=>x / 2+1)++own.drop i))]/\i<=n/\m=n - i) n ?_ ?_
 ·
  refine Qs ?_;exact ⟨0,rfl,by simpa using hH3,by omega,rfl⟩
 clear hH3;rintro m e w8 ⟨i,rfl,hH,hi,rfl⟩;refine VS [1,6,45,46,47,48] ?_;(repeat refine Qax ?_);refine VD (fun h=>?_) (fun h=>?_)
 ·
  obtain ⟨hs1,hs2,hs3⟩:=Qor own (fun x=>x / 2+1) (i:=i) (by omega);have hxi:=hob _ (Qa3 0 (l:=own) (i:=i) (by omega));have hcell:=Qa1 (hH.at 0 rfl) (Qb4 (l:=(own.take i).map (fun x=>x / 2+1)++own.drop i) (i:=i) (by omega));rw [hs2] at hcell;generalize own.getD i 0=x at *;refine VC_skip ?_;refine VB ?_;refine VQ [1,6,10,11,45,46,47] fun K hK=>?_;refine ⟨⟨by omega,by omega⟩,_,hcell,?_⟩;apply hK;clear hK;refine VQ [1,6,45,46,47] fun K hK=>?_;(repeat first | refine Qo ?_ | refine Qp ?_);rw [show ((x:Nat):Int) / 2+1=((x / 2+1:Nat):Int) by omega];refine Qaa ?_;refine Qs ?_;refine Qaz hH 0 (o:=(i)) (vs:=[.int .i64 (x / 2+1:Nat)]) rfl (by first | exact (Qbg _ _ _).symm | rfl | simp [Qbg]) rfl (by kernel_rfl) (by first | omega | (simp;done) | (simp;omega) | (simp [Qar,Qat];omega) | (rw [Qal];simp;omega)) (by simp [Yq]) fun w6 hH2=>?_;(try refine Qs ?_);simp only [Yk,Qcb (Qak ((own.take i).map (fun x=>x / 2+1)++own.drop i)) _ _ (show i < (Qak ((own.take i).map (fun x=>x / 2+1)++own.drop i)).length by rw [Qal,hs3];omega),Qck,Yd,hs1] at hH2;apply hK;clear hK;refine Qaj ?_;refine VS [1,6,45,46,47] ?_;refine Qab ?_;refine Qs ?_;exact ⟨n - (i+1),by omega,i+1,rfl,hH2,by omega,rfl⟩
 obtain rfl:i=n:=by omega
 rw [Yh (by omega),Yy (by omega),Yl] at hH;refine Qag rfl ?_;refine Qaj ?_;refine Qab ?_;refine Qs ?_;refine ⟨t,by omega,t,own.map fun x=>x / 2+1,rfl,hH,by simp [hol],fun x hx'=>?_,hres,rfl⟩;obtain ⟨y,hy,rfl⟩:=Xh.1 hx';have:=hob y hy;exact ⟨by omega,QBl this.2.1,by omega⟩
def Qbq (hs:List (Option Addr×Nat)) (T:List (List Nat)):List Value:=List.zipWith (fun h t=>.slice h.1 t.length h.2) hs T
theorem Qhg {hs:List (Option Addr×Nat)}{T:List (List Nat)} (h:hs.length=T.length):(Qbq hs T).length=T.length:=by simp [Qbq,h]
theorem Qca {hs:List (Option Addr×Nat)}{T:List (List Nat)}{i:Nat}{h:Option Addr×Nat}{t:List Nat} (h1:hs[i]? = some h) (h2:T[i]? = some t):(Qbq hs T)[i]? = some (.slice h.1 t.length h.2):=by
 simp [Qbq,Xm,h1,h2]
theorem Qz9 (hs:List (Option Addr×Nat)) (T:List (List Nat)):∀ u∈Qbq hs T,u.oneCell'=true:=by
 intro u hu;obtain ⟨i,hi⟩:=List.mem_iff_getElem?.1 hu;rw [Qbq,Xm] at hi;split at hi
 ·
  cases hi;rfl
 cases hi
theorem QAa {hs:List (Option Addr×Nat)}{T:List (List Nat)} (i:Nat) (h:Option Addr×Nat) (t:List Nat):(Qbq hs T).set i (.slice h.1 t.length h.2)=Qbq (hs.set i h) (T.set i t):=by
 unfold Qbq;apply List.ext_getElem?;intro j;rw [Uk,Xm,Xm,Uk,Uk];by_cases e:i=j
 ·
  subst e;rw [if_pos rfl,if_pos rfl,if_pos rfl];simp only [List.length_zipWith];by_cases h1:i < hs.length
  ·
   by_cases h2:i < T.length
   ·
    rw [if_pos (by omega),if_pos h1,if_pos h2]
   rw [if_neg (by omega),if_pos h1,if_neg h2]
  rw [if_neg (by omega),if_neg h1]
 rw [if_neg e,if_neg e,if_neg e]
theorem Qhz {hs:List (Option Addr×Nat)}{T:List (List Nat)} (hl:hs.length=T.length) (h:Option Addr×Nat) (t:List Nat):Qbq hs T++[.slice h.1 t.length h.2]=Qbq (hs++[h]) (T++[t]):=by
 unfold Qbq;rw [Gs hl];rfl
def PlanAt (w:World) (v:Value) (T:List (List Nat)) (P:List Nat):Prop :=
 ∃ ta tc pa pc,∃ hs:List (Option Addr×Nat),v=.agg #[.slice ta T.length tc,.slice pa P.length pc]/\hs.length=T.length/\RS w ta T.length 1 (Qbq hs T)/\RS w pa P.length 1 (Qak P) /\
  ∀ (i:Nat) (h:Option Addr×Nat) (t:List Nat),hs[i]? = some h->T[i]? = some t->RS w h.1 t.length 1 (Qak t)
theorem PlanAt.keep {w w':World}{v:Value}{T:List (List Nat)}{P:List Nat}{G:List Res} (h:PlanAt w v T P) (hH:Heap w [] w' G):PlanAt w' v T P:=by
 obtain ⟨ta,tc,pa,pc,hs,h1,h2,h3,h4,h5⟩:=h;exact ⟨ta,tc,pa,pc,hs,h1,h2,hH.rs' h3,hH.rs' h4,fun i h t a b=>hH.rs' (h5 i h t a b)⟩
def Qam (ta:Option Addr) (nt tc:Nat) (pa:Option Addr) (np pc:Nat):List Value:=[.slice ta nt tc,.slice pa np pc]
theorem Qnr (l:List Nat) (n:Nat) (hm:Qfg l n) (a:Option Addr) (lc:Nat) (w:World) (hr:RS w a l.length 1 (Qak l)) :
  Does Yi 96 #[.slice a l.length lc,.int .i64 n] w fun v w'=>w'=w/\v=.bool true:=by
 obtain ⟨h1,h2,h3,h4,h5⟩:=hm;obtain ⟨p,rfl⟩:=Qbj hr (by omega);refine En [.slice (some p) l.length lc,.int .i64 n] 37 Tryz.func96 ?_;generalize hn:l.length=m at *;refine VS [0,1] ?_;refine VQ [0,1,22] fun K hK=>?_
 suffices out:∀ b:Bool,(b=true ↔ False)->K [(0,.slice (some p) m lc),(1,.int .i64 n),(22,.bool b)] w by (repeat' (first | exact out _ _ (by first | omega | (simp;done) | (simp;omega)) | exact out _ (by first | omega | (simp;done) | (simp;omega)) | refine ⟨fun _=>?_,fun _=>?_⟩ | refine Qo ?_))
 intro b hb;apply hK;clear hK;refine Qaf rfl rfl (fun h=>(hb.1 h).elim) (fun h=>VC_skip ?_);clear hb h;refine VS [1,23,24,25] ?_;refine Qac ?_;refine Qad [1,23,24,25] (fun m' e w'=>∃ (i:Nat),Is e [(1,.int .i64 n),(23,.slice (some p) m lc),(24,.int .i64 m),(25,.int .i64 i)]/\Is w' w/\i<=m/\m'=m - i) m ?_ ?_
 ·
  refine Qs ?_;exact ⟨0,rfl,rfl,by omega,rfl⟩
 rintro m' e w' ⟨i,rfl,rfl,hi,rfl⟩;refine VS [1,23,24,25,26] ?_;(repeat refine Qax ?_);refine Vi (fun h=>?_) (fun h=>?_)
 ·
  simp only [decide_eq_true_eq] at h;have hcell:=Qbr hr (i:=i) (by omega);have hx:=h5 _ (Qa3 0 (l:=l) (i:=i) (by omega));generalize l.getD i 0=x at *;refine VC_skip ?_;refine VB ?_;refine VQ [1,6,23,24,25] fun K hK=>?_;refine ⟨⟨by omega,by omega⟩,_,hcell,?_⟩;apply hK;clear hK;refine VQ [1,23,24,25,35] fun K hK=>?_
  suffices out:∀ b:Bool,(b=true ↔ False)->K [(1,.int .i64 n),(23,.slice (some p) m lc),(24,.int .i64 m),(25,.int .i64 i),(35,.bool b)] w' by (repeat' (first | exact out _ _ (by first | omega | (simp;done) | (simp;omega)) | exact out _ (by first | omega | (simp;done) | (simp;omega)) | refine ⟨fun _=>?_,fun _=>?_⟩ | refine Qo ?_))
  intro b hb;apply hK;clear hK;refine Qaf rfl rfl (fun h=>(hb.1 h).elim) (fun h=>VC_skip ?_);refine Qaj ?_;refine VS [1,23,24,25] ?_;refine Qab ?_;refine Qs ?_;exact ⟨m - (i+1),by omega,i+1,rfl,rfl,by omega,rfl⟩
 refine Qag rfl ?_;refine VS [4] ?_;exact VC_ret (VX_ret1 rfl rfl ⟨rfl,rfl⟩)
theorem Qiy (m:Nat) (hm:m<=1000000000) (w:World):Does Yi 67 #[.int .i64 m] w fun v w'=>w'=w/\v=.int .i64 (Qbe m:Nat):=by
 refine En [.int .i64 m] 7 Tryz.func67 ?_;refine VS [0] ?_;refine VQ [2] fun K hK=>?_;(repeat first | refine Qo ?_ | refine Qp ?_);rw [show ((m:Int)+50 - 1) / 50=((Qbe m:Nat):Int) by unfold Qbe;omega];apply hK;clear hK;exact VC_ret (VX_ret1 rfl rfl ⟨rfl,rfl⟩)
theorem Qss (l:List Nat) (k:Nat) (hk:50 * k < l.length) (hl:l.length<=1000000000) (p:Addr) (lc:Nat) (hlc:l.length<=lc) (w:World) :
  Does Yi 99 #[.slice (some p) l.length lc,.int .i64 k] w fun v w'=>w'=w/\v=.slice (some (p.add (50 * k))) (Qcs l k).length (lc - 50 * k):=by
 have hcl:(Qcs l k).length=min 50 (l.length - 50 * k):=by simp [Qcs]
 refine En [.slice (some p) l.length lc,.int .i64 k] 15 Tryz.func99 ?_;generalize hn:l.length=n at *;refine VS [0,1] ?_;refine VQ [4] fun K hK=>?_;(repeat (first | refine Qo ?_ | refine ⟨Xu (by omega) (by omega),?_⟩ | refine ⟨⟨by omega,by omega,by omega⟩,?_⟩));rw [if_neg (by omega),show ((k:Int) * 50).toNat=50 * k by omega,show (min (n:Int) (((k:Int)+1) * 50)).toNat - 50 * k=(Qcs l k).length by rw [hcl];omega];apply hK;clear hK;exact VC_ret (VX_ret1 rfl rfl ⟨rfl,rfl⟩)
theorem Qud {w:World}{l:List Nat}{p:Addr} (hr:RS w (some p) l.length 1 (Qak l)) (hp:p.spot=none) {k:Nat} (hk:50 * k < l.length):RS w (some (p.add (50 * k))) (Qcs l k).length 1 (Qak (Qcs l k)):=by
 have h1:=hr.drop hp (50 * k) (by omega);rw [Gn] at h1;have h2:=h1.take (Qcs l k).length (by simp [Qcs];omega);rw [Gn,Qsh,Qm2] at h2
 have e:(l.drop (50 * k)).take (Qcs l k).length=Qcs l k:=by
  unfold Qcs;rw [Ys,List.take_eq_take_iff];omega
 rwa [e] at h2
theorem QAb (m:Nat) (h1:1<=m) (hm:m<=1000000000) (w:World):Does Yi 97 #[.int .i64 m] w fun v w'=>w'=w/\v=.tuple #[.int .i64 (Qcf m:Nat),.int .i64 0]:=by
 refine En [.int .i64 m] 19 Tryz.func97 ?_;refine VS [0] ?_;refine VS [0,7] ?_;refine Qaf rfl rfl (fun h=>by simp at h;omega) (fun h=>VC_skip ?_);refine VQ [0,8,9] fun K hK=>?_
 suffices hsuf:∀ x:Array Value,x=(Qak [200,600,1200,2400]).toArray->K [(0,.int .i64 m),(8,.agg x),(9,.int .i64 0)] w from hsuf _ (by kernel_rfl)
 rintro x rfl;apply hK;clear hK;refine Qac ?_;refine Qad [0,8,9] (fun m' e w'=>∃ (i:Nat),Is e [(0,.int .i64 m),(8,.agg (Qak [200,600,1200,2400]).toArray),(9,.int .i64 i)]/\Is w' w/\i<=4/\(∀ j,j < i->[200,600,1200,2400].getD j 0<=m)/\m'=4 - i) 4 ?_ ?_
 ·
  refine Qs ?_;exact ⟨0,rfl,rfl,by omega,fun j hj=>by omega,rfl⟩
 rintro m' e w' ⟨i,rfl,rfl,hi,hj,rfl⟩;refine VS [0,8,9,10] ?_;(repeat refine Qax ?_);refine VD (fun h=>?_) (fun h=>?_)
 ·
  have hvn:vNth (Qak [200,600,1200,2400]) i=fun K=>K (.int .i64 ([200,600,1200,2400].getD i 0:Nat)):=by
   funext K;exact Qzv (Qb4 (by simp;omega))
  refine VC_skip ?_;refine VB ?_;refine VQ [0,4,5,8,9] fun K hK=>?_;rw [hvn]
  dsimp only
  refine Qp ?_;apply hK;clear hK;refine VS [0,4,8,9,15] ?_;refine VD (fun h=>?_) (fun h=>VC_skip ?_)
  ·
   have ht:Qcf m=i+2:=by
    have h0:=hj 0;have h1':=hj 1;have h2:=hj 2
    match i,hi,h,h0,h1',h2 with
    | 0,_,h,_,_,_=>simp at h;unfold Qcf;rw [if_pos (by omega)]
    | 1,_,h,h0,_,_=>simp at h h0;unfold Qcf;rw [if_neg (by omega),if_pos (by omega)]
    | 2,_,h,h0,h1',_=>simp at h h0 h1';unfold Qcf;rw [if_neg (by omega),if_neg (by omega),if_pos (by omega)]
    | 3,_,h,h0,h1',h2=>simp at h h0 h1' h2;unfold Qcf;rw [if_neg (by omega),if_neg (by omega),if_neg (by omega),if_pos (by omega)]
    | 4,_,h,_,_,_=>exact absurd h (by simp)
   refine VS [2,3] ?_;exact VC_ret (Qav rfl rfl rfl ⟨rfl,by rw [ht];rfl⟩)
  refine Qaj ?_;refine VS [0,8,9] ?_;refine Qab ?_;refine Qs ?_;refine ⟨4 - (i+1),by omega,i+1,rfl,rfl,by omega,fun j hj2=>?_,rfl⟩;by_cases e:j=i
  ·
   rw [e];omega
  exact hj j (by omega)
 have h0:=hj 0 (by omega);have h1':=hj 1 (by omega);have h2:=hj 2 (by omega);have h3:=hj 3 (by omega);simp at h0 h1' h2 h3;have ht:Qcf m=6:=by unfold Qcf;rw [if_neg (by omega),if_neg (by omega),if_neg (by omega),if_neg (by omega)]
 refine Qag rfl ?_;refine VS [2,3] ?_;exact VC_ret (Qav rfl rfl rfl ⟨rfl,by rw [ht];rfl⟩)
theorem Qns (m:Nat) (h0:0 < m) (hm:m<=1000000) (w:World):Does Yi 64 #[.int .i64 m] w fun v w'=>∃ g,Heap w [] w' [Yo 3 1 (some ⟨g,0,none⟩) m m (Qak (Yf m))]/\v=.slice (some ⟨g,0,none⟩) m m:=by
 refine En [.int .i64 m] 18 Tryz.func64 ?_;refine VS [0] ?_;refine VQ [3] fun K hK=>?_;refine Qbi Yn zi3 ?_;refine Qs ?_;refine ⟨m,m,⟨rfl,rfl,by omega,by omega,by omega⟩,?_⟩;have hH:=(Y2 w).row 3 (n:=m) (cap:=m) (sz:=1) (Qak (Ya m 0)) [] (by simp [Qal]) (by simp [Qal]) (by omega) (by omega);rw [Yl,Qbs] at hH;generalize w.alloc (Yu (Ya m (Xn Xp 0)).toArray 3)=w1 at *;generalize w.heap.size=go at *;rw [<- Qbs] at hH;apply hK;clear hK;refine VS [3,8,9] ?_;refine Qac ?_;refine Qad [3,8,9] (fun m' e w'=>∃ (i:Nat),Is e [(3,.slice (some ⟨go,0,none⟩) m m),(8,.int .i64 m),(9,.int .i64 i)]/\Heap w [] w' [Yo 3 1 (some ⟨go,0,none⟩) m m (Qak (Yf i++Ya (m - i) 0))]/\i<=m/\m'=m - i) m ?_ ?_
 ·
  refine Qs ?_;exact ⟨0,rfl,by simpa using hH,by omega,rfl⟩
 clear hH;rintro m' e w' ⟨i,rfl,hH,hi,rfl⟩;refine VS [3,8,9,10] ?_;(repeat refine Qax ?_);refine VD (fun h=>?_) (fun h=>?_)
 ·
  have hset:(Yf i++Ya (m - i) 0).set i i=Yf (i+1)++Ya (m - (i+1)) 0:=by
   obtain ⟨q,hq⟩:∃ q,m - i=q+1:=⟨m - i - 1,by omega⟩;rw [hq,Xa,Y9 _ _ (by simp),Uj,Xi,Yd,Xg,Yg,show m - (i+1)=q by omega];rfl
  have hlen:(Yf i++Ya (m - i) 0).length=m:=by simp;omega
  refine VC_skip ?_;refine VB ?_;refine VS [3,4,8,9] ?_;refine VQ [3,8,9] fun K hK=>?_;refine Qp ?_;refine Qaa ?_;refine Qs ?_;refine Qaz hH 0 (o:=(i)) (vs:=[.int .i64 (i:Nat)]) rfl (by first | exact (Qbg _ _ _).symm | rfl | simp [Qbg]) rfl (by kernel_rfl) (by first | omega | (simp;done) | (simp;omega) | (simp [Qar,Qat];omega) | (rw [Qal];simp;omega)) (by simp [Yq]) fun w6 hH2=>?_;(try refine Qs ?_);simp only [Yk,Qcb (Qak (Yf i++Ya (m - i) 0)) _ _ (show i < (Qak (Yf i++Ya (m - i) 0)).length by rw [Qal,hlen];omega),Qck,Yd,hset] at hH2;apply hK;clear hK;refine Qaj ?_;refine VS [3,8,9] ?_;refine Qab ?_;refine Qs ?_;exact ⟨m - (i+1),by omega,i+1,rfl,hH2,by omega,rfl⟩
 obtain rfl:i=m:=by omega
 rw [Xi,X9,Yl] at hH;refine Qag rfl ?_;refine VS [2] ?_;exact VC_ret (VX_ret1 rfl rfl ⟨go,hH,rfl⟩)
theorem Qnt (li:List Nat) (g cap at_:Nat) (hat:at_ < li.length) (hl:li.length<=1000000000000) (w0 w:World) (B:List Nat) (G:List Res) (hL:Heap w0 B w (Yo 3 1 (some ⟨g,0,none⟩) li.length cap (Qak li)::G)) :
  Does Yi 65 #[.slice (some ⟨g,0,none⟩) li.length cap,.int .i64 at_] w
   fun v w'=>Heap w0 B w' (Yo 3 1 (some ⟨g,0,none⟩) li.length cap (Qak (Qek li at_))::G)/\v=.int .i64 (li.getD at_ 0:Nat):=by
 refine En [.slice (some ⟨g,0,none⟩) li.length cap,.int .i64 at_] 22 Tryz.func65 ?_;refine VS [0,1] ?_;refine VQ [0,1,5] fun K hK=>?_;(repeat (first | refine Qo ?_ | refine Qp ?_ | (refine ⟨_,(by first | exact Qah (hL.at 0 rfl) rfl | exact Qa1 (hL.at 0 rfl) (bytesV_get (by omega)) | exact Qa1 (hL.at 0 rfl) (Qc7 (by omega)) | exact Qa1 (hL.at 0 rfl) (Qb4 (by omega)) | exact Qah (hL.at 1 rfl) rfl | exact Qa1 (hL.at 1 rfl) (bytesV_get (by omega)) | exact Qa1 (hL.at 1 rfl) (Qc7 (by omega)) | exact Qa1 (hL.at 1 rfl) (Qb4 (by omega)) | exact Qah (hL.at 2 rfl) rfl | exact Qa1 (hL.at 2 rfl) (bytesV_get (by omega)) | exact Qa1 (hL.at 2 rfl) (Qc7 (by omega)) | exact Qa1 (hL.at 2 rfl) (Qb4 (by omega)) | exact Qah (hL.at 3 rfl) rfl | exact Qa1 (hL.at 3 rfl) (bytesV_get (by omega)) | exact Qa1 (hL.at 3 rfl) (Qc7 (by omega)) | exact Qa1 (hL.at 3 rfl) (Qb4 (by omega))),?_⟩;(try refine Qs ?_))));apply hK;clear hK;refine VL [0,5] 7 fun K hK=>?_;obtain ⟨hx1,hx2,hx3,hx4⟩:=hL.at 0 rfl;clear hx1 hx4;refine ⟨Xu (by omega) (by omega),⟨by omega,by omega,by omega⟩,⟨by omega,by omega⟩,?_⟩
 have hsrc:RS w (some ⟨g,0,none⟩) at_ 1 (Qak (li.take at_)):=by
  rw [<- Qm2];have h:=(Qaq (hL.at 0 rfl)).take at_ (by omega)
  rwa [Gn] at h
 suffices hall:∀ w5,Heap w0 B w5 (Yo 3 1 (some ⟨g,0,none⟩) li.length cap (Qak (li.take 1++li.take at_++li.drop (at_+1)))::G)->K [(0,.slice (some ⟨g,0,none⟩) li.length cap),(5,.int .i64 (li.getD at_ 0:Nat))] w5 by
  refine Qo6 ?_;refine Qs ?_;by_cases hc1:cap=1
  ·
   have h0:at_=0:=by omega
   subst h0;rw [if_pos (by rw [hc1];rfl)];refine Qjj hL 0 rfl Yn sz3 (off:=0) rfl ⟨rfl,hsrc,3,Yn⟩ (Qdc _) (by simp) fun w5 hu hH4=>?_;refine hall w5 ?_;rw [show li.take 1++li.take 0++li.drop (0+1)=li by rw [List.take_zero,Yl];exact Yw 1 li];simpa using hH4
  rw [if_neg (by rw [show X6 1=1 from rfl];exact hc1)];simp only [Option.map_some];refine Qjj hL 0 rfl Yn sz3 (off:=1) rfl ⟨rfl,hsrc,3,Yn⟩ (Qdc _) (by rw [Qal,show X6 1=1 from rfl];omega) fun w5 hu hH4=>?_;refine hall w5 ?_;have e:min at_ (at_+1 - X6 1) * 1=at_:=by rw [show X6 1=1 from rfl];omega
  simp only [e,Yd] at hH4;rw [Qcy,Qcy,<- Qm2,<- Qsh];have e5:(Qak (li.take at_)).take at_=Qak (li.take at_):=Yh (by rw [Qal,Ys];omega);rw [e5,show 1+at_=at_+1 by omega] at hH4;exact hH4
 intro w5 hH;apply hK;clear hK;have hlen:(li.take 1++li.take at_++li.drop (at_+1)).length=li.length:=by simp;omega
 have hmv:(li.take 1++li.take at_++li.drop (at_+1)).set 0 (li.getD at_ 0)=Qek li at_:=by
  cases li with
  | nil=>simp at hat
  | cons x r=>simp [Qek]
 generalize li.take 1++li.take at_++li.drop (at_+1)=li2 at *;refine VQ [5] fun K hK=>?_;refine Qp ?_;refine Qaa ?_;refine Qs ?_;refine Qaz hH 0 (o:=(0)) (vs:=[.int .i64 (li.getD at_ 0:Nat)]) rfl (by first | exact (Qbg _ _ _).symm | rfl | simp [Qbg]) rfl (by kernel_rfl) (by first | omega | (simp;done) | (simp;omega) | (simp [Qar,Qat];omega) | (rw [Qal];simp;omega)) (by simp [Yq]) fun w6 hH2=>?_;(try refine Qs ?_);simp only [Yk,Qcb (Qak li2) _ _ (show 0 < (Qak li2).length by rw [Qal];omega),Qck,Yd,hmv] at hH2;apply hK;clear hK;refine VS [4] ?_;exact VC_ret (VX_ret1 rfl rfl ⟨hH2,rfl⟩)
theorem Qjx (v:Value) (T:List (List Nat)) (P:List Nat) (hm:mayP T P) (w:World) (hp:PlanAt w v T P):Does Yi 63 #[v] w fun x w'=>Heap w [] w' []/\x=.bool true:=by
 obtain ⟨ta,tc,pa,pc,hs,rfl,hsl,hrT,hrP,hrt⟩:=hp;obtain ⟨m1,m2,m3,m4,m5,m6⟩:=hm;obtain ⟨qt,rfl⟩:=Qbj hrT (by omega);obtain ⟨qp,rfl⟩:=Qbj hrP (by omega);have hen:#[Uq #[.slice (some qt) T.length tc,.slice (some qp) P.length pc]]=[Uq (Qam (some qt) T.length tc (some qp) P.length pc).toArray].toArray:=rfl;rw [hen];refine Qdx 72 Tryz.func63 rfl rfl (of_decide_eq_true rfl) ?_;simp only [Env.ofArgs];generalize hnt:T.length=nt at *;generalize hnp:P.length=np at *;refine VQ [1] fun K hK=>?_;refine Qch ?_;refine Qs ?_;have hH:=(Y2 w).box 70 (Qam (some qt) nt tc (some qp) np pc);generalize w.alloc (Yu (Qam (some qt) nt tc (some qp) np pc).toArray 70)=w1 at *;generalize w.heap.size=gp at *;have c0:w1.cell? ⟨gp,0,none⟩=some (.slice (some qt) nt tc):=Qah (hH.at 0 rfl) rfl;have c1:w1.cell? ⟨gp,1,none⟩=some (.slice (some qp) np pc):=Qah (hH.at 0 rfl) rfl;apply hK;clear hK;refine VQ [1,28] fun K hK=>?_
 suffices out:∀ b:Bool,(b=true ↔ False)->K [(1,.pointer (some ⟨gp,0,none⟩)),(28,.bool b)] w1 by
  refine ⟨_,c0,?_⟩;refine Qs ?_;refine ⟨fun _=>⟨_,c0,?_⟩,fun h2=>absurd h2 (by omega)⟩;refine Qs ?_;refine ⟨fun _=>⟨_,c1,?_⟩,fun h2=>absurd h2 (by omega)⟩;refine Qs ?_;refine ⟨fun _=>⟨_,c1,?_⟩,fun h2=>absurd h2 (by omega)⟩;refine Qs ?_;exact out _ (by simp;omega)
 intro b hb;apply hK;clear hK;refine Qaf rfl rfl (fun h=>(hb.1 h).elim) (fun h=>VC_skip ?_);clear hb h;have hT0:T[0]? = some (T.getD 0 []):=by rw [Yb,Yc (by omega)];rfl
 refine VQ [1,30,31,32] fun K hK=>?_;refine ⟨_,c0,?_⟩;refine Qs ?_;apply hK;clear hK;refine Qac ?_;refine Qad [1,30,31,32] (fun m e w'=>∃ (i:Nat),Is e [(1,.pointer (some ⟨gp,0,none⟩)),(30,.slice (some qt) nt tc),(31,.int .i64 nt),(32,.int .i64 i)]/\Is w' w1/\i<=nt/\m=nt - i) nt ?_ ?_
 ·
  refine Qs ?_;exact ⟨0,rfl,rfl,by omega,rfl⟩
 rintro m e w2 ⟨i,rfl,rfl,hi,rfl⟩;refine VS [1,30,31,32,33] ?_;(repeat refine Qax ?_);refine VD (fun h=>?_) (fun h=>?_)
 ·
  have hTi:T[i]? = some (T.getD i []):=by rw [Yb,Yc (by omega)];rfl
  obtain ⟨hh,hhi⟩:∃ hh,hs[i]? = some hh:=⟨_,Yc (by omega)⟩;obtain ⟨h0,hh0⟩:∃ h0,hs[0]? = some h0:=⟨_,Yc (by omega)⟩;have hrs:=hH.rs' hrT;have hci:=hrs.2.2 qt rfl i _ (Qca hhi hTi);have hc0:=hrs.2.2 qt rfl 0 _ (Qca hh0 hT0);have hrt2:=hH.rs' (hrt i hh _ hhi hTi);obtain ⟨e1,e2,e3⟩:=m5 _ (Xs hTi);have hck:=Qiw (T.getD i []) hh.1 hh.2 w2 hrt2;rw [if_pos (Ql2.2 e3)] at hck;generalize T.getD i []=t at *;generalize T.getD 0 []=t0 at *;refine VC_skip ?_;refine VB ?_;refine VQ [1,4,30,31,32] fun K hK=>?_;refine ⟨⟨by omega,by omega⟩,_,hci,?_⟩;apply hK;clear hK;refine VQ [1,30,31,32,53] fun K hK=>?_;refine ⟨_,c0,?_⟩;refine Qs ?_;refine ⟨by omega,_,hc0,?_⟩;refine Qs ?_;refine ⟨fun _=>⟨fun _=>?_,fun h2=>absurd h2 (by omega)⟩,fun h2=>absurd h2 (by omega)⟩;refine MemK_call Tryz.call102 ?_;refine Qs ?_;refine Ym hck ?_;rintro v w3 ⟨rfl,rfl⟩;refine Qs ?_;apply hK;clear hK;refine Qaf rfl rfl (fun h=>by simp at h) (fun h=>VC_skip ?_);refine Qaj ?_;refine VS [1,30,31,32] ?_;refine Qab ?_;refine Qs ?_;exact ⟨nt - (i+1),by omega,i+1,rfl,rfl,by omega,rfl⟩
 refine Qag rfl ?_;refine VQ [1,56,57,58] fun K hK=>?_;refine ⟨_,c1,?_⟩;refine Qs ?_;apply hK;clear hK;refine Qac ?_;refine Qad [1,56,57,58] (fun m e w'=>∃ (i:Nat),Is e [(1,.pointer (some ⟨gp,0,none⟩)),(56,.slice (some qp) np pc),(57,.int .i64 np),(58,.int .i64 i)]/\Is w' w2/\i<=np/\m=np - i) np ?_ ?_
 ·
  refine Qs ?_;exact ⟨0,rfl,rfl,by omega,rfl⟩
 rintro m e w3 ⟨j,rfl,rfl,hj,rfl⟩;refine VS [1,56,57,58,59] ?_;(repeat refine Qax ?_);refine Vi (fun h=>?_) (fun h=>?_)
 ·
  simp only [decide_eq_true_eq] at h;have hcell:=Qbr (hH.rs' hrP) (i:=j) (by omega);have hx:=m6 _ (Qa3 0 (l:=P) (i:=j) (by omega));generalize P.getD j 0=x at *;refine VC_skip ?_;refine VB ?_;refine VQ [1,6,56,57,58] fun K hK=>?_;refine ⟨⟨by omega,by omega⟩,_,hcell,?_⟩;apply hK;clear hK;refine VQ [1,56,57,58,70] fun K hK=>?_;refine ⟨fun _=>⟨_,c0,?_⟩,fun h2=>absurd h2 (by omega)⟩;refine Qs ?_;rw [decide_eq_false (show ¬ ((nt:Int)<=x) by omega)];apply hK;clear hK;refine Qaf rfl rfl (fun h=>by simp at h) (fun h=>VC_skip ?_);refine Qaj ?_;refine VS [1,56,57,58] ?_;refine Qab ?_;refine Qs ?_;exact ⟨np - (j+1),by omega,j+1,rfl,rfl,by omega,rfl⟩
 refine Qag rfl ?_;refine VS [2] ?_;exact VC_ret (VX_ret1 rfl rfl ⟨hH.sub (by simp),rfl⟩)
set_option maxHeartbeats 2000000
theorem Qp1 {li:List Nat}{k i:Nat} (h:i < li.length):(li.take (i+1)).eraseIdx k=if i=k then (li.take i).eraseIdx k else (li.take i).eraseIdx k++[li.getD i 0]:=by
 rw [Qb2 0 h];have hl:(li.take i).length=i:=by rw [Ys];omega
 by_cases e:i=k
 ·
  subst e;have e2:(li.take i).eraseIdx i=li.take i:=X5 (by omega);rw [if_pos rfl,List.eraseIdx_append_of_length_le (by omega),hl,Xi,e2];exact Yl _
 rw [if_neg e];rcases Xe k i with h2 | h2
 ·
  rw [List.eraseIdx_append_of_lt_length (by omega)]
 rw [X5 (l:=li.take i) (by omega),X5 (by simp;omega)]
theorem Qrg (li:List Nat) (k:Nat) (hk:k < li.length) (hl:li.length<=1000000000) (a:Option Addr) (c:Nat) (w:World) (hr:RS w a li.length 1 (Qak li)) :
  Does Yi 81 #[.slice a li.length c,.int .i64 k] w fun v w'=>∃ a' c',v=.slice a' li.length c'/\Heap w [] w' [Yo 3 1 a' li.length c' (Qak (Qek li k))]:=by
 obtain ⟨p,rfl⟩:=Qbj hr (by omega);refine En [.slice (some p) li.length c,.int .i64 k] 29 Tryz.func81 ?_;have hck:=Qbr hr hk;refine VS [0,1] ?_;refine VQ [0,1,5] fun K hK=>?_;refine ⟨⟨by omega,by omega⟩,_,hck,?_⟩;(try refine Qs ?_);have hH0:=Y2 w;refine Qbb hH0 (Qak [li.getD k 0]) (xs:=[.tmp 10]) Yn sz3 rfl rfl rfl (by omega) ?_;refine Qs ?_;refine ⟨rfl,by simp [Y3],fun g w4 hH=>?_⟩;(try refine Qs ?_);apply hK;clear hK;refine VS [0,1,5,6] ?_;refine Qac ?_;refine Qad [0,1,5,6] (fun m e w'=>∃ (i cap:Nat) (ao:Option Addr),Is e [(0,.slice (some p) li.length c),(1,.int .i64 k),(5,.slice ao (li.getD k 0::(li.take i).eraseIdx k).length cap),(6,.int .i64 i)]/\Heap w [] w' [Yo 3 1 ao (li.getD k 0::(li.take i).eraseIdx k).length cap (Qak (li.getD k 0::(li.take i).eraseIdx k))]/\i<=li.length/\m=li.length - i) li.length ?_ ?_
 ·
  refine Qs ?_;exact ⟨0,1,_,rfl,hH,by omega,rfl⟩
 clear hH hH0;rintro m e w' ⟨i,cap,ao,rfl,hH,hi,rfl⟩;refine VS [0,1,5,6,15] ?_;refine VD (fun h=>?_) (fun h=>?_)
 ·
  have hi':i < li.length:=by omega
  have het:=Qp1 (li:=li) (k:=k) hi';have hcell:=Qbr (hH.rs' hr) hi'
  have hel:((li.take i).eraseIdx k).length<=i:=by
   have:=List.length_eraseIdx_le (li.take i) k;rw [Ys] at this;omega
  generalize (li.take i).eraseIdx k=E at *;refine VC_skip ?_;refine VB ?_;refine VS [0,1,5,6,20] ?_;refine VD (fun h=>?_) (fun h=>?_)
  ·
   rw [if_neg (by omega)] at het;refine VQ [0,1,5,6] fun K hK=>?_;refine ⟨⟨by omega,by omega⟩,_,hcell,?_⟩;(try refine Qs ?_);refine Qcd (xs:=[.tmp 25]) Yn sz3 rfl rfl rfl (by omega) ?_;refine Qs ?_;refine ⟨by simp [Y3],?_⟩;refine Qai ?_;refine Qs ?_;refine Qiv hH 0 (li.getD i 0) rfl Yn zi3 (by first | rfl | (simp;done) | omega | (simp;omega)) (fun h=>by (first | omega | (simp;done) | (simp;omega))) fun a' cap' w5 hc' hH2=>?_;(try refine Qs ?_);apply hK;clear hK;refine Qaj ?_;refine VS [0,1,5,6] ?_;refine Qab ?_;refine Qs ?_;exact ⟨li.length - (i+1),by omega,i+1,cap',a',by rw [het];rfl,by rw [het];exact hH2,by omega,rfl⟩
  rw [if_pos (by omega)] at het;refine VC_skip ?_;refine Qaj ?_;refine VS [0,1,5,6] ?_;refine Qab ?_;refine Qs ?_;exact ⟨li.length - (i+1),by omega,i+1,cap,ao,by rw [het];rfl,by rw [het];exact hH,by omega,rfl⟩
 obtain rfl:i=li.length:=by omega
 refine Qag rfl ?_
 have e:li.getD k 0::(li.take li.length).eraseIdx k=Qek li k:=by
  rw [List.take_length,Qek,List.eraseIdx_eq_take_drop_succ]
 rw [e,Qga hk] at hH ⊢;refine VS [4] ?_;exact VC_ret (VX_ret1 rfl rfl ⟨_,_,rfl,hH⟩)
theorem Ql5 {l:List Bool}{at_ n:Nat} (h:l.length < at_+n):Qgt l at_ n=(0,10):=if_pos h
theorem Qm8 {l:List Bool}{at_ n:Nat} (h:at_+n<=l.length):Qgt l at_ n=(numB ((l.drop at_).take n),0):=if_neg (by omega)
theorem QLo:∀ (r:List Bool) (most n:Nat),n<=most->(unS r most n).2=0->n<=(unS r most n).1/\(unS r most n).1<=most/\(unS r most n).1+1<=n+r.length
 | [],most,n,_,h=>by simp [unS] at h
 | false::r,most,n,hn,h=>by simp [unS];omega
 | true::r,most,n,hn,h=>by
  rw [unS] at h ⊢;split
  ·
   rename_i e;rw [if_pos e] at h;simp at h
  rename_i e;rw [if_neg e] at h;have:=QLo r most (n+1) (by omega) h;simp;omega
theorem Que:∀ (m:Nat) (r:List Bool) (now k at_:Nat) (q:List Nat×Nat),r.length<=m->tdGo r now k at_=.ok q->q.1.length=k/\q.2<=at_+r.length/\at_<=q.2
 | _,[],now,k,at_,q,_,h=>by
  rw [tdGo] at h;split at h
  ·
   cases h;simp;omega
  split at h <;> cases h
 | 0,b::r,now,k,at_,q,hm,h=>by simp at hm
 | m+1,false::r,now,k,at_,q,hm,h=>by
  rw [tdGo] at h;split at h
  ·
   cases h;simp;omega
  split at h
  ·
   cases h
  split at h
  ·
   cases h
  rename_i q' hq;cases h;have:=Que m r _ _ _ q' (by simpa using hm) hq;simp;omega
 | m+1,[true],now,k,at_,q,hm,h=>by
  rw [tdGo] at h;split at h
  ·
   cases h;simp;omega
  split at h <;> cases h
 | m+1,true::d::r,now,k,at_,q,hm,h=>by
  rw [tdGo] at h;split at h
  ·
   cases h;simp;omega
  split at h
  ·
   cases h
  have:=Que m r _ _ _ q (by simp at hm;omega) h;simp;omega
theorem Quf:∀ (m:Nat) (r:List Bool) (now k at_:Nat) (e:Int),r.length<=m->tdGo r now k at_=.error e->e≠0
 | _,[],now,k,at_,e,_,h=>by
  rw [tdGo] at h;split at h
  ·
   cases h
  split at h <;> (cases h;omega)
 | 0,b::r,now,k,at_,e,hm,h=>by simp at hm
 | m+1,false::r,now,k,at_,e,hm,h=>by
  rw [tdGo] at h;split at h
  ·
   cases h
  split at h
  ·
   cases h;omega
  split at h
  ·
   rename_i e' he;cases h;exact Quf m r _ _ _ _ (by simpa using hm) he
  cases h
 | m+1,[true],now,k,at_,e,hm,h=>by
  rw [tdGo] at h;split at h
  ·
   cases h
  split at h <;> (cases h;omega)
 | m+1,true::d::r,now,k,at_,e,hm,h=>by
  rw [tdGo] at h;split at h
  ·
   cases h
  split at h
  ·
   cases h;omega
  exact Quf m r _ _ _ e (by simp at hm;omega) h
theorem Qnu {bits:List Bool}{at_ n:Nat}{q:List Nat×Nat} (h:Qdb bits at_ n=.ok q):q.1.length=n/\q.2<=bits.length:=by
 unfold Qdb at h;split at h
 ·
  cases h
 rename_i h1
 have h2:at_+5<=bits.length:=by
  rcases Xe bits.length (at_+5) with h3 | h3
  ·
   rw [Ql5 h3] at h1;simp at h1
  exact h3
 have:=Que _ _ _ _ _ _ (Uc _) h;rw [Y5] at this;omega
theorem Ql6 {bits:List Bool}{at_ n:Nat}{e:Int} (h:Qdb bits at_ n=.error e):e≠0:=by
 unfold Qdb at h;split at h
 ·
  rename_i h1;cases h;exact h1
 exact Quf _ _ _ _ _ _ (Uc _) h
theorem QAc {bits:List Bool}{many:Nat} (hm:0 < many):∀ (k:Nat) (li:List Nat) (at_:Nat) (q:List Nat×Nat),li.length=many->at_<=bits.length->ptGo bits many li k at_=.ok q->q.1.length=k/\q.2<=bits.length/\∀ x∈q.1,x∈li
 | 0,li,at_,q,hl,ha,h=>by rw [ptGo] at h;cases h;simp;exact ha
 | k+1,li,at_,q,hl,ha,h=>by
  rw [ptGo] at h;split at h
  ·
   cases h
  rename_i h1;have h1:=Decidable.not_not.1 h1;have h2:=QLo _ _ _ (by omega) h1;rw [Y5] at h2;generalize (unS (bits.drop at_) (many - 1) 0).1=u at *;have hu:u < li.length:=by omega
  split at h
  ·
   cases h
  rename_i q' hq;cases h;obtain ⟨a,b,c⟩:=QAc hm k _ _ q' (by rw [Qga hu];exact hl) (by omega) hq;refine ⟨by simp [a],b,fun x hx=>?_⟩;rcases Xt.1 hx with rfl | hx
  ·
   rw [Yb,Yc hu];exact U5 hu
  exact (Qg2 hu x).1 (c x hx)
theorem Qug {bits:List Bool}{many:Nat}:∀ (k:Nat) (li:List Nat) (at_:Nat) (e:Int),ptGo bits many li k at_=.error e->e≠0
 | 0,li,at_,e,h=>by rw [ptGo] at h;cases h
 | k+1,li,at_,e,h=>by
  rw [ptGo] at h;split at h
  ·
   rename_i h1;cases h;split
   ·
    omega
   exact h1
  split at h
  ·
   rename_i e' he;cases h;exact Qug k _ _ _ he
  cases h
theorem QAd {bits:List Bool}{n:Nat}:∀ (k at_:Nat) (q:List (List Nat)×Nat),at_<=bits.length->ttGo bits n k at_=.ok q->q.1.length=k/\q.2<=bits.length/\∀ t∈q.1,t.length=n/\okLB t=true
 | 0,at_,q,ha,h=>by rw [ttGo] at h;cases h;simp;exact ha
 | k+1,at_,q,ha,h=>by
  rw [ttGo] at h;split at h
  ·
   cases h
  rename_i q1 h1;have h2:=Qnu h1;split at h
  ·
   cases h
  rename_i h3;split at h
  ·
   cases h
  rename_i q' hq;cases h;obtain ⟨a,b,c⟩:=QAd k _ q' h2.2 hq;refine ⟨by simp [a],b,fun t ht=>?_⟩;rcases Xt.1 ht with rfl | ht
  ·
   exact ⟨h2.1,by simpa using h3⟩
  exact c t ht
theorem Quh {bits:List Bool}{n:Nat}:∀ (k at_:Nat) (e:Int),ttGo bits n k at_=.error e->e≠0
 | 0,at_,e,h=>by rw [ttGo] at h;cases h
 | k+1,at_,e,h=>by
  rw [ttGo] at h;split at h
  ·
   rename_i e' he;cases h;exact Ql6 he
  split at h
  ·
   cases h;omega
  split at h
  ·
   rename_i e' he;cases h;exact Quh k _ _ he
  cases h
theorem Qp2 {bits:List Bool}{at_ n:Nat}{q:(List (List Nat)×List Nat)×Nat} (hn:3<=n) (h:Qel bits at_ n=.ok q):mayP q.1.1 q.1.2/\(q.1.1.getD 0 []).length=n/\q.2<=bits.length:=by
 unfold Qel at h;split at h
 ·
  cases h
 rename_i h1;split at h
 ·
  cases h
 rename_i h2;split at h
 ·
  cases h
 rename_i h3;split at h
 ·
  cases h
 rename_i h4
 have h5:at_+3+15<=bits.length:=by
  rcases Xe bits.length (at_+3+15) with h3' | h3'
  ·
   rw [Ql5 h3'] at h3;simp at h3
  exact h3'
 have h6:(Qgt bits (at_+3) 15).1<=32767:=by
  rw [Qm8 h5];have:=Qes ((bits.drop (at_+3)).take 15);have h7:((bits.drop (at_+3)).take 15).length=15:=by simp;omega
  rw [h7] at this;simp only;omega
 generalize (Qgt bits (at_+3) 15).1=np at *;generalize (Qgt bits at_ 3).1=many at *;split at h
 ·
  cases h
 rename_i q1 hq1;split at h
 ·
  cases h
 rename_i q2 hq2;cases h;obtain ⟨a,b,c⟩:=QAc (by omega) np _ _ q1 (by simp) (by omega) hq1;obtain ⟨a2,b2,c2⟩:=QAd many _ q2 b hq2
 have h0:(q2.1.getD 0 []).length=n:=by
  rw [Yb,Yc (by omega)];exact (c2 _ (U5 _)).1
 refine ⟨⟨by simp only;omega,by simp only;omega,by simp only;omega,by simp only;omega,fun t ht=>?_,fun k hk=>?_⟩,h0,b2⟩
 ·
  simp only at ht ⊢;rw [h0];exact ⟨(c2 t ht).1,by have:=(c2 t ht).1;omega,Ql2.1 (c2 t ht).2⟩
 have:=c k hk;simp at this ⊢;omega
theorem Qnv {bits:List Bool}{at_ n:Nat}{e:Int} (h:Qel bits at_ n=.error e):e≠0:=by
 unfold Qel at h;split at h
 ·
  rename_i h1;cases h;exact h1
 split at h
 ·
  cases h;omega
 split at h
 ·
  rename_i h1;cases h;exact h1
 split at h
 ·
  cases h;omega
 split at h
 ·
  rename_i e' he;cases h;exact Qug _ _ _ _ he
 split at h
 ·
  rename_i e' he;cases h;exact Quh _ _ _ he
 cases h
theorem Qld:∀ (li:List Nat) (c i:Nat),i < li.idxOf c->li.getD i 0≠c
 | [],c,i,h=>by simp at h
 | x::li,c,i,h=>by
  rw [List.idxOf_cons] at h;by_cases e:x=c
  ·
   subst e;simp at h
  have:(x == c)=false:=by simpa using e
  rw [this] at h;simp only [cond_false] at h;cases i with
  | zero=>simpa using e
  | succ i =>
   have:=Qld li c i (by omega);simpa using this
theorem Qiz:∀ (P li:List Nat),(∀ k∈P,k∈li)->(Qcw li P).length<=P.length * li.length
 | [],li,_=>by simp [Qcw]
 | p::P,li,h=>by
  have h1:=Yz.2 (h p (by simp));have h2:=Qiz P (Qek li (li.idxOf p)) fun k hk=>(Qg2 h1 k).2 (h k (by simp [hk]));rw [Qga h1] at h2;simp only [Qcw,Ye,Xc,Y1,Uw];omega
theorem Qet (ls:List (List Bool)) (l:List Bool):Qdd ls++Qa7 l=Qdd (ls++[l]):=by simp [Qdd]
theorem Qb8 (l:List Bool):∀ u∈Qa7 l,u.oneCell'=true:=by
 intro u hu;simp [Qa7] at hu;rcases hu with rfl | rfl <;> rfl
theorem Ql7 (v:Value) (T:List (List Nat)) (P:List Nat) (hm:mayP T P) (w:World) (hp:PlanAt w v T P):Does Yi 36 #[v] w fun x w'=>Heap w [] w' []/\x=.tuple #[Qk8 (Qbx T P),.int .i64 0]:=by
 have hp0:=hp;obtain ⟨ta,tc,pa,pc,hs,rfl,hsl,hrT,hrP,hrt⟩:=hp;have hm0:=hm;obtain ⟨m1,m2,m3,m4,m5,m6⟩:=hm;obtain ⟨qt,rfl⟩:=Qbj hrT (by omega);obtain ⟨qp,rfl⟩:=Qbj hrP (by omega);have hen:#[Uq #[.slice (some qt) T.length tc,.slice (some qp) P.length pc]]=[Uq (Qam (some qt) T.length tc (some qp) P.length pc).toArray].toArray:=rfl
 have hpb:Qbx T P=([Qas 3 T.length++(Qas 15 P.length++Qcw (Yf T.length) P)]++T.map Qce).flatten:=by
  simp [Qbx,List.flatMap,Yg]
 rw [hen,hpb];refine Qdx 85 Tryz.func36 rfl rfl (of_decide_eq_true rfl) ?_;simp only [Env.ofArgs];have hpl:=Qiz P (Yf T.length) (fun k hk=>by simpa using m6 k hk);have hpl2:P.length * (Yf T.length).length<=32767 * 6:=X3 m4 (by simpa using m2);generalize hnt:T.length=nt at *;generalize hnp:P.length=np at *;refine VQ [1,2] fun K hK=>?_;refine Qch ?_;refine Qs ?_;have hH:=(Y2 w).box 70 (Qam (some qt) nt tc (some qp) np pc);generalize w.alloc (Yu (Qam (some qt) nt tc (some qp) np pc).toArray 70)=w1 at *;generalize w.heap.size=gp at *;refine Qao (.agg #[.string ⟨#[]⟩,.int .i64 0]) (by kernel_rfl) ?_;refine Qs ?_;have hH1:=hH.box 33 [.string ⟨#[]⟩,.int .i64 0];generalize w1.alloc (Yu [Ui ⟨#[]⟩,.int .i64 0].toArray 33)=w2 at *;generalize w1.heap.size=gr at *;clear hH;apply hK;clear hK;refine VQ [1,2,16] fun K hK=>?_;refine ⟨Qam (some qt) nt tc (some qp) np pc,⟨rfl,Qay (hH1.at 1 rfl)⟩,?_⟩;have hmc:=Qjx _ T P hm0 w2 (hp0.keep hH1);refine MemK_call Tryz.call63 ?_;refine Qs ?_;refine Ym hmc ?_;rintro v w3 ⟨hHm,rfl⟩;have hH2:=hH1.call0 hHm;simp only [Yp] at hH2;clear hH1 hHm hmc;refine Qs ?_;apply hK;clear hK;refine Qaf rfl rfl (fun h=>by simp at h) (fun h=>VC_skip ?_);clear h;refine VQ [1,2,4] fun K hK=>?_;refine MemK_call Gi ?_;refine Qs ?_;refine Ym (Qds w3) ?_;rintro v w4 ⟨gw,hHw,rfl⟩;have hH3:=hH2.call0 hHw;simp only [Y0] at hH3;clear hH2 hHw;apply hK;clear hK;refine VQ [1,2,4] fun K hK=>?_;refine ⟨_,Qah (hH3.at 2 rfl) (show (Qam (some qt) nt tc (some qp) np pc)[0]? = some _ from rfl),?_⟩;refine Qs ?_;rw [show ((nt:Int) % 18446744073709551616)=nt by omega];refine MemK_call Xr ?_;refine Qs ?_;refine Ym (Qde gw none 0 [] nt 3 w4 (by omega) (by omega) (by simp) (hH3.focus 0 rfl)) ?_;rintro v w5 ⟨a5,c5,hHp,rfl⟩;have hH4:=hH3.call1 0 rfl hHp;simp only [Yd,Yp] at hH4;clear hH3 hHp;apply hK;clear hK;refine VQ [1,2,4] fun K hK=>?_;refine ⟨_,Qah (hH4.at 2 rfl) (show (Qam (some qt) nt tc (some qp) np pc)[1]? = some _ from rfl),?_⟩;refine Qs ?_;rw [show ((np:Int) % 18446744073709551616)=np by omega];refine MemK_call Xr ?_;refine Qs ?_;refine Ym (Qde gw a5 c5 _ np 15 w5 (by omega) (by omega) (by rw [Qan];omega) (hH4.focus 0 rfl)) ?_;rintro v w6 ⟨a6,c6,hHp,rfl⟩;have hH5:=hH4.call1 0 rfl hHp;simp only [Yd,Yp] at hH5;clear hH4 hHp;apply hK;clear hK;refine VQ [1,2,4,5] fun K hK=>?_;refine ⟨_,Qah (hH5.at 2 rfl) (show (Qam (some qt) nt tc (some qp) np pc)[0]? = some _ from rfl),?_⟩;refine Qs ?_;refine MemK_call Tryz.call64 ?_;refine Qs ?_;refine Ym (Qns nt (by omega) (by omega) w6) ?_;rintro v w7 ⟨go,hHo,rfl⟩;have hH6:=hH5.call0 hHo;simp only [Y0] at hH6;clear hH5 hHo;apply hK;clear hK;refine VQ [1,2,4,5,36,37,38] fun K hK=>?_;refine ⟨_,Qah (hH6.at 3 rfl) (show (Qam (some qt) nt tc (some qp) np pc)[1]? = some _ from rfl),?_⟩;refine Qs ?_;apply hK;clear hK;generalize hFull:Qas 3 nt++(Qas 15 np++Qcw (Yf nt) P)=Full at *
 have hFl:Full.length<=300000:=by
  rw [<- hFull];simp only [Ye,Qan];omega
 refine Qac ?_;refine Qad [1,2,4,5,36,37,38] (fun m e w'=>∃ (i:Nat) (li:List Nat) (X:List Bool) (a:Option Addr) (c:Nat),Is e [(1,.pointer (some ⟨gp,0,none⟩)),(2,.pointer (some ⟨gr,0,none⟩)),(4,.pointer (some ⟨gw,0,none⟩)),(5,.slice (some ⟨go,0,none⟩) nt nt),(36,.slice (some qp) np pc),(37,.int .i64 np),(38,.int .i64 i)]/\Heap w [] w' [Yo 3 1 (some ⟨go,0,none⟩) nt nt (Qak li),wr gw a c X,Yr gr 33 [.string ⟨#[]⟩,.int .i64 0],Yr gp 70 (Qam (some qt) nt tc (some qp) np pc)]/\li.length=nt/\(∀ k,k < nt->k∈li)/\X++Qcw li (P.drop i)=Full/\i<=np/\m=np - i) np ?_ ?_
 ·
  refine Qs ?_;exact ⟨0,_,_,a6,c6,rfl,hH6,by simp,fun k hk=>by simpa using hk,by rw [<- hFull,Gp,Yg],by omega,rfl⟩
 clear hH6;rintro m e w8 ⟨i,li,X,a,c,rfl,hH,hlil,hli,hX,hi,rfl⟩;refine VS [1,2,4,5,36,37,38,39] ?_;(repeat refine Qax ?_);refine VD (fun h=>?_) (fun h=>?_)
 ·
  have hcell:=Qbr (hH.rs' hrP) (i:=i) (by omega);have hx:=m6 _ (Qa3 0 (l:=P) (i:=i) (by omega));have hdp:P.drop i=P.getD i 0::P.drop (i+1):=drop_getD 0 (by omega);rw [hdp,Qcw] at hX;generalize P.getD i 0=x at *;have hxl:=hli x hx;have hxi:=Yz.2 hxl
  have hXl:X.length+li.idxOf x+1<=300000:=by
   have:=congrArg List.length hX;simp only [Ye,Xc,Y1] at this;omega
  refine VC_skip ?_;refine VB ?_;refine VQ [1,2,4,5,7,36,37,38] fun K hK=>?_;refine ⟨⟨by omega,by omega⟩,_,hcell,?_⟩;apply hK;clear hK;refine VS [1,2,4,5,7,8,36,37,38] ?_;refine VB ?_;refine Qad [1,2,4,5,7,8,36,37,38] (fun m e w'=>∃ (at_:Nat) (a:Option Addr) (c:Nat),Is e [(1,.pointer (some ⟨gp,0,none⟩)),(2,.pointer (some ⟨gr,0,none⟩)),(4,.pointer (some ⟨gw,0,none⟩)),(5,.slice (some ⟨go,0,none⟩) nt nt),(7,.int .i64 x),(8,.int .i64 at_),(36,.slice (some qp) np pc),(37,.int .i64 np),(38,.int .i64 i)]/\Heap w [] w' [Yo 3 1 (some ⟨go,0,none⟩) nt nt (Qak li),wr gw a c (X++Ya at_ true),Yr gr 33 [.string ⟨#[]⟩,.int .i64 0],Yr gp 70 (Qam (some qt) nt tc (some qp) np pc)]/\at_<=li.idxOf x/\m=li.idxOf x - at_) (li.idxOf x) ?_ ?_
  ·
   refine Qs ?_;exact ⟨0,a,c,rfl,by simpa using hH,by omega,rfl⟩
  clear hH hcell;rintro m e w9 ⟨at_,a2,c2,rfl,hH,hat,rfl⟩;have hca:=Qa1 (hH.at 0 rfl) (Qb4 (l:=li) (i:=at_) (by omega));refine VQ [1,2,4,5,7,8,36,37,38,47] fun K hK=>?_;refine ⟨⟨by omega,by omega⟩,_,hca,?_⟩;refine Qs ?_;apply hK;clear hK;refine Vi (fun h=>?_) (fun h=>?_)
  ·
   simp only [decide_eq_true_eq] at h
   have hlt:at_ < li.idxOf x:=by
    rcases Xe at_ (li.idxOf x) with h2 | h2
    ·
     exact h2
    have e:at_=li.idxOf x:=by omega
    rw [e,Qm1 hxl] at h;omega
   refine VC_skip ?_;refine Qac ?_;refine VS [1,2,4,5,7,8,36,37,38] ?_;refine VQ [1,2,4,5,7,8,36,37,38] fun K hK=>?_;refine MemK_call Xr ?_;refine Qs ?_;refine Ym (Qde gw a2 c2 _ 1 1 w9 (by omega) (by omega) (by rw [Ye,Xc];omega) (hH.focus 1 rfl)) ?_;rintro v w10 ⟨a3,c3,hHp,rfl⟩;have e1:Qas 1 1=[true]:=rfl;rw [e1,Yg,<- Gl] at hHp;have hH2:=hH.call1 1 rfl hHp;simp only [Yj,Yd,Yp] at hH2;apply hK;clear hK;refine Qaj ?_;refine Qab ?_;refine Qs ?_;exact ⟨li.idxOf x - (at_+1),by omega,at_+1,a3,c3,rfl,hH2,by omega,rfl⟩
  simp only [decide_eq_false_iff_not,Decidable.not_not] at h
  have hlt:at_=li.idxOf x:=by
   rcases Xe at_ (li.idxOf x) with h2 | h2
   ·
    exact absurd (by omega) (Qld li x at_ h2)
   omega
  subst hlt;refine Qag rfl ?_;refine VQ [1,2,4,5,8,36,37,38] fun K hK=>?_;refine MemK_call Xr ?_;refine Qs ?_;refine Ym (Qde gw a2 c2 _ 0 1 w9 (by omega) (by omega) (by rw [Ye,Xc];omega) (hH.focus 1 rfl)) ?_;rintro v w10 ⟨a3,c3,hHp,rfl⟩;have e1:Qas 1 0=[false]:=rfl;rw [e1,Yg] at hHp;have hH2:=hH.call1 1 rfl hHp;simp only [Yj,Yd,Yp] at hH2;clear hH hHp;apply hK;clear hK;refine VQ [1,2,4,5,36,37,38] fun K hK=>?_;have hmc:=Qnt li go nt (li.idxOf x) hxi (by omega) w w10 [] _ (by rw [hlil];exact hH2);rw [hlil] at hmc;refine MemK_call Tryz.call65 ?_;refine Qs ?_;refine Ym hmc ?_;rintro v w11 ⟨hH3,rfl⟩;apply hK;clear hK;refine Qaj ?_;refine VS [1,2,4,5,36,37,38] ?_;refine Qab ?_;refine Qs ?_;refine ⟨np - (i+1),by omega,i+1,Qek li (li.idxOf x),_,a3,c3,rfl,hH3,by rw [Qga hxi];exact hlil,fun k hk=>(Qg2 hxi k).2 (hli k hk),?_,by omega,rfl⟩;rw [<- hX];simp
 obtain rfl:i=np:=by omega
 rw [Yy (by omega),Qcw,Yl] at hX;subst hX;refine Qag rfl ?_;refine VQ [1,2,9] fun K hK=>?_;refine MemK_call Gj ?_;refine Qs ?_;refine Ym (Qgi gw a c _ w8 (hH.at 1 rfl)) ?_;rintro v w9 ⟨rfl,rfl⟩;refine MemK_call Gk ?_;refine Qs ?_;refine Ym (Qgv gw a c _ w9 (hH.at 1 rfl)) ?_;rintro v w10 ⟨rfl,rfl⟩;refine Qs ?_;refine Qeq hH 2 (Qa7 X) (xs:=[.tmp 62]) Un sz33 rfl rfl rfl (by omega) (by omega) ?_;refine Qs ?_;refine ⟨by simp [Qa7,Y3],by simp [Y3],fun ga w11 hH2=>?_⟩
 have hH3:Heap w [] w11 [Yo 33 2 (some ⟨ga,0,none⟩) 1 1 (Qdd [X]),Yr gr 33 [.string ⟨#[]⟩,.int .i64 0],Yr gp 70 (Qam (some qt) nt tc (some qp) i pc)]:=by
  have e:Qdd [X]=Qa7 X:=by simp [Qdd]
  rw [e];exact hH2.sub (.cons_cons _ (.cons _ (.cons _ (.refl _))))
 clear hH2 hH;apply hK;clear hK;refine VQ [2,9,65,66,67] fun K hK=>?_;refine ⟨_,Qah (hH3.at 2 rfl) (show (Qam (some qt) nt tc (some qp) i pc)[0]? = some _ from rfl),?_⟩;refine Qs ?_;apply hK;clear hK;clear h hi;refine Qac ?_;refine Qad [2,9,65,66,67] (fun m e w'=>∃ (j:Nat) (a:Option Addr) (c:Nat),Is e [(2,.pointer (some ⟨gr,0,none⟩)),(9,.slice a (j+1) c),(65,.slice (some qt) nt tc),(66,.int .i64 nt),(67,.int .i64 j)]/\Heap w [] w' [Yo 33 2 a (j+1) c (Qdd ([X]++(T.take j).map Qce)),Yr gr 33 [.string ⟨#[]⟩,.int .i64 0]]/\j<=nt/\m=nt - j) nt ?_ ?_
 ·
  refine Qs ?_;exact ⟨0,_,1,rfl,by simpa using hH3.sub (.cons_cons _ (.cons_cons _ (.cons _ (.refl _)))),by omega,rfl⟩
 clear hH3;rintro m e w12 ⟨j,a4,c4,rfl,hH,hj,rfl⟩;refine VS [2,9,65,66,67,68] ?_;(repeat refine Qax ?_);refine VD (fun h=>?_) (fun h=>?_)
 ·
  have hTj:T[j]? = some (T.getD j []):=by rw [Yb,Yc (by omega)];rfl
  obtain ⟨hh,hhi⟩:∃ hh,hs[j]? = some hh:=⟨_,Yc (by omega)⟩;have hci:=(hH.rs' hrT).2.2 qt rfl j _ (Qca hhi hTj);have hrt2:=hH.rs' (hrt j hh _ hhi hTj);obtain ⟨e1,e2,e3⟩:=m5 _ (Xs hTj);have htk:T.take (j+1)=T.take j++[T.getD j []]:=by rw [Xf,hTj];rfl
  have hds:=Qrd (T.getD j []) e3.1 e3.2.1 e3.2.2.1 hh.1 hh.2 w12 hrt2;generalize T.getD j []=t at *;refine VC_skip ?_;refine VB ?_;refine VQ [2,9,11,65,66,67] fun K hK=>?_;refine ⟨⟨by omega,by omega⟩,_,hci,?_⟩;apply hK;clear hK;refine VQ [2,9,12,65,66,67] fun K hK=>?_;refine MemK_call Tryz.call66 ?_;refine Qs ?_;refine Ym hds ?_;rintro v w13 ⟨hHd,rfl⟩;have hH2:=hH.call0 hHd;simp only [Yp] at hH2;clear hH hHd;refine Qao (.agg #[.string ⟨#[]⟩,.int .i64 0]) (by kernel_rfl) ?_;refine Qs ?_;have hH3:=hH2.box 33 [.string ⟨#[]⟩,.int .i64 0];generalize w13.alloc (Yu [Ui ⟨#[]⟩,.int .i64 0].toArray 33)=w14 at *;generalize w13.heap.size=gb at *;refine Qaa ?_;refine Qs ?_;refine Qae hH3 0 (vs:=Qa7 (Qce t)) rfl rfl (by kernel_rfl) (by simp [Qa7]) (Qb8 _) fun w15 hH4=>?_;have hH5:Heap w [] w15 [Yr gb 33 (Qa7 (Qce t)),Yo 33 2 a4 (j+1) c4 (Qdd ([X]++(T.take j).map Qce)),Yr gr 33 [.string ⟨#[]⟩,.int .i64 0]]:=hH4;clear hH2 hH3 hH4;apply hK;clear hK;refine VQ [2,9,65,66,67] fun K hK=>?_;refine ⟨Qa7 (Qce t),⟨rfl,Qay (hH5.at 0 rfl)⟩,?_⟩;refine Qeq hH5 2 (Qa7 (Qce t)) (xs:=[.tmp 77]) Un sz33 rfl rfl rfl (by omega) (by omega) ?_;refine Qs ?_;refine ⟨by simp [Qa7,Y3],by simp [Qa7,Y3],fun g2 w16 hH6=>?_⟩;refine Qai ?_;refine Qs ?_;refine Qbn (zs:=#[.string ⟨#[]⟩,.int .i64 0]) (bytes:=24) hH6 2 rfl Un (by kernel_rfl) rfl ⟨rfl,Qaq (hH6.at 0 rfl),33,Un⟩ (Qb8 _) (fun h=>by omega) fun a' cap' w17 hc' hH7=>?_;simp only [Yj,Yd] at hH7;rw [Qet,Yg] at hH7;apply hK;clear hK;refine Qaj ?_;refine VS [2,9,65,66,67] ?_;refine Qab ?_;refine Qs ?_;refine ⟨nt - (j+1),by omega,j+1,a',cap',rfl,?_,by omega,rfl⟩;rw [htk,Xo];exact hH7.sub (.cons _ (.cons _ (.refl _)))
 obtain rfl:j=nt:=by omega
 rw [Yh (by omega)] at hH;obtain ⟨ga2,rfl⟩:=Qc1 (hH.at 0 rfl) (by omega);have hlen:([X]++T.map Qce).length=j+1:=by simp [hnt]
 have hfl:([X]++T.map Qce).flatten.length<=10000000000000:=by
  rw [X8,Ye]
  have h1:∀ Q:List (List Nat),(∀ t∈Q,okL t)->(Q.map Qce).flatten.length<=Q.length * 20000:=fun Q=>by
   induction Q with
   | nil=>intro _;simp
   | cons t Q ih =>
    intro hQ;have h2:=ih fun t ht=>hQ t (by simp [ht]);obtain ⟨o1,o2,o3,_⟩:=hQ t (by simp);have h3:=Qgb t (t.getD 0 0) (o3 _ (Qa3 0 (by omega))).2 fun x hx=>(o3 x hx).2;simp only [List.map_cons,Uf,Ye,Y1,Uw,Qce,Qan];omega
  have h4:=h1 T fun t ht=>(m5 t ht).2.2;simp only [Gb];omega
 have hjn:=Qps ([X]++T.map Qce) ⟨ga2,0,none⟩ rfl c4 w12 (by rw [hlen];exact Qaq (hH.at 0 rfl)) hfl (by omega);rw [hlen] at hjn;generalize ([X]++T.map Qce).flatten=R at *;refine Qag rfl ?_;refine VQ [2,3] fun K hK=>?_;refine MemK_call Tryz.call15 ?_;refine Qs ?_;refine Ym hjn ?_;rintro v w13 ⟨hHj,rfl⟩;have hH2:=hH.call0 hHj;simp only [Yp] at hH2;refine Qaa ?_;refine Qs ?_;refine Qae hH2 1 (vs:=Qa7 R) rfl rfl (by kernel_rfl) (by simp [Qa7]) (Qb8 _) fun w14 hH3=>?_;have hH4:Heap w [] w14 [Yo 33 2 (some ⟨ga2,0,none⟩) (j+1) c4 (Qdd ([X]++T.map Qce)),Yr gr 33 (Qa7 R)]:=hH3;apply hK;clear hK;refine VC_ret (Qdo rfl rfl rfl (Qbw (hH4.at 1 rfl) (by kernel_rfl) (by kernel_rfl) rfl ?_));exact ⟨hH4.sub (by simp),rfl⟩
def Qp3 (hs:List (Option Addr×Nat)) (L:List (List Nat)):List Res:=List.zipWith (fun h l=>Yo 3 1 h.1 l.length h.2 (Qak l)) hs L
theorem Qxb {hs:List (Option Addr×Nat)}{L:List (List Nat)}{i:Nat}{h:Option Addr×Nat}{l:List Nat} (h1:hs[i]? = some h) (h2:L[i]? = some l):(Qp3 hs L)[i]? = some (Yo 3 1 h.1 l.length h.2 (Qak l)):=by
 simp [Qp3,Xm,h1,h2]
theorem Qst {hs:List (Option Addr×Nat)}{L:List (List Nat)} (hl:hs.length=L.length) (a:Option Addr) (c:Nat) (l:List Nat):Qp3 hs L++[Yo 3 1 a l.length c (Qak l)]=Qp3 (hs++[(a,c)]) (L++[l]):=by
 unfold Qp3;rw [Gs hl];rfl
theorem Qjy {α:Type} (L:List α) (z x:α) {n i:Nat} (hi:i < n) (hl:L.length=i):(L++Ya (n - i) z).set i x=(L++[x])++Ya (n - (i+1)) z:=by
 obtain ⟨q,hq⟩:∃ q,n - i=q+1:=⟨n - i - 1,by omega⟩;rw [hq,Xa,Y9 _ _ (by omega),hl,Xi,Yd,Yg,show n - (i+1)=q by omega];rfl
theorem Qsu (n:Nat):Qbq (Ya n (none,0)) (Ya n [])=Ya n (.slice none 0 0):=by
 unfold Qbq;rw [List.zipWith_replicate];simp
theorem Qui {α β:Type} (f:α->β) {T:List α}{j:Nat}{t:α} (h:T[j]? = some t):(T.take (j+1)).map f=(T.take j).map f++[f t]:=by
 rw [Xf,h,Xo];rfl
theorem Qnw (v:Value) (T:List (List Nat)) (P:List Nat) (hm:mayP T P) (list:List Nat) (hl1:1<=list.length) (hls:∀ s∈list,s < (T.getD 0 []).length) (hlg:Qbe list.length<=P.length) (a:Option Addr) (lc:Nat) (w:World) (hp:PlanAt w v T P) (hr:RS w a list.length 1 (Qak list)) :
  Does Yi 37 #[v,.slice a list.length lc] w fun x w'=>Heap w [] w' []/\x=.tuple #[Qk8 (Qe3 T P list 0),.int .i64 0]:=by
 have hp0:=hp;obtain ⟨ta,tc,pa,pc,hs,rfl,hsl,hrT,hrP,hrt⟩:=hp;have hm0:=hm;obtain ⟨m1,m2,m3,m4,m5,m6⟩:=hm;have hT0:T[0]? = some (T.getD 0 []):=by rw [Yb,Yc (by omega)];rfl
 have hn0:3<=(T.getD 0 []).length/\(T.getD 0 []).length<=258:=by
  obtain ⟨e1,e2,e3⟩:=m5 _ (Xs hT0);exact ⟨e2,e3.2.1⟩
 have hml:list.length<=1638350:=by unfold Qbe at hlg;omega
 have hFl:=Qjw (T:=T) (P:=P) (c:=20) (fun t ht x hx=>((m5 t ht).2.2.2.2.1 x hx).2) list 0;obtain ⟨qt,rfl⟩:=Qbj hrT (by omega);obtain ⟨qp,rfl⟩:=Qbj hrP (by omega);obtain ⟨ql,rfl⟩:=Qbj hr (by omega);have hen:#[Uq #[.slice (some qt) T.length tc,.slice (some qp) P.length pc],.slice (some ql) list.length lc]=[Uq (Qam (some qt) T.length tc (some qp) P.length pc).toArray,.slice (some ql) list.length lc].toArray:=rfl;rw [hen];refine Qdx 106 Tryz.func37 rfl rfl (of_decide_eq_true rfl) ?_;simp only [Env.ofArgs];have hgd:=fun w=>Qiy list.length (by omega) w;generalize hnt:T.length=nt at *;generalize hnp:P.length=np at *;generalize hnl:list.length=nl at *;generalize hn:(T.getD 0 []).length=n0 at *;refine VQ [1,2,4] fun K hK=>?_;refine Qch ?_;refine Qs ?_;have hH:=(Y2 w).box 70 (Qam (some qt) nt tc (some qp) np pc);generalize w.alloc (Yu (Qam (some qt) nt tc (some qp) np pc).toArray 70)=w1 at *;generalize w.heap.size=gp at *;refine Qao (.agg #[.string ⟨#[]⟩,.int .i64 0]) (by kernel_rfl) ?_;refine Qs ?_;have hH1:=hH.box 33 [.string ⟨#[]⟩,.int .i64 0];generalize w1.alloc (Yu [Ui ⟨#[]⟩,.int .i64 0].toArray 33)=w2 at *;generalize w1.heap.size=gr at *;clear hH;apply hK;clear hK;have hmc:=Qjx _ T P hm0 w2 (hp0.keep hH1);have c0:w2.cell? ⟨gp,0,none⟩=some (.slice (some qt) nt tc):=Qah (hH1.at 1 rfl) rfl;have c1:w2.cell? ⟨gp,1,none⟩=some (.slice (some qp) np pc):=Qah (hH1.at 1 rfl) rfl;refine VH _ (Ext.refl _) [1,2,4,25] [(0,true),(1,false),(2,true),(3,true),(4,true),(5,true),(7,true),(8,true),(9,true),(6,false),(10,true),(11,true)] fun K hK=>?_;refine ⟨Qam (some qt) nt tc (some qp) np pc,⟨rfl,Qay (hH1.at 1 rfl)⟩,?_⟩;refine MemK_call Tryz.call63 ?_;refine Qs ?_;refine Ym hmc ?_;rintro v w3 ⟨hHm,rfl⟩;have hH2:=hH1.call0 hHm;simp only [Yp] at hH2;refine Qs ?_;refine ⟨hHm.ext,?_⟩;refine ⟨fun _=>⟨_,c1,?_⟩,fun h2=>absurd h2 (by simp)⟩;refine Qs ?_;refine MemK_call Tryz.call67 ?_;refine Qs ?_;refine Ym (hgd w3) ?_;rintro v w4 ⟨rfl,rfl⟩;refine Qs ?_;refine ⟨hHm.ext,?_⟩;rw [decide_eq_false (show ¬ ((np:Int) < (Qbe nl:Nat)) by omega)];apply hK;clear hK;refine Qaf rfl rfl (fun h=>by simp at h) (fun h=>VC_skip ?_);clear h hH1 hHm hmc c0 c1;generalize w4=w3 at *;refine VS [1,2,4,27,28,29] ?_;refine Qac ?_;refine Qad [1,2,4,27,28,29] (fun m e w'=>∃ (i:Nat),Is e [(1,.slice (some ql) nl lc),(2,.pointer (some ⟨gp,0,none⟩)),(4,.pointer (some ⟨gr,0,none⟩)),(27,.slice (some ql) nl lc),(28,.int .i64 nl),(29,.int .i64 i)]/\Is w' w3/\i<=nl/\m=nl - i) nl ?_ ?_
 ·
  refine Qs ?_;exact ⟨0,rfl,rfl,by omega,rfl⟩
 rintro m e w' ⟨i,rfl,rfl,hi,rfl⟩;have c0:w'.cell? ⟨gp,0,none⟩=some (.slice (some qt) nt tc):=Qah (hH2.at 1 rfl) rfl;have c1:w'.cell? ⟨gp,1,none⟩=some (.slice (some qp) np pc):=Qah (hH2.at 1 rfl) rfl;obtain ⟨h0,hh0⟩:∃ h0,hs[0]? = some h0:=⟨_,Yc (by omega)⟩;have hc0:=(hH2.rs' hrT).2.2 qt rfl 0 _ (Qca hh0 hT0);rw [hn] at hc0;refine VS [1,2,4,27,28,29,30] ?_;(repeat refine Qax ?_);refine VD (fun h=>?_) (fun h=>?_)
 ·
  have hcell:=Qbr (hH2.rs' hr) (i:=i) (by omega);have hx:=hls _ (Qa3 0 (l:=list) (i:=i) (by omega));generalize list.getD i 0=x at *;refine VC_skip ?_;refine VB ?_;refine VQ [1,2,4,7,27,28,29] fun K hK=>?_;refine ⟨⟨by omega,by omega⟩,_,hcell,?_⟩;apply hK;clear hK;refine VQ [1,2,4,27,28,29,43] fun K hK=>?_;refine ⟨fun _=>⟨_,c0,?_⟩,fun h2=>absurd h2 (by omega)⟩;refine Qs ?_;refine ⟨by omega,_,hc0,?_⟩;refine Qs ?_;rw [decide_eq_false (show ¬ ((n0:Int)<=x) by omega)];apply hK;clear hK;refine Qaf rfl rfl (fun h=>by simp at h) (fun h=>VC_skip ?_);refine Qaj ?_;refine VS [1,2,4,27,28,29] ?_;refine Qab ?_;refine Qs ?_;exact ⟨nl - (i+1),by omega,i+1,rfl,rfl,by omega,rfl⟩
 clear h hi;generalize w'=w3 at *;refine Qag rfl ?_;refine VQ [1,2,4,8] fun K hK=>?_;refine MemK_call Gi ?_;refine Qs ?_;refine Ym (Qds w3) ?_;rintro v w4 ⟨gw,hHw,rfl⟩;have hH3:=hH2.call0 hHw;simp only [Y0] at hH3;clear hHw;apply hK;clear hK;refine VQ [1,2,4,8,9] fun K hK=>?_;refine ⟨_,Qah (hH3.at 2 rfl) (show (Qam (some qt) nt tc (some qp) np pc)[0]? = some _ from rfl),?_⟩;refine Qs ?_;refine Qbi Tryz.underlying68 zi51 ?_;refine Qs ?_;refine ⟨nt,nt,⟨rfl,rfl,by omega,by omega,by omega⟩,?_⟩;have hH4:=hH3.row 51 (n:=nt) (cap:=nt) (sz:=1) (Qbq (Ya nt (none,0)) (Ya nt [])) [] (by rw [Qhg (by simp)];simp) (by rw [Yl,Qhg (by simp)];simp) (by omega) (by omega);rw [Yl,Qsu] at hH4;generalize w4.alloc (Yu (Ya nt (Us none 0 0)).toArray 51)=w5 at *;generalize w4.heap.size=gc at *;rw [<- Qsu] at hH4;clear hH3;apply hK;clear hK;refine VS [1,2,4,8,9,52,53] ?_;refine Qac ?_;refine Qad [1,2,4,8,9,52,53] (fun m e w'=>∃ (i:Nat) (us:List (Option Addr×Nat)),Is e [(1,.slice (some ql) nl lc),(2,.pointer (some ⟨gp,0,none⟩)),(4,.pointer (some ⟨gr,0,none⟩)),(8,.pointer (some ⟨gw,0,none⟩)),(9,.slice (some ⟨gc,0,none⟩) nt nt),(52,.int .i64 nt),(53,.int .i64 i)]/\Heap w [] w' (Yo 51 1 (some ⟨gc,0,none⟩) nt nt (Qbq (us++Ya (nt - i) (none,0)) ((T.take i).map Qdh++Ya (nt - i) []))::wr gw none 0 []::Yr gr 33 [.string ⟨#[]⟩,.int .i64 0]::Yr gp 70 (Qam (some qt) nt tc (some qp) np pc)::Qp3 us ((T.take i).map Qdh))/\us.length=i/\i<=nt/\m=nt - i) nt ?_ ?_
 ·
  refine Qs ?_;exact ⟨0,[],rfl,by simpa [Qp3] using hH4,rfl,by omega,rfl⟩
 clear hH4 hH2 c0 c1 hc0;rintro m e w6 ⟨i,us,rfl,hH,hus,hi,rfl⟩;refine VS [1,2,4,8,9,52,53,54] ?_;(repeat refine Qax ?_);refine VD (fun h=>?_) (fun h=>?_)
 ·
  have hTi:T[i]? = some (T.getD i []):=by rw [Yb,Yc (by omega)];rfl
  obtain ⟨hh,hhi⟩:∃ hh,hs[i]? = some hh:=⟨_,Yc (by omega)⟩;have hci:=(hH.rs' hrT).2.2 qt rfl i _ (Qca hhi hTi);have hrt2:=hH.rs' (hrt i hh _ hhi hTi);obtain ⟨e1,e2,e3⟩:=m5 _ (Xs hTi);have htk:=Qui Qdh hTi;have hcd:=Qn9 (T.getD i []) e3 hh.1 hh.2 w6 hrt2;generalize T.getD i []=t at *;have hLl:((T.take i).map Qdh).length=i:=by simp;omega
  have hAl:(Qbq (us++Ya (nt - i) (none,0)) ((T.take i).map Qdh++Ya (nt - i) [])).length=nt:=by
   rw [Qhg (by simp;omega)];simp;omega
  have c0:w6.cell? ⟨gp,0,none⟩=some (.slice (some qt) nt tc):=Qah (hH.at 3 rfl) rfl;refine VC_skip ?_;refine VB ?_;refine VS [1,2,4,8,9,10,52,53] ?_;refine VQ [1,2,4,8,9,52,53] fun K hK=>?_;refine ⟨_,c0,?_⟩;refine Qs ?_;refine ⟨⟨by omega,by omega⟩,_,hci,?_⟩;refine MemK_call Tryz.call68 ?_;refine Qs ?_;refine Ym hcd ?_;rintro v w7 ⟨ac,cc,hHc,rfl⟩;have hH2:=hH.call0 hHc;simp only [Y0] at hH2;clear hHc c0 hci;refine Qp ?_
  have hset:(Qbq (us++Ya (nt - i) (none,0)) ((T.take i).map Qdh++Ya (nt - i) [])).set i (.slice ac (Qdh t).length cc)=Qbq ((us++[(ac,cc)])++Ya (nt - (i+1)) (none,0)) ((T.take (i+1)).map Qdh++Ya (nt - (i+1)) []):=by
   rw [htk,<- Qjy us (none,0) (ac,cc) (by omega) hus,<- Qjy _ [] (Qdh t) (by omega) hLl];exact QAa i (ac,cc) (Qdh t)
  refine Qaa ?_;refine Qs ?_;refine Qaz hH2 1 (o:=i) (vs:=[.slice ac (Qdh t).length cc]) rfl (by simp [Qbg]) rfl (by kernel_rfl) (by simp only [Yk];omega) (by simp [Yq]) fun w8 hH3=>?_;simp only [Yk,Qcb _ _ _ (show i < (Qbq (us++Ya (nt - i) (none,0)) ((T.take i).map Qdh++Ya (nt - i) [])).length by omega),hset,Yd,Yj] at hH3;have hH4:=hH3.perm (X4 _ _).symm;simp only [Xd] at hH4;rw [Qst (by omega),<- htk] at hH4;clear hH hH2 hH3;apply hK;clear hK;refine Qaj ?_;refine VS [1,2,4,8,9,52,53] ?_;refine Qab ?_;refine Qs ?_;exact ⟨nt - (i+1),by omega,i+1,us++[(ac,cc)],rfl,hH4,by simp [hus],by omega,rfl⟩
 obtain rfl:i=nt:=by omega
 clear h hi;rw [Xi,X9,X9,Yl,Yl,Yh (by omega)] at hH;generalize i=nt at *;refine Qag rfl ?_;refine VS [2,4,8,9,69,70,71] ?_;generalize hFull:Qe3 T P list 0=Full at *;refine Qac ?_;refine Qad [2,4,8,9,69,70,71] (fun m e w'=>∃ (i:Nat) (X:List Bool) (a:Option Addr) (c:Nat),Is e [(2,.pointer (some ⟨gp,0,none⟩)),(4,.pointer (some ⟨gr,0,none⟩)),(8,.pointer (some ⟨gw,0,none⟩)),(9,.slice (some ⟨gc,0,none⟩) nt nt),(69,.slice (some ql) nl lc),(70,.int .i64 nl),(71,.int .i64 i)]/\Heap w [] w' (Yo 51 1 (some ⟨gc,0,none⟩) nt nt (Qbq us (T.map Qdh))::wr gw a c X::Yr gr 33 [.string ⟨#[]⟩,.int .i64 0]::Yr gp 70 (Qam (some qt) nt tc (some qp) np pc)::Qp3 us (T.map Qdh))/\X++Qe3 T P (list.drop i) i=Full/\i<=nl/\m=nl - i) nl ?_ ?_
 ·
  refine Qs ?_;exact ⟨0,[],none,0,rfl,hH,by simpa using hFull,by omega,rfl⟩
 clear hH;rintro m e w7 ⟨i,X,a,c,rfl,hH,hX,hi,rfl⟩;refine VS [2,4,8,9,69,70,71,72] ?_;(repeat refine Qax ?_);refine VD (fun h=>?_) (fun h=>?_)
 ·
  have hcell:=Qbr (hH.rs' hr) (i:=i) (by omega);have hx:=hls _ (Qa3 0 (l:=list) (i:=i) (by omega));have hdp:list.drop i=list.getD i 0::list.drop (i+1):=drop_getD 0 (by omega);rw [hdp,Qe3] at hX;generalize list.getD i 0=x at *;have hgi:i / 50 < np:=by unfold Qbe at hlg;omega
  have hcp:=Qbr (hH.rs' hrP) (i:=i / 50) (by omega);have hpx:=m6 _ (Qa3 0 (l:=P) (i:=i / 50) (by omega));generalize P.getD (i / 50) 0=k at *;have hTk:T[k]? = some (T.getD k []):=by rw [Yb,Yc (by omega)];rfl
  obtain ⟨hh,hhk⟩:∃ hh,hs[k]? = some hh:=⟨_,Yc (by omega)⟩;obtain ⟨uu,huk⟩:∃ uu,us[k]? = some uu:=⟨_,Yc (by omega)⟩;have hck:=(hH.rs' hrT).2.2 qt rfl k _ (Qca hhk hTk);have hrt2:=hH.rs' (hrt k hh _ hhk hTk);obtain ⟨e1,e2,e3⟩:=m5 _ (Xs hTk);have hCk:(T.map Qdh)[k]? = some (Qdh (T.getD k [])):=by rw [U0,hTk];rfl
  have hcc:=Qa1 (hH.at 0 rfl) (Qca huk hCk);have hrc:=Qaq (hH.at (k+4) (show _=some (Yo 3 1 uu.1 (Qdh (T.getD k [])).length uu.2 (Qak (Qdh (T.getD k [])))) from Qxb huk hCk));rw [Qm6] at hcc hrc;generalize T.getD k []=t at *;have hcode:=Ql0 e3 (i:=x) (by omega);have hok:=Qnl e3 (i:=x) (by omega);obtain ⟨rt,hrt0⟩:=Qbj hrt2 (by omega);obtain ⟨rc,hrc0⟩:=Qbj hrc (by omega);rw [hrt0] at hrt2 hck;rw [hrc0] at hrc hcc;have hct:=Qbr hrt2 (i:=x) (by omega);have hcx:=Qbr hrc (i:=x) (by rw [Qm6];omega);have hcg:(Qdh t).getD x 0=Qe5 t x:=by unfold Qdh;rw [Qgk _ _ _ _ (by omega)]
  rw [hcg] at hcx
  have hXl:X.length+20<=100000000:=by
   have:=congrArg List.length hX;simp only [Ye] at this;omega
  have hw:Qib t x=Qas (t.getD x 0) (Qe5 t x):=rfl;rw [hw] at hX;have hp2:2 ^ (t.getD x 0)<=2 ^ 20:=Yt (by omega) hok.2;have hp3:2 ^ (t.getD x 0)<=1048576:=hp2;generalize t.getD x 0=b at *;generalize Qe5 t x=cx at *;have c0:w7.cell? ⟨gp,0,none⟩=some (.slice (some qt) nt tc):=Qah (hH.at 3 rfl) rfl;have c1:w7.cell? ⟨gp,1,none⟩=some (.slice (some qp) np pc):=Qah (hH.at 3 rfl) rfl;refine VC_skip ?_;refine VB ?_;refine VQ [2,4,8,9,11,12,69,70,71] fun K hK=>?_;refine ⟨⟨by omega,by omega⟩,_,hcell,?_⟩;apply hK;clear hK;refine VQ [2,4,8,9,12,13,69,70,71] fun K hK=>?_;refine ⟨_,c1,?_⟩;refine Qs ?_;rw [show ((i:Int) / 50)=((i / 50:Nat):Int) by omega];(repeat first | refine Qo ?_ | refine Qp ?_);refine ⟨_,hcp,?_⟩;apply hK;clear hK;refine VL [2,4,8,9,69,70,71] 17 fun K hK=>?_;refine ⟨⟨by omega,by omega⟩,_,hcc,?_⟩;refine Qs ?_;refine ⟨⟨by omega,by omega⟩,_,hcx,?_⟩;refine Qs ?_;refine ⟨_,c0,?_⟩;refine Qs ?_;refine ⟨⟨by omega,by omega⟩,_,hck,?_⟩;refine Qs ?_;refine ⟨⟨by omega,by omega⟩,_,hct,?_⟩;rw [show ((cx:Int) % 18446744073709551616)=cx by omega];refine MemK_call Xr ?_;refine Qs ?_;refine Ym (Qde gw a c X cx b w7 (by omega) hcode.2.2 (by omega) (hH.focus 1 rfl)) ?_;rintro v w8 ⟨a2,c2,hHp,rfl⟩;have hH2:=hH.call1 1 rfl hHp;simp only [Yd,Yj,Yp] at hH2;clear hH hHp hcc hcx c0 c1 hck hct hcp hrc hrt2 hcell;apply hK;clear hK;refine Qaj ?_;refine VS [2,4,8,9,69,70,71] ?_;refine Qab ?_;refine Qs ?_;exact ⟨nl - (i+1),by omega,i+1,_,a2,c2,rfl,hH2,by rw [Yg];exact hX,by omega,rfl⟩
 obtain rfl:i=nl:=by omega
 rw [Yy (by omega),Qe3,Yl] at hX;subst hX;refine Qag rfl ?_;refine VQ [4,5] fun K hK=>?_;refine MemK_call Gj ?_;refine Qs ?_;refine Ym (Qgi gw a c _ w7 (hH.at 1 rfl)) ?_;rintro v w9 ⟨rfl,rfl⟩;refine MemK_call Gk ?_;refine Qs ?_;refine Ym (Qgv gw a c _ w9 (hH.at 1 rfl)) ?_;rintro v w10 ⟨rfl,rfl⟩;refine Qs ?_;refine Qaa ?_;refine Qs ?_;refine Qae hH 2 (vs:=Qa7 X) rfl rfl (by kernel_rfl) (by simp [Qa7]) (Qb8 _) fun w11 hH3=>?_;simp only [Yd,Yj] at hH3;apply hK;clear hK;refine VC_ret (Qdo rfl rfl rfl (Qbw (hH3.at 2 rfl) (by kernel_rfl) (by kernel_rfl) rfl ?_));exact ⟨hH3.sub (by simp),rfl⟩
end Go.Proofs.YthcdlcdnchaoiaaGreat
