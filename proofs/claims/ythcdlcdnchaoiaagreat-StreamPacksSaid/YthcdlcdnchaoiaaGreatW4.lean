/- A program logic over the model, and what this program's functions do by it: part 4. No conditions: a library of lemmas. -/
import Derived.Test.YthcdlcdnchaoiaaGreatW3
open Nat (reduceEqDiff)
set_option linter.unusedSimpArgs false
set_option linter.unusedVariables false
set_option maxRecDepth 100000
open List renaming replicate->Ya,set_cons_zero->Yb,set_cons_succ->Yc,getElem?_eq_getElem->Yd,getD_eq_getElem?_getD->Ye,nil_append->Yf,append_assoc->Yj,append_nil->Yl,length_append->Yn,range->Yq,take_succ_cons->Yr,length_cons->Ys,take_of_length_le->Yu,drop_succ_cons->Yw,drop_of_length_le->Yy,length_singleton->Yz,eq_nil_of_length_eq_zero->Y0,drop_zero->Y2,singleton_append->Y3,cons_append->Y5,take_zero->Y6,length_take->Xd,sublist_cons_self->Xe,length_range->Xf,getElem?_map->Xg,length_drop->Xi,getElem?_append_right->Xj,getElem?_eq_none->Xk,length_replicate->Xl,replicate_append_replicate->Xn,reverse_perm->Xr,mem_of_getElem?->Xs,getElem?_eq_some_iff->Xt,replicate_succ->Xv,range_succ->Xx,mem_append->Xz,getElem?_drop->X0,filter_cons_of_pos->X3,mem_range->X5,take_add_one->X6,length_filter_le->X7,getElem_mem->X9,getElem?_range->Ud,filter_append->Ui,drop_eq_getElem_cons->Ul,getLastD_eq_getLast?->Um,filter_cons_of_neg->Up,nodup_range->Uq,mem_map->Ut,zipWith_cons_cons->Uu,getElem_cons_zero->Uw,getElem_cons_succ->Ux,getElem?_set_self->Uy,range_succ_eq_map->Uz,length_map->U2,set_append_right->U3,mem_of_mem_take->U5,mem_cons_of_mem->U6,getElem_toArray->U7,take->U9,getD_cons_succ->Gb,map_congr_left->Gd,length_pos_iff->Ge,take_set_of_le->Gf,flatMap_append->Gg,ext_getElem?->Gn,length->Gr
open Go.Proofs.Tryz renaming underlying51->Yg,prog->Yi,underlying31->Yp,underlying68->X4,call41->Ua,underlying35->Un,underlying9->Ur,call116->U0,call40->U4,call118->Gl,call23->Gq
open Go.Value renaming oneCell'->Yh,int->Y1,cells->Y9,slice->Xh,agg->Ug
open Go.Eng.CallK renaming mk->Yk
open Go.Eng.Res renaming blk->Ym,row->Yt,bag->Gs
open Int renaming toNat_natCast->Yo,toNat->Uh
open Go.Obj renaming cells->Yv
open Go.Eng.Heap renaming start->Yx,bag->U8
open UInt8 renaming ofNat->Y4,toNat_inj->Uc,toNat_ofNat'->Gi
open Go.Eng.I64 renaming mk->Y7
open Nat renaming xor_lt_two_pow->Y8,le_refl->Xb,pow_le_pow_right->Xc,testBit_eq_decide_div_mod_eq->Xm,mod_eq_of_lt->Xp,testBit_two_pow->Xu,xor_assoc->Xw,testBit_xor->Xy,add_sub_cancel_left->X1,mod_lt->X8,eq_of_testBit_eq->Ub,mul_lt_mul_of_pos_right->Ue,two_pow_add_eq_or_of_lt->Uf,and_one_is_mod->Uj,shiftLeft_xor_distrib->Uk,sub_self->Us,pow_succ->Uv,xor_mod_two_pow->Ga,mul_assoc->Gh,add_sub_cancel->Gj,lt_of_lt_of_le->Gk,xor_comm->Gm,succ->Gp
open Go.IntKind renaming u32->Xa,i64->Xq
open Option renaming getD_some->Xo,isSome_iff_exists->Uo
namespace Go.Proofs.YthcdlcdnchaoiaaGreat
open Go Go.Eng
theorem QBy (l:List Nat):∀ (r:List Bool) (n code:Nat) (p:Nat×Nat),Qho l r n code=.ok p->p.2<=n+r.length
 | [],n,code,p,h=>by simp [Qho] at h
 | b::r,n,code,p,h=>by
  rw [Qho] at h;split at h
  ·
   cases h;simp
  split at h
  ·
   have:=QBy l r _ _ p h;simp;omega
  cases h
theorem Qxc (l:List Nat):∀ (r:List Bool) (n code:Nat) (e:Int),Qho l r n code=.error e->e≠0
 | [],n,code,e,h=>by simp [Qho] at h;omega
 | b::r,n,code,e,h=>by
  rw [Qho] at h;split at h
  ·
   cases h
  split at h
  ·
   exact Qxc l r _ _ e h
  cases h;omega
theorem QKn {l:List Nat}{bits:List Bool}{at_:Nat}{q:Nat×Nat} (ha:at_<=bits.length) (h:Qju l bits at_=.ok q):q.2<=bits.length:=by
 unfold Qju at h;split at h
 ·
  rename_i p hp;cases h;have:=QBy l _ _ _ _ hp;simp at this;simp;omega
 cases h
theorem QGz {l:List Nat}{bits:List Bool}{at_:Nat}{e:Int} (h:Qju l bits at_=.error e):e≠0:=by
 unfold Qju at h;split at h
 ·
  cases h
 rename_i e' he;cases h;exact Qxc l _ _ _ _ he
theorem QBz {l:List Nat}{bits:List Bool}{fin:Nat}:∀ (n at_:Nat) (q:List Nat×Nat),at_<=bits.length->Qe6 l bits fin n at_=.ok q->q.2<=bits.length/\q.1.length<=n/\(0 < n->0 < q.1.length)
 | 0,at_,q,ha,h=>by simp [Qe6] at h;subst h;simp;exact ha
 | n+1,at_,q,ha,h=>by
  rw [Qe6] at h;split at h
  ·
   cases h
  rename_i p hp;have h1:=QKn ha hp;split at h
  ·
   cases h;simp;exact h1
  split at h
  ·
   cases h
  rename_i q' hq;cases h;have:=QBz n p.2 q' h1 hq;simp;omega
theorem Qxd {l:List Nat}{bits:List Bool}{fin:Nat}:∀ (n at_:Nat) (e:Int),Qe6 l bits fin n at_=.error e->e≠0
 | 0,at_,e,h=>by simp [Qe6] at h
 | n+1,at_,e,h=>by
  rw [Qe6] at h;split at h
  ·
   rename_i e' he;cases h;exact QGz he
  split at h
  ·
   cases h
  split at h
  ·
   rename_i e' he;cases h;exact Qxd n _ _ he
  cases h
theorem Qnx {l:List Nat} (h:0 < l.length) (fin:Nat):l.getLast? = some fin ↔ l.getD (l.length - 1) 0=fin:=by
 rw [List.getLast?_eq_getElem?,Ye,Yd (by omega)];simp
theorem Qxe (v:Value) (T:List (List Nat)) (P:List Nat) (hm:mayP T P) (s:List UInt8) (at_:Nat) (hat:at_<=8 * s.length) (hs:s.length<=100000000000000) (w:World) (hp:PlanAt w v T P) :
  Does Yi 90 #[v,Str s,.int .i64 at_] w (QGn (Qgw T (Qap s) ((T.getD 0 []).length - 1) P at_) w):=by
 have hp0:=hp;obtain ⟨ta,tc,pa,pc,hs0,rfl,hsl,hrT,hrP,hrt⟩:=hp;have hm0:=hm;obtain ⟨m1,m2,m3,m4,m5,m6⟩:=hm;have hbl:=Qaw s;have hT0:T[0]? = some (T.getD 0 []):=by rw [Ye,Yd (by omega)];rfl
 have hn0:3<=(T.getD 0 []).length/\(T.getD 0 []).length<=258:=by
  obtain ⟨e1,e2,e3⟩:=m5 _ (Xs hT0);exact ⟨e2,e3.2.1⟩
 obtain ⟨qt,rfl⟩:=Qbj hrT (by omega);obtain ⟨qp,rfl⟩:=Qbj hrP (by omega);obtain ⟨h0,hh0⟩:∃ h0,hs0[0]? = some h0:=⟨_,Yd (by omega)⟩;have hc0:=hrT.2.2 qt rfl 0 _ (Qca hh0 hT0);have hen:#[Ug #[.slice (some qt) T.length tc,.slice (some qp) P.length pc],Str s,.int .i64 at_]=[Ug (Qam (some qt) T.length tc (some qp) P.length pc).toArray,Str s,.int .i64 at_].toArray:=rfl;rw [hen];refine Qdx 72 Tryz.func90 rfl rfl (of_decide_eq_true rfl) ?_;simp only [Env.ofArgs];generalize hn:(T.getD 0 []).length=n0 at *;generalize hres:Qgw T (Qap s) (n0 - 1) P at_=res;generalize hnt:T.length=nt at *;generalize hnp:P.length=np at *;refine VQ [1,2,3] fun K hK=>?_;refine Qch ?_;refine Qs ?_;have hH:=(Yx w).box 70 (Qam (some qt) nt tc (some qp) np pc);generalize w.alloc (Yv (Qam (some qt) nt tc (some qp) np pc).toArray 70)=w1 at *;generalize w.heap.size=gp at *;apply hK;clear hK;refine VQ [1,2,3,18] fun K hK=>?_;refine ⟨Qam (some qt) nt tc (some qp) np pc,⟨rfl,Qay (hH.at 0 rfl)⟩,?_⟩;refine MemK_call Tryz.call63 ?_;refine Qs ?_;refine Yk (Qjx _ T P hm0 w1 (hp0.keep hH)) ?_;rintro v w2 ⟨hHm,rfl⟩;have hH2:=hH.call0 hHm;simp only [Yf] at hH2;clear hH hHm;refine Qs ?_;apply hK;clear hK;refine Qaf rfl rfl (fun h=>by simp at h) (fun h=>VC_skip ?_);clear h;refine VQ [1,2,3,27] fun K hK=>?_
 suffices out:∀ b:Bool,(b=true ↔ False)->K [(1,Str s),(2,.int .i64 at_),(3,.pointer (some ⟨gp,0,none⟩)),(27,.bool b)] w2 by (repeat' (first | exact out _ _ (by first | omega | (simp;done) | (simp;omega)) | exact out _ (by first | omega | (simp;done) | (simp;omega)) | refine ⟨fun _=>?_,fun _=>?_⟩ | refine Qo ?_))
 intro b hb;apply hK;clear hK;refine Qaf rfl rfl (fun h=>(hb.1 h).elim) (fun h=>VC_skip ?_);clear hb h;have c0:w2.cell? ⟨gp,0,none⟩=some (.slice (some qt) nt tc):=Qah (hH2.at 0 rfl) rfl;have c1:w2.cell? ⟨gp,1,none⟩=some (.slice (some qp) np pc):=Qah (hH2.at 0 rfl) rfl;have hc2:=(hH2.rs' hrT).2.2 qt rfl 0 _ (Qca hh0 hT0);rw [hn] at hc2;refine VQ [1,2,3,9] fun K hK=>?_;refine ⟨_,c0,?_⟩;refine Qs ?_;refine ⟨by omega,_,hc2,?_⟩;refine Qs ?_;(repeat first | refine Qo ?_ | refine Qp ?_);rw [show ((n0:Int) - 1)=((n0 - 1:Nat):Int) by omega];apply hK;clear hK;refine VS [1,2,3,9,10] ?_;refine VQ [1,2,3,9,10,35,36,37] fun K hK=>?_;refine ⟨_,c1,?_⟩;refine Qs ?_;apply hK;clear hK;clear c0 c1 hc2 hc0;generalize hfin:n0 - 1=fin at *;refine Qac ?_;refine Qad [1,2,3,9,10,35,36,37] (fun m e w'=>∃ (i at2 cap:Nat) (D:List Nat) (a:Option Addr),Is e [(1,Str s),(2,.int .i64 at2),(3,.pointer (some ⟨gp,0,none⟩)),(9,.int .i64 fin),(10,.slice a D.length cap),(35,.slice (some qp) np pc),(36,.int .i64 np),(37,.int .i64 i)]/\Heap w [] w' [Yt 3 1 a D.length cap (Qak D),Ym gp 70 (Qam (some qt) nt tc (some qp) np pc)]/\at2<=8 * s.length/\D.length<=50 * i/\(match Qgw T (Qap s) fin (P.drop i) at2 with | .error e=>.error e | .ok x=>.ok (D++x.1,x.2))=res/\i<=np/\m=np - i) np ?_ ?_
 ·
  refine Qs ?_;refine ⟨0,at_,0,[],none,rfl,hH2.nilRow 3 1,hat,by simp,?_,by omega,rfl⟩;rw [<- hres,Y2];cases Qgw T (Qap s) fin P at_ <;> rfl
 clear hH2 hres;rintro m e w3 ⟨i,at2,cap,D,a,rfl,hH,hat2,hDl,hres,hi,rfl⟩;refine VS [1,2,3,9,10,35,36,37,38] ?_;(repeat refine Qax ?_);refine VD (fun h=>?_) (fun h=>?_)
 ·
  have hcp:=Qbr (hH.rs' hrP) (i:=i) (by omega);have hpx:=m6 _ (Qa3 0 (l:=P) (i:=i) (by omega));have hdp:P.drop i=P.getD i 0::P.drop (i+1):=drop_getD 0 (by omega);rw [hdp,Qgw] at hres;generalize P.getD i 0=k at *;have hTk:T[k]? = some (T.getD k []):=by rw [Ye,Yd (by omega)];rfl
  obtain ⟨hh,hhk⟩:∃ hh,hs0[k]? = some hh:=⟨_,Yd (by omega)⟩;have hck:=(hH.rs' hrT).2.2 qt rfl k _ (Qca hhk hTk);have hrt2:=hH.rs' (hrt k hh _ hhk hTk);obtain ⟨e1,e2,e3⟩:=m5 _ (Xs hTk);generalize T.getD k []=t at *;have hal:=QKl t e3 s at2 50 fin hat2 hs (by omega) (by omega) hh.1 hh.2 w3 hrt2;have hag:=fun q=>QBz (l:=t) (bits:=Qap s) (fin:=fin) 50 at2 q (by omega);have hae:=fun e=>Qxd (l:=t) (bits:=Qap s) (fin:=fin) 50 at2 e;generalize Qe6 t (Qap s) fin 50 at2=r at *;have c0:w3.cell? ⟨gp,0,none⟩=some (.slice (some qt) nt tc):=Qah (hH.at 1 rfl) rfl;refine VC_skip ?_;refine VB ?_;refine VQ [1,2,3,9,10,12,35,36,37] fun K hK=>?_;refine ⟨⟨by omega,by omega⟩,_,hcp,?_⟩;apply hK;clear hK;refine VQ [1,3,9,10,13,14,15,35,36,37] fun K hK=>?_;refine ⟨_,c0,?_⟩;refine Qs ?_;refine ⟨⟨by omega,by omega⟩,_,hck,?_⟩;refine MemK_call Tryz.call121 ?_;refine Qs ?_;refine Yk hal ?_;intro v w4 hEx;cases r with
  | error e =>
   obtain ⟨hHe,rfl⟩:=hEx;subst hres;have hH2:=hH.call0 hHe;simp only [Yf] at hH2;apply hK;clear hK;refine VS [1,3,9,10,13,14,15,35,36,37,55] ?_;refine Vi (fun h=>?_) (fun h=>?_)
   ·
    refine VS [6,7,8] ?_;exact VC_ret (Qcv rfl rfl rfl rfl ⟨hH2.sub (by simp),rfl⟩)
   simp at h;exact absurd h (hae e rfl)
  | ok q =>
   obtain ⟨aq,cq,hHq,rfl⟩:=hEx;obtain ⟨q1,q2,q3⟩:=hag q rfl;replace q3:=q3 (by omega);simp only at hres;have hH2:=hH.call0 hHq;simp only [Y3] at hH2;obtain ⟨gq,rfl⟩:=Qc1 (hH2.at 0 rfl) q3;clear hH hHq;apply hK;clear hK;refine VS [1,3,9,10,13,14,15,35,36,37,55] ?_;refine Qaf rfl rfl (fun h=>by simp at h) (fun h=>VC_skip ?_);clear h;refine VQ [1,3,9,10,13,14,35,36,37] fun K hK=>?_;refine Qai ?_;refine Qs ?_;refine Qbn (zs:=#[.int .i64 0]) (bytes:=8) hH2 1 rfl Yg (by kernel_rfl) rfl ⟨rfl,Qaq (hH2.at 0 rfl),3,Yg⟩ (Qdc _) (fun h=>by omega) fun a' cap' w5 hc' hH3=>?_;simp only [Yc,Yb] at hH3;rw [<- Qcy,<- Yn] at hH3;rw [<- Yn];apply hK;clear hK;refine VS [1,2,3,9,10,13,35,36,37] ?_;have hce:=Qa1 (hH3.at 0 rfl) (Qb4 (l:=q.1) (i:=q.1.length - 1) (by omega));refine VQ [1,2,3,9,10,35,36,37,68] fun K hK=>?_;(repeat first | refine Qo ?_ | refine Qp ?_);refine ⟨_,hce,?_⟩;refine Qs ?_;apply hK;clear hK;clear hce;refine VD (fun h=>?_) (fun h=>VC_skip ?_)
   ·
    rw [if_pos ((Qnx q3 fin).2 (by omega))] at hres;subst hres;refine VS [6,7,8] ?_;exact VC_ret (Qcv rfl rfl rfl rfl ⟨a',cap',hH3.sub (by simp),rfl⟩)
   rw [if_neg (fun e=>h (by have:=(Qnx q3 fin).1 e;omega))] at hres;refine Qaj ?_;refine VS [1,2,3,9,10,35,36,37] ?_;refine Qab ?_;refine Qs ?_;refine ⟨np - (i+1),by omega,i+1,q.2,cap',D++q.1,a',rfl,hH3.sub (Xe _ _),by omega,by simp;omega,?_,by omega,rfl⟩;rw [<- hres];cases Qgw T (Qap s) fin (P.drop (i+1)) q.2 with
   | error e=>rfl
   | ok y=>simp
 obtain rfl:i=np:=by omega
 rw [Yy (by omega),Qgw] at hres;subst hres;refine Qag rfl ?_;refine VS [6,7,8] ?_;exact VC_ret (Qcv rfl rfl rfl rfl ⟨hH.sub (by simp),rfl⟩)
theorem Qb0 (ta:Option Addr) (nt tc:Nat) (pa:Option Addr) (np pc:Nat):∀ u∈Qam ta nt tc pa np pc,u.oneCell'=true:=by
 intro u hu;simp [Qam] at hu;rcases hu with rfl | rfl <;> rfl
theorem Qjz {w:World}{v:Value}{T:List (List Nat)}{P:List Nat}{ta pa:Option Addr}{nt tc np pc:Nat}{hs:List (Option Addr×Nat)} (hv:v=.agg (Qam ta nt tc pa np pc).toArray) (hnt:T.length=nt) (hnp:P.length=np) (hl:hs.length=nt) (h1:RS w ta nt 1 (Qbq hs T)) (h2:RS w pa np 1 (Qak P))
  (h3:∀ (i:Nat) (h:Option Addr×Nat) (t:List Nat),hs[i]? = some h->T[i]? = some t->RS w h.1 t.length 1 (Qak t)):PlanAt w v T P:=by
 subst hnt hnp;exact ⟨ta,tc,pa,pc,hs,hv,hl,h1,h2,h3⟩
set_option maxHeartbeats 4000000
theorem Qau {P:Program}{N:Nat}{ops:List Oper}{w0:World}{e:Env}{w:World}{K:Env->World->Prop}:vcH P N ops w0 [] e w K=K e w:=rfl
abbrev QSm:Value:=.agg (Qam none 0 0 none 0 0).toArray
def QSn (r:Except Int ((List (List Nat)×List Nat)×Nat)) (w:World) (v:Value) (w':World):Prop:=match r with
 | .ok q=>∃ pv,Heap w [] w' []/\PlanAt w' pv q.1.1 q.1.2/\v=.tuple #[pv,.int .i64 q.2,.int .i64 0]
 | .error e=>Heap w [] w' []/\v=.tuple #[QSm,.int .i64 0,.int .i64 e]
theorem Quj (s:List UInt8) (at_ n:Nat) (ha:at_<=8 * s.length) (hs:s.length<=100000000000000) (hn:3<=n/\n<=258) (w:World) :
  Does Yi 89 #[Str s,.int .i64 at_,.int .i64 n] w (QSn (Qel (Qap s) at_ n) w):=by
 have hbl:=Qaw s;generalize hres:Qel (Qap s) at_ n=res;unfold Qel at hres;refine En [Str s,.int .i64 at_,.int .i64 n] 122 Tryz.func89 ?_;refine VQ [0,1,2,6] fun K hK=>?_;refine Qao (.agg #[.slice none 0 0,.slice none 0 0]) (by kernel_rfl) ?_;refine Qs ?_;have hH:=(Yx w).box 70 (Qam none 0 0 none 0 0);have hpl:[Xh none 0 0,Xh none 0 0]=Qam none 0 0 none 0 0:=rfl;rw [hpl];generalize w.alloc (Yv (Qam none 0 0 none 0 0).toArray 70)=w1 at *;generalize w.heap.size=gr at *;apply hK;clear hK;refine VQ [0,2,6,9] fun K hK=>?_;refine MemK_call U4 ?_;refine Qs ?_;refine Yk (Qdt s at_ w1 (Y7 (by omega) (by omega)) (by omega)) ?_;rintro v w2 (⟨hbad,_⟩ | ⟨_,gd,gs,hHr,rfl⟩)
 ·
  omega
 rw [Yo] at hHr;have hH2:=hH.call0 hHr;simp only [Y3] at hH2;clear hH hHr;apply hK;clear hK;refine VQ [0,2,6,9,32] fun K hK=>?_
 suffices out:∀ b:Bool,(b=true ↔ False)->K [(0,Str s),(2,.int .i64 n),(6,.pointer (some ⟨gr,0,none⟩)),(9,.pointer (some ⟨gd,0,none⟩)),(32,.bool b)] w2 by (repeat' (first | exact out _ _ (by first | omega | (simp;done) | (simp;omega)) | exact out _ (by first | omega | (simp;done) | (simp;omega)) | refine ⟨fun _=>?_,fun _=>?_⟩ | refine Qo ?_))
 intro b hb;apply hK;clear hK;refine Qaf rfl rfl (fun h=>(hb.1 h).elim) (fun h=>VC_skip ?_);clear hb h;refine VQ [0,2,6,9,10,11] fun K hK=>?_;refine MemK_call Ua ?_;refine Qs ?_;refine Yk (Qex gd gs s at_ 3 w2 (by omega) (by omega) (by omega) (hH2.focus 0 rfl)) ?_;rintro v w3 (⟨h1,rfl,rfl⟩ | ⟨h1,hHt,rfl⟩)
 ·
  rw [Ql5 (by omega),if_pos (by simp)] at hres;subst hres;apply hK;clear hK;refine VS [0,2,6,9,10,11,40] ?_;refine Qaf rfl rfl (fun h=>?_) (fun h=>by simp at h);refine VQ [6,7,8] fun K hK=>?_
  (refine Qaa ?_;refine Qs ?_)
  refine Qae hH2 1 (vs:=Qam none 0 0 none 0 0) rfl rfl (by kernel_rfl) (by simp [Qam]) (Qb0 _ _ _ _ _ _) fun w4 hH3=>?_;simp only [Yb,Yc] at hH3;apply hK;clear hK;refine VC_ret (Qhu rfl rfl rfl rfl (Qbw (hH3.at 1 rfl) (by kernel_rfl) (by kernel_rfl) rfl ?_));exact ⟨hH3.sub (by simp),rfl⟩
 have hH3:=hH2.call1 0 rfl hHt;simp only [Yb,Yf] at hH3;clear hH2 hHt;rw [Qm8 (by omega),if_neg (by simp)] at hres;simp only at hres;have hm7:=Qes (((Qap s).drop at_).take 3);have hfl:(((Qap s).drop at_).take 3).length=3:=by simp;omega
 rw [hfl] at hm7;generalize numB (((Qap s).drop at_).take 3)=many at *;apply hK;clear hK;refine VS [0,2,6,9,10,11,40] ?_;refine Qaf rfl rfl (fun h=>by simp at h) (fun h=>VC_skip ?_);clear h;refine VQ [0,2,6,9,10,48] fun K hK=>?_
 suffices out:∀ b:Bool,(b=true ↔ (many < 2∨6 < many))->K [(0,Str s),(2,.int .i64 n),(6,.pointer (some ⟨gr,0,none⟩)),(9,.pointer (some ⟨gd,0,none⟩)),(10,.int .u64 many),(48,.bool b)] w3 by (repeat' (first | exact out _ _ (by first | omega | (simp;done) | (simp;omega)) | exact out _ (by first | omega | (simp;done) | (simp;omega)) | refine ⟨fun _=>?_,fun _=>?_⟩ | refine Qo ?_))
 intro b hb;apply hK;clear hK;refine Vi (fun h=>?_) (fun h=>?_)
 ·
  rw [if_pos (hb.1 h)] at hres;subst hres;refine VQ [6,7,8] fun K hK=>?_
  (refine Qaa ?_;refine Qs ?_)
  refine Qae hH3 1 (vs:=Qam none 0 0 none 0 0) rfl rfl (by kernel_rfl) (by simp [Qam]) (Qb0 _ _ _ _ _ _) fun w4 hH4=>?_;simp only [Yb,Yc] at hH4;apply hK;clear hK;refine VC_ret (Qhu rfl rfl rfl rfl (Qbw (hH4.at 1 rfl) (by kernel_rfl) (by kernel_rfl) rfl ?_));exact ⟨hH4.sub (by simp),rfl⟩
 have hb2:¬ (many < 2∨6 < many):=fun hc=>by rw [hb.2 hc] at h;cases h
 rw [if_neg hb2] at hres;clear hb h;refine VC_skip ?_;refine VQ [0,2,6,9,10,11,12] fun K hK=>?_;refine MemK_call Ua ?_;refine Qs ?_;refine Yk (Qex gd gs s (at_+3) 15 w3 (by omega) (by omega) (by omega) (hH3.focus 0 rfl)) ?_;rintro v w4 (⟨h2,rfl,rfl⟩ | ⟨h2,hHt,rfl⟩)
 ·
  rw [Ql5 (by omega),if_pos (by simp)] at hres;subst hres;apply hK;clear hK;refine VS [0,2,6,9,10,11,12,56] ?_;refine Qaf rfl rfl (fun h=>?_) (fun h=>by simp at h);refine VQ [6,7,8] fun K hK=>?_
  (refine Qaa ?_;refine Qs ?_)
  refine Qae hH3 1 (vs:=Qam none 0 0 none 0 0) rfl rfl (by kernel_rfl) (by simp [Qam]) (Qb0 _ _ _ _ _ _) fun w4 hH4=>?_;simp only [Yb,Yc] at hH4;apply hK;clear hK;refine VC_ret (Qhu rfl rfl rfl rfl (Qbw (hH4.at 1 rfl) (by kernel_rfl) (by kernel_rfl) rfl ?_));exact ⟨hH4.sub (by simp),rfl⟩
 have hH4:=hH3.call1 0 rfl hHt;simp only [Yb,Yf] at hH4;clear hH3 hHt;rw [Qm8 (by omega),if_neg (by simp)] at hres;simp only at hres;have hm7b:=Qes (((Qap s).drop (at_+3)).take 15);have hflb:(((Qap s).drop (at_+3)).take 15).length=15:=by simp;omega
 rw [hflb] at hm7b;generalize numB (((Qap s).drop (at_+3)).take 15)=np at *;apply hK;clear hK;refine VS [0,2,6,9,10,11,12,56] ?_;refine Qaf rfl rfl (fun h=>by simp at h) (fun h=>VC_skip ?_);clear h;refine VS [0,2,6,9,10,12,60] ?_;refine VD (fun h=>?_) (fun h=>VC_skip ?_)
 ·
  rw [if_pos (by omega)] at hres;subst hres;refine VQ [6,7,8] fun K hK=>?_
  (refine Qaa ?_;refine Qs ?_)
  refine Qae hH4 1 (vs:=Qam none 0 0 none 0 0) rfl rfl (by kernel_rfl) (by simp [Qam]) (Qb0 _ _ _ _ _ _) fun w5 hH5=>?_;simp only [Yb,Yc] at hH5;apply hK;clear hK;refine VC_ret (Qhu rfl rfl rfl rfl (Qbw (hH5.at 1 rfl) (by kernel_rfl) (by kernel_rfl) rfl ?_));exact ⟨hH5.sub (by simp),rfl⟩
 rw [if_neg (by omega),show at_+3+15=at_+18 by omega] at *;have hat2:at_+18<=8 * s.length:=by omega
 refine VQ [0,2,6,9,10,12,13] fun K hK=>?_;refine Qao (.agg #[.slice none 0 0,.slice none 0 0]) (by kernel_rfl) ?_;refine Qs ?_;have hH5:=hH4.box 70 (Qam none 0 0 none 0 0);rw [hpl];generalize w4.alloc (Yv (Qam none 0 0 none 0 0).toArray 70)=w5 at *;generalize w4.heap.size=gp at *;clear hH4;apply hK;clear hK;refine VQ [0,2,6,9,10,12,13,14] fun K hK=>?_;(repeat first | refine Qo ?_ | refine Qp ?_);refine MemK_call Tryz.call64 ?_;refine Qs ?_;refine Yk (Qns many (by omega) (by omega) w5) ?_;rintro v w6 ⟨go,hHo,rfl⟩;have hH6:=hH5.call0 hHo;simp only [Y3] at hH6;clear hH5 hHo;apply hK;clear hK
 have hH7:Heap w [] w6 [Yt 3 1 (some ⟨go,0,none⟩) many many (Qak (Yq many)),rd gd gs s (at_+18),Yt 3 1 none 0 0 (Qak []),Ym gp 70 (Qam none 0 0 none 0 0),Ym gr 70 (Qam none 0 0 none 0 0)] :=
  (hH6.nilRow 3 1).perm ((List.Perm.swap _ _ _).trans (List.Perm.cons _ ((List.Perm.cons _ (List.Perm.swap _ _ _)).trans (List.Perm.swap _ _ _))))
 clear hH6;refine VS [0,2,6,9,10,13,14,65,66] ?_;generalize hpt:ptGo (Qap s) many (Yq many) np (at_+18)=rp at *;have hpok:=fun q=>QAc (bits:=Qap s) (many:=many) (by omega) np (Yq many) (at_+18) q (by simp) (by omega);have hperr:=fun e=>Qug (bits:=Qap s) (many:=many) np (Yq many) (at_+18) e;rw [hpt] at hpok hperr;refine Qac ?_;refine Qad [0,2,6,9,10,13,14,65,66] (fun m e w'=>∃ (i at2 cP:Nat) (aP:Option Addr) (li D:List Nat),Is e [(0,Str s),(2,.int .i64 n),(6,.pointer (some ⟨gr,0,none⟩)),(9,.pointer (some ⟨gd,0,none⟩)),(10,.int .u64 many),(13,.pointer (some ⟨gp,0,none⟩)),(14,.slice (some ⟨go,0,none⟩) many many),(65,.int .u64 np),(66,.int .u64 i)]/\Heap w [] w' [Yt 3 1 (some ⟨go,0,none⟩) many many (Qak li),rd gd gs s at2,Yt 3 1 aP D.length cP (Qak D),Ym gp 70 (Qam none 0 0 aP D.length cP),Ym gr 70 (Qam none 0 0 none 0 0)]/\li.length=many/\D.length=i/\at2<=8 * s.length/\(match ptGo (Qap s) many li (np - i) at2 with | .error e=>.error e | .ok q=>.ok (D++q.1,q.2))=rp/\i<=np/\m=np - i) np ?_ ?_
 ·
  refine Qs ?_;refine ⟨0,at_+18,0,none,Yq many,[],rfl,hH7,by simp,rfl,hat2,?_,by omega,rfl⟩;rw [Nat.sub_zero,hpt];cases rp <;> rfl
 clear hH7 hpt;rintro m e w7 ⟨i,at2,cP,aP,li,D,rfl,hH,hlil,hDl,hat,hrp,hi,rfl⟩;refine VS [0,2,6,9,10,13,14,65,66,67] ?_;(repeat refine Qax ?_);refine VD (fun h=>?_) (fun h=>?_)
 ·
  obtain ⟨k,hk⟩:∃ k,np - i=k+1:=⟨np - i - 1,by omega⟩;rw [hk,ptGo] at hrp;have hud:=QD4 gd gs s at2 (many - 1) w7 (by omega) hat (by omega) (hH.focus 1 rfl);generalize hU:unS ((Qap s).drop at2) (many - 1) 0=U at *;obtain ⟨u,ue⟩:=U;simp only at hrp hud;refine VC_skip ?_;refine VB ?_;refine VQ [0,2,6,9,10,13,14,15,16,65,66] fun K hK=>?_;(repeat first | refine Qo ?_ | refine Qp ?_);rw [show ((many:Int) - 1)=((many - 1:Nat):Int) by omega];refine MemK_call Tryz.call119 ?_;refine Qs ?_;refine Yk hud ?_;rintro v w8 ⟨rfl,hcs⟩;apply hK;clear hK;refine VS [0,2,6,9,10,13,14,15,16,65,66,77] ?_;refine Qdl [0,2,6,9,10,13,14,15,16,65,66] (fun e w'=>Is e [(0,Str s),(2,.int .i64 n),(6,.pointer (some ⟨gr,0,none⟩)),(9,.pointer (some ⟨gd,0,none⟩)),(10,.int .u64 many),(13,.pointer (some ⟨gp,0,none⟩)),(14,.slice (some ⟨go,0,none⟩) many many),(15,.int .i64 u),(16,.int .i64 (if ue=3 then 110 else ue)),(65,.int .u64 np),(66,.int .u64 i)]/\Is w' w8) ?_ ?_
  ·
   refine VD (fun h=>?_) (fun h=>?_)
   ·
    refine VS [0,2,6,9,10,13,14,15,16,65,66] ?_;refine Qab ?_;refine Qs ?_;exact ⟨by rw [if_pos h];rfl,rfl⟩
   refine VC_skip ?_;refine Qab ?_;refine Qs ?_;exact ⟨by rw [if_neg h];rfl,rfl⟩
  rintro e w9 ⟨rfl,rfl⟩;refine VS [0,2,6,9,10,13,14,15,16,65,66,79] ?_;rcases hcs with ⟨hne,rfl⟩ | ⟨hue,hul,hum,hHu⟩
  ·
   rw [if_pos hne] at hrp;subst hrp;subst hres;have hx:(if ue=3 then 110 else ue)≠0:=by split <;> omega
   generalize (if ue=3 then 110 else ue)=x at *;refine Qaf rfl rfl (fun h=>?_) (fun h=>by simp at h;exact absurd h hx);refine VQ [6,7,8] fun K hK=>?_
   (refine Qaa ?_;refine Qs ?_)
   refine Qae hH 4 (vs:=Qam none 0 0 none 0 0) rfl rfl (by kernel_rfl) (by simp [Qam]) (Qb0 _ _ _ _ _ _) fun w5 hH5=>?_;simp only [Yb,Yc] at hH5;apply hK;clear hK;refine VC_ret (Qhu rfl rfl rfl rfl (Qbw (hH5.at 4 rfl) (by kernel_rfl) (by kernel_rfl) rfl ?_));exact ⟨hH5.sub (by simp),rfl⟩
  subst hue;rw [if_neg (by simp)] at hrp;have hH2:=hH.call1 1 rfl hHu;simp only [Yb,Yc,Yf] at hH2;clear hH hHu;have hmvl:=Qga (li:=li) (at_:=u) (by omega);have hmd:=Qnt li go many u (by omega) (by omega) w w9 [] _ (by rw [hlil];exact hH2);rw [hlil] at hmd;refine Qaf rfl rfl (fun h=>by simp at h) (fun h=>VC_skip ?_);clear h;refine V3 (bare w9) (Qll _ _) [0,2,6,9,10,13,14,65,66] (.two [(0,true),(2,true),(3,true)] 1 4 (.seq [(4,false),(5,false),(6,false),(7,true),(8,false)]) (.two [] 1 5 (.seq [(5,false),(6,false),(7,true),(8,false)]) (.seq [(1,false),(6,false),(7,true),(8,false)]))) fun K hK=>?_
  suffices out:∀ a' c' w10,Heap w [] w10 [Yt 3 1 (some ⟨go,0,none⟩) many many (Qak (Qek li u)),rd gd gs s (at2+u+1),Yt 3 1 a' (D++[li.getD u 0]).length c' (Qak (D++[li.getD u 0])),Ym gp 70 (Qam none 0 0 a' (D++[li.getD u 0]).length c'),Ym gr 70 (Qam none 0 0 none 0 0)]->K [(0,Str s),(2,.int .i64 n),(6,.pointer (some ⟨gr,0,none⟩)),(9,.pointer (some ⟨gd,0,none⟩)),(10,.int .u64 many),(13,.pointer (some ⟨gp,0,none⟩)),(14,.slice (some ⟨go,0,none⟩) many many),(65,.int .u64 np),(66,.int .u64 i)] w10 by
   generalize hx:li.getD u 0=x at *;have c0:w9.cell? ⟨gp,1,none⟩=some (.slice aP D.length cP):=Qah (hH2.at 3 rfl) (show (Qam none 0 0 aP D.length cP)[1]? = some _ from rfl);simp only [vcT3,Qbd,List.filterMap_cons,List.filterMap_nil,List.getElem?_cons_succ,List.getElem?_cons_zero,Option.map_some];refine Qs ?_;simp only [Qau];refine Qs ?_;refine And.intro ?_ ?_
   ·
    refine ⟨_,c0,?_⟩;(try simp only [Qau]);refine MemK_call Tryz.call65 ?_;refine Qs ?_;refine Yk hmd ?_;rintro v w10 ⟨hH3,rfl⟩;(try simp only [Qau]);refine Qbb hH3 (Qak [x]) (xs:=[.tmp 86]) Yg sz3 rfl rfl rfl (by omega) ?_;refine Qs ?_;refine ⟨rfl,by simp [Y9],fun g w4 hH4=>?_⟩;(try refine Qs ?_);(try simp only [Qau]);refine Qai ?_;refine Qs ?_;refine Qbn (zs:=#[.int .i64 0]) (bytes:=8) hH4 3 rfl Yg (by kernel_rfl) rfl ⟨rfl,Qaq (hH4.at 0 rfl),3,Yg⟩ (Qdc _) (fun h=>by omega) fun a' cap' w12 hc' hH5=>?_;simp only [Yc,Yb] at hH5;skip;(try simp only [Qau]);skip;refine Qaa ?_;refine Qs ?_;refine Qae hH5 4 (vs:=[.slice a' (D.length+1) cap']) rfl rfl (by kernel_rfl) (by simp [Qam]) (by simp [Yh]) fun w13 hH6=>?_;simp only [Yc,Yb] at hH6;skip;(try simp only [Qau]);skip;refine out a' cap' w13 ?_;rw [Qcy,Yn];exact hH6.sub (Xe _ _)
   refine MemK_call Tryz.call65 ?_;refine Qs ?_;refine Yk hmd ?_;rintro v w10 ⟨hH3,rfl⟩;have c1:w10.cell? ⟨gp,1,none⟩=some (.slice aP D.length cP):=Qah (hH3.at 3 rfl) (show (Qam none 0 0 aP D.length cP)[1]? = some _ from rfl);(try simp only [Qau]);refine Qs ?_;refine And.intro ?_ ?_
   ·
    refine ⟨_,c1,?_⟩;(try simp only [Qau]);refine Qbb hH3 (Qak [x]) (xs:=[.tmp 86]) Yg sz3 rfl rfl rfl (by omega) ?_;refine Qs ?_;refine ⟨rfl,by simp [Y9],fun g w4 hH4=>?_⟩;(try refine Qs ?_);(try simp only [Qau]);refine Qai ?_;refine Qs ?_;refine Qbn (zs:=#[.int .i64 0]) (bytes:=8) hH4 3 rfl Yg (by kernel_rfl) rfl ⟨rfl,Qaq (hH4.at 0 rfl),3,Yg⟩ (Qdc _) (fun h=>by omega) fun a' cap' w12 hc' hH5=>?_;simp only [Yc,Yb] at hH5;skip;(try simp only [Qau]);skip;refine Qaa ?_;refine Qs ?_;refine Qae hH5 4 (vs:=[.slice a' (D.length+1) cap']) rfl rfl (by kernel_rfl) (by simp [Qam]) (by simp [Yh]) fun w13 hH6=>?_;simp only [Yc,Yb] at hH6;skip;(try simp only [Qau]);skip;refine out a' cap' w13 ?_;rw [Qcy,Yn];exact hH6.sub (Xe _ _)
   refine Qbb hH3 (Qak [x]) (xs:=[.tmp 86]) Yg sz3 rfl rfl rfl (by omega) ?_;refine Qs ?_;refine ⟨rfl,by simp [Y9],fun g w4 hH4=>?_⟩;(try refine Qs ?_);have c2:w4.cell? ⟨gp,1,none⟩=some (.slice aP D.length cP):=Qah (hH4.at 4 rfl) (show (Qam none 0 0 aP D.length cP)[1]? = some _ from rfl);(try simp only [Qau]);refine Qs ?_;refine ⟨_,c2,?_⟩;(try simp only [Qau]);refine Qai ?_;refine Qs ?_;refine Qbn (zs:=#[.int .i64 0]) (bytes:=8) hH4 3 rfl Yg (by kernel_rfl) rfl ⟨rfl,Qaq (hH4.at 0 rfl),3,Yg⟩ (Qdc _) (fun h=>by omega) fun a' cap' w12 hc' hH5=>?_;simp only [Yc,Yb] at hH5;skip;(try simp only [Qau]);skip;refine Qaa ?_;refine Qs ?_;refine Qae hH5 4 (vs:=[.slice a' (D.length+1) cap']) rfl rfl (by kernel_rfl) (by simp [Qam]) (by simp [Yh]) fun w13 hH6=>?_;simp only [Yc,Yb] at hH6;skip;(try simp only [Qau]);skip;refine out a' cap' w13 ?_;rw [Qcy,Yn];exact hH6.sub (Xe _ _)
  intro a' c' w10 hH3;clear hH2 hmd;apply hK;clear hK;refine Qaj ?_;refine VS [0,2,6,9,10,13,14,65,66] ?_;refine Qab ?_;refine Qs ?_;rw [show (((i:Int)+1) % 18446744073709551616)=((i+1:Nat):Int) by omega];refine ⟨np - (i+1),by omega,i+1,at2+u+1,c',a',Qek li u,D++[li.getD u 0],rfl,hH3,by omega,by simp [hDl],by omega,?_,by omega,rfl⟩;rw [<- hrp,show np - (i+1)=k by omega];cases ptGo (Qap s) many (Qek li u) k (at2+u+1) with
  | error e=>rfl
  | ok y=>simp
 have hi2:i=np:=by omega
 rw [hi2,Us,ptGo] at hrp;rw [hi2] at hDl;simp only [Yl] at hrp;clear h hi hi2;subst hrp;obtain ⟨hp1,hp2,hp3⟩:=hpok _ rfl;simp only at hres;clear hpok hperr hlil;refine Qag rfl ?_;refine VQ [0,1,2,6,10,13] fun K hK=>?_;refine MemK_call Gl ?_;refine Qs ?_;refine Yk (Qpr gd gs at2 s w7 (hH.at 1 rfl)) ?_;rintro v w8 ⟨rfl,rfl⟩;apply hK;clear hK;refine VS [0,1,2,6,13,93,94] ?_;have htok:=fun q=>QAd (bits:=Qap s) (n:=n) many at2 q (by omega);have hterr:=fun e=>Quh (bits:=Qap s) (n:=n) many at2 e;generalize htt:ttGo (Qap s) n many at2=rt at *;refine Qac ?_;refine Qad [0,1,2,6,13,93,94] (fun m e w'=>∃ (t at3 cT:Nat) (aT:Option Addr) (us:List (Option Addr×Nat)) (T:List (List Nat)),Is e [(0,Str s),(1,.int .i64 at3),(2,.int .i64 n),(6,.pointer (some ⟨gr,0,none⟩)),(13,.pointer (some ⟨gp,0,none⟩)),(93,.int .u64 many),(94,.int .u64 t)]/\Heap w [] w' (Yt 51 1 aT t cT (Qbq us T)::Yt 3 1 aP np cP (Qak D)::Ym gp 70 (Qam aT t cT aP np cP)::Ym gr 70 (Qam none 0 0 none 0 0)::Qp3 us T)/\us.length=t/\T.length=t/\at3<=8 * s.length/\(match ttGo (Qap s) n (many - t) at3 with | .error e=>.error e | .ok q=>.ok (T++q.1,q.2))=rt/\t<=many/\m=many - t) many ?_ ?_
 ·
  refine Qs ?_;refine ⟨0,at2,0,none,[],[],rfl,?_,rfl,rfl,hat,?_,by omega,rfl⟩
  ·
   have h7:=(hH.sub (.cons _ (.cons _ (.refl _)))).nilRow 51 1;rw [hDl] at h7;exact h7
  rw [Nat.sub_zero,htt];cases rt <;> rfl
 clear hH htt;rintro m e w9 ⟨t,at3,cT,aT,us,T,rfl,hH,hus,hTl,hat3,hrt,ht,rfl⟩;refine VS [0,1,2,6,13,93,94,95] ?_;(repeat refine Qax ?_);refine VD (fun h=>?_) (fun h=>?_)
 ·
  obtain ⟨k,hk⟩:∃ k,many - t=k+1:=⟨many - t - 1,by omega⟩;rw [hk,ttGo] at hrt;have hdt:=Qre s at3 n hat3 hs (by omega) w9;have hdok:=fun q=>Qnu (bits:=Qap s) (at_:=at3) (n:=n) (q:=q);have hderr:=fun e=>Ql6 (bits:=Qap s) (at_:=at3) (n:=n) (e:=e);generalize Qdb (Qap s) at3 n=rd1 at *;refine VC_skip ?_;refine VB ?_;refine VQ [0,2,6,13,17,18,19,93,94] fun K hK=>?_;refine MemK_call Tryz.call120 ?_;refine Qs ?_;refine Yk hdt ?_;intro v w10 hEx;cases rd1 with
  | error e =>
   obtain ⟨hHe,rfl⟩:=hEx;have hne:=hderr e rfl;subst hrt;subst hres;have hH2:=hH.call0 hHe;simp only [Yf] at hH2;apply hK;clear hK;refine VS [0,2,6,13,17,18,19,93,94,105] ?_;(repeat refine Qax ?_);refine Qdl [0,2,6,13,19,93,94] (fun e' w'=>Is e' [(0,Str s),(2,.int .i64 n),(6,.pointer (some ⟨gr,0,none⟩)),(13,.pointer (some ⟨gp,0,none⟩)),(19,.int .i64 e),(93,.int .u64 many),(94,.int .u64 t)]/\Is w' w10) ?_ ?_
   ·
    refine Qaf rfl rfl (fun h=>by simp at h;exact absurd h hne) (fun h=>?_);refine VC_skip ?_;refine Qab ?_;refine Qs ?_;exact ⟨rfl,rfl⟩
   rintro e' w' ⟨rfl,rfl⟩;refine VS [0,2,6,13,19,93,94,109] ?_;refine Qaf rfl rfl (fun h=>?_) (fun h=>by simp at h;exact absurd h hne);refine VQ [6,7,8] fun K hK=>?_
   (refine Qaa ?_;refine Qs ?_)
   refine Qae hH2 3 (vs:=Qam none 0 0 none 0 0) rfl rfl (by kernel_rfl) (by simp [Qam]) (Qb0 _ _ _ _ _ _) fun w5 hH5=>?_;simp only [Yb,Yc] at hH5;apply hK;clear hK;refine VC_ret (Qhu rfl rfl rfl rfl (Qbw (hH5.at 3 rfl) (by kernel_rfl) (by kernel_rfl) rfl ?_));exact ⟨hH5.sub (by simp),rfl⟩
  | ok q =>
   obtain ⟨aq,cq,hHq,rfl⟩:=hEx;obtain ⟨q1,q2⟩:=hdok q rfl;simp only at hrt;have hH2:=hH.call0 hHq;simp only [Y3] at hH2;clear hH hHq;have hck:=Qiw q.1 aq cq w10 (Qaq (hH2.at 0 rfl));apply hK;clear hK;refine VS [0,2,6,13,17,18,19,93,94,105] ?_;(repeat refine Qax ?_);refine Qdl [0,2,6,13,17,18,19,93,94] (fun e' w'=>Is e' [(0,Str s),(2,.int .i64 n),(6,.pointer (some ⟨gr,0,none⟩)),(13,.pointer (some ⟨gp,0,none⟩)),(17,.slice aq q.1.length cq),(18,.int .i64 q.2),(19,.int .i64 (if okLB q.1=true then 0 else 80)),(93,.int .u64 many),(94,.int .u64 t)]/\Is w' w10) ?_ ?_
   ·
    refine Qaf rfl rfl (fun h=>?_) (fun h=>by simp at h);refine VQ [0,2,6,13,17,18,19,93,94] fun K hK=>?_;refine MemK_call Tryz.call102 ?_;refine Qs ?_;refine Yk hck ?_;rintro v w11 ⟨rfl,rfl⟩;apply hK;clear hK;refine Qab ?_;refine Qs ?_;exact ⟨rfl,rfl⟩
   rintro e' w' ⟨rfl,rfl⟩;refine VS [0,2,6,13,17,18,19,93,94,109] ?_;by_cases hokb:okLB q.1=true
   ·
    rw [if_pos hokb];rw [if_neg (by simp [hokb])] at hrt;refine Qaf rfl rfl (fun h=>by simp at h) (fun h=>VC_skip ?_);clear h;have hrR:Qp3 (us++[(aq,cq)]) (T++[q.1])=Qp3 us T++[Yt 3 1 aq q.1.length cq (Qak q.1)]:=(Qst (by omega) _ _ _).symm;have hsS:Qbq (us++[(aq,cq)]) (T++[q.1])=Qbq us T++Qbq [(aq,cq)] [q.1]:=by rw [<- Qhz (by omega)];rfl
    refine VQ [0,2,6,13,18,93,94] fun K hK=>?_;refine ⟨_,Qah (hH2.at 3 rfl) (show (Qam aT t cT aP np cP)[0]? = some _ from rfl),?_⟩;refine Qbb hH2 (Qbq [(aq,cq)] [q.1]) (xs:=[.tmp 114]) X4 sz51 rfl rfl rfl (by omega) ?_;refine Qs ?_;refine ⟨rfl,by simp [Y9],fun gl w12 hH3=>?_⟩;refine Qai ?_;refine Qs ?_;refine Qbn (zs:=#[.slice none 0 0]) (bytes:=24) hH3 2 rfl X4 (by kernel_rfl) rfl ⟨rfl,Qaq (hH3.at 0 rfl),51,X4⟩ (Qz9 _ _) (fun h=>by omega) fun a' cap' w13 hc' hH4=>?_;simp only [Yc,Yb] at hH4;rw [<- hsS] at hH4;refine Qaa ?_;refine Qs ?_;refine Qae hH4 4 (vs:=[.slice a' (t+1) cap']) rfl rfl (by kernel_rfl) (by simp [Qam]) (by simp [Yh]) fun w14 hH5=>?_;simp only [Yc,Yb] at hH5;have hH6:=(hH5.sub (Xe _ _)).perm (List.perm_append_singleton _ _).symm;simp only [Y5] at hH6;rw [<- hrR] at hH6;clear hH2 hH3 hH4 hH5;apply hK;clear hK;refine VS [0,1,2,6,13,93,94] ?_;refine Qaj ?_;refine VS [0,1,2,6,13,93,94] ?_;refine Qab ?_;refine Qs ?_;rw [show (((t:Int)+1) % 18446744073709551616)=((t+1:Nat):Int) by omega];refine ⟨many - (t+1),by omega,t+1,q.2,cap',a',us++[(aq,cq)],T++[q.1],rfl,hH6,by simp [hus],by simp [hTl],by omega,?_,by omega,rfl⟩;rw [<- hrt,show many - (t+1)=k by omega];cases ttGo (Qap s) n k q.2 with
    | error e=>rfl
    | ok y=>simp
   have hokf:okLB q.1=false:=by simpa using hokb
   rw [if_neg hokb];rw [if_pos hokf] at hrt;subst hrt;subst hres;refine Qaf rfl rfl (fun h=>?_) (fun h=>by simp at h);refine VQ [6,7,8] fun K hK=>?_
   (refine Qaa ?_;refine Qs ?_)
   refine Qae hH2 4 (vs:=Qam none 0 0 none 0 0) rfl rfl (by kernel_rfl) (by simp [Qam]) (Qb0 _ _ _ _ _ _) fun w5 hH5=>?_;simp only [Yb,Yc] at hH5;apply hK;clear hK;refine VC_ret (Qhu rfl rfl rfl rfl (Qbw (hH5.at 4 rfl) (by kernel_rfl) (by kernel_rfl) rfl ?_));exact ⟨hH5.sub (by simp),rfl⟩
 have ht2:t=many:=by omega
 rw [ht2,Us,ttGo] at hrt;simp only [Yl] at hrt;subst hrt;subst hres;rw [ht2] at hH hus hTl;clear h ht ht2;refine Qag rfl ?_;refine VQ [6,7,8] fun K hK=>?_;refine ⟨Qam aT many cT aP np cP,⟨rfl,Qay (hH.at 2 rfl)⟩,?_⟩
 (refine Qaa ?_;refine Qs ?_)
 refine Qae hH 3 (vs:=Qam aT many cT aP np cP) rfl rfl (by kernel_rfl) (by simp [Qam]) (Qb0 _ _ _ _ _ _) fun w10 hH6=>?_;simp only [Yb,Yc] at hH6;apply hK;clear hK;refine VC_ret (Qhu rfl rfl rfl rfl (Qbw (hH6.at 3 rfl) (by kernel_rfl) (by kernel_rfl) rfl ?_));refine ⟨_,hH6.sub (by simp),Qjz rfl hTl hDl hus (Qaq (hH6.at 0 rfl)) (Qaq (hH6.at 1 rfl)) (fun i h t h6 h7=>?_),rfl⟩;exact Qaq (hH6.at (i+4) (show _=some (Yt 3 1 h.1 t.length h.2 (Qak t)) from Qxb h6 h7))
set_option maxHeartbeats 4000000
theorem Qp4 (v:Value) (T:List (List Nat)) (P:List Nat) (hm:mayP T P) (w:World) (hp:PlanAt w v T P):Does Yi 80 #[v] w fun x w'=>Heap w [] w' []/\x=.bool true:=by
 obtain ⟨ta,tc,pa,pc,hs,rfl,hsl,hrT,hrP,hrt⟩:=hp;obtain ⟨m1,m2,m3,m4,m5,m6⟩:=hm;obtain ⟨qt,rfl⟩:=Qbj hrT (by omega);obtain ⟨qp,rfl⟩:=Qbj hrP (by omega);have hen:#[Ug #[.slice (some qt) T.length tc,.slice (some qp) P.length pc]]=[Ug (Qam (some qt) T.length tc (some qp) P.length pc).toArray].toArray:=rfl;rw [hen];refine Qdx 83 Tryz.func80 rfl rfl (of_decide_eq_true rfl) ?_;simp only [Env.ofArgs];generalize hnt:T.length=nt at *;generalize hnp:P.length=np at *;refine VQ [1] fun K hK=>?_;refine Qch ?_;refine Qs ?_;have hH:=(Yx w).box 70 (Qam (some qt) nt tc (some qp) np pc);generalize w.alloc (Yv (Qam (some qt) nt tc (some qp) np pc).toArray 70)=w1 at *;generalize w.heap.size=gp at *;have c0:w1.cell? ⟨gp,0,none⟩=some (.slice (some qt) nt tc):=Qah (hH.at 0 rfl) rfl;have c1:w1.cell? ⟨gp,1,none⟩=some (.slice (some qp) np pc):=Qah (hH.at 0 rfl) rfl;apply hK;clear hK;refine VQ [1,27] fun K hK=>?_
 suffices out:∀ b:Bool,(b=true ↔ False)->K [(1,.pointer (some ⟨gp,0,none⟩)),(27,.bool b)] w1 by
  refine ⟨_,c0,?_⟩;(try refine Qs ?_);refine ⟨fun _=>⟨_,c0,?_⟩,fun h2=>absurd h2 (by omega)⟩;(try refine Qs ?_);refine ⟨fun _=>⟨_,c1,?_⟩,fun h2=>absurd h2 (by omega)⟩;(try refine Qs ?_);refine ⟨fun _=>⟨_,c1,?_⟩,fun h2=>absurd h2 (by omega)⟩;(try refine Qs ?_);exact out _ (by simp;omega)
 intro b hb;apply hK;clear hK;refine Qaf rfl rfl (fun h=>(hb.1 h).elim) (fun h=>VC_skip ?_);clear hb h;have hT0:T[0]? = some (T.getD 0 []):=by rw [Ye,Yd (by omega)];rfl
 obtain ⟨h0,hh0⟩:∃ h0,hs[0]? = some h0:=⟨_,Yd (by omega)⟩;have hc0:=(hH.rs' hrT).2.2 qt rfl 0 _ (Qca hh0 hT0);have hn3:3<=(T.getD 0 []).length:=(m5 _ (Xs hT0)).2.1;generalize T.getD 0 []=t0 at *;refine VQ [1,3] fun K hK=>?_;refine ⟨_,c0,?_⟩;(try refine Qs ?_);refine ⟨by omega,_,hc0,?_⟩;(try refine Qs ?_);apply hK;clear hK;refine VS [1,3,4] ?_;refine Qac ?_;refine Qad [1,3,4] (fun m e w'=>∃ (i:Nat),Is e [(1,.pointer (some ⟨gp,0,none⟩)),(3,.int .i64 t0.length),(4,.int .i64 i)]/\Is w' w1/\i<=nt/\m=nt - i) nt ?_ ?_
 ·
  refine Qs ?_;exact ⟨0,rfl,rfl,by omega,rfl⟩
 rintro m e w2 ⟨i,rfl,rfl,hi,rfl⟩;refine VQ [1,3,4,37] fun K hK=>?_;refine ⟨_,c0,?_⟩;(try refine Qs ?_);(repeat refine Qo ?_);apply hK;clear hK;refine VD (fun h=>?_) (fun h=>?_)
 ·
  have hTi:T[i]? = some (T.getD i []):=by rw [Ye,Yd (by omega)];rfl
  obtain ⟨hh,hhi⟩:∃ hh,hs[i]? = some hh:=⟨_,Yd (by omega)⟩;have hci:=(hH.rs' hrT).2.2 qt rfl i _ (Qca hhi hTi);have hrt2:=hH.rs' (hrt i hh _ hhi hTi);obtain ⟨e1,e2,e3⟩:=m5 _ (Xs hTi);have hck:=Qzx (T.getD i []) (by have:=e3.2.1;omega) (fun x hx=>by have:=e3.2.2.1 x hx;omega) hh.1 hh.2 w2 hrt2;rw [if_pos (Ql2.2 e3)] at hck;generalize T.getD i []=t at *;refine VC_skip ?_;refine VB ?_;refine VQ [1,3,4,56] fun K hK=>?_;refine ⟨_,c0,?_⟩;(try refine Qs ?_);refine ⟨⟨by omega,by omega⟩,_,hci,?_⟩;(try refine Qs ?_);refine ⟨fun _=>⟨_,c0,?_⟩,fun h2=>by omega⟩;(try refine Qs ?_);refine ⟨⟨by omega,by omega⟩,_,hci,?_⟩;(try refine Qs ?_);refine MemK_call Tryz.call113 ?_;refine Qs ?_;refine Yk hck ?_;rintro v w3 ⟨rfl,rfl⟩;(try refine Qs ?_);apply hK;clear hK;refine Qaf rfl rfl (fun h=>by simp at h) (fun h=>VC_skip ?_);refine Qaj ?_;refine VS [1,3,4] ?_;refine Qab ?_;refine Qs ?_;exact ⟨nt - (i+1),by omega,i+1,rfl,rfl,by omega,rfl⟩
 refine Qag rfl ?_;refine VS [1,3,5] ?_;refine Qac ?_;refine Qad [1,3,5] (fun m e w'=>∃ (i:Nat),Is e [(1,.pointer (some ⟨gp,0,none⟩)),(3,.int .i64 t0.length),(5,.int .i64 i)]/\Is w' w2/\i<=np/\m=np - i) np ?_ ?_
 ·
  refine Qs ?_;exact ⟨0,rfl,rfl,by omega,rfl⟩
 clear h;rintro m e w3 ⟨j,rfl,rfl,hj,rfl⟩;refine VQ [1,3,5,61] fun K hK=>?_;refine ⟨_,c1,?_⟩;(try refine Qs ?_);(repeat refine Qo ?_);apply hK;clear hK;refine VD (fun h=>?_) (fun h=>?_)
 ·
  have hcell:=Qbr (hH.rs' hrP) (i:=j) (by omega);have hlt:=m6 _ (Qa3 0 (l:=P) (i:=j) (by omega));generalize P.getD j 0=x at *;refine VC_skip ?_;refine VB ?_;refine Vq [1,3,5,80] fun K hK=>?_;refine ⟨_,c1,?_⟩;(try refine Qs ?_);refine ⟨⟨by omega,by omega⟩,_,hcell,?_⟩;(try refine Qs ?_);refine ⟨fun _=>⟨_,c1,?_⟩,fun h2=>absurd h2 (by omega)⟩;(try refine Qs ?_);refine ⟨⟨by omega,by omega⟩,_,hcell,_,c0,?_⟩;(try refine Qs ?_);rw [decide_eq_false (show ¬ ((nt:Int)<=x) by omega)];apply hK;clear hK;refine Qaf rfl rfl (fun h=>by simp at h) (fun h=>VC_skip ?_);refine Qaj ?_;refine VS [1,3,5] ?_;refine Qab ?_;refine Qs ?_;exact ⟨np - (j+1),by omega,j+1,rfl,rfl,by omega,rfl⟩
 refine Qag rfl ?_;refine VS [2] ?_;exact VC_ret (VX_ret1 rfl rfl ⟨hH.sub (by simp),by rw [decide_eq_true (by omega)]⟩)
set_option maxHeartbeats 4000000
def sh1 (r:Nat):Nat:=if 2147483648<=r then (r * 2 % 4294967296) ^^^ 79764919 else r * 2 % 4294967296
def shK:Nat->Nat->Nat
 | 0,r=>r
 | k+1,r=>sh1 (shK k r)
def tab (i:Nat):Nat:=shK 8 (i * 16777216)
def Qle (r:Nat) (b:UInt8):Nat:=(r * 256 % 4294967296) ^^^ tab (r / 16777216 ^^^ b.toNat)
def Qeu (r:Nat) (s:List UInt8):Nat:=s.foldl Qle r
def Qa9 (s:List UInt8):Nat:=4294967295 - Qeu 4294967295 s
def Qb6 (l:List Nat):Nat:=l.foldl (fun c x=>((c * 2 % 4294967296) ||| c / 2147483648) ^^^ x) 0
def u32V (l:List Nat):List Value:=l.map fun (n:Nat)=>Y1 .u32 (n:Int)
theorem Ql8 (l:List Nat):(u32V l).length=l.length:=by simp [u32V]
theorem Quk {l:List Nat}{i:Nat} (h:i < l.length):(u32V l)[i]? = some (.int .u32 ((l.getD i 0:Nat):Int)):=by
 simp [u32V,Yd h,Ye]
theorem QLp {r:Nat} (h:r < 4294967296):sh1 r < 4294967296:=by
 unfold sh1;split
 ·
  exact Y8 (n:=32) (X8 _ (by decide)) (by decide)
 exact X8 _ (by decide)
theorem Qxf {r:Nat} (h:r < 4294967296):∀ k,shK k r < 4294967296
 | 0=>h
 | k+1=>QLp (Qxf h k)
theorem QLq (i:Nat) (h:i < 256):tab i < 4294967296:=by
 unfold tab;exact Qxf (by omega) 8
theorem Qsv {r:Nat} (h:r < 4294967296) (b:UInt8):Qle r b < 4294967296:=by
 unfold Qle;refine Y8 (n:=32) (X8 _ (by decide)) (QLq _ ?_);have:=b.toNat_lt;exact Y8 (n:=8) (by omega) (by omega)
theorem Qg3 (s:List UInt8):∀ {r:Nat},r < 4294967296->Qeu r s < 4294967296:=by
 induction s with
 | nil=>intro r h;exact h
 | cons b s ih=>intro r h;exact ih (Qsv h b)
theorem Qxg (r:Nat) (s:List UInt8) (b:UInt8):Qeu r (s++[b])=Qle (Qeu r s) b:=by simp [Qeu]
def tabs:List Nat:=(Yq 256).map tab
theorem Qos:tabs.length=256:=by
 unfold tabs;rw [U2,Xf]
theorem QKo {i:Nat} (h:i < 256):tabs.getD i 0=tab i:=by
 unfold tabs;rw [Ye,Xg,Ud h,Option.map_some,Xo]
theorem QO7 {r:Nat} (h:r < 4294967296):r &&& 2147483648=if 2147483648<=r then 2147483648 else 0:=by
 rw [show (2147483648:Nat)=2 ^ 31 from rfl];apply Ub;intro j;rw [Nat.testBit_and,Xu];by_cases hj:31=j
 ·
  subst hj;rw [Xm];by_cases h1:2 ^ 31<=r
  ·
   have:r / 2 ^ 31 % 2=1:=by omega
   rw [if_pos h1,this,Xu];rfl
  have:r / 2 ^ 31 % 2=0:=by omega
  rw [if_neg h1,this];simp
 simp only [hj,decide_false,Bool.and_false];split
 ·
  rw [Xu];simp [hj]
 simp
theorem QEc (w:World):Does Yi 69 #[] w fun v w'=>Heap w [] w' []/\v=.agg (u32V tabs).toArray:=by
 refine En [] 26 Tryz.func69 ?_;refine VQ [0] fun K hK=>?_;refine Qao (.agg (u32V (Ya 256 0)).toArray) (by kernel_rfl) ?_;have hH:=(Yx w).box 108 (u32V (Ya 256 0));have ecells:(Ug (u32V (Ya 256 0)).toArray).cells=(u32V (Ya 256 0)).toArray:=rfl;rw [ecells];generalize w.alloc (Yv (u32V (Ya 256 0)).toArray 108)=w1 at *;generalize w.heap.size=g0 at *;refine Qs ?_;apply hK;clear hK;refine VQ [0,1] fun K hK=>?_;refine Qao (.agg (u32V (Ya 256 0)).toArray) (by kernel_rfl) ?_;have hH2:=hH.box 108 (u32V (Ya 256 0));rw [ecells];generalize w1.alloc (Yv (u32V (Ya 256 0)).toArray 108)=w2 at *;generalize w1.heap.size=g1 at *;refine Qs ?_;apply hK;clear hK;clear ecells hH;refine VS [0,1,4] ?_;refine VB ?_;refine Qad [0,1,4] (fun m e w'=>∃ (i:Nat),Is e [(0,.pointer (some ⟨g0,0,none⟩)),(1,.pointer (some ⟨g1,0,none⟩)),(4,.int .i64 i)]/\Heap w [] w' [Ym g1 108 (u32V ((Yq i).map tab++Ya (256 - i) 0)),Ym g0 108 (u32V (Ya 256 0))]/\i<=256/\m=256 - i) 256 ?_ ?_
 ·
  refine Qs ?_;exact ⟨0,rfl,hH2,by omega,rfl⟩
 clear hH2;rintro m e w' ⟨i,rfl,hH,hi,rfl⟩;refine VS [0,1,4,5] ?_;(repeat refine Qax ?_);refine VD (fun h=>?_) (fun h=>?_)
 ·
  refine VC_skip ?_;refine VB ?_;refine VS [0,1,2,4] ?_
  have e24:(i:Int) % 4294967296 * 2 ^ shN Xa 24 % 4294967296=((shK 0 (i * 16777216):Nat):Int):=by
   rw [show shN Xa 24=24 from rfl,shK];omega
  refine VQ [0,1,2,3,4] fun K hK=>?_;rw [e24];(repeat refine Qo ?_);apply hK;clear hK;refine VS [0,1,2,3,4,10] ?_;refine VB ?_;refine Qad [0,1,2,3,4,10] (fun m e w2=>∃ (k:Nat),Is e [(0,.pointer (some ⟨g0,0,none⟩)),(1,.pointer (some ⟨g1,0,none⟩)),(2,.int .i64 i),(3,.int .u32 (shK k (i * 16777216):Nat)),(4,.int .i64 i),(10,.int .i64 k)]/\Is w2 w'/\k<=8/\m=8 - k) 8 ?_ ?_
  ·
   refine Qs ?_;exact ⟨0,rfl,rfl,by omega,rfl⟩
  rintro m e w2 ⟨k,rfl,rfl,hk,rfl⟩;refine VS [0,1,2,3,4,10,11] ?_;(repeat refine Qax ?_);refine VD (fun h=>?_) (fun h=>?_)
  ·
   refine VC_skip ?_;refine VB ?_;have hr:=Qxf (r:=i * 16777216) (by omega) k;have hsh:shK (k+1) (i * 16777216)=sh1 (shK k (i * 16777216)):=rfl;generalize shK k (i * 16777216)=r at *;have hand:=QO7 hr;refine VQ [0,1,2,3,4,10,14] fun K hK=>?_;refine ⟨⟨by omega,by omega⟩,⟨by omega,by omega⟩,?_⟩;rw [show Uh 2147483648=2147483648 from rfl,hand];apply hK;clear hK
   have fin:∀ q:Nat,q=sh1 r->selK [0,1,2,3,4,10] [(0,.pointer (some ⟨g0,0,none⟩)),(1,.pointer (some ⟨g1,0,none⟩)),(2,.int .i64 i),(3,.int .u32 q),(4,.int .i64 i),(10,.int .i64 (k+1))] fun e=>∃ m,m < 8 - k/\∃ (k:Nat),Is e [(0,.pointer (some ⟨g0,0,none⟩)),(1,.pointer (some ⟨g1,0,none⟩)),(2,.int .i64 i),(3,.int .u32 (shK k (i * 16777216):Nat)),(4,.int .i64 i),(10,.int .i64 k)]/\Is w2 w2/\k<=8/\m=8 - k:=by
    intro q hq;refine Qs ?_;exact ⟨8 - (k+1),by omega,k+1,by rw [hsh,hq];rfl,rfl,by omega,rfl⟩
   by_cases hbig:2147483648<=r
   ·
    refine Qaf rfl rfl (fun h=>?_) (fun h=>by simp [hbig] at h);refine VQ [0,1,2,3,4,10] fun K hK=>?_
    have e1:(r:Int) * 2 ^ shN Xa 1 % 4294967296=((r * 2 % 4294967296:Nat):Int):=by
     rw [show shN Xa 1=1 from rfl];omega
    rw [e1];refine ⟨by omega,⟨by omega,by omega⟩,⟨by omega,by omega⟩,?_⟩;apply hK;clear hK;refine Qaj ?_;refine VS [0,1,2,3,4,10] ?_;refine Qab ?_;refine fin _ ?_;rw [sh1,if_pos hbig];rfl
   refine Qaf rfl rfl (fun h=>by simp [hbig] at h) (fun h=>?_);refine VQ [0,1,2,3,4,10] fun K hK=>?_
   have e1:(r:Int) * 2 ^ shN Xa 1 % 4294967296=((r * 2 % 4294967296:Nat):Int):=by
    rw [show shN Xa 1=1 from rfl];omega
   rw [e1];(repeat refine Qo ?_);apply hK;clear hK;refine Qaj ?_;refine VS [0,1,2,3,4,10] ?_;refine Qab ?_;refine fin _ ?_;rw [sh1,if_neg hbig]
  refine Qag rfl ?_;have hk8:k=8:=by omega
  subst hk8;refine VQ [0,1,4] fun K hK=>?_;(repeat first | refine Qo ?_ | refine Qp ?_);refine Qaa ?_;refine Qs ?_;refine Qae hH 0 (vs:=[.int .u32 (tab i:Nat)]) rfl rfl (by kernel_rfl) (by rw [Ql8];simp;omega) (by simp [Yh]) fun w6 hH2=>?_
  have hset:(u32V ((Yq i).map tab++Ya (256 - i) 0)).take i++[Y1 .u32 (tab i:Nat)]++(u32V ((Yq i).map tab++Ya (256 - i) 0)).drop (i+1)=u32V ((Yq (i+1)).map tab++Ya (256 - (i+1)) 0):=by
   rw [Qcb _ _ _ (by rw [Ql8];simp;omega)];rw [Xx,List.map_append,show 256 - i=(256 - (i+1))+1 by omega,Xv];simp [u32V,U3]
  simp only [Yz] at hH2;rw [hset] at hH2;apply hK;clear hK;refine Qaj ?_;refine VS [0,1,4] ?_;refine Qab ?_;refine Qs ?_;exact ⟨256 - (i+1),by omega,i+1,rfl,hH2,by omega,rfl⟩
 refine Qag rfl ?_;have hi:i=256:=by omega
 subst hi;have e:(Yq 256).map tab++Ya (256 - 256) 0=tabs:=by simp [tabs]
 rw [e] at hH;refine VQ [0] fun K hK=>?_;refine ⟨u32V tabs,⟨by rw [Ql8,Qos],Qay (hH.at 0 rfl)⟩,?_⟩;refine Qaa ?_;refine Qs ?_;have hlen:(u32V tabs).length=256:=by rw [Ql8,Qos]
 have hlen0:(u32V (Ya 256 0)).length=256:=by simp [u32V]
 refine Qae hH 1 (vs:=u32V tabs) rfl rfl (by rw [hlen];kernel_rfl) (by rw [hlen,hlen0];omega) (by intro u hu;obtain ⟨n,_,rfl⟩:=Ut.1 hu;rfl) fun w6 hH2=>?_
 have e2:(u32V (Ya 256 0)).take 0++u32V tabs++(u32V (Ya 256 0)).drop (0+(u32V tabs).length)=u32V tabs:=by
  rw [Y6,Yf,Yy (by rw [hlen,hlen0];omega),Yl]
 rw [e2] at hH2;apply hK;clear hK;refine VC_ret (Qtl rfl rfl (Qbw (hH2.at 1 rfl) (by kernel_rfl) (by kernel_rfl) hlen ?_));exact ⟨hH2.sub (by simp),rfl⟩
def Qc9:List Bool->List Bool->List Bool
 | [],d=>d
 | _::_,[]=>[]
 | x::xs,y::d=>(x ^^ y)::Qc9 xs d
def polyB:List Bool:=Qas 32 79764919
def divS:Nat->List Bool->List Bool
 | 0,d=>d
 | _+1,[]=>[]
 | n+1,b::d=>divS n (if b then Qc9 polyB d else d)
theorem QKp (n:Nat):divS n []=[]:=by cases n <;> rfl
theorem Qul (m n:Nat):∀ d,divS (m+n) d=divS n (divS m d):=by
 induction m with
 | zero=>intro d;rw [Nat.zero_add];rfl
 | succ m ih =>
  intro d;rw [show m+1+n=(m+n)+1 by omega];cases d with
  | nil=>rw [divS,divS,QKp]
  | cons b d=>rw [divS,divS,ih]
theorem Ql9:∀ (x d:List Bool),(Qc9 x d).length=d.length
 | [],d=>by simp [Qc9]
 | _::_,[]=>by simp [Qc9]
 | x::xs,y::d=>by simp [Qc9,Ql9 xs d]
theorem Qp5:∀ (n:Nat) (x d:List Bool),Qc9 (x++Ya n false) d=Qc9 x d
 | n,[],d=>by
  induction n generalizing d with
  | zero=>rfl
  | succ n ih=>cases d with
   | nil=>rfl
   | cons y d =>
    show ((false ^^ y)::Qc9 (Ya n false) d)=y::d
    have:=ih d;rw [Yf] at this;rw [this,Bool.false_xor];rfl
 | n,x::xs,[]=>rfl
 | n,x::xs,y::d=>by rw [Y5,Qc9,Qc9,Qp5 n xs d]
theorem Qp6:∀ (x y d:List Bool),x.length=y.length->Qc9 x (Qc9 y d)=Qc9 (List.zipWith (fun a b=>a ^^ b) x y) d
 | [],[],d,_=>rfl
 | [],_::_,_,h=>by simp at h
 | _::_,[],_,h=>by simp at h
 | a::x,b::y,[],_=>rfl
 | a::x,b::y,c::d,h=>by
  simp only [Qc9,Uu];rw [Qp6 x y d (by simpa using h),Bool.xor_assoc]
theorem QG0 (n a b:Nat):Qas n (a ^^^ b)=List.zipWith (fun a b=>a ^^ b) (Qas n a) (Qas n b):=by
 induction n with
 | zero=>rfl
 | succ n ih=>simp only [Qas,Uu];rw [ih,Xy]
theorem QAe (n v:Nat):Qas (n+1) (2 * v)=Qas n v++[false]:=by
 rw [Qjp n 1,show 2 * v / 2 ^ 1=v by omega]
 congr 1
 simp [Qas]
def QAf (r:Nat) (c:Bool):Nat:=sh1 (r ^^^ (if c then 2147483648 else 0))
theorem QG1 {r:Nat} (h:r < 4294967296):(2147483648<=r) ↔ r.testBit 31=true:=by
 rw [Xm,decide_eq_true_eq];have:(2:Nat) ^ 31=2147483648:=by decide
 rw [this];omega
theorem div_one {r:Nat} (h:r < 4294967296) (c:Bool) (T:List Bool):divS 1 (Qc9 (Qas 32 r) (c::T))=Qc9 (Qas 32 (QAf r c)) T:=by
 have hx:r ^^^ (if c then 2147483648 else 0) < 4294967296:=Y8 (n:=32) h (by split <;> decide)
 have ht:(r ^^^ (if c then 2147483648 else 0)).testBit 31=(r.testBit 31 ^^ c):=by
  rw [Xy];cases c <;> rfl
 have hl:(r ^^^ (if c then 2147483648 else 0)) * 2 % 4294967296=2 * (r % 2147483648):=by
  have e:(r ^^^ (if c then 2147483648 else 0)) % 2147483648=r % 2147483648:=by
   have:=Ga (a:=r) (b:=if c then 2147483648 else 0) (n:=31);rw [show (2:Nat) ^ 31=2147483648 by decide] at this;rw [this];cases c <;> simp
  omega
 have hb:Qas 32 (2 * (r % 2147483648))=Qas 31 r++[false]:=by
  rw [QAe 31,show (2147483648:Nat)=2 ^ 31 by decide,Qlu 31 r 31 (Xb _)]
 have h0:Qc9 (Qas 31 r++[false]) T=Qc9 (Qas 31 r) T:=Qp5 1 _ _;rw [show Qas 32 r=r.testBit 31::Qas 31 r from rfl,Qc9,divS,divS,QAf,sh1];have htt:=QG1 hx;rw [ht] at htt;rw [hl];cases hq:(r.testBit 31 ^^ c) with
 | true =>
  rw [hq] at htt;rw [if_pos (htt.2 rfl),if_pos rfl,QG0,hb]
  show Qc9 (Qas 32 79764919) _=_
  rw [<- h0,Qp6 _ _ _ (by simp [Qan])]
  congr 1
  rw [List.zipWith_comm]
  congr 1
  funext a b;exact Bool.xor_comm _ _
 | false =>
  rw [hq] at htt;have hn:¬ (2147483648<=r ^^^ (if c then 2147483648 else 0)):=fun h=>by have:=htt.1 h;cases this
  rw [if_neg hn,if_neg (by simp),hb,h0]
theorem QB0 {r:Nat} (h:r < 4294967296) (c:Bool):QAf r c < 4294967296:=QLp (Y8 (n:=32) h (by split <;> decide))
theorem QB1:∀ (l:List Bool) {r:Nat} (h:r < 4294967296) (T:List Bool),divS l.length (Qc9 (Qas 32 r) (l++T))=Qc9 (Qas 32 (l.foldl QAf r)) T
 | [],r,h,T=>rfl
 | c::l,r,h,T=>by
  rw [Ys,Nat.add_comm,Qul,Y5,div_one h,List.foldl_cons,QB1 l (QB0 h c) T]
theorem QG2 {r:Nat} (h:r < 4294967296):sh1 r=(r * 2 % 4294967296) ^^^ (if r.testBit 31 then 79764919 else 0):=by
 unfold sh1;have:=QG1 h;by_cases h2:2147483648<=r
 ·
  rw [if_pos h2,if_pos (this.1 h2)]
 rw [if_neg h2,if_neg (fun h3=>h2 (this.2 h3)),Nat.xor_zero]
theorem QG3 (a b:Nat):(a ^^^ b) * 2 % 4294967296=(a * 2 % 4294967296) ^^^ (b * 2 % 4294967296):=by
 have:=Ga (a:=a * 2) (b:=b * 2) (n:=32);rw [show (2:Nat) ^ 32=4294967296 by decide] at this;rw [<- this]
 congr 1
 have e:=Uk (a:=a) (b:=b) (i:=1);simp only [Nat.shiftLeft_eq] at e;simpa using e
theorem QG4 {a b:Nat} (ha:a < 4294967296) (hb:b < 4294967296):sh1 (a ^^^ b)=sh1 a ^^^ sh1 b:=by
 rw [QG2 (Y8 (n:=32) ha hb),QG2 ha,QG2 hb,QG3,Xy];generalize a * 2 % 4294967296=x;generalize b * 2 % 4294967296=y
 have e:∀ p:Nat,x ^^^ p ^^^ (y ^^^ p)=x ^^^ y:=fun p=>by
  rw [Gm y p,<- Xw,Xw x p p,Nat.xor_self,Nat.xor_zero]
 cases a.testBit 31 <;> cases b.testBit 31 <;> simp [Xw]
 ·
  rw [Gm 79764919 y]
 have:=e 79764919;rw [Xw] at this;exact this.symm
theorem QG5 {a b:Nat} (ha:a < 4294967296) (hb:b < 4294967296):∀ k,shK k (a ^^^ b)=shK k a ^^^ shK k b
 | 0=>rfl
 | k+1=>by rw [shK,QG5 ha hb k,QG4 (Qxf ha k) (Qxf hb k)];rfl
theorem QB2 (r:Nat):∀ k,shK k (sh1 r)=sh1 (shK k r)
 | 0=>rfl
 | k+1=>by rw [shK,QB2 r k];rfl
theorem QG6:∀ (k r:Nat),r * 2 ^ k < 4294967296->shK k r=r * 2 ^ k
 | 0,r,_=>by simp [shK]
 | k+1,r,h=>by
  have h2:r * 2 ^ k * 2 < 4294967296:=by rw [Gh,<- Uv];exact h
  rw [shK,QG6 k r (by omega),sh1,if_neg (by omega),Xp h2,Gh,<- Uv]
theorem Qxh:∀ (k:Nat) (v r:Nat),k<=32->r < 4294967296->(Qas k v).foldl QAf r=shK k (r ^^^ (v % 2 ^ k * 2 ^ (32 - k)))
 | 0,v,r,_,_=>by simp [Qas,shK,Nat.mod_one]
 | k+1,v,r,hk,h=>by
  rw [Qas,List.foldl_cons,Qxh k v _ (by omega) (QB0 h _),QAf];have hp:(2:Nat) ^ (32 - k)=2 * 2 ^ (31 - k):=by rw [show 32 - k=(31 - k)+1 by omega,Uv,Nat.mul_comm]
  have hp2:(2:Nat) ^ k * 2 ^ (31 - k)=2147483648:=by rw [<- Nat.pow_add,show k+(31 - k)=31 by omega]
  have hm:v % 2 ^ k < 2 ^ k:=X8 _ (Nat.two_pow_pos _);have hlow:v % 2 ^ k * 2 ^ (31 - k) < 2147483648:=by rw [<- hp2];exact Ue hm (Nat.two_pow_pos _)
  have hs:sh1 (v % 2 ^ k * 2 ^ (31 - k))=v % 2 ^ k * 2 ^ (32 - k):=by
   rw [sh1,if_neg (by omega),Xp (by omega),hp,Gh,Nat.mul_comm (2 ^ (31 - k)) 2]
  have hx:(if v.testBit k then 2147483648 else 0) < 4294967296:=by split <;> decide
  rw [<- hs,<- QG4 (Y8 (n:=32) h hx) (by omega),QB2]
  show shK (k+1) _=shK (k+1) _
  congr 1
  rw [Xw]
  congr 1
  have e1:v % 2 ^ (k+1)=(if v.testBit k then 2 ^ k else 0)+v % 2 ^ k:=by
   rw [Uv,Nat.mod_mul,Xm];rcases Nat.mod_two_eq_zero_or_one (v / 2 ^ k) with h3 | h3 <;> rw [h3] <;> simp <;> omega
  rw [show 32 - (k+1)=31 - k by omega,e1,Nat.add_mul]
  have e2:(if v.testBit k then 2 ^ k else 0) * 2 ^ (31 - k)=if v.testBit k then 2147483648 else 0:=by
   split
   ·
    exact hp2
   simp
  rw [e2];generalize v % 2 ^ k * 2 ^ (31 - k)=y at *;split
  ·
   have:=Uf (i:=31) (b:=y) (by omega) 1;rw [show (2:Nat) ^ 31 * 1=2147483648 by decide] at this;rw [this];apply Ub;intro j;rw [Xy,Nat.testBit_or,show (2147483648:Nat)=2 ^ 31 by decide,Xu];by_cases hj:31=j
   ·
    subst hj;have hy:y.testBit 31=false:=Nat.testBit_lt_two_pow (by omega);simp [hy]
   simp [hj]
  simp
theorem QKq {r hi lo bb:Nat} (er:r=hi ^^^ lo) (h1:hi < 4294967296) (h2:bb < 4294967296) (h5:lo < 4294967296):shK 8 lo ^^^ shK 8 (hi ^^^ bb)=shK 8 (r ^^^ bb):=by
 subst er;rw [Gm hi lo,Xw,QG5 h5 (Y8 (n:=32) h1 h2)]
theorem Qxi {r:Nat} (h:r < 4294967296) (b:UInt8):Qle r b=(Qas 8 b.toNat).foldl QAf r:=by
 have hb:=b.toNat_lt;rw [Qxh 8 _ _ (by omega) h,Qle,tab];have e0:b.toNat % 2 ^ 8 * 2 ^ (32 - 8)=b.toNat * 16777216:=by rw [Xp (by omega)]
 rw [e0];have hhi:r / 16777216 < 256:=by omega
 have hlo:r % 16777216 < 16777216:=X8 _ (by decide)
 have er:r=(r / 16777216 * 16777216) ^^^ (r % 16777216):=by
  apply Ub;intro j;rw [Xy,show (16777216:Nat)=2 ^ 24 by decide,Nat.testBit_mul_two_pow,Nat.testBit_mod_two_pow,Nat.testBit_div_two_pow];by_cases hj:24<=j
  ·
   simp [hj,show ¬ j < 24 by omega,show j - 24+24=j by omega]
  simp [hj,show j < 24 by omega]
 have ex:(r / 16777216 ^^^ b.toNat) * 16777216=(r / 16777216 * 16777216) ^^^ (b.toNat * 16777216):=by
  have e:=Uk (a:=r / 16777216) (b:=b.toNat) (i:=24);simp only [Nat.shiftLeft_eq] at e;simpa using e
 have hl8:shK 8 (r % 16777216)=r * 256 % 4294967296:=by
  have e8:(2:Nat) ^ 8=256:=by decide
  have h3:r % 16777216 * 256=r * 256 % 4294967296:=by
   have h4:=Nat.mul_mod_mul_right 256 r 16777216;rw [show 16777216 * 256=4294967296 by decide] at h4;exact h4.symm
  rw [QG6 8 _ (by rw [e8];omega),e8,h3]
 have h1:r / 16777216 * 16777216 < 4294967296:=by clear ex er e0 hl8;omega
 have h2:b.toNat * 16777216 < 256 * 16777216:=Ue hb (by decide);have h5:r % 16777216 < 4294967296:=Nat.lt_trans hlo (by decide);rw [ex,<- hl8];exact QKq er h1 h2 h5
theorem QG7:∀ (s:List UInt8) {r:Nat} (h:r < 4294967296),divS (8 * s.length) (Qc9 (Qas 32 r) (Qap s++Ya 32 false))=Qas 32 (Qeu r s)
 | [],r,h=>by
  show Qc9 (Qas 32 r) ([]++Ya 32 false)=Qas 32 r
  have:∀ (x:List Bool),Qc9 x (Ya x.length false)=x:=by
   intro x
   induction x with
   | nil=>rfl
   | cons a x ih=>rw [Ys,Xv,Qc9,ih,Bool.xor_false]
  have h2:=this (Qas 32 r);rw [Qan] at h2;exact h2
 | b::s,r,h=>by
  have h8:=QB1 (Qas 8 b.toNat) h (Qap s++Ya 32 false);rw [Qan,<- Qxi h] at h8;rw [Ys,show 8 * (s.length+1)=8+8 * s.length by omega,Qul,Qd8,Yj,h8,QG7 s (Qsv h b)];rfl
set_option maxHeartbeats 2000000
theorem QG8:Qas 33 4374732215=true::polyB:=by
 have h:=Qlu 32 4374732215 32 (Xb _);have e:4374732215 % 2 ^ 32=79764919:=by decide
 rw [e] at h;rw [polyB,h]
 show (4374732215:Nat).testBit 32::_=_
 congr 1
theorem QEd (w:World):Does Yi 114 #[] w fun v w'=>∃ g,v=.slice (some ⟨g,0,none⟩) 33 33/\Heap w [] w' [Yt 3 1 (some ⟨g,0,none⟩) 33 33 (Qat (bI (true::polyB)))]:=by
 have hb:=Qd0 4374732215 33 (by decide) (by decide);rw [QG8] at hb;refine En [] 8 Tryz.func114 ?_;refine VS [] ?_;refine VQ [1] fun K hK=>?_;refine MemK_call Gq ?_;refine Qs ?_;refine Yk (hb w) ?_;rintro v w2 ⟨g,hH,rfl⟩;(try refine Qs ?_);apply hK;clear hK;refine VS [0] ?_;exact VC_ret (VX_ret1 rfl rfl ⟨g,rfl,hH⟩)
theorem QG9:polyB.length=32:=by rw [polyB,Qan]
theorem Qm9:∀ (k:Nat) (P D:List Bool),k < P.length->k < D.length->Qc9 (P.take (k+1)) D=(Qc9 (P.take k) D).set k (D.getD k false ^^ P.getD k false)
 | 0,p::P,d::D,_,_=>by simp [Qc9,Bool.xor_comm]
 | k+1,p::P,d::D,h1,h2=>by
  simp only [Yr,Qc9,Yc,Gb];rw [Qm9 k P D (by simpa using h1) (by simpa using h2)]
 | _,[],_,h,_=>by simp at h
 | _,_::_,[],_,h=>by simp at h
theorem Qum:∀ (k:Nat) (P D:List Bool),k < D.length->(Qc9 (P.take k) D).getD k false=D.getD k false
 | 0,P,D,_=>by simp [Qc9]
 | k+1,[],D,_=>by simp [Qc9]
 | k+1,p::P,d::D,h=>by
  simp only [Yr,Qc9,Gb];exact Qum k P D (by simpa using h)
 | k+1,_::_,[],h=>by simp at h
theorem QHa (i:Nat) (l:List Bool):divS (i+1) l=divS 1 (divS i l):=Qul i 1 l
theorem QB3:∀ (i:Nat) (l:List Bool),(divS i l).length=l.length - i
 | 0,l=>rfl
 | i+1,[]=>by simp [divS]
 | i+1,b::l=>by
  rw [divS,QB3 i];split <;> simp [Ql9]
theorem QB4 (l:List Bool) (k:Nat) (b:Bool):bI (l.set k b)=(bI l).set k (if b then 1 else 0):=by simp [bI,List.map_set]
theorem Qrh {α:Type} (A D:List α) (i k:Nat) (x:α) (h:A.length=i):(A++D).set (i+k) x=A++D.set k x:=by
 rw [U3 _ _ (by omega),h,X1]
theorem Qma {l:List Int}{i:Nat}{x:Int} (h:i < l.length):(Qat l).take i++[.int .i64 x]++(Qat l).drop (i+[Y1 .i64 x].length)=Qat (l.set i x):=by
 have e:=List.set_eq_take_append_cons_drop (l:=Qat l) (i:=i) (a:=Y1 .i64 x);rw [if_pos (by rw [Qdm];exact h)] at e;have e2:Qat (l.set i x)=(Qat l).set i (.int .i64 x):=by simp [Qat,List.map_set]
 rw [e2,e,Yj];rfl
theorem QHb (a b:Bool):((if a then 1 else 0:Int)+(if b then 1 else 0)) % 2=if (a ^^ b) then 1 else 0:=by cases a <;> cases b <;> rfl
theorem QEe (l:List Bool) (a:Option Addr) (c:Nat) (hl:l.length<=1000000000000) (h32:32<=l.length) (w:World) (hr:RS w a l.length 1 (Qat (bI l))) :
  Does Yi 86 #[.slice a l.length c] w fun v w'=>∃ a' c',v=.slice a' 32 c'/\Heap w [] w' []/\RS w' a' 32 1 (Qat (bI (divS (l.length - 32) l))):=by
 have hbl:=Qbh l;refine En [.slice a l.length c] 49 Tryz.func86 ?_;refine VS [0] ?_;refine VQ [0,3] fun K hK=>?_;refine MemK_call Tryz.call114 ?_;refine Qs ?_;refine Yk (QEd w) ?_;rintro v w2 ⟨gp,rfl,hH⟩;(try refine Qs ?_);apply hK;clear hK;refine VQ [3,4] fun K hK=>?_;refine Qbb hH (Qat []) (xs:=[]) Yg sz3 rfl rfl rfl (by omega) ?_;refine Qs ?_;refine ⟨rfl,by simp [Y9],fun g w4 hH2=>?_⟩;(try refine Qs ?_);have hr2:=hH2.rs' hr;rw [<- hbl] at hr2 ⊢;refine Qai ?_;refine Qs ?_;refine Qcg (o:=[]) (t:=bI l) hH2 0 rfl Yg zi3 rfl hr2 (fun h=>by simp;omega) fun a' cap' w5 hc' hH3=>?_;simp only [Yb,Yf] at hH3 ⊢;(try refine Qs ?_);apply hK;clear hK;rw [hbl] at hH3 ⊢;refine VS [3,4,5] ?_;refine Qac ?_;refine Qad [3,4,5] (fun m e w'=>∃ (i:Nat) (A:List Bool),Is e [(3,.slice (some ⟨gp,0,none⟩) 33 33),(4,.slice a' l.length cap'),(5,.int .i64 i)]/\Heap w [] w' [Yt 3 1 a' l.length cap' (Qat (bI (A++divS i l))),Yt 3 1 (some ⟨gp,0,none⟩) 33 33 (Qat (bI (true::polyB)))]/\A.length=i/\i+32<=l.length/\m=l.length - i) l.length ?_ ?_
 ·
  refine Qs ?_;exact ⟨0,[],rfl,hH3,rfl,by omega,rfl⟩
 clear hH3 hH hH2;rintro m e w' ⟨i,A,rfl,hH,hA,hi,rfl⟩;have hdl:=QB3 i l;generalize hD:divS i l=D at *;refine VS [3,4,5,15] ?_;refine VD (fun h=>?_) (fun h=>?_)
 ·
  obtain ⟨d,D,rfl⟩:∃ d D',D=d::D':=by
   cases D with
   | nil=>simp at hdl;omega
   | cons d D'=>exact ⟨d,D',rfl⟩
  have hn:divS (i+1) l=if d then Qc9 polyB D else D:=by
   rw [QHa,hD];cases d <;> rfl
  simp only [Ys] at hdl;refine VC_skip ?_;refine VB ?_;obtain ⟨p,rfl⟩:=Qbj (Qaq (hH.at 0 rfl)) (by omega);have hAl:(A++d::D).length=l.length:=by simp;omega
  have hcell:=Qht (Qaq (hH.at 0 rfl)) (show i < (bI (A++d::D)).length by rw [Qbh,hAl];omega);rw [Qnj (by omega)] at hcell
  have hat:(A++d::D).getD i false=d:=by
   rw [Ye,Xj (by omega),hA,Us];rfl
  rw [hat] at hcell;refine VQ [3,4,5,22] fun K hK=>?_;refine ⟨⟨by omega,by omega⟩,_,hcell,?_⟩;(try refine Qs ?_);(repeat refine Qo ?_);apply hK;clear hK;refine Qaf rfl rfl (fun h2=>?_) (fun h2=>?_)
  ·
   simp only [decide_eq_true_eq] at h2;have hdt:d=true:=by cases d <;> simp at h2 ⊢
   subst hdt;rw [if_pos rfl] at hn;refine VS [3,4,5,6] ?_;refine Qac ?_;refine Qad [3,4,5,6] (fun m e w'=>∃ (k:Nat),Is e [(3,.slice (some ⟨gp,0,none⟩) 33 33),(4,.slice (some p) l.length cap'),(5,.int .i64 i),(6,.int .i64 k)]/\Heap w [] w' [Yt 3 1 (some p) l.length cap' (Qat (bI (A++Qc9 ((true::polyB).take k) (true::D)))),Yt 3 1 (some ⟨gp,0,none⟩) 33 33 (Qat (bI (true::polyB)))]/\k<=33/\m=33 - k) 33 ?_ ?_
   ·
    refine Qs ?_;exact ⟨0,rfl,hH,by omega,rfl⟩
   clear hH hcell;rintro m e w3 ⟨k,rfl,hH,hk,rfl⟩;have hpl:(true::polyB).length=33:=by rw [Ys,QG9]
   refine VS [3,4,5,6,24] ?_;refine VD (fun h=>?_) (fun h=>?_)
   ·
    have hk33:k < 33:=by omega
    refine VC_skip ?_;refine VB ?_;have hx:=Qm9 k (true::polyB) (true::D) (by omega) (by simp;omega);have hxl:(Qc9 ((true::polyB).take k) (true::D)).length=D.length+1:=by rw [Ql9];rfl
    have hAx:(A++Qc9 ((true::polyB).take k) (true::D)).length=l.length:=by rw [Yn];omega
    have hcell:=Qht (Qaq (hH.at 0 rfl)) (show i+k < (bI (A++Qc9 ((true::polyB).take k) (true::D))).length by rw [Qbh,hAx];omega);rw [Qnj (by omega)] at hcell
    have hat:(A++Qc9 ((true::polyB).take k) (true::D)).getD (i+k) false=(true::D).getD k false:=by
     rw [Ye,Xj (by omega),hA,X1,<- Ye,Qum k _ _ (by simp;omega)]
    rw [hat] at hcell;have hcp:=Qa1 (hH.at 1 rfl) (Qc7 (l:=bI (true::polyB)) (i:=k) (by rw [Qbh];omega));rw [Qnj (by omega)] at hcp
    have hset:bI (A++Qc9 ((true::polyB).take (k+1)) (true::D))=(bI (A++Qc9 ((true::polyB).take k) (true::D))).set (i+k) (if ((true::D).getD k false ^^ (true::polyB).getD k false) then 1 else 0):=by
     rw [hx,<- QB4,Qrh _ _ _ _ _ hA]
    have hm:=QHb ((true::D).getD k false) ((true::polyB).getD k false);generalize (true::D).getD k false=b1 at *;generalize (true::polyB).getD k false=b2 at *;refine VL [3,4,5,6] 17 fun K hK=>?_;refine ⟨Y7 (by omega) (by omega),Y7 (by omega) (by omega),⟨by omega,by omega⟩,_,hcell,⟨by omega,by omega⟩,_,hcp,?_⟩;(try refine Qs ?_);have h2b:I64 ((if b1=true then 1 else 0:Int)+(if b2=true then 1 else 0))/\0<=(if b1=true then 1 else 0:Int)+(if b2=true then 1 else 0):=by cases b1 <;> cases b2 <;> exact ⟨Y7 (by decide) (by decide),by decide⟩
    generalize (if b1=true then 1 else 0:Int)+(if b2=true then 1 else 0)=sm at *;refine ⟨h2b.1,h2b.2,by decide,⟨by omega,by omega⟩,?_⟩;refine Qaa ?_;refine Qs ?_;refine Qaz hH 0 (o:=i+k) (vs:=[.int .i64 (sm % 2)]) rfl (by rfl) rfl (by kernel_rfl) (by simp only [Yz,Qdm,Qbh];omega) (by simp [Yh]) fun w4 hH2=>?_;simp only [Yb] at hH2;rw [Qma (by rw [Qbh];omega),hm,<- hset] at hH2;(try refine Qs ?_);apply hK;clear hK;refine Qaj ?_;refine VS [3,4,5,6] ?_;refine Qab ?_;refine Qs ?_;exact ⟨33 - (k+1),by omega,k+1,rfl,hH2,by omega,rfl⟩
   obtain rfl:k=33:=by omega
   have e33:(true::polyB).take 33=true::polyB:=Yu (by omega);rw [e33] at hH;refine Qag rfl ?_;refine Qaj ?_;refine VS [3,4,5] ?_;refine Qab ?_;refine Qs ?_;refine ⟨l.length - (i+1),by omega,i+1,A++[false],rfl,?_,by simp [hA],by omega,rfl⟩;rw [hn,Yj];exact hH
  simp only [decide_eq_false_iff_not] at h2;have hdt:d=false:=by cases d <;> simp at h2 ⊢
  subst hdt;rw [if_neg (by simp)] at hn;refine VC_skip ?_;refine Qaj ?_;refine VS [3,4,5] ?_;refine Qab ?_;refine Qs ?_;refine ⟨l.length - (i+1),by omega,i+1,A++[false],rfl,?_,by simp [hA],by omega,rfl⟩;rw [hn,Yj];exact hH
 obtain rfl:i=l.length - 32:=by omega
 refine Qag rfl ?_;have hrs:=Qaq (hH.at 0 rfl);obtain ⟨g,rfl⟩:=Qc1 (hH.at 0 rfl) (by omega);have hrc:=Qth (hH.at 0 rfl);have hSL:SL w' (some ⟨g,0,none⟩) l.length cap' (Qat (bI (A++D))):=⟨hrs,hrc.1,fun ad e=>by cases e;rfl⟩;have hcut:=hSL.cut (l.length - 32) 32 (by omega)
 have e1:((Qat (bI (A++D))).drop (l.length - 32)).take 32=Qat (bI D):=by
  have:Qat (bI (A++D))=Qat (bI A)++Qat (bI D):=by simp [Qat,bI]
  rw [this,List.drop_append_of_le_length (by rw [Qdm,Qbh];omega),Yy (by rw [Qdm,Qbh];omega),Yf,Yu (by rw [Qdm,Qbh];omega)]
 rw [e1] at hcut;refine VQ [2] fun K hK=>?_;refine ⟨Y7 (by omega) (by omega),⟨by omega,by omega,hrc.1⟩,?_⟩;rw [show l.length - (l.length - 32)=32 by omega];generalize (if cap'=l.length - 32 then some (⟨g,0,none⟩:Addr) else Option.map (fun x=>x.add (l.length - 32)) (some (⟨g,0,none⟩:Addr)))=a2 at *;generalize cap' - (l.length - 32)=c2 at *;apply hK;clear hK;refine VC_ret (VX_ret1 rfl rfl ⟨a2,c2,rfl,hH.sub (by simp),by rw [hD];exact hcut⟩)
theorem QEf (r:Nat) (s:List UInt8) (w:World) (hr:r < 4294967296) (hs:s.length<=100000000000) :
  Does Yi 51 #[.int .u32 r,Str s] w fun v w'=>Heap w [] w' []/\v=.int .u32 (Qeu r s:Nat):=by
 have hbl:=Qaw s;have hml:=Qg3 s hr;refine En [.int .u32 r,Str s] 39 Tryz.func51 ?_;refine VS [0,1] ?_;refine VQ [0,5] fun K hK=>?_;refine MemK_call Tryz.call19 ?_;refine Qs ?_;refine Yk (Qt1 s hs w) ?_;rintro v w2 ⟨a,cap,hH,rfl⟩;(try refine Qs ?_);refine Qai ?_;refine Qs ?_;refine Qrz (m:=32) hH 0 rfl rfl Yg zi3 Tryz.underlying3 rfl (by rw [Qbh];omega) fun a' cap' w5 hc' hH2=>?_;simp only [Yb] at hH2;have hz:Qat (bI (Qap s))++Ya 32 (.int .i64 0)=Qat (bI (Qap s++Ya 32 false)):=by simp [Qat,bI]
 have hzl:(bI (Qap s)).length+32=(Qap s++Ya 32 false).length:=by simp [Qbh]
 rw [hz,hzl] at hH2;rw [hzl];clear hH hc';generalize hD:Qap s++Ya 32 false=D at *;have hDl:D.length=8 * s.length+32:=by rw [<- hD];simp [hbl]
 (try refine Qs ?_);apply hK;clear hK;refine VQ [5,6] fun K hK=>?_;(repeat first | refine Qo ?_ | refine Qp ?_);rw [show (r:Int) % 18446744073709551616=((r:Nat):Int) by omega];refine MemK_call Gq ?_;refine Qs ?_;refine Yk (Qd0 r 32 (by omega) (by omega) w5) ?_;rintro v w6 ⟨g,hH3,rfl⟩;have hH4:=hH2.call0 hH3;simp only [Y3] at hH4;clear hH2 hH3;(try refine Qs ?_);apply hK;clear hK;have hrl:=Qan 32 r;generalize hR:Qas 32 r=R at *;refine VS [5,6,8] ?_;refine Qac ?_;refine Qad [5,6,8] (fun m e w'=>∃ (i:Nat),Is e [(5,.slice a' D.length cap'),(6,.slice (some ⟨g,0,none⟩) 32 32),(8,.int .i64 i)]/\Heap w [] w' [Yt 3 1 (some ⟨g,0,none⟩) 32 32 (Qat (bI R)),Yt 3 1 a' D.length cap' (Qat (bI (Qc9 (R.take i) D)))]/\i<=32/\m=32 - i) 32 ?_ ?_
 ·
  refine Qs ?_;exact ⟨0,rfl,hH4,by omega,rfl⟩
 clear hH4;rintro m e w' ⟨i,rfl,hH,hi,rfl⟩;have hxl:(Qc9 (R.take i) D).length=D.length:=Ql9 _ _;refine VS [5,6,8,19] ?_;refine VD (fun h=>?_) (fun h=>?_)
 ·
  refine VC_skip ?_;refine VB ?_;obtain ⟨p,rfl⟩:=Qbj (Qaq (hH.at 1 rfl)) (by omega);have hx:=Qm9 i R D (by omega) (by omega);have hcell:=Qht (Qaq (hH.at 1 rfl)) (show i < (bI (Qc9 (R.take i) D)).length by rw [Qbh];omega);rw [Qnj (by omega),Qum i R D (by omega)] at hcell;have hcp:=Qa1 (hH.at 0 rfl) (Qc7 (l:=bI R) (i:=i) (by rw [Qbh];omega));rw [Qnj (by omega)] at hcp;have hset:bI (Qc9 (R.take (i+1)) D)=(bI (Qc9 (R.take i) D)).set i (if (D.getD i false ^^ R.getD i false) then 1 else 0):=by rw [hx,<- QB4]
  have hm:=QHb (D.getD i false) (R.getD i false);generalize D.getD i false=b1 at *;generalize R.getD i false=b2 at *;refine VL [5,6,8] 13 fun K hK=>?_;refine ⟨⟨by omega,by omega⟩,_,hcell,⟨by omega,by omega⟩,_,hcp,?_⟩;(try refine Qs ?_);have h2b:I64 ((if b1=true then 1 else 0:Int)+(if b2=true then 1 else 0))/\0<=(if b1=true then 1 else 0:Int)+(if b2=true then 1 else 0):=by cases b1 <;> cases b2 <;> exact ⟨Y7 (by decide) (by decide),by decide⟩
  generalize (if b1=true then 1 else 0:Int)+(if b2=true then 1 else 0)=sm at *;refine ⟨h2b.1,h2b.2,by decide,⟨by omega,by omega⟩,?_⟩;refine Qaa ?_;refine Qs ?_;refine Qaz hH 1 (o:=i) (vs:=[.int .i64 (sm % 2)]) rfl (by rfl) rfl (by kernel_rfl) (by simp only [Yz,Qdm,Qbh];omega) (by simp [Yh]) fun w4 hH2=>?_;simp only [Yb,Yc] at hH2;rw [Qma (by rw [Qbh];omega),hm,<- hset] at hH2;(try refine Qs ?_);apply hK;clear hK;refine Qaj ?_;refine VS [5,6,8] ?_;refine Qab ?_;refine Qs ?_;exact ⟨32 - (i+1),by omega,i+1,rfl,hH2,by omega,rfl⟩
 obtain rfl:i=32:=by omega
 have e32:R.take 32=R:=Yu (by omega);rw [e32] at hH hxl;refine Qag rfl ?_;have hdv:=QG7 s hr;rw [hR,hD] at hdv;have hres:=fun w' h=>QEe (Qc9 R D) a' cap' (by omega) (by omega) w' h;rw [hxl] at hres;rw [show 8 * s.length=D.length - 32 by omega] at hdv;rw [hdv] at hres;refine VQ [4] fun K hK=>?_;refine MemK_call Tryz.call86 ?_;refine Qs ?_;refine Yk (hres w' (Qaq (hH.at 1 rfl))) ?_;rintro v w7 ⟨a7,c7,rfl,hH7,hr7⟩;(try refine Qs ?_);have hbl32:=Qan 32 (Qeu r s);have hnum:=Qwn (Qas 32 (Qeu r s)) a7 c7 (by omega) w7 (by rw [hbl32];exact hr7);rw [hbl32,Qdz,Xp (by omega)] at hnum;refine MemK_call Tryz.call85 ?_;refine Qs ?_;refine Yk hnum ?_;rintro v w8 ⟨rfl,rfl⟩;(try refine Qs ?_);have hH8:=hH.call0 hH7;rw [show ((Qeu r s:Nat):Int) % 4294967296=((Qeu r s:Nat):Int) by omega];apply hK;clear hK;exact VC_ret (VX_ret1 rfl rfl ⟨hH8.sub (by simp),rfl⟩)
theorem Qsw (s:List UInt8) (w:World) (hs:s.length<=100000000000):Does Yi 22 #[Str s] w fun v w'=>Heap w [] w' []/\v=.int .u32 (Qa9 s:Nat):=by
 have hml:=Qg3 s (r:=4294967295) (by decide);have hm:=QEf 4294967295 s w (by decide) hs;refine En [Str s] 6 Tryz.func22 ?_;refine VS [0] ?_;refine VQ [2] fun K hK=>?_;refine MemK_call Tryz.call51 ?_;refine Qs ?_;refine Yk hm ?_;rintro v w2 ⟨hH,rfl⟩;(try refine Qs ?_);rw [show (4294967295 - ((Qeu 4294967295 s:Nat):Int)) % 4294967296=((Qa9 s:Nat):Int) by unfold Qa9;omega];apply hK;clear hK;exact VC_ret (VX_ret1 rfl rfl ⟨hH,rfl⟩)
theorem QSo {α:Sort _} (a:α):Is a a:=rfl
theorem QHc (r:Nat) (s:List UInt8) (w:World) (hr:r < 4294967296) (hs:s.length<=1000000000000000000) :
  Does Yi 38 #[.int .u32 r,Str s] w fun v w'=>Heap w [] w' []/\v=.int .u32 (Qeu r s:Nat):=by
 refine En [.int .u32 r,Str s] 27 Tryz.func38 ?_;refine VS [0,1] ?_;refine VQ [0,1,5] fun K hK=>?_;refine MemK_call Tryz.call69 ?_;refine Qs ?_;refine Yk (QEc w) ?_;rintro v w1 ⟨hH,rfl⟩;refine Qao (.agg (u32V (Ya 256 0)).toArray) (by kernel_rfl) ?_;have hH2:=hH.box 108 (u32V (Ya 256 0));have ecells:(Ug (u32V (Ya 256 0)).toArray).cells=(u32V (Ya 256 0)).toArray:=rfl;rw [ecells];generalize w1.alloc (Yv (u32V (Ya 256 0)).toArray 108)=w2 at *;generalize w1.heap.size=g at *;refine Qs ?_;refine Qaa ?_;refine Qs ?_;have hlen:(u32V tabs).length=256:=by rw [Ql8,Qos]
 have hlen0:(u32V (Ya 256 0)).length=256:=by simp [u32V]
 refine Qae hH2 0 (vs:=u32V tabs) rfl rfl (by rw [hlen];kernel_rfl) (by rw [hlen,hlen0];omega) (by intro u hu;obtain ⟨n,_,rfl⟩:=Ut.1 hu;rfl) fun w6 hH3=>?_
 have e2:(u32V (Ya 256 0)).take 0++u32V tabs++(u32V (Ya 256 0)).drop (0+(u32V tabs).length)=u32V tabs:=by
  rw [Y6,Yf,Yy (by rw [hlen,hlen0];omega),Yl]
 rw [e2] at hH3;have hH4:Heap w [] w6 [Ym g 108 (u32V tabs)]:=hH3;clear hH3 hH2 hH ecells;apply hK;clear hK;refine VS [0,1,5,9,10] ?_;refine VB ?_;refine Qad [0,1,5,9,10] (fun m e w'=>∃ (i:Nat),Is e [(0,.int .u32 (Qeu r (s.take i):Nat)),(1,Str s),(5,.pointer (some ⟨g,0,none⟩)),(9,.int .i64 s.length),(10,.int .i64 i)]/\Is w' w6/\i<=s.length/\m=s.length - i) s.length ?_ ?_
 ·
  refine Qs ?_;exact ⟨0,rfl,rfl,by omega,rfl⟩
 rintro m e w' ⟨i,rfl,rfl,hi,rfl⟩;refine VS [0,1,5,9,10,11] ?_;(repeat refine Qax ?_);refine VD (fun h=>?_) (fun h=>?_)
 ·
  refine VC_skip ?_;refine VB ?_;refine VS [0,1,5,6,9,10] ?_;have hq:=Qg3 (s.take i) hr;have htk:=Qb2 (0:UInt8) (l:=s) (i:=i) (by omega);have hnext:=Qxg r (s.take i) (s.getD i 0);rw [<- htk,Qle] at hnext;have hb:=(s.getD i 0).toNat_lt;have hx:(Qeu r (s.take i) / 16777216) ^^^ (s.getD i 0).toNat < 256:=Y8 (n:=8) (by omega) (by omega);have htl:=QLq _ hx;have htg:=QKo hx;generalize Qeu r (s.take i)=q at *
  have e1:(q:Int) / 2 ^ shN Xa 24 % 256=((q / 16777216:Nat):Int):=by
   rw [show shN Xa 24=24 from rfl];omega
  have e3:(q:Int) * 2 ^ shN Xa 8 % 4294967296=((q * 256 % 4294967296:Nat):Int):=by
   rw [show shN Xa 8=8 from rfl];omega
  refine VQ [0,1,5,9,10] fun K hK=>?_;rw [e1,e3];(repeat first | refine Qo ?_ | refine Qp ?_);(try simp only [Yo]);(repeat first | refine Qo ?_ | refine Qp ?_);refine ⟨_,Qah (hH4.at 0 rfl) (Quk (by rw [Qos];exact hx)),?_⟩;refine Qs ?_;rw [htg];clear htg hx;generalize tab (q / 16777216 ^^^ (s.getD i 0).toNat)=tb at *;(repeat first | refine Qo ?_ | refine Qp ?_);(try simp only [Yo]);apply hK;clear hK;refine Qaj ?_;refine VS [0,1,5,9,10] ?_;refine Qab ?_;refine Qs ?_;exact ⟨s.length - (i+1),by omega,i+1,by rw [hnext];exact QSo _,rfl,by omega,rfl⟩
 refine Qag rfl ?_;refine VS [4] ?_;rw [Yu (by omega)];exact VC_ret (VX_ret1 rfl rfl ⟨hH4.sub (by simp),rfl⟩)
theorem Qmb (s:List UInt8) (w:World) (hs:s.length<=1000000000000000000):Does Yi 11 #[Str s] w fun v w'=>Heap w [] w' []/\v=.int .u32 (Qa9 s:Nat):=by
 have hlt:=Qg3 s (r:=4294967295) (by omega);refine En [Str s] 6 Tryz.func11 ?_;refine VS [0] ?_;refine VQ [2] fun K hK=>?_;refine MemK_call Tryz.call38 ?_;refine Qs ?_;refine Yk (QHc 4294967295 s w (by omega) hs) ?_;rintro v w1 ⟨hH,rfl⟩;refine Qs ?_;refine Qp ?_;have e:4294967295 - ((Qeu 4294967295 s:Nat):Int)=((Qa9 s:Nat):Int):=by unfold Qa9;omega
 rw [e];apply hK;clear hK;exact VC_ret (VX_ret1 rfl rfl ⟨hH,rfl⟩)
theorem Qkq (l:List Nat) (x:Nat):Qb6 (l++[x])=((Qb6 l * 2 % 4294967296) ||| Qb6 l / 2147483648) ^^^ x:=by simp [Qb6]
theorem Qfn (l:List Nat) (h:∀ x∈l,x < 4294967296):Qb6 l < 4294967296:=by
 have:∀ (l:List Nat) (c:Nat),c < 4294967296->(∀ x∈l,x < 4294967296)->l.foldl (fun c x=>((c * 2 % 4294967296) ||| c / 2147483648) ^^^ x) c < 4294967296:=by
  intro l
  induction l with
  | nil=>intro c hc _;exact hc
  | cons x l ih =>
   intro c hc hx;refine ih _ ?_ fun y hy=>hx y (by simp [hy]);exact Y8 (n:=32) (Nat.or_lt_two_pow (X8 _ (by decide)) (by omega)) (hx x (by simp))
 exact this l 0 (by decide) h
theorem Qny (l:List Nat) (a:Option Addr) (cap:Nat) (w:World) (hl:RS w a l.length 1 (u32V l)) (h32:∀ x∈l,x < 4294967296) (hs:l.length<=1000000000000000000) :
  Does Yi 14 #[.slice a l.length cap] w fun v w'=>w'=w/\v=.int .u32 (Qb6 l:Nat):=by
 refine En [.slice a l.length cap] 22 Tryz.func14 ?_;refine VS [0] ?_;refine VS [0,3] ?_;refine VS [3,6,7,8] ?_;refine VB ?_;refine Qad [3,6,7,8] (fun m e w'=>∃ (i:Nat),Is e [(3,.int .u32 (Qb6 (l.take i):Nat)),(6,.slice a l.length cap),(7,.int .i64 l.length),(8,.int .i64 i)]/\Is w' w/\i<=l.length/\m=l.length - i) l.length ?_ ?_
 ·
  refine Qs ?_;exact ⟨0,rfl,rfl,by omega,rfl⟩
 rintro m e w' ⟨i,rfl,rfl,hi,rfl⟩;refine VS [3,6,7,8,9] ?_;(repeat refine Qax ?_);refine VD (fun h=>?_) (fun h=>?_)
 ·
  refine VC_skip ?_;refine VB ?_;obtain ⟨p,rfl⟩:=Qbj hl (by omega);have hc:w'.cell? (p.add i)=some (.int .u32 ((l.getD i 0:Nat):Int)):=hl.2.2 p rfl i _ (Quk (by omega));have hx:=h32 _ (Qa3 0 (show i < l.length by omega));have hq:=Qfn (l.take i) fun x hx=>h32 x (U5 hx);have htk:=Qb2 0 (l:=l) (i:=i) (by omega);have hnext:=Qkq (l.take i) (l.getD i 0);rw [<- htk] at hnext;generalize Qb6 (l.take i)=q at *;generalize l.getD i 0=x at *;refine VQ [3,5,6,7,8] fun K hK=>?_;refine ⟨⟨by omega,by omega⟩,_,hc,?_⟩;apply hK;clear hK;have e1:(q:Int) * 2 ^ shN Xa 1 % 4294967296=((q * 2 % 4294967296:Nat):Int):=by rw [show shN Xa 1=1 from rfl];omega
  have e2:(q:Int) / 2 ^ shN Xa 31=((q / 2147483648:Nat):Int):=by rw [show shN Xa 31=31 from rfl];omega
  have hor:(q * 2 % 4294967296) ||| q / 2147483648 < 4294967296:=Nat.or_lt_two_pow (n:=32) (X8 _ (by decide)) (by omega)
  refine VQ [3,5,6,7,8] fun K hK=>?_;rw [e1,e2];refine ⟨by omega,by omega,⟨by omega,by omega⟩,⟨by omega,by omega⟩,?_⟩;(try simp only [Yo]);apply hK;clear hK;generalize (q * 2 % 4294967296) ||| q / 2147483648=o at *
  refine VQ [3,6,7,8] fun K hK=>?_;refine ⟨⟨by omega,by omega⟩,⟨by omega,by omega⟩,?_⟩;(try simp only [Yo]);rw [<- hnext];apply hK;clear hK;refine Qaj ?_;refine VS [3,6,7,8] ?_;refine Qab ?_;refine Qs ?_;exact ⟨l.length - (i+1),by omega,i+1,rfl,rfl,by omega,rfl⟩
 refine Qag rfl ?_;refine VS [2] ?_;rw [Yu (by omega)];exact VC_ret (VX_ret1 rfl rfl ⟨rfl,rfl⟩)
set_option maxHeartbeats 2000000
theorem Qun (l:List Nat) (a:Option Addr) (cap:Nat) (w:World) (hl:RS w a l.length 1 (u32V l)) (h32:∀ x∈l,x < 4294967296) (hs:l.length<=1000000000000000000) :
  Does Yi 24 #[.slice a l.length cap] w fun v w'=>w'=w/\v=.int .u32 (Qb6 l:Nat):=by
 refine En [.slice a l.length cap] 26 Tryz.func24 ?_;refine VS [0] ?_;refine VS [0,3] ?_;refine VS [0,3,4] ?_;refine Qac ?_;refine Qad [0,3,4] (fun m e w'=>∃ (i:Nat),Is e [(0,.slice a l.length cap),(3,.int .u32 (Qb6 (l.take i):Nat)),(4,.int .i64 i)]/\Is w' w/\i<=l.length/\m=l.length - i) l.length ?_ ?_
 ·
  refine Qs ?_;exact ⟨0,rfl,rfl,by omega,rfl⟩
 rintro m e w' ⟨i,rfl,rfl,hi,rfl⟩;refine VS [0,3,4,9] ?_;refine VD (fun h=>?_) (fun h=>?_)
 ·
  refine VC_skip ?_;refine VB ?_;obtain ⟨p,rfl⟩:=Qbj hl (by omega);have hc:w'.cell? (p.add i)=some (.int .u32 ((l.getD i 0:Nat):Int)):=hl.2.2 p rfl i _ (Quk (by omega));have hx:=h32 _ (Qa3 0 (show i < l.length by omega));have hq:=Qfn (l.take i) fun x hx=>h32 x (U5 hx);have htk:=Qb2 0 (l:=l) (i:=i) (by omega);have hnext:=Qkq (l.take i) (l.getD i 0);rw [<- htk] at hnext;generalize Qb6 (l.take i)=q at *;generalize l.getD i 0=x at *
  have hor:(q * 2 % 4294967296) ||| q / 2147483648=q % 2147483648 * 2+q / 2147483648:=by
   have:=Uf (i:=1) (b:=q / 2147483648) (by omega) (q % 2147483648);rw [show 2 ^ 1 * (q % 2147483648)=q * 2 % 4294967296 by omega] at this;rw [<- this];omega
  rw [hor] at hnext;refine VS [0,3,4,5] ?_;refine VQ [0,3,4] fun K hK=>?_;(repeat first | refine Qo ?_ | refine Qp ?_);rw [show ((q:Int) % 2147483648 * 2 % 4294967296+q / 2147483648 % 4294967296) % 4294967296=((q % 2147483648 * 2+q / 2147483648:Nat):Int) by omega];have ho:q % 2147483648 * 2+q / 2147483648 < 4294967296:=by omega
  generalize q % 2147483648 * 2+q / 2147483648=o at *;apply hK;clear hK;refine VQ [0,3,4] fun K hK=>?_;refine ⟨⟨by omega,by omega⟩,_,hc,?_⟩;(try refine Qs ?_);refine ⟨⟨by omega,by omega⟩,⟨by omega,by omega⟩,?_⟩;(try simp only [Yo]);rw [<- hnext];apply hK;clear hK;refine Qaj ?_;refine VS [0,3,4] ?_;refine Qab ?_;refine Qs ?_;exact ⟨l.length - (i+1),by omega,i+1,rfl,rfl,by omega,rfl⟩
 refine Qag rfl ?_;refine VS [2] ?_;rw [Yu (by omega)];exact VC_ret (VX_ret1 rfl rfl ⟨rfl,rfl⟩)
def tabV (l:List Nat) (hs:Nat->Option Nat):List Value:=(Yq l.length).map fun j=>match hs j with
 | none=>.slice none 0 0
 | some g=>.slice (some ⟨g,0,none⟩) (l.getD j 0) (l.getD j 0)
theorem Qmc (l:List Nat) (hs:Nat->Option Nat):(tabV l hs).length=l.length:=by simp [tabV]
theorem Qxj (l:List Nat):tabV l (fun _=>none)=Ya l.length (.slice none 0 0):=by
 unfold tabV;rw [List.map_const',Xf]
theorem QKr (l:List Nat) (hs:Nat->Option Nat) (i g:Nat):(tabV l hs).set i (.slice (some ⟨g,0,none⟩) (l.getD i 0) (l.getD i 0))=tabV l fun j=>if j=i then some g else hs j:=by
 apply Gn;intro j;rw [List.getElem?_set,Qmc];unfold tabV;rw [Xg,Xg];by_cases e:i=j
 ·
  subst e;by_cases hj:i < l.length
  ·
   rw [Ud hj];simp [hj]
  rw [Xk (by simp;omega)];simp [hj]
 rw [if_neg e];by_cases hj:j < l.length
 ·
  rw [Ud hj];simp [Ne.symm e]
 rw [Xk (by simp;omega)];rfl
def QO9 (l:List Nat) (j g:Nat):Res:=Yt 3 1 (some ⟨g,0,none⟩) (l.getD j 0) (l.getD j 0) (Qat (bI (Qib l j)))
def TabAt (w:World) (v:Value) (l:List Nat):Prop :=
 ∃ p c,∃ hs:Nat->Addr,v=.slice (some p) l.length c/\RS w (some p) l.length 1 ((Yq l.length).map fun j=>.slice (some (hs j)) (l.getD j 0) (l.getD j 0)) /\
  ∀ j,j < l.length->RS w (some (hs j)) (l.getD j 0) 1 (Qat (bI (Qib l j)))
def TabG (G:List Res) (v:Value) (l:List Nat):Prop:=∀ w:World,(∀ r∈G,r.holds w)->TabAt w v l
theorem TabAt.keep {w w':World}{v:Value}{l:List Nat}{G:List Res} (h:TabAt w v l) (hH:Heap w [] w' G):TabAt w' v l:=by
 obtain ⟨p,c,hs,h1,h2,h3⟩:=h;exact ⟨p,c,hs,h1,hH.rs' h2,fun j hj=>hH.rs' (h3 j hj)⟩
theorem QLr {l:List Nat} (h:okL l) {n:Nat} (hn:n<=20):Qbf l n+cnt l n<=1048576:=by
 have h1:=Qkc h hn;have h2:2 ^ n<=2 ^ 20:=Xc (by omega) hn;omega
theorem QAg (l:List Nat) (hok:okL l) (a:Option Addr) (lc:Nat) (w:World) (hr:RS w a l.length 1 (Qak l)) :
  Does Yi 84 #[.slice a l.length lc] w fun v w'=>∃ G,Heap w [] w' G/\TabG G v l:=by
 obtain ⟨o1,o2,o3,o4⟩:=id hok;obtain ⟨p,rfl⟩:=Qbj hr (by omega);have h0:Qbf l 0+cnt l 0=0:=by rw [Qlz fun x hx=>(o3 x hx).1];rfl
 refine En [.slice (some p) l.length lc] 44 Tryz.func84 ?_;refine VS [0] ?_;refine VQ [0,3] fun K hK=>?_;refine Qbi X4 zi51 ?_;refine Qs ?_;refine ⟨l.length,l.length,⟨rfl,rfl,by omega,by omega,by omega⟩,?_⟩;have hH:=(Yx w).row 51 (n:=l.length) (cap:=l.length) (sz:=1) (tabV l fun _=>none) [] (by rw [Qmc];omega) (by rw [Yl,Qmc];omega) (by omega) (by omega);rw [Yl,Qxj] at hH;generalize w.alloc (Yv (Ya l.length (Xh none 0 0)).toArray 51)=w1 at *;generalize w.heap.size=g at *;rw [<- Qxj] at hH;(try refine Qs ?_);apply hK;clear hK;refine VS [0,3,4] ?_;refine VS [0,3,4,5] ?_;refine Qac ?_;refine Qad [0,3,4,5] (fun m e w'=>∃ (n:Nat) (hs:Nat->Option Nat) (G:List Res),Is e [(0,.slice (some p) l.length lc),(3,.slice (some ⟨g,0,none⟩) l.length l.length),(4,.int .i64 (Qbf l n+cnt l n:Nat)),(5,.int .i64 (n+1:Nat))]/\(Heap w [] w' (Yt 51 1 (some ⟨g,0,none⟩) l.length l.length (tabV l hs)::G)/\(∀ j gj,hs j=some gj->QO9 l j gj∈G))/\n<=20/\(∀ j,j < l.length->l.getD j 0<=n->(hs j).isSome=true)/\m=20 - n) 20 ?_ ?_
 ·
  refine Qs ?_;refine ⟨0,_,[],?_,⟨hH,fun j gj h=>by cases h⟩,by omega,fun j hj h=>?_,rfl⟩
  ·
   rw [h0];rfl
  have:=Qnl hok hj;omega
 clear hH;rintro m e w' ⟨n,hs,G,rfl,⟨hH,hG⟩,hn,hall,rfl⟩;have hb20:=QLr hok hn;refine VS [0,3,4,5,13] ?_;refine VD (fun h=>?_) (fun h=>?_)
 ·
  have hn':n < 20:=by omega
  have hb21:=QLr hok (show n+1<=20 by omega);refine VC_skip ?_;refine VB ?_;have hf:Qbf l (n+1)=2 * (Qbf l n+cnt l n):=rfl;refine VQ [0,3,4,5] fun K hK=>?_;(repeat first | refine Qo ?_ | refine Qp ?_);rw [show ((Qbf l n+cnt l n:Nat):Int) * 2=((Qbf l (n+1):Nat):Int) by omega];apply hK;clear hK;refine VS [0,3,4,5,6] ?_;refine Qac ?_;refine Qad [0,3,4,5,6] (fun m e w'=>∃ (i:Nat) (hs:Nat->Option Nat) (G:List Res),Is e [(0,.slice (some p) l.length lc),(3,.slice (some ⟨g,0,none⟩) l.length l.length),(4,.int .i64 (Qbf l (n+1)+(idxN l (n+1) i).length:Nat)),(5,.int .i64 (n+1:Nat)),(6,.int .i64 i)]/\(Heap w [] w' (Yt 51 1 (some ⟨g,0,none⟩) l.length l.length (tabV l hs)::G)/\(∀ j gj,hs j=some gj->QO9 l j gj∈G))/\i<=l.length/\(∀ j,j < l.length->l.getD j 0<=n∨(l.getD j 0=n+1/\j < i)->(hs j).isSome=true)/\m=l.length - i) l.length ?_ ?_
  ·
   refine Qs ?_;exact ⟨0,hs,G,rfl,⟨hH,hG⟩,by omega,fun j hj h=>hall j hj (by omega),rfl⟩
  clear hH hG hall;clear G hs;rintro m e w2 ⟨i,hs,G,rfl,⟨hH,hG⟩,hi,hall,rfl⟩;refine VS [0,3,4,5,6,21] ?_;refine VD (fun h=>?_) (fun h=>?_)
  ·
   have hi':i < l.length:=by omega
   have hcell:=Qbr (hH.rs' hr) hi';have hsu:=Qic l (n+1) i;refine VC_skip ?_;refine VB ?_;refine VQ [0,3,4,5,6,29] fun K hK=>?_;refine ⟨⟨by omega,by omega⟩,_,hcell,?_⟩;(try refine Qs ?_);(repeat refine Qo ?_);apply hK;clear hK;refine VD (fun h=>?_) (fun h=>?_)
   ·
    have he:l.getD i 0=n+1:=by omega
    rw [if_pos he] at hsu;have hcs:Qe5 l i=Qbf l (n+1)+(idxN l (n+1) i).length:=by rw [Qe5,he]
    have hclt:=(Ql0 hok hi').2.1;rw [he,hcs] at hclt;have hwd:Qas (n+1) (Qbf l (n+1)+(idxN l (n+1) i).length)=Qib l i:=by rw [Qib,he,hcs]
    have hnx:Qbf l (n+1)+(idxN l (n+1) (i+1)).length=Qbf l (n+1)+(idxN l (n+1) i).length+1:=by rw [hsu,Yn];rfl
    generalize Qbf l (n+1)+(idxN l (n+1) i).length=code at *;refine VQ [0,3,4,5,6,7] fun K hK=>?_;rw [show (code:Int) % 18446744073709551616=(code:Nat) by omega];refine MemK_call Gq ?_;refine Qs ?_;refine Yk (Qd0 code (n+1) (by omega) (by omega) w2) ?_;rintro v w3 ⟨g2,hHb,rfl⟩;rw [hwd] at hHb;have hH2:=hH.call0 hHb;simp only [Y3] at hH2;clear hHb hH;(try refine Qs ?_);apply hK;clear hK;refine VQ [0,3,4,5,6] fun K hK=>?_;refine Qp ?_;refine Qaa ?_;refine Qs ?_;refine Qaz hH2 1 (o:=i) (vs:=[.slice (some ⟨g2,0,none⟩) (n+1) (n+1)]) rfl (by simp [Qbg]) rfl (by kernel_rfl) (by simp only [Yz,Qmc];omega) (by simp [Yh]) fun w4 hH3=>?_;have hset:=QKr l hs i g2;rw [he] at hset;simp only [Yz,Qcb _ _ _ (show i < (tabV l hs).length by rw [Qmc];omega),Yb,Yc] at hH3;rw [hset] at hH3;have hH4:=hH3.perm (.swap _ _ _);clear hH2 hH3;(try refine Qs ?_);apply hK;clear hK;refine VQ [0,3,4,5,6] fun K hK=>?_;(repeat first | refine Qo ?_ | refine Qp ?_);rw [show (code:Int)+1=((code+1:Nat):Int) by push_cast;rfl,<- hnx];apply hK;clear hK;refine Qaj ?_;refine VS [0,3,4,5,6] ?_;refine Qab ?_;refine Qs ?_;refine ⟨l.length - (i+1),by omega,i+1,_,_,rfl,⟨hH4,fun j gj hj=>?_⟩,by omega,fun j hj hh=>?_,rfl⟩
    ·
     by_cases e:j=i
     ·
      subst e;rw [if_pos rfl] at hj;cases hj;refine List.mem_cons.2 (.inl ?_);unfold QO9;rw [he]
     rw [if_neg e] at hj;exact U6 _ (hG j gj hj)
    by_cases e:j=i
    ·
     rw [if_pos e];rfl
    rw [if_neg e];exact hall j hj (by omega)
   have he:l.getD i 0≠n+1:=by omega
   rw [if_neg he,Yl] at hsu;refine VC_skip ?_;refine Qaj ?_;refine VS [0,3,4,5,6] ?_;refine Qab ?_;refine Qs ?_;refine ⟨l.length - (i+1),by omega,i+1,hs,G,by rw [hsu];rfl,⟨hH,hG⟩,by omega,fun j hj hh=>hall j hj ?_,rfl⟩;by_cases e:j=i
   ·
    subst e;omega
   omega
  obtain rfl:i=l.length:=by omega
  refine Qag rfl ?_;refine Qaj ?_;refine VS [0,3,4,5] ?_;refine Qab ?_;refine Qs ?_;exact ⟨20 - (n+1),by omega,n+1,hs,G,by push_cast;rfl,⟨hH,hG⟩,by omega,fun j hj hh=>hall j hj (by omega),rfl⟩
 obtain rfl:n=20:=by omega
 refine Qag rfl ?_;refine VS [2] ?_;refine VC_ret (VX_ret1 rfl rfl ⟨_,hH,fun u hu=>?_⟩);refine ⟨⟨g,0,none⟩,l.length,fun j=>⟨(hs j).getD 0,0,none⟩,rfl,?_,fun j hj=>?_⟩
 ·
  have hr0:=Qaq (hu _ (List.mem_cons_self ..))
  have e:tabV l hs=(Yq l.length).map fun j=>Xh (some ⟨(hs j).getD 0,0,none⟩) (l.getD j 0) (l.getD j 0):=by
   unfold tabV;refine Gd fun j hj=>?_;have hj:=X5.1 hj;have:=hall j hj (Qnl hok hj).2;obtain ⟨gj,hgj⟩:=Uo.1 this;rw [hgj];rfl
  rw [e] at hr0;exact hr0
 have:=hall j hj (Qnl hok hj).2;obtain ⟨gj,hgj⟩:=Uo.1 this
 show RS u (some ⟨(hs j).getD 0,0,none⟩) _ _ _
 rw [hgj];exact Qaq (hu _ (U6 _ (hG j gj hgj)))
set_option maxHeartbeats 2000000
theorem QB5 {l:List Bool}{n i:Nat} (hl:l.length=n) (hi:i < n):(numB l / 2 ^ (n - 1 - i)) % 2=(l.getD i false).toNat:=by
 rw [Qhe];have h:=Qhd n (numB l) i hi;rw [<- hl,Qmx,hl] at h;rw [Ye,h];rfl
theorem Qxk {l:List Bool} (hl:l.length=16):numB l < 65536:=by have:=Qes l;rw [hl] at this;exact this
def exV (r:Except Int (List UInt8×Nat)):Value:=match r with
 | .ok q=>.tuple #[Str q.1,.int .i64 q.2,.int .i64 0]
 | .error e=>.tuple #[Str [],.int .i64 0,.int .i64 e]
def Qev (i:Nat) (row:List Bool) (n:Nat):List UInt8:=((Yq n).filter fun k=>row.getD k false).map fun k=>Y4 (16 * i+k)
theorem Qri (i:Nat) (row:List Bool) (n:Nat):Qev i row (n+1)=Qev i row n++if row.getD n false=true then [Y4 (16 * i+n)] else []:=by
 unfold Qev;rw [Xx,Ui,List.map_append]
 congr 1
 by_cases h:row.getD n false=true
 ·
  rw [if_pos h,X3 (p:=fun k=>row.getD k false) h];rfl
 rw [if_neg h,Up (p:=fun k=>row.getD k false) h];rfl
theorem Qmd (i:Nat) (row:List Bool) (n:Nat):(Qev i row n).length<=n:=by
 unfold Qev;rw [U2];exact Nat.le_trans (X7 _ _) (by simp)
theorem Qxl (s:List UInt8) (at_:Nat) (ha:at_<=8 * s.length) (hs:s.length<=100000000000000) (w:World) :
  Does Yi 88 #[Str s,.int .i64 at_] w fun v w'=>Heap w [] w' []/\v=exV (Qey (Qap s) at_):=by
 have hbl:=Qaw s;generalize hbits:Qap s=bits at *;generalize hres:Qey bits at_=res;unfold Qey at hres;refine En [Str s,.int .i64 at_] 74 Tryz.func88 ?_;refine VS [0,1] ?_;refine VQ [7] fun K hK=>?_;refine MemK_call U4 ?_;refine Qs ?_;refine Yk (Qdt s at_ w (Y7 (by omega) (by omega)) (by omega)) ?_;rintro v w2 (⟨hbad,_⟩ | ⟨_,gr,gs,hH,rfl⟩)
 ·
  omega
 rw [Yo] at hH;apply hK;clear hK;refine VS [7,19] ?_;refine Qaf rfl rfl (fun h=>by cases h) (fun h=>VC_skip ?_);refine VQ [7,8,9] fun K hK=>?_;refine MemK_call Ua ?_;refine Qs ?_;refine Yk (Qex gr gs s at_ 16 w2 (by omega) (by omega) (by omega) (hH.focus 0 rfl)) ?_;rintro v w3 (⟨h1,rfl,rfl⟩ | ⟨h1,hH2,rfl⟩)
 ·
  rw [if_pos (by omega)] at hres;subst hres;apply hK;clear hK;refine VS [7,8,9,26] ?_;refine Qaf rfl rfl (fun h=>?_) (fun h=>by cases h);refine VS [4,5,6] ?_;exact VC_ret (Qcv rfl rfl rfl rfl ⟨hH.sub (by simp),rfl⟩)
 rw [if_neg (by omega)] at hres;have hH3:=hH.call1 0 rfl hH2;clear hH2 hH;rw [hbits];have hfl:((bits.drop at_).take 16).length=16:=by rw [Xd,Xi];omega
 generalize (bits.drop at_).take 16=fl at *;have hfl2:=Qxk hfl;apply hK;clear hK;refine VS [7,8,9,26] ?_;refine Qaf rfl rfl (fun h=>by cases h) (fun h=>VC_skip ?_);refine VQ [7,8,10] fun K hK=>?_;refine Qbb hH3 (Qar []) (xs:=[]) Yp sz5 rfl rfl rfl (by omega) ?_;refine Qs ?_;refine ⟨rfl,by simp [Y9],fun g w4 hH4=>?_⟩;(try refine Qs ?_);apply hK;clear hK;refine VS [7,8,10,29] ?_;refine Qac ?_;refine Qad [7,8,10,29] (fun m e w'=>∃ (i cap p:Nat) (a:Option Addr) (out:List UInt8),Is e [(7,.pointer (some ⟨gr,0,none⟩)),(8,.int .u64 (numB fl)),(10,.slice a out.length cap),(29,.int .i64 i)]/\Heap w [] w' [Yt 5 1 a out.length cap (Qar out),rd gr gs s p]/\i<=16/\p<=8 * s.length/\out.length<=16 * i/\(match stGo bits (fl.drop i) i p with | .error e=>.error e | .ok q=>if out++q.1=[] then .error 60 else .ok (out++q.1,q.2))=res/\m=16 - i) 16 ?_ ?_
 ·
  refine Qs ?_;refine ⟨0,_,at_+16,_,[],rfl,hH4,by omega,by omega,by simp,?_,rfl⟩;rw [Y2,<- hres];cases stGo bits fl 0 (at_+16) <;> rfl
 clear hH3 hH4 hres;rintro m e w' ⟨i,cap,p,a,out,rfl,hH,hi,hp,hol,hres,rfl⟩;refine VS [7,8,10,29,30] ?_;(repeat refine Qax ?_);refine VD (fun h=>?_) (fun h=>?_)
 ·
  have hdi:fl.drop i=fl.getD i false::fl.drop (i+1):=drop_getD false (by omega);rw [hdi] at hres;have hbit:=QB5 hfl (i:=i) (by omega);refine VC_skip ?_;refine VB ?_;refine VS [7,8,10,11,29] ?_;have hsh:shN IntKind.u64 ((15 - (i:Int)) % 18446744073709551616)=16 - 1 - i:=Qtk (by omega) (by simp [IntKind.bits];omega) (by decide);refine VQ [7,8,10,11,29,38] fun K hK=>?_;rw [hsh,Qgs];have hle:=Nat.div_le_self (numB fl) (2 ^ (16 - 1 - i));generalize numB fl / 2 ^ (16 - 1 - i)=q at *;(repeat first | refine Qo ?_ | refine Qp ?_);rw [show Uh 1=1 from rfl,Yo,Uj,hbit];apply hK;clear hK;cases hfi:fl.getD i false with
  | false =>
   rw [hfi,stGo] at hres;refine Qaf rfl rfl (fun h=>?_) (fun h=>by simp [hfi] at h);refine Qag rfl ?_;refine VS [7,8,10,29] ?_;refine Qab ?_;refine Qs ?_;exact ⟨16 - (i+1),by omega,i+1,cap,p,a,out,rfl,hH,by omega,hp,by omega,hres,rfl⟩
  | true =>
   rw [hfi,stGo] at hres;refine Qaf rfl rfl (fun h=>by simp [hfi] at h) (fun h=>VC_skip ?_);refine VQ [7,8,10,11,12,13,29] fun K hK=>?_;refine MemK_call Ua ?_;refine Qs ?_;refine Yk (Qex gr gs s p 16 w' (by omega) (by omega) (by omega) (hH.focus 1 rfl)) ?_;rintro v w3 (⟨h1,rfl,rfl⟩ | ⟨h1,hH2,rfl⟩)
   ·
    rw [if_pos (by omega)] at hres;subst hres;apply hK;clear hK;refine VS [7,8,10,11,12,13,29,45] ?_;refine Qaf rfl rfl (fun h=>?_) (fun h=>by cases h);refine VS [4,5,6] ?_;exact VC_ret (Qcv rfl rfl rfl rfl ⟨hH.sub (by simp),rfl⟩)
   rw [if_neg (by omega)] at hres;have hH3:=hH.call1 1 rfl hH2;simp only [Yc,Yb,Yf] at hH3;clear hH2 hH;rw [hbits];have hrow:((bits.drop p).take 16).length=16:=by rw [Xd,Xi];omega
   generalize (bits.drop p).take 16=row at *;have hrow2:=Qxk hrow;apply hK;clear hK;refine VS [7,8,10,11,12,13,29,45] ?_;refine Qaf rfl rfl (fun h=>by cases h) (fun h=>VC_skip ?_);refine VS [7,8,10,11,12,29,47] ?_;refine Qac ?_;refine Qad [7,8,10,11,12,29,47] (fun m e w'=>∃ (k cap:Nat) (a:Option Addr),Is e [(7,.pointer (some ⟨gr,0,none⟩)),(8,.int .u64 (numB fl)),(10,.slice a (out++Qev i row k).length cap),(11,.int .i64 i),(12,.int .u64 (numB row)),(29,.int .i64 i),(47,.int .i64 k)]/\Heap w [] w' [Yt 5 1 a (out++Qev i row k).length cap (Qar (out++Qev i row k)),rd gr gs s (p+16)]/\k<=16/\m=16 - k) 16 ?_ ?_
   ·
    refine Qs ?_;have e0:out++Qev i row 0=out:=by simp [Qev]
    refine ⟨0,cap,a,by rw [e0];rfl,by rw [e0];exact hH3,by omega,rfl⟩
   clear hH3;rintro m e w4 ⟨k,cap,a,rfl,hH,hk,rfl⟩;refine VS [7,8,10,11,12,29,47,48] ?_;(repeat refine Qax ?_);refine VD (fun h=>?_) (fun h=>?_)
   ·
    have hbk:=QB5 hrow (i:=k) (by omega);have hsucc:=Qri i row k;have hlen:=Qmd i row k;refine VC_skip ?_;refine VB ?_;refine VS [7,8,10,11,12,14,29,47] ?_;have hsh2:shN IntKind.u64 ((15 - (k:Int)) % 18446744073709551616)=16 - 1 - k:=Qtk (by omega) (by simp [IntKind.bits];omega) (by decide);refine VQ [7,8,10,11,12,14,29,47,56] fun K hK=>?_;rw [hsh2,Qgs];have hle2:=Nat.div_le_self (numB row) (2 ^ (16 - 1 - k));generalize numB row / 2 ^ (16 - 1 - k)=q2 at *;(repeat first | refine Qo ?_ | refine Qp ?_);rw [show Uh 1=1 from rfl,Yo,Uj,hbk];apply hK;clear hK;cases hrk:row.getD k false with
    | true =>
     rw [hrk,if_pos rfl] at hsucc;refine Qaf rfl rfl (fun h=>?_) (fun h=>by simp [hrk] at h);refine VQ [7,8,10,11,12,29,47] fun K hK=>?_;(repeat first | refine Qo ?_ | refine Qp ?_);rw [show ((16 * (i:Int)+k) % 256)=((Y4 (16 * i+k)).toNat:Int) by rw [Gi];omega];refine Qcd (xs:=[.tmp 62]) Yp sz5 rfl rfl rfl (by omega) ?_;refine Qs ?_;refine ⟨by simp [Y9],?_⟩;refine Qai ?_;refine Qs ?_;refine Qg9 hH 0 (Y4 (16 * i+k)) rfl Yp zi5 (by first | rfl | (simp;done) | omega) (fun h=>by (first | omega | (simp;done) | (simp;omega))) fun a' cap' w5 hc' hH4=>?_;(try refine Qs ?_);rw [Yj,<- hsucc] at hH4 ⊢;apply hK;clear hK;refine Qaj ?_;refine VS [7,8,10,11,12,29,47] ?_;refine Qab ?_;refine Qs ?_;exact ⟨16 - (k+1),by omega,k+1,cap',a',rfl,hH4,by omega,rfl⟩
    | false =>
     rw [hrk,if_neg (by simp),Yl] at hsucc;refine Qaf rfl rfl (fun h=>by simp [hrk] at h) (fun h=>VC_skip ?_);refine Qaj ?_;refine VS [7,8,10,11,12,29,47] ?_;refine Qab ?_;refine Qs ?_;exact ⟨16 - (k+1),by omega,k+1,cap,a,by rw [hsucc];rfl,by rw [hsucc];exact hH,by omega,rfl⟩
   obtain rfl:k=16:=by omega
   have hlen:=Qmd i row 16;refine Qag rfl ?_;refine Qaj ?_;refine VS [7,8,10,29] ?_;refine Qab ?_;refine Qs ?_;refine ⟨16 - (i+1),by omega,i+1,cap,p+16,a,out++Qev i row 16,rfl,hH,by omega,by omega,by simp;omega,?_,rfl⟩;rw [<- hres];cases stGo bits (fl.drop (i+1)) (i+1) (p+16) with
   | error e=>rfl
   | ok q=>simp only [Yj];rfl
 obtain rfl:i=16:=by omega
 rw [List.drop_eq_nil_of_le (by omega),stGo] at hres;simp only [Yl] at hres;refine Qag rfl ?_;refine VS [7,10,69] ?_;refine VD (fun h=>?_) (fun h=>VC_skip ?_)
 ·
  rw [if_pos (Y0 (by omega))] at hres;subst hres;refine VS [4,5,6] ?_;exact VC_ret (Qcv rfl rfl rfl rfl ⟨hH.sub (by simp),rfl⟩)
 rw [if_neg (fun e=>h (by rw [e];rfl))] at hres;subst hres;refine Vq [4,5,6] fun K hK=>?_;refine ⟨out,hH.readsBytes 0 rfl,?_⟩;refine Qyv Gl ?_;refine Qs ?_;refine QCallK.mk (Qpr gr gs p s w' (hH.at 1 rfl)) ?_;apply hK;clear hK;exact VC_ret (Qcv rfl rfl rfl rfl ⟨hH.sub (by simp),rfl⟩)
theorem Qem (d:Array Int) (p:Nat):d.toList.getD p 0=d[p]! := by
 simp only [Ye,getElem!_def,Array.getElem?_toList];cases d[p]? <;> rfl
theorem Qi0 (d:Array Int) {i:Nat} (v:Int) (j:Nat) (hi:i < d.size):(d.setIfInBounds i v)[j]! = if j=i then v else d[j]! := by
 simp only [getElem!_def,Array.getElem?_setIfInBounds];by_cases h:i=j
 ·
  subst h;simp [hi]
 simp [h,Ne.symm h]
theorem Qxm (n k:Nat):(Array.replicate n (0:Int))[k]! = 0:=by
 simp only [getElem!_def,Array.getElem?_replicate];split <;> rename_i h
 ·
  split at h <;> simp_all
 rfl
theorem QHd {w0 w:World}{B:List Nat}{G:List Res} (hH:Heap w0 B w G) (n:Nat) (hn:n<=1000000000000):Heap w0 B (w.alloc (.cells (Ya n (Y1 .i64 0)).toArray 3)) (arr w.heap.size n (Array.replicate n 0)::G):=by
 have h:=hH.row 3 (n:=n) (cap:=n) (sz:=1) (Ya n (.int .i64 0)) [] (by simp) (by simp) (by omega) (by omega);rw [Yl] at h;rw [arr,Array.size_replicate,Array.toList_replicate,<- intsV_zero];exact h
abbrev Qrj (g cap:Nat) (rk:List Int):Res:=Yt 3 1 (some ⟨g,0,none⟩) rk.length cap (Qat rk)
abbrev ptr (g:Nat):Value:=.pointer (some ⟨g,0,none⟩)
theorem QEg (rk:List Int) (gr cr by_ go co gn gs:Nat) (d:Array Int) (hrk:Qlr rk) (hby:by_<=10000000000) (hn:d.size<=1000000000) (hn0:0 < d.size) (hl:rk.length=d.size) (hp:d.toList.Perm (Qfj d.size)) (w0 w:World) (B:List Nat) (G:List Res)
  (hL:Heap w0 B w (arr go co d::Qrj gr cr rk::Ym gn 3 [.int .i64 d.size]::Ym gs 51 [sl go co d]::G)) :
  Does Yi 92 #[Qzh ⟨gr,0,none⟩ rk.length cr by_,ptr gn,ptr gs] w
   fun v w'=>∃ (gx:Nat) (nx:Array Int),nx.size=d.size/\(∀ p,p < d.size->nx[(d[p]!).toNat]! = rsum rk by_ d.toList p)/\Heap w0 B w' (Qrj gx d.size nx.toList::arr go co d::Qrj gr cr rk::Ym gn 3 [.int .i64 d.size]::Ym gs 51 [sl go co d]::G)/\v=sl gx d.size nx:=by
 have hin:∀ p,p < d.size->0<=d[p]! /\ d[p]! < d.size:=fun p h=>by
  have:=Qzk hp (p:=p) (by simpa using h)
  rwa [Qem] at this
 have hinj:∀ p q,p < d.size->q < d.size->d[p]! = d[q]! -> p=q:=fun p q h1 h2 e=>by
  refine QJ9 hp (p:=p) (q:=q) (by simpa using h1) (by simpa using h2) ?_;rw [Qem,Qem,e]
 refine En [Qzh ⟨gr,0,none⟩ rk.length cr by_,ptr gn,ptr gs] 69 Tryz.func92 ?_;refine VQ [1,2,3] fun K hK=>?_;refine Qch ?_;refine Qs ?_;have hH:=hL.box 134 [.slice (some ⟨gr,0,none⟩) rk.length cr,.int .i64 by_];generalize w.alloc (Yv [Xh (some ⟨gr,0,none⟩) rk.length cr,.int .i64 by_].toArray 134)=w1 at *;generalize w.heap.size=gb at *;apply hK;clear hK;refine VQ [1,2,3,5] fun K hK=>?_;refine ⟨_,Qah (hH.at 3 rfl) rfl,?_⟩;refine Qbi Yg zi3 ?_;refine Qs ?_;refine ⟨d.size,d.size,⟨rfl,rfl,by omega,by omega,by omega⟩,?_⟩;have hH1:=QHd hH d.size (by omega);generalize w1.alloc (Yv (Ya d.size (Y1 .i64 0)).toArray 3)=w2 at *;generalize w1.heap.size=gx at *;apply hK;clear hK;refine VS [1,2,3,5,6] ?_;refine Qac ?_;refine Qad [1,2,3,5,6] (fun m e w'=>∃ (k:Nat) (nx:Array Int),Is e [(1,ptr gn),(2,ptr gs),(3,ptr gb),(5,.slice (some ⟨gx,0,none⟩) d.size d.size),(6,.int .i64 k)]/\Heap w0 B w' (arr gx d.size nx::Ym gb 134 [.slice (some ⟨gr,0,none⟩) rk.length cr,.int .i64 by_]::arr go co d::Qrj gr cr rk::Ym gn 3 [.int .i64 d.size]::Ym gs 51 [sl go co d]::G)/\nx.size=d.size/\1<=k/\k<=d.size/\(∀ p,p < k->nx[(d[p]!).toNat]! = rsum rk by_ d.toList p)/\m=d.size - k) (d.size - 1) ?_ ?_
 ·
  refine Qs ?_;refine ⟨1,Array.replicate d.size 0,rfl,hH1,by simp,by omega,by omega,fun p hp=>?_,rfl⟩;obtain rfl:p=0:=by omega
  rw [Qxm];rfl
 clear hH hH1;rintro m e w3 ⟨k,nx,rfl,hH,hs,hk1,hk2,hnx,hm⟩;refine VQ [1,2,3,5,6,15] fun K hK=>?_;refine ⟨_,Qah (hH.at 4 rfl) rfl,?_⟩;refine Qs ?_;apply hK;clear hK;refine VD (fun h=>?_) (fun h=>?_)
 ·
  refine VC_skip ?_;refine VB ?_;obtain ⟨i1,hi1⟩:∃ i1:Nat,d[k - 1]! = i1:=⟨(d[k - 1]!).toNat,by have:=hin (k - 1) (by omega);omega⟩;obtain ⟨i2,hi2⟩:∃ i2:Nat,d[k]! = i2:=⟨(d[k]!).toNat,by have:=hin k (by omega);omega⟩;have hb1:=hin (k - 1) (by omega);have hb2:=hin k (by omega);have hne:i1≠i2:=fun e=>by have:=hinj (k - 1) k (by omega) (by omega) (by rw [hi1,hi2,e]);omega
  have hrs:rsum rk by_ d.toList k=rsum rk by_ d.toList (k - 1)+if kEq rk by_ i1 i2 then 0 else 1:=by
   obtain ⟨j,rfl⟩:∃ j,k=j+1:=⟨k - 1,by omega⟩;rw [Gj] at *;rw [rsum,Qem,Qem,hi1,hi2]
  have hkeq:kEq rk by_ i1 i2=(decide (rk.getD i1 0=rk.getD i2 0) && decide (rk.getD ((i1+by_) % rk.length) 0=rk.getD ((i2+by_) % rk.length) 0)):=by
   simp only [kEq,keyA,keyB,Yo];rfl
  refine VH _ (Ext.refl _) [1,2,3,5,6,7,8] [(0,true),(1,true),(2,true),(3,true),(4,true),(5,true),(6,false),(7,true),(8,true),(9,true),(10,true),(11,true)] fun K hK=>?_;refine ⟨[.slice (some ⟨gr,0,none⟩) rk.length cr,.int .i64 by_],⟨rfl,Qay (hH.at 1 rfl)⟩,_,Qah (hH.at 5 rfl) rfl,Y7 (by omega) (by omega),?_⟩;refine Qs ?_;refine ⟨⟨by omega,by omega⟩,_,Qa4 (hH.at 2 rfl) (by omega),?_⟩;rw [hi1];refine MemK_call Tryz.call93 ?_;refine Qs ?_;refine Yk (Qoh rk ⟨gr,0,none⟩ cr by_ i1 (by omega) hby (by omega) w3 (Qaq (hH.at 3 rfl))) ?_;rintro v w4 ⟨hH2,rfl⟩;have hH3:=hH.call0 hH2;simp only [Yf] at hH3;clear hH;refine ⟨hH2.ext,?_⟩;apply hK;clear hK;simp only [U7,Uw,Ux];clear hH2;refine VH _ (Ext.refl _) [1,2,3,5,6,7,8,9,10] [(0,true),(1,true),(2,true),(3,true),(4,true),(5,false),(6,true),(7,true),(8,true),(9,true),(10,true)] fun K hK=>?_;refine ⟨[.slice (some ⟨gr,0,none⟩) rk.length cr,.int .i64 by_],⟨rfl,Qay (hH3.at 1 rfl)⟩,_,Qah (hH3.at 5 rfl) rfl,?_⟩;refine Qs ?_;refine ⟨⟨by omega,by omega⟩,_,Qa4 (hH3.at 2 rfl) (by omega),?_⟩;rw [hi2];refine MemK_call Tryz.call93 ?_;refine Qs ?_;refine Yk (Qoh rk ⟨gr,0,none⟩ cr by_ i2 (by omega) hby (by omega) w4 (Qaq (hH3.at 3 rfl))) ?_;rintro v w5 ⟨hH4,rfl⟩;have hH:=hH3.call0 hH4;simp only [Yf] at hH;clear hH3;refine ⟨hH4.ext,?_⟩;apply hK;clear hK;simp only [U7,Uw,Ux];clear hH4;generalize rk.getD i1 0=ka at *;generalize rk.getD i2 0=kb at *;generalize rk.getD ((i1+by_) % rk.length) 0=kc at *;generalize rk.getD ((i2+by_) % rk.length) 0=kd at *;refine VL [1,2,3,5,6,7,8,9,10] 14 fun K hK=>?_;refine ⟨_,Qah (hH.at 5 rfl) rfl,?_⟩;refine Qs ?_;refine ⟨⟨by omega,by omega⟩,_,Qa4 (hH.at 2 rfl) (by omega),_,Qah (hH.at 5 rfl) rfl,Y7 (by omega) (by omega),?_⟩;refine Qs ?_;refine ⟨⟨by omega,by omega⟩,_,Qa4 (hH.at 2 rfl) (by omega),?_⟩;rw [hi1,hi2];refine Qs ?_;refine ⟨⟨by omega,by omega⟩,_,Qa4 (hH.at 0 rfl) (by omega),⟨by omega,by omega⟩,?_⟩;refine Qaa ?_;refine Qs ?_;refine Qa6 hH 0 (o:=(i2)) rfl (by first | rfl | (simp;done) | (congr 1;omega)) (by first | omega | (simp;omega)) fun w6 hS1=>?_;simp only [Yb] at hS1;(try refine Qs ?_);have hr1:=hnx (k - 1) (by omega);rw [hi1,Yo] at hr1;have hr2:=Qzi rk by_ d.toList (k - 1);have hs1:(nx.setIfInBounds i2 nx[i1]!).size=d.size:=by simp [hs]
  have hnx1:∀ p,p < k->(nx.setIfInBounds i2 nx[i1]!)[(d[p]!).toNat]! = rsum rk by_ d.toList p:=fun p hp2=>by
   rw [Qi0 _ _ _ (by omega),if_neg,hnx p hp2];intro e;have h1:=hin p (by omega);have:=hinj p k (by omega) (by omega) (by omega);omega
  have hk0:(nx.setIfInBounds i2 nx[i1]!)[i2]! = rsum rk by_ d.toList (k - 1):=by rw [Qi0 _ _ _ (by omega),if_pos rfl,hr1]
  clear hnx hr1 hH hs;generalize nx.setIfInBounds i2 nx[i1]! = nx1 at *;apply hK;clear hK;refine VQ [1,2,3,5,6,58] fun K hK=>?_
  suffices hall:∀ bb:Bool,kEq rk by_ i1 i2=!bb->K [(1,ptr gn),(2,ptr gs),(3,ptr gb),(5,.slice (some ⟨gx,0,none⟩) d.size d.size),(6,.int .i64 k),(58,.bool bb)] w6 by
   refine ⟨fun h=>hall _ ?_,fun h=>hall _ ?_⟩
   ·
    rw [hkeq];simp only [Decidable.not_not] at h;simp [h]
   rw [hkeq];simp [h]
  intro bb hbb;rw [hbb] at hrs;clear hbb hkeq;apply hK;clear hK;refine Vi (fun h=>?_) (fun h=>?_)
  ·
   subst h;simp only [Bool.not_true,Bool.false_eq_true,if_false] at hrs;refine VQ [1,2,3,5,6] fun K hK=>?_;refine ⟨_,Qah (hS1.at 5 rfl) rfl,?_⟩;refine Qs ?_;refine ⟨⟨by omega,by omega⟩,_,Qa4 (hS1.at 2 rfl) (by omega),?_⟩;rw [hi2];refine Qs ?_;refine ⟨⟨by omega,by omega⟩,_,Qa4 (hS1.at 0 rfl) (by omega),?_⟩;rw [hk0];refine Qs ?_;refine ⟨Y7 (by omega) (by omega),⟨by omega,by omega⟩,?_⟩;refine Qaa ?_;refine Qs ?_;refine Qa6 hS1 0 (o:=(i2)) rfl (by first | rfl | (simp;done) | (congr 1;omega)) (by first | omega | (simp;omega)) fun w6 hS2=>?_;simp only [Yb] at hS2;(try refine Qs ?_);apply hK;clear hK;refine Qaj ?_;refine VS [1,2,3,5,6] ?_;refine Qab ?_;refine Qs ?_;refine ⟨d.size - (k+1),by omega,k+1,_,rfl,hS2,by simp [hs1],by omega,by omega,fun p hp2=>?_,rfl⟩;rw [Qi0 _ _ _ (by omega)];by_cases hpk:p=k
   ·
    subst hpk;rw [hi2,Yo,if_pos rfl,hrs];omega
   rw [if_neg,hnx1 p (by omega)];intro e;have h1:=hin p (by omega);have:=hinj p k (by omega) (by omega) (by omega);omega
  subst h;simp only [Bool.not_false,if_true,Nat.add_zero] at hrs;refine VC_skip ?_;refine Qaj ?_;refine VS [1,2,3,5,6] ?_;refine Qab ?_;refine Qs ?_;refine ⟨d.size - (k+1),by omega,k+1,nx1,rfl,hS1,hs1,by omega,by omega,fun p hp2=>?_,rfl⟩;by_cases hpk:p=k
  ·
   subst hpk;rw [hi2,Yo,hk0,hrs]
  exact hnx1 p (by omega)
 obtain rfl:k=d.size:=by omega
 refine Qag rfl ?_;refine VS [4] ?_;refine VC_ret (VX_ret1 rfl rfl ?_);refine ⟨gx,nx,hs,hnx,?_,by rw [sl,hs]⟩;have h5:Heap w0 B w3 (arr gx d.size nx::arr go co d::Qrj gr cr rk::Ym gn 3 [.int .i64 d.size]::Ym gs 51 [sl go co d]::G):=hH.sub (by simp);rw [arr,hs] at h5;rw [Qrj,show nx.toList.length=d.size by simpa using hs];exact h5
abbrev zarr (g n:Nat):Res:=arr g n (Array.replicate n 0)
abbrev zsl (g n:Nat):Value:=.slice (some ⟨g,0,none⟩) n n
theorem QHe {P:Program}{N:Nat}{ops:List Oper}{w0:World}{e:Env}{w:World}{K:Env->World->Prop}:vcH P N ops w0 [] e w K=K e w:=rfl
set_option maxHeartbeats 4000000 in
theorem QEh (l:List UInt8) (hl:l.length<=100000000) (w:World):Does Yi 56 #[Str l] w
  fun v w'=>∃ (go:Nat) (σ:List Nat),Ordered l σ/\Heap w [] w' [Yt 3 1 (some ⟨go,0,none⟩) l.length l.length (Qat (σ.map fun i:Nat=>(i:Int)))]/\v=.slice (some ⟨go,0,none⟩) l.length l.length:=by
 refine En [Str l] 57 Tryz.func56 ?_;generalize hn:l.length=n at *;refine VS [0] ?_;refine VQ [0,3] fun K hK=>?_;refine Qao (.int .i64 0) (by kernel_rfl) ?_;refine Qs ?_;have hH0:=(Yx w).box 3 [.int .i64 0];generalize w.alloc (Yv [Y1 .i64 0].toArray 3)=w1 at *;generalize w.heap.size=gn at *;rw [hn];refine Qaa ?_;refine Qs ?_;refine Qae hH0 0 (vs:=[.int .i64 n]) rfl rfl (by kernel_rfl) (by first | decide | (simp;done) | (simp;omega)) (by simp [Yh]) fun w6 hH=>?_;(try refine Qs ?_);apply hK;clear hK;clear hH0;generalize w6=w1 at *;refine V3 w1 (Ext.refl _) [0,3,4,5] (.three [(0,true),(2,true)] 1 3 4 (.two [] 3 4 (.seq [(4,false),(5,false),(6,true)]) (.two [] 3 5 (.seq [(5,false),(6,true)]) (.seq [(3,false),(6,true)]))) (.two [] 1 4 (.seq [(4,false),(5,false),(6,true)]) (.seq [(1,false),(5,false),(6,true)])) (.two [] 1 3 (.two [] 3 5 (.seq [(5,false),(6,true)]) (.seq [(3,false),(6,true)])) (.seq [(1,false),(5,false),(6,true)]))) fun K hK=>?_
 suffices out:∀ go gf gs w2,Heap w1 [] w2 [zarr go n,zarr gf n,Ym gs 51 [zsl go n]]->K [(0,Str l),(3,ptr gn),(4,ptr gs),(5,zsl gf n)] w2 by
  simp only [vcT3,Qbd,List.filterMap_cons,List.filterMap_nil,List.getElem?_cons_succ,List.getElem?_cons_zero,Option.map_some];refine Qs ?_;refine ⟨_,Qah (hH.at 0 rfl) rfl,_,Qah (hH.at 0 rfl) rfl,?_⟩;have hX:=Yx w1
  repeat' (first
   | (refine Qbi Yg zi3 ?_;refine Qs ?_;refine ⟨n,n,⟨rfl,rfl,by omega,by omega,by omega⟩,?_⟩;have hX:=QHd hX n (by omega);skip;refine ⟨hX.ext,?_⟩;skip)
   | (refine Qao (.slice none 0 0) (by kernel_rfl) ?_;refine Qs ?_;have hX:=hX.box 51 [.slice none 0 0];skip;refine ⟨hX.ext,?_⟩;skip)
   | (refine Qaa ?_;refine Qs ?_;first
     | (refine Qae hX 0 (vs:=[_]) rfl rfl (by kernel_rfl) (by first | decide | (simp;done)) (by simp [Yh]) fun w6 hX=>?_;simp only [Yb,Yc] at hX;skip;refine ⟨hX.ext,?_⟩;skip)
     | (refine Qae hX 1 (vs:=[_]) rfl rfl (by kernel_rfl) (by first | decide | (simp;done)) (by simp [Yh]) fun w6 hX=>?_;simp only [Yb,Yc] at hX;skip;refine ⟨hX.ext,?_⟩;skip)
     | (refine Qae hX 2 (vs:=[_]) rfl rfl (by kernel_rfl) (by first | decide | (simp;done)) (by simp [Yh]) fun w6 hX=>?_;simp only [Yb,Yc] at hX;skip;refine ⟨hX.ext,?_⟩;skip))
   | (simp only [QHe];skip)
   | refine And.intro ?_ ?_)
  all_goals first
   | exact out _ _ _ _ hX
   | exact out _ _ _ _ (hX.front 1 rfl)
   | exact out _ _ _ _ (hX.front 2 rfl)
   | exact out _ _ _ _ ((hX.front 1 rfl).front 2 rfl)
   | exact out _ _ _ _ ((hX.front 2 rfl).front 2 rfl)
   | exact out _ _ _ _ ((hX.front 2 rfl).front 1 rfl)
 intro go gf gs w2 hX;have hH2:=hH.call0 hX;simp only [Yb,Y5,Yf] at hH2;have hG:Heap w [] w2 [zarr go n,zarr gf n,Ym gs 51 [zsl go n],Ym gn 3 [.int .i64 n]]:=hH2;clear hX hH hH2;apply hK;clear hK;refine VQ [0,3,4,5,16,17] fun K hK=>?_;refine ⟨_,Qah (hG.at 3 rfl) rfl,?_⟩;apply hK;clear hK;refine Qac ?_;refine Qad [0,3,4,5,16,17] (fun m e w'=>∃ (i:Nat) (D F:Array Int),Is e [(0,Str l),(3,ptr gn),(4,ptr gs),(5,zsl gf n),(16,.int .i64 n),(17,.int .i64 i)]/\Heap w [] w' [arr go n D,arr gf n F,Ym gs 51 [zsl go n],Ym gn 3 [.int .i64 n]]/\D.size=n/\F.size=n/\i<=n/\(∀ p,p < i->D[p]! = p/\F[p]! = (l.getD p 0).toNat)/\m=n - i) n ?_ ?_
 ·
  refine Qs ?_;exact ⟨0,_,_,rfl,hG,by simp,by simp,by omega,fun p hp=>by omega,rfl⟩
 clear hG;rintro m e w3 ⟨i,D,F,rfl,hH,hD,hF,hi,hDF,hm⟩;refine VS [0,3,4,5,16,17,18] ?_;(repeat refine Qax ?_);refine VD (fun h=>?_) (fun h=>?_)
 ·
  refine VC_skip ?_;refine VB ?_;refine VS [0,3,4,5,6,16,17] ?_;refine Vb [0,3,4,5,16,17] [(1,0),(2,0),(3,0),(4,0),(5,0),(6,0),(7,0),(8,0),(0,1),(9,0),(10,2),(11,0),(12,2)] fun K hK=>?_;rw [hn];have hb:=(l.getD i 0).toNat_lt;refine ⟨⟨by omega,by omega⟩,Y7 (by omega) (by omega),_,Qah (hH.at 2 rfl) rfl,?_⟩;refine Qs ?_;refine Qo ?_;refine Qaa ?_;refine Qs ?_;refine Qa6 hH 0 (o:=(i)) rfl (by first | rfl | (simp;done) | (congr 1;omega)) (by first | omega | (simp;omega)) fun w6 hS1=>?_;simp only [Yb] at hS1;(try refine Qs ?_);refine Qo ?_;refine Qaa ?_;refine Qs ?_;refine Qa6 hS1 1 (o:=i) rfl rfl (by omega) fun w7 hS2=>?_;simp only [Yc,Yb] at hS2;apply hK;clear hK;refine Qaj ?_;refine VS [0,3,4,5,16,17] ?_;refine Qab ?_;refine Qs ?_;refine ⟨n - (i+1),by omega,i+1,_,_,rfl,hS2,by simp [hD],by simp [hF],by omega,fun p hp=>?_,rfl⟩;rw [Qi0 _ _ _ (by omega),Qi0 _ _ _ (by omega)];by_cases hpi:p=i
  ·
   subst hpi;simp
  rw [if_neg hpi,if_neg hpi];exact hDF p (by omega)
 obtain rfl:i=n:=by omega
 refine Qag rfl ?_
 have hDl:D.toList=Qfj i:=by
  apply List.ext_getElem
  ·
   simp [Qfj,hD]
  intro p h1 h2;have h3:=(hDF p (by simpa [hD] using h1)).1;rw [Qfs (by simpa using h1)] at h3;rw [h3];simp [Qfj]
 have hFl:∀ p,p < i->F.toList.getD p 0=(l.getD p 0).toNat:=fun p hp=>by rw [Qem];exact (hDF p hp).2
 have hFn:F.toList.length=l.length:=by rw [hn];simpa using hF
 clear hDF;refine VQ [3,4,5,33] fun K hK=>?_;refine ⟨_,Qah (hH.at 3 rfl) rfl,?_⟩;refine Qs ?_;apply hK;clear hK;refine VD (fun h=>?_) (fun h=>?_)
 ·
  obtain rfl:i=0:=by omega
  obtain rfl:l=[]:=Y0 hn;refine VQ [2] fun K hK=>?_;refine ⟨_,Qah (hH.at 2 rfl) rfl,?_⟩;apply hK;clear hK;refine VC_ret (VX_ret1 rfl rfl ?_);refine ⟨go,[],⟨by simp,.nil⟩,?_,rfl⟩;have h5:Heap w [] w3 [arr go 0 D]:=hH.sub (by simp);rw [arr,hD,hDl] at h5;exact h5
 have hn0:0 < i:=by omega
 generalize i=n at *;refine VC_skip ?_;refine VS [3,4,5,7] ?_
 have hrk0:Ranks l F.toList 1:=by
  refine ⟨hFn,fun p q hp hq=>?_⟩;rw [hFl p (by omega),hFl q (by omega)];have h1:∀ r,r < l.length->pre l 1 r=[l.getD r 0]:=fun r hr=>by simp [pre,Xx,Xp hr]
  rw [h1 p hp,h1 q hq];simp only [leB];by_cases e:l.getD p 0=l.getD q 0
  ·
   rw [if_pos e,e];simp
  rw [if_neg e,decide_eq_true_eq];have:(l.getD p 0).toNat≠(l.getD q 0).toNat:=fun h'=>e (Uc.1 h');omega
 have hok0:Qlr F.toList:=by
  intro r hr;obtain ⟨p,hp,rfl⟩:=List.getElem_of_mem hr;have h1:=hFl p (by rw [hFn,hn] at hp;exact hp);rw [Ye,Yd hp,Xo] at h1;have:=(l.getD p 0).toNat_lt;omega
 refine VQ [3,4,7,8] fun K hK=>?_;refine Qao (.agg #[.slice none 0 0,.int .i64 0]) (by kernel_rfl) ?_;refine Qs ?_;have hH1:=hH.box 134 [.slice none 0 0,.int .i64 0];generalize w3.alloc (Yv [Xh none 0 0,.int .i64 0].toArray 134)=w4 at *;generalize w3.heap.size=gr at *;refine Qaa ?_;refine Qs ?_;refine Qae hH1 0 (vs:=[.slice (some ⟨gf,0,none⟩) n n,.int .i64 0]) rfl rfl (by kernel_rfl) (by first | decide | (simp;done) | (simp;omega)) (by simp [Yh]) fun w6 hH2=>?_;(try refine Qs ?_)
 have hH3:Heap w [] w6 (arr go n D::Qrj gf n F.toList::Ym gn 3 [.int .i64 n]::Ym gs 51 [zsl go n]::[Ym gr 134 [.slice (some ⟨gf,0,none⟩) F.toList.length n,.int .i64 (0:Nat)]]):=by
  rw [show F.toList.length=n by rw [hFn,hn]];have h7:=(((hH2.front 3 rfl).front 4 rfl).front 4 rfl).front 4 rfl;rw [Qrj,show F.toList.length=n by rw [hFn,hn]];simp only [arr,hF,List.eraseIdx_cons_succ,List.eraseIdx_cons_zero] at h7;simp only [arr];exact h7
 clear hH hH1 hH2;apply hK;clear hK;refine VS [3,4,7,8,9] ?_;refine Qac ?_;refine Qad [3,4,7,8,9] (fun m e w'=>∃ (b by_ gk ck:Nat) (rk:List Int) (D:Array Int),Is e [(3,ptr gn),(4,ptr gs),(7,.func (.func 92) #[] #[ptr gn,ptr gs]),(8,ptr gr),(9,.int .i64 b)]/\Heap w [] w' (arr go n D::Qrj gk ck rk::Ym gn 3 [.int .i64 n]::Ym gs 51 [zsl go n]::[Ym gr 134 [.slice (some ⟨gk,0,none⟩) rk.length ck,.int .i64 by_]])/\D.size=n/\D.toList.Perm (Qfj n)/\LeK l rk by_ b/\Qlr rk/\rk.length=n/\1<=b/\b<=2 * n/\by_<=b/\m=2 * n - b) (2 * n - 1) ?_ ?_
 ·
  refine Qs ?_;exact ⟨1,0,gf,n,F.toList,D,rfl,hH3,hD,by rw [hDl],LeK.first hrk0,hok0,by rw [hFn,hn],by omega,by omega,by omega,rfl⟩
 clear hH3 hrk0 hok0 hFl hFn hDl hD hF;rintro m e w4 ⟨b,by_,gk,ck,rk,D1,rfl,hH,hD1,hp1,hk1,hok1,hrl1,hb1,hb2,hby,hm⟩;refine VB ?_
 have hQ1:AllQ (inR rk) D1:=fun k hk=>by
  have h1:=Qzk hp1 (p:=k) (by simpa using hk);rw [Qem] at h1;exact ⟨h1.1,by rw [hrl1];exact h1.2⟩
 refine VQ [3,4,7,8,9] fun K hK=>?_;refine ⟨_,Qah (hH.at 3 rfl) rfl,[.slice (some ⟨gk,0,none⟩) rk.length ck,.int .i64 by_],⟨rfl,Qay (hH.at 4 rfl)⟩,?_⟩;have hc:=Qlq (QBe rk hok1 gk ck by_ (by omega) (by omega)) (QBf rk by_) go n D1 (by omega) hQ1 w w4 [] _ hH;rw [sl,hD1] at hc;refine MemK_call Tryz.call94 ?_;refine Qs ?_;refine Yk hc ?_;clear hc hH;rintro v w5 ⟨D2,hsrt,hD2,hQ2,hH,rfl⟩;have hp2:=hsrt.1.trans hp1;have hrow:=QJ8 hsrt.2;apply hK;clear hK;refine VQ [3,4,7,8,9] fun K hK=>?_;refine ⟨[.slice (some ⟨gk,0,none⟩) rk.length ck,.int .i64 by_],⟨rfl,Qay (hH.at 4 rfl)⟩,?_⟩;have hc:=QEg rk gk ck by_ go n gn gs D2 hok1 (by omega) (by omega) (by omega) (by omega) (by rw [hD2];exact hp2) w w5 [] _ (by rw [sl,hD2];exact hH);rw [hD2] at hc;refine Qbp ?_;refine Qs ?_;refine FnK.mk Tryz.call92 hc ?_;clear hc hH;rintro v w6 ⟨gx,nx,hnx,hrs,hH,rfl⟩
 have hrk2:Ranks l nx.toList b:=QDu hk1 (by rw [hn];exact hp2) hrow (by rw [hn];simpa using hnx) fun p hp=>by
  rw [Qem,Qem];exact hrs p (by omega)
 have hok2:Qlr nx.toList:=Qzl (s:=l) (rk:=rk) (by_:=by_) (L:=D2.toList) (by rw [hn];exact hp2) (by rw [hn];simpa using hnx) (by omega) fun p hp=>by
  rw [Qem,Qem];exact hrs p (by omega)
 have hnl:nx.toList.length=n:=by simpa using hnx
 simp only [sl,hnx,hD2] at hH ⊢;refine Qs ?_;refine Qaa ?_;refine Qs ?_;refine Qae hH 5 (vs:=[.slice (some ⟨gx,0,none⟩) n n,.int .i64 b]) rfl rfl (by kernel_rfl) (by first | decide | (simp;done) | (simp;omega)) (by simp [Yh]) fun w6 hH2=>?_;(try refine Qs ?_);simp only [Yc,Yb] at hH2
 have hH3:Heap w [] w6 (arr go n D2::Qrj gx n nx.toList::Ym gn 3 [.int .i64 n]::Ym gs 51 [zsl go n]::[Ym gr 134 [.slice (some ⟨gx,0,none⟩) nx.toList.length n,.int .i64 b]]):=by
  rw [show nx.toList.length=n from hnl];exact (hH2.front 1 rfl).sub (by simp)
 clear hH hH2;apply hK;clear hK;have hk2:LeK l nx.toList b (b+b):=LeK.double hrk2;refine VQ [3,4,7,8,9,51] fun K hK=>?_;refine ⟨_,Qah (hH3.at 2 rfl) rfl,?_⟩;refine Qs ?_;apply hK;clear hK;refine VD (fun h=>?_) (fun h=>?_)
 ·
  have hQ3:AllQ (inR nx.toList) D2:=fun k hk=>by
   have h1:=Qzk hp2 (p:=k) (by simpa using hk);rw [Qem] at h1;exact ⟨h1.1,by rw [hnl];exact h1.2⟩
  refine VQ [4] fun K hK=>?_;refine ⟨_,Qah (hH3.at 3 rfl) rfl,[.slice (some ⟨gx,0,none⟩) nx.toList.length n,.int .i64 b],⟨rfl,Qay (hH3.at 4 rfl)⟩,?_⟩;have hc:=Qlq (QBe nx.toList hok2 gx n b (by omega) (by omega)) (QBf nx.toList b) go n D2 (by omega) hQ3 w w6 [] _ hH3;rw [sl,hD2] at hc;refine MemK_call Tryz.call94 ?_;refine Qs ?_;refine Yk hc ?_;clear hc hH3;rintro v w7 ⟨D3,hsrt3,hD3,hQ3',hH,rfl⟩;have hp3:=hsrt3.1.trans hp2;apply hK;clear hK;refine VQ [2] fun K hK=>?_;refine ⟨_,Qah (hH.at 3 rfl) rfl,?_⟩;apply hK;clear hK;refine VC_ret (VX_ret1 rfl rfl ?_);have ho:=Qzm hk2 (by omega) (by rw [hn];exact hp3) hsrt3.2;refine ⟨go,D3.toList.map Uh,ho,?_,rfl⟩
  have e:(D3.toList.map Uh).map (fun i:Nat=>(i:Int))=D3.toList:=by
   rw [List.map_map]
   conv=>rhs;rw [<- List.map_id D3.toList]
   apply Gd;intro x hx;have:=hp3.mem_iff.1 hx;simp only [Qfj,Ut,X5] at this;obtain ⟨i,_,rfl⟩:=this;simp
  rw [e];have h5:Heap w [] w7 [arr go n D3]:=hH.sub (by simp);rw [arr,show D3.size=n by omega] at h5;exact h5
 refine VC_skip ?_;refine Qaj ?_;refine VS [3,4,7,8,9] ?_;refine Qab ?_;refine Qs ?_;refine ⟨2 * n - (b+b),by omega,b+b,b,gx,n,nx.toList,D2,by rw [show ((b:Int) * 2)=((b+b:Nat):Int) by omega];rfl,hH3,by omega,hp2,hk2,hok2,hnl,by omega,by omega,by omega,rfl⟩
def QHf (l:List UInt8) (v:Value):Prop :=
 if l=[] then v=.tuple #[Str [],.int .i64 0,.int .i64 2]
 else if 262144 < l.length then v=.tuple #[Str [],.int .i64 0,.int .i64 3]
 else ∃ σ,Ordered l σ/\v=.tuple #[Str (Qbu l σ),.int .i64 (σ.idxOf 0:Nat),.int .i64 0]
theorem Qxn (l:List UInt8) (hl:l.length<=1000000000000) (w:World):Does Yi 30 #[Str l] w fun v w'=>Heap w [] w' []/\QHf l v:=by
 refine En [Str l] 41 Tryz.func30 ?_;refine VS [0] ?_;refine VS [0,10] ?_;refine VD (fun h=>?_) (fun h=>?_)
 ·
  refine VS [2,3,4] ?_;exact VC_ret (Qcv rfl rfl rfl rfl ⟨Yx w,by rw [QHf,if_pos h]⟩)
 have hne:=h;refine VC_skip ?_;refine VS [0,13] ?_;refine VD (fun h=>?_) (fun h=>?_)
 ·
  refine VS [2,3,4] ?_;exact VC_ret (Qcv rfl rfl rfl rfl ⟨Yx w,by rw [QHf,if_neg hne,if_pos (by omega)]⟩)
 have hle:l.length<=262144:=by omega
 have hn0:0 < l.length:=Ge.2 hne;clear h;generalize hn:l.length=n at *;refine VC_skip ?_;refine VQ [0,5,6] fun K hK=>?_;rw [hn];refine Qbi Yp zi5 ?_;refine Qs ?_;refine ⟨n,n,⟨rfl,rfl,by omega,by omega,by omega⟩,?_⟩;have hH0:=(Yx w).row 5 (n:=n) (cap:=n) (sz:=1) (Ya n (.int .u8 0)) [] (by simp) (by simp) (by omega) (by omega);rw [Yl,show Ya n (Y1 .u8 0)=Qar (Ya n 0) by simp [Qar]] at hH0;rw [show Ya n (Y1 .u8 0)=Qar (Ya n 0) by simp [Qar]];generalize w.alloc (Yv (Qar (Ya n 0)).toArray 5)=w1 at *;generalize w.heap.size=gb at *;apply hK;clear hK;refine VQ [0,5,6,18,19,20] fun K hK=>?_;have hc:=QEh l (by omega) w1;rw [hn] at hc;refine MemK_call Tryz.call56 ?_;refine Qs ?_;refine Yk hc ?_;clear hc;rintro v w2 ⟨go,σ,hσ,hX,rfl⟩;have hH1:=hH0.call0 hX;simp only [Y5,Yf] at hH1;have hσl:σ.length=n:=by rw [hσ.perm.length_eq,Xf,hn]
 have hσb:∀ p,p < n->σ.getD p 0 < n:=fun p hp=>by
  have h1:σ.getD p 0∈σ:=Qa3 0 (by omega);have:=hσ.perm.mem_iff.1 h1;rw [X5,hn] at this;exact this
 have hnd:σ.Nodup:=by rw [hσ.perm.nodup_iff];exact Uq
 have h0σ:0∈σ:=hσ.perm.mem_iff.2 (by rw [X5];omega);have hcl:(Qbu l σ).length=n:=by simp [Qbu,hσl]
 have hcg:∀ p,p < n->(Qbu l σ).getD p 0=l.getD (ahead n (σ.getD p 0)) 0:=fun p hp=>by
  simp only [Qbu,Ye,Xg,hn];rw [Yd (by omega)];simp
 refine Qs ?_;apply hK;clear hK;refine Qac ?_;refine Qad [0,5,6,18,19,20] (fun m e w'=>∃ (k r:Nat) (o:List UInt8),Is e [(0,Str l),(5,.slice (some ⟨gb,0,none⟩) n n),(6,.int .i64 r),(18,.slice (some ⟨go,0,none⟩) n n),(19,.int .i64 n),(20,.int .i64 k)]/\Heap w [] w' [Yt 3 1 (some ⟨go,0,none⟩) n n (Qat (σ.map fun i:Nat=>(i:Int))),Yt 5 1 (some ⟨gb,0,none⟩) n n (Qar o)]/\o.length=n/\k<=n/\o.take k=(Qbu l σ).take k/\(0∈σ.take k->r=σ.idxOf 0)/\m=n - k) n ?_ ?_
 ·
  refine Qs ?_;exact ⟨0,0,_,rfl,hH1,by simp,by omega,by simp,by simp,rfl⟩
 clear hH0 hX hH1;rintro m e w3 ⟨k,r,o,rfl,hH,hol,hk,ho,hr,hm⟩;refine VS [0,5,6,18,19,20,21] ?_;(repeat refine Qax ?_);refine VD (fun h=>?_) (fun h=>?_)
 ·
  have hkn:k < n:=by omega
  have hsk:=hσb k hkn
  have hgk:(σ.map fun i:Nat=>(i:Int)).getD k 0=((σ.getD k 0:Nat):Int):=by
   simp only [Ye,Xg];rw [Yd (by omega)];simp
  refine VC_skip ?_;refine VB ?_;refine VQ [0,5,6,7,8,18,19,20] fun K hK=>?_;refine And.intro ⟨by omega,by omega⟩ ⟨_,Qa1 (hH.at 0 rfl) (Qc7 (by simp;omega)),?_⟩;rw [hgk];apply hK;clear hK;refine VS [0,5,6,7,8,18,19,20,26] ?_
  have htk:σ.take (k+1)=σ.take k++[σ.getD k 0]:=by
   rw [X6,Yd (by omega),Ye,Yd (by omega)];rfl
  refine Qdl [0,5,6,7,8,18,19,20] (fun e w'=>∃ (r':Nat),Is e [(0,Str l),(5,.slice (some ⟨gb,0,none⟩) n n),(6,.int .i64 r'),(7,.int .i64 k),(8,.int .i64 (ahead n (σ.getD k 0)+1:Nat)),(18,.slice (some ⟨go,0,none⟩) n n),(19,.int .i64 n),(20,.int .i64 k)]/\Is w' w3/\(0∈σ.take (k+1)->r'=σ.idxOf 0)) ?_ ?_
  ·
   refine VD (fun h=>?_) (fun h=>?_)
   ·
    have hz:σ.getD k 0=0:=by omega
    refine VS [0,5,6,7,18,19,20] ?_;refine VQ [0,5,6,7,8,18,19,20] fun K hK=>?_;rw [hn];apply hK;clear hK;refine Qab ?_;refine Qs ?_;refine ⟨k,by rw [hz,show ahead n 0+1=n by unfold ahead;rw [if_pos rfl];omega];rfl,rfl,fun _=>?_⟩;have h1:=hnd.idxOf_getElem k (by omega);rw [Ye,Yd (by omega),Xo] at hz;rw [hz] at h1;exact h1.symm
   have hz:σ.getD k 0≠0:=by omega
   refine VC_skip ?_;refine Qab ?_;refine Qs ?_;refine ⟨r,by rw [show ahead n (σ.getD k 0)+1=σ.getD k 0 by unfold ahead;rw [if_neg hz];omega];rfl,rfl,fun h2=>hr ?_⟩;rw [htk,Xz] at h2;rcases h2 with h2 | h2
   ·
    exact h2
   exact absurd (List.mem_singleton.1 h2).symm hz
  rintro e w4 ⟨r',rfl,rfl,hr'⟩;have hah:ahead n (σ.getD k 0) < n:=by unfold ahead;split <;> omega
  have hcgk:=hcg k hkn;generalize ahead n (σ.getD k 0)=at_ at *;refine VQ [0,5,6,18,19,20] fun K hK=>?_;rw [hn,show ((at_+1:Nat):Int) - 1=(at_:Int) by omega];rw [Gj];refine ⟨Y7 (by omega) (by omega),⟨by omega,by omega⟩,⟨by omega,by omega⟩,?_⟩;refine Qaa ?_;refine Qs ?_;refine Qaz hH 1 (o:=(k)) (vs:=[.int .u8 (l.getD at_ 0).toNat]) rfl (by first | exact (Qbg _ _ _).symm | rfl | simp [Qbg]) rfl (by kernel_rfl) (by first | omega | (simp;done) | (simp;omega) | (simp [Qar,Qat];omega) | (rw [natsV_len];simp;omega)) (by simp [Yh]) fun w6 hH2=>?_;(try refine Qs ?_);simp only [Yz,Qcb (Qar o) _ _ (show k < (Qar o).length by rw [Qf5];omega),Qj7,Yb,Yc] at hH2;apply hK;clear hK;refine Qaj ?_;refine VS [0,5,6,18,19,20] ?_;refine Qab ?_;refine Qs ?_;refine ⟨n - (k+1),by omega,k+1,r',o.set k (l.getD at_ 0),rfl,hH2,by simp [hol],by omega,?_,hr',rfl⟩
  have e1:(o.set k (l.getD at_ 0)).take (k+1)=o.take k++[l.getD at_ 0]:=by
   rw [X6,Uy (by omega),Gf (by omega)];rfl
  have e2:(Qbu l σ).take (k+1)=(Qbu l σ).take k++[(Qbu l σ).getD k 0]:=by
   rw [X6,Yd (by omega),Ye,Yd (by omega)];rfl
  rw [e1,e2,ho,hcgk]
 obtain rfl:k=n:=by omega
 refine Qag rfl ?_;rw [Yu (by omega),Yu (by omega)] at ho;subst ho;have hr2:=hr (by rw [Yu (by omega)];exact h0σ);subst hr2;refine VQ [2,3,4] fun K hK=>?_;refine ⟨Qbu l σ,Qgr (by rw [<- hcl] at hH ⊢;exact Qaq (hH.at 1 rfl)),?_⟩;apply hK;clear hK;refine VC_ret (Qcv rfl rfl rfl rfl ?_);refine ⟨hH.sub (by simp),?_⟩;rw [QHf,if_neg hne,if_neg (by omega)];exact ⟨σ,hσ,rfl⟩
def cntB (L:List UInt8) (b k:Nat):Nat:=((Yq k).filter fun i=>(L.getD i 0).toNat == b).length
def Qhi (L:List UInt8):Nat->Nat
 | 0=>0
 | b+1=>Qhi L b+cntB L b L.length
def posB (L:List UInt8) (i:Nat):Nat:=Qhi L (L.getD i 0).toNat+cntB L (L.getD i 0).toNat i
theorem Qxo (L:List UInt8) (b k:Nat):cntB L b (k+1)=cntB L b k+if (L.getD k 0).toNat=b then 1 else 0:=by
 unfold cntB;rw [Xx,Ui,Yn];by_cases h:(L.getD k 0).toNat=b
 ·
  rw [X3 (by rw [beq_iff_eq];exact h),if_pos h];rfl
 rw [Up (by rw [beq_iff_eq];exact h),if_neg h];rfl
theorem QAh (L:List UInt8) (b k:Nat):cntB L b k<=k:=by
 unfold cntB;exact Nat.le_trans (X7 _ _) (by simp)
theorem QB6 (L:List UInt8) (b:Nat):((Yq b).flatMap fun b=>(Yq L.length).filter fun i=>(L.getD i 0).toNat == b).length=Qhi L b:=by
 induction b with
 | zero=>rfl
 | succ b ih=>rw [Xx,Gg,Yn,ih];simp [Qhi,cntB]
theorem Qfy (L:List UInt8) (i:Nat) (hi:i < L.length):(Qbv L)[posB L i]? = some i:=by
 have hb:=(L.getD i 0).toNat_lt;obtain ⟨k,hk⟩:∃ k,256=(L.getD i 0).toNat+(k+1):=⟨256 - (L.getD i 0).toNat - 1,by omega⟩;obtain ⟨j,hj⟩:∃ j,L.length=i+(j+1):=⟨L.length - i - 1,by omega⟩;generalize hbb:(L.getD i 0).toNat=b at *
 have e:Qbv L=((Yq b).flatMap fun b=>(Yq L.length).filter fun i=>(L.getD i 0).toNat == b)++(((Yq i).filter fun i=>(L.getD i 0).toNat == b)++(i::((((Yq j).map Gp).map (i+·)).filter fun i=>(L.getD i 0).toNat == b)))++((((Yq k).map Gp).map (b+·)).flatMap fun b=>(Yq L.length).filter fun i=>(L.getD i 0).toNat == b):=by
  have e1:Yq 256=Yq b++(b::((Yq k).map Gp).map (b+·)):=by
   rw [hk,List.range_add,Uz];simp
  have e2:Yq L.length=Yq i++(i::((Yq j).map Gp).map (i+·)):=by
   rw [hj,List.range_add,Uz];simp
  have e3:((Yq L.length).filter fun i=>(L.getD i 0).toNat == b)=((Yq i).filter fun i=>(L.getD i 0).toNat == b)++(i::((((Yq j).map Gp).map (i+·)).filter fun i=>(L.getD i 0).toNat == b)):=by
   rw [e2,Ui,X3 (by rw [beq_iff_eq];exact hbb)]
  unfold Qbv;rw [e1,Gg,List.flatMap_cons,e3,<- Yj]
 have hp:posB L i=Qhi L b+cntB L b i:=by rw [posB,hbb]
 rw [e,hp,Yj,Xj (by rw [QB6];omega),QB6,X1,Yj,Xj (by rw [cntB];exact Xb _)];rw [show cntB L b i - ((Yq i).filter fun i=>(L.getD i 0).toNat == b).length=0 by rw [cntB];omega];rfl
theorem QHg (L:List UInt8) (i:Nat) (hi:i < L.length):posB L i < L.length:=by
 have h:=Qfy L i hi;have hl:(Qbv L).length=L.length:=by rw [(Qcx L).length_eq,Xf]
 have:=(Xt.1 h).1;omega
theorem QKs (L:List UInt8) {i j:Nat} (hi:i < L.length) (hj:j < L.length) (h:posB L i=posB L j):i=j:=by
 have h1:=Qfy L i hi;rw [h,Qfy L j hj] at h1;exact (Option.some.inj h1).symm
theorem QHh (L:List UInt8) (P:List Nat) (hl:P.length=L.length) (h:∀ i,i < L.length->P.getD (posB L i) 0=i):P=Qbv L:=by
 have hpl:(Qbv L).length=L.length:=by rw [(Qcx L).length_eq,Xf]
 have hnd:(Qbv L).Nodup:=by rw [(Qcx L).nodup_iff];exact Uq
 apply List.ext_getElem (by omega);intro p h1 h2
 have hm:(Qbv L)[p] < L.length:=by
  have:=(Qcx L).mem_iff.1 (X9 h2);simpa using this
 generalize hj:(Qbv L)[p]=j at *;have h3:=Qfy L j hm;obtain ⟨h4,h5⟩:=Xt.1 h3;have h6:posB L j=p:=(List.getElem_inj hnd).1 (by rw [h5,hj]);have h7:=h j hm;rw [h6,Ye,Yd h1,Xo] at h7;exact h7
def tbl (g:Nat) (F:Array Int):Res:=Ym g 177 (Qat F.toList)
theorem Quo {g:Nat}{F:Array Int}{w:World} (h:(tbl g F).holds w) {k:Nat} (hk:k < F.size):w.cell? ⟨g,k,none⟩=some (.int .i64 F[k]!):=by
 refine Qah h ?_;rw [Qc7 (by simpa using hk),Qem]
theorem Qna {w0 w:World}{B:List Nat}{G:List Res} (hH:Heap w0 B w G) (i:Nat) {g o:Nat}{F:Array Int}{x:Int}{C:World->Prop} (hi:G[i]? = some (tbl g F)) (ho:o < F.size)
  (h:∀ w',Heap w0 B w' (G.set i (tbl g (F.setIfInBounds o x)))->C w'):Qi7 Yi 3 (.pointer (some ⟨g,o,none⟩)) (.int .i64 x) w C:=by
 refine Qae hH i (o:=o) (vs:=[.int .i64 x]) hi rfl (by kernel_rfl) (by rw [Qdm];simp;omega) (by simp [Yh]) fun w' hw=>h w' ?_
 have e:(Qat F.toList).take o++[.int .i64 x]++(Qat F.toList).drop (o+[Y1 .i64 x].length)=Qat (F.setIfInBounds o x).toList:=by
  rw [Yz,Qcb (Qat F.toList) _ _ (by rw [Qdm];simpa using ho),Qvy,Array.toList_setIfInBounds]
 rw [e] at hw;exact hw
theorem QHi:∀ {l:List Value}{i:Nat}{v:Value}{K:Value->Prop},l[i]? = some v->vNth l i K=K v
 | [],_,_,_,h=>by simp at h
 | x::l,0,v,K,h=>by simp at h;subst h;rfl
 | x::l,i+1,v,K,h=>by rw [vNth];exact QHi (by simpa using h)
theorem QEi (D:Array Int) (gp cp gc p:Nat) (hp:p < D.size) (hD:D.size<=1000000000000) (w0 w:World) (B:List Nat) (G:List Res) (hL:Heap w0 B w (arr gp cp D::Ym gc 51 [sl gp cp D]::G)) :
  Does Yi 144 #[.int .i64 p,ptr gc] w fun v w'=>w'=w/\v=.int .i64 D[p]! := by
 refine En [.int .i64 p,ptr gc] 8 Tryz.func144 ?_;refine VQi [0,1] fun K hK=>?_;apply hK;clear hK;refine VQi [3] fun K hK=>?_;refine ⟨_,Qah (hL.at 1 rfl) rfl,?_⟩;refine Qi ?_;refine ⟨⟨by omega,by omega⟩,_,Qa4 (hL.at 0 rfl) hp,?_⟩;apply hK;clear hK;exact VC_ret (VX_ret1 rfl rfl ⟨rfl,rfl⟩)
abbrev QSp (gc:Nat):Value:=.func (.func 144) #[] #[ptr gc]
abbrev wblk (gw gc p:Nat):Res:=Ym gw 179 [QSp gc,.int .i64 p]
theorem QHj (D:Array Int) (gp cp gc gw p q:Nat) (hp:p < D.size) (hq:D[p]! = q) (hD:D.size<=1000000000000) (w0 w:World) (B:List Nat) (G:List Res) (hL:Heap w0 B w (arr gp cp D::Ym gc 51 [sl gp cp D]::wblk gw gc p::G)) :
  Does Yi 145 #[ptr gw] w fun v w'=>Heap w0 B w' (arr gp cp D::Ym gc 51 [sl gp cp D]::wblk gw gc q::G)/\v=.int .i64 q:=by
 refine En [ptr gw] 19 Tryz.func145 ?_;refine VQi [0] fun K hK=>?_;apply hK;clear hK;(repeat refine Qax ?_);refine Qms [0] [(0,0),(1,0),(2,0),(3,0),(5,0),(6,0),(7,0),(4,1),(8,1),(9,2),(10,0),(11,0),(12,2)] (by kernel_rfl) (by kernel_rfl) (by kernel_rfl) (by simp only [Qbd,List.map_cons,List.map_nil,beq_self_eq_true,Nat.reduceBEq,List.filterMap_cons,List.filterMap_nil,List.getElem?_cons_succ,List.getElem?_cons_zero,Option.map_some];rfl) fun K hK=>?_;refine Qi ?_;refine ⟨_,Qah (hL.at 2 rfl) rfl,_,Qah (hL.at 2 rfl) rfl,?_⟩;refine Qbp ?_;refine Qi ?_;refine FnK.mk Tryz.call144 (QEi D gp cp gc p hp hD w0 w B _ hL) ?_;rintro v w2 ⟨rfl,rfl⟩;rw [hq];refine Qaa ?_;refine Qi ?_;refine Qae hL 2 (vs:=[.int .i64 q]) rfl rfl (by kernel_rfl) (by first | decide | (simp;done) | (simp;omega)) (by simp [Yh]) fun w6 hH2=>?_;(try refine Qi ?_);apply hK;clear hK;refine VQi [2] fun K hK=>?_;refine ⟨_,Qah (hH2.at 2 rfl) rfl,?_⟩;apply hK;clear hK;exact VC_ret (VX_ret1 rfl rfl ⟨hH2,rfl⟩)
def bckS (L:List UInt8) (row:Int):List UInt8×Int :=
 if 262144 < L.length then ([],3) else if row < 0∨(L.length:Int)<=row then ([],50) else (Qhv L (Qbv L) L.length row.toNat,0)
theorem QHk (L:List UInt8) (row:Int) (hr:I64 row) (hL:L.length<=1000000000000) (w:World):Does Yi 124 #[Str L,.int .i64 row] w
  fun v w'=>Heap w [] w' []/\v=.tuple #[Str (bckS L row).1,.int .i64 (bckS L row).2]:=by
 refine En [Str L,.int .i64 row] 96 Tryz.func124 ?_;refine VQi [0,1] fun K hK=>?_;apply hK;clear hK;refine VQi [0,1,18] fun K hK=>?_;apply hK;clear hK;refine VD (fun h=>?_) (fun h=>?_)
 ·
  refine VQi [4,5] fun K hK=>?_;apply hK;clear hK;exact VC_ret (Qav rfl rfl rfl ⟨Yx w,by rw [bckS,if_pos (by omega)]⟩)
 have hle:L.length<=262144:=by omega
 clear h;refine VC_skip ?_;refine VQi [0,1,26] fun K hK=>?_
 suffices out:∀ b:Bool,(b=true ↔ (row < 0∨(L.length:Int)<=row))->K [(0,Str L),(1,.int .i64 row),(26,.bool b)] w by (repeat' (first | exact out _ _ (by first | omega | (simp;done) | (simp;omega)) | exact out _ (by first | omega | (simp;done) | (simp;omega)) | refine ⟨fun _=>?_,fun _=>?_⟩ | refine Qo ?_))
 intro b hb;apply hK;clear hK;refine Qaf rfl rfl (fun h=>?_) (fun h=>?_)
 ·
  refine VQi [4,5] fun K hK=>?_;apply hK;clear hK;exact VC_ret (Qav rfl rfl rfl ⟨Yx w,by rw [bckS,if_neg (by omega),if_pos (hb.1 h)]⟩)
 have hb2:¬ (row < 0∨(L.length:Int)<=row):=fun h2=>by have:=hb.2 h2;simp_all
 have hbs:bckS L row=(Qhv L (Qbv L) L.length row.toNat,0):=by rw [bckS,if_neg (by omega),if_neg hb2]
 rw [hbs];obtain ⟨p0,rfl⟩:∃ p:Nat,row=p:=⟨row.toNat,by omega⟩;rw [Yo];have hp0:p0 < L.length:=by omega
 clear hb hb2 hbs h hr;refine VC_skip ?_;generalize hn:L.length=n at *;refine VQi [0,1,6] fun K hK=>?_;refine Qao (.agg (Qat (Ya 256 0)).toArray) (by kernel_rfl) ?_;refine Qi ?_
 have hH0:Heap w [] (w.alloc (Yv (Qat (Ya 256 0)).toArray 177)) [tbl w.heap.size (Array.replicate 256 0)]:=by
  have h:=(Yx w).box 177 (Qat (Ya 256 0));rw [tbl,Array.toList_replicate];exact h
 generalize w.alloc (Yv (Qat (Ya 256 0)).toArray 177)=w1 at *;generalize w.heap.size=gf at *;have hb8:∀ k,(L.getD k 0).toNat < 256:=fun k=>(L.getD k 0).toNat_lt
 have hst:∀ b,Qhi L b<=b * 262144:=fun b=>by
  induction b with
  | zero=>simp [Qhi]
  | succ b ih=>have:=QAh L b L.length;simp only [Qhi];omega
 apply hK;clear hK;refine VQi [0,1,6,28,29] fun K hK=>?_;apply hK;clear hK;rw [hn];refine Qac ?_;refine Qad [0,1,6,28,29] (fun m e w'=>∃ (k:Nat) (F:Array Int),Is e [(0,Str L),(1,.int .i64 p0),(6,ptr gf),(28,.int .i64 n),(29,.int .i64 k)]/\Heap w [] w' [tbl gf F]/\F.size=256/\k<=n/\(∀ b,b < 256->F[b]! = cntB L b k)/\m=n - k) n ?_ ?_
 ·
  refine Qi ?_;exact ⟨0,_,rfl,hH0,by simp,by omega,fun b _=>by rw [Qxm];rfl,rfl⟩
 clear hH0;rintro m e w2 ⟨k,F,rfl,hH,hF,hk,hFk,hm⟩;refine VQi [0,1,6,28,29,30] fun K hK=>?_;apply hK;clear hK;(repeat refine Qax ?_);refine VD (fun h=>?_) (fun h=>?_)
 ·
  refine VC_skip ?_
  ((repeat refine Qax ?_);refine Qac ?_)
  refine VQi [0,1,6,7,28,29] fun K hK=>?_;apply hK;clear hK;have hb:=hb8 k;have hc:=hFk _ hb;have hcl:=QAh L (L.getD k 0).toNat k;have hcs:=fun b=>Qxo L b k;generalize hbk:(L.getD k 0).toNat=bk at *;refine VQi [0,1,6,28,29] fun K hK=>?_;rw [hn,hbk];refine ⟨⟨by omega,by omega⟩,⟨by omega,by omega⟩,_,Quo (hH.at 0 rfl) (by omega),?_⟩;rw [hc];refine Qi ?_;refine ⟨Y7 (by omega) (by omega),⟨by omega,by omega⟩,?_⟩;refine Qaa ?_;refine Qi ?_;refine Qna hH 0 (o:=bk) rfl (by omega) fun w6 hH2=>?_;simp only [Yb] at hH2;apply hK;clear hK;refine Qaj ?_;refine VQi [0,1,6,28,29] fun K hK=>?_;(repeat refine Qo ?_);apply hK;clear hK;refine Qab ?_;refine Qi ?_;refine ⟨n - (k+1),by omega,k+1,_,rfl,hH2,by simp [hF],by omega,fun b hb2=>?_,rfl⟩;rw [Qi0 _ _ _ (by omega),hcs b];by_cases e:b=bk
  ·
   subst e;simp
  rw [if_neg e,if_neg (Ne.symm e),hFk b hb2];simp
 obtain rfl:k=n:=by omega
 refine Qag rfl ?_;generalize k=n at *;refine VQi [0,1,6,8] fun K hK=>?_;apply hK;clear hK;refine VQi [0,1,6,8,40,41] fun K hK=>?_;refine ⟨Qat F.toList,⟨by rw [Qdm];simpa using hF,Qay (hH.at 0 rfl)⟩,?_⟩;apply hK;clear hK;refine Qac ?_;refine Qad [0,1,6,8,40,41] (fun m e w'=>∃ (b:Nat) (F':Array Int),Is e [(0,Str L),(1,.int .i64 p0),(6,ptr gf),(8,.int .i64 (Qhi L b)),(40,.agg (Qat F.toList).toArray),(41,.int .i64 b)]/\Heap w [] w' [tbl gf F']/\F'.size=256/\b<=256/\(∀ c,c < b->F'[c]! = Qhi L c)/\m=256 - b) 256 ?_ ?_
 ·
  refine Qi ?_;exact ⟨0,F,rfl,hH,hF,by omega,fun c hc=>by omega,rfl⟩
 clear hH;rintro m e w3 ⟨b,F1,rfl,hH,hF1,hb,hFb,hm⟩;refine VQi [0,1,6,8,40,41,42] fun K hK=>?_;apply hK;clear hK;(repeat refine Qax ?_);refine VD (fun h=>?_) (fun h=>?_)
 ·
  have hc:=hFk b (by omega);have hcl:=QAh L b n;have hsb:=hst b;have hsb1:=hst (b+1);refine VC_skip ?_
  ((repeat refine Qax ?_);refine Qac ?_)
  refine VQi [0,1,6,8,9,10,40,41] fun K hK=>?_
  have hvn:vNth (Qat F.toList) b=fun K=>K (.int .i64 F[b]!):=by
   funext K;exact QHi (by rw [Qc7 (by simp;omega),Qem])
  rw [hvn]
  dsimp only
  rw [hc];refine ⟨⟨by omega,by omega⟩,?_⟩;apply hK;clear hK;refine VQi [0,1,6,8,10,40,41] fun K hK=>?_;refine ⟨⟨by omega,by omega⟩,?_⟩;refine Qaa ?_;refine Qi ?_;refine Qna hH 0 (o:=b) rfl (by omega) fun w6 hH2=>?_;simp only [Yb] at hH2;apply hK;clear hK;refine VQi [0,1,6,8,40,41] fun K hK=>?_;(repeat refine Qo ?_);apply hK;clear hK;refine Qaj ?_;refine VQi [0,1,6,8,40,41] fun K hK=>?_;(repeat refine Qo ?_);apply hK;clear hK;refine Qab ?_;refine Qi ?_;refine ⟨256 - (b+1),by omega,b+1,_,by rw [show ((Qhi L b:Int)+(cntB L b n:Nat))=((Qhi L (b+1):Nat):Int) by rw [Qhi,hn];omega];rfl,hH2,by simp [hF1],by omega,fun c hc=>?_,rfl⟩;rw [Qi0 _ _ _ (by omega)];by_cases e:c=b
  ·
   subst e;simp
  rw [if_neg e];exact hFb c (by omega)
 obtain rfl:b=256:=by omega
 refine Qag rfl ?_;clear hFk hF;refine VQi [0,1,6,11] fun K hK=>?_;rw [hn];refine Qbi Yg zi3 ?_;refine Qi ?_;refine ⟨n,n,⟨rfl,rfl,by omega,by omega,by omega⟩,?_⟩;have hH1:=QHd hH n (by omega);generalize w3.alloc (Yv (Ya n (Y1 .i64 0)).toArray 3)=w4 at *;generalize w3.heap.size=gp at *;refine Qao (.slice none 0 0) (by kernel_rfl) ?_;refine Qi ?_;have hH2:=hH1.box 51 [.slice none 0 0];generalize w4.alloc (Yv [Xh none 0 0].toArray 51)=w5 at *;generalize w4.heap.size=gc at *;refine Qaa ?_;refine Qi ?_;refine Qae hH2 0 (vs:=[.slice (some ⟨gp,0,none⟩) n n]) rfl rfl (by kernel_rfl) (by first | decide | (simp;done) | (simp;omega)) (by simp [Yh]) fun w6 hH3=>?_;(try refine Qi ?_);have hH4:Heap w [] w6 [arr gp n (Array.replicate n 0),Ym gc 51 [zsl gp n],tbl gf F1]:=hH3.front 1 rfl;clear hH hH1 hH2 hH3;apply hK;clear hK;refine VQi [0,1,6,11,56,57] fun K hK=>?_;apply hK;clear hK;rw [hn];refine Qac ?_;refine Qad [0,1,6,11,56,57] (fun m e w'=>∃ (k:Nat) (F D:Array Int),Is e [(0,Str L),(1,.int .i64 p0),(6,ptr gf),(11,ptr gc),(56,.int .i64 n),(57,.int .i64 k)]/\Heap w [] w' [arr gp n D,Ym gc 51 [zsl gp n],tbl gf F]/\F.size=256/\D.size=n/\k<=n/\(∀ b,b < 256->F[b]! = (Qhi L b+cntB L b k:Nat))/\(∀ j,j < k->D[posB L j]! = j)/\m=n - k) n ?_ ?_
 ·
  refine Qi ?_;exact ⟨0,F1,_,rfl,hH4,hF1,by simp,by omega,fun b hb=>by rw [hFb b hb];rfl,fun j hj=>by omega,rfl⟩
 clear hH4 hF1 hFb;rintro m e w7 ⟨k,F,D,rfl,hH,hF,hD,hk,hFk,hDk,hm⟩;refine VQi [0,1,6,11,56,57,58] fun K hK=>?_;apply hK;clear hK;(repeat refine Qax ?_);refine VD (fun h=>?_) (fun h=>?_)
 ·
  refine VC_skip ?_
  ((repeat refine Qax ?_);refine Qac ?_)
  refine VQi [0,1,6,11,12,56,57] fun K hK=>?_;apply hK;clear hK;have hb:=hb8 k;have hc:=hFk _ hb;have hpl:=QHg L k (by omega);have hcs:=fun b=>Qxo L b k;have hps:Qhi L (L.getD k 0).toNat+cntB L (L.getD k 0).toNat k=posB L k:=rfl;rw [hps] at hc;generalize hbk:(L.getD k 0).toNat=bk at *;(repeat refine Qax ?_);refine Qj6 [0,1,6,11,12,56,57] 8 (by kernel_rfl) (by kernel_rfl) (by kernel_rfl) rfl fun K hK=>?_;refine Qi ?_;refine ⟨_,Qah (hH.at 1 rfl) rfl,⟨by omega,by omega⟩,?_⟩;rw [hbk];refine ⟨⟨by omega,by omega⟩,_,Quo (hH.at 2 rfl) (by omega),?_⟩;rw [hc];refine Qi ?_;refine ⟨⟨by omega,by omega⟩,?_⟩;refine Qaa ?_;refine Qi ?_;refine Qa6 hH 0 (o:=(posB L k)) rfl (by first | rfl | (simp;done) | (congr 1;omega)) (by first | omega | (simp;omega)) fun w6 hH1=>?_;simp only [Yb] at hH1;(try refine Qi ?_);apply hK;clear hK;refine VQi [0,1,6,11,56,57] fun K hK=>?_;rw [hbk];refine ⟨⟨by omega,by omega⟩,⟨by omega,by omega⟩,_,Quo (hH1.at 2 rfl) (by omega),?_⟩;rw [hc];refine Qi ?_;refine ⟨Y7 (by omega) (by omega),⟨by omega,by omega⟩,?_⟩;refine Qaa ?_;refine Qi ?_;refine Qna hH1 2 (o:=bk) rfl (by omega) fun w8 hH2=>?_;simp only [Yb,Yc] at hH2;apply hK;clear hK;refine Qaj ?_;refine VQi [0,1,6,11,56,57] fun K hK=>?_;(repeat refine Qo ?_);apply hK;clear hK;refine Qab ?_;refine Qi ?_;refine ⟨n - (k+1),by omega,k+1,_,_,rfl,hH2,by simp [hF],by simp [hD],by omega,fun c hc2=>?_,fun j hj=>?_,rfl⟩
  ·
   rw [Qi0 _ _ _ (by omega),hcs c];by_cases e:c=bk
   ·
    subst e;rw [if_pos rfl,if_pos rfl];omega
   rw [if_neg e,if_neg (Ne.symm e),hFk c hc2];simp
  rw [Qi0 _ _ _ (by omega)];by_cases e:j=k
  ·
   subst e;simp
  rw [if_neg (fun h2=>e (QKs L (by omega) (by omega) h2))];exact hDk j (by omega)
 obtain rfl:k=n:=by omega
 refine Qag rfl ?_;generalize k=n at *
 have hPl:D.toList.map Uh=Qbv L:=QHh L _ (by rw [hn];simpa using hD) fun i hi=>by
  have h1:=hDk i (by omega);have h2:=QHg L i hi;rw [Qfs (by omega)] at h1;rw [Ye,Xg,Yd (by simp;omega)];simp only [Option.map_some,Xo,h1,Yo]
 have hDp:∀ p,p < n->D[p]! = (((Qbv L).getD p 0:Nat):Int)/\(Qbv L).getD p 0 < n:=fun p hp=>by
  have hm2:(Qbv L).getD p 0∈Qbv L:=Qa3 0 (by rw [(Qcx L).length_eq,Xf];omega);have h3:=(Qcx L).mem_iff.1 hm2;rw [X5] at h3;refine ⟨?_,by omega⟩
  have h4:posB L ((Qbv L).getD p 0)=p:=by
   have hpl2:(Qbv L).length=L.length:=by rw [(Qcx L).length_eq,Xf]
   have hnd:(Qbv L).Nodup:=by rw [(Qcx L).nodup_iff];exact Uq
   obtain ⟨h5,h6⟩:=Xt.1 (Qfy L _ h3);refine (List.getElem_inj hnd (h₀:=h5) (h₁:=by omega)).1 ?_;rw [h6,Ye,Yd (by omega)];rfl
  have h5:=hDk ((Qbv L).getD p 0) (by omega)
  rwa [h4] at h5
 clear hDk hFk hPl;generalize hP:Qbv L=P at *;refine VQi [0,13] fun K hK=>?_;refine Qao (.agg #[.nilFunc,.int .i64 0]) (by kernel_rfl) ?_;refine Qi ?_;have hH1:=hH.box 179 [.nilFunc,.int .i64 0];generalize w7.alloc (Yv [Value.nilFunc,.int .i64 0].toArray 179)=w8 at *;generalize w7.heap.size=gw at *;refine Qaa ?_;refine Qi ?_;refine Qae hH1 0 (vs:=[QSp gc,.int .i64 p0]) rfl rfl (by kernel_rfl) (by first | decide | (simp;done) | (simp;omega)) (by simp [Yh]) fun w6 hH2=>?_;(try refine Qi ?_);have hH3:Heap w [] w6 [arr gp n D,Ym gc 51 [zsl gp n],wblk gw gc p0]:=((hH2.front 1 rfl).front 2 rfl |>.front 1 rfl).sub (by simp);apply hK;clear hK;clear hH hH1 hH2;generalize w6=w9 at *;refine VQi [0,13,14] fun K hK=>?_;rw [hn];refine Qbi Yp zi5 ?_;refine Qi ?_;refine ⟨n,n,⟨rfl,rfl,by omega,by omega,by omega⟩,?_⟩;have hH1:=hH3.row 5 (n:=n) (cap:=n) (sz:=1) (Ya n (.int .u8 0)) [] (by simp) (by simp) (by omega) (by omega);rw [Yl,show Ya n (Y1 .u8 0)=Qar (Ya n 0) by simp [Qar]] at hH1;rw [show Ya n (Y1 .u8 0)=Qar (Ya n 0) by simp [Qar]];generalize w9.alloc (Yv (Qar (Ya n 0)).toArray 5)=w10 at *;generalize w9.heap.size=gb at *;have hH2:Heap w [] w10 [arr gp n D,Ym gc 51 [zsl gp n],wblk gw gc p0,Yt 5 1 (some ⟨gb,0,none⟩) n n (Qar (Ya n 0))]:=((hH1.front 3 rfl).front 3 rfl).front 3 rfl;clear hH1 hH3;apply hK;clear hK;refine VQi [0,13,14,83,84] fun K hK=>?_;apply hK;clear hK;refine Qac ?_;refine Qad [0,13,14,83,84] (fun m e w'=>∃ (k q:Nat) (o:List UInt8),Is e [(0,Str L),(13,ptr gw),(14,.slice (some ⟨gb,0,none⟩) n n),(83,.int .i64 n),(84,.int .i64 k)]/\Heap w [] w' [arr gp n D,Ym gc 51 [zsl gp n],wblk gw gc q,Yt 5 1 (some ⟨gb,0,none⟩) n n (Qar o)]/\o.length=n/\q < n/\k<=n/\o.take k++Qhv L P (n - k) q=Qhv L P n p0/\m=n - k) n ?_ ?_
 ·
  refine Qi ?_;exact ⟨0,p0,_,rfl,hH2,by simp,by omega,by omega,by simp,rfl⟩
 clear hH2;rintro m e w11 ⟨k,q,o,rfl,hH,hol,hq,hk,hgo,hm⟩;refine VQi [0,13,14,83,84,85] fun K hK=>?_;apply hK;clear hK;(repeat refine Qax ?_);refine VD (fun h=>?_) (fun h=>?_)
 ·
  obtain ⟨h1,h2⟩:=hDp q hq;generalize hq2:P.getD q 0=q2 at *;refine VC_skip ?_
  ((repeat refine Qax ?_);refine Qac ?_)
  refine VQi [0,13,14,15,83,84] fun K hK=>?_;apply hK;clear hK;refine VQi [0,13,14,83,84] fun K hK=>?_;have hc:=QHj D gp n gc gw q q2 (by omega) h1 (by omega) w w11 [] _ (by rw [sl,hD];exact hH);rw [sl,hD] at hc;refine MemK_call Tryz.call145 ?_;refine Qi ?_;refine Yk hc ?_;clear hc hH;rintro v w12 ⟨hH,rfl⟩;refine Qi ?_;rw [hn];refine ⟨⟨by omega,by omega⟩,⟨by omega,by omega⟩,?_⟩;refine Qaa ?_;refine Qi ?_;refine Qaz hH 3 (o:=(k)) (vs:=[.int .u8 (L.getD q2 0).toNat]) rfl (by first | exact (Qbg _ _ _).symm | rfl | simp [Qbg]) rfl (by kernel_rfl) (by first | omega | (simp;done) | (simp;omega) | (simp [Qar,Qat];omega) | (rw [natsV_len];simp;omega)) (by simp [Yh]) fun w6 hH2=>?_;(try refine Qi ?_);simp only [Yz,Qcb (Qar o) _ _ (show k < (Qar o).length by rw [Qf5];omega),Qj7,Yb,Yc] at hH2;apply hK;clear hK;refine Qaj ?_;refine VQi [0,13,14,83,84] fun K hK=>?_;(repeat refine Qo ?_);apply hK;clear hK;refine Qab ?_;refine Qi ?_;refine ⟨n - (k+1),by omega,k+1,q2,o.set k (L.getD q2 0),rfl,hH2,by simp [hol],by omega,by omega,?_,rfl⟩
  have e1:(o.set k (L.getD q2 0)).take (k+1)=o.take k++[L.getD q2 0]:=by
   rw [X6,Uy (by omega),Gf (by omega)];rfl
  obtain ⟨j,hj⟩:∃ j,n - k=j+1:=⟨n - k - 1,by omega⟩;rw [<- hgo,e1,hj,Qhv,hq2,show n - (k+1)=j by omega];simp
 obtain rfl:k=n:=by omega
 refine Qag rfl ?_;rw [Yu (by omega),Us,Qhv,Yl] at hgo;rw [<- hgo];refine VQi [4,5] fun K hK=>?_;refine ⟨o,Qgr (by rw [<- hol] at hH ⊢;exact Qaq (hH.at 3 rfl)),?_⟩;apply hK;clear hK;exact VC_ret (Qav rfl rfl rfl ⟨hH.sub (by simp),rfl⟩)
def digs:Nat->Nat->List Int
 | 0,_=>[]
 | _+1,0=>[]
 | f+1,k+1=>((k % 2:Nat):Int)::digs f (k / 2)
theorem Qxp:∀ (f g k:Nat),k<=f->k<=g->digs f k=digs g k
 | 0,g,k,h,_=>by
  have:k=0:=by omega
  subst this;cases g <;> rfl
 | f+1,0,k,_,h=>by
  have:k=0:=by omega
  subst this;rfl
 | f+1,g+1,0,_,_=>rfl
 | f+1,g+1,k+1,h,h'=>by
  simp only [digs];rw [Qxp f g (k / 2) (by omega) (by omega)]
def dig (k:Nat):List Int:=digs k k
theorem Qi1:dig 0=[]:=rfl
theorem Qme (k:Nat):dig (k+1)=((k % 2:Nat):Int)::dig (k / 2):=by
 rw [dig,digs,dig,Qxp k (k / 2) (k / 2) (by omega) (Xb _)]
theorem Qig:∀ (f k:Nat),k<=f->(dig k).length<=k
 | 0,k,h=>by
  have:k=0:=by omega
  subst this;simp [Qi1]
 | f+1,0,_=>by simp [Qi1]
 | f+1,k+1,h=>by
  have:=Qig f (k / 2) (by omega);rw [Qme,Ys];omega
theorem QAi (k:Nat) (w:World) (hk:k<=17592186044416) :
  Does Yi 59 #[.int .i64 k] w fun v w'=>∃ a cap,Heap w [] w' [Yt 3 1 a (dig k).length cap (Qat (dig k))]/\v=.slice a (dig k).length cap:=by
 refine En [.int .i64 k] 16 Tryz.func59 ?_;refine VS [0] ?_;refine VS [0,3] ?_;refine VB ?_;refine Qad [0,3] (fun m e w'=>∃ (j cap:Nat) (a:Option Addr) (o:List Int),Is e [(0,.int .i64 j),(3,.slice a o.length cap)]/\Heap w [] w' [Yt 3 1 a o.length cap (Qat o)]/\j<=k/\o.length+j<=k/\dig k=o++dig j/\m=j) k ?_ ?_
 ·
  refine Qs ?_;exact ⟨k,0,none,[],rfl,Heap.one (r:=Yt 3 1 none 0 0 []) (Qtg 3 1 w) (by intro b hb;cases hb),by omega,by simp,rfl,rfl⟩
 rintro m e w2 ⟨j,cap,a,o,rfl,hH,h1,h2,h3,rfl⟩;refine VS [0,3,5] ?_;refine Qaf rfl rfl (fun hlt=>?_) (fun hge=>?_)
 ·
  simp only [decide_eq_true_eq] at hlt;refine VC_skip (Qac ?_);refine VS [0,3] ?_;refine VQ [0,3] fun K hK=>?_;refine ⟨⟨by omega,by omega⟩,⟨by decide,by decide⟩,?_⟩;rw [show Uh 1=1 from rfl,Uj];refine Qcd (xs:=[.tmp 10]) Yg sz3 rfl rfl rfl (by omega) ?_;refine Qs ?_;refine ⟨by simp [Y9],?_⟩;refine Qai ?_;refine Qs ?_;refine Qge hH 0 rfl Yg zi3 (fun h=>by simp;omega) fun a' cap' w5 hc' hH4=>?_;apply hK;clear hK;refine VS [0,3] ?_;refine Qaj (Qab ?_);refine Qs ?_;obtain ⟨j,rfl⟩:∃ j,m=j+1:=⟨m - 1,by omega⟩
  have e1:(((j+1:Nat):Int) - 1) / 2 ^ shN Xq 1=((j / 2:Nat):Int):=by
   rw [show shN Xq 1=1 by decide,show (((j+1:Nat):Int) - 1)=(j:Int) by omega];omega
  rw [e1];rw [Qme] at h3;exact ⟨j / 2,by omega,j / 2,cap',a',o++[((j % 2:Nat):Int)],rfl,hH4,by omega,by simp;omega,by rw [h3,Yj];rfl,rfl⟩
 simp only [decide_eq_false_iff_not] at hge;refine Qag rfl ?_;refine VS [2] ?_;refine VC_ret (VX_ret1 rfl rfl ?_);have:m=0:=by omega
 subst this;rw [Qi1,Yl] at h3;rw [h3];exact ⟨a,cap,hH,rfl⟩
def runS (k:Int):List Int×Int:=if k < 0∨2147483647 < k then ([],2) else (dig k.toNat,0)
def IntsErr (p:List Int×Int) (w:World) (v:Value) (w':World):Prop :=
 ∃ a cap,Heap w [] w' [Yt 3 1 a p.1.length cap (Qat p.1)]/\v=.tuple #[.slice a p.1.length cap,.int .i64 p.2]
theorem IntsErr.nil {w w':World} (h:Heap w [] w' []) (e:Int):IntsErr ([],e) w (.tuple #[.slice none 0 0,.int .i64 e]) w' :=
 ⟨none,0,h.call0 (Heap.one (r:=Yt 3 1 none 0 0 []) (Qtg 3 1 w') (by intro b hb;cases hb)),rfl⟩
def zgo (n:Int):List Int->Nat->List Int->List Int×Int
 | out,z,[]=>(out++dig z++[n+1],0)
 | out,z,v::r=>if v=0 then zgo n out (z+1) r else if v < 0∨n<=v then ([],60) else zgo n (out++dig z++[v+1]) 0 r
def zenc (n:Int) (l:List Int):List Int×Int:=if n < 1∨256 < n then ([],2) else zgo n [] 0 l
theorem QHl (n:Int) (l:List Int) (la:Option Addr) (lc:Nat) (hn:I64 n) (w:World) (hl:RS w la l.length 1 (Qat l)) (hs:l.length<=17592186044400) (hi:∀ v∈l,I64 v) :
  Does Yi 33 #[.int .i64 n,.slice la l.length lc] w (IntsErr (zenc n l) w):=by
 refine En [.int .i64 n,.slice la l.length lc] 68 Tryz.func33 ?_;refine VS [0,1] ?_;refine VQ [0,1,14] fun K hK=>?_
 have out:(n < 1∨256 < n)->K [(0,.int .i64 n),(1,.slice la l.length lc),(14,.bool true)] w:=by
  intro h;apply hK;clear hK;refine Qaf rfl rfl (fun _=>?_) (fun h=>by cases h);refine VS [4,5] ?_;refine VC_ret (Qav rfl rfl rfl ?_);rw [zenc,if_pos h];exact IntsErr.nil (Yx w) 2
 refine ⟨fun h1=>?_,fun h1=>out (.inl h1)⟩;by_cases h2:256 < n
 ·
  rw [decide_eq_true h2];exact out (.inr h2)
 rw [decide_eq_false h2];clear out;apply hK;clear hK;refine Qaf rfl rfl (fun h=>by cases h) (fun _=>VC_skip ?_);rw [zenc,if_neg (by omega)];refine VS [0,1,6] ?_;refine VS [0,1,6,7] ?_;(repeat refine Qax ?_);refine Qdl [0,6] (fun e w'=>∃ (cap:Nat) (a:Option Addr) (o:List Int),Is e [(0,.int .i64 n),(6,.slice a o.length cap)]/\Heap w [] w' [Yt 3 1 a o.length cap (Qat o)]/\o.length<=l.length/\zgo n [] 0 l=(o++[n+1],0)) (Qac ?_) ?_
 rotate_left
 ·
  rintro e w2 ⟨cap,a,o,rfl,hH,g1,g2⟩;refine VQ [4,5] fun K hK=>?_;(repeat first | refine Qo ?_ | refine Qp ?_);refine Qcd (xs:=[.tmp 65]) Yg sz3 rfl rfl rfl (by omega) ?_;refine Qs ?_;refine ⟨by simp [Y9],?_⟩;refine Qai ?_;refine Qs ?_;refine Qge hH 0 rfl Yg zi3 (fun h=>by (first | omega | (simp;done) | (simp;omega))) fun a' cap' w5 hc' hH6=>?_;(try refine Qs ?_);apply hK;clear hK;refine VC_ret (Qav rfl rfl rfl ?_);rw [g2];exact ⟨_,_,hH6,rfl⟩
 refine Qad [0,1,6,7] (fun m e w'=>∃ (i cap:Nat) (a:Option Addr) (o:List Int),Is e [(0,.int .i64 n),(1,.slice la l.length lc),(6,.slice a o.length cap),(7,.int .i64 i)]/\Heap w [] w' [Yt 3 1 a o.length cap (Qat o)]/\i<=l.length/\o.length<=i/\zgo n [] 0 l=zgo n o 0 (l.drop i)/\m=l.length - i) l.length ?_ ?_
 ·
  refine Qs ?_;exact ⟨0,0,none,[],rfl,Qj8,by omega,by simp,rfl,rfl⟩
 rintro m e w2 ⟨i,cap,a,o,rfl,hH,g1,g2,g3,rfl⟩;refine VS [0,1,6,7,18] ?_;refine VD (fun h=>?_) (fun h=>?_)
 ·
  refine VC_skip ?_;refine Qac ?_;refine Qoe ?_;refine VS [0,1,6,7,8] ?_;(repeat refine Qax ?_);refine Qoc ?_;(repeat refine Qax ?_);refine Qdl [0,1,6,7,8] (fun e w'=>∃ j z:Nat,Is e [(0,.int .i64 n),(1,.slice la l.length lc),(6,.slice a o.length cap),(7,.int .i64 j),(8,.int .i64 z)]/\Is w' w2/\j<=l.length/\i<=j/\z=j - i/\zgo n [] 0 l=zgo n o z (l.drop j)/\(j < l.length->l.getD j 0≠0)) ?_ ?_
  ·
   refine Qac ?_;refine Qad [0,1,6,7,8] (fun m e w'=>∃ (j z:Nat),Is e [(0,.int .i64 n),(1,.slice la l.length lc),(6,.slice a o.length cap),(7,.int .i64 j),(8,.int .i64 z)]/\Is w' w2/\j<=l.length/\i<=j/\z=j - i/\zgo n [] 0 l=zgo n o z (l.drop j)/\m=l.length - j) (l.length - i) ?_ ?_
   ·
    refine Qs ?_;exact ⟨i,0,rfl,rfl,g1,by omega,by omega,g3,rfl⟩
   rintro m e w' ⟨j,z,rfl,rfl,k1,k2,k3,k4,rfl⟩;refine VS [0,1,6,7,8,22] ?_;refine VD (fun h=>?_) (fun h=>?_)
   ·
    refine VC_skip ?_;refine Qac ?_;obtain ⟨p,rfl⟩:=Qbj hl (by omega);have hl2:=hH.rs' hl;refine VQ [0,1,6,7,8,27] fun K hK=>?_;refine ⟨⟨by omega,by omega⟩,_,Qht hl2 (show j < l.length by omega),?_⟩;refine Qs ?_;apply hK;clear hK;have k4':=k4;rw [drop_getD 0 (by omega),zgo] at k4;refine Vi (fun h=>?_) (fun h=>?_)
    ·
     simp only [decide_eq_true_eq] at h;refine Qag rfl ?_;refine Qab ?_;refine Qs ?_;exact ⟨j,z,rfl,rfl,k1,k2,k3,k4',fun _=>h⟩
    simp only [decide_eq_false_iff_not,Decidable.not_not] at h;rw [if_pos h] at k4;refine VC_skip ?_;refine VS [0,1,6,7,8] ?_;refine VS [0,1,6,7,8] ?_;refine Qaj ?_;refine Qab ?_;refine Qs ?_;exact ⟨l.length - (j+1),by omega,j+1,z+1,rfl,rfl,by omega,by omega,by omega,k4,rfl⟩
   refine Qag rfl ?_;refine Qab ?_;refine Qs ?_;exact ⟨j,z,rfl,rfl,k1,k2,k3,k4,fun h'=>by omega⟩
  rintro e w' ⟨j,z,rfl,rfl,k1,k2,k3,k4,k5⟩;have hdl:=Qig z z (Xb _);refine VQ [0,1,6,7] fun K hK=>?_;refine MemK_call Tryz.call59 ?_;refine Qs ?_;refine Yk (QAi z w' (by omega)) ?_;rintro v w2 ⟨a2,c2,hH2,rfl⟩;have hH3:=hH.call0 hH2;refine Qai ?_;refine Qs ?_;refine Qcg hH3 1 rfl Yg zi3 (t:=dig z) (by simp) (Qaq (hH2.at 0 rfl)) (fun h=>by (first | omega | (simp;done) | (simp;omega))) fun a' cap' w5 hc' hH4=>?_;(try refine Qs ?_);apply hK;clear hK;have hol:(o++dig z).length<=j:=by simp;omega
  refine VS [0,1,6,7,39] ?_;refine VD (fun h=>?_) (fun h=>?_)
  ·
   refine Qag rfl (Qab ?_);refine Qs ?_;rw [Yy (by omega),zgo] at k4;exact ⟨_,_,_,rfl,hH4.sub (by simp),by omega,k4⟩
  refine VC_skip ?_;obtain ⟨p,rfl⟩:=Qbj hl (by omega);have hl2:=hH4.rs' hl;have hc:=Qht hl2 (show j < l.length by omega);have hj:=k5 (by omega);rw [drop_getD 0 (by omega),zgo,if_neg hj] at k4;have hr:=hi _ (Qa3 0 (show j < l.length by omega));generalize l.getD j 0=v at *;obtain ⟨hr1,hr2⟩:=hr;refine VQ [0,1,6,7,52] fun K hK=>?_;refine ⟨⟨by omega,by omega⟩,_,hc,?_⟩;refine Qs ?_
  have out:(v < 0∨n<=v)->K [(0,.int .i64 n),(1,.slice (some p) l.length lc),(6,.slice a' (o++dig z).length cap'),(7,.int .i64 j),(52,.bool true)] w5:=by
   intro h;apply hK;clear hK;refine Qaf rfl rfl (fun _=>?_) (fun h=>by cases h);refine VS [4,5] ?_;refine VC_ret (Qav rfl rfl rfl ?_);rw [k4,if_pos h];exact IntsErr.nil (hH4.sub (by simp)) 60
  refine ⟨fun f1=>⟨⟨by omega,by omega⟩,_,hc,?_⟩,fun f1=>out (.inl f1)⟩;refine Qs ?_;by_cases f2:n<=v
  ·
   rw [decide_eq_true f2];exact out (.inr f2)
  rw [decide_eq_false f2];clear out;rw [if_neg (by omega)] at k4;apply hK;clear hK;refine Qaf rfl rfl (fun h=>by cases h) (fun _=>VC_skip ?_);refine VQ [0,1,6,7] fun K hK=>?_;refine ⟨⟨by omega,by omega⟩,_,hc,?_⟩;refine Qs ?_;(repeat first | refine Qo ?_ | refine Qp ?_);refine Qcd (xs:=[.tmp 58]) Yg sz3 rfl rfl rfl (by omega) ?_;refine Qs ?_;refine ⟨by simp [Y9],?_⟩;refine Qai ?_;refine Qs ?_;refine Qge hH4 1 rfl Yg zi3 (fun h=>by (first | omega | (simp;done) | (simp;omega))) fun a' cap' w5 hc' hH6=>?_;(try refine Qs ?_);apply hK;clear hK;refine VS [0,1,6,7] ?_;refine Qaj ?_;refine Qab ?_;refine Qs ?_;exact ⟨l.length - (j+1),by omega,j+1,_,_,_,rfl,hH6.sub (by simp),by omega,by simp at hol ⊢;omega,k4,rfl⟩
 refine Qag rfl (Qab ?_);refine Qs ?_;rw [Yy (by omega),zgo,Qi1,Yl] at g3;exact ⟨_,_,_,rfl,hH,by omega,g3⟩
def zend (n:Int) (out:List Int):List Int->List Int×Int
 | []=>(out,0)
 | x::_=>if x < 0∨n+1 < x then ([],60) else ([],70)
def zdec (n most:Int):List Int->Nat->List Int->List Int×Int
 | _,_,[]=>([],70)
 | out,wt,s::r=>if s < 0∨n+1 < s then ([],60)
  else if s < 2 then (if most - out.length < (s+1) * wt then ([],3) else zdec n most (out++Ya ((s+1) * wt).toNat 0) (2 * wt) r)
  else if s=n+1 then zend n out r
  else if most<=out.length then ([],3) else zdec n most (out++[s - 1]) 1 r
def Qe4 (n most:Int) (l:List Int):List Int×Int:=if n < 1∨256 < n∨most < 0∨262144 < most then ([],2) else zdec n most [] 1 l
theorem QAj (n s:Int) (hn:I64 n) (hn2:n<=256) (hs:I64 s) (w:World):Does Yi 143 #[.int .i64 n,.int .i64 s] w fun v w'=>w'=w/\v=.int .i64 (if s < 0∨n+1 < s then 60 else 70):=by
 obtain ⟨hn1,hn3⟩:=hn;refine En [.int .i64 n,.int .i64 s] 13 Tryz.func143 ?_;refine VS [0,1] ?_;by_cases hn4:n=-9223372036854775808
 all_goals
  refine VQ [12] fun K hK=>?_
  suffices out:∀ b:Bool,(b=true ↔ s < 0∨n+1 < s)->K [(12,.bool b)] w by (repeat' (first | exact out _ _ (by first | omega | (simp;done) | (simp;omega)) | exact out _ (by first | omega | (simp;done) | (simp;omega)) | refine ⟨fun _=>?_,fun _=>?_⟩ | refine Qo ?_))
  intro b hb;apply hK;clear hK;refine Vi (fun h=>?_) (fun h=>VC_skip ?_)
  ·
   refine VS [4] ?_;refine VC_ret (VX_ret1 rfl rfl ⟨rfl,?_⟩);rw [if_pos (hb.1 h)]
  refine VS [4] ?_;refine VC_ret (VX_ret1 rfl rfl ⟨rfl,?_⟩);rw [if_neg (fun h'=>by rw [hb.2 h'] at h;cases h)]
theorem intsV_zero (m:Nat):Ya m (Y1 .i64 0)=Qat (Ya m 0):=by simp [Qat]
def lead (b:UInt8):List UInt8->Nat
 | []=>0
 | c::l=>if c=b then lead b l+1 else 0
def Qdj:List UInt8->Nat
 | []=>0
 | b::l=>min 255 (lead b l+1)
def Qen (n:Nat) (l:List UInt8):List UInt8:=if n < 4 then l.take n else l.take 4++[Y4 (n - 4)]
def encF:Nat->List UInt8->List UInt8
 | 0,_=>[]
 | _,[]=>[]
 | f+1,b::l=>Qen (Qdj (b::l)) (b::l)++encF f ((b::l).drop (Qdj (b::l)))
def enc (l:List UInt8):List UInt8:=encF l.length l
theorem QHm (b:UInt8) (l:List UInt8):∀ n,(∀ j,j < n->l[j]? = some b)->(l[n]? ≠ some b)->lead b l=n:=by
 induction l with
 | nil =>
  intro n h1 _;cases n with
  | zero=>rfl
  | succ n=>have:=h1 0 (by omega);simp at this
 | cons c l ih =>
  intro n h1 h2;cases n with
  | zero =>
   have:¬ c=b:=by simpa using h2
   simp [lead,this]
  | succ n =>
   have:c=b:=by simpa using h1 0 (by omega)
   simp only [lead,this,if_true];rw [ih n (fun j hj=>by simpa using h1 (j+1) (by omega)) (by simpa using h2)]
theorem QPb (b:UInt8) (l:List UInt8):∀ n,(∀ j,j < n->l[j]? = some b)->n<=lead b l:=by
 induction l with
 | nil =>
  intro n h1;cases n with
  | zero=>omega
  | succ n=>have:=h1 0 (by omega);simp at this
 | cons c l ih =>
  intro n h1;cases n with
  | zero=>omega
  | succ n =>
   have:c=b:=by simpa using h1 0 (by omega)
   simp only [lead,this,if_true];have:=ih n (fun j hj=>by simpa using h1 (j+1) (by omega));omega
theorem QPc (b:UInt8) (l:List UInt8):lead b l<=l.length:=by
 induction l with
 | nil=>simp [lead]
 | cons c l ih=>simp only [lead];split <;> simp <;> omega
theorem QKt (b:UInt8) (l:List UInt8):l[lead b l]? ≠ some b:=by
 induction l with
 | nil=>simp [lead]
 | cons c l ih =>
  simp only [lead];split
  ·
   simpa using ih
  rename_i hc;simpa using hc
def Same (l:List UInt8) (i n:Nat):Prop:=∀ j,j < n->l[i+j]? = l[i]?
theorem Qup (l:List UInt8) (i n:Nat) (hi:i < l.length) (h1:1<=n) (h2:n<=255) (hs:Same l i n) (he:n=255∨l[i+n]? ≠ l[i]?):Qdj (l.drop i)=n:=by
 have hd:l.drop i=l[i]::l.drop (i+1):=Ul hi;rw [hd];simp only [Qdj];have hg:l[i]? = some l[i]:=Yd hi
 have hj:∀ j,j < n - 1->(l.drop (i+1))[j]? = some l[i]:=fun j hj=>by
  rw [X0,show i+1+j=i+(j+1) by omega,hs (j+1) (by omega),hg]
 rcases he with he | he
 ·
  have:=QPb _ _ _ hj;omega
 have:=QHm l[i] (l.drop (i+1)) (n - 1) hj (by rw [X0,show i+1+(n - 1)=i+n by omega,<- hg];exact he);omega
theorem Qed (l:List UInt8) (h:l≠[]):1<=Qdj l:=by
 cases l with
 | nil=>exact absurd rfl h
 | cons b l=>simp only [Qdj];omega
theorem Qi2 (l:List UInt8):Qdj l<=l.length/\Qdj l<=255:=by
 cases l with
 | nil=>simp [Qdj]
 | cons b l=>have:=QPc b l;simp only [Qdj,Ys];omega
theorem Qp7 (l:List UInt8) (h:l≠[]) (f:Nat):encF (f+1) l=Qen (Qdj l) l++encF f (l.drop (Qdj l)):=by
 cases l with
 | nil=>exact absurd rfl h
 | cons b l=>rfl
theorem QHn:∀ (f g:Nat) (l:List UInt8),l.length<=f->l.length<=g->encF f l=encF g l:=by
 intro f
 induction f with
 | zero =>
  intro g l hf _;have:l=[]:=Y0 (by omega);subst this;cases g <;> rfl
 | succ f ih =>
  intro g l hf hg;by_cases hl:l=[]
  ·
   subst hl;cases g <;> rfl
  cases g with
  | zero=>exact absurd (Y0 (by omega)) hl
  | succ g =>
   rw [Qp7 l hl,Qp7 l hl];have:=Qed l hl;rw [ih g _ (by simp;omega) (by simp;omega)]
theorem Qi3 (l:List UInt8) (h:l≠[]):enc l=Qen (Qdj l) l++enc (l.drop (Qdj l)):=by
 have hp:0 < l.length:=Ge.2 h;have hr:=Qed l h;unfold enc;rw [show l.length=(l.length - 1)+1 by omega,Qp7 l h];rw [QHn (l.length - 1) (l.drop (Qdj l)).length _ (by simp;omega) (Xb _)]
theorem Qfz:enc []=[]:=rfl
theorem Qdq (n:Nat) (l:List UInt8) (h:n<=l.length):(Qen n l).length=if n < 4 then n else 5:=by
 unfold Qen;split <;> simp <;> omega
theorem Qkg (l:List UInt8):(enc l).length<=l.length+l.length / 4:=by
 induction hn:l.length using Nat.strongRecOn generalizing l with
 | _ n ih =>
  subst hn;by_cases hl:l=[]
  ·
   subst hl;simp [Qfz]
  rw [Qi3 l hl];have h1:=Qed l hl;have h2:=(Qi2 l).1;have:=ih (l.drop (Qdj l)).length (by simp;omega) _ rfl;rw [Yn,Qdq _ _ h2];simp only [Xi] at this;split <;> omega
theorem Qi4 {l:List UInt8}{i j:Nat} (hi:i < l.length) (hj:j < l.length):(((l.getD i 0).toNat:Int)=((l.getD j 0).toNat:Int)) ↔ l[i]? = l[j]? := by
 rw [Yd hi,Yd hj,Ye,Ye,Yd hi,Yd hj];simp only [Xo,Option.some.injEq];exact ⟨fun h=>Uc.1 (by omega),fun h=>by rw [h]⟩
theorem QB7 (l:List UInt8) (i:Nat) (w:World) (hi:i < l.length) (hs:l.length<=1000000000000000000) :
  Does Yi 55 #[Str l,.int .i64 i] w fun v w'=>w'=w/\v=.int .i64 (Qdj (l.drop i)):=by
 refine En [Str l,.int .i64 i] 30 Tryz.func55 ?_;refine VS [0,1] ?_;refine VS [0,1,5] ?_;refine VB ?_;refine Qad [0,1,5] (fun m e w'=>∃ n:Nat,Is e [(0,Str l),(1,.int .i64 i),(5,.int .i64 n)]/\Is w' w/\1<=n/\n<=255/\Same l i n/\m=255 - n) 254 ?_ ?_
 ·
  refine Qs ?_;exact ⟨1,rfl,rfl,by omega,by omega,fun j hj=>by rw [show j=0 by omega];rfl,rfl⟩
 rintro m e w' ⟨n,rfl,rfl,h1,h2,h3,rfl⟩;refine Vq [0,1,5,26] fun K hK=>?_
 have done:(n=255∨l[i+n]? ≠ l[i]?)->K [(0,Str l),(1,Y1 Xq i),(5,Y1 Xq n),(26,Value.bool false)]:=by
  intro hend;apply hK;clear hK;refine Qaf rfl rfl (fun h=>by cases h) (fun _=>?_);refine Qag rfl ?_;refine VS [4] ?_;refine VC_ret (VX_ret1 rfl rfl ⟨rfl,?_⟩);rw [Qup l i n hi h1 h2 h3 hend]
 refine ⟨fun g1=>⟨Y7 (by omega) (by omega),fun g2=>⟨Y7 (by omega) (by omega),by omega,by omega,?_⟩,fun g2=>done (.inr ?_)⟩,fun g1=>done (.inl (by omega))⟩
 ·
  by_cases hc:l[i+n]? = l[i]?
  ·
   (apply hK;clear hK)
   refine Vi (fun h=>?_) (fun h=>?_)
   ·
    refine VC_skip (Qac ?_);refine VS [0,1,5] ?_;refine Qaj (Qab ?_);refine Qs ?_;refine ⟨255 - (n+1),by omega,n+1,rfl,rfl,by omega,by omega,?_,rfl⟩;intro j hj;by_cases hjn:j=n
    ·
     rw [hjn];exact hc
    exact h3 j (by omega)
   exfalso;simp only [decide_eq_false_iff_not] at h;rw [Qi4 (by omega) hi] at h;exact h hc
  have e:decide ((((l.getD (i+n) 0).toNat:Nat):Int)=(((l.getD i 0).toNat:Nat):Int))=false:=by
   rw [decide_eq_false_iff_not,Qi4 (by omega) hi];exact hc
  rw [e];exact done (.inr hc)
 rw [Xk (by omega),Yd hi];simp
theorem QKu (l:List UInt8) (w:World) (hs:l.length<=140737488355328) :
  Does Yi 29 #[Str l] w fun v w'=>Heap w [] w' []/\v=Str (enc l):=by
 refine En [Str l] 48 Tryz.func29 ?_;refine VS [0] ?_;refine VQ [0,3] fun K hK=>?_;refine ⟨by omega,by omega,Y7 (by omega) (by omega),Y7 (by omega) (by omega),?_⟩;refine Qbi Yp zi5 ?_;refine Qs ?_;refine ⟨0,l.length+l.length / 4,⟨rfl,rfl,by omega,by omega,by omega⟩,?_⟩;have hH:=(Yx w).row 5 (n:=0) (cap:=l.length+l.length / 4) (sz:=1) [] (Ya (l.length+l.length / 4) (.int .u8 0)) (by simp) (by simp) (by omega) (by omega);simp only [Yf] at hH;generalize w.alloc (Yv (Ya (l.length+l.length / 4) (Y1 IntKind.u8 0)).toArray 5)=w1 at hH ⊢;generalize (some ⟨w.heap.size,0,none⟩:Option Addr)=a at hH ⊢;apply hK;clear hK;refine VS [0,3,4] ?_;refine VB ?_;refine Qad [0,3,4] (fun m e w'=>∃ (i:Nat) (o:List UInt8),Is e [(0,Str l),(3,.slice a o.length (l.length+l.length / 4)),(4,.int .i64 i)]/\Heap w [] w' [Yt 5 1 a o.length (l.length+l.length / 4) (Qar o)]/\i<=l.length/\enc l=o++enc (l.drop i)/\o.length<=i+i / 4/\m=l.length - i) l.length ?_ ?_
 ·
  refine Qs ?_;exact ⟨0,[],rfl,hH,by omega,rfl,by simp,rfl⟩
 rintro m e w2 ⟨i,o,rfl,hH,h1,h2,h3,rfl⟩;refine VS [0,3,4,16] ?_;refine Qaf rfl rfl (fun hlt=>?_) (fun hge=>?_)
 ·
  simp only [decide_eq_true_eq] at hlt;refine VC_skip (Qac ?_);have hn1:1<=Qdj (l.drop i):=Qed _ (by intro h;have:=congrArg Gr h;simp at this;omega);have hn2:=Qi2 (l.drop i);rw [Xi] at hn2;have hstep:=Qi3 (l.drop i) (by intro h;have:=congrArg Gr h;simp at this;omega);rw [List.drop_drop] at hstep;refine VQ [0,3,4,5] fun K hK=>?_;refine MemK_call Tryz.call55 ?_;refine Qs ?_;refine Yk (QB7 l i w2 (by omega) (by omega)) ?_;rintro v w' ⟨rfl,rfl⟩;apply hK;clear hK;generalize hn:Qdj (l.drop i)=n at hn1 hn2 hstep ⊢;refine VS [0,3,4,5,21] ?_;refine Qdl [0,3,4,5] (fun e w3=>Is e [(0,Str l),(3,.slice a (o++Qen n (l.drop i)).length (l.length+l.length / 4)),(4,.int .i64 i),(5,.int .i64 n)]/\Heap w [] w3 [Yt 5 1 a (o++Qen n (l.drop i)).length (l.length+l.length / 4) (Qar (o++Qen n (l.drop i)))]) ?_ ?_
  ·
   refine Qaf rfl rfl (fun hn4=>?_) (fun hn4=>?_)
   ·
    simp only [decide_eq_true_eq] at hn4;refine VQ [0,3,4,5] fun K hK=>?_;refine ⟨Y7 (by omega) (by omega),by omega,?_⟩;refine Qai ?_;refine Qs ?_
    have e:Qen n (l.drop i)=U9 (i+n - i) (List.drop i l):=by
     rw [Qen,if_pos (by omega)];congr 1;omega
    rw [<- e]
    have el:(o++Qen n (l.drop i)).length<=l.length+l.length / 4:=by
     rw [Yn,Qdq _ _ (by simp;omega),if_pos (by omega)];omega
    refine Qod hH 0 rfl Yp zi5 Ur (fun h=>by omega) fun a' cap' w' hc hH=>?_;obtain ⟨rfl,rfl⟩:=hc el;apply hK;clear hK;refine Qab ?_;refine Qs ?_;exact ⟨rfl,hH⟩
   simp only [decide_eq_false_iff_not] at hn4
   have e:Qen n (l.drop i)=U9 (i+4 - i) (List.drop i l)++[Y4 (n - 4)]:=by
    rw [Qen,if_neg (by omega)];congr 2;omega
   have el:(o++Qen n (l.drop i)).length<=l.length+l.length / 4:=by
    rw [Yn,Qdq _ _ (by simp;omega),if_neg (by omega)];omega
   rw [e,<- Yj] at el ⊢;generalize ht:U9 (i+4 - i) (List.drop i l)=t at el ⊢;have el2:(o++t).length<=l.length+l.length / 4:=by simp at el ⊢;omega
   refine VQ [0,3,4,5] fun K hK=>?_;refine ⟨Y7 (by omega) (by omega),by omega,?_⟩;refine Qai ?_;refine Qs ?_;rw [ht];refine Qod hH 0 rfl Yp zi5 Ur (fun h=>by omega) fun a' cap' w' hc hH=>?_;obtain ⟨rfl,rfl⟩:=hc el2;apply hK;clear hK;refine VQ [0,3,4,5] fun K hK=>?_;refine ⟨Y7 (by omega) (by omega),?_⟩;refine Qcd (xs:=[.tmp 40]) Yp sz5 rfl rfl rfl (by omega) ?_;refine Qs ?_;refine ⟨by simp [Y9],?_⟩;refine Qai ?_;refine Qs ?_;refine Qg9 hH 0 (Y4 (n - 4)) rfl Yp zi5 (by simp;omega) (fun h=>by omega) fun a' cap' w' hc hH=>?_;obtain ⟨rfl,rfl⟩:=hc el;apply hK;clear hK;refine Qab ?_;refine Qs ?_;exact ⟨rfl,hH⟩
  rintro e w3 ⟨rfl,hH⟩;refine VS [0,3,4] ?_;refine Qaj (Qab ?_);refine Qs ?_;refine ⟨l.length - (i+n),by omega,i+n,o++Qen n (l.drop i),rfl,hH,by omega,?_,?_,rfl⟩
  ·
   rw [h2,hstep,Yj]
  rw [Yn,Qdq _ _ (by simp;omega)];split <;> omega
 simp only [decide_eq_false_iff_not] at hge;refine Qag rfl ?_;refine VQ [2] fun K hK=>?_;refine ⟨o,hH.readsBytes 0 rfl,?_⟩;apply hK;clear hK;refine VC_ret (VX_ret1 rfl rfl ⟨hH.sub (by simp),?_⟩);rw [h2,Yy (by omega),Qfz,Yl]
theorem Quq {α:Type}{l:List α} (h:0 < l.length):l≠[]:=by intro h';rw [h'] at h;simp at h
theorem Qp8 (l:List UInt8) (w:World) (hs:l.length<=140737488355328) :
  Does Yi 42 #[Str l] w fun v w'=>Heap w [] w' []/\v=Str (enc l):=by
 refine En [Str l] 47 Tryz.func42 ?_;refine VS [0] ?_;refine VS [0,3] ?_;refine VB ?_;refine Qad [0,3] (fun m e w'=>∃ (s o:List UInt8),Is e [(0,Str s),(3,Str o)]/\Heap w [] w' []/\enc l=o++enc s/\s.length<=l.length/\m=s.length) l.length ?_ ?_
 ·
  refine Qs ?_;exact ⟨l,[],rfl,Yx w,rfl,Xb _,rfl⟩
 rintro m e w1 ⟨s,o,rfl,hH,h1,h2,rfl⟩;have hel:=Qkg l;have hol:o.length<=(enc l).length:=by rw [h1];simp
 refine VS [0,3,7] ?_;refine Qaf rfl rfl (fun hlt=>?_) (fun hge=>?_)
 ·
  simp only [decide_eq_true_eq] at hlt;refine VC_skip (Qac ?_);have hs0:s≠[]:=Quq (by omega);refine VS [0,3,4] ?_;refine VB ?_;refine Qad [0,3,4] (fun m e w'=>∃ n:Nat,Is e [(0,Str s),(3,Str o),(4,.int .i64 n)]/\Is w' w1/\1<=n/\n<=255/\n<=s.length/\Same s 0 n/\m=255 - n) 254 ?_ ?_
  ·
   refine Qs ?_;exact ⟨1,rfl,rfl,by omega,by omega,by omega,fun j hj=>by rw [show j=0 by omega],rfl⟩
  rintro m e w' ⟨n,rfl,rfl,g1,g2,g3,g4,rfl⟩;refine Vq [0,3,4,23] fun K hK=>?_
  have done:(n=255∨s[0+n]? ≠ s[0]?)->K [(0,Str s),(3,Str o),(4,Y1 Xq n),(23,Value.bool false)]:=by
   intro hend;apply hK;clear hK;refine Qaf rfl rfl (fun h=>by cases h) (fun _=>?_);refine Qag rfl ?_;have hrun:=Qup s 0 n (by omega) g1 g2 g4 hend;rw [Y2] at hrun;have hstep:=Qi3 s hs0;rw [hrun] at hstep;have htot:(o++Qen n s).length<=(enc l).length:=by rw [h1,hstep];(first | omega | (simp;done) | (simp;omega))
   have hrl:=Qdq n s g3;refine VS [0,3,4,27] ?_;refine Qdl [0,3,4] (fun e w3=>Is e [(0,Str s),(3,Str (o++Qen n s)),(4,.int .i64 n)]/\Heap w [] w3 []) ?_ ?_
   ·
    refine Qaf rfl rfl (fun hn4=>?_) (fun hn4=>?_)
    ·
     simp only [decide_eq_true_eq] at hn4;rw [if_pos (by omega)] at hrl;refine VQ [0,3,4] fun K hK=>?_;refine ⟨by omega,by (first | omega | (simp;done) | (simp;omega)),?_⟩;have e:Qen n s=U9 n s:=by rw [Qen,if_pos (by omega)]
     rw [<- e];apply hK;clear hK;refine Qab ?_;refine Qs ?_;exact ⟨rfl,hH⟩
    simp only [decide_eq_false_iff_not] at hn4;rw [if_neg (by omega)] at hrl;have e:Qen n s=U9 4 s++[Y4 (n - 4)]:=by rw [Qen,if_neg (by omega)]
    refine VH _ (Ext.refl _) [0,3,4] [(0,true),(1,true),(2,true),(3,true),(4,true),(5,true),(6,true),(7,false),(8,false),(9,false),(10,false)] fun K hK=>?_;refine ⟨by omega,by (first | omega | (simp;done) | (simp;omega)),Y7 (by omega) (by omega),?_⟩;refine Qcd (xs:=[.tmp 39]) Yp sz5 rfl rfl rfl (by omega) ?_;refine Qs ?_;refine ⟨by simp [Y9],?_⟩;have hH':=hH.row 5 (n:=1) (cap:=1) (sz:=1) [Y1 .u8 ((↑n - 4) % 256)] [] (by simp) (by simp) (by omega) (by omega);simp only [Yl] at hH'
    have hb:[Y1 .u8 ((↑n - 4) % 256)]=Qar [Y4 (n - 4)]:=by
     simp [Qar];omega
    rw [hb] at hH' ⊢;refine ⟨Ext.alloc _ _,[Y4 (n - 4)],hH'.readsBytes 0 rfl,?_,?_⟩
    ·
     simp;omega
    rw [show (4:Int).toNat=4 from rfl,Yj,<- e];apply hK;clear hK;refine Qab ?_;refine Qs ?_;exact ⟨rfl,hH'.sub (by simp)⟩
   rintro e w3 ⟨rfl,hH⟩;refine VS [0,3] ?_;refine Qaj (Qab ?_);refine Qs ?_;refine ⟨(s.drop n).length,by (first | omega | (simp;done) | (simp;omega)),s.drop n,o++Qen n s,rfl,hH,?_,by (first | omega | (simp;done) | (simp;omega)),rfl⟩;rw [h1,hstep,Yj]
  refine ⟨fun k1=>⟨fun k2=>⟨by omega,by omega,?_⟩,fun k2=>done (.inl (by omega))⟩,fun k1=>?_⟩
  ·
   by_cases hc:s[0+n]? = s[0]?
   ·
    (apply hK;clear hK)
    refine Vi (fun h=>?_) (fun h=>?_)
    ·
     refine VC_skip (Qac ?_);refine VS [0,3,4] ?_;refine Qaj (Qab ?_);refine Qs ?_;refine ⟨255 - (n+1),by omega,n+1,rfl,rfl,by omega,by omega,by omega,?_,rfl⟩;intro j hj;by_cases hjn:j=n
     ·
      rw [hjn];exact hc
     exact g4 j (by omega)
    exfalso;simp only [decide_eq_false_iff_not] at h;rw [show (0:Int).toNat=0 from rfl,Qi4 (by omega) (by omega)] at h;exact h (by simpa using hc)
   have e:decide ((((s.getD n 0).toNat:Nat):Int)=(((s.getD (0:Int).toNat 0).toNat:Nat):Int))=false:=by
    rw [decide_eq_false_iff_not,show (0:Int).toNat=0 from rfl,Qi4 (by omega) (by omega)];simpa using hc
   rw [e];exact done (.inr hc)
  exact done (.inr (by rw [Xk (by omega),Yd (by omega)];simp))
 simp only [decide_eq_false_iff_not] at hge;refine Qag rfl ?_;refine VS [2] ?_;refine VC_ret (VX_ret1 rfl rfl ⟨hH,?_⟩);rw [h1,Y0 (show s.length=0 by omega),Qfz,Yl]
def decS:List UInt8->Nat->List UInt8->List UInt8×Int
 | out,same,[]=>if same=4 then ([],30) else (out,0)
 | out,same,c::s =>
  if same=4 then (if 262144 < out.length+c.toNat then ([],3) else decS (out++Ya c.toNat (out.getLastD 0)) 0 s)
  else if out.length=262144 then ([],3) else decS (out++[c]) (if 0 < same/\out.getLastD 0=c then same+1 else 1) s
def Tail (out:List UInt8) (k:Nat):Prop:=k<=out.length/\∀ j,j < k->out[out.length - 1 - j]? = some (out.getLastD 0)
theorem Tail.zero (out:List UInt8):Tail out 0:=⟨Nat.zero_le _,fun j hj=>by omega⟩
theorem Tail.one (out:List UInt8) (c:UInt8):Tail (out++[c]) 1:=⟨by simp,fun j hj=>by rw [show j=0 by omega];simp [Um]⟩
theorem Tail.succ {out:List UInt8}{k:Nat}{c:UInt8} (h:Tail out k) (hc:out.getLastD 0=c):Tail (out++[c]) (k+1):=by
 refine ⟨by have:=h.1;simp;omega,fun j hj=>?_⟩;have e:(out++[c]).getLastD 0=c:=by simp [Um]
 rw [e];cases j with
 | zero=>simp
 | succ j =>
  have h1:=h.2 j (by omega);have hk:=h.1;rw [List.getElem?_append_left (by simp;omega)];rw [show (out++[c]).length - 1 - (j+1)=out.length - 1 - j by simp;omega,h1,hc]
theorem Tail.drop {out:List UInt8}{k:Nat} (h:Tail out k):out.drop (out.length - k)=Ya k (out.getLastD 0):=by
 apply Gn;intro j;rw [X0,List.getElem?_replicate];split
 ·
  rename_i hj;have:=h.2 (k - 1 - j) (by omega);have hk:=h.1;rw [show out.length - k+j=out.length - 1 - (k - 1 - j) by omega,this]
 rename_i hj;have hk:=h.1;rw [Xk (by omega)]
theorem QHo (out:List UInt8) (same:Nat) (c:UInt8) (s:List UInt8):decS out same (c::s) =
  if same=4 then (if 262144 < out.length+c.toNat then ([],3) else decS (out++Ya c.toNat (out.getLastD 0)) 0 s)
  else if out.length=262144 then ([],3) else decS (out++[c]) (if 0 < same/\out.getLastD 0=c then same+1 else 1) s:=rfl
def QLs (w:World) (l:List UInt8) (m:Nat) (e:Env) (w':World):Prop :=
 ∃ (i same cap:Nat) (a:Option Addr) (out:List UInt8),Is e [(0,Str l),(4,.slice a out.length cap),(5,.int .i64 same),(6,.int .i64 i)]/\Heap w [] w' [Yt 5 1 a out.length cap (Qar out)]/\i<=l.length/\out.length<=262144/\same<=4/\Tail out same/\decS [] 0 l=decS out same (l.drop i)/\m=l.length - i
theorem QPd (m c k:Nat) (b:UInt8) (hk:m+k<=c) (ms:List UInt8) (hm:ms.length=c) (hp:ms.take m=Ya m b) :
  (ms.take m++Ya k b++ms.drop (m+k)).length=c/\(ms.take m++Ya k b++ms.drop (m+k)).take (m+k)=Ya (m+k) b:=by
 refine ⟨by simp;omega,?_⟩;rw [hp,Xn,List.take_left' (by simp)]
theorem bytesV_take (l:List UInt8) (k:Nat):(Qar l).take k=Qar (l.take k):=by simp [Qar]
theorem bytesV_drop (l:List UInt8) (k:Nat):(Qar l).drop k=Qar (l.drop k):=by simp [Qar]
theorem bytesV_zero (n:Nat):Ya n (Y1 .u8 0)=Qar (Ya n 0):=by simp [Qar]
theorem bytesV_get {l:List UInt8}{i:Nat} (h:i < l.length):(Qar l)[i]? = some (.int .u8 (l.getD i 0).toNat):=by
 simp [Qar,Yd h,Ye]
theorem QKv (l:List UInt8) (w:World) (hs:l.length<=140737488355328) :
  Does Yi 125 #[Str l] w fun v w'=>Heap w [] w' []/\v=.tuple #[Str (decS [] 0 l).1,.int .i64 (decS [] 0 l).2]:=by
 refine En [Str l] 78 Tryz.func125 ?_;refine VS [0] ?_;(repeat refine Qax ?_);refine Qoe ?_;refine VQ [0,4] fun K hK=>?_;refine Qcd (xs:=[]) Yp sz5 rfl rfl rfl (by omega) ?_;refine Qs ?_;refine ⟨by simp,?_⟩;have hH:=(Yx w).row 5 (n:=0) (cap:=0) (sz:=1) [] [] rfl rfl (by omega) (by omega);simp only [Yl] at hH;generalize w.alloc (Yv (List.toArray []) 5)=w1 at hH ⊢;generalize (some ⟨w.heap.size,0,none⟩:Option Addr)=a at hH ⊢;apply hK;clear hK;refine VS [0,4,5] ?_;refine Qax (Qoc ?_);refine VS [0,4,5,6] ?_;refine VB ?_;refine Qad [0,4,5,6] (QLs w l) l.length ?_ ?_
 ·
  simp only [Qvh,Qoz,Qvi,Qo0,↓reduceIte,reduceEqDiff];exact ⟨0,0,0,a,[],rfl,hH,by omega,by simp,by omega,Tail.zero _,rfl,rfl⟩
 clear hH;rintro m e w2 ⟨i,same,cap,a,out,rfl,hH,h1,h2,h3,h4,h5,rfl⟩;refine VS [0,4,5,6,13] ?_;refine Qaf rfl rfl (fun hlt=>?_) (fun hge=>?_)
 ·
  simp only [decide_eq_true_eq] at hlt;have hlt':i < l.length:=by omega
  have hdrop:l.drop i=l.getD i 0::l.drop (i+1):=by
   rw [Ul hlt',Ye,Yd hlt'];rfl
  rw [hdrop,QHo] at h5;have hc255:=(l.getD i 0).toNat_lt
  have fin:∀ (same':Nat) (cap':Nat) (a':Option Addr) (out':List UInt8) (w3:World) (k:List It),Heap w [] w3 [Yt 5 1 a' out'.length cap' (Qar out')]->out'.length<=262144->same'<=4->Tail out' same'->decS [] 0 l=decS out' same' (l.drop (i+1)) ->
    selK [0,4,5,6] [(0,Str l),(4,.slice a' out'.length cap'),(5,.int .i64 same'),(6,.int .i64 (↑i+1))] fun e=>∃ m,m < l.length - i/\QLs w l m e w3:=by
   intro same' cap' a' out' w3 k g1 g2 g3 g4 g5;simp only [Qvh,Qoz,Qvi,Qo0,↓reduceIte,reduceEqDiff];exact ⟨l.length - (i+1),by omega,i+1,same',cap',a',out',rfl,g1,by omega,g2,g3,g4,g5,rfl⟩
  refine VC_skip ?_;refine VB ?_;by_cases hsame:same=4
  ·
   subst hsame;rw [if_pos rfl] at h5;refine VS [0,4,5,6,17] ?_;refine Qaf rfl rfl (fun _=>?_) (fun h=>absurd h (by simp));refine VQ [0,4,5,6,25] fun K hK=>?_;refine ⟨by omega,Y7 (by omega) (by omega),Y7 (by omega) (by omega),?_⟩;apply hK;clear hK;generalize hc:l.getD i 0=c at h5 hc255 ⊢;by_cases hbig:262144 < out.length+c.toNat
   ·
    rw [if_pos hbig] at h5;refine Qaf rfl rfl (fun _=>?_) (fun h=>?_)
    ·
     refine VS [2,3] ?_;refine VC_ret (Qav rfl rfl rfl ⟨hH.sub (by simp),?_⟩);rw [h5]
    simp only [decide_eq_false_iff_not] at h;omega
   rw [if_neg hbig] at h5;refine Qaf rfl rfl (fun h=>?_) (fun _=>?_)
   ·
    simp only [decide_eq_true_eq] at h;omega
   refine VC_skip ?_;have h4':=h4.1;obtain ⟨g,rfl⟩:=Qc1 (hH.at 0 rfl) (by omega);refine VQ [0,4,6,7] fun K hK=>?_;rw [hc];refine ⟨by omega,Y7 (by omega) (by omega),?_⟩;refine Qbi Yp zi5 ?_;refine Qs ?_;refine ⟨c.toNat,c.toNat,⟨rfl,rfl,by omega,by omega,by omega⟩,?_⟩;have hH2:=hH.row 5 (n:=c.toNat) (cap:=c.toNat) (sz:=1) (Ya c.toNat (.int .u8 0)) [] (by simp) (by simp) (by omega) (by omega);rw [Yl,bytesV_zero] at hH2;rw [bytesV_zero];generalize w2.alloc (Yv (Qar (Ya c.toNat 0)).toArray 5)=w3 at hH2 ⊢;generalize hg2:w2.heap.size=g2 at hH2 ⊢;apply hK;clear hK;refine VS [0,4,6,7,8] ?_;generalize hb:out.getLastD 0=b at h5;(repeat refine Qax ?_);refine Qdl [0,4,6,7] (fun e w'=>Is e [(0,Str l),(4,.slice (some ⟨g,0,none⟩) out.length cap),(6,.int .i64 i),(7,.slice (some ⟨g2,0,none⟩) c.toNat c.toNat)]/\Heap w [] w' [Yt 5 1 (some ⟨g2,0,none⟩) c.toNat c.toNat (Qar (Ya c.toNat b)),Yt 5 1 (some ⟨g,0,none⟩) out.length cap (Qar out)]) ?_ ?_
   ·
    refine Qac ?_;refine Qad [0,4,6,7,8] (fun m e w'=>∃ (n:Nat) (ms:List UInt8),Is e [(0,Str l),(4,.slice (some ⟨g,0,none⟩) out.length cap),(6,.int .i64 i),(7,.slice (some ⟨g2,0,none⟩) c.toNat c.toNat),(8,.int .i64 n)]/\Heap w [] w' [Yt 5 1 (some ⟨g2,0,none⟩) c.toNat c.toNat (Qar ms),Yt 5 1 (some ⟨g,0,none⟩) out.length cap (Qar out)]/\n<=c.toNat/\ms.length=c.toNat/\ms.take n=Ya n b/\m=c.toNat - n) c.toNat ?_ ?_
    ·
     simp only [Qvh,Qoz,Qvi,Qo0,↓reduceIte,reduceEqDiff];exact ⟨0,Ya c.toNat 0,rfl,hH2,by omega,by simp,rfl,rfl⟩
    rintro m e w4 ⟨n,ms,rfl,hH3,k1,k2,k3,rfl⟩;refine VS [0,4,6,7,8,34] ?_;refine Qaf rfl rfl (fun hn=>?_) (fun hn=>?_)
    ·
     simp only [decide_eq_true_eq] at hn;refine VC_skip ?_;(repeat refine Qax ?_);refine Qac (VC_skip (Qaj ?_));have hcap:=(Qth (hH3.at 1 rfl)).1;refine VH (holes [g2] w4) (Ext.hole _ _) [0,4,6,7,8] [(0,true),(1,true),(2,true),(3,true),(4,true),(5,true),(6,true),(7,true),(8,true),(9,false),(10,false),(11,false)] fun K hK=>?_;refine ⟨by omega,Y7 (by omega) (by omega),by omega,?_⟩;refine Qo6 ?_;refine Qs ?_;rw [if_neg (show ¬ c.toNat=n by omega),if_neg (show ¬ cap=out.length - 4 by omega)];simp only [Option.map_some];have hsrc:=(Qaq (hH3.at 1 rfl)).drop rfl (out.length - 4) (by omega);rw [Nat.mul_one,bytesV_drop,Tail.drop h4,hb,show out.length - (out.length - 4)=4 by omega] at hsrc;rw [show out.length - (out.length - 4)=4 by omega];refine Qjj hH3 0 rfl Yp sz5 (off:=n) rfl ⟨rfl,hsrc,5,Yp⟩ (Qji _) (by rw [Qf5,k2];omega) fun w5 hu hH4=>?_;refine Qs ?_;have hkk:min 4 (c.toNat - n)<=c.toNat - n:=Nat.min_le_right _ _;have hkk0:0 < min 4 (c.toNat - n):=by omega
     have hk4:min 4 (c.toNat - n)<=4:=Nat.min_le_left _ _;generalize min 4 (c.toNat - n)=kk at hH4 hkk hkk0 hk4 ⊢;refine ⟨hu.extH,Y7 (by omega) (by omega),?_⟩;apply hK;clear hK;refine Qab ?_;simp only [Qvh,Qoz,Qvi,Qo0,↓reduceIte,reduceEqDiff]
     have hset:(Qar ms).take n++(Qar (Ya 4 b)).take (kk * 1)++(Qar ms).drop (n+kk * 1)=Qar (ms.take n++Ya kk b++ms.drop (n+kk)):=by
      rw [Nat.mul_one,bytesV_take,bytesV_take,bytesV_drop,List.take_replicate,Nat.min_eq_left hk4,Qd7,Qd7]
     rw [hset] at hH4;obtain ⟨r1,r2⟩:=QPd n c.toNat kk b (by omega) ms k2 k3;exact ⟨c.toNat - (n+kk),by omega,n+kk,_,rfl,hH4,by omega,r1,r2,rfl⟩
    simp only [decide_eq_false_iff_not] at hn;refine Qag rfl ?_;refine Qab ?_;refine Qs ?_;refine ⟨rfl,?_⟩
    have hms:ms=Ya c.toNat b:=by
     rw [<- Yu (show ms.length<=n by omega),k3];congr 1;omega
    rw [hms] at hH3;exact hH3
   rintro e w4 ⟨rfl,hH3⟩;refine VQ [0,4,6] fun K hK=>?_;refine Qai ?_;refine Qs ?_;refine QC6 hH3 1 rfl Yp zi5 (t:=Ya c.toNat b) (by simp) (by simpa using Qaq (hH3.at 0 rfl)) (fun h=>by simp;omega) fun a' cap' w5 hc' hH4=>?_;apply hK;clear hK;refine VS [0,4,5,6] ?_;refine Qag rfl ?_;refine VS [0,4,5,6] ?_;refine Qab ?_;exact fin 0 cap' a' _ w5 [] (hH4.sub (by simp)) (by simp;omega) (by omega) (Tail.zero _) h5
  rw [if_neg hsame] at h5;generalize hsm:(if 0 < same/\out.getLastD 0=l.getD i 0 then same+1 else 1)=same' at h5
  have hsame':same'<=4/\Tail (out++[l.getD i 0]) same':=by
   rw [<- hsm];split
   ·
    rename_i h;exact ⟨by omega,Tail.succ h4 h.2⟩
   exact ⟨by omega,Tail.one _ _⟩
  refine VS [0,4,5,6,17] ?_;refine Qaf rfl rfl (fun h=>absurd h (by simp;omega)) (fun _=>?_);refine VC_skip ?_;refine Qax (Qdl [0,4,5,6] (fun e w'=>Is e [(0,Str l),(4,.slice a out.length cap),(5,.int .i64 same'),(6,.int .i64 i)]/\Is w' w2) ?_ ?_)
  ·
   have yes:0 < same/\out.getLastD 0=l.getD i 0->VC ⟨Yi,Tryz.f125,fun v w'=>Heap w [] w' []/\v=.tuple #[Str (decS [] 0 l).1,.int .i64 (decS [] 0 l).2],78⟩ [] [] w2->True:=fun _ _=>trivial;clear yes;by_cases hs0:0 < same
   ·
    have h4':=h4.1;obtain ⟨g,rfl⟩:=Qc1 (hH.at 0 rfl) (by omega)
    have hcell:w2.cell? ⟨g,out.length - 1,none⟩=some (.int .u8 (out.getLastD 0).toNat):=by
     refine Qa1 (hH.at 0 rfl) ?_;have h1':=h4.2 0 hs0;simp only [Qar,Xg];rw [show out.length - 1=out.length - 1 - 0 by omega,h1'];rfl
    refine Vq [0,4,5,6,62] fun K hK=>?_;refine ⟨fun _=>⟨by omega,Y7 (by omega) (by omega),by omega,_,hcell,?_⟩,fun h=>absurd (show (0:Int) < same by omega) h⟩;refine Qs ?_;apply hK;clear hK;refine VD (fun h=>?_) (fun h=>?_)
    ·
     have hl:out.getLastD 0=l.getD i 0:=(Uc.1 (by omega));rw [if_pos ⟨hs0,hl⟩] at hsm;subst hsm;refine VS [0,4,5,6] ?_;refine Qab ?_;refine Qs ?_;exact ⟨rfl,rfl⟩
    have hl:¬ out.getLastD 0=l.getD i 0:=fun h'=>h (by rw [h']);rw [if_neg (fun h=>hl h.2)] at hsm;subst hsm;refine VS [0,4,5,6] ?_;refine Qab ?_;refine Qs ?_;exact ⟨rfl,rfl⟩
   have:same=0:=by omega
   subst this;rw [if_neg (by omega)] at hsm;subst hsm;refine Vq [0,4,5,6,62] fun K hK=>?_;refine ⟨fun h=>absurd h (by omega),fun _=>?_⟩;apply hK;clear hK;refine Qaf rfl rfl (fun h=>by cases h) (fun _=>?_);refine VS [0,4,5,6] ?_;refine Qab ?_;refine Qs ?_;exact ⟨rfl,rfl⟩
  rintro e w3 ⟨rfl,rfl⟩;refine VS [0,4,5,6,67] ?_;by_cases hfull:out.length=262144
  ·
   rw [if_pos hfull] at h5;refine Qaf rfl rfl (fun _=>?_) (fun h=>absurd h (by simp;omega));refine VS [2,3] ?_;refine VC_ret (Qav rfl rfl rfl ⟨hH.sub (by simp),?_⟩);rw [h5]
  rw [if_neg hfull] at h5;refine Qaf rfl rfl (fun h=>absurd h (by simp;omega)) (fun _=>?_);refine VC_skip ?_;refine VQ [0,4,5,6] fun K hK=>?_;refine ⟨by omega,?_⟩;refine Qcd (xs:=[.tmp 71]) Yp sz5 rfl rfl rfl (by omega) ?_;refine Qs ?_;refine ⟨by simp [Y9],?_⟩;refine Qai ?_;refine Qs ?_;refine Qg9 hH 0 (l.getD i 0) rfl Yp zi5 rfl (fun h=>by simp;omega) fun a' cap' w5 hc' hH4=>?_;apply hK;clear hK;refine Qaj ?_;refine VS [0,4,5,6] ?_;refine Qab ?_;exact fin same' cap' a' _ w5 [] hH4 (by simp;omega) hsame'.1 hsame'.2 h5
 simp only [decide_eq_false_iff_not] at hge;rw [Yy (by omega)] at h5;refine Qag rfl ?_;refine VS [4,75,5] ?_;by_cases hsame:same=4
 ·
  subst hsame;refine Qaf rfl rfl (fun _=>?_) (fun h=>absurd h (by simp));refine VS [2,3] ?_;refine VC_ret (Qav rfl rfl rfl ⟨hH.sub (by simp),?_⟩);rw [h5];rfl
 refine Qaf rfl rfl (fun h=>absurd h (by simp;omega)) (fun _=>?_);refine VC_skip ?_;refine VQ [2,3] fun K hK=>?_;refine ⟨out,hH.readsBytes 0 rfl,?_⟩;apply hK;clear hK;refine VC_ret (Qav rfl rfl rfl ⟨hH.sub (by simp),?_⟩);rw [h5];simp [decS,hsame]
def cost (n:Nat):Nat:=if n<=3 then n else 5
def fitF:Nat->List UInt8->Int->Nat
 | 0,_,_=>0
 | _+1,[],_=>0
 | f+1,x::l,left =>
  if left < (cost (Qdj (x::l)):Int) then (max 0 (min left 3)).toNat
  else Qdj (x::l)+fitF f ((x::l).drop (Qdj (x::l))) (left - (cost (Qdj (x::l)):Int))
theorem QHp (f:Nat):∀ (g:Nat) (l:List UInt8) (left:Int),l.length<=f->l.length<=g->fitF f l left=fitF g l left:=by
 induction f with
 | zero =>
  intro g l left h1 h2;have:l=[]:=Y0 (by omega);subst this;cases g <;> rfl
 | succ f ih =>
  intro g l left h1 h2;cases l with
  | nil=>cases g <;> rfl
  | cons x l =>
   cases g with
   | zero=>simp at h2
   | succ g =>
    have hp:=Qed (x::l) (by simp);simp only [fitF];simp only [Ys] at h1 h2;rw [ih g ((x::l).drop (Qdj (x::l))) _ (by simp;omega) (by simp;omega)]
def fit (l:List UInt8) (left:Int):Nat:=fitF l.length l left
theorem QAk (left:Int):fit [] left=0:=rfl
theorem Qur (l:List UInt8) (left:Int) (h:l≠[]) :
  fit l left=if left < (cost (Qdj l):Int) then (max 0 (min left 3)).toNat else Qdj l+fit (l.drop (Qdj l)) (left - (cost (Qdj l):Int)):=by
 cases l with
 | nil=>exact absurd rfl h
 | cons x l =>
  have hp:=Qed (x::l) (by simp);rw [fit,Ys,fitF];rw [QHp l.length ((x::l).drop (Qdj (x::l))).length ((x::l).drop (Qdj (x::l))) _ (by simp;omega) (Xb _)];rfl
theorem QKw (l:List UInt8) (most:Int) (hm:I64 most) (w:World) (hs:l.length<=140737488355328) :
  Does Yi 28 #[Str l,.int .i64 most] w fun v w'=>w'=w/\v=.int .i64 (fit l most):=by
 refine En [Str l,.int .i64 most] 40 Tryz.func28 ?_;have hm1:=hm.1;have hm2:=hm.2;refine VS [0,1] ?_;refine VS [0,1,5] ?_;refine VS [0,1,5,6] ?_;refine VB ?_;refine Qad [0,1,5,6] (fun m e w'=>∃ (i:Nat) (used:Int),Is e [(0,Str l),(1,.int .i64 most),(5,.int .i64 used),(6,.int .i64 i)]/\Is w' w/\i<=l.length/\0<=used/\used<=2 * i/\(used=0∨used<=most)/\fit l most=i+fit (l.drop i) (most - used)/\m=l.length - i) l.length ?_ ?_
 ·
  refine Qs ?_;exact ⟨0,0,rfl,rfl,by omega,by omega,by omega,.inl rfl,by simp,by omega⟩
 rintro m e w' ⟨i,used,rfl,rfl,g1,g2,g3,g4,g5,rfl⟩;refine VS [0,1,5,6,12] ?_;refine Qaf rfl rfl (fun hlt=>?_) (fun hge=>?_)
 ·
  simp only [decide_eq_true_eq] at hlt;refine VC_skip (Qac ?_);have hne:l.drop i≠[]:=by intro h;have:=congrArg Gr h;simp at this;omega
  have hp:=Qed _ hne;have hle:=Qi2 (l.drop i);simp only [Xi] at hle;have hst:=Qur (l.drop i) (most - used) hne;generalize hn:Qdj (l.drop i)=n at hp hle hst;have hc0:(cost n:Int)<=2 * n:=by simp only [cost];split <;> omega
  have hc1:0<=(cost n:Int):=by omega
  refine VQ [0,1,5,6,7] fun K hK=>?_;refine MemK_call Tryz.call55 ?_;refine Qs ?_;refine Yk (QB7 l i w' (by omega) (by omega)) ?_;rintro v w2 ⟨rfl,rfl⟩;rw [hn];apply hK;clear hK;refine VS [0,1,5,6,7,8] ?_;refine VS [0,1,5,6,7,8,19] ?_;refine Qdl [0,1,5,6,7,8] (fun e w3=>Is e [(0,Str l),(1,.int .i64 most),(5,.int .i64 used),(6,.int .i64 i),(7,.int .i64 n),(8,.int .i64 (cost n:Nat))]/\Is w3 w2) ?_ ?_
  ·
   refine Qaf rfl rfl (fun hn4=>?_) (fun hn4=>?_)
   ·
    simp only [decide_eq_true_eq] at hn4;refine VS [0,1,5,6,7,8] ?_;refine Qab ?_;refine Qs ?_;exact ⟨by rw [cost,if_neg (by omega)];rfl,rfl⟩
   simp only [decide_eq_false_iff_not] at hn4;refine VC_skip (Qab ?_);refine Qs ?_;exact ⟨by rw [cost,if_pos (by omega),Int.min_eq_left (by omega)];rfl,rfl⟩
  rintro e w3 ⟨rfl,rfl⟩;refine VS [0,1,5,6,7,8,24] ?_;refine Qaf rfl rfl (fun hc=>?_) (fun hc=>?_)
  ·
   simp only [decide_eq_true_eq] at hc;refine VS [4] ?_;refine VC_ret (VX_ret1 rfl rfl ⟨rfl,?_⟩);rw [g5,hst,if_pos (by omega)];have:((i+(max 0 (min (most - used) 3)).toNat:Nat):Int)=i+max 0 (min (most - used) 3):=by omega
   rw [this]
  simp only [decide_eq_false_iff_not] at hc;refine VC_skip ?_;refine VS [0,1,5,6,7] ?_;refine VS [0,1,5,6] ?_;refine Qaj (Qab ?_);refine Qs ?_;refine ⟨l.length - (i+n),by omega,i+n,used+cost n,rfl,rfl,by omega,by omega,by omega,.inr (by omega),?_,rfl⟩;rw [g5,hst,if_neg (by omega),List.drop_drop];have e1:most - used - (cost n:Int)=most - (used+(cost n:Int)):=by omega
  rw [e1];omega
 simp only [decide_eq_false_iff_not] at hge;refine Qag rfl ?_;refine VS [4] ?_;refine VC_ret (VX_ret1 rfl rfl ⟨rfl,?_⟩);have:i=l.length:=by omega
 rw [g5,this];simp [QAk]
theorem QKx {l:List Nat}{n i:Nat} (h:i∈idxs l n):i < l.length:=(Qom.1 h).1
theorem QHq (l:List Nat):∀ (r:List Bool) (n code:Nat) (q:Nat×Nat),Qho l r n code=.ok q->q.1 < l.length/\n < q.2/\q.2<=n+r.length:=by
 intro r
 induction r with
 | nil=>intro n code q h;simp [Qho] at h
 | cons b r ih =>
  intro n code q h;rw [Qho] at h;split at h
  ·
   rename_i hc;cases h;refine ⟨?_,by simp,by simp⟩;have hlt:2 * code+b.toNat - Qbf l (n+1) < (idxs l (n+1)).length:=by unfold cnt at hc;omega
   have:=X9 hlt;rw [Ye,Yd hlt];exact QKx this
  split at h
  ·
   have:=ih _ _ _ h;simp only [Ys];omega
  cases h
theorem QEj (l:List Nat):∀ (r:List Bool) (n code:Nat) (e:Int),Qho l r n code=.error e->e≠0:=by
 intro r
 induction r with
 | nil=>intro n code e h;simp [Qho] at h;omega
 | cons b r ih =>
  intro n code e h;rw [Qho] at h;split at h
  ·
   cases h
  split at h
  ·
   exact ih _ _ _ h
  cases h;decide
theorem QHr {l:List Nat}{bits:List Bool}{at_:Nat}{q:Nat×Nat} (h:Qju l bits at_=.ok q):q.1 < l.length/\at_ < q.2/\q.2<=bits.length:=by
 unfold Qju at h;split at h
 ·
  rename_i p hp;cases h;have:=QHq l _ _ _ _ hp;rw [Xi] at this;simp only;omega
 cases h
theorem QEk {l:List Nat}{bits:List Bool}{at_:Nat}{e:Int} (h:Qju l bits at_=.error e):e≠0:=by
 unfold Qju at h;split at h
 ·
  cases h
 rename_i e' hp;cases h;exact QEj l _ _ _ _ hp
theorem Qxq {l:List Nat}{bits:List Bool}{fin:Nat}:∀ (n at_:Nat) (q:List Nat×Nat),at_<=bits.length->Qe6 l bits fin n at_=.ok q->(∀ x∈q.1,x < l.length)/\q.1.length<=n/\q.2<=bits.length/\at_<=q.2:=by
 intro n
 induction n with
 | zero=>intro at_ q ha h;rw [Qe6] at h;cases h;simp [ha]
 | succ n ih =>
  intro at_ q ha h;rw [Qe6] at h;cases hn:Qju l bits at_ with
  | error e=>rw [hn] at h;cases h
  | ok p =>
   rw [hn] at h;simp only at h;obtain ⟨h1,h2,h3⟩:=QHr hn;split at h
   ·
    cases h;refine ⟨by simpa using h1,by simp,h3,by simp only;omega⟩
   cases hr:Qe6 l bits fin n p.2 with
   | error e=>rw [hr] at h;cases h
   | ok q' =>
    rw [hr] at h;cases h;obtain ⟨g1,g2,g3,g4⟩:=ih _ _ h3 hr;refine ⟨fun x hx=>?_,by simp only [Ys];omega,g3,by simp only;omega⟩;rcases List.mem_cons.1 hx with rfl | hx
    ·
     exact h1
    exact g1 x hx
theorem QEl {l:List Nat}{bits:List Bool}{fin:Nat}:∀ (n at_:Nat) (e:Int),Qe6 l bits fin n at_=.error e->e≠0:=by
 intro n
 induction n with
 | zero=>intro at_ e h;rw [Qe6] at h;cases h
 | succ n ih =>
  intro at_ e h;rw [Qe6] at h;cases hn:Qju l bits at_ with
  | error e'=>rw [hn] at h;cases h;exact QEk hn
  | ok p =>
   rw [hn] at h;simp only at h;split at h
   ·
    cases h
   cases hr:Qe6 l bits fin n p.2 with
   | error e'=>rw [hr] at h;cases h;exact ih _ _ hr
   | ok q'=>rw [hr] at h;cases h
theorem Qxr {T:List (List Nat)}{bits:List Bool}{fin N:Nat} (hT:∀ t,t < T.length->(T.getD t []).length=N):∀ (P:List Nat) (at_:Nat) (q:List Nat×Nat),(∀ k∈P,k < T.length)->at_<=bits.length->Qgw T bits fin P at_=.ok q ->
  (∀ x∈q.1,x < N)/\q.1.length<=50 * P.length/\q.2<=bits.length:=by
 intro P
 induction P with
 | nil=>intro at_ q _ _ h;rw [Qgw] at h;cases h
 | cons p P ih =>
  intro at_ q hP ha h;rw [Qgw] at h;have hp:=hT p (hP p (by simp));cases hn:Qe6 (T.getD p []) bits fin 50 at_ with
  | error e=>rw [hn] at h;cases h
  | ok q1 =>
   rw [hn] at h;simp only at h;obtain ⟨h1,h2,h3,h4⟩:=Qxq _ _ _ ha hn;rw [hp] at h1;split at h
   ·
    cases h;refine ⟨h1,by simp only [Ys];omega,h3⟩
   cases hr:Qgw T bits fin P q1.2 with
   | error e=>rw [hr] at h;cases h
   | ok q' =>
    rw [hr] at h;cases h;obtain ⟨g1,g2,g3⟩:=ih _ _ (fun k hk=>hP k (by simp [hk])) h3 hr;refine ⟨fun x hx=>?_,by simp only [Ys,Yn];omega,g3⟩;rcases Xz.1 hx with hx | hx
    ·
     exact h1 x hx
    exact g1 x hx
theorem Qsx {T:List (List Nat)}{bits:List Bool}{fin:Nat}:∀ (P:List Nat) (at_:Nat) (e:Int),Qgw T bits fin P at_=.error e->e≠0:=by
 intro P
 induction P with
 | nil=>intro at_ e h;rw [Qgw] at h;cases h;decide
 | cons p P ih =>
  intro at_ e h;rw [Qgw] at h;cases hn:Qe6 (T.getD p []) bits fin 50 at_ with
  | error e'=>rw [hn] at h;cases h;exact QEl _ _ _ hn
  | ok q1 =>
   rw [hn] at h;simp only at h;split at h
   ·
    cases h
   cases hr:Qgw T bits fin P q1.2 with
   | error e'=>rw [hr] at h;cases h;exact ih _ _ hr
   | ok q'=>rw [hr] at h;cases h
theorem QPe {n most:Int} (hn:n<=256):∀ (r out:List Int) (wt:Nat),(out.length:Int)<=most->(∀ x∈out,0<=x/\x<=256)->((zdec n most out wt r).1.length:Int)<=most/\∀ x∈(zdec n most out wt r).1,0<=x/\x<=256:=by
 intro r
 induction r with
 | nil=>intro out wt h _;rw [zdec];simp;omega
 | cons s r ih =>
  intro out wt h ho;rw [zdec];split
  ·
   simp;omega
  split
  ·
   split
   ·
    simp;omega
   refine ih _ _ ?_ ?_
   ·
    rename_i h1 h2 h3;have h4:0<=(s+1) * (wt:Int):=Int.mul_nonneg (by omega) (by omega);rw [Yn,Xl];omega
   intro x hx;rcases Xz.1 hx with hx | hx
   ·
    exact ho x hx
   rw [List.mem_replicate] at hx;omega
  split
  ·
   cases r with
   | nil=>exact ⟨h,ho⟩
   | cons x r=>rw [zend];split <;> (simp;omega)
  split
  ·
   simp;omega
  refine ih _ _ (by rw [Yn,Yz];omega) fun x hx=>?_;rcases Xz.1 hx with hx | hx
  ·
   exact ho x hx
  simp at hx;omega
theorem QEm {n most:Int} (l:List Int):(Qe4 n most l).1.length<=262144/\∀ x∈(Qe4 n most l).1,0<=x/\x<=256:=by
 unfold Qe4;split
 ·
  simp
 have:=QPe (n:=n) (most:=most) (by omega) l [] 1 (by simp;omega) (by simp);exact ⟨by omega,this.2⟩
theorem Qus:∀ (l:List Int) (li out:List UInt8),Qeb li l=some out->out.length=l.length:=by
 intro l
 induction l with
 | nil=>intro li out h;simp [Qeb] at h;subst h;rfl
 | cons x l ih =>
  intro li out h;unfold Qeb at h;split at h
  ·
   simp only [Option.map_eq_some_iff] at h;obtain ⟨o,ho,rfl⟩:=h;simp [ih _ _ ho]
  cases h
theorem Qxs (u:List UInt8) (l:List Int):(Qd9 u l).1.length<=l.length:=by
 unfold Qd9;split
 ·
  split
  ·
   simp
  rename_i out h;exact Nat.le_of_eq (Qus _ _ _ h)
 simp
theorem QEn (L:List UInt8) (P:List Nat):∀ (k row:Nat),(Qhv L P k row).length=k:=by
 intro k
 induction k with
 | zero=>intro row;rfl
 | succ k ih=>intro row;simp [Qhv,ih]
theorem QKy (L:List UInt8) (row:Int):(bckS L row).1.length<=262144:=by
 unfold bckS;split
 ·
  simp
 split
 ·
  simp
 simp only [QEn];omega
theorem QPf:∀ (l out:List UInt8) (k:Nat),out.length<=262144->(decS out k l).1.length<=262144:=by
 intro l
 induction l with
 | nil=>intro out k h;rw [decS];split <;> simp <;> omega
 | cons c l ih =>
  intro out k h;rw [decS];split
  ·
   split
   ·
    simp
   exact ih _ _ (by simp;omega)
  split
  ·
   simp
  exact ih _ _ (by simp;omega)
theorem Qxt (i:Nat) (row:List Bool):(Qhx i row).length<=16:=by
 unfold Qhx;rw [U2];have:=X7 (fun k=>row.getD k false) (Yq 16);simpa using this
theorem QPg {bits:List Bool}:∀ (r:List Bool) (i at_:Nat) (q:List UInt8×Nat),at_<=bits.length->stGo bits r i at_=.ok q->q.2<=bits.length/\q.1.length<=16 * r.length:=by
 intro r
 induction r with
 | nil=>intro i at_ q ha h;rw [stGo] at h;cases h;simp [ha]
 | cons b r ih =>
  intro i at_ q ha h;cases b with
  | false=>rw [stGo] at h;have:=ih _ _ _ ha h;simp only [Ys];omega
  | true =>
   rw [stGo] at h;split at h
   ·
    cases h
   cases hr:stGo bits r (i+1) (at_+16) with
   | error e=>rw [hr] at h;cases h
   | ok q' =>
    rw [hr] at h;cases h;have h1:=ih _ _ _ (by omega) hr;have h2:=Qxt i ((bits.drop at_).take 16);simp only [Ys,Yn];omega
theorem QKz {bits:List Bool}:∀ (r:List Bool) (i at_:Nat) (e:Int),stGo bits r i at_=.error e->e≠0:=by
 intro r
 induction r with
 | nil=>intro i at_ e h;rw [stGo] at h;cases h
 | cons b r ih =>
  intro i at_ e h;cases b with
  | false=>rw [stGo] at h;exact ih _ _ _ h
  | true =>
   rw [stGo] at h;split at h
   ·
    cases h;decide
   cases hr:stGo bits r (i+1) (at_+16) with
   | error e'=>rw [hr] at h;cases h;exact ih _ _ _ hr
   | ok q'=>rw [hr] at h;cases h
theorem Qp9 {bits:List Bool}{at_:Nat}{q:List UInt8×Nat} (h:Qey bits at_=.ok q):q.2<=bits.length/\1<=q.1.length/\q.1.length<=256:=by
 unfold Qey at h;split at h
 ·
  cases h
 cases hr:stGo bits ((bits.drop at_).take 16) 0 (at_+16) with
 | error e=>rw [hr] at h;cases h
 | ok q' =>
  rw [hr] at h;simp only at h;split at h
  ·
   cases h
  rename_i hne;cases h;have h1:=QPg _ _ _ _ (by omega) hr;have h2:((bits.drop at_).take 16).length<=16:=by rw [Xd];omega
  have h3:0 < q.1.length:=by
   cases hq:q.1 with
   | nil=>exact absurd hq hne
   | cons a b=>simp
  omega
theorem Qnz {bits:List Bool}{at_:Nat}{e:Int} (h:Qey bits at_=.error e):e≠0:=by
 unfold Qey at h;split at h
 ·
  cases h;decide
 cases hr:stGo bits ((bits.drop at_).take 16) 0 (at_+16) with
 | error e'=>rw [hr] at h;cases h;exact QKz _ _ _ _ hr
 | ok q' =>
  rw [hr] at h;simp only at h;split at h
  ·
   cases h;decide
  cases h
set_option maxHeartbeats 4000000
theorem TabG.mono {G G':List Res}{v:Value}{l:List Nat} (h:TabG G v l) (hs:∀ r∈G,r∈G'):TabG G' v l:=fun w hw=>h w fun r hr=>hw r (hs r hr)
set_option maxHeartbeats 2000000
theorem Qqa (s:List UInt8) (b:UInt8) (hs:s.length<=1000000000000) (w:World):Does Yi 72 #[Str s,.int .u8 b.toNat] w fun v w'=>w'=w/\v=.int .i64 (s.idxOf b:Nat):=by
 refine En [Str s,.int .u8 b.toNat] 20 Tryz.func72 ?_;refine VS [0,1] ?_;refine VS [0,1,5] ?_;refine Qac ?_;refine Qad [0,1,5] (fun m e w'=>∃ (i:Nat),Is e [(0,Str s),(1,.int .u8 b.toNat),(5,.int .i64 i)]/\Is w' w/\s.idxOf b=i+(s.drop i).idxOf b/\i<=s.length/\m=s.length - i) s.length ?_ ?_
 ·
  refine Qs ?_;exact ⟨0,rfl,rfl,by simp,by omega,rfl⟩
 rintro m e w' ⟨i,rfl,rfl,hx,hi,rfl⟩;refine VS [0,1,5,9] ?_;refine VD (fun h=>?_) (fun h=>?_)
 ·
  have hi':i < s.length:=by omega
  refine VC_skip ?_;refine VB ?_;have hd:=drop_getD (0:UInt8) hi';rw [hd,List.idxOf_cons] at hx;refine VS [0,1,5,16] ?_;refine Qaf rfl rfl (fun h2=>?_) (fun h2=>VC_skip ?_)
  ·
   simp only [decide_eq_true_eq] at h2;have he:s.getD i 0=b:=Uc.1 (by omega);simp only [he,beq_self_eq_true,cond_true] at hx;refine VS [4] ?_;refine VC_ret (VX_ret1 rfl rfl ⟨rfl,?_⟩);rw [hx];rfl
  simp only [decide_eq_false_iff_not] at h2;have he:¬ s.getD i 0=b:=fun e=>h2 (by rw [e]);have hbf:(s.getD i 0 == b)=false:=by simpa using he
  rw [hbf,cond_false] at hx;refine Qaj ?_;refine VS [0,1,5] ?_;refine Qab ?_;refine Qs ?_;exact ⟨s.length - (i+1),by omega,i+1,rfl,rfl,by omega,by omega,rfl⟩
 obtain rfl:i=s.length:=by omega
 refine Qag rfl ?_;rw [List.drop_length] at hx;refine VS [4] ?_;refine VC_ret (VX_ret1 rfl rfl ⟨rfl,?_⟩);rw [hx];rfl
theorem QHs (s:List UInt8) (b:Nat) (hb:b < 256):(s.any fun c=>c.toNat == b)=true ↔ s.idxOf (Y4 b) < s.length:=by
 rw [List.idxOf_lt_length_iff,List.any_eq_true];constructor
 ·
  rintro ⟨c,hc,e⟩;simp only [beq_iff_eq] at e;have:Y4 b=c:=by rw [<- e];exact UInt8.ofNat_toNat
  rw [this];exact hc
 intro h;exact ⟨_,h,by simp [Xp hb]⟩
theorem Qxu (s:List UInt8) (hs:s.length<=1000000000000) (w:World):Does Yi 44 #[Str s] w fun v w'=>Heap w [] w' []/\v=Str (Qbc s):=by
 refine En [Str s] 23 Tryz.func44 ?_;refine VS [0] ?_;refine VS [0,3] ?_;refine VS [0,3,4] ?_;refine Qac ?_;refine Qad [0,3,4] (fun m e w'=>∃ (b:Nat),Is e [(0,Str s),(3,Str (Qkj s b)),(4,.int .i64 b)]/\Heap w [] w' []/\b<=256/\m=256 - b) 256 ?_ ?_
 ·
  refine Qs ?_;exact ⟨0,rfl,Yx w,by omega,rfl⟩
 rintro m e w' ⟨b,rfl,hH,hb,rfl⟩;refine VS [0,3,4,6] ?_;refine VD (fun h=>?_) (fun h=>?_)
 ·
  have hb':b < 256:=by omega
  refine VC_skip ?_;refine VB ?_;have hbn:((Y4 b).toNat:Int)=b:=by simp only [Gi,Nat.reducePow];omega
  have hul:=Qw1 s b;have hus:=Qsm s b;refine VQ [0,3,4,15] fun K hK=>?_;rw [show (b:Int) % 256=((Y4 b).toNat:Int) by omega];refine MemK_call Tryz.call72 ?_;refine Qs ?_;refine Yk (Qqa s (Y4 b) hs w') ?_;rintro v w2 ⟨rfl,rfl⟩;(try refine Qs ?_);(repeat refine Qo ?_);apply hK;clear hK;refine VD (fun h=>?_) (fun h=>?_)
  ·
   rw [if_pos ((QHs s b hb').2 (by omega))] at hus;refine VQ [0,3,4] fun K hK=>?_;rw [show (b:Int) % 256=((Y4 b).toNat:Int) by omega];refine Qbb hH (Qar [Y4 b]) (xs:=[.tmp 18]) Yp sz5 rfl rfl rfl (by omega) ?_;refine Qs ?_;refine ⟨rfl,by simp [Y9],fun g w4 hH2=>?_⟩;(try refine Qs ?_);refine ⟨[Y4 b],hH2.readsBytes 0 rfl,?_⟩;(try refine Qs ?_);refine ⟨by simp only [Yz];omega,?_⟩;apply hK;clear hK;refine Qaj ?_;refine VS [0,3,4] ?_;refine Qab ?_;refine Qs ?_;exact ⟨256 - (b+1),by omega,b+1,by rw [hus];rfl,hH2.sub (by simp),by omega,rfl⟩
  rw [if_neg (fun hh=>h (by have:=(QHs s b hb').1 hh;omega)),Yl] at hus;refine VC_skip ?_;refine Qaj ?_;refine VS [0,3,4] ?_;refine Qab ?_;refine Qs ?_;exact ⟨256 - (b+1),by omega,b+1,by rw [hus];rfl,hH,by omega,rfl⟩
 obtain rfl:b=256:=by omega
 refine Qag rfl ?_;refine VS [2] ?_;exact VC_ret (VX_ret1 rfl rfl ⟨hH,rfl⟩)
theorem Qsy (u:List UInt8) (hu:Qbc u=u) (hne:u≠[]) (hs:u.length<=1000000000000) (w:World):Does Yi 73 #[Str u] w fun v w'=>Heap w [] w' []/\v=.bool true:=by
 refine En [Str u] 11 Tryz.func73 ?_;refine VS [0] ?_;refine VQ [2] fun K hK=>?_;refine ⟨fun _=>?_,fun h=>absurd hne h⟩;refine MemK_call Tryz.call44 ?_;refine Qs ?_;refine Yk (Qxu u hs w) ?_;rintro v w2 ⟨hH,rfl⟩;rw [hu];(try refine Qs ?_);apply hK;clear hK;exact VC_ret (VX_ret1 rfl rfl ⟨hH,by simp⟩)
theorem Qut (li:List UInt8) (k:Nat) (hk:k < li.length) (hs:li.length<=1000000000000) (w:World):Does Yi 74 #[Str li,.int .i64 k] w fun v w'=>w'=w/\v=Str (Qgq li k):=by
 have e1:(li.drop k).take 1=[li.getD k 0]:=by rw [drop_getD (0:UInt8) hk];rfl
 refine En [Str li,.int .i64 k] 19 Tryz.func74 ?_;refine VS [0,1] ?_;refine Vq [4] fun K hK=>?_;rw [show k+1 - k=1 by omega,e1];refine ⟨Y7 (by omega) (by omega),⟨by omega,by omega,by omega⟩,⟨by omega,by omega⟩,by simp;omega,Y7 (by omega) (by omega),⟨by omega,by omega⟩,by simp;omega,?_⟩;apply hK;clear hK;exact VC_ret (VX_ret1 rfl rfl ⟨rfl,by simp [Qgq]⟩)
theorem QHt (n most:Int) (l:List Int) (la:Option Addr) (lc:Nat) (hn:I64 n) (hm:I64 most) (w:World) (hl:RS w la l.length 1 (Qat l)) (hs:l.length<=2147483640) (hi:∀ v∈l,I64 v) :
  Does Yi 122 #[.int .i64 n,.int .i64 most,.slice la l.length lc] w (IntsErr (Qe4 n most l) w):=by
 obtain ⟨hn1,hn2⟩:=hn;obtain ⟨hm1,hm2⟩:=hm;refine En [.int .i64 n,.int .i64 most,.slice la l.length lc] 98 Tryz.func122 ?_;refine VQi [0,1,2] fun K hK=>?_;apply hK;clear hK;refine VQi [0,1,2,26] fun K hK=>?_
 suffices out:∀ b:Bool,(b=true ↔ n < 1∨256 < n∨most < 0∨262144 < most)->K [(0,.int .i64 n),(1,.int .i64 most),(2,.slice la l.length lc),(26,.bool b)] w by (repeat' (first | exact out _ _ (by first | omega | (simp;done) | (simp;omega)) | exact out _ (by first | omega | (simp;done) | (simp;omega)) | refine ⟨fun _=>?_,fun _=>?_⟩ | refine Qo ?_))
 intro b hb;apply hK;clear hK;refine Qaf rfl rfl (fun h=>?_) (fun h=>VC_skip ?_)
 ·
  refine VQi [6,7] fun K hK=>?_;apply hK;clear hK;refine VC_ret (Qav rfl rfl rfl ?_);rw [Qe4,if_pos (hb.1 h)];exact IntsErr.nil (Yx w) 2
 have hg:¬ (n < 1∨256 < n∨most < 0∨262144 < most):=fun h'=>by rw [hb.2 h'] at h;cases h
 clear h hb;rw [Qe4,if_neg hg];refine VQi [0,1,2,8] fun K hK=>?_;apply hK;clear hK;refine VQi [0,1,2,8,9,10] fun K hK=>?_;apply hK;clear hK;refine VQi [0,1,2,8,9,10,27,28,29] fun K hK=>?_;apply hK;clear hK
 ((repeat refine Qax ?_);refine Qac ?_)
 refine Qad [0,1,2,8,9,10,27,28,29] (fun m e w'=>∃ (i run wt cap:Nat) (a:Option Addr) (o:List Int),Is e [(0,.int .i64 n),(1,.int .i64 most),(2,.slice la l.length lc),(8,.slice a o.length cap),(9,.int .i64 run),(10,.int .i64 wt),(27,.slice la l.length lc),(28,.int .i64 l.length),(29,.int .i64 i)]/\Heap w [] w' [Yt 3 1 a o.length cap (Qat o)]/\i<=l.length/\(o.length:Int)+run<=most/\wt<=2 * most+1/\1<=wt/\zdec n most [] 1 l=zdec n most (o++Ya run 0) wt (l.drop i)/\m=l.length - i) l.length ?_ ?_
 ·
  refine Qi ?_;exact ⟨0,0,1,0,none,[],rfl,Qj8,by omega,by simp;omega,by omega,by omega,rfl,rfl⟩
 rintro m e w2 ⟨i,run,wt,cap,a,o,rfl,hH,g1,g2,g3,g4,g5,rfl⟩;refine VQi [0,1,2,8,9,10,27,28,29,30] fun K hK=>?_;apply hK;clear hK;(repeat refine Qax ?_);refine VD (fun h=>?_) (fun h=>?_)
 ·
  refine VC_skip ?_
  ((repeat refine Qax ?_);refine Qac ?_)
  obtain ⟨p,rfl⟩:=Qbj hl (by omega);have hc:=Qht (hH.rs' hl) (show i < l.length by omega);have hr:=hi _ (Qa3 0 (show i < l.length by omega));have hdr:=drop_getD 0 (show i < l.length by omega);generalize l.getD i 0=s at *;obtain ⟨hr1,hr2⟩:=hr;rw [hdr] at g5;refine VQi [0,1,2,8,9,10,11,12,27,28,29] fun K hK=>?_;refine ⟨⟨by omega,by omega⟩,_,hc,?_⟩;apply hK;clear hK;refine VQi [0,1,2,8,9,10,11,12,27,28,29,41] fun K hK=>?_
  suffices out:∀ c:Bool,(c=true ↔ s < 0∨n+1 < s)->K [(0,.int .i64 n),(1,.int .i64 most),(2,.slice (some p) l.length lc),(8,.slice a o.length cap),(9,.int .i64 run),(10,.int .i64 wt),(11,.int .i64 i),(12,.int .i64 s),(27,.slice (some p) l.length lc),(28,.int .i64 l.length),(29,.int .i64 i),(41,.bool c)] w2 by (repeat' (first | exact out _ _ (by first | omega | (simp;done) | (simp;omega)) | exact out _ (by first | omega | (simp;done) | (simp;omega)) | refine ⟨fun _=>?_,fun _=>?_⟩ | refine Qo ?_))
  intro c hb;apply hK;clear hK;refine Qaf rfl rfl (fun h=>?_) (fun h=>VC_skip ?_)
  ·
   refine VQi [6,7] fun K hK=>?_;apply hK;clear hK;refine VC_ret (Qav rfl rfl rfl ?_);have hg2:=hb.1 h;rw [zdec,if_pos hg2] at g5;rw [g5];exact IntsErr.nil (hH.sub (by simp)) 60
  have hg2:¬ (s < 0∨n+1 < s):=fun h'=>by rw [hb.2 h'] at h;cases h
  clear h hb;rw [zdec,if_neg hg2] at g5;refine VQi [0,1,2,8,9,10,11,12,27,28,29,43] fun K hK=>?_;apply hK;clear hK;refine VD (fun h=>?_) (fun h=>?_)
  ·
   rw [if_pos h,Yn,Xl] at g5;obtain ⟨t,rfl⟩:∃ t:Nat,s=t:=⟨s.toNat,by omega⟩;have ht:t=0∨t=1:=by omega
   have hmul:((t:Int)+1) * wt<=2 * wt/\(wt:Int)<=((t:Int)+1) * wt:=by
    rcases ht with rfl | rfl <;> simp <;> omega
   generalize hk:((t:Int)+1) * wt=k at *;refine VQi [0,1,2,8,9,10,12,27,28,29,59] fun K hK=>?_;rw [hk]
   suffices out:∀ c:Bool,(c=true ↔ most - o.length - run < k)->K [(0,.int .i64 n),(1,.int .i64 most),(2,.slice (some p) l.length lc),(8,.slice a o.length cap),(9,.int .i64 run),(10,.int .i64 wt),(12,.int .i64 t),(27,.slice (some p) l.length lc),(28,.int .i64 l.length),(29,.int .i64 i),(59,.bool c)] w2 by (repeat' (first | exact out _ _ (by first | omega | (simp;done) | (simp;omega)) | exact out _ (by first | omega | (simp;done) | (simp;omega)) | refine ⟨fun _=>?_,fun _=>?_⟩ | refine Qo ?_))
   intro c hb;apply hK;clear hK;refine Qaf rfl rfl (fun h=>?_) (fun h=>VC_skip ?_)
   ·
    refine VQi [6,7] fun K hK=>?_;apply hK;clear hK;refine VC_ret (Qav rfl rfl rfl ?_);have:=hb.1 h;rw [if_pos (by omega)] at g5;rw [g5];exact IntsErr.nil (hH.sub (by simp)) 3
   have hg3:¬ (most - o.length - run < k):=fun h'=>by rw [hb.2 h'] at h;cases h
   clear h hb;rw [if_neg (by omega)] at g5;refine VQi [0,1,2,8,9,10,27,28,29] fun K hK=>?_;rw [hk];(repeat refine Qo ?_);apply hK;clear hK;refine VQi [0,1,2,8,9,10,27,28,29] fun K hK=>?_;(repeat refine Qo ?_);apply hK;clear hK;refine Qag rfl ?_;refine VQi [0,1,2,8,9,10,27,28,29] fun K hK=>?_;(repeat refine Qo ?_);apply hK;clear hK;refine Qab ?_;refine Qi ?_;rw [Yj,Xn] at g5;exact ⟨l.length - (i+1),by omega,i+1,run+k.toNat,2 * wt,_,_,_,by simp [Is];omega,hH,by omega,by omega,by omega,by omega,g5,rfl⟩
  rw [if_neg h] at g5;refine VC_skip ?_;refine VQi [0,1,2,8,11,12,27,28,29] fun K hK=>?_;refine Qai ?_;refine Qi ?_;have el:o.length+run=(o++Ya run 0).length:=by simp
  refine Qrz hH 0 rfl rfl Yg zi3 Tryz.underlying3 rfl (by omega) fun a' cap' w5 hc' hH4=>?_;rw [intsV_zero,<- Qgg,el] at hH4;rw [el];apply hK;clear hK;generalize ho2:o++Ya run 0=o2 at *;refine VQi [0,1,2,8,9,10,11,12,27,28,29] fun K hK=>?_;apply hK;clear hK;refine VQi [0,1,2,8,9,10,11,12,27,28,29,74] fun K hK=>?_;(repeat refine Qo ?_);apply hK;clear hK;refine Qaf rfl rfl (fun h'=>?_) (fun h'=>?_)
  ·
   simp only [decide_eq_true_eq] at h';rw [if_pos h'] at g5;refine VQi [0,2,8,11,79] fun K hK=>?_;(repeat refine Qo ?_);apply hK;clear hK;refine Qaf rfl rfl (fun hx=>?_) (fun hx=>?_)
   ·
    simp only [decide_eq_true_eq] at hx;have hc2:=Qht (hH4.rs' hl) (show i+1 < l.length by omega);have hr:=hi _ (Qa3 0 (show i+1 < l.length by omega));have hdr2:=drop_getD 0 (show i+1 < l.length by omega);generalize l.getD (i+1) 0=x at *;rw [hdr2,zend] at g5;refine VQi [6,7] fun K hK=>?_;refine ⟨Y7 (by omega) (by omega),⟨by omega,by omega⟩,_,hc2,?_⟩;refine MemK_call Tryz.call143 ?_;refine Qi ?_;refine Yk (QAj n x ⟨hn1,hn2⟩ (by omega) hr w5) ?_;rintro v w6 ⟨rfl,rfl⟩;apply hK;clear hK;refine VC_ret (Qav rfl rfl rfl ?_);rw [g5];split
    ·
     exact IntsErr.nil (hH4.sub (by simp)) 60
    exact IntsErr.nil (hH4.sub (by simp)) 70
   simp only [decide_eq_false_iff_not] at hx;refine VC_skip ?_;refine VQi [6,7] fun K hK=>?_;apply hK;clear hK;refine VC_ret (Qav rfl rfl rfl ?_);rw [Yy (by omega),zend] at g5;rw [g5];exact ⟨_,_,hH4,rfl⟩
  simp only [decide_eq_false_iff_not] at h';rw [if_neg h'] at g5;refine VC_skip ?_;refine VQi [0,1,2,8,9,10,12,27,28,29,91] fun K hK=>?_;apply hK;clear hK;refine VD (fun h=>?_) (fun h=>?_)
  ·
   refine VQi [6,7] fun K hK=>?_;apply hK;clear hK;refine VC_ret (Qav rfl rfl rfl ?_);rw [if_pos (by omega)] at g5;rw [g5];exact IntsErr.nil (hH4.sub (by simp)) 3
  rw [if_neg (by omega)] at g5;refine VC_skip ?_;refine VQi [0,1,2,8,9,10,27,28,29] fun K hK=>?_;(repeat first | refine Qo ?_ | refine ⟨⟨by omega,by omega⟩,?_⟩);refine Qcd (xs:=[.tmp 94]) Yg sz3 rfl rfl rfl (by omega) ?_;refine Qi ?_;refine ⟨by simp [Y9],?_⟩;refine Qai ?_;refine Qi ?_;refine Qge hH4 0 rfl Yg zi3 (fun h=>by (first | omega | (simp;done) | (simp;omega))) fun a' cap' w5 hc' hH5=>?_;(try refine Qi ?_);apply hK;clear hK;refine Qaj ?_;refine VQi [0,1,2,8,9,10,27,28,29] fun K hK=>?_;(repeat refine Qo ?_);apply hK;clear hK;refine Qab ?_;refine Qi ?_;exact ⟨l.length - (i+1),by omega,i+1,0,1,_,_,_,rfl,hH5,by omega,by simp;omega,by omega,by omega,by simpa using g5,rfl⟩
 refine Qag rfl ?_;rw [Yy (by omega),zdec] at g5;refine VQi [6,7] fun K hK=>?_;apply hK;clear hK;refine VC_ret (Qav rfl rfl rfl ?_);rw [g5];exact IntsErr.nil (hH.sub (by simp)) 70
set_option maxHeartbeats 2000000
def unpS (used:List UInt8) (list:List Nat) (row most:Int):List UInt8×Int :=
 if (Qe4 used.length most (ni list)).2≠0 then ([],(Qe4 used.length most (ni list)).2)
 else if (Qd9 used (Qe4 used.length most (ni list)).1).2≠0 then ([],(Qd9 used (Qe4 used.length most (ni list)).1).2)
 else if (bckS (Qd9 used (Qe4 used.length most (ni list)).1).1 row).2≠0 then ([],(bckS (Qd9 used (Qe4 used.length most (ni list)).1).1 row).2)
 else decS [] 0 (bckS (Qd9 used (Qe4 used.length most (ni list)).1).1 row).1
theorem Quu (used:List UInt8) (list:List Nat) (row most:Int) (la:Option Addr) (lc:Nat) (hu:used.length<=256) (hl:list.length<=2147483640) (hx:∀ x∈list,x<=1000) (hr:I64 row) (hm:I64 most) (w:World) (hrs:RS w la list.length 1 (Qak list)) :
  Does Yi 91 #[Str used,.slice la list.length lc,.int .i64 row,.int .i64 most] w fun v w'=>Heap w [] w' []/\v=.tuple #[Str (unpS used list row most).1,.int .i64 (unpS used list row most).2]:=by
 have hnl:(ni list).length=list.length:=by simp [ni]
 have hzd:=QHt used.length most (ni list) la lc (Y7 (by omega) (by omega)) hm w (by rw [hnl,<- QKc];exact hrs) (by omega) (fun v hv=>by
  simp only [ni,Ut] at hv;obtain ⟨x,hx2,rfl⟩:=hv;have:=hx x hx2;exact Y7 (by omega) (by omega))
 obtain ⟨z1,z2⟩:=QEm (n:=used.length) (most:=most) (ni list);rw [hnl] at hzd;have hS:unpS used list row most=unpS used list row most:=rfl
 conv at hS=>rhs;unfold unpS
 rw [hS];clear hS;generalize Qe4 used.length most (ni list)=Z at *;have hsb:=fun a c w h=>Qw2 Z.1 used a c (by omega) (by omega) (fun v hv=>by have:=z2 v hv;exact Y7 (by omega) (by omega)) w h;have s1:=Qxs used Z.1;generalize Qd9 used Z.1=C at *;have hbk:=fun w=>QHk C.1 row hr (by omega) w;have b1:=QKy C.1 row;generalize bckS C.1 row=T at *;have hdc:=fun w=>QKv T.1 w (by omega);generalize decS [] 0 T.1=X at *;refine En [Str used,.slice la list.length lc,.int .i64 row,.int .i64 most] 47 Tryz.func91 ?_;refine VS [0,1,2,3] ?_;refine VQ [0,2,10,11] fun K hK=>?_;refine MemK_call Tryz.call122 ?_;refine Qs ?_;refine Yk hzd ?_;rintro v w2 ⟨ap,cp,hH,rfl⟩;apply hK;clear hK;refine VS [0,2,10,11,23] ?_;refine VD (fun h=>?_) (fun h=>?_)
 ·
  refine VS [8,9] ?_;refine VC_ret (Qav rfl rfl rfl ⟨hH.sub (by simp),?_⟩);rw [if_pos h]
 rw [if_neg h];refine VC_skip ?_;refine VQ [2,11,12] fun K hK=>?_;refine MemK_call Tryz.call123 ?_;refine Qs ?_;refine Yk (hsb _ _ w2 (Qaq (hH.at 0 rfl))) ?_;rintro v w3 ⟨hHs,rfl⟩;have hH2:=hH.call0 hHs;clear hH hHs;apply hK;clear hK;refine VS [2,11,12,32] ?_;refine VD (fun h=>?_) (fun h=>?_)
 ·
  refine VS [8,9] ?_;refine VC_ret (Qav rfl rfl rfl ⟨hH2.sub (by simp),?_⟩);rw [if_pos h]
 rw [if_neg h];refine VC_skip ?_;refine VQ [11,13] fun K hK=>?_;refine MemK_call Tryz.call124 ?_;refine Qs ?_;refine Yk (hbk w3) ?_;rintro v w4 ⟨hHs,rfl⟩;have hH3:=hH2.call0 hHs;clear hH2 hHs;apply hK;clear hK;refine VS [11,13,41] ?_;refine VD (fun h=>?_) (fun h=>?_)
 ·
  refine VS [8,9] ?_;refine VC_ret (Qav rfl rfl rfl ⟨hH3.sub (by simp),?_⟩);rw [if_pos h]
 rw [if_neg h];refine VC_skip ?_;refine VQ [8,9] fun K hK=>?_;refine MemK_call Tryz.call125 ?_;refine Qs ?_;refine Yk (hdc w4) ?_;rintro v w5 ⟨hHs,rfl⟩;have hH4:=hH3.call0 hHs;apply hK;clear hK;exact VC_ret (Qav rfl rfl rfl ⟨hH4.sub (by simp),rfl⟩)
abbrev QHu (e:Int):Value:=.iface 153 (.agg #[.int .i64 e])
abbrev Qxv (e:Int):List PanicEntry:=[{ v:=QHu e,recovered:=false }]
theorem Qmf (b:Bool) (w:World):DoesP Yi 117 #[.bool b] w (fun _ w'=>w'=w/\b=true) (fun c w'=>w'=w/\b=false/\c=Qxv 120):=by
 refine Qim (args:=[.bool b]) 6 Tryz.func117 rfl rfl (of_decide_eq_true rfl) ?_;simp only [Env.ofArgs];refine GS [3] ?_;refine Qf6 rfl rfl (fun h=>?_) (fun h=>?_)
 ·
  (repeat with_reducible refine Qdg ?_);refine Qfi [] [2] (by kernel_rfl) fun K hK=>?_;simp only [go_sem,Yr,Y6,Yw,Y2,↓reduceIte,reduceEqDiff];refine Qku ?_;refine Qs ?_;exact ⟨⟨_,_,rfl⟩,QLk ⟨rfl,by simpa using h,rfl⟩⟩
 refine Qh2 (Qr5 (nil0 (Qgl rfl ⟨rfl,by simpa using h⟩)))
theorem Qgx (g gs gr at_ n:Nat) (s:List UInt8) (w:World) (hn:n<=64) (ha:at_<=8 * s.length) (hs:s.length<=1000000000000000)
  (hL:Heap w (rd g gs s at_).foot w [rd g gs s at_]) (hc:w.cell? ⟨gr,0,none⟩=some (.pointer (some ⟨g,0,none⟩))) :
  DoesP Yi 116 #[.int .i64 n,.pointer (some ⟨gr,0,none⟩)] w
   (fun v w'=>at_+n<=8 * s.length/\Heap w (rd g gs s at_).foot w' [rd g gs s (at_+n)]/\v=.int .u64 (numB (((Qap s).drop at_).take n)))
   (fun c w'=>w'=w/\8 * s.length < at_+n/\c=Qxv 10):=by
 refine Qim (args:=[.int .i64 n,.pointer (some ⟨gr,0,none⟩)]) 18 Tryz.func116 rfl rfl (of_decide_eq_true rfl) ?_;simp only [Env.ofArgs];refine GS [0,1] ?_;refine GQ [4,5] fun K hK=>?_;refine ⟨_,hc,?_⟩;refine MemK_call Ua ?_;refine Qs ?_;refine Yk (Qex g gs s at_ n w hn ha hs hL) ?_;rintro v w2 (⟨h1,rfl,rfl⟩ | ⟨h1,hH,rfl⟩)
 ·
  skip
  apply hK;clear hK;refine GS [4,5,13] ?_;(repeat with_reducible refine Qdg ?_);refine Qf6 rfl rfl (fun h=>?_) (fun h=>by simp at h);(repeat with_reducible refine Qdg ?_);refine Qfi [] [3] (by kernel_rfl) fun K hK=>?_;simp only [go_sem,Yr,Y6,Yw,Y2,↓reduceIte,reduceEqDiff];refine Qku ?_;refine Qs ?_;exact ⟨⟨_,_,rfl⟩,QLk ⟨rfl,h1,rfl⟩⟩
 skip
 apply hK;clear hK;refine GS [4,5,13] ?_;(repeat with_reducible refine Qdg ?_);refine Qf6 rfl rfl (fun h=>by simp at h) (fun h=>Qh2 ?_);refine GS [3] ?_;exact Qv6 (ret0 (VX_ret1 rfl rfl ⟨h1,hH,rfl⟩))
set_option maxHeartbeats 2000000
abbrev pt (g:Nat):Value:=.pointer (some ⟨g,0,none⟩)
abbrev Qnb (gA gB gC gD:Nat) (sum row tn e:Value):Res:=Gs [Ym gA 41 [sum],Ym gB 3 [row],Ym gC 3 [tn],Ym gD 23 [e]]
theorem Qrk (gA gB gC gD:Nat) (w:World):∀ n,CallsDIn Fence.wide 0 Yi 115 #[pt gA,pt gB,pt gC,pt gD] .returning (w.drewN n) (fun e2 u2 w'=>(∃ x,e2=.returned x)/\u2=.returning/\∃ w1 m,w'=w1.drewN m/\w1=w):=by
 refine Qr8 (args:=[pt gA,pt gB,pt gC,pt gD]) (v:=.nilIface) (N:=20) Tryz.func115 rfl rfl rfl (by simp) (of_decide_eq_true rfl) (of_decide_eq_true rfl) (.inl ⟨rfl,rfl,rfl⟩) ?_;simp only [Env.ofArgs];refine GQ [0,1,2,3,4,9] fun K hK=>?_;rw [QQ9 (P:=Yi) (T:=20) (ms:=#[]) rfl];apply hK;clear hK;refine Qf6 rfl rfl (fun h=>by simp at h) (fun h=>Qh2 (Qr5 fun a n ha=>⟨.inl rfl,ha.defers,w,n,rfl,rfl⟩))
theorem Qxw (e:Int) (gA gB gC gD:Nat) (a b c d:Value) (w:World) (hB:Heap w (Qnb gA gB gC gD a b c d).foot w [Qnb gA gB gC gD a b c d]) :
  ∀ n,CallsDIn Fence.wide 0 Yi 115 #[pt gA,pt gB,pt gC,pt gD] (.panicking (Qxv e)) (w.drewN n) (fun e2 u2 w'=>(∃ x,e2=.returned x)/\u2=.panicking [{ v:=QHu e,recovered:=true }] /\
   ∃ w1 m,w'=w1.drewN m/\Heap w (Qnb gA gB gC gD a b c d).foot w1 [Qnb gA gB gC gD (.int .u32 0) (.int .i64 0) (.int .i64 0) (.int .i64 e)]):=by
 refine Qr8 (args:=[pt gA,pt gB,pt gC,pt gD]) (v:=QHu e) (N:=20) Tryz.func115 rfl rfl rfl (by simp) (of_decide_eq_true rfl) (of_decide_eq_true rfl) (.inr ⟨rfl,rfl⟩) ?_;simp only [Env.ofArgs];refine GQ [0,1,2,3,4,9] fun K hK=>?_;rw [QT2 (P:=Yi) (T:=20) (ms:=#[]) rfl];apply hK;clear hK;refine Qf6 rfl rfl (fun h=>?_) (fun h=>by simp at h);refine GQ [0,1,2,3,4,5,6] fun K hK=>?_;refine Qza ?_;refine Qs ?_;refine ⟨_,rfl,by kernel_rfl,?_⟩;refine Qao (.agg #[.int .i64 0]) (by kernel_rfl) ?_;refine Qs ?_;have hH:=hB.box 153 [.int .i64 0];generalize w.alloc (Yv [Y1 Xq 0].toArray 153)=w1 at *;generalize w.heap.size=g5 at *;refine Qaa ?_;refine Qs ?_;refine Qae hH 0 (vs:=[.int .i64 e]) rfl rfl (by kernel_rfl) (by simp) (by simp [Yh]) fun w2 hH2=>?_;simp only [Yb,Yc] at hH2;apply hK;clear hK;clear hH;(repeat with_reducible refine Qdg ?_);refine GS [0,1,2,3,5,16] ?_;(repeat with_reducible refine Qdg ?_);refine Qf6 rfl rfl (fun h=>by simp at h) (fun h=>Qh2 ?_);have hH3:=hH2.perm (.swap _ _ _);have hF:=(hH3.focus 0 rfl).unbag;simp only [Yl] at hF;(repeat with_reducible refine Qdg ?_);refine Qr6 (holes (Qnb gA gB gC gD a b c d).foot w2) (Ext.hole _ _) [] [(0,true),(1,true),(2,false),(3,false),(4,false),(5,false)] (by kernel_rfl) (by kernel_rfl) (by kernel_rfl) (by simp only [Qbd,List.filterMap_cons,List.filterMap_nil,List.getElem?_cons_succ,List.getElem?_cons_zero,Option.map_some];rfl) fun K hK=>?_;refine Qs ?_;refine ⟨_,hH3.hole_at 0 1 rfl rfl (by omega) rfl,?_⟩;refine Qaa ?_;refine Qs ?_;refine Qae hF 0 (vs:=[.int .u32 0]) rfl rfl (by kernel_rfl) (by simp) (by simp [Yh]) fun w3 hF1=>?_;simp only [Yb,Yc] at hF1;refine ⟨hF1.upd.extH,?_⟩;refine Qaa ?_;refine Qs ?_;refine Qae hF1 1 (vs:=[.int .i64 0]) rfl rfl (by kernel_rfl) (by simp) (by simp [Yh]) fun w4 hF2=>?_;simp only [Yb,Yc] at hF2;refine ⟨hF2.upd.extH,?_⟩;refine Qaa ?_;refine Qs ?_;refine Qae hF2 2 (vs:=[.int .i64 0]) rfl rfl (by kernel_rfl) (by simp) (by simp [Yh]) fun w5 hF3=>?_;simp only [Yb,Yc] at hF3;refine ⟨hF3.upd.extH,?_⟩;refine Qaa ?_;refine Qs ?_;refine Qae hF3 3 (vs:=[.int .i64 e]) rfl rfl (by kernel_rfl) (by simp) (by simp [Yh]) fun w6 hF4=>?_;simp only [Yb,Yc] at hF4;refine ⟨hF4.upd.extH,?_⟩;apply hK;clear hK;have hF5:=U8 (G:=[]) [Ym gA 41 [.int .u32 0],Ym gB 3 [.int .i64 0],Ym gC 3 [.int .i64 0],Ym gD 23 [.int .i64 e]] (by simpa using hF4);have hH4:=hH3.call1 0 rfl hF5;simp only [Yf,Yb] at hH4;exact Qr5 fun a n ha=>⟨.inl rfl,ha.defers,w6,n,rfl,hH4.sub (.cons_cons _ (.cons _ (.refl _)))⟩
set_option maxHeartbeats 4000000
def hdS (l:List Bool) (a:Nat):Nat×Nat×Nat×Nat :=
 if l.length < a+48 then (0,0,0,10)
 else if numB ((l.drop a).take 48)≠54156738319193 then (0,0,0,120)
 else if l.length < a+80 then (0,0,0,10)
 else if l.length < a+81 then (0,0,0,10)
 else if numB ((l.drop (a+80)).take 1)≠0 then (0,0,0,120)
 else if l.length < a+105 then (0,0,0,10)
 else (numB ((l.drop (a+48)).take 32),numB ((l.drop (a+81)).take 24),a+105,0)
def hdV (x:Nat×Nat×Nat×Nat):Value:=.tuple #[.int .u32 x.1,.int .i64 x.2.1,.int .i64 x.2.2.1,.int .i64 x.2.2.2]
theorem QK0 {C:Ctx}{e:Env}{w:World}{t u s r:Tmp}{T U S R:TypeId}{a b c d:Addr} (hr:C.fn.results=#[.cell t T,.cell u U,.cell s S,.cell r R]) (ht:e.find? t=some (.pointer (some a))) (hu:e.find? u=some (.pointer (some b))) (hs:e.find? s=some (.pointer (some c))) (hq:e.find? r=some (.pointer (some d)))
  (h:Qcj C.P T (.pointer (some a)) w fun v=>Qcj C.P U (.pointer (some b)) w fun x=>Qcj C.P S (.pointer (some c)) w fun y=>Qcj C.P R (.pointer (some d)) w fun z=>C.F (.tuple #[v,x,y,z]) w):VX C [] .ret e w:=by
 intro ac n ha;obtain ⟨v,hv,r1⟩:=Qdn h;obtain ⟨x,hv,r2⟩:=Qdn hv;obtain ⟨y,hv,r3⟩:=Qdn hv;obtain ⟨z,hv,r4⟩:=Qdn hv;refine ⟨ha.defers,.tuple #[v,x,y,z],?_,_,w,n,rfl,rfl,hv⟩;have h1:=ha.at_ t _ ht;rw [Array.getD_eq_getD_getElem?] at h1;have h2:=ha.at_ u _ hu;rw [Array.getD_eq_getD_getElem?] at h2;have h3:=ha.at_ s _ hs;rw [Array.getD_eq_getD_getElem?] at h3;have h4:=ha.at_ r _ hq;rw [Array.getD_eq_getD_getElem?] at h4;have q1:=r1 (w.drewN n) (Ext.drewN w n);have q2:=r2 (w.drewN n) (Ext.drewN w n);have q3:=r3 (w.drewN n) (Ext.drewN w n);have q4:=r4 (w.drewN n) (Ext.drewN w n);simp [results,hr,h1,h2,h3,h4,asAddr,q1,q2,q3,q4]
theorem Qg4 {P:Program}{T:TypeId}{g T':Nat}{v:Value}{w:World}{K:Value->Prop} (h:(Ym g T' [v]).holds w) (hd:Qij (P.underlying T)=false) (hs:(P.underlying T).isSome=true) (hk:K v):Qcj P T (.pointer (some ⟨g,0,none⟩)) w K:=by
 have hc:w.cell? ⟨g,0,none⟩=some v:=Qah h rfl;unfold Qcj;cases hu:P.underlying T with
 | none=>simp [hu] at hs
 | some d =>
  cases d <;> first
   | (exfalso;simp [Qij,hu] at hd;done)
   | exact ⟨v,hc,hk⟩
theorem QB8 {w w1:World}{N g4 g5 g6 g7:Nat}{v x y z:Value}{G:List Res}{F:Value->World->Prop} (hH:Heap w [] w1 (Qnb g4 g5 g6 g7 v x y z::G)) (hF:F (.tuple #[v,x,y,z]) w1) :
  VX ⟨Yi,Tryz.f87,F,N⟩ [] .ret [(4,pt g4),(5,pt g5),(6,pt g6),(7,pt g7)] w1:=by
 have hU:=hH.unbag;refine QK0 rfl rfl rfl rfl rfl ?_;refine Qg4 (hU.at 0 rfl) (by kernel_rfl) (by kernel_rfl) ?_;refine Qg4 (hU.at 1 rfl) (by kernel_rfl) (by kernel_rfl) ?_;refine Qg4 (hU.at 2 rfl) (by kernel_rfl) (by kernel_rfl) ?_;exact Qg4 (hU.at 3 rfl) (by kernel_rfl) (by kernel_rfl) hF
theorem Qhj {w w1:World}{N g4 g5 g6 g7:Nat}{v x y z:Value}{G:List Res}{F:Value->World->Prop} (e:Nat) (hH:Heap w [] w1 (Qnb g4 g5 g6 g7 v x y z::G)) (hF:∀ w',Heap w [] w' []->F (hdV (0,0,0,e)) w') :
  ∀ a n,FitsG N [{ target:=.fn (.func 115) #[pt g4,pt g5,pt g6,pt g7],args:=#[] }] [(4,pt g4),(5,pt g5),(6,pt g6),(7,pt g7)] a ->
   Qv8 Yi Tryz.f87 F noPn (.panic (Qxv e)) a (w1.drewN n):=by
 refine Qwf (args:=#[]) (cs:=#[pt g4,pt g5,pt g6,pt g7]) (u:=.panicking (Qxv e)) (R:=fun w2=>Heap w1 (Qnb g4 g5 g6 g7 v x y z).foot w2 [Qnb g4 g5 g6 g7 (.int .u32 0) (.int .i64 0) (.int .i64 0) (.int .i64 e)]) Tryz.call115 (by simp) rfl (fun n=>?_) fun w2 hR=>?_
 ·
  have h:=Qxw e g4 g5 g6 g7 v x y z w1 (hH.focus 0 rfl) n;obtain ⟨h1,h2⟩:=h;refine ⟨h1,fun c cs hm hr=>?_⟩;obtain ⟨e2,u2,w2,fr,⟨hx,hu,hw⟩,rest⟩:=h2 c cs hm hr;exact ⟨e2,u2,w2,fr,⟨hx,by rw [hu];rfl,hw⟩,rest⟩
 have hH2:=hH.call1 0 rfl hR;simp only [Yf,Yb] at hH2;exact QB8 hH2 (hF _ (hH2.sub (List.nil_sublist _)))
theorem QK1 {w w1:World}{N g4 g5 g6 g7:Nat}{v x y z:Value}{G:List Res}{F:Value->World->Prop} (hH:Heap w [] w1 (Qnb g4 g5 g6 g7 v x y z::G)) (hF:F (.tuple #[v,x,y,z]) w1) :
  ∀ a n,FitsG N [{ target:=.fn (.func 115) #[pt g4,pt g5,pt g6,pt g7],args:=#[] }] [(4,pt g4),(5,pt g5),(6,pt g6),(7,pt g7)] a ->
   Qv8 Yi Tryz.f87 F noPn .ret a (w1.drewN n):=by
 refine Qwf (args:=#[]) (cs:=#[pt g4,pt g5,pt g6,pt g7]) (u:=.returning) (R:=fun w2=>w2=w1) Tryz.call115 (by simp) rfl (fun n=>?_) fun w2 hR=>?_
 ·
  have h:=Qrk g4 g5 g6 g7 w1 n;obtain ⟨h1,h2⟩:=h;refine ⟨h1,fun c cs hm hr=>?_⟩;obtain ⟨e2,u2,w2,fr,⟨hx,hu,hw⟩,rest⟩:=h2 c cs hm hr;exact ⟨e2,u2,w2,fr,⟨hx,by rw [hu];rfl,hw⟩,rest⟩
 subst hR;exact QB8 hH hF
set_option maxHeartbeats 4000000
theorem Qqb {P:Program}{w0 w:World}{B:List Nat}{G:List Res} (hH:Heap w0 B w G) (i:Nat) {g:Nat}{T T':TypeId}{cs:List Value}{v:Value}{C:World->Prop} (hi:G[i]? = some (Ym g T' cs)) (hv:v.cells=cs.toArray) (hsz:P.szo T=some cs.length) (h1:∀ u∈cs,u.oneCell'=true)
  (h:C w):Qi7 P T (.pointer (some ⟨g,0,none⟩)) v w C:=by
 obtain ⟨fz,hg,hfz⟩:=hH.at i hi;obtain ⟨hlt,hget⟩:=Array.getElem?_eq_some_iff.1 hg;refine ⟨w,fun n=>?_,h⟩;rw [Qgm (o:=0) hv hsz hg hfz (by simp) h1 n];have hc:cs.take 0++cs++cs.drop (0+cs.length)=cs:=by simp
 rw [hc]
 have:Qe0 w g cs T' fz=w:=by
  unfold Qe0
  have:w.heap.setIfInBounds g (.cells cs.toArray T' fz)=w.heap:=by
   refine Array.ext_getElem? fun i=>?_;rw [Array.getElem?_setIfInBounds];split
   ·
    rename_i hi2;subst hi2;exact hg.symm
   rfl
  rw [this]
 rw [this]
theorem Qrl (s:List UInt8) (at_:Int) (w:World) (ha:I64 at_) (hs:s.length<=1000000000000000) :
  Does Yi 87 #[Str s,.int .i64 at_] w fun v w'=>Heap w [] w' []/\v=if at_ < 0∨8 * (s.length:Int) < at_ then hdV (0,0,0,2) else hdV (hdS (Qap s) at_.toNat):=by
 have hbl:=Qaw s;refine Qpc (args:=[Str s,.int .i64 at_]) 40 Tryz.func87 rfl rfl (of_decide_eq_true rfl) ?_;simp only [Env.ofArgs];refine GQ [0,1,4,5,6,7] fun K hK=>?_;refine Qao (.int .u32 0) (by kernel_rfl) ?_;refine Qs ?_;have hH:=(Yx w).box 41 [.int .u32 0];generalize w.alloc (Yv [Y1 Xa 0].toArray 41)=w1 at *;generalize w.heap.size=g4 at *;refine Qao (.int .i64 0) (by kernel_rfl) ?_;refine Qs ?_;have hH2:=hH.box 3 [.int .i64 0];generalize w1.alloc (Yv [Y1 Xq 0].toArray 3)=w2 at *;generalize w1.heap.size=g5 at *;refine Qao (.int .i64 0) (by kernel_rfl) ?_;refine Qs ?_;have hH3:=hH2.box 3 [.int .i64 0];generalize w2.alloc (Yv [Y1 Xq 0].toArray 3)=w3 at *;generalize w2.heap.size=g6 at *;refine Qao (.int .i64 0) (by kernel_rfl) ?_;refine Qs ?_;have hH4:=hH3.box 23 [.int .i64 0];generalize w3.alloc (Yv [Y1 Xq 0].toArray 23)=w4 at *;generalize w3.heap.size=g7 at *;apply hK;clear hK
 have hHB:Heap w [] w4 [Qnb g4 g5 g6 g7 (.int .u32 0) (.int .i64 0) (.int .i64 0) (.int .i64 0)]:=U8 (G:=[]) _ (by
  refine hH4.perm ?_;exact (Xr [_,_,_,_]).symm)
 clear hH hH2 hH3 hH4;(repeat with_reducible refine Qdg ?_);refine QDl [0,1,4,5,6,7] 1 rfl (by kernel_rfl) rfl fun K hK=>?_;simp only [go_sem,Yr,Y6,Yw,Y2,↓reduceIte,reduceEqDiff];refine ⟨_,_,_,rfl,?_⟩;refine hK _ _ _ ?_;clear hK K;refine GQ [4,5,6,7,8] fun K hK=>?_;refine MemK_call U4 ?_;refine Qs ?_;refine Yk (Qdt s at_ w4 ha (by omega)) ?_;rintro v w5 (⟨hbad,hHr,rfl⟩ | ⟨hgood,g,gs,hHr,rfl⟩)
 ·
  have hH5:=hHB.call0 hHr;simp only [Yf] at hH5;clear hHB hHr;refine Qao (.pointer none) (by kernel_rfl) ?_;refine Qs ?_;have hH6:=hH5.box 80 [.pointer none];generalize w5.alloc (Yv [Value.pointer none].toArray 80)=w6 at *;generalize w5.heap.size=g8 at *;refine Qaa ?_;refine Qs ?_;refine Qae hH6 0 (vs:=[.pointer none]) rfl rfl (by kernel_rfl) (by simp) (by simp [Yh]) fun w7 hH7=>?_;simp only [Yb,Yc] at hH7;apply hK;clear hK;clear hH5 hH6;refine GQ [4,5,6,7,8,16] fun K hK=>?_;refine ⟨_,Qah (hH7.at 0 rfl) rfl,?_⟩;refine Qs ?_
  try rw [QBb (P:=Yi) (T:=80) rfl]
  apply hK;clear hK;(repeat with_reducible refine Qdg ?_);refine Qf6 rfl rfl (fun h=>?_) (fun h=>by simp at h);(repeat with_reducible refine Qdg ?_);refine Qfi [] [2] (by kernel_rfl) fun K hK=>?_;simp only [go_sem,Yr,Y6,Yw,Y2,↓reduceIte,reduceEqDiff];refine Qku ?_;refine Qs ?_;refine ⟨⟨_,_,rfl⟩,fun a n hf=>Qhj 2 (hH7.perm (.swap _ _ _)) ?_ a n (hf.sel [4,5,6,7])⟩;intro w' hw';rw [if_pos hbad];exact ⟨hw',rfl⟩
 obtain ⟨at_,rfl⟩:∃ n:Nat,at_=n:=⟨at_.toNat,by omega⟩;rw [if_neg hgood,Yo] at *;have hat:at_<=8 * s.length:=by omega
 clear hgood ha;have hH5:=hHB.call0 hHr;simp only [Y5,Yf] at hH5;clear hHB hHr;refine Qao (.pointer none) (by kernel_rfl) ?_;refine Qs ?_;have hH6:=hH5.box 80 [.pointer none];generalize w5.alloc (Yv [Value.pointer none].toArray 80)=w6 at *;generalize w5.heap.size=g8 at *;refine Qaa ?_;refine Qs ?_;refine Qae hH6 0 (vs:=[pt g]) rfl rfl (by kernel_rfl) (by simp) (by simp [Yh]) fun w7 hH7=>?_;simp only [Yb,Yc] at hH7;apply hK;clear hK;clear hH5 hH6;refine GQ [4,5,6,7,8,16] fun K hK=>?_;refine ⟨_,Qah (hH7.at 0 rfl) rfl,?_⟩;refine Qs ?_
 try rw [QBb (P:=Yi) (T:=80) rfl]
 apply hK;clear hK;(repeat with_reducible refine Qdg ?_);refine Qf6 rfl rfl (fun h=>by simp at h) (fun h=>Qh2 ?_);refine GS [4,5,6,7,8,9] ?_;refine GS [4,5,6,7,8,9,10] ?_;(repeat with_reducible refine Qdg ?_);refine Qfi [4,5,6,7,8,9,10] [2,1] (by kernel_rfl) fun K hK=>?_;simp only [go_sem,Yr,Y6,Yw,Y2,↓reduceIte,reduceEqDiff];refine Qf7 ?_;refine Qs ?_;refine CallP.mk U0 (Qgx g gs g8 at_ 48 s w7 (by omega) hat hs (hH7.focus 1 rfl) (Qah (hH7.at 0 rfl) rfl)) ?_ ?_
 case' refine_2 =>
  rintro c w8 ⟨rfl,h1,rfl⟩ a n hf;refine Qhj 10 (hH7.perm (Xr [_,_,_]).symm) ?_ a n (hf.sel [4,5,6,7]);intro w' hw';have:hdS (Qap s) at_=(0,0,0,10):=by rw [hdS,if_pos (by omega)]
  rw [this];exact ⟨hw',rfl⟩
 rintro v w8 ⟨h1,hHt,rfl⟩;have hH8:=hH7.call1 1 rfl hHt;simp only [Yf,Yb,Yc] at hH8;clear hH7 hHt;generalize hm:numB (((Qap s).drop at_).take 48)=mg at *;simp only [go_sem,Yr,Y6,Yw,Y2,↓reduceIte,reduceEqDiff];refine Qf7 ?_;refine Qs ?_;refine CallP.mk Tryz.call117 (Qmf (decide ((mg:Int)=54156738319193)) w8) ?_ ?_
 case' refine_2 =>
  rintro c w9 ⟨rfl,h2,rfl⟩ a n hf;simp only [decide_eq_false_iff_not] at h2;refine Qhj 120 (hH8.perm (Xr [_,_,_]).symm) ?_ a n (hf.sel [4,5,6,7]);intro w' hw';have:hdS (Qap s) at_=(0,0,0,120):=by rw [hdS,if_neg (by omega),if_pos (by rw [hm];omega)]
  rw [this];exact ⟨hw',rfl⟩
 rintro v w9 ⟨rfl,h2⟩;simp only [decide_eq_true_eq] at h2;obtain rfl:mg=54156738319193:=by omega
 clear h2
 have hS:hdS (Qap s) at_=if (Qap s).length < at_+80 then (0,0,0,10)
   else if (Qap s).length < at_+81 then (0,0,0,10)
   else if numB (((Qap s).drop (at_+80)).take 1)≠0 then (0,0,0,120)
   else if (Qap s).length < at_+105 then (0,0,0,10)
   else (numB (((Qap s).drop (at_+48)).take 32),numB (((Qap s).drop (at_+81)).take 24),at_+105,0):=by
  rw [hdS,if_neg (by omega),if_neg (by rw [hm];omega)]
 apply hK;clear hK;rw [hS];clear hS hm;(repeat with_reducible refine Qdg ?_);refine Qfi [4,5,6,7,8,9,10] [1] (by kernel_rfl) fun K hK=>?_;simp only [go_sem,Yr,Y6,Yw,Y2,↓reduceIte,reduceEqDiff];refine Qf7 ?_;refine Qs ?_;refine CallP.mk U0 (Qgx g gs g8 (at_+48) 32 s w9 (by omega) (by omega) hs (hH8.focus 1 rfl) (Qah (hH8.at 0 rfl) rfl)) ?_ ?_
 case' refine_2 =>
  rintro c w8 ⟨rfl,h1,rfl⟩ a n hf;refine Qhj 10 (hH8.perm (Xr [_,_,_]).symm) ?_ a n (hf.sel [4,5,6,7]);intro w' hw';rw [if_pos (by omega)];exact ⟨hw',rfl⟩
 rintro v w10 ⟨h2,hHt,rfl⟩;have hH9:=hH8.call1 1 rfl hHt;simp only [Yf,Yb,Yc] at hH9;clear hH8 hHt;have hlt:=Qes (((Qap s).drop (at_+48)).take 32);have hlt2:=Xc (show 0 < 2 by omega) (show (((Qap s).drop (at_+48)).take 32).length<=32 by rw [Xd];omega);generalize hsum:numB (((Qap s).drop (at_+48)).take 32)=sum at *;have hHA:=hH9.perm (Xr [_,_,_]).symm;simp only [List.reverse_cons,List.reverse_nil,Yf,Y5] at hHA;have hHA:=hHA.unbag;simp only [Y5,Yf] at hHA;simp only [go_sem,Yr,Y6,Yw,Y2,↓reduceIte,reduceEqDiff];rw [show ((sum:Int) % 4294967296)=sum by omega];refine Qaa ?_;refine Qs ?_;refine Qae hHA 0 (vs:=[.int .u32 (sum:Nat)]) rfl rfl (by kernel_rfl) (by simp) (by simp [Yh]) fun w11 hHC=>?_;simp only [Yb,Yc] at hHC;apply hK;clear hK;rw [if_neg (by omega)];have hHD:Heap w [] w11 (Qnb g4 g5 g6 g7 (.int .u32 sum) (.int .i64 0) (.int .i64 0) (.int .i64 0)::rd g gs s (at_+48+32)::[Ym g8 80 [pt g]]):=U8 _ hHC;clear hHC hHA hH9;(repeat with_reducible refine Qdg ?_);refine Qfi [4,5,6,7,8,9] [2,1] (by kernel_rfl) fun K hK=>?_;simp only [go_sem,Yr,Y6,Yw,Y2,↓reduceIte,reduceEqDiff];refine Qf7 ?_;refine Qs ?_;refine CallP.mk U0 (Qgx g gs g8 (at_+48+32) 1 s w11 (by omega) (by omega) hs (hHD.focus 1 rfl) (Qah (hHD.at 2 rfl) rfl)) ?_ ?_
 case' refine_2 =>
  rintro c w8 ⟨rfl,h1,rfl⟩ a n hf;refine Qhj 10 hHD ?_ a n (hf.sel [4,5,6,7]);intro w' hw';rw [if_pos (by omega)];exact ⟨hw',rfl⟩
 rintro v w12 ⟨h3,hHt,rfl⟩;have hHE:=hHD.call1 1 rfl hHt;simp only [Yf,Yb,Yc] at hHE;clear hHD hHt;rw [show at_+48+32=at_+80 by omega] at hHE h3 ⊢;generalize hbt:numB (((Qap s).drop (at_+80)).take 1)=bt at *;simp only [go_sem,Yr,Y6,Yw,Y2,↓reduceIte,reduceEqDiff];refine Qf7 ?_;refine Qs ?_;refine CallP.mk Tryz.call117 (Qmf (decide ((bt:Int)=0)) w12) ?_ ?_
 case' refine_2 =>
  rintro c w9 ⟨rfl,h2,rfl⟩ a n hf;simp only [decide_eq_false_iff_not] at h2;refine Qhj 120 hHE ?_ a n (hf.sel [4,5,6,7]);intro w' hw';rw [if_neg (by omega),if_pos (by omega)];exact ⟨hw',rfl⟩
 rintro v w13 ⟨rfl,h4⟩;simp only [decide_eq_true_eq] at h4;obtain rfl:bt=0:=by omega
 apply hK;clear hK;rw [if_neg (by omega),if_neg (by simp)];(repeat with_reducible refine Qdg ?_);refine Qfi [4,5,6,7,8] [1] (by kernel_rfl) fun K hK=>?_;simp only [go_sem,Yr,Y6,Yw,Y2,↓reduceIte,reduceEqDiff];refine Qf7 ?_;refine Qs ?_;refine CallP.mk U0 (Qgx g gs g8 (at_+80+1) 24 s w13 (by omega) (by omega) hs (hHE.focus 1 rfl) (Qah (hHE.at 2 rfl) rfl)) ?_ ?_
 case' refine_2 =>
  rintro c w8 ⟨rfl,h1,rfl⟩ a n hf;refine Qhj 10 hHE ?_ a n (hf.sel [4,5,6,7]);intro w' hw';rw [if_pos (by omega)];exact ⟨hw',rfl⟩
 rintro v w14 ⟨h5,hHt,rfl⟩;have hHG:=hHE.call1 1 rfl hHt;simp only [Yf,Yb,Yc] at hHG;clear hHE hHt hbt h4;rw [show at_+80+1=at_+81 by omega] at hHG h5 ⊢;have hlt3:=Qes (((Qap s).drop (at_+81)).take 24);have hlt4:=Xc (show 0 < 2 by omega) (show (((Qap s).drop (at_+81)).take 24).length<=24 by rw [Xd];omega);generalize hrow:numB (((Qap s).drop (at_+81)).take 24)=row at *;have hHI:=hHG.unbag;simp only [Y5,Yf] at hHI;simp only [go_sem,Yr,Y6,Yw,Y2,↓reduceIte,reduceEqDiff];refine ⟨Y7 (by omega) (by omega),?_⟩;refine Qaa ?_;refine Qs ?_;refine Qae hHI 1 (vs:=[.int .i64 (row:Nat)]) rfl rfl (by kernel_rfl) (by simp) (by simp [Yh]) fun w15 hHJ=>?_;simp only [Yb,Yc] at hHJ;apply hK;clear hK;rw [if_neg (by omega)];clear hHI hHG
 have hHM:Heap w [] w15 (Gs [Ym g7 23 [.int .i64 0],Ym g6 3 [.int .i64 0]]::[Ym g4 41 [.int .u32 (sum:Nat)],Ym g5 3 [.int .i64 (row:Nat)],rd g gs s (at_+81+24),Ym g8 80 [pt g]]) :=
  U8 [_,_] ((hHJ.front 2 rfl).front 3 rfl)
 clear hHJ;have hF:=(hHM.focus 0 rfl).unbag;simp only [Yl] at hF;(repeat with_reducible refine Qdg ?_);refine Qr6 (holes (Gs [Ym g7 23 [.int .i64 0],Ym g6 3 [.int .i64 0]]).foot w15) (Ext.hole _ _) [4,5,6,7] [(0,true),(1,true),(2,true),(3,false),(4,false),(5,false),(6,false),(7,false)] (by kernel_rfl) (by kernel_rfl) (by kernel_rfl) (by simp only [Qbd,List.filterMap_cons,List.filterMap_nil,List.getElem?_cons_succ,List.getElem?_cons_zero,Option.map_some];rfl) fun K hK=>?_;refine Qs ?_;refine ⟨_,hHM.hole_at 0 1 rfl rfl (by omega) rfl,?_⟩;refine ⟨_,hHM.hole_at 0 2 rfl rfl (by omega) rfl,?_⟩;refine ⟨_,hHM.hole_at 0 4 rfl rfl (by omega) rfl,?_⟩;refine MemK_call Gl ?_;refine Qs ?_;refine Yk (Qpr g gs (at_+81+24) s w15 (hHM.at 3 rfl)) ?_;rintro v w16 ⟨rfl,rfl⟩;refine ⟨Ext.hole _ _,?_⟩;refine Qaa ?_;refine Qs ?_;refine Qqb hHM 1 (cs:=[.int .u32 (sum:Nat)]) rfl rfl (by kernel_rfl) (by simp [Yh]) ?_;refine ⟨Ext.hole _ _,?_⟩;refine Qaa ?_;refine Qs ?_;refine Qqb hHM 2 (cs:=[.int .i64 (row:Nat)]) rfl rfl (by kernel_rfl) (by simp [Yh]) ?_;refine ⟨Ext.hole _ _,?_⟩;refine Qaa ?_;refine Qs ?_;refine Qae hF 1 (vs:=[.int .i64 (at_+81+24:Nat)]) rfl rfl (by kernel_rfl) (by simp) (by simp [Yh]) fun w17 hF1=>?_;simp only [Yb,Yc] at hF1;refine ⟨hF1.upd.extH,?_⟩;refine Qaa ?_;refine Qs ?_;refine Qae hF1 0 (vs:=[.int .i64 0]) rfl rfl (by kernel_rfl) (by simp) (by simp [Yh]) fun w18 hF2=>?_;simp only [Yb,Yc] at hF2;refine ⟨hF2.upd.extH,?_⟩;apply hK;clear hK;have hF3:Heap w16 (Gs [Ym g7 23 [.int .i64 0],Ym g6 3 [.int .i64 0]]).foot w18 [Gs [Ym g7 23 [.int .i64 0],Ym g6 3 [.int .i64 (at_+81+24:Nat)]]]:=U8 [_,_] hF2;have hHN:=(hHM.call1 0 rfl hF3).unbag;simp only [Yf,Yb,Y5] at hHN
 have hHO:Heap w [] w18 (Qnb g4 g5 g6 g7 (.int .u32 (sum:Nat)) (.int .i64 (row:Nat)) (.int .i64 (at_+81+24:Nat)) (.int .i64 0)::[rd g gs s (at_+81+24),Ym g8 80 [pt g]]) :=
  U8 [_,_,_,_] ((((hHN.front 0 rfl).front 1 rfl).front 3 rfl).front 3 rfl)
 refine Qv6 fun a n hf=>QK1 hHO ?_ a n hf;refine ⟨hHO.sub (List.nil_sublist _),?_⟩;rw [show at_+81+24=at_+105 by omega];rfl
set_option maxHeartbeats 4000000
def Qmg (bits:List Bool) (at_:Nat) (most:Int):Except Int (List UInt8×Nat×Nat) :=
 if (hdS bits at_).2.2.2≠0 then .error (hdS bits at_).2.2.2 else
 match Qey bits (hdS bits at_).2.2.1 with
 | .error e=>.error e
 | .ok u=>match Qel bits u.2 (u.1.length+2) with
  | .error e=>.error e
  | .ok p=>match Qgw p.1.1 bits ((p.1.1.getD 0 []).length - 1) p.1.2 p.2 with
   | .error e=>.error e
   | .ok q =>
    if (unpS u.1 q.1 (hdS bits at_).2.1 most).2≠0 then .error (unpS u.1 q.1 (hdS bits at_).2.1 most).2
    else if Qa9 (unpS u.1 q.1 (hdS bits at_).2.1 most).1≠(hdS bits at_).1 then .error 121
    else .ok ((unpS u.1 q.1 (hdS bits at_).2.1 most).1,(hdS bits at_).1,q.2)
def Qoa (s:List UInt8) (at_ most:Int):Except Int (List UInt8×Nat×Nat) :=
 if most < 1∨262144 < most∨at_ < 0∨8 * (s.length:Int) < at_ then .error 2 else Qmg (Qap s) at_.toNat most
def QPh (r:Except Int (List UInt8×Nat×Nat)):Value:=match r with
 | .ok r=>.tuple #[Str r.1,.int .u32 r.2.1,.int .i64 r.2.2,.int .i64 0]
 | .error e=>.tuple #[Str [],.int .u32 0,.int .i64 0,.int .i64 e]
theorem QLt (l:List Bool) (a:Nat):((hdS l a).2.2.2=0/\a+105<=l.length/\(hdS l a).2.2.1=a+105/\(hdS l a).1 < 4294967296/\(hdS l a).2.1 < 16777216)∨((hdS l a).2.2.2=10∨(hdS l a).2.2.2=120):=by
 unfold hdS;have h1:=Qes ((l.drop (a+48)).take 32);have h2:=Xc (show 0 < 2 by omega) (show ((l.drop (a+48)).take 32).length<=32 by rw [Xd];omega);have h3:=Qes ((l.drop (a+81)).take 24);have h4:=Xc (show 0 < 2 by omega) (show ((l.drop (a+81)).take 24).length<=24 by rw [Xd];omega)
 repeat' split
 all_goals first
  | (exact .inr (.inl rfl))
  | (exact .inr (.inr rfl))
  | (refine .inl ⟨rfl,by omega,rfl,?_,?_⟩ <;> simp only <;> omega)
theorem QK2:∀ (l out:List UInt8) (k:Nat),(decS out k l).2=0∨(decS out k l).1=[]:=by
 intro l
 induction l with
 | nil=>intro out k;rw [decS];split <;> simp
 | cons c l ih =>
  intro out k;rw [decS]
  repeat' split
  all_goals first | (right;rfl) | exact ih _ _
theorem QK3 (u:List UInt8) (l:List Nat) (row most:Int):(unpS u l row most).2=0∨(unpS u l row most).1=[]:=by
 unfold unpS
 repeat' split
 all_goals first | (right;rfl) | exact QK2 _ _ _
theorem QB9 (u:List UInt8) (l:List Nat) (row most:Int):(unpS u l row most).1.length<=262144:=by
 unfold unpS
 repeat' split
 all_goals first | simp | exact QPf _ _ _ (by simp)
theorem Qrm (s:List UInt8) (at_ most:Int) (w:World) (ha:I64 at_) (hm:I64 most) (hs:s.length<=100000000000000) :
  Does Yi 54 #[Str s,.int .i64 at_,.int .i64 most] w fun v w'=>Heap w [] w' []/\v=QPh (Qoa s at_ most):=by
 have hbl:=Qaw s;have hhd:=fun w=>Qrl s at_ w ha (by omega);refine En [Str s,.int .i64 at_,.int .i64 most] 90 Tryz.func54 ?_;refine VS [0,1,2] ?_;refine VQ [0,1,2,22] fun K hK=>?_
 suffices out:∀ b:Bool,(b=true ↔ most < 1∨262144 < most)->K [(0,Str s),(1,.int .i64 at_),(2,.int .i64 most),(22,.bool b)] w by
  refine ⟨fun h=>out _ (by simp at h ⊢;omega),fun h=>out _ (by simp at h ⊢;omega)⟩
 intro b hb;apply hK;clear hK;refine Vi (fun h=>?_) (fun h=>VC_skip ?_)
 ·
  have hb:=hb.1 h;refine VS [6,7,8,9] ?_;refine VC_ret (Qjc rfl rfl rfl rfl rfl ⟨Yx w,?_⟩);rw [Qoa,if_pos (by omega)];rfl
 have hmo:¬ (most < 1∨262144 < most):=fun hh=>by rw [hb.2 hh] at h;cases h
 clear hb h;refine VQ [0,1,2,10,11,12] fun K hK=>?_;refine MemK_call Tryz.call87 ?_;refine Qs ?_;refine Yk (hhd w) ?_;rintro v w2 ⟨hH,rfl⟩;by_cases hat:at_ < 0∨8 * (s.length:Int) < at_
 ·
  rw [if_pos hat];unfold hdV;refine Qs ?_;apply hK;clear hK;refine VS [0,1,2,10,11,12,32] ?_;refine Qaf rfl rfl (fun h=>?_) (fun h=>by simp at h);refine VS [6,7,8,9] ?_;refine VC_ret (Qjc rfl rfl rfl rfl rfl ⟨hH,?_⟩);rw [Qoa,if_pos (by omega)];rfl
 rw [if_neg hat];have hF:Qoa s at_ most=Qmg (Qap s) at_.toNat most:=by rw [Qoa,if_neg (by omega)]
 rw [hF] at hK;obtain ⟨at_,rfl⟩:∃ n:Nat,at_=n:=⟨at_.toNat,by omega⟩;rw [Yo] at hK ⊢;have hok:=QLt (Qap s) at_;have hE:Qmg (Qap s) at_ most=Qmg (Qap s) at_ most:=rfl
 conv at hE=>rhs;unfold Qmg
 generalize Qmg (Qap s) at_ most=res at *;clear hF hat hhd;generalize hdS (Qap s) at_=hd at *;obtain ⟨sum,row,to,e⟩:=hd;simp only at hok hE;unfold hdV;refine Qs ?_;apply hK;clear hK;refine VS [0,1,2,10,11,12,32] ?_;refine VD (fun h=>?_) (fun h=>?_)
 ·
  refine VS [6,7,8,9] ?_;refine VC_ret (Qjc rfl rfl rfl rfl rfl ⟨hH,?_⟩);rw [hE,if_pos (by omega)];rfl
 obtain rfl:e=0:=by omega
 rw [if_neg (by simp)] at hE
 obtain ⟨_,h1,rfl,h2,h3⟩:(0:Nat)=0/\at_+105<=(Qap s).length/\to=at_+105/\sum < 4294967296/\row < 16777216:=by
  rcases hok with hok | hok
  ·
   exact hok
  omega
 clear hok h;refine VC_skip ?_;have hst:=fun w=>Qxl s (at_+105) (by omega) (by omega) w;generalize hbits:Qap s=bits at *;refine VQ [0,1,2,10,11,12,13] fun K hK=>?_;refine MemK_call Tryz.call88 ?_;refine Qs ?_;refine Yk (hst w2) ?_;rintro v w3 ⟨hHs,rfl⟩;have hH2:=hH.call0 hHs;clear hH hHs hst;cases hU:Qey bits (at_+105) with
 | error e =>
  rw [hU] at hE;have he:=Qnz hU;unfold exV;refine Qs ?_;apply hK;clear hK;refine VS [0,1,2,10,11,12,13,42] ?_;refine Qaf rfl rfl (fun h=>?_) (fun h=>by simp at h;exact absurd h he);refine VS [6,7,8,9] ?_;refine VC_ret (Qjc rfl rfl rfl rfl rfl ⟨hH2,?_⟩);rw [hE];rfl
 | ok u =>
  rw [hU] at hE;obtain ⟨u1,u2,u3⟩:=Qp9 hU;obtain ⟨u,at2⟩:=u;simp only at hE u1 u2 u3;unfold exV;refine Qs ?_;apply hK;clear hK;refine VS [0,1,2,10,11,12,13,42] ?_;refine Qaf rfl rfl (fun h=>by simp at h) (fun h=>VC_skip ?_);have hpt:=fun w=>Quj s at2 (u.length+2) (by omega) (by omega) (by omega) w;rw [hbits] at hpt;refine VQ [0,1,2,10,11,12,13,14] fun K hK=>?_;(repeat first | refine Qo ?_ | refine Qp ?_);rw [show ((u.length:Int)+2)=((u.length+2:Nat):Int) by push_cast;rfl];refine MemK_call Tryz.call89 ?_;refine Qs ?_;refine Yk (hpt w3) ?_;cases hP:Qel bits at2 (u.length+2) with
  | error e =>
   rw [hP] at hE;have he:=Qnv hP;rintro v w4 ⟨hHs,rfl⟩;have hH3:=hH2.call0 hHs;simp only [Yl] at hH3;clear hH2 hHs;refine Qao (.agg #[.slice none 0 0,.slice none 0 0]) (by kernel_rfl) ?_;refine Qs ?_;have hH4:=hH3.box 70 (Qam none 0 0 none 0 0);have hpl:[Xh none 0 0,Xh none 0 0]=Qam none 0 0 none 0 0:=rfl;rw [hpl];generalize w4.alloc (Yv (Qam none 0 0 none 0 0).toArray 70)=w5 at *;generalize w4.heap.size=gp at *;refine Qaa ?_;refine Qs ?_;refine Qae hH4 0 (vs:=Qam none 0 0 none 0 0) rfl rfl (by kernel_rfl) (by simp [Qam]) (Qb0 _ _ _ _ _ _) fun w6 hH5=>?_;apply hK;clear hK;refine VS [0,1,2,10,11,12,13,14,55] ?_;refine Qaf rfl rfl (fun h=>?_) (fun h=>by simp at h;exact absurd h he);refine VS [6,7,8,9] ?_;refine VC_ret (Qjc rfl rfl rfl rfl rfl ⟨hH5.sub (by simp),?_⟩);rw [hE];rfl
  | ok p =>
   rw [hP] at hE;obtain ⟨m1,m2,m3⟩:=Qp2 (by omega) hP;obtain ⟨⟨T,P⟩,at3⟩:=p;simp only at hE m1 m2 m3;rintro v w4 ⟨pv,hHs,hpa,rfl⟩;have hH3:=hH2.call0 hHs;simp only [Yl] at hH3;clear hH2 hHs;obtain ⟨ta,tc,pa,pc,us,rfl,_⟩:=id hpa;have hpv:Ug #[.slice ta T.length tc,.slice pa P.length pc]=.agg (Qam ta T.length tc pa P.length pc).toArray:=rfl;simp only at hpa;rw [hpv] at hpa ⊢;refine Qs ?_;refine Qao (.agg #[.slice none 0 0,.slice none 0 0]) (by kernel_rfl) ?_;refine Qs ?_;have hHz:=(Yx w4).box 70 (Qam none 0 0 none 0 0);have hpl:[Xh none 0 0,Xh none 0 0]=Qam none 0 0 none 0 0:=rfl;rw [hpl];generalize w4.alloc (Yv (Qam none 0 0 none 0 0).toArray 70)=w5 at *;generalize w4.heap.size=gp at *;refine Qaa ?_;refine Qs ?_;refine Qae hHz 0 (vs:=Qam ta T.length tc pa P.length pc) rfl rfl (by kernel_rfl) (by simp [Qam]) (Qb0 _ _ _ _ _ _) fun w6 hHy=>?_;have hHx:Heap w4 [] w6 [Ym gp 70 (Qam ta T.length tc pa P.length pc)]:=hHy;have hH4:=hH3.call0 hHx;simp only [Y3] at hH4;have hpa2:=hpa.keep hHx;clear hHz hHy hHx hH3 hpa;apply hK;clear hK;refine VS [0,1,2,10,11,12,13,14,55] ?_;refine Qaf rfl rfl (fun h=>by simp at h) (fun h=>VC_skip ?_);have hgt:=Qxe _ T P m1 s at3 (by omega) (by omega) w6 hpa2;rw [hbits] at hgt;refine VQ [1,2,10,11,12,13,15] fun K hK=>?_;refine ⟨Qam ta T.length tc pa P.length pc,⟨rfl,Qay (hH4.at 0 rfl)⟩,?_⟩;refine MemK_call Tryz.call90 ?_;refine Qs ?_;refine Yk hgt ?_;cases hG:Qgw T bits ((T.getD 0 []).length - 1) P at3 with
   | error e =>
    rw [hG] at hE;have he:=Qsx _ _ _ hG;rintro v w7 ⟨hHs,rfl⟩;have hH5:=hH4.call0 hHs;apply hK;clear hK;refine VS [1,2,10,11,12,13,15,66] ?_;refine Qaf rfl rfl (fun h=>?_) (fun h=>by simp at h;exact absurd h he);refine VS [6,7,8,9] ?_;refine VC_ret (Qjc rfl rfl rfl rfl rfl ⟨hH5.sub (by simp),?_⟩);rw [hE];rfl
   | ok q =>
    rw [hG] at hE;obtain ⟨n1,n2,n3,n4,n5,n6⟩:=m1;obtain ⟨g1,g2,g3⟩:=Qxr (N:=(T.getD 0 []).length) (fun t ht=>(n5 _ (by rw [Ye,Yd ht];exact X9 ht)).1) _ _ _ n6 (by omega) hG;obtain ⟨q,at4⟩:=q;simp only at hE g1 g2 g3;rintro v w7 ⟨aq,cq,hHs,rfl⟩;have hH5:=hH4.call0 hHs;simp only [Y3] at hH5;clear hH4 hHs hgt hpa2;refine Qs ?_;apply hK;clear hK;refine VS [1,2,10,11,12,13,15,66] ?_;refine Qaf rfl rfl (fun h=>by simp at h) (fun h=>VC_skip ?_);have hup:=fun w h=>Quu u q row most aq cq (by omega) (by omega) (fun x hx=>by have:=g1 x hx;omega) (Y7 (by omega) (by omega)) hm w h;have hue:=QK3 u q row most;have hul:=QB9 u q row most;generalize unpS u q row most=X at *;obtain ⟨txt,e⟩:=X;simp only at hE hue hul hup;refine VQ [1,10,12,16] fun K hK=>?_;refine MemK_call Tryz.call91 ?_;refine Qs ?_;refine Yk (hup w7 (Qaq (hH5.at 0 rfl))) ?_;rintro v w8 ⟨hHs,rfl⟩;have hH6:=hH5.call0 hHs;simp only [Yf] at hH6;clear hH5 hHs hup;apply hK;clear hK;refine VQ [1,10,12,16,83] fun K hK=>?_
    suffices out:∀ b:Bool,∀ w9,Heap w [] w9 []->(b=true ↔ e=0/\Qa9 txt≠sum)->K [(1,.int .i64 at4),(10,.int .u32 sum),(12,.int .i64 e),(16,Str txt),(83,.bool b)] w9 by
     refine ⟨fun h=>?_,fun h=>out _ _ (hH6.sub (by simp)) (by simp at h ⊢;intro h';exact absurd h' h)⟩;refine MemK_call Tryz.call11 ?_;refine Qs ?_;refine Yk (Qmb txt w8 (by omega)) ?_;rintro v w9 ⟨hHs,rfl⟩;have hH7:=hH6.call0 hHs;refine Qs ?_;exact out _ _ (hH7.sub (by simp)) (by simp [h];omega)
    intro b w9 hH7 hb;apply hK;clear hK;(repeat refine Qax ?_);refine Qdl [1,10,12,16] (fun e' w'=>∃ x:Int,Is e' [(1,.int .i64 at4),(10,.int .u32 sum),(12,.int .i64 x),(16,Str txt)]/\Is w' w9/\x=if b=true then 121 else e) ?_ ?_
    ·
     refine Vi (fun h=>?_) (fun h=>?_)
     ·
      refine VS [1,10,12,16] ?_;refine Qab ?_;refine Qs ?_;exact ⟨121,rfl,rfl,by simp [h]⟩
     refine VC_skip (Qab ?_);refine Qs ?_;exact ⟨e,rfl,rfl,by simp [h]⟩
    rintro e' w' ⟨x,rfl,rfl,hx⟩;refine VS [1,10,12,16,85] ?_;refine VD (fun h=>?_) (fun h=>VC_skip ?_)
    ·
     refine VS [6,7,8,9] ?_;refine VC_ret (Qjc rfl rfl rfl rfl rfl ⟨hH7,?_⟩);rw [hE];by_cases hb2:b=true
     ·
      have h2:=hb.1 hb2;rw [if_pos hb2] at hx;rw [if_neg (by simp [h2.1]),if_pos h2.2,hx];rfl
     rw [if_neg hb2] at hx;rw [if_pos (by rw [<- hx];exact h),hx];rfl
    refine VS [6,7,8,9] ?_;refine VC_ret (Qjc rfl rfl rfl rfl rfl ⟨hH7,?_⟩);have hb2:¬ b=true:=fun hb2=>by rw [if_pos hb2] at hx;omega
    rw [if_neg hb2] at hx;have he0:e=0:=by omega
    rw [hE,if_neg (by simp [he0]),if_neg (fun hc=>hb2 (hb.2 ⟨he0,hc⟩))];rfl
theorem QHv (out:List UInt8) (same:Nat) (c:UInt8) (s:List UInt8) (h:same≠4) (hl:out.length < 262144) :
  decS out same (c::s)=decS (out++[c]) (if 0 < same/\out.getLastD 0=c then same+1 else 1) s:=by
 rw [decS,if_neg h,if_neg (by omega)]
theorem Qot (out:List UInt8) (c:UInt8):(out++[c]).getLastD 0=c:=by simp
theorem QCa (b:UInt8) (s:List UInt8):∀ (m j:Nat) (out:List UInt8),1<=j->j+m<=4->out.getLastD 0=b->out.length+m<=262144 ->
  decS out j (Ya m b++s)=decS (out++Ya m b) (j+m) s
 | 0,j,out,_,_,_,_=>by simp
 | m+1,j,out,h1,h2,h3,h4=>by
  rw [Xv,Y5,QHv _ _ _ _ (by omega) (by omega),if_pos ⟨by omega,h3⟩,
   QCa b s m (j+1) (out++[b]) (by omega) (by omega) (Qot _ _) (by simp;omega),Yj]
  rw [show j+1+m=j+(m+1) by omega];rfl
theorem QHw (b:UInt8) (s out:List UInt8) (m same:Nat) (h1:1<=m) (h2:m<=4) (hs:same<=3) (hb:0 < same->out.getLastD 0≠b) (hl:out.length+m<=262144) :
  decS out same (Ya m b++s)=decS (out++Ya m b) m s:=by
 obtain ⟨m,rfl⟩:∃ k,m=k+1:=⟨m - 1,by omega⟩
 rw [Xv,Y5,QHv _ _ _ _ (by omega) (by omega),if_neg (fun h=>hb h.1 h.2),
  QCa b s m 1 (out++[b]) (by omega) (by omega) (Qot _ _) (by simp;omega),Yj,Nat.add_comm 1 m]
 rfl
theorem Qxx (b:UInt8):∀ (l:List UInt8) (n:Nat),n<=lead b l->l.take n=Ya n b
 | [],n,h=>by simp [lead] at h;subst h;rfl
 | c::l,0,_=>rfl
 | c::l,n+1,h=>by
  simp only [lead] at h;by_cases hc:c=b
  ·
   rw [if_pos hc] at h;rw [Yr,Qxx b l n (by omega),hc];rfl
  rw [if_neg hc] at h;omega
theorem Quv (b:UInt8) (l:List UInt8) (n:Nat) (h:n<=Qdj (b::l)):(b::l).take n=Ya n b:=by
 simp only [Qdj] at h;cases n with
 | zero=>rfl
 | succ n=>rw [Yr,Qxx b l n (by omega)];rfl
theorem QHx (b:UInt8) (l:List UInt8) (h:Qdj (b::l) < 255):(b::l)[Qdj (b::l)]? ≠ some b:=by
 simp only [Qdj] at h ⊢;rw [show min 255 (lead b l+1)=lead b l+1 by omega];exact QKt b l
theorem QPi:∀ (f:Nat) (l out:List UInt8) (same:Nat),l.length<=f->out.length+l.length<=262144->same<=3->(0 < same->∀ b,l[0]? = some b->out.getLastD 0≠b) ->
  decS out same (enc l)=(out++l,0):=by
 intro f
 induction f with
 | zero =>
  intro l out same h1 h2 h3 h4;have:l=[]:=Y0 (by omega);subst this;rw [Qfz,decS,if_neg (by omega),Yl]
 | succ f ih =>
  intro l out same h1 h2 h3 h4;cases l with
  | nil=>rw [Qfz,decS,if_neg (by omega),Yl]
  | cons b l =>
   have hp:=Qed (b::l) (by simp);have hle:=Qi2 (b::l);have htk:=Quv b l (Qdj (b::l)) (Xb _);have htk4:=Quv b l 4;have hend:=QHx b l;rw [Qi3 (b::l) (by simp)];generalize Qdj (b::l)=n at *;have hd:(b::l).take n++(b::l).drop n=b::l:=List.take_append_drop _ _;rw [htk] at hd;have hdl:((b::l).drop n).length=(b::l).length - n:=Xi;simp only [Ys] at h1 h2 hle hdl;have h4':0 < same->out.getLastD 0≠b:=fun h=>h4 h b rfl;by_cases hn:n < 4
   ·
    rw [Qen,if_pos hn,htk,QHw b _ out n same hp (by omega) h3 h4' (by omega),
     ih _ (out++Ya n b) n (by omega) (by simp only [Yn,Xl];omega) (by omega) ?_,Yj,hd]
    intro _ c hc hlast
    have e:(out++Ya n b).getLastD 0=b:=by
     obtain ⟨k,rfl⟩:∃ k,n=k+1:=⟨n - 1,by omega⟩;rw [List.replicate_succ',<- Yj,Qot]
    rw [e] at hlast;rw [X0,Nat.add_zero] at hc;exact hend (by omega) (by rw [hc,hlast])
   rw [Qen,if_neg hn,htk4 (by omega),Yj,QHw b _ out 4 same (by omega) (by omega) h3 h4' (by omega)];rw [Y3,decS,if_pos rfl];have e1:(Y4 (n - 4)).toNat=n - 4:=by simp;omega
   have e2:(out++Ya 4 b).getLastD 0=b:=by
    rw [show Ya 4 b=Ya 3 b++[b] from rfl,<- Yj,Qot]
   rw [e1,e2,if_neg (by simp only [Yn,Xl];omega),
    ih _ _ 0 (by omega) (by simp only [Yn,Xl];omega) (by omega) (fun h=>by omega)]
   rw [Yj,Yj,<- Yj (Ya 4 b),Xn,show 4+(n - 4)=n by omega,hd]
theorem QEo (l:List UInt8) (h:l.length<=262144):decS [] 0 (enc l)=(l,0):=by
 have:=QPi l.length l [] 0 (Xb _) (by simpa using h) (by omega) (fun h=>by omega);simpa using this
def Ahead (out:List UInt8) (same:Nat) (s:List UInt8):Prop:=same<=3/\(0 < same->same+lead (out.getLastD 0) s<=3)
theorem Ahead.zero (out s:List UInt8):Ahead out 0 s:=⟨by omega,fun h=>by omega⟩
set_option maxHeartbeats 4000000
set_option maxHeartbeats 4000000
set_option maxHeartbeats 4000000
theorem Qxy (n:Int) (w:World) (hn:0<=n/\n<=9) :
  Does Yi 8 #[.int .i64 n] w fun v w'=>w'=w/\v=.int .i64 (min (n * 100000) 262144):=by
 refine En [.int .i64 n] 6 Tryz.func8 ?_;refine VS [0] ?_;refine VS [2] ?_;exact VC_ret (VX_ret1 rfl rfl ⟨rfl,rfl⟩)
def badT (i:Nat) (c:UInt8):Prop:=(i < 3/\c.toNat≠(([66,90,104]:List UInt8).getD i 0).toNat)∨(i=3/\(c.toNat < 49∨57 < c.toNat))
instance (i:Nat) (c:UInt8):Decidable (badT i c):=by unfold badT;infer_instance
def hdT (s:List UInt8) (a:Nat):Nat->Nat->Nat×Nat
 | _,0=>((s.getD (a+3) 0).toNat - 48,0)
 | i,k+1=>if s.length<=a+i then (0,10) else if badT i (s.getD (a+i) 0) then (0,130) else hdT s a (i+1) k
theorem QHy (s:List UInt8) (a:Nat) (w:World) (ha:a<=s.length) (hs:s.length<=100000000000000) :
  Does Yi 52 #[Str s,.int .i64 a] w fun v w'=>w'=w/\v=.tuple #[.int .i64 (hdT s a 0 4).1,.int .i64 (hdT s a 0 4).2]:=by
 generalize hres:hdT s a 0 4=res;refine En [Str s,.int .i64 a] 49 Tryz.func52 ?_;refine VS [0,1] ?_;refine VS [0,1,8] ?_;refine Qac ?_;refine Qad [0,1,8] (fun m e w'=>∃ (i:Nat),Is e [(0,Str s),(1,.int .i64 a),(8,.int .i64 i)]/\Is w' w/\i<=4/\hdT s a i (4 - i)=res/\(0 < i->a+i<=s.length)/\(i=4->49<=(s.getD (a+3) 0).toNat/\(s.getD (a+3) 0).toNat<=57)/\m=4 - i) 4 ?_ ?_
 ·
  refine Qs ?_;exact ⟨0,rfl,rfl,by omega,hres,by omega,by omega,rfl⟩
 rintro m e w' ⟨i,rfl,rfl,hi,hr,hle,hlv,rfl⟩;refine VS [0,1,8,9] ?_;(repeat refine Qax ?_);refine VD (fun h=>?_) (fun h=>?_)
 ·
  refine VC_skip ?_;refine VB ?_;obtain ⟨j,hj⟩:∃ j,4 - i=j+1:=⟨3 - i,by omega⟩;rw [hj,hdT] at hr;refine VS [0,1,6,8] ?_;refine VS [0,1,6,8,16] ?_;refine VD (fun h=>?_) (fun h=>VC_skip ?_)
  ·
   rw [if_pos (by omega)] at hr;subst hr;refine VS [4,5] ?_;exact VC_ret (Qav rfl rfl rfl ⟨rfl,rfl⟩)
  rw [if_neg (by omega)] at hr;refine VS [0,1,6,7,8] ?_;generalize hc:s.getD (a+i) 0=c at *;refine VQ [0,1,8,41] fun K hK=>?_
  suffices out:∀ b:Bool,(b=true ↔ badT i c)->K [(0,Str s),(1,.int .i64 a),(8,.int .i64 i),(41,.bool b)] w' by
   unfold badT at out;generalize hz:(([66,90,104]:List UInt8).getD i 0).toNat=z at *;refine ⟨fun h=>⟨⟨by omega,by simp only [Ys,List.length_nil];omega⟩,fun h2=>⟨fun h3=>by omega,fun _=>out _ (iff_of_false (by simp) (by omega))⟩,fun h2=>out _ (iff_of_true rfl (by omega))⟩,fun h=>⟨fun h3=>⟨fun h4=>out _ ?_,fun h4=>out _ (iff_of_true rfl (by omega))⟩,fun h3=>out _ (iff_of_false (by simp) (by omega))⟩⟩;rw [decide_eq_true_eq];omega
  intro b hb;apply hK;clear hK;refine Vi (fun h=>?_) (fun h=>VC_skip ?_)
  ·
   rw [if_pos (hb.1 h)] at hr;subst hr;refine VS [4,5] ?_;exact VC_ret (Qav rfl rfl rfl ⟨rfl,rfl⟩)
  have hnb:¬ badT i c:=fun h'=>by rw [hb.2 h'] at h;cases h
  rw [if_neg hnb] at hr;refine Qaj ?_;refine VS [0,1,8] ?_;refine Qab ?_;refine Qs ?_;refine ⟨4 - (i+1),by omega,i+1,rfl,rfl,by omega,?_,by omega,?_,rfl⟩
  ·
   rw [show 4 - (i+1)=j by omega];exact hr
  intro h4;obtain rfl:i=3:=by omega
  rw [hc];unfold badT at hnb;omega
 obtain rfl:i=4:=by omega
 have h1:=hle (by omega);have h2:=hlv rfl;rw [show 4 - 4=0 from rfl,hdT] at hr;subst hr;refine Qag rfl ?_;refine VS [4,5] ?_;rw [show (((s.getD (a+3) 0).toNat:Int) - 48) % 256=(((s.getD (a+3) 0).toNat - 48:Nat):Int) by omega];exact VC_ret (Qav rfl rfl rfl ⟨rfl,rfl⟩)
theorem Qqc (s:List UInt8) (a n:Nat) (w:World) (ha:a<=8 * s.length) (hs:s.length<=100000000000000) (hn:n<=60) :
  Does Yi 53 #[Str s,.int .i64 a,.int .i64 n] w fun v w'=>Heap w [] w' [] /\
   v=if 8 * s.length < a+n then .tuple #[.int .u64 0,.int .i64 10] else .tuple #[.int .u64 (numB (((Qap s).drop a).take n)),.int .i64 0]:=by
 refine En [Str s,.int .i64 a,.int .i64 n] 17 Tryz.func53 ?_;refine VS [0,1,2] ?_;refine VQ [2,8] fun K hK=>?_;refine MemK_call U4 ?_;refine Qs ?_;refine Yk (Qdt s a w (Y7 (by omega) (by omega)) (by omega)) ?_;rintro v w2 (⟨hbad,_⟩ | ⟨_,gr,gs,hH,rfl⟩)
 ·
  omega
 rw [Yo] at hH;(try refine Qs ?_);apply hK;clear hK;refine VQ [6,7] fun K hK=>?_;refine MemK_call Ua ?_;refine Qs ?_;refine Yk (Qex gr gs s a n w2 (by omega) (by omega) (by omega) (hH.focus 0 rfl)) ?_;rintro v w3 (⟨h1,rfl,rfl⟩ | ⟨h1,hH2,rfl⟩)
 ·
  (try refine Qs ?_);apply hK;clear hK;exact VC_ret (Qav rfl rfl rfl ⟨hH.sub (by simp),by rw [if_pos h1];rfl⟩)
 have hH3:=hH.call1 0 rfl hH2;(try refine Qs ?_);apply hK;clear hK;exact VC_ret (Qav rfl rfl rfl ⟨hH3.sub (by simp),by rw [if_neg (by omega)];rfl⟩)
def goT (s:List UInt8) (room:Int):Nat->Nat->List UInt8->List Nat->Except Int (List UInt8×Nat)
 | 0,_,_,_=>.error 10
 | f+1,bit,out,sums =>
  if 8 * s.length < bit+48 then .error 10
  else if numB (((Qap s).drop bit).take 48)=25779555029136 then
   if 8 * s.length < bit+48+32 then .error 10
   else if numB (((Qap s).drop (bit+48)).take 32)≠Qb6 sums then .error 121
   else .ok (out,(bit+87) / 8)
  else if numB (((Qap s).drop bit).take 48)=54156738319193 then
   match Qoa s bit room with
   | .error e=>.error e
   | .ok r=>if 262144 < out.length+r.1.length then .error 3 else goT s room f r.2.2 (out++r.1) (sums++[r.2.1])
  else .error 130
def Qob (s:List UInt8) (a:Int):Except Int (List UInt8×Nat) :=
 if a < 0∨(s.length:Int) < a then .error 2
 else if (hdT s a.toNat 0 4).2≠0 then .error (hdT s a.toNat 0 4).2
 else goT s (min ((hdT s a.toNat 0 4).1 * 100000) 262144) (8 * s.length+1) (8 * (a.toNat+4)) [] []
def QCb (r:Except Int (List UInt8×Nat)):Value:=match r with
 | .ok r=>.tuple #[Str r.1,.int .i64 r.2,.int .i64 0]
 | .error e=>.tuple #[Str [],.int .i64 0,.int .i64 e]
theorem QPj {bits:List Bool}:∀ (r:List Bool) (i at_:Nat) (q:List UInt8×Nat),stGo bits r i at_=.ok q->at_<=q.2:=by
 intro r
 induction r with
 | nil=>intro i at_ q h;rw [stGo] at h;cases h;exact Xb _
 | cons b r ih =>
  intro i at_ q h;cases b with
  | false=>rw [stGo] at h;exact ih _ _ _ h
  | true =>
   rw [stGo] at h;split at h
   ·
    cases h
   cases hr:stGo bits r (i+1) (at_+16) with
   | error e=>rw [hr] at h;cases h
   | ok q' =>
    rw [hr] at h;cases h;have:=ih _ _ _ hr
    show at_<=q'.2
    omega
theorem QAl {bits:List Bool}{at_:Nat}{q:List UInt8×Nat} (h:Qey bits at_=.ok q):at_<=q.2:=by
 unfold Qey at h;split at h
 ·
  cases h
 cases hr:stGo bits ((bits.drop at_).take 16) 0 (at_+16) with
 | error e=>rw [hr] at h;cases h
 | ok q' =>
  rw [hr] at h;simp only at h;split at h
  ·
   cases h
  cases h;have:=QPj _ _ _ _ hr;omega
theorem QPk {bits:List Bool}{many:Nat}:∀ (k:Nat) (li:List Nat) (at_:Nat) (q:List Nat×Nat),ptGo bits many li k at_=.ok q->at_<=q.2:=by
 intro k
 induction k with
 | zero=>intro li at_ q h;rw [ptGo] at h;cases h;exact Xb _
 | succ k ih =>
  intro li at_ q h;rw [ptGo] at h;split at h
  ·
   cases h
  split at h
  ·
   cases h
  rename_i q' hr;cases h;have:=ih _ _ _ hr
  show at_<=q'.2
  omega
theorem Quw {bits:List Bool}{at_ n:Nat}{q:List Nat×Nat} (h:Qdb bits at_ n=.ok q):at_<=q.2:=by
 unfold Qdb at h;split at h
 ·
  cases h
 have:=(Que _ _ _ _ _ _ (Xb _) h).2.2;omega
theorem QPl {bits:List Bool}{n:Nat}:∀ (k at_:Nat) (q:List (List Nat)×Nat),ttGo bits n k at_=.ok q->at_<=q.2:=by
 intro k
 induction k with
 | zero=>intro at_ q h;rw [ttGo] at h;cases h;exact Xb _
 | succ k ih =>
  intro at_ q h;rw [ttGo] at h;split at h
  ·
   cases h
  rename_i q1 h1;split at h
  ·
   cases h
  split at h
  ·
   cases h
  rename_i q' hr;cases h;have:=ih _ _ hr;have:=Quw h1
  show at_<=q'.2
  omega
theorem QAm {bits:List Bool}{at_ n:Nat}{q:(List (List Nat)×List Nat)×Nat} (h:Qel bits at_ n=.ok q):at_<=q.2:=by
 unfold Qel at h;split at h
 ·
  cases h
 split at h
 ·
  cases h
 split at h
 ·
  cases h
 split at h
 ·
  cases h
 split at h
 ·
  cases h
 rename_i q1 h1;split at h
 ·
  cases h
 rename_i q' hr;cases h;have:=QPk _ _ _ _ h1;have:=QPl _ _ _ hr
 show at_<=q'.2
 omega
theorem QK4 {T:List (List Nat)}{bits:List Bool}{fin:Nat}:∀ (P:List Nat) (at_:Nat) (q:List Nat×Nat),at_<=bits.length->Qgw T bits fin P at_=.ok q->at_<=q.2:=by
 intro P
 induction P with
 | nil=>intro at_ q _ h;rw [Qgw] at h;cases h
 | cons p P ih =>
  intro at_ q ha h;rw [Qgw] at h;split at h
  ·
   cases h
  rename_i q1 h1;obtain ⟨_,_,h3,h4⟩:=Qxq _ _ _ ha h1;split at h
  ·
   cases h;exact h4
  split at h
  ·
   cases h
  rename_i q' hr;cases h;have:=ih _ _ h3 hr
  show at_<=q'.2
  omega
theorem QK5 {bits:List Bool}{at_:Nat}{most:Int}{r:List UInt8×Nat×Nat} (h:Qmg bits at_ most=.ok r) :
  at_+105<=r.2.2/\r.2.2<=bits.length/\r.1.length<=262144/\r.2.1 < 4294967296:=by
 unfold Qmg at h;split at h
 ·
  cases h
 rename_i h0;obtain ⟨_,b1,b2,b3,_⟩:=(QLt bits at_).resolve_right (fun hh=>h0 (by omega));rw [b2] at h;split at h
 ·
  cases h
 rename_i u hu;split at h
 ·
  cases h
 rename_i p hp;split at h
 ·
  cases h
 rename_i q hq;split at h
 ·
  cases h
 split at h
 ·
  cases h
 cases h;obtain ⟨u1,u2,u3⟩:=Qp9 hu;obtain ⟨m1,m2,m3⟩:=Qp2 (by omega) hp;obtain ⟨n1,n2,n3,n4,n5,n6⟩:=m1;obtain ⟨g1,g2,g3⟩:=Qxr (N:=(p.1.1.getD 0 []).length) (fun t ht=>(n5 _ (by rw [Ye,Yd ht];exact X9 ht)).1) _ _ _ n6 (by omega) hq;have e1:=QAl hu;have e2:=QAm hp;have e3:=QK4 _ _ _ (by omega) hq;exact ⟨by show at_+105<=q.2;omega,g3,QB9 _ _ _ _,b3⟩
theorem QHz {bits:List Bool}{at_:Nat}{most:Int}{e:Int} (h:Qmg bits at_ most=.error e):e≠0:=by
 unfold Qmg at h;split at h
 ·
  rename_i h0;cases h;exact_mod_cast h0
 split at h
 ·
  rename_i hu;cases h;exact Qnz hu
 split at h
 ·
  rename_i hp;cases h;exact Qnv hp
 split at h
 ·
  rename_i hq;cases h;exact Qsx _ _ _ hq
 split at h
 ·
  rename_i h0;cases h;exact h0
 split at h
 ·
  cases h;decide
 cases h
theorem QCc {s:List UInt8}{at_:Nat}{most:Int}{r:List UInt8×Nat×Nat} (h:Qoa s at_ most=.ok r) :
  at_+105<=r.2.2/\r.2.2<=8 * s.length/\r.1.length<=262144/\r.2.1 < 4294967296:=by
 unfold Qoa at h;split at h
 ·
  cases h
 rw [Yo] at h;have:=QK5 h
 rwa [Qaw] at this
theorem Qxz {s:List UInt8}{at_:Nat}{most:Int}{e:Int} (h:Qoa s at_ most=.error e):e≠0:=by
 unfold Qoa at h;split at h
 ·
  cases h;decide
 exact QHz h
set_option maxHeartbeats 4000000
theorem QSq {s:List UInt8}{a:Nat}:(hdT s a 0 4).2=0->1<=(hdT s a 0 4).1/\(hdT s a 0 4).1<=9/\a+4<=s.length:=by
 simp only [hdT,Nat.zero_add,Nat.reduceAdd]
 repeat' split
 all_goals intro h
 all_goals first | (simp at h;done) | skip
 rename_i h1 h2;unfold badT at h2;refine ⟨?_,?_,?_⟩ <;> omega
theorem Qqd (s:List UInt8) (a:Int) (w:World) (ha:I64 a) (hs:s.length<=1000000000000) :
  Does Yi 26 #[Str s,.int .i64 a] w fun v w'=>Heap w [] w' []/\v=QCb (Qob s a):=by
 have hbl:=Qaw s;generalize hres:Qob s a=res;unfold Qob at hres;refine En [Str s,.int .i64 a] 109 Tryz.func26 ?_;refine VS [0,1] ?_;refine Qoe ?_;refine VQ [0,1,26] fun K hK=>?_
 suffices out:∀ b:Bool,(b=true ↔ a < 0∨(s.length:Int) < a)->K [(0,Str s),(1,.int .i64 a),(26,.bool b)] w by
  (repeat' (first | exact out _ _ (by first | omega | (simp;done) | (simp;omega)) | exact out _ (by first | omega | (simp;done) | (simp;omega)) | refine ⟨fun _=>?_,fun _=>?_⟩ | refine Qo ?_))
 intro b hb;apply hK;clear hK;refine Vi (fun h=>?_) (fun h=>VC_skip ?_)
 ·
  rw [if_pos (hb.1 h)] at hres;subst hres;refine VS [4,5,6] ?_;exact VC_ret (Qcv rfl rfl rfl rfl ⟨Yx w,rfl⟩)
 have hg:¬ (a < 0∨(s.length:Int) < a):=fun hh=>by rw [hb.2 hh] at h;cases h
 rw [if_neg hg] at hres;clear hb h;obtain ⟨a,rfl⟩:∃ n:Nat,a=n:=⟨a.toNat,by omega⟩;rw [Yo] at hres;have hhd:=fun w=>QHy s a w (by omega) (by omega);have hok:=QSq (s:=s) (a:=a);generalize hdT s a 0 4=hd at *;obtain ⟨lev,e⟩:=hd;simp only at hres hhd hok;refine VQ [0,1,7,8] fun K hK=>?_;refine MemK_call Tryz.call52 ?_;refine Qs ?_;refine Yk (hhd w) ?_;rintro v w1 ⟨rfl,rfl⟩;(try refine Qs ?_);apply hK;clear hK;refine VS [0,1,7,8,34] ?_;refine VD (fun h=>?_) (fun h=>VC_skip ?_)
 ·
  rw [if_pos (by omega)] at hres;subst hres;refine VS [4,5,6] ?_;exact VC_ret (Qcv rfl rfl rfl rfl ⟨Yx w1,rfl⟩)
 obtain rfl:e=0:=by omega
 rw [if_neg (by simp)] at hres;obtain ⟨l1,l2,l3⟩:=hok rfl;clear hok hhd h hg;refine VS [0,1,7,9] ?_;refine VS [0,1,7,9,10] ?_;refine VS [0,7,9,10,11] ?_;(repeat refine Qax ?_);refine Qoc ?_;refine VB ?_
 refine Qad [0,7,9,10,11] (fun m e w'=>∃ (bit f c1 c2:Nat) (out:List UInt8) (sums:List Nat) (a1 a2:Option Addr),Is e [(0,Str s),(7,.int .i64 lev),(9,.slice a1 out.length c1),(10,.slice a2 sums.length c2),(11,.int .i64 bit)]/\Heap w1 [] w' [Yt 5 1 a1 out.length c1 (Qar out),Yt 41 1 a2 sums.length c2 (u32V sums)] /\
  goT s (min (lev * 100000) 262144) f bit out sums=res/\bit<=8 * s.length/\8 * s.length+1<=f+bit/\out.length<=262144/\sums.length<=bit/\(∀ x∈sums,x < 4294967296)/\m=8 * s.length - bit) (8 * s.length - 8 * (a+4)) ?_ ?_
 ·
  refine Qs ?_;exact ⟨8 * (a+4),_,0,0,[],[],none,none,by push_cast;rfl,((Yx w1).nilRow 41 1).nilRow 5 1,hres,by omega,by omega,by simp,by simp,by simp,rfl⟩
 clear hres;rintro m e w' ⟨bit,f,c1,c2,out,sums,a1,a2,rfl,hH,hres,hb1,hb2,ho,hsl,h32,rfl⟩;obtain ⟨f,rfl⟩:∃ k,f=k+1:=⟨f - 1,by omega⟩;rw [goT] at hres;refine VB ?_;refine VQ [0,7,9,10,11,12,13] fun K hK=>?_;refine MemK_call Tryz.call53 ?_;refine Qs ?_;refine Yk (Qqc s bit 48 w' hb1 (by omega) (by omega)) ?_;rintro v w2 ⟨hH2,rfl⟩;have hH3:=hH.call0 hH2;simp only [Yf] at hH3;clear hH hH2;by_cases hsh:8 * s.length < bit+48
 ·
  rw [if_pos hsh] at hres ⊢;subst hres;(try refine Qs ?_);apply hK;clear hK;refine VS [0,7,9,10,11,12,13,46] ?_;refine Qaf rfl rfl (fun h=>?_) (fun h=>by simp at h);refine VS [4,5,6] ?_;exact VC_ret (Qcv rfl rfl rfl rfl ⟨hH3.sub (by simp),rfl⟩)
 rw [if_neg hsh] at hres ⊢;generalize hv:numB (((Qap s).drop bit).take 48)=v at *
 have hv48:v < 2 ^ 48:=by
  rw [<- hv];exact Gk (Qes _) (Xc (by omega) (by rw [Xd];omega))
 (try refine Qs ?_);apply hK;clear hK;refine VS [0,7,9,10,11,12,13,46] ?_;refine Qaf rfl rfl (fun h=>by simp at h) (fun h=>VC_skip ?_);clear h;refine VS [0,7,9,10,11,48] ?_;refine VB ?_;refine VS [0,7,9,10,11,48,49] ?_;refine VD (fun h=>?_) (fun h=>?_)
 ·
  obtain rfl:v=25779555029136:=by omega
  rw [if_pos rfl] at hres;refine Qag rfl ?_;refine VQ [8,9,10,11,18] fun K hK=>?_;(repeat first | refine Qo ?_ | refine Qp ?_);rw [show ((bit:Int)+48)=((bit+48:Nat):Int) by push_cast;rfl];refine MemK_call Tryz.call53 ?_;refine Qs ?_;refine Yk (Qqc s (bit+48) 32 w2 (by omega) (by omega) (by omega)) ?_;rintro v w3 ⟨hHn,rfl⟩;have hH4:=hH3.call0 hHn;simp only [Yf] at hH4;clear hH3 hHn;by_cases hsh2:8 * s.length < bit+48+32
  ·
   rw [if_pos hsh2] at hres ⊢;subst hres;(try refine Qs ?_);apply hK;clear hK;refine VQ [8,9,11,99] fun K hK=>?_;refine ⟨fun h=>by simp at h,fun _=>?_⟩;apply hK;clear hK;refine Qaf rfl rfl (fun h=>by simp at h) (fun h=>VC_skip ?_);clear h;refine VS [8,9,11,101] ?_;refine Qaf rfl rfl (fun h=>?_) (fun h=>by simp at h);refine VS [4,5,6] ?_;exact VC_ret (Qcv rfl rfl rfl rfl ⟨hH4.sub (by simp),rfl⟩)
  rw [if_neg hsh2] at hres ⊢;generalize hv2:numB (((Qap s).drop (bit+48)).take 32)=v2 at *
  have hv32:v2 < 2 ^ 32:=by
   rw [<- hv2];exact Gk (Qes _) (Xc (by omega) (by rw [Xd];omega))
  have hcl:=Qfn sums h32;(try refine Qs ?_);apply hK;clear hK;refine VQ [8,9,11,99] fun K hK=>?_
  suffices out:∀ b:Bool,(b=true ↔ v2≠Qb6 sums)->K [(8,.int .i64 0),(9,.slice a1 out.length c1),(11,.int .i64 bit),(99,.bool b)] w3 by
   refine ⟨fun _=>?_,fun h=>by simp at h⟩;refine MemK_call Tryz.call14 ?_;refine Qs ?_;refine Yk (Qny sums a2 c2 w3 (Qaq (hH4.at 1 rfl)) h32 (by omega)) ?_;rintro v w4 ⟨rfl,rfl⟩;(try refine Qs ?_);exact out _ (by simp;omega)
  intro b hb;apply hK;clear hK;by_cases hs2:v2≠Qb6 sums
  ·
   rw [if_pos hs2] at hres;subst hres;refine Qaf rfl rfl (fun h=>?_) (fun h=>by rw [hb.2 hs2] at h;cases h);refine VS [8,9,11] ?_;refine VS [8,9,11,101] ?_;refine Qaf rfl rfl (fun h=>?_) (fun h=>by simp at h);refine VS [4,5,6] ?_;exact VC_ret (Qcv rfl rfl rfl rfl ⟨hH4.sub (by simp),rfl⟩)
  rw [if_neg hs2] at hres;subst hres;refine Qaf rfl rfl (fun h=>absurd (hb.1 h) hs2) (fun h=>VC_skip ?_);refine VS [8,9,11,101] ?_;refine Qaf rfl rfl (fun h=>by simp at h) (fun h=>VC_skip ?_);refine VQ [4,5,6] fun K hK=>?_;refine ⟨out,hH4.readsBytes 0 rfl,?_⟩;(try refine Qs ?_);(repeat refine Qo ?_);apply hK;clear hK;exact VC_ret (Qcv rfl rfl rfl rfl ⟨hH4.sub (by simp),by simp only [QCb];congr 5⟩)
 rw [if_neg (by omega)] at hres;refine VS [0,7,9,10,11,51] ?_;refine VD (fun h=>?_) (fun h=>?_)
 ·
  rw [if_pos (by omega)] at hres;clear hv hv48;generalize htk:Qoa s bit (min (lev * 100000) 262144)=tk at *;refine VQ [0,7,9,10,14,15,16,17] fun K hK=>?_;refine MemK_call Tryz.call8 ?_;refine Qs ?_;refine Yk (Qxy lev w2 (by omega)) ?_;rintro v w3 ⟨rfl,rfl⟩;(try refine Qs ?_);refine MemK_call Tryz.call54 ?_;refine Qs ?_;refine Yk (Qrm s bit (min (lev * 100000) 262144) w3 (Y7 (by omega) (by omega)) (Y7 (by omega) (by omega)) (by omega)) ?_;rintro v w4 ⟨hHt,rfl⟩;have hH4:=hH3.call0 hHt;simp only [Yf] at hH4;clear hH3 hHt;rw [htk];cases tk with
  | error e =>
   have he:=Qxz htk;simp only at hres;subst hres;unfold QPh;(try refine Qs ?_);apply hK;clear hK;refine VQ [0,7,9,10,14,15,16,17,72] fun K hK=>?_
   suffices out:K [(0,Str s),(7,.int .i64 lev),(9,.slice a1 out.length c1),(10,.slice a2 sums.length c2),(14,Str []),(15,.int .u32 0),(16,.int .i64 0),(17,.int .i64 e),(72,.bool false)] w4 by
    refine ⟨fun h=>by omega,fun _=>out⟩
   apply hK;clear hK;refine Qaf rfl rfl (fun h=>by cases h) (fun h=>VC_skip ?_);refine VS [0,7,9,10,14,15,16,17,74] ?_;refine Qaf rfl rfl (fun h=>?_) (fun h=>by simp at h;omega);refine VS [4,5,6] ?_;exact VC_ret (Qcv rfl rfl rfl rfl ⟨hH4.sub (by simp),rfl⟩)
  | ok r =>
   obtain ⟨t,sum,to⟩:=r;obtain ⟨k1,k2,k3,k4⟩:=QCc htk;simp only at hres k1 k2 k3 k4;unfold QPh;(try refine Qs ?_);apply hK;clear hK;refine VQ [0,7,9,10,14,15,16,17,72] fun K hK=>?_
   suffices out:∀ b:Bool,(b=true ↔ 262144 < out.length+t.length)->K [(0,Str s),(7,.int .i64 lev),(9,.slice a1 out.length c1),(10,.slice a2 sums.length c2),(14,Str t),(15,.int .u32 sum),(16,.int .i64 to),(17,.int .i64 0),(72,.bool b)] w4 by
    refine ⟨fun _=>?_,fun h=>by simp at h⟩;refine ⟨Y7 (by omega) (by omega),?_⟩;exact out _ (by simp;omega)
   intro b hb;apply hK;clear hK;by_cases hbig:262144 < out.length+t.length
   ·
    rw [if_pos hbig] at hres;subst hres;refine Qaf rfl rfl (fun h=>?_) (fun h=>by rw [hb.2 hbig] at h;cases h);refine VS [0,7,9,10,14,15,16,17] ?_;refine VS [0,7,9,10,14,15,16,17,74] ?_;refine Qaf rfl rfl (fun h=>?_) (fun h=>by simp at h);refine VS [4,5,6] ?_;exact VC_ret (Qcv rfl rfl rfl rfl ⟨hH4.sub (by simp),rfl⟩)
   rw [if_neg hbig] at hres;refine Qaf rfl rfl (fun h=>absurd (hb.1 h) hbig) (fun h=>VC_skip ?_);clear hb h;refine VS [0,7,9,10,14,15,16,17,74] ?_;refine Qaf rfl rfl (fun h=>by simp at h) (fun h=>VC_skip ?_);clear h;refine VQ [0,7,9,10,11] fun K hK=>?_;refine Qai ?_;refine Qs ?_;refine Qod hH4 0 rfl Yp zi5 Ur (fun h=>by simp;omega) fun a' cap' w5 hc' hH5=>?_;simp only [Yb] at hH5;(try refine Qs ?_);refine Qbb hH5 (u32V [sum]) (xs:=[.tmp 80]) Un sz41 rfl rfl rfl (by omega) ?_;refine Qs ?_;refine ⟨rfl,by simp [Y9],fun g w4 hH6=>?_⟩;(try refine Qs ?_);refine Qai ?_;refine Qs ?_;refine Qbn (zs:=#[.int .u32 0]) (bytes:=4) hH6 2 rfl Un (by kernel_rfl) rfl ⟨rfl,Qaq (hH6.at 0 rfl),41,Un⟩ (by simp [u32V];rfl) (fun h=>by omega) fun a'' cap'' w6 hc'' hH7=>?_;simp only [Yc,Yb] at hH7;(try refine Qs ?_);apply hK;clear hK;refine Qaj ?_;refine Qaj ?_;refine Qab ?_;refine Qs ?_;refine ⟨8 * s.length - to,by omega,to,f,cap',cap'',out++t,sums++[sum],a',a'',?_,?_,hres,by omega,by omega,by simp;omega,by simp;omega,?_,rfl⟩
   ·
    simp [Is]
   ·
    have:=hH7.sub (Xe _ _);simpa [u32V] using this
   intro x hx;rcases Xz.1 hx with hx | hx
   ·
    exact h32 x hx
   simp at hx;omega
 rw [if_neg (by omega)] at hres;subst hres;refine VS [4,5,6] ?_;exact VC_ret (Qcv rfl rfl rfl rfl ⟨hH3.sub (by simp),rfl⟩)
end Go.Proofs.YthcdlcdnchaoiaaGreat
