/- A program logic over the model, and what this program's functions do by it: part 6. No conditions: a library of lemmas. -/
import Derived.Test.YtfinjnahapbemaaGreatDoorK5
import Derived.Shelf.Strings.Repeat
import Derived.Test.YtfinjnahapbemaaGreatDoorChecked
open Nat (reduceEqDiff)
set_option linter.unusedSimpArgs false
set_option linter.unusedVariables false
set_option maxRecDepth 100000
open Go.Eng.CallK renaming mk->Ya
open List renaming nil_append->Yb,sublist_cons_self->Yf,length_append->Yg,nil_sublist->Yi,getElem?_eq_getElem->Yk,set_cons_zero->Yl,mem_of_getElem?->Yn,mem_append_right->Yo,mem_singleton->Yp,set_cons_succ->Yq,cons_append->Ys,mem_append->Yu,append_assoc->Yv,length_cons->Yy,length_drop->Y3,length_take->Y4,flatten_cons->Y5,eq_nil_of_length_eq_zero->Y7,mem_cons_of_mem->Y8,length_nil->Xb,append_nil->Xc,take_length->Xe,take_add_one->Xh,replicate->Xj,flatten_nil->Xk,length_pos_iff->Xl,length_map->Xr,mem_map->Xt,mem_cons_self->Xv,getElem?_eq_some_iff->Xx,length->Xy,length_eq_one_iff->X7,take_append_drop->X8,length_take_le->Ue,flatten_append->Uf
open Go.Value renaming oneCell'->Yc,cells->Yh,func->Ug,int->Ul
open Go.Proofs.Tryz renaming prog->Yd,underlying185->Yj,underlying69->Ym,underlying27->Yt,underlying61->Yw,underlying107->Y1,underlying186->Y2,call124->Y9,underlying9->Xa,call29->Xd,underlying79->Xi,underlying172->Xm,call110->Xn,underlying5->Xo,call27->Xp,call17->Xq,underlying70->X1,call48->X2,underlying3->X4,call52->X9,call72->Ua,call47->Ub,call46->Uc,call44->Ud,underlying105->Uh,call101->Ui,call112->Uj,underlying52->Uk,call73->Um,call87->Un,call30->Uo,call51->Up,call37->Uq,call38->Ur
open Go.Eng.Res renaming blk->Ye,row->Y0,obj->Xg
open Go.Eng.I64 renaming mk->Yr
open Nat renaming le_refl->Yx,zero_add->Xs,le_trans->X5
open Go.Eng.Heap renaming start->Yz,under->X6,nilRow->Us
open UInt8 renaming ofNat->Y6
open Go.Obj renaming cells->Xf,loop->Ut
open Go.Sem renaming run_bind->Xu
open Int renaming tmod_eq_emod_of_nonneg->Xw,toNat_natCast->Xz,toNat->X3
open Go.Result renaming andThen_ok->X0
namespace Go.Proofs.YtfinjnahapbemaaGreatDoor
open Go Go.Eng
theorem S3 {s:LB}{most:Int} (hs:s≠[]) (hm:1<=most):1<=fit s most/\fit s most<=s.length/\((enc (s.take (fit s most))).length:Int)<=most:=by
 obtain ⟨h1,h2,_,_⟩:=QAz s.length s most (Yx _);refine ⟨?_,h1,by omega⟩;rw [Qix s most hs];have:=Lx s hs;split <;> omega
def Nf:Nat->LB->Int->List (LB)
 | 0,_,_=>[]
 | f+1,s,most=>if s=[] then [] else s.take (fit s most)::Nf f (s.drop (fit s most)) most
theorem Qxa {most:Int} (hm:1<=most):∀ (f g:Nat) (s:LB),s.length<=f->s.length<=g->Nf f s most=Nf g s most:=by
 intro f
 induction f with
 | zero =>
  intro g s h1 h2;obtain rfl:s=[]:=Y7 (by omega);cases g with
  | zero=>rfl
  | succ g=>rw [Nf,Nf,if_pos rfl]
 | succ f ih =>
  intro g s h1 h2;cases g with
  | zero =>
   obtain rfl:s=[]:=Y7 (by omega);rw [Nf,Nf,if_pos rfl]
  | succ g =>
   rw [Nf,Nf];split
   ·
    rfl
   rename_i hne;have:=S3 hne hm;rw [ih g _ (by rw [Y3];omega) (by rw [Y3];omega)]
def C4 (s:LB) (most:Int):List (LB):=Nf s.length s most
theorem Vx (most:Int):C4 [] most=[]:=rfl
theorem Qej {s:LB}{most:Int} (hs:s≠[]) (hm:1<=most):C4 s most=s.take (fit s most)::C4 (s.drop (fit s most)) most:=by
 obtain ⟨n,hn⟩:∃ n,s.length=n+1:=⟨s.length - 1,by have:=Xl.2 hs;omega⟩;have:=S3 hs hm;rw [C4,hn,Nf,if_neg hs,C4]
 congr 1
 exact Qxa hm _ _ _ (by rw [Y3];omega) (Yx _)
theorem Qf7 {most:Int} (hm:1<=most):∀ (n:Nat) (s:LB),s.length<=n->(C4 s most).flatten=s/\(C4 s most).length<=s.length/\∀ p∈C4 s most,p≠[]/\p.length<=s.length/\((enc p).length:Int)<=most:=by
 intro n
 induction n with
 | zero =>
  intro s h;obtain rfl:s=[]:=Y7 (by omega);rw [Vx];simp
 | succ n ih =>
  intro s h;by_cases hs:s=[]
  ·
   subst hs;rw [Vx];simp
  obtain ⟨f1,f2,f3⟩:=S3 hs hm;obtain ⟨h1,h2,h3⟩:=ih (s.drop (fit s most)) (by rw [Y3];omega);rw [Y3] at h2 h3;rw [Qej hs hm];refine ⟨by rw [Y5,h1,X8],by rw [Yy];omega,fun p hp=>?_⟩;rcases List.mem_cons.1 hp with rfl | hp
  ·
   refine ⟨fun h0=>?_,by rw [Y4];omega,f3⟩;have:=congrArg Xy h0;rw [Y4,Xb] at this;omega
  obtain ⟨a,b,c⟩:=h3 p hp;exact ⟨a,by omega,c⟩
def PB (p:LB) (b:List Bool):Prop:=∃ σ,Ordered (enc p) σ/\b=Fq p σ
def Lr:List (LB)->List (List Bool)->Prop
 | [],[]=>True
 | p::ps,b::bs=>PB p b/\Lr ps bs
 | _,_=>False
theorem Qp9 {p:LB}{b:List Bool} (h:PB p b):∀ (ps:List (LB)) (bs:List (List Bool)),Lr ps bs->Lr (ps++[p]) (bs++[b])
 | [],[],_=>⟨h,trivial⟩
 | _::ps,_::bs,hh=>⟨hh.1,Qp9 h ps bs hh.2⟩
 | [],_::_,hh=>hh.elim
 | _::_,[],hh=>hh.elim
theorem V7:∀ (ps:List (LB)) (bs:List (List Bool)),Lr ps bs->bs.length=ps.length
 | [],[],_=>rfl
 | _::ps,_::bs,hh=>by rw [Yy,Yy,V7 ps bs hh.2]
 | [],_::_,hh=>hh.elim
 | _::_,[],hh=>hh.elim
theorem QLg {p:LB}{b:List Bool} (h:PB p b) (hp:p≠[]) (he:(enc p).length<=262144):b.length<=20000000:=by
 obtain ⟨σ,ho,rfl⟩:=h;obtain ⟨u1,u2⟩:=Pj (S2 hp);have hlen:=(V6 ho (S2 hp)).2.2.2.1;have hb:=Qd4 (Qdq ho (S2 hp) he);have hn:=Qeb (A7 (enc p));have hh:=Qdr p (σ.idxOf 0);unfold Fq;unfold I0 at hb;change (Ej (B1 (enc p) σ).1 (B1 (enc p) σ).2).length+(E1 (B1 (enc p) σ).1 (B1 (enc p) σ).2 (Cn (enc p) σ) 0).length<=_ at hb;simp only [Y5,Xk,Xc,Yg];unfold Dq at hb;omega
theorem Qi1:∀ (ps:List (LB)) (bs:List (List Bool)),Lr ps bs->(∀ p∈ps,p≠[]/\(enc p).length<=262144)->bs.flatten.length<=ps.length * 20000000
 | [],[],_,_=>by simp
 | p::ps,b::bs,hh,hp=>by
  have h1:=Qi1 ps bs hh.2 fun q hq=>hp q (by simp [hq]);obtain ⟨a1,a2⟩:=hp p (by simp);have h2:=QLg hh.1 a1 a2;rw [Y5,Yg,Yy];omega
 | [],_::_,hh,_=>hh.elim
 | _::_,[],hh,_=>hh.elim
def F7 (level:Nat) (bs:List (List Bool)) (sums:LN):List Bool :=
 Cr [66,90,104,Y6 (48+level)]++bs.flatten++A2 48 25779555029136++A2 32 (I6 sums)
def PackOk (s:LB) (level most:Int) (v:Value):Prop :=
 if level < 1∨9 < level∨most < 1∨min (level * 100000) 262144 < most then v=.tuple #[Ab [],.int .i64 2]
 else if 262144 < s.length then v=.tuple #[Ab [],.int .i64 3]
 else ∃ bs,Lr (C4 s most) bs/\v=.tuple #[Ab (Bj (F7 level.toNat bs ((C4 s most).map Ck))),.int .i64 0]
theorem QFt {p:LB}{b:List Bool} (h:PB p b) (hp:p≠[]) (hl:p.length<=262144) {bits:List Bool}{at_:Nat}{r:List Bool} (hd:bits.drop at_=b++r) {most:Int} (h0:((enc p).length:Int)<=most) (h1:most<=262144) :
  Wm bits at_ most=.ok (p,Ck p,at_+b.length):=by
 obtain ⟨σ,ho,rfl⟩:=h;have he:=Xl.2 (S2 hp);rw [Qsn ho hp hl (by omega) hd (by omega) h1,if_pos h0]
theorem Qqa {p:LB}{b:List Bool} (h:PB p b):∃ t,b=A2 48 54156738319193++t:=by
 obtain ⟨σ,_,rfl⟩:=h;rw [Qeg,P5];simp only [Yv];exact ⟨_,rfl⟩
theorem Qqb {s:LB}{room:Int} (hr1:room<=262144) {r:List Bool}:∀ (ps:List (LB)) (bs:List (List Bool)) (f bit:Nat) (out:LB) (sums:LN),Lr ps bs ->
  (∀ p∈ps,p≠[]/\p.length<=262144/\((enc p).length:Int)<=room)->out.length+ps.flatten.length<=262144->ps.length < f->bit<=8 * s.length->(∀ x∈sums,x < 4294967296) ->
  (Cr s).drop bit=bs.flatten++(A2 48 25779555029136++(A2 32 (I6 (sums++ps.map Ck))++r)) ->
  W1 s room f bit out sums=.ok (out++ps.flatten,(bit+bs.flatten.length+87) / 8)
 | [],[],f,bit,out,sums,_,_,_,hf,hb,h32,hd=>by
  obtain ⟨f,rfl⟩:∃ k,f=k+1:=⟨f - 1,by simp only [Xb] at hf;omega⟩;simp only [Xk,Yb,List.map_nil,Xc] at hd;obtain ⟨a1,a2,a3⟩:=Qy (n:=48) (by omega) (by decide) hd;obtain ⟨b1,b2,b3⟩:=Qy (n:=32) (by omega) (Qaq sums h32) a3;rw [In] at a1 b1;rw [W1,if_neg (by omega),a2,if_pos rfl,if_neg (by omega),b2,if_neg (by simp)];simp
 | p::ps,b::bs,f,bit,out,sums,hh,hp,ho,hf,hb,h32,hd=>by
  obtain ⟨f,rfl⟩:∃ k,f=k+1:=⟨f - 1,by simp only [Yy] at hf;omega⟩;obtain ⟨p1,p2,p3⟩:=hp p (by simp);simp only [Y5,Yg,Yy,List.map_cons,Yv] at hd ho hf;obtain ⟨t,ht⟩:=Qqa hh.1;have hd2:=hd;rw [ht,Yv] at hd2;obtain ⟨a1,a2,a3⟩:=Qy (n:=48) (by omega) (by decide) hd2;have htk:=QFt hh.1 p1 p2 hd p3 hr1;have hle:=congrArg Xy hd;rw [Y3,Yg,In] at hle;rw [In] at a1
  have hroom:1<=room:=by
   have he:=Xl.2 (S2 p1);omega
  rw [W1,if_neg (by omega),a2,if_neg (by decide),if_pos rfl,QGo,if_neg (by omega),Xz,htk];simp only
  rw [if_neg (by omega),Qqb (r:=r) hr1 ps bs f (bit+b.length) (out++p) (sums++[Ck p]) hh.2 (fun q hq=>hp q (by simp [hq])) (by rw [Yg];omega) (by omega) (by omega) (fun x hx=>by
    rcases Yu.1 hx with hx | hx
    ·
     exact h32 x hx
    simp only [Yp] at hx;subst hx;exact Qbe p)]
  ·
   simp only [Y5,Yv,Yg,Nat.add_assoc]
  rw [<- List.drop_drop,hd,List.drop_left];simp only [Yv,Ys,Yb]
 | [],_::_,_,_,_,_,hh,_,_,_,_,_,_=>hh.elim
 | _::_,[],_,_,_,_,hh,_,_,_,_,_,_=>hh.elim
theorem QAf {x y:LB}{level:Nat} (h1:1<=level) (h9:level<=9):Tu (x++([66,90,104,Y6 (48+level)]++y)) x.length 0 4=(level,0):=by
 have hg:∀ i,(x++([66,90,104,Y6 (48+level)]++y)).getD (x.length+i) 0=([66,90,104,Y6 (48+level)]++y).getD i 0:=by
  intro i;simp only [List.getD_eq_getElem?_getD];rw [List.getElem?_append_right (by omega)]
  congr 2
  omega
 have hl:∀ i,i < 4->¬ ((x++([66,90,104,Y6 (48+level)]++y)).length<=x.length+i):=by
  intro i hi;simp only [Yg,Yy];omega
 have hn:(Y6 (48+level)).toNat=48+level:=T1 (by omega);simp only [Tu,hg,Nat.reduceAdd];rw [if_neg (hl 0 (by omega)),if_neg (hl 1 (by omega)),if_neg (hl 2 (by omega)),if_neg (hl 3 (by omega))];rw [if_neg (by unfold Rt;simp),if_neg (by unfold Rt;simp),if_neg (by unfold Rt;simp),if_neg (by unfold Rt;simp [hn];omega)];simp only [hg,Ys,List.getD_cons_succ,List.getD_cons_zero,hn]
 congr 1
 omega
theorem Qsx {s x y:LB}{level:Nat}{most:Int}{bs:List (List Bool)} (h1:1<=level) (h9:level<=9) (hm:1<=most) (hm2:most<=min ((level:Int) * 100000) 262144) (hs:s.length<=262144) (hb:Lr (C4 s most) bs) :
  QA8 (x++(Bj (F7 level bs ((C4 s most).map Ck))++y)) x.length=.ok (s,x.length+(Bj (F7 level bs ((C4 s most).map Ck))).length):=by
 obtain ⟨c1,c2,c3⟩:=Qf7 hm s.length s (Yx _)
 obtain ⟨q,hq⟩:∃ q,Bj (F7 level bs ((C4 s most).map Ck))=[66,90,104,Y6 (48+level)]++q:=by
  unfold F7;rw [Yv,Yv,Qbl _ _ (by rw [In];simp),Qcz];exact ⟨_,rfl⟩
 have hbits:=Ni (F7 level bs ((C4 s most).map Ck));have htl:=Ls (F7 level bs ((C4 s most).map Ck))
 have hsl:(F7 level bs ((C4 s most).map Ck)).length=32+bs.flatten.length+80:=by
  unfold F7;simp only [Yg,C0,In,Yy,Xb]
 generalize hT:Bj (F7 level bs ((C4 s most).map Ck))=T at *;have hhd:=QAf (x:=x) (y:=q++y) h1 h9;rw [<- Yv [66,90,104,_],<- hq] at hhd;rw [QA8,if_neg (by simp;omega),Xz,hhd,if_neg (by simp)]
 rw [Qqb (r:=Xj (8 * (((F7 level bs ((C4 s most).map Ck)).length+7) / 8) - (F7 level bs ((C4 s most).map Ck)).length) false++Cr y) (by omega) (C4 s most) bs _ _ [] [] hb (fun p hp=>by
   obtain ⟨a1,a2,a3⟩:=c3 p hp;exact ⟨a1,by omega,by show _<=min ((level:Int) * 100000) 262144;omega⟩) (by rw [c1];simpa using hs) (by
   have:=V7 _ _ hb
   have:(C4 s most).length<=bs.flatten.length:=by
    have key:∀ (ps:List (LB)) (bs:List (List Bool)),Lr ps bs->ps.length<=bs.flatten.length:=by
     intro ps
     induction ps with
     | nil=>intro bs _;simp
     | cons p ps ih =>
      intro bs h;cases bs with
      | nil=>exact h.elim
      | cons b bs =>
       have h2:=ih bs h.2;obtain ⟨t,ht⟩:=Qqa h.1;rw [Y5,Yg,Yy,ht,Yg,C0];omega
    exact key _ _ hb
   simp only [Yg];omega) (by simp only [Yg];omega) (by simp) ?_]
 ·
  rw [c1];simp only [Yb]
  congr 2
  omega
 rw [W3,W3,show 8 * (x.length+4)=(Cr x).length+32 by rw [In];omega,<- List.drop_drop,List.drop_left,hbits];unfold F7;simp only [Yv];rw [List.drop_left' (by rw [In];rfl)];simp
def Pk (s T:LB):Prop:=∃ (level:Nat) (most:Int) (bs:List (List Bool)),(1<=level/\level<=9/\1<=most/\most<=min ((level:Int) * 100000) 262144/\s.length<=262144)/\Lr (C4 s most) bs/\T=Bj (F7 level bs ((C4 s most).map Ck))
theorem PackOk.pk {s:LB}{level most:Int}{v:Value} (h:PackOk s level most v) (h1:¬ (level < 1∨9 < level∨most < 1∨min (level * 100000) 262144 < most)) (hs:s.length<=262144) :
  ∃ T,Pk s T/\v=.tuple #[Ab T,.int .i64 0]:=by
 rw [PackOk,if_neg h1,if_neg (by omega)] at h;obtain ⟨bs,hb,rfl⟩:=h;exact ⟨_,⟨level.toNat,most,bs,by omega,hb,rfl⟩,rfl⟩
theorem Qk0 (level:Nat) (bs:List (List Bool)) (sums:LN):(F7 level bs sums).length=112+bs.flatten.length:=by
 unfold F7;simp only [Yg,C0,In,Yy,Xb];omega
theorem Pk.len {s T:LB} (h:Pk s T):14<=T.length/\T.length<=15+s.length * 2500000:=by
 obtain ⟨level,most,bs,hx,hb,rfl⟩:=h;obtain ⟨c1,c2,c3⟩:=Qf7 (most:=most) (by omega) s.length s (Yx _)
 have:=Qi1 _ _ hb fun p hp=>by
  obtain ⟨a,b,c⟩:=c3 p hp;exact ⟨a,by omega⟩
 rw [Ls,Qk0];omega
theorem Pk.take {s T:LB} (h:Pk s T) (x y:LB):QA8 (x++(T++y)) x.length=.ok (s,x.length+T.length):=by
 obtain ⟨level,most,bs,hx,hb,rfl⟩:=h;exact Qsx hx.1 hx.2.1 hx.2.2.1 hx.2.2.2.1 hx.2.2.2.2 hb
theorem QFu {s:LB}{most:Int} (hs:s≠[]) (hm:1<=most) (hl:((s.length+s.length / 4:Nat):Int)<=most):C4 s most=[s]:=by
 obtain ⟨h1,_,_,h4⟩:=QAz s.length s most (Yx _)
 have hf:fit s most=s.length:=by
  rcases h4 with h4 | h4
  ·
   exact h4
  have h5:=Qci (s.take (fit s most+1));have h6:(s.take (fit s most+1)).length<=s.length:=by rw [Y4];omega
  omega
 rw [Qej hs hm,hf,Xe,List.drop_length,Vx]
theorem Qsy {s:LB}{level most:Int}{v:Value} (h:PackOk s level most v) (h1:1<=level/\level<=9) (hm:most<=100000) (h2:((s.length+s.length / 4:Nat):Int)<=most) (h0:1<=most) (hl:s.length<=20000) :
  ∃ T,Pk s T/\v=.tuple #[Ab T,.int .i64 0]/\T.length<=s.length+s.length / 2+600:=by
 rw [PackOk,if_neg (by omega),if_neg (by omega)] at h;obtain ⟨bs,hb,rfl⟩:=h;refine ⟨_,⟨level.toNat,most,bs,by omega,hb,rfl⟩,rfl,?_⟩;rw [Ls,Qk0];by_cases hs:s=[]
 ·
  subst hs;rw [Vx] at hb;cases bs with
  | nil=>simp
  | cons b bs=>exact hb.elim
 rw [QFu hs h0 h2] at hb
 obtain ⟨b,rfl⟩:∃ b,bs=[b]:=by
  have:=V7 _ _ hb;cases bs with
  | nil=>cases this
  | cons b bs=>cases bs with
   | nil=>exact ⟨b,rfl⟩
   | cons c bs=>cases this
 obtain ⟨⟨σ,ho,rfl⟩,_⟩:=hb;have:=Qwy ho hs hl;simp only [Y5,Xk,Xc];omega
def P1 (c T:Bs):Prop:=∃ bs,Lr (C4 c 20000) bs/\T=Bj (F7 1 bs ((C4 c 20000).map Ck))
theorem Qh4:∀ (ps:List Bs) (bs cs:List (List Bool)),Lr ps bs->Lr ps cs->bs=cs
 | [],[],[],_,_=>rfl
 | p::ps,b::bs,c::cs,h,k=>by
  obtain ⟨⟨σ,ho,rfl⟩,h2⟩:=h;obtain ⟨⟨τ,hp,rfl⟩,k2⟩:=k;rw [ho.unique hp,Qh4 ps bs cs h2 k2]
 | [],_::_,_,h,_=>h.elim
 | [],[],_::_,_,k=>k.elim
 | _::_,[],_,h,_=>h.elim
 | _::_,_::_,[],_,k=>k.elim
theorem P1.unique {c T U:Bs} (h:P1 c T) (k:P1 c U):T=U:=by
 obtain ⟨bs,hb,rfl⟩:=h;obtain ⟨cs,hc,rfl⟩:=k;rw [Qh4 _ _ _ hb hc]
theorem P1.pk {c T:Bs} (h:P1 c T) (hc:c.length<=262144):Pk c T:=by
 obtain ⟨bs,hb,rfl⟩:=h;exact ⟨1,20000,bs,by omega,hb,rfl⟩
theorem P1.small {c T:Bs} (h:P1 c T) (hc:c.length<=8192):T.length<=c.length+c.length / 2+600:=by
 have hv:PackOk c 1 20000 (.tuple #[Ab T,.int .i64 0]):=by
  rw [PackOk,if_neg (by omega),if_neg (by omega)];obtain ⟨bs,hb,rfl⟩:=h;exact ⟨bs,hb,rfl⟩
 obtain ⟨U,hU,he,hl⟩:=Qsy hv (by omega) (by omega) (by omega) (by omega) (by omega);have:T=U:=by simpa [Ab] using he
 rw [this];exact hl
noncomputable def tS (c:Bs):Bs:=Classical.epsilon (P1 c)
theorem P1.tS {c T:Bs} (h:P1 c T):T=tS c:=h.unique (Classical.epsilon_spec ⟨T,h⟩)
abbrev paxW:Bs:=[112,97,120]
def L4 (p:Bs) (n:Nat):Bs :=
 match Iy p with
 | some q=>Ms q.1 q.2 48 n
 | none=>Ms [] paxW 120 (p.length+10)++(Kw (Mt p)++Ms [] (p.take 100) 48 n)
def Mu (p c T:Bs):Bs:=L4 p c.length++Kw T
theorem Qk1 {p:Bs} (h:E9 p=some p):p≠[]/\p.length<=120/\(0:UInt8) ∉ p:=by
 obtain ⟨h1,h2,h3⟩:=Qog h;refine ⟨?_,h2,fun h0=>?_⟩
 ·
  rintro rfl;exact (h3 [] (by simp [Bq,Lh])).1 rfl
 have:=List.all_eq_true.1 h1 0 h0
 revert this;decide
theorem Qk2 {p:Bs} (h:E9 p=some p) (n:Nat):(L4 p n).length=if Iy p=none then 1536 else 512:=by
 obtain ⟨h1,h2,h3⟩:=Qk1 h;rw [L4];cases hs:Iy p with
 | some q =>
  obtain ⟨a,b⟩:=q;obtain ⟨q1,q2,_⟩:=Qa6 hs h1;simp [Q3 q1 q2]
 | none =>
  have:=Qe7 hs;simp [Q3 (show ([]:Bs).length<=155 by simp) (show paxW.length<=100 by simp),Q3 (show ([]:Bs).length<=155 by simp) (Ue 100 p),Rc,Qdi];omega
theorem QFv {p c T:Bs} (h:E9 p=some p):(Mu p c T).length % 512=0/\(Mu p c T).length<=T.length+2047/\(T≠[]->512 < (Mu p c T).length)/\(Mu p c T).length=(if Iy p=none then 1536 else 512)+(Kw T).length:=by
 have hl:=Qk2 h c.length;have hp:=Rc T;have he:(Mu p c T).length=(if Iy p=none then 1536 else 512)+(Kw T).length:=by rw [Mu,Yg,hl]
 refine ⟨?_,?_,fun hT=>?_,he⟩
 ·
  rw [he,hp];split <;> omega
 ·
  rw [he,hp];split <;> omega
 have:=Xl.2 hT;rw [he,hp];split <;> omega
set_option maxHeartbeats 1000000
theorem bdH {KV:Value->Prop} (s0:ByteArray) (a b c:Int):Ca Yd 218 [(0,.string s0),(2,.int .u8 a),(1,.int .i64 b),(3,.int .i64 c)] KV=KV (.agg #[.string s0,.int .i64 b,.int .u8 a,.int .i64 c,.int .i64 0,.string ⟨#[]⟩,.string ⟨#[]⟩,.string ⟨#[]⟩,.int .i64 0,.int .i64 0]):=Cx (by kernel_rfl)
attribute [go_sem ↓] bdH
theorem Qmf (n:Nat) (w:World) (hn:n<=1000000):Does Yd 131 #[.int .i64 n] w fun v w'=>w'=w/\v=.int .i64 ((n+511) / 512 * 512:Nat):=by
 refine En [.int .i64 n] 8 Tryz.func131 ?_;refine VS [0] ?_;refine VQ [2] fun K hK=>?_;rw [show ((n:Int)+512 - 1) / 512 * 512=((n+511) / 512 * 512:Nat) by omega];refine ⟨Yr (by omega) (by omega),Yr (by omega) (by omega),by omega,by omega,Yr (by omega) (by omega),Yr (by omega) (by omega),?_⟩;apply hK;clear hK;exact Ae (Al rfl rfl ⟨rfl,rfl⟩)
theorem Qam (p pre nm data:Bs) (k:UInt8) (w:World) (hs:Iy p=some (pre,nm)) (hp:p≠[]) (hpl:p.length<=1000) (h0:(0:UInt8) ∉ p) (hk:k=48∨k=120) (hd:data.length<=262144) :
  Does Yd 101 #[Ab p,.int .u8 k.toNat,Ab data] w fun v w'=>Heap w [] w' []/\v=.tuple #[Ab (Ms pre nm k data.length++Kw data),.int .i64 0]:=by
 obtain ⟨q1,q2,q3,q4⟩:=Qa6 hs hp;refine En [Ab p,.int .u8 k.toNat,Ab data] 34 Tryz.func101 ?_;refine VS [0,1,2] ?_;refine VQ [2,8,9] fun K hK=>?_;refine Aa Tryz.call130 ?_;refine Qs ?_;refine Ya (Qwh p pre nm k data.length w hs hp hpl h0 hk (by omega)) ?_;rintro v w2 ⟨hH,rfl⟩;apply hK;clear hK;refine VS [2,8,9,20] ?_;refine Ai rfl rfl (fun h=>by simp at h) (fun h=>Ad ?_);have hl:=Q3 q1 q2 k data.length;refine VQ [6,7] fun K hK=>?_;refine Qo ?_;refine Aa Tryz.call131 ?_;refine Qs ?_;refine Ya (Qmf data.length w2 (by omega)) ?_;rintro v w3 ⟨rfl,rfl⟩;refine Qs ?_;rw [show (((data.length+511) / 512 * 512:Nat):Int) - data.length=(((512 - data.length % 512) % 512:Nat):Int) by omega];refine And.intro (Yr (by omega) (by omega)) ?_;refine Ew Ym Mv ?_;refine Qs ?_;refine ⟨(512 - data.length % 512) % 512,(512 - data.length % 512) % 512,⟨rfl,rfl,by omega,by omega,by omega⟩,?_⟩;obtain ⟨hH2,hrb⟩:=QAq w3 ((512 - data.length % 512) % 512) (by omega);generalize w3.alloc (Xf (Xj ((512 - data.length % 512) % 512) (Ul .u8 0)).toArray 5)=w1 at *;generalize w3.heap.size=gb at *;refine ⟨Cf ((512 - data.length % 512) % 512),hrb,?_⟩;refine And.intro (by rw [Yg,K2];omega) ?_;apply hK;clear hK;refine Ae (Bp rfl rfl rfl ⟨(hH.call0 hH2).sub (Yi _),?_⟩);rw [Kw];simp
abbrev tE:Nat:=43
def Qnb (p data:Bs):Value :=
 if E9 p=some p then (if 262144 < data.length then .tuple #[Ab [],.int .i64 3] else .tuple #[Ab (L4 p data.length++Kw data),.int .i64 0]) else .tuple #[Ab [],.int .i64 140]
abbrev QGq (p data:Bs):Value:=.agg #[Ab p,Ab data]
theorem Qdf {p:Bs} (h:p.length<=100):Iy p=some ([],p):=by rw [Iy,if_pos h]
theorem Qo2 {p:Bs}{q:Bs×Bs}{n:Nat} (h:Iy p=some q):L4 p n=Ms q.1 q.2 48 n:=by unfold L4;rw [h]
theorem Qo3 {p:Bs}{n:Nat} (h:Iy p=none):L4 p n=Ms [] paxW 120 (p.length+10)++(Kw (Mt p)++Ms [] (p.take 100) 48 n):=by unfold L4;rw [h]
theorem Qfk (p data:Bs) (w:World) (hT:Tb w) (hp:p.length<=1000000000) (hd:data.length<=1000000000000) :
  Does Yd 78 #[QGq p data] w fun v w'=>Heap w [] w' []/\v=Qnb p data:=by
 refine En [QGq p data] 65 Tryz.func78 ?_;refine VQ [1] fun K hK=>?_;refine Dl ?_;refine Qs ?_;have hH:=(Yz w).box tE [Ab p,Ab data];generalize w.alloc (Xf #[Ab p,Ab data] tE)=w1 at *;generalize w.heap.size=ge at *;apply hK;clear hK;have hc:∀ {w':World},Heap w [] w' [Ye ge tE [Ab p,Ab data]]->w'.cell? ⟨ge,0,none⟩=some (Ab p):=fun h=>Af (h.at 0 rfl) rfl;have hc1:∀ {w':World},Heap w [] w' [Ye ge tE [Ab p,Ab data]]->w'.cell? ⟨ge,1,none⟩=some (Ab data):=fun h=>Af (h.at 0 rfl) rfl;refine VQ [1,4] fun K hK=>?_;refine ⟨_,hc hH,?_⟩;refine Aa X9 ?_;refine Qs ?_;refine Ya (T3 p w1 hp) ?_;rintro v w2 ⟨hHx,rfl⟩;replace hH:=hH.call0 hHx;rw [Yb] at hH;clear hHx;apply hK;clear hK;rw [If,Qnb];by_cases hg:E9 p=some p
 ·
  rw [if_pos hg,if_pos hg];obtain ⟨n1,n2,n3⟩:=Qk1 hg;refine VS [1,4,18] ?_;refine Ai rfl rfl (fun h=>by simp at h) (fun h=>Ad ?_);clear h;refine VQ [1,23] fun K hK=>?_;refine ⟨_,hc1 hH,?_⟩;refine Qs ?_;apply hK;clear hK;refine VD (fun h=>?_) (fun h=>Ad ?_)
  ·
   rw [if_pos (by omega)];refine VS [2,3] ?_;exact Ae (Bp rfl rfl rfl ⟨hH.sub (Yi _),rfl⟩)
  rw [if_neg (by omega)];refine VQ [1,7] fun K hK=>?_;refine ⟨_,hc hH,?_⟩;refine Aa Tryz.call100 ?_;refine Qs ?_;refine Ya (Qfe p w2 (by omega)) ?_;rintro v w3 ⟨rfl,rfl⟩;rw [Qm9];cases hs:Iy p with
  | some q =>
   obtain ⟨pre,nm⟩:=q;refine Qs ?_;apply hK;clear hK;rw [Qo2 hs];refine VS [1,31] ?_;refine Ai rfl rfl (fun h=>?_) (fun h=>by simp at h);refine VQ [2,3] fun K hK=>?_;refine ⟨_,hc hH,?_⟩;refine ⟨_,hc1 hH,?_⟩;refine Aa Ui ?_;refine Qs ?_;refine Ya (Qam p pre nm data 48 w3 hs n1 (by omega) n3 (.inl rfl) (by omega)) ?_;rintro v w4 ⟨hHx,rfl⟩;apply hK;clear hK;exact Ae (Bp rfl rfl rfl ⟨(hH.call0 hHx).sub (Yi _),rfl⟩)
  | none =>
   have h100:=Qe7 hs;refine Qs ?_;apply hK;clear hK;rw [Qo3 hs];refine VS [1,31] ?_;refine Ai rfl rfl (fun h=>by simp at h) (fun h=>Ad ?_);refine VQ [1,8] fun K hK=>?_;refine ⟨_,hc hH,?_⟩;refine Qs ?_;refine C2 hH 2 [Ab pathW,Ab p] (xs:=[.tmp 42]) Tryz.underlying182 QGc rfl rfl rfl (by omega) (by omega) ?_;refine Qs ?_;refine ⟨rfl,by intro v hv;simp only [List.mem_cons,List.not_mem_nil,or_false] at hv;subst hv;rfl,fun ga w8 hE2=>?_⟩;refine Aa Tryz.call102 ?_;refine Qs ?_;refine Ya (Qwi p ga w8 (hT.heap hE2) (by have h:=Qmj (As (hE2.at 0 rfl)) rfl 0 [Ab pathW,Ab p] (fun j u hu=>by rw [Xs];exact hu);rwa [Qra] at h) h100 n2) ?_;rintro v w4 ⟨hHx,rfl⟩;replace hH:=(hE2.call0 hHx).sub (G':=[Ye ge tE [Ab p,Ab data]]) (by simp);clear hHx hE2;apply hK;clear hK;refine VQ [1,10] fun K hK=>?_;refine Aa Ui ?_;refine Qs ?_;refine Ya (Qam paxW [] paxW (Mt p) 120 w4 (Qdf (by simp)) (by simp) (by simp) (by simp) (.inr rfl) (by rw [Qdi];omega)) ?_;rintro v w5 ⟨hHx,rfl⟩;replace hH:=hH.call0 hHx;rw [Yb] at hH;clear hHx;apply hK;clear hK;refine VH _ (Ext.refl _) [10,12,13] [(0,true),(1,true),(2,true),(3,true),(4,true),(5,false),(6,true),(7,true),(8,true),(9,true),(10,true)] fun K hK=>?_;refine ⟨_,hc hH,?_⟩;refine Qs ?_;refine And.intro (by omega) ⟨_,hc1 hH,?_⟩;have hne:p.take (X3 100)≠[]:=fun hh=>by have:=congrArg Xy hh;rw [Y4,Xb] at this;omega
   have hl1:(p.take (X3 100)).length<=100:=Ue 100 p;refine Aa Ui ?_;refine Qs ?_;refine Ya (Qam (p.take (X3 100)) [] (p.take (X3 100)) data 48 w5 (Qdf hl1) hne (by omega) (fun hh=>n3 (List.mem_of_mem_take hh)) (.inl rfl) (by omega)) ?_;rintro v w6 ⟨hHx,rfl⟩;refine ⟨hHx.ext,?_⟩;replace hH:=hH.call0 hHx;rw [Yb] at hH;clear hHx;apply hK;clear hK;have g1:=Q3 (show ([]:Bs).length<=155 by simp) (show paxW.length<=100 by simp) 120 (Mt p).length;have g2:=Q3 (show ([]:Bs).length<=155 by simp) hl1 48 data.length;have g3:=Rc (Mt p);have g4:=Rc data;have g5:=Qdi p;refine VQ [2,3] fun K hK=>?_;refine And.intro (by simp only [Yg,g1,g2,g3,g4];omega) ?_;apply hK;clear hK;refine Ae (Bp rfl rfl rfl ⟨hH.sub (Yi _),?_⟩);rw [g5,show X3 100=100 from rfl];simp [Yv]
 rw [if_neg hg,if_neg hg];refine VS [1,4,18] ?_;refine Ai rfl rfl (fun h=>?_) (fun h=>by simp at h);refine VS [2,3] ?_;exact Ae (Bp rfl rfl rfl ⟨hH.sub (Yi _),rfl⟩)
set_option maxHeartbeats 4000000
abbrev Qth (l:Nat):Value:=.func (.yield l) #[] #[]
def Qxb (l gs gm:Nat) (most:Int) (w0:World) (B:LN) (PI:LB->List Res->Prop):Prop :=
 ∀ rest G w,rest≠[]->PI rest G->Heap w0 B w (Ye gs 9 [Ab rest]::Ye gm 3 [.int .i64 most]::G) ->
  YieldK Yd l [Ab (rest.take (fit rest most))] w fun v w'=>v=.bool true/\∃ G',PI (rest.drop (fit rest most)) G'/\Heap w0 B w' (Ye gs 9 [Ab rest]::Ye gm 3 [.int .i64 most]::G')
theorem Qju (l gs gm:Nat) (most:Int) (w0:World) (B:LN) (PI:LB->List Res->Prop) (hR:Qxb l gs gm most w0 B PI) (s:LB) (hs:s.length<=140737488355328) (hm:1<=most/\most<=262144)
  (hfit:∀ t:LB,t≠[]->1<=fit t most/\fit t most<=t.length) (G:List Res) (hG:PI s G) (w:World) (hH:Heap w0 B w (Ye gs 9 [Ab s]::Ye gm 3 [.int .i64 most]::G)) :
  DoesP Yd 134 #[Qth l,.pointer (some ⟨gs,0,none⟩),.pointer (some ⟨gm,0,none⟩)] w
   (fun _ w'=>∃ G',PI [] G'/\Heap w0 B w' (Ye gs 9 [Ab []]::Ye gm 3 [.int .i64 most]::G')) Wr:=by
 refine Qay (args:=[Qth l,.pointer (some ⟨gs,0,none⟩),.pointer (some ⟨gm,0,none⟩)]) 23 Tryz.func134 rfl rfl (of_decide_eq_true rfl) ?_;simp only [Env.ofArgs]
 ((repeat with_reducible refine Bl ?_);refine My ?_)
 refine Qie [0,1,2] (fun m e w=>∃ (rest:LB) (G:List Res),Is e [(0,Qth l),(1,.pointer (some ⟨gs,0,none⟩)),(2,.pointer (some ⟨gm,0,none⟩))]/\PI rest G/\Heap w0 B w (Ye gs 9 [Ab rest]::Ye gm 3 [.int .i64 most]::G)/\rest.length<=140737488355328/\m=rest.length) s.length ?_ ?_
 ·
  refine Qs ?_;exact ⟨s,G,rfl,hG,hH,hs,rfl⟩
 clear hG hH hs;rintro m e w ⟨rest,G,rfl,hG,hH,hs,rfl⟩;refine GQ [0,1,2,6] fun K hK=>?_;refine ⟨_,Af (hH.at 0 rfl) rfl,?_⟩;refine Qs ?_;apply hK;clear hK;(repeat with_reducible refine Bl ?_);refine Fy rfl rfl (fun h=>?_) (fun h=>?_)
 ·
  have hne:rest≠[]:=by
   rintro rfl;simp at h
  clear h;obtain ⟨hf1,hf2⟩:=hfit rest hne;refine Lz ?_
  ((repeat with_reducible refine Bl ?_);refine My ?_)
  refine GQ [0,1,2,4] fun K hK=>?_;refine ⟨_,Af (hH.at 0 rfl) rfl,?_⟩;refine ⟨_,Af (hH.at 1 rfl) rfl,?_⟩;refine Aa Tryz.call135 ?_;refine Qs ?_;refine Ya (Qz7 rest most (Yr (by omega) (by omega)) w (by omega)) ?_;rintro v w1 ⟨rfl,rfl⟩;apply hK;clear hK;(repeat with_reducible refine Bl ?_);(repeat with_reducible refine Bl ?_);refine Qg3 [0,1,2,4,19] [7] (by kernel_rfl) fun K hK=>?_;simp only [go_sem,List.take_succ_cons,List.take_zero,List.drop_succ_cons,List.drop_zero,↓reduceIte,reduceEqDiff];refine ⟨fun _=>⟨_,Af (hH.at 0 rfl) rfl,?_⟩,fun h=>by omega⟩;refine Qs ?_;refine Qp ?_;refine Qes ?_;refine Qs ?_;refine ⟨l,rfl,(hR rest G w1 hne hG hH).mono ?_⟩;rintro v w2 ⟨rfl,G',hG',hH2⟩;clear hH hG;refine Qs ?_;apply hK;clear hK;(repeat with_reducible refine Bl ?_);refine Fy rfl rfl (fun h=>by simp at h) (fun h=>Lz ?_);clear h;refine GQ [0,1,2] fun K hK=>?_;refine ⟨_,Af (hH2.at 0 rfl) rfl,?_⟩;refine Qs ?_;refine Qp ?_;refine Ag ?_;refine Qs ?_;refine Ap hH2 0 (vs:=[Ab (rest.drop (fit rest most))]) rfl rfl (by kernel_rfl) (by simp) (by simp;rfl) fun w3 hH3=>?_;apply hK;clear hK;refine Ov ?_;refine Z2 ?_;refine Qs ?_;refine ⟨(rest.drop (fit rest most)).length,?_,_,G',rfl,hG',hH3,?_,rfl⟩ <;> rw [Y3] <;> omega
 have hne:rest=[]:=by
  simpa using h
 subst hne;refine Sy rfl ?_;refine Ps (QQj (Ly rfl ⟨G,hG,hH⟩))
theorem Qsz (s:LB) (most:Int) (w:World) :
  Does Yd 104 #[Ab s,.int .i64 most] w fun v w'=>∃ gs gm,Heap w [] w' [Ye gs 9 [Ab s],Ye gm 3 [.int .i64 most]] /\
   v=.func (.func 134) #[] #[.pointer (some ⟨gs,0,none⟩),.pointer (some ⟨gm,0,none⟩)]:=by
 refine En [Ab s,.int .i64 most] 6 Tryz.func104 ?_;refine VQ [2,3] fun K hK=>?_;refine Dl ?_;refine Qs ?_;have hH:=(Yz w).box 9 [Ab s];generalize w.alloc (Xf [Ab s].toArray 9)=w1 at *;generalize w.heap.size=gs at *;refine Dl ?_;refine Qs ?_;have hH1:=hH.box 3 [.int .i64 most];generalize w1.alloc (Xf [Ul .i64 most].toArray 3)=w2 at *;generalize w1.heap.size=gm at *;clear hH;apply hK;clear hK;refine VS [4] ?_;exact Ae (Al rfl rfl ⟨gs,gm,hH1.perm (.swap _ _ _),rfl⟩)
theorem Qxc {C:Kv}{e:Env}{w:World}{t u:Tmp}{T U:TypeId}{a b:Addr} (hr:C.fn.results=#[.cell t T,.cell u U]) (ht:e.find? t=some (.pointer (some a))) (hu:e.find? u=some (.pointer (some b)))
  (h:Bf C.P T (.pointer (some a)) w fun v=>Bf C.P U (.pointer (some b)) w fun x=>C.F (.tuple #[v,x]) w):VX C [] .ret e w:=by
 intro ac n ha;obtain ⟨v,hv,r1⟩:=Tw h;obtain ⟨x,hv,r2⟩:=Tw hv;refine ⟨ha.defers,.tuple #[v,x],?_,_,w,n,rfl,rfl,hv⟩;have h1:=ha.at_ t _ ht;rw [Array.getD_eq_getD_getElem?] at h1;have h2:=ha.at_ u _ hu;rw [Array.getD_eq_getD_getElem?] at h2;have q1:=r1 (w.drewN n) (Ext.drewN w n);have q2:=r2 (w.drewN n) (Ext.drewN w n);simp [results,hr,h1,h2,asAddr,q1,q2]
theorem Qqc {w1:World}{N g6 g7:Nat}{x y:Value}{F:Value->World->Prop} (h6:(Ye g6 9 [x]).holds w1) (h7:(Ye g7 32 [y]).holds w1) (hF:F (.tuple #[x,y]) w1) :
  VX ⟨Yd,Tryz.f79,F,N⟩ [] .ret [(6,pt g6),(7,pt g7)] w1:=by
 refine Qxc rfl rfl rfl ?_;refine Qh0 h6 (by kernel_rfl) (by kernel_rfl) ?_;exact Qh0 h7 (by kernel_rfl) (by kernel_rfl) hF
def QFw (s:LB) (most:Int) (hd:List Bool) (r:Loop) (dr g6 g7 g8 g9:Nat) (rest:LB) (G:List Res):Prop :=
 ∃ (ps:List (LB)) (bs:List (List Bool)) (ga c1:Nat) (a2:OA) (c2:Nat),Lr ps bs/\ps++C4 rest most=C4 s most/\rest.length<=262144 /\
  G=[Xg (dr+1) (.loop r),Xg dr (.deferred (some [])),Ye g9 186 [.slice a2 ps.length c2],Y0 52 1 a2 ps.length c2 (Bd (ps.map Ck)),
   Ye g8 185 [.slice (some ⟨ga,0,none⟩) (ps.length+1) c1],Y0 184 2 (some ⟨ga,0,none⟩) (ps.length+1) c1 (E6 (hd::bs)),Ye g7 32 [.int .i64 0],Ye g6 9 [.string ⟨#[]⟩]]
theorem Qxd (s:LB) (level most:Int) (w:World) (hl:I64 level) (hm:I64 most) (hs:s.length<=140737488355328) :
  Does Yd 79 #[Ab s,.int .i64 level,.int .i64 most] w fun v w'=>Heap w [] w' []/\PackOk s level most v:=by
 refine Qer (args:=[Ab s,.int .i64 level,.int .i64 most]) 87 Tryz.func79 rfl rfl (of_decide_eq_true rfl) ?_;simp only [Env.ofArgs,Nat.reduceAdd];refine GQ [0,1,2,6,7] fun K hK=>?_;refine Bo (.string ⟨#[]⟩) (by kernel_rfl) ?_;refine Qs ?_;have hH:=(Yz w).box 9 [.string ⟨#[]⟩];generalize w.alloc (Xf [Value.string ⟨#[]⟩].toArray 9)=w1 at *;generalize w.heap.size=g6 at *;refine Bo (.int .i64 0) (by kernel_rfl) ?_;refine Qs ?_;have hH2:Heap w [] _ _:=hH.box 32 [.int .i64 0];generalize w1.alloc (Xf [Ul IntKind.i64 0].toArray 32)=w2 at *;generalize w1.heap.size=g7 at *;apply hK;clear hK;clear hH
 have bad:∀ (e:Int) {N:Nat}{w4:World},PackOk s level most (.tuple #[Ab [],.int .i64 e])->Heap w [] w4 [Ye g7 32 [.int .i64 e],Ye g6 9 [Ab []]] ->
   VX ⟨Yd,Tryz.f79,fun v w'=>Heap w [] w' []/\PackOk s level most v,N⟩ [] .ret [(6,pt g6),(7,pt g7)] w4 :=
  fun e N w4 hp hh=>Qqc (hh.at 1 rfl) (hh.at 0 rfl) ⟨hh.sub (by simp),hp⟩
 refine GQ [0,1,2,6,7,31] fun K hK=>?_
 suffices out:∀ b:Bool,(b=true ↔ level < 1∨9 < level∨most < 1∨min (level * 100000) 262144 < most)->K [(0,Ab s),(1,.int .i64 level),(2,.int .i64 most),(6,pt g6),(7,pt g7),(31,.bool b)] w2 by
  refine ⟨fun h1=>⟨fun h2=>⟨fun h3=>?_,fun h3=>out _ (by simp;omega)⟩,fun h2=>out _ (by simp;omega)⟩,fun h1=>out _ (by simp;omega)⟩;refine Aa Tryz.call103 ?_;refine Qs ?_;refine Ya (Qvm level w2 (by omega)) ?_;rintro v w3 ⟨rfl,rfl⟩;refine Qs ?_;exact out _ (by simp;omega)
 intro b hb;apply hK;clear hK;(repeat with_reducible refine Bl ?_);refine Fy rfl rfl (fun h=>?_) (fun h=>Lz ?_)
 ·
  have hbad:=hb.1 h;refine GQ [6,7] fun K hK=>?_;refine Ag ?_;refine Qs ?_;refine Ap hH2 1 (vs:=[Ab []]) rfl rfl (by kernel_rfl) (by simp) (by simp [Yc]) fun w3 hH3=>?_;refine Ag ?_;refine Qs ?_;refine Ap hH3 0 (vs:=[.int .i64 2]) rfl rfl (by kernel_rfl) (by simp) (by simp [Yc]) fun w4 hH4=>?_;apply hK;clear hK;exact Pr (Ws (bad 2 (by rw [PackOk,if_pos hbad]) hH4))
 have hg:¬ (level < 1∨9 < level∨most < 1∨min (level * 100000) 262144 < most):=fun hh=>by rw [hb.2 hh] at h;cases h
 clear hb h;refine GS [0,1,2,6,7,34] ?_;(repeat with_reducible refine Bl ?_);refine Fy rfl rfl (fun h=>?_) (fun h=>Lz ?_)
 ·
  simp only [decide_eq_true_eq] at h;refine GQ [6,7] fun K hK=>?_;refine Ag ?_;refine Qs ?_;refine Ap hH2 1 (vs:=[Ab []]) rfl rfl (by kernel_rfl) (by simp) (by simp [Yc]) fun w3 hH3=>?_;refine Ag ?_;refine Qs ?_;refine Ap hH3 0 (vs:=[.int .i64 3]) rfl rfl (by kernel_rfl) (by simp) (by simp [Yc]) fun w4 hH4=>?_;apply hK;clear hK;exact Pr (Ws (bad 3 (by rw [PackOk,if_neg hg,if_pos (by omega)]) hH4))
 simp only [decide_eq_false_iff_not] at h;have hsl:s.length<=262144:=by omega
 clear h bad;obtain ⟨lv,rfl⟩:∃ n:Nat,level=n:=⟨level.toNat,by omega⟩;have hc0:(Y6 (48+lv)).toNat=48+lv:=T1 (by omega);obtain ⟨hd,hhd⟩:∃ hd,hd=Cr [66,90,104,Y6 (48+lv)]:=⟨_,rfl⟩
 have hbv:Az hd=[Ab [66,90,104,Y6 (48+lv)],.int .i64 32]:=by
  unfold Az;rw [hhd,Qcz,In];rfl
 refine GQ [0,2,6,7,8] fun K hK=>?_;(repeat first | refine Qo ?_ | refine Qp ?_);rw [show ((48:Int)+lv) % 256=((Y6 (48+lv)).toNat:Int) by omega];refine Ei hH2 (Ao [Y6 (48+lv)]) (xs:=[.tmp 37]) Ym E5 rfl rfl rfl (by omega) ?_;refine Qs ?_;refine ⟨rfl,by simp [Yh],fun g w4 hH3=>?_⟩;(try refine Qs ?_);refine ⟨[Y6 (48+lv)],hH3.readsBytes 0 rfl,?_⟩;refine And.intro (by simp) ?_;refine C2 hH3 2 (Az hd) (xs:=[.tmp 41]) Yj Nz rfl rfl rfl (by omega) (by omega) ?_;refine Qs ?_;refine ⟨by rw [hbv];simp [Yh],by simp [Yh],fun ga w4 hH4=>?_⟩;refine Bo (.slice none 0 0) (by kernel_rfl) ?_;refine Qs ?_;have hH5:=hH4.box 185 [.slice none 0 0];generalize w4.alloc (Xf [Value.slice none 0 0].toArray 185)=w5 at *;generalize w4.heap.size=g8 at *;refine Ag ?_;refine Qs ?_;refine Ap hH5 0 (vs:=[.slice (some ⟨ga,0,none⟩) 1 1]) rfl rfl (by kernel_rfl) (by simp) (by simp [Yc]) fun w6 hH6=>?_;apply hK;clear hK;have hH6:=hH6.sub (.cons_cons _ (.cons_cons _ (.cons _ (.refl _))));clear hH2 hH3 hH4 hH5;refine GQ [0,2,6,7,8,9] fun K hK=>?_;refine Bo (.slice none 0 0) (by kernel_rfl) ?_;refine Qs ?_;have hH7:=(hH6.nilRow 52 1).box 186 [.slice none 0 0];generalize w6.alloc (Xf [Value.slice none 0 0].toArray 186)=w7 at *;generalize w6.heap.size=g9 at *;apply hK;clear hK;refine GQ [6,7,8,9,45] fun K hK=>?_;refine Aa Tryz.call104 ?_;refine Qs ?_;refine Ya (Qsz s most w7) ?_;rintro v w8 ⟨gs,gm,hHp,rfl⟩;have hH8:=hH7.call0 hHp;clear hHp hH7 hH6;have hH9:Heap w [] w8 [Ye gs 9 [Ab s],Ye gm 3 [.int .i64 most],Ye g9 186 [.slice none 0 0],Y0 52 1 none 0 0 [],Ye g8 185 [.slice (some ⟨ga,0,none⟩) 1 1],Y0 184 2 (some ⟨ga,0,none⟩) 1 1 (Az hd),Ye g7 32 [.int .i64 0],Ye g6 9 [.string ⟨#[]⟩]]:=hH8;clear hH8;apply hK;clear hK
 ((repeat with_reducible refine Bl ?_);refine My ?_)
 refine Qcv rfl rfl (fun _ _=>rfl) fun r r1 r2 r3 r4 r5 r6 r7 r8=>?_;generalize hdr:w8.heap.size=dr at *;have hH10:=(hH9.newObj (.deferred (some []))).newObj (.loop r);rw [show (w8.alloc (.deferred (some []))).heap.size=dr+1 by rw [<- hdr];show (w8.heap.push _).size=_;rw [Array.size_push],hdr] at hH10;clear r6;generalize (w8.alloc (Obj.deferred (some []))).alloc (Ut r)=wl at *;have hH11:=(hH10.front 3 rfl).front 3 rfl;clear hH10 hH9;refine (Qju (dr+1) gs gm most w [] (QFw s most hd r dr g6 g7 g8 g9) ?_ s hs ⟨by omega,by omega⟩ (fun t ht=>⟨(S3 ht (by omega)).1,(S3 ht (by omega)).2.1⟩) _ ⟨[],[],ga,1,none,0,trivial,rfl,hsl,by simp [E6,Bd]⟩ wl hH11).mono ?_ (fun _ _ h=>h)
 ·
  clear hH11 hdr w8 wl;rintro rest G w9 hne ⟨ps,bs,ga,c1,a2,c2,hpb,hcut,hrl,rfl⟩ hHr;obtain ⟨f1,f2,f3⟩:=S3 hne (show 1<=most by omega);have hcs:=Qej hne (show 1<=most by omega)
  have hpl:ps.length<=262144:=by
   have h1:=congrArg Xy hcut;have h2:=(Qf7 (show 1<=most by omega) s.length s (Yx _)).2.1;rw [Yg] at h1;omega
  have hbl:=V7 _ _ hpb;have hdl:(rest.drop (fit rest most)).length<=262144:=by rw [Y3];omega
  have hp1:(rest.take (fit rest most)).length<=262144:=by rw [Y4];omega
  have hp2:rest.take (fit rest most)≠[]:=by
   intro h0;have:=congrArg Xy h0;rw [Y4,Xb] at this;omega
  generalize rest.take (fit rest most)=part at *;generalize rest.drop (fit rest most)=rest2 at *;rw [hcs,List.append_cons] at hcut;clear hcs f1 f2 hne hrl;refine Qcw (N:=87) (e:=(46,Ab part)::[(6,pt g6),(7,pt g7),(8,pt g8),(9,pt g9),(45,.func (.func 134) #[] #[pt gs,pt gm])]) (hHr.at 2 rfl) r1 r7 (by rw [r3];rfl) ?_ ?_
  ·
   intro t v ht;rw [r3,show (#[46].zip [Ab part].toArray)=#[(46,Ab part)] by first | rfl | simp | (apply Array.ext';simp)]
   show (r.tmps.setIfInBounds 46 (Ab part)).getD t undef=v
   rw [Env.find?] at ht;split at ht
   ·
    rename_i h46;subst h46;cases ht;rw [Array.getD_eq_getD_getElem?,Array.getElem?_setIfInBounds_self_of_lt (by rw [r7];decide)];rfl
   rename_i h46;rw [Array.getD_eq_getD_getElem?,Array.getElem?_setIfInBounds_ne (by exact fun h=>h46 h.symm),<- Array.getD_eq_getD_getElem?];exact r8 t v ht
  refine (congrArg (fun c=>VG _ [.code c] _ _) r4).mpr ?_;refine GS [6,7,8,9,10] ?_;refine Ps fun a n hf=>⟨rfl,_,_,n,rfl,hf,hHr.at 2 rfl,?_⟩;have hHb:=(hHr.front 2 rfl).put (.loop { r with state:=.busy });generalize w9.putObj (dr+1) (Ut { r with state:=.busy })=wb at *;clear hHr hf a n w9;refine (congrArg (fun c=>VG _ [.code c] _ _) r5).mpr ?_;clear r3 r4 r5 r7 r8
  ((repeat with_reducible refine Bl ?_);refine My ?_)
  refine GQ [6,7,8,9,10,11,12] fun K hK=>?_;refine Aa Tryz.call105 ?_;refine Qs ?_;refine Ya (Qgt part (by omega) wb) ?_;rintro v w1 ⟨hHm,hv⟩;have hHc:=hHb.call0 hHm;simp only [Yb] at hHc;clear hHm hHb;rw [Rj,if_neg hp2,if_neg (by omega)] at hv;obtain ⟨σ,ho,rfl⟩:=hv;have hPB:PB part (Fq part σ):=⟨σ,ho,rfl⟩;generalize Fq part σ=B at *;refine Bo (.agg #[.string ⟨#[]⟩,.int .i64 0]) (by kernel_rfl) ?_;refine Qs ?_;have hHd:=hHc.box 184 [.string ⟨#[]⟩,.int .i64 0];generalize w1.alloc (Xf [Value.string ⟨#[]⟩,.int .i64 0].toArray 184)=w2 at *;generalize w1.heap.size=g11 at *;refine Ag ?_;refine Qs ?_;refine Ap hHd 0 (vs:=Az B) rfl rfl (by kernel_rfl) (by simp [Az]) (Ey _) fun w3 hHe=>?_;clear hHc hHd;apply hK;clear hK;refine GS [6,7,8,9,10,11,53] ?_;(repeat with_reducible refine Bl ?_);refine Fy rfl rfl (fun h=>by simp at h) (fun h=>Lz ?_);clear h;refine GQ [6,7,8,9,10] fun K hK=>?_;refine ⟨_,Af (hHe.at 7 rfl) rfl,?_⟩;refine ⟨Az B,⟨rfl,Bu (hHe.at 0 rfl)⟩,?_⟩;refine C2 hHe 2 (Az B) (xs:=[.tmp 56]) Yj Nz rfl rfl rfl (by omega) (by omega) ?_;refine Qs ?_;refine ⟨by simp [Az,Yh],by simp [Az,Yh],fun gl w4 hHf=>?_⟩;refine Ce ?_;refine Qs ?_;refine C3 (zs:=#[.string ⟨#[]⟩,.int .i64 0]) (bytes:=24) hHf 9 rfl Yj (by kernel_rfl) rfl ⟨rfl,As (hHf.at 0 rfl),184,Yj⟩ (Ey _) (fun h=>by omega) fun a' cap' w5 hc' hHg=>?_;refine Ag ?_;refine Qs ?_;refine Ap hHg 8 (vs:=[.slice a' (ps.length+1+1) cap']) rfl rfl (by kernel_rfl) (by simp) (by simp [Yc]) fun w6 hHh=>?_;simp only [Yq,Yl] at hHh;rw [Qm,Ys] at hHh
  have hHi:Heap w [] w6 [Xg (dr+1) (.loop { r with state:=.busy }),Ye gs 9 [Ab rest],Ye gm 3 [.int .i64 most],Xg dr (.deferred (some [])),Ye g9 186 [.slice a2 ps.length c2],Y0 52 1 a2 ps.length c2 (Bd (ps.map Ck)),
   Ye g8 185 [.slice a' (ps.length+1+1) cap'],Y0 184 2 a' (ps.length+1+1) cap' (E6 (hd::(bs++[B]))),Ye g7 32 [.int .i64 0],Ye g6 9 [.string ⟨#[]⟩]]:=hHh.sub (.cons _ (.cons _ (.refl _)))
  obtain ⟨gp,rfl⟩:=Cw (hHi.at 7 rfl) (by omega);clear hHe hHf hHg hHh hc';apply hK;clear hK;(repeat with_reducible refine Bl ?_);refine Qg1 (bare w6) (Ss _ _) [6,7,8,9] (.two [(1,true)] 0 2 (.seq [(2,false),(3,false),(4,false),(5,false)]) (.two [] 0 3 (.seq [(3,false),(4,false),(5,false)]) (.seq [(0,false),(4,false),(5,false)]))) (by kernel_rfl) (by kernel_rfl) (by kernel_rfl) fun K hK=>?_
  suffices out:∀ (a':OA) (c':Nat) (w10:World),Heap w [] w10 [Xg (dr+1) (.loop { r with state:=.busy }),Ye gs 9 [Ab rest],Ye gm 3 [.int .i64 most],Xg dr (.deferred (some [])),Ye g9 186 [.slice a' (ps.length+1) c'],Y0 52 1 a' (ps.length+1) c' (Bd (ps.map Ck)++Bd [Ck part]),
   Ye g8 185 [.slice (some ⟨gp,0,none⟩) (ps.length+1+1) cap'],Y0 184 2 (some ⟨gp,0,none⟩) (ps.length+1+1) cap' (E6 (hd::(bs++[B]))),Ye g7 32 [.int .i64 0],Ye g6 9 [.string ⟨#[]⟩]]->K [(6,pt g6),(7,pt g7),(8,pt g8),(9,pt g9)] w10 by
   have c0:w6.cell? ⟨g9,0,none⟩=some (.slice a2 ps.length c2):=Af (hHi.at 4 rfl) rfl;simp only [Qd,A6,List.filterMap_cons,List.filterMap_nil,List.getElem?_cons_succ,List.getElem?_cons_zero,Option.map_some];refine Qs ?_;simp only [Bi];refine Qs ?_;refine And.intro ?_ ?_
   ·
    refine ⟨_,c0,?_⟩;(try simp only [Bi]);refine Aa Tryz.call106 ?_;refine Qs ?_;refine Ya (Qef part w6 (by omega)) ?_;rintro v w7 ⟨hHz,rfl⟩;have hHj:=hHi.call0 hHz;simp only [Yb] at hHj;(try simp only [Bi]);refine Ei hHj (Bd [Ck part]) (xs:=[.tmp 61]) Y2 QF4 rfl rfl rfl (by omega) ?_;refine Qs ?_;refine ⟨rfl,by simp [Yh],fun g w4 hHk=>?_⟩;(try refine Qs ?_);(try simp only [Bi]);refine Ce ?_;refine Qs ?_;refine C3 (zs:=#[.int .u32 0]) (bytes:=4) hHk 6 rfl Y2 (by kernel_rfl) rfl ⟨rfl,As (hHk.at 0 rfl),52,Y2⟩ (by simp [Bd];rfl) (fun h=>by omega) fun a' cap' w12 hc' hHl=>?_;skip;(try simp only [Bi]);skip;refine Ag ?_;refine Qs ?_;refine Ap hHl 5 (vs:=[.slice a' (ps.length+1) cap']) rfl rfl (by kernel_rfl) (by simp) (by simp [Yc]) fun w13 hHm=>?_;simp only [Yq,Yl] at hHm;skip;(try simp only [Bi]);skip;refine out a' cap' w13 ?_;exact hHm.sub (Yf _ _)
   refine Aa Tryz.call106 ?_;refine Qs ?_;refine Ya (Qef part w6 (by omega)) ?_;rintro v w7 ⟨hHz,rfl⟩;have hHj:=hHi.call0 hHz;simp only [Yb] at hHj;have c1:w7.cell? ⟨g9,0,none⟩=some (.slice a2 ps.length c2):=Af (hHj.at 4 rfl) rfl;(try simp only [Bi]);refine Qs ?_;refine And.intro ?_ ?_
   ·
    refine ⟨_,c1,?_⟩;(try simp only [Bi]);refine Ei hHj (Bd [Ck part]) (xs:=[.tmp 61]) Y2 QF4 rfl rfl rfl (by omega) ?_;refine Qs ?_;refine ⟨rfl,by simp [Yh],fun g w4 hHk=>?_⟩;(try refine Qs ?_);(try simp only [Bi]);refine Ce ?_;refine Qs ?_;refine C3 (zs:=#[.int .u32 0]) (bytes:=4) hHk 6 rfl Y2 (by kernel_rfl) rfl ⟨rfl,As (hHk.at 0 rfl),52,Y2⟩ (by simp [Bd];rfl) (fun h=>by omega) fun a' cap' w12 hc' hHl=>?_;skip;(try simp only [Bi]);skip;refine Ag ?_;refine Qs ?_;refine Ap hHl 5 (vs:=[.slice a' (ps.length+1) cap']) rfl rfl (by kernel_rfl) (by simp) (by simp [Yc]) fun w13 hHm=>?_;simp only [Yq,Yl] at hHm;skip;(try simp only [Bi]);skip;refine out a' cap' w13 ?_;exact hHm.sub (Yf _ _)
   refine Ei hHj (Bd [Ck part]) (xs:=[.tmp 61]) Y2 QF4 rfl rfl rfl (by omega) ?_;refine Qs ?_;refine ⟨rfl,by simp [Yh],fun g w4 hHk=>?_⟩;(try refine Qs ?_);have c2':w4.cell? ⟨g9,0,none⟩=some (.slice a2 ps.length c2):=Af (hHk.at 5 rfl) rfl;(try simp only [Bi]);refine Qs ?_;refine ⟨_,c2',?_⟩;(try simp only [Bi]);refine Ce ?_;refine Qs ?_;refine C3 (zs:=#[.int .u32 0]) (bytes:=4) hHk 6 rfl Y2 (by kernel_rfl) rfl ⟨rfl,As (hHk.at 0 rfl),52,Y2⟩ (by simp [Bd];rfl) (fun h=>by omega) fun a' cap' w12 hc' hHl=>?_;skip;(try simp only [Bi]);skip;refine Ag ?_;refine Qs ?_;refine Ap hHl 5 (vs:=[.slice a' (ps.length+1) cap']) rfl rfl (by kernel_rfl) (by simp) (by simp [Yc]) fun w13 hHm=>?_;simp only [Yq,Yl] at hHm;skip;(try simp only [Bi]);skip;refine out a' cap' w13 ?_;exact hHm.sub (Yf _ _)
  intro a' c' w10 hHn;apply hK;clear hK
  have hr:({ r with state:=.ready,pending:=none }:Loop)=r:=by
   cases r;simp only at r1 r2;subst r1 r2;rfl
  refine Ov (Ps fun a n hf=>⟨_,n,rfl,hHn.at 0 rfl,rfl,?_⟩);rw [hr];refine ⟨_,⟨ps++[part],bs++[B],gp,cap',a',c',Qp9 hPB _ _ hpb,hcut,hdl,rfl⟩,?_⟩;have hHo:=((hHn.put (.loop r)).front 2 rfl).front 2 rfl;rw [show (ps++[part]).length=ps.length+1 by simp,show Bd ((ps++[part]).map Ck)=Bd (ps.map Ck)++Bd [Ck part] by simp [Bd]];exact hHo
 rintro _ w9 ⟨G,⟨ps,bs,ga,c1,a2,c2,hpb,hcut,_,rfl⟩,hHr⟩
 have hr:({ r with state:=.ready,pending:=none }:Loop)=r:=by
  cases r;simp only at r1 r2;subst r1 r2;rfl
 refine ⟨.ready,none,?_,by simp,?_⟩
 ·
  rw [hr];exact hHr.at 2 rfl
 simp only;have hHs:=(hHr.front 2 rfl).put (.loop { r with state:=.exhausted,pending:=none });generalize w9.putObj (dr+1) (Ut { r with state:=.exhausted,pending:=none })=wb at *;generalize Ut { r with state:=.exhausted,pending:=none }=ro at *;clear hHr r1 r2 r3 r4 r5 r7 r8 hr hH11 w9;rw [Vx,Xc] at hcut;subst hcut;have hok:=Qf7 (show 1<=most by omega) s.length s (Yx _);have hps:(C4 s most).length<=262144:=by omega
 have hfl:=Qi1 _ _ hpb fun p hp=>by
  obtain ⟨a,b,c⟩:=hok.2.2 p hp;exact ⟨a,by omega⟩
 have hbl:=V7 _ _ hpb
 have h32:∀ x∈(C4 s most).map Ck,x < 4294967296:=by
  intro x hx;obtain ⟨p,_,rfl⟩:=Xt.1 hx;exact Qbe p
 have hcl:=Qaq _ h32
 have hend:PackOk s lv most (.tuple #[Ab (Bj ((hd::(bs++[A2 48 25779555029136++A2 32 (I6 ((C4 s most).map Ck))])).flatten)),.int .i64 0]):=by
  rw [PackOk,if_neg hg,if_neg (by omega)];refine ⟨bs,hpb,?_⟩;rw [hhd,Xz];unfold F7;simp only [Y5,Uf,Xk,Xc,Yv]
 have hlL:((C4 s most).map Ck).length=(C4 s most).length:=Xr ..;generalize hsum:(C4 s most).map Ck=sums at *;generalize (C4 s most).length=m at *;refine Ov ?_;refine GQ [6,7,8,9,13] fun K hK=>?_;refine Aa Tryz.call107 ?_;refine Qs ?_;refine Ya (Qk wb) ?_;rintro v w11 ⟨gw,hHw,rfl⟩;have hHt:=hHs.call0 hHw;clear hHs hHw;apply hK;clear hK;refine GQ [6,7,8,9,13] fun K hK=>?_;refine Aa Tryz.call108 ?_;refine Qs ?_;refine Ya (Ir gw none 0 [] 25779555029136 48 w11 (by omega) (by decide) (by simp) (hHt.focus 0 rfl)) ?_;rintro v w12 ⟨a',c',hHp,rfl⟩;have hHu:=hHt.call1 0 rfl hHp;clear hHt hHp;apply hK;clear hK
 have hHv:Heap w [] w12 [wr gw a' c' (A2 48 25779555029136),Xg (dr+1) ro,Ye gs 9 [Ab []],Ye gm 3 [.int .i64 most],Xg dr (.deferred (some [])),Ye g9 186 [.slice a2 m c2],Y0 52 1 a2 m c2 (Bd sums),
   Ye g8 185 [.slice (some ⟨ga,0,none⟩) (m+1) c1],Y0 184 2 (some ⟨ga,0,none⟩) (m+1) c1 (E6 (hd::bs)),Ye g7 32 [.int .i64 0],Ye g6 9 [.string ⟨#[]⟩]]:=hHu
 clear hHu;refine GQ [6,7,8,13] fun K hK=>?_;refine ⟨_,Af (hHv.at 5 rfl) rfl,?_⟩;have hcs:=Ql9 sums a2 c2 w12 (by rw [hlL];exact As (hHv.at 6 rfl)) h32 (by omega);rw [hlL] at hcs;refine Aa Tryz.call109 ?_;refine Qs ?_;refine Ya hcs ?_;rintro v w13 ⟨rfl,rfl⟩;refine Qs ?_;rw [show ((I6 sums:Nat):Int) % 18446744073709551616=((I6 sums:Nat):Int) by omega];refine Aa Tryz.call108 ?_;refine Qs ?_;refine Ya (Ir gw a' c' (A2 48 25779555029136) (I6 sums) 32 w13 (by omega) (by simpa using hcl) (by rw [C0];omega) (hHv.focus 0 rfl)) ?_;rintro v w14 ⟨a3,c3,hHp,rfl⟩;apply hK;clear hK;have hBl:(A2 48 25779555029136++A2 32 (I6 sums)).length=80:=by simp [C0]
 generalize A2 48 25779555029136++A2 32 (I6 sums)=B at *
 have hHw:Heap w [] w14 [wr gw a3 c3 B,Xg (dr+1) ro,Ye gs 9 [Ab []],Ye gm 3 [.int .i64 most],Xg dr (.deferred (some [])),Ye g9 186 [.slice a2 m c2],Y0 52 1 a2 m c2 (Bd sums),
   Ye g8 185 [.slice (some ⟨ga,0,none⟩) (m+1) c1],Y0 184 2 (some ⟨ga,0,none⟩) (m+1) c1 (E6 (hd::bs)),Ye g7 32 [.int .i64 0],Ye g6 9 [.string ⟨#[]⟩]]:=hHv.call1 0 rfl hHp
 clear hHv hHp hcs hcl h32 hlL hok hpb;have hf:=hHw.focus 8 rfl;have hW:=hHw.at 0 rfl;have hlen:(hd::(bs++[B])).length=m+1+1:=by simp;omega
 have hjn:=fun (gp cap:Nat) (w:World) hl=>Qd1 (hd::(bs++[B])) ⟨gp,0,none⟩ rfl cap w hl (by
  have:hd.length=32:=by rw [hhd,In];rfl
  simp only [Y5,Uf,Xk,Xc,Yg];omega) (by omega)
 rw [hlen] at hjn;generalize hls:(hd::(bs++[B]))=ls at *;clear hlen;obtain ⟨w0,hx0,c0,hE⟩:∃ w0,Ext w0 w14/\w0.cell? ⟨g8,0,none⟩=some (.slice (some ⟨ga,0,none⟩) (m+1) c1)/\∀ w' G,Heap w14 (Y0 184 2 (some ⟨ga,0,none⟩) (m+1) c1 (E6 (hd::bs))).foot w' G->Ext w0 w':=⟨holes (Y0 184 2 (some ⟨ga,0,none⟩) (m+1) c1 (E6 (hd::bs))).foot w14,Ext.hole _ _,hHw.hole_at 8 7 rfl rfl (by omega) rfl,fun w' G h=>h.upd.extH⟩;(repeat with_reducible refine Bl ?_);refine Qg1 w0 hx0 [6,7,14,15] (.two [(0,true),(1,true),(3,true)] 2 12 (.two [] 4 12 (.two [(5,true)] 6 12 (.two [] 7 12 (.two [] 8 12 (.seq [(9,true),(10,true),(11,true),(12,false),(13,false),(14,true)]) (.seq [(8,false),(9,true),(10,true),(11,true),(13,false),(14,true)])) (.seq [(7,false),(8,false),(9,true),(10,true),(11,true),(13,false),(14,true)])) (.seq [(6,false),(7,false),(8,false),(9,true),(10,true),(11,true),(13,false),(14,true)])) (.seq [(4,false),(5,true),(6,false),(7,false),(8,false),(9,true),(10,true),(11,true),(13,false),(14,true)])) (.seq [(2,false),(4,false),(5,true),(6,false),(7,false),(8,false),(9,true),(10,true),(11,true),(13,false),(14,true)])) (by kernel_rfl) (by kernel_rfl) (by kernel_rfl) fun K hK=>?_
 suffices out:∀ (g14:Nat) (w':World),Heap w [] w' [Ye g14 184 (Az ls.flatten),Xg dr (.deferred (some [])),Ye g7 32 [.int .i64 0],Ye g6 9 [.string ⟨#[]⟩]]->K [(6,pt g6),(7,pt g7),(14,pt g14),(15,.int .i64 0)] w' by
  simp only [Qd,A6,List.filterMap_cons,List.filterMap_nil,List.getElem?_cons_succ,List.getElem?_cons_zero,Option.map_some];refine Qs ?_;refine ⟨_,c0,?_⟩;(try simp only [Bi]);skip;refine And.intro ?_ ?_
  ·
   refine Aa Tryz.call111 ?_;refine Qs ?_;refine Ya (Pg gw a3 c3 B _ hW) ?_;rintro v wt ⟨rfl,rfl⟩;(try simp only [Mi]);refine ⟨hE _ _ hf,?_⟩;(try simp only [Bi]);skip;refine And.intro ?_ ?_
   ·
    refine Aa Uj ?_;refine Qs ?_;refine Ya (Oj gw a3 c3 B _ hW) ?_;rintro v wt ⟨rfl,rfl⟩;(try simp only [Mi]);refine ⟨hE _ _ hf,?_⟩;(try simp only [Bi]);refine Qs ?_;refine And.intro ?_ ?_
    ·
     refine C2 hf 2 (Az B) (xs:=[.tmp 78]) Yj Nz rfl rfl rfl (by omega) (by omega) ?_;refine Qs ?_;refine ⟨by simp [Az,Yh],by simp [Az,Yh],fun gl wl hf=>?_⟩;refine ⟨hE _ _ hf,?_⟩;(try simp only [Bi]);skip;refine And.intro ?_ ?_
     ·
      refine Ce ?_;refine Qs ?_;refine C3 (zs:=#[.string ⟨#[]⟩,.int .i64 0]) (bytes:=24) hf 1 rfl Yj (by kernel_rfl) rfl ⟨rfl,As (hf.at 0 rfl),184,Yj⟩ (Ey _) (fun h=>by omega) fun a' cap' wp hc' hf=>?_;obtain ⟨gp,rfl⟩:=Cw (hf.at 1 rfl) (by omega);refine ⟨hE _ _ hf,?_⟩;simp only [Yq,Yl] at hf;rw [Qm,Ys,hls] at hf;(try simp only [Bi]);skip;refine And.intro ?_ ?_
      ·
       refine Aa Xn ?_;refine Qs ?_;refine Ya (hjn gp cap' _ (As (hf.at 1 rfl))) ?_;rintro v wj ⟨hJ,rfl⟩;have hf:=hf.call0 hJ;simp only [Yb] at hf;(try simp only [Mi]);refine ⟨hE _ _ hf,?_⟩;(try simp only [Bi]);refine Qs ?_;refine Bo (.agg #[.string ⟨#[]⟩,.int .i64 0]) (by kernel_rfl) ?_;refine Qs ?_;have hf:=hf.box 184 [.string ⟨#[]⟩,.int .i64 0];refine ⟨hE _ _ hf,?_⟩;(try simp only [Bi]);skip;refine Ag ?_;refine Qs ?_;refine Ap hf 0 (vs:=Az ls.flatten) rfl rfl (by kernel_rfl) (by simp [Az]) (Ey _) fun ws hf=>?_;refine ⟨hE _ _ hf,?_⟩;simp only [Yq,Yl] at hf;(try simp only [Bi]);skip;exact out _ _ ((hHw.call1 8 rfl (hf.perm (.swap _ _ _))).sub (.cons_cons _ (.cons _ (.cons _ (.cons _ (.cons _ (.cons _ (.cons_cons _ (.cons _ (.cons _ (.cons _ (.cons _ (.refl _)))))))))))))
      refine Bo (.agg #[.string ⟨#[]⟩,.int .i64 0]) (by kernel_rfl) ?_;refine Qs ?_;have hf:=hf.box 184 [.string ⟨#[]⟩,.int .i64 0];refine ⟨hE _ _ hf,?_⟩;(try simp only [Bi]);skip;refine Aa Xn ?_;refine Qs ?_;refine Ya (hjn gp cap' _ (As (hf.at 2 rfl))) ?_;rintro v wj ⟨hJ,rfl⟩;have hf:=hf.call0 hJ;simp only [Yb] at hf;(try simp only [Mi]);refine ⟨hE _ _ hf,?_⟩;(try simp only [Bi]);skip;refine Ag ?_;refine Qs ?_;refine Ap hf 0 (vs:=Az ls.flatten) rfl rfl (by kernel_rfl) (by simp [Az]) (Ey _) fun ws hf=>?_;refine ⟨hE _ _ hf,?_⟩;simp only [Yq,Yl] at hf;(try simp only [Bi]);skip;exact out _ _ ((hHw.call1 8 rfl (hf.perm (.swap _ _ _))).sub (.cons_cons _ (.cons _ (.cons _ (.cons _ (.cons _ (.cons _ (.cons_cons _ (.cons _ (.cons _ (.cons _ (.cons _ (.refl _)))))))))))))
     refine Bo (.agg #[.string ⟨#[]⟩,.int .i64 0]) (by kernel_rfl) ?_;refine Qs ?_;have hf:=hf.box 184 [.string ⟨#[]⟩,.int .i64 0];refine ⟨hE _ _ hf,?_⟩;(try simp only [Bi]);skip;refine Ce ?_;refine Qs ?_;refine C3 (zs:=#[.string ⟨#[]⟩,.int .i64 0]) (bytes:=24) hf 2 rfl Yj (by kernel_rfl) rfl ⟨rfl,As (hf.at 1 rfl),184,Yj⟩ (Ey _) (fun h=>by omega) fun a' cap' wp hc' hf=>?_;obtain ⟨gp,rfl⟩:=Cw (hf.at 2 rfl) (by omega);refine ⟨hE _ _ hf,?_⟩;simp only [Yq,Yl] at hf;rw [Qm,Ys,hls] at hf;(try simp only [Bi]);skip;refine Aa Xn ?_;refine Qs ?_;refine Ya (hjn gp cap' _ (As (hf.at 2 rfl))) ?_;rintro v wj ⟨hJ,rfl⟩;have hf:=hf.call0 hJ;simp only [Yb] at hf;(try simp only [Mi]);refine ⟨hE _ _ hf,?_⟩;(try simp only [Bi]);skip;refine Ag ?_;refine Qs ?_;refine Ap hf 0 (vs:=Az ls.flatten) rfl rfl (by kernel_rfl) (by simp [Az]) (Ey _) fun ws hf=>?_;refine ⟨hE _ _ hf,?_⟩;simp only [Yq,Yl] at hf;(try simp only [Bi]);skip;exact out _ _ ((hHw.call1 8 rfl (hf.perm (.swap _ _ _))).sub (.cons_cons _ (.cons _ (.cons _ (.cons _ (.cons _ (.cons _ (.cons_cons _ (.cons _ (.cons _ (.cons _ (.cons _ (.refl _)))))))))))))
    refine Bo (.agg #[.string ⟨#[]⟩,.int .i64 0]) (by kernel_rfl) ?_;refine Qs ?_;have hf:=hf.box 184 [.string ⟨#[]⟩,.int .i64 0];refine ⟨hE _ _ hf,?_⟩;(try simp only [Bi]);skip;refine C2 hf 2 (Az B) (xs:=[.tmp 78]) Yj Nz rfl rfl rfl (by omega) (by omega) ?_;refine Qs ?_;refine ⟨by simp [Az,Yh],by simp [Az,Yh],fun gl wl hf=>?_⟩;refine ⟨hE _ _ hf,?_⟩;(try simp only [Bi]);skip;refine Ce ?_;refine Qs ?_;refine C3 (zs:=#[.string ⟨#[]⟩,.int .i64 0]) (bytes:=24) hf 2 rfl Yj (by kernel_rfl) rfl ⟨rfl,As (hf.at 0 rfl),184,Yj⟩ (Ey _) (fun h=>by omega) fun a' cap' wp hc' hf=>?_;obtain ⟨gp,rfl⟩:=Cw (hf.at 2 rfl) (by omega);refine ⟨hE _ _ hf,?_⟩;simp only [Yq,Yl] at hf;rw [Qm,Ys,hls] at hf;(try simp only [Bi]);skip;refine Aa Xn ?_;refine Qs ?_;refine Ya (hjn gp cap' _ (As (hf.at 2 rfl))) ?_;rintro v wj ⟨hJ,rfl⟩;have hf:=hf.call0 hJ;simp only [Yb] at hf;(try simp only [Mi]);refine ⟨hE _ _ hf,?_⟩;(try simp only [Bi]);skip;refine Ag ?_;refine Qs ?_;refine Ap hf 1 (vs:=Az ls.flatten) rfl rfl (by kernel_rfl) (by simp [Az]) (Ey _) fun ws hf=>?_;refine ⟨hE _ _ hf,?_⟩;simp only [Yq,Yl] at hf;(try simp only [Bi]);skip;exact out _ _ ((hHw.call1 8 rfl hf).sub (.cons_cons _ (.cons _ (.cons _ (.cons _ (.cons _ (.cons _ (.cons_cons _ (.cons _ (.cons _ (.cons _ (.cons _ (.refl _)))))))))))))
   refine Bo (.agg #[.string ⟨#[]⟩,.int .i64 0]) (by kernel_rfl) ?_;refine Qs ?_;have hf:=hf.box 184 [.string ⟨#[]⟩,.int .i64 0];refine ⟨hE _ _ hf,?_⟩;(try simp only [Bi]);skip;have hW:=(hHw.call1 8 rfl hf).at 1 rfl;refine Aa Uj ?_;refine Qs ?_;refine Ya (Oj gw a3 c3 B _ hW) ?_;rintro v wt ⟨rfl,rfl⟩;(try simp only [Mi]);refine ⟨hE _ _ hf,?_⟩;(try simp only [Bi]);refine Qs ?_;refine C2 hf 2 (Az B) (xs:=[.tmp 78]) Yj Nz rfl rfl rfl (by omega) (by omega) ?_;refine Qs ?_;refine ⟨by simp [Az,Yh],by simp [Az,Yh],fun gl wl hf=>?_⟩;refine ⟨hE _ _ hf,?_⟩;(try simp only [Bi]);skip;refine Ce ?_;refine Qs ?_;refine C3 (zs:=#[.string ⟨#[]⟩,.int .i64 0]) (bytes:=24) hf 2 rfl Yj (by kernel_rfl) rfl ⟨rfl,As (hf.at 0 rfl),184,Yj⟩ (Ey _) (fun h=>by omega) fun a' cap' wp hc' hf=>?_;obtain ⟨gp,rfl⟩:=Cw (hf.at 2 rfl) (by omega);refine ⟨hE _ _ hf,?_⟩;simp only [Yq,Yl] at hf;rw [Qm,Ys,hls] at hf;(try simp only [Bi]);skip;refine Aa Xn ?_;refine Qs ?_;refine Ya (hjn gp cap' _ (As (hf.at 2 rfl))) ?_;rintro v wj ⟨hJ,rfl⟩;have hf:=hf.call0 hJ;simp only [Yb] at hf;(try simp only [Mi]);refine ⟨hE _ _ hf,?_⟩;(try simp only [Bi]);skip;refine Ag ?_;refine Qs ?_;refine Ap hf 1 (vs:=Az ls.flatten) rfl rfl (by kernel_rfl) (by simp [Az]) (Ey _) fun ws hf=>?_;refine ⟨hE _ _ hf,?_⟩;simp only [Yq,Yl] at hf;(try simp only [Bi]);skip;exact out _ _ ((hHw.call1 8 rfl hf).sub (.cons_cons _ (.cons _ (.cons _ (.cons _ (.cons _ (.cons _ (.cons_cons _ (.cons _ (.cons _ (.cons _ (.cons _ (.refl _)))))))))))))
  refine Bo (.agg #[.string ⟨#[]⟩,.int .i64 0]) (by kernel_rfl) ?_;refine Qs ?_;have hf:=hf.box 184 [.string ⟨#[]⟩,.int .i64 0];refine ⟨hE _ _ hf,?_⟩;(try simp only [Bi]);skip;have hW:=(hHw.call1 8 rfl hf).at 1 rfl;refine Aa Tryz.call111 ?_;refine Qs ?_;refine Ya (Pg gw a3 c3 B _ hW) ?_;rintro v wt ⟨rfl,rfl⟩;(try simp only [Mi]);refine ⟨hE _ _ hf,?_⟩;(try simp only [Bi]);skip;refine Aa Uj ?_;refine Qs ?_;refine Ya (Oj gw a3 c3 B _ hW) ?_;rintro v wt ⟨rfl,rfl⟩;(try simp only [Mi]);refine ⟨hE _ _ hf,?_⟩;(try simp only [Bi]);refine Qs ?_;refine C2 hf 2 (Az B) (xs:=[.tmp 78]) Yj Nz rfl rfl rfl (by omega) (by omega) ?_;refine Qs ?_;refine ⟨by simp [Az,Yh],by simp [Az,Yh],fun gl wl hf=>?_⟩;refine ⟨hE _ _ hf,?_⟩;(try simp only [Bi]);skip;refine Ce ?_;refine Qs ?_;refine C3 (zs:=#[.string ⟨#[]⟩,.int .i64 0]) (bytes:=24) hf 2 rfl Yj (by kernel_rfl) rfl ⟨rfl,As (hf.at 0 rfl),184,Yj⟩ (Ey _) (fun h=>by omega) fun a' cap' wp hc' hf=>?_;obtain ⟨gp,rfl⟩:=Cw (hf.at 2 rfl) (by omega);refine ⟨hE _ _ hf,?_⟩;simp only [Yq,Yl] at hf;rw [Qm,Ys,hls] at hf;(try simp only [Bi]);skip;refine Aa Xn ?_;refine Qs ?_;refine Ya (hjn gp cap' _ (As (hf.at 2 rfl))) ?_;rintro v wj ⟨hJ,rfl⟩;have hf:=hf.call0 hJ;simp only [Yb] at hf;(try simp only [Mi]);refine ⟨hE _ _ hf,?_⟩;(try simp only [Bi]);skip;refine Ag ?_;refine Qs ?_;refine Ap hf 1 (vs:=Az ls.flatten) rfl rfl (by kernel_rfl) (by simp [Az]) (Ey _) fun ws hf=>?_;refine ⟨hE _ _ hf,?_⟩;simp only [Yq,Yl] at hf;(try simp only [Bi]);skip;exact out _ _ ((hHw.call1 8 rfl hf).sub (.cons_cons _ (.cons _ (.cons _ (.cons _ (.cons _ (.cons _ (.cons_cons _ (.cons _ (.cons _ (.cons _ (.cons _ (.refl _)))))))))))))
 intro g14 w15 hHy;apply hK;clear hK;clear hf hW hx0 c0 hE hjn hHw;refine GQ [6,7] fun K hK=>?_;refine ⟨_,Af (hHy.at 0 rfl) (show (Az ls.flatten)[0]? = some _ from rfl),?_⟩;refine Ag ?_;refine Qs ?_;refine Ap hHy 3 (vs:=[Ab (Bj ls.flatten)]) rfl rfl (by kernel_rfl) (by simp) (by simp [Yc]) fun w16 hHz=>?_;refine Ag ?_;refine Qs ?_;refine Ap hHz 2 (vs:=[.int .i64 0]) rfl rfl (by kernel_rfl) (by simp) (by simp [Yc]) fun w17 hHq=>?_;apply hK;clear hK;have hHr:Heap w [] w17 [Xg dr (.deferred (some [])),Ye g7 32 [.int .i64 0],Ye g6 9 [Ab (Bj ls.flatten)]]:=hHq.sub (.cons _ (.refl _));have hHp2:=hHr.put (.deferred none);exact Pr (QQ2 (hHr.at 0 rfl) (Qqc (hHp2.at 2 rfl) (hHp2.at 1 rfl) ⟨hHp2.sub (by simp),hend⟩))
open Go.Shelf
def Qfl:Go.Shelf.Ren:=⟨fun | 105=>113 | 212=>149 | 99=>150 | 165=>129 | 166=>91 | 170=>151 | 169=>92 | 263=>192 | 264=>193 | 206=>194 | 240=>127 | 241=>168 | 276=>159 | 277=>201 | n=>n,fun | 9=>9 | 3=>3 | 4=>4 | 20=>20 | 0=>0 | 46=>141 | 109=>242 | 5=>5 | 72=>162 | 76=>166 | 51=>52 | 146=>279 | 53=>194 | 148=>281 | 70=>160 | 37=>69 | 75=>165 | 127=>211 | 164=>251 | 80=>34 | n=>n,fun | n=>n⟩
theorem QFx:Go.Proofs.Lays.n105 Yd Qfl:={
 mixed:=by kernel_rfl
 f99:=Tryz.func150.trans (congrArg some (by kernel_rfl))
 f105:=Tryz.func113.trans (congrArg some (by kernel_rfl))
 f165:=Tryz.func129.trans (congrArg some (by kernel_rfl))
 f166:=Tryz.func91.trans (congrArg some (by kernel_rfl))
 f169:=Tryz.func92.trans (congrArg some (by kernel_rfl))
 f170:=Tryz.func151.trans (congrArg some (by kernel_rfl))
 f206:=Tryz.func194.trans (congrArg some (by kernel_rfl))
 f212:=Tryz.func149.trans (congrArg some (by kernel_rfl))
 f240:=Tryz.func127.trans (congrArg some (by kernel_rfl))
 f241:=Tryz.func168.trans (congrArg some (by kernel_rfl))
 f263:=Tryz.func192.trans (congrArg some (by kernel_rfl))
 f264:=Tryz.func193.trans (congrArg some (by kernel_rfl))
 f276:=Tryz.func159.trans (congrArg some (by kernel_rfl))
 f277:=Tryz.func201.trans (congrArg some (by kernel_rfl))
 t0:=Tryz.underlying0
 a0:=Tryz.isAgg0
 z0:=Tryz.sizeOf0
 v0:=Tryz.zeroValue0
 t3:=X4
 a3:=Tryz.isAgg3
 z3:=Tryz.sizeOf3
 v3:=Tryz.zeroValue3
 t4:=Tryz.underlying4
 a4:=Tryz.isAgg4
 z4:=Tryz.sizeOf4
 v4:=Tryz.zeroValue4
 t5:=Xo
 a5:=Tryz.isAgg5
 z5:=Tryz.sizeOf5
 v5:=Tryz.zeroValue5
 t9:=Xa
 a9:=Tryz.isAgg9
 z9:=Tryz.sizeOf9
 v9:=Tryz.zeroValue9
 t20:=Tryz.underlying20
 a20:=Tryz.isAgg20
 z20:=Tryz.sizeOf20
 v20:=Tryz.zeroValue20
 t37:=Ym
 a37:=Tryz.isAgg69
 z37:=Tryz.sizeOf69
 v37:=Tryz.zeroValue69
 t46:=Tryz.underlying141
 a46:=Tryz.isAgg141
 z46:=Tryz.sizeOf141
 v46:=Tryz.zeroValue141
 t51:=Uk
 a51:=Tryz.isAgg52
 z51:=Tryz.sizeOf52
 v51:=Tryz.zeroValue52
 t53:=Tryz.underlying194
 a53:=Tryz.isAgg194
 z53:=Tryz.sizeOf194
 v53:=Tryz.zeroValue194
 t70:=Tryz.underlying160
 a70:=Tryz.isAgg160
 z70:=Tryz.sizeOf160
 v70:=Tryz.zeroValue160
 t72:=Tryz.underlying162
 a72:=Tryz.isAgg162
 z72:=Tryz.sizeOf162
 v72:=Tryz.zeroValue162
 t75:=Tryz.underlying165
 a75:=Tryz.isAgg165
 z75:=Tryz.sizeOf165
 v75:=Tryz.zeroValue165
 t76:=Tryz.underlying166
 a76:=Tryz.isAgg166
 z76:=Tryz.sizeOf166
 v76:=Tryz.zeroValue166
 t109:=Tryz.underlying242
 a109:=Tryz.isAgg242
 z109:=Tryz.sizeOf242
 v109:=Tryz.zeroValue242
 t127:=Tryz.underlying211
 a127:=Tryz.isAgg211
 z127:=Tryz.sizeOf211
 v127:=Tryz.zeroValue211
 t146:=Tryz.underlying279
 a146:=Tryz.isAgg279
 z146:=Tryz.sizeOf279
 v146:=Tryz.zeroValue279
 t148:=Tryz.underlying281
 a148:=Tryz.isAgg281
 z148:=Tryz.sizeOf281
 v148:=Tryz.zeroValue281
 t164:=Tryz.underlying251
 a164:=Tryz.isAgg251
 z164:=Tryz.sizeOf251
 v164:=Tryz.zeroValue251 }
theorem QAg:Go.Proofs.Builder.Extra Yd Qfl where
 sizeBuilder:=by kernel_rfl
 liesBuilder:=by kernel_rfl
 t5:=Xo
 a5:=Tryz.isAgg5
 z5:=Tryz.sizeOf5
 v5:=Tryz.zeroValue5
 infoByte:=by kernel_rfl
 cellsByte:=by kernel_rfl
 sizeByte:=by kernel_rfl
 neB5:=by decide
open Go Go.Eng
set_option maxHeartbeats 1000000
theorem bdE {KV:Value->Prop} (s0:ByteArray):Ca Yd 43 [(0,.string s0)] KV=KV (.agg #[.string s0,.string ⟨#[]⟩]):=Cx (by kernel_rfl)
attribute [go_sem ↓] bdE
theorem Qfm (n:Nat) (w:World) (hn:n<=1000):Does Yd 113 #[Ab [0],.int .i64 n] w fun v w'=>Heap w [] w' []/\v=Ab (Cf n):=by
 intro m;have hm:=Go.Proofs.Any.strings_Repeat QFx QAg ⟨#[0]⟩ n (w.drewN m) (by omega) (by simp [ByteArray.size];omega);refine hm.mono fun e w' ⟨he,hw⟩=>?_;refine ⟨_,w',0,he,rfl,⟨⟨hw.os,hw.tape,hw.output,hw.size,fun k hk _=>hw.block k hk⟩,by simp,by simp,.nil⟩,?_⟩
 have:∀ n,Lib.repeatL [0] n=Cf n:=by
  intro n
  induction n with
  | zero=>rfl
  | succ n ih=>rw [Lib.repeatL,ih,Cf,Cf,List.replicate_succ];rfl
 show _=Ab _
 rw [<- this]
theorem Qdg (s:Bs) (w:World) (hs:s.length<=1000000000000):Does Yd 80 #[Ab s] w fun v w'=>Heap w [] w' []/\v=Ab (Kw s):=by
 refine En [Ab s] 13 Tryz.func80 ?_;refine VS [0] ?_;refine VQ [0,3] fun K hK=>?_;rw [show (512 - (s.length:Int) % 512) % 512=(((512 - s.length % 512) % 512:Nat):Int) by omega];refine ⟨by omega,by omega,Yr (by omega) (by omega),by omega,by omega,?_⟩;apply hK;clear hK;refine VQ [2] fun K hK=>?_;refine Aa Tryz.call113 ?_;refine Qs ?_;refine Ya (Qfm ((512 - s.length % 512) % 512) w (by omega)) ?_;rintro v w2 ⟨hH,rfl⟩;refine Qs ?_;refine And.intro (by rw [K2];omega) ?_;apply hK;clear hK;exact Ae (Al rfl rfl ⟨hH,rfl⟩)
noncomputable def makeV (p c:Bs):Value :=
 if E9 p=some p then (if 8192 < c.length then .tuple #[Ab [],.int .i64 3] else .tuple #[Ab (Mu p c (tS c)),.int .i64 0]) else .tuple #[Ab [],.int .i64 140]
theorem Qs0 (p c:Bs) (w:World) (hT:Tb w) (hp:p.length<=1000000000) (hc:c.length<=140737488355328) :
  Does Yd 54 #[Ab p,Ab c] w fun v w'=>Heap w [] w' []/\v=makeV p c/\(E9 p=some p->c.length<=8192->P1 c (tS c)):=by
 rw [makeV];refine En [Ab p,Ab c] 52 Tryz.func54 ?_;refine VS [0,1] ?_;refine VS [0,1,13] ?_;refine VD (fun h=>?_) (fun h=>Ad ?_)
 ·
  refine VQ [7] fun K hK=>?_;refine Aa Tryz.call78 ?_;refine Qs ?_;refine Ya (Qfk p [] w hT hp (by simp)) ?_;rintro v w2 ⟨hH,rfl⟩;rw [Qnb];by_cases hg:E9 p=some p
  ·
   rw [if_pos hg,if_neg (by simp)];apply hK;clear hK;rw [if_pos hg,if_pos (by omega)];refine VS [7,21] ?_;refine Ai rfl rfl (fun h=>by simp at h) (fun h=>Ad ?_);refine VS [4,5] ?_;exact Ae (Bp rfl rfl rfl ⟨hH,rfl,fun _ h2=>by omega⟩)
  rw [if_neg hg];apply hK;clear hK;rw [if_neg hg];refine VS [7,21] ?_;refine Ai rfl rfl (fun h=>?_) (fun h=>by simp at h);refine VS [4,5] ?_;exact Ae (Bp rfl rfl rfl ⟨hH,rfl,fun h2 _=>absurd h2 hg⟩)
 refine VQ [1,8,9] fun K hK=>?_;refine Aa Tryz.call78 ?_;refine Qs ?_;refine Ya (Qfk p c w hT hp (by omega)) ?_;rintro v w2 ⟨hH,rfl⟩;rw [Qnb];by_cases hg:E9 p=some p
 ·
  rw [if_pos hg,if_neg (by omega)];apply hK;clear hK;rw [if_pos hg,if_neg (by omega)];refine VS [1,8,9,31] ?_;refine Ai rfl rfl (fun h=>by simp at h) (fun h=>Ad ?_);refine VQ [1,8,9,10] fun K hK=>?_;refine Aa Tryz.call79 ?_;refine Qs ?_;refine Ya (Qxd c 1 20000 w2 (Yr (by omega) (by omega)) (Yr (by omega) (by omega)) (by omega)) ?_;rintro v w3 ⟨hHx,hv⟩;rw [PackOk,if_neg (by omega),if_neg (by omega)] at hv;obtain ⟨bs,hb,rfl⟩:=hv;have hP:P1 c (Bj (F7 1 bs ((C4 c 20000).map Ck))):=⟨bs,hb,rfl⟩;have hP2:=hP;rw [hP.tS] at hP2;replace hH:=hH.call0 hHx;rw [Yb] at hH;clear hHx;rw [show X3 1=1 from rfl,hP.tS];generalize tS c=T at *;apply hK;clear hK
  show VC _ _ [(1,Ab c),(8,Ab (L4 p c.length++Kw c)),(9,.int .i64 0),(10,Ab T)] w3
  refine VS [1,8,9,10,39] ?_;refine Ai rfl rfl (fun h=>by simp at h) (fun h=>Ad ?_);have hsm:=hP2.small (by omega);refine Vb [4,5] [(0,0),(1,0),(2,0),(3,0),(8,0),(4,2),(5,0),(6,0),(7,0),(9,2),(10,0),(11,0),(12,0)] fun K hK=>?_;refine Aa Tryz.call80 ?_;refine Qs ?_;refine Ya (Qdg c w3 (by omega)) ?_;rintro v w4 ⟨hHx,rfl⟩;replace hH:=hH.call0 hHx;rw [Yb] at hH;clear hHx;refine Qs ?_;have hfl:=Qk2 hg c.length;have hpc:=Rc c;have hpT:=Rc T;have hf2:(L4 p c.length).length<=1536:=by rw [hfl];split <;> omega
  rw [show (L4 p c.length++Kw c).take ((L4 p c.length++Kw c).length - (Kw c).length)=L4 p c.length by
   rw [Yg,Nat.add_sub_cancel];exact List.take_left' rfl]
  refine And.intro (Yr (by rw [Yg];omega) (by rw [Yg];omega)) (And.intro (by rw [Yg];omega) ?_);refine Aa Tryz.call80 ?_;refine Qs ?_;refine Ya (Qdg T w4 (by omega)) ?_;rintro v w5 ⟨hHx,rfl⟩;replace hH:=hH.call0 hHx;rw [Yb] at hH;clear hHx;refine Qs ?_;refine Qo ?_;apply hK;clear hK;exact Ae (Bp rfl rfl rfl ⟨hH,rfl,fun _ _=>hP2⟩)
 rw [if_neg hg];apply hK;clear hK;rw [if_neg hg];refine VS [1,8,9,31] ?_;refine Ai rfl rfl (fun h=>?_) (fun h=>by simp at h);refine VS [4,5] ?_;exact Ae (Bp rfl rfl rfl ⟨hH,rfl,fun h2 _=>absurd h2 hg⟩)
theorem Qek (y:UInt8) (gen ix:Int) (hg:I64 gen) (hi:I64 ix) (s:Bs) (hs:s.length<=100000) (w:World):Does Yd 87 #[.int .u8 y.toNat,.int .i64 gen,.int .i64 ix,Ab s] w fun v w' =>
  Heap w [] w' []/\∃ (t:Bs) (e:Int),v=.tuple #[Ab t,.int .i64 e]/\t.length<=512/\(y.toNat≠0->0<=gen->gen<=4611686018427387904->0<=ix->ix<=2147483647->s.length<=486->e=0/\t.length=512):=by
 refine En [.int .u8 y.toNat,.int .i64 gen,.int .i64 ix,Ab s] 65 Tryz.func87 ?_;refine Aj [0,1,2,3] fun K hK=>?_;apply hK;clear hK;refine Aj [0,1,2,3,33] fun K hK=>?_
 suffices out:∀ b:Bool,(b=true ↔ y.toNat=0∨gen < 0∨4611686018427387904 < gen∨ix < 0∨2147483647 < ix∨486 < s.length)->K [(0,.int .u8 y.toNat),(1,.int .i64 gen),(2,.int .i64 ix),(3,Ab s),(33,.bool b)] w by
  (repeat' (first | exact out _ _ (by first | omega | (simp;done) | (simp;omega)) | exact out _ (by first | omega | (simp;done) | (simp;omega)) | refine ⟨fun _=>?_,fun _=>?_⟩ | refine Qo ?_))
 intro b hb;apply hK;clear hK;refine Ai rfl rfl (fun h=>?_) (fun h=>Ad ?_)
 ·
  have h:=hb.1 h;refine Aj [8,9] fun K hK=>?_;apply hK;clear hK;exact Ae (Bp rfl rfl rfl ⟨Yz w,[],200,rfl,by simp,fun _ _ _ _ _ _=>by omega⟩)
 have hno:¬ (y.toNat=0∨gen < 0∨4611686018427387904 < gen∨ix < 0∨2147483647 < ix∨486 < s.length):=fun h2=>by rw [hb.2 h2] at h;cases h
 clear hb h;obtain ⟨gn,rfl⟩:∃ n:Nat,gen=n:=⟨gen.toNat,by omega⟩;obtain ⟨ixn,rfl⟩:∃ n:Nat,ix=n:=⟨ix.toNat,by omega⟩;have eg:(gn:Int) % 18446744073709551616=(gn:Int):=by omega
 have ei:(ixn:Int) % 18446744073709551616=(ixn:Int):=by omega
 have es:(s.length:Int) % 18446744073709551616=(s.length:Int):=by omega
 (repeat refine Aw ?_);refine Qht [3,10] (.two [(0,true),(4,true),(5,true),(8,true),(9,true),(12,true),(13,true),(14,true)] 1 6 (.seq [(2,true),(3,true),(6,false),(7,true),(10,false),(11,true),(15,false),(16,true),(17,true)]) (.two [] 1 10 (.seq [(2,true),(3,true),(7,true),(10,false),(11,true),(15,false),(16,true),(17,true)]) (.two [] 1 15 (.seq [(2,true),(3,true),(7,true),(11,true),(15,false),(16,true),(17,true)]) (.seq [(1,false),(2,false),(3,true),(7,true),(11,true),(16,true),(17,true)])))) (by kernel_rfl) (by kernel_rfl) rfl fun K hK=>?_
 have last:∀ (q:Bs) (w9:World),q.length=19->Heap w [] w9 []->K [(3,Ab s),(10,Ab q)] w9:=by
  intro q w9 hq hH;clear eg ei es;apply hK;clear hK;refine Aj [10] fun K hK=>?_;refine And.intro (Yr (by omega) (by omega)) ?_;have e5:(489:Int) - s.length=((489 - s.length:Nat):Int):=by omega
  rw [e5];refine Aa Tryz.call113 ?_;refine Qi ?_;refine Ya (Qfm (489 - s.length) w9 (by omega)) ?_;rintro v w2 ⟨hA,rfl⟩;have hH:=hH.call0 hA;simp only [Yb] at hH;have hn:=K2 (489 - s.length);refine Qi ?_;refine And.intro (by omega) (And.intro (by simp only [Yg];omega) ?_);have hl:(q++(s++Cf (489 - s.length))).length=508:=by simp only [Yg];omega
  generalize q++(s++Cf (489 - s.length))=z at *;apply hK;clear hK;refine Aj [8,9] fun K hK=>?_;refine Aa Tryz.call53 ?_;refine Qi ?_;refine Ya (Qkn z w2 (by omega)) ?_;rintro v w3 ⟨hB,rfl⟩;have hH:=hH.call0 hB;simp only [Yb] at hH;have hlt:Oo z < 4294967296:=S0 _ 32;refine Qi ?_;rw [show ((Oo z:Nat):Int) % 18446744073709551616=((Oo z:Nat):Int) by omega];refine Aa Y9 ?_;refine Qi ?_;refine Ya (K0 (Oo z) 4 (by omega) (by omega) (by omega) w3) ?_;rintro v w4 ⟨hC,s4,h4,rfl⟩;have hH:=hH.call0 hC;simp only [Yb] at hH;refine Qi ?_;refine Qo ?_;apply hK;clear hK;exact Ae (Bp rfl rfl rfl ⟨hH,z++s4,0,rfl,by simp only [Yg];omega,fun _ _ _ _ _ _=>⟨rfl,by simp only [Yg];omega⟩⟩)
 clear hK;rw [Ff];simp only [A6,List.filterMap_cons,List.filterMap_nil,List.getElem?_cons_succ,List.getElem?_cons_zero,Option.map_some];refine Qi ?_;rw [eg,ei,es];have hW:=Yz w;have hE:=Yz w;refine And.intro ?_ ?_
 ·
  (refine Ei hE (Ao [y]) (xs:=[.tmp 34]) Ym E5 rfl rfl rfl (by omega) ?_;refine Qi ?_;refine ⟨rfl,by simp [Yh],fun g w4 hE2=>?_⟩;(try refine Qi ?_);replace hE:=hE2;clear hE2;refine ⟨hE.ext,?_⟩;try (refine Qi ?_))
  ((try simp only [Fx]);replace hW:=hW.call0 hE;simp only [Yb,Ys] at hW;clear hE;refine F5 fun hE=>?_;(first | rw [Ff] | rw [Fz]);simp only [A6,List.filterMap_cons,List.filterMap_nil,List.getElem?_cons_succ,List.getElem?_cons_zero,Option.map_some];refine Qi ?_)
  (refine ⟨[y],Fw (by first | exact As (hW.at 0 rfl) | exact As (hE.at 0 rfl)),?_⟩;try (refine Qi ?_))
  (repeat refine And.intro (by first | (simp;done) | (simp;omega)) ?_)
  (refine Aa Y9 ?_;refine Qi ?_;refine Ya (K0 gn 8 (by omega) (by omega) (by omega) _) ?_;rintro v w9 ⟨hHx,s1,h1,rfl⟩;replace hE:=hE.call0 hHx;rw [Yb] at hE;clear hHx;refine ⟨hE.ext,?_⟩;(try (refine Qi ?_)))
  (repeat refine And.intro (by first | (simp;done) | (simp;omega)) ?_)
  (refine Aa Y9 ?_;refine Qi ?_;refine Ya (K0 ixn 4 (by omega) (by omega) (by omega) _) ?_;rintro v w9 ⟨hHx,s2,h2,rfl⟩;replace hE:=hE.call0 hHx;rw [Yb] at hE;clear hHx;refine ⟨hE.ext,?_⟩;(try (refine Qi ?_)))
  (repeat refine And.intro (by first | (simp;done) | (simp;omega)) ?_)
  (refine Aa Y9 ?_;refine Qi ?_;refine Ya (K0 s.length 2 (by omega) (by omega) (by omega) _) ?_;rintro v w9 ⟨hHx,s3,h3,rfl⟩;replace hE:=hE.call0 hHx;rw [Yb] at hE;clear hHx;refine ⟨hE.ext,?_⟩;(try (refine Qi ?_)))
  (repeat refine And.intro (by first | (simp;done) | (simp;omega)) ?_);exact last _ _ (by simp;omega) ((hW.call0 hE).sub (Yi _))
 (refine Aa Y9 ?_;refine Qi ?_;refine Ya (K0 gn 8 (by omega) (by omega) (by omega) _) ?_;rintro v w9 ⟨hHx,s1,h1,rfl⟩;replace hE:=hE.call0 hHx;rw [Yb] at hE;clear hHx;refine ⟨hE.ext,?_⟩;(try (refine Qi ?_)))
 ((try simp only [Fx]);replace hW:=hW.call0 hE;simp only [Yb,Ys] at hW;clear hE;refine F5 fun hE=>?_;(first | rw [Ff] | rw [Fz]);simp only [A6,List.filterMap_cons,List.filterMap_nil,List.getElem?_cons_succ,List.getElem?_cons_zero,Option.map_some];refine Qi ?_)
 refine And.intro ?_ ?_
 ·
  (refine Ei hE (Ao [y]) (xs:=[.tmp 34]) Ym E5 rfl rfl rfl (by omega) ?_;refine Qi ?_;refine ⟨rfl,by simp [Yh],fun g w4 hE2=>?_⟩;(try refine Qi ?_);replace hE:=hE2;clear hE2;refine ⟨hE.ext,?_⟩;try (refine Qi ?_))
  ((try simp only [Fx]);replace hW:=hW.call0 hE;simp only [Yb,Ys] at hW;clear hE;refine F5 fun hE=>?_;(first | rw [Ff] | rw [Fz]);simp only [A6,List.filterMap_cons,List.filterMap_nil,List.getElem?_cons_succ,List.getElem?_cons_zero,Option.map_some];refine Qi ?_)
  (refine ⟨[y],Fw (by first | exact As (hW.at 0 rfl) | exact As (hE.at 0 rfl)),?_⟩;try (refine Qi ?_))
  (repeat refine And.intro (by first | (simp;done) | (simp;omega)) ?_)
  (refine Aa Y9 ?_;refine Qi ?_;refine Ya (K0 ixn 4 (by omega) (by omega) (by omega) _) ?_;rintro v w9 ⟨hHx,s2,h2,rfl⟩;replace hE:=hE.call0 hHx;rw [Yb] at hE;clear hHx;refine ⟨hE.ext,?_⟩;(try (refine Qi ?_)))
  (repeat refine And.intro (by first | (simp;done) | (simp;omega)) ?_)
  (refine Aa Y9 ?_;refine Qi ?_;refine Ya (K0 s.length 2 (by omega) (by omega) (by omega) _) ?_;rintro v w9 ⟨hHx,s3,h3,rfl⟩;replace hE:=hE.call0 hHx;rw [Yb] at hE;clear hHx;refine ⟨hE.ext,?_⟩;(try (refine Qi ?_)))
  (repeat refine And.intro (by first | (simp;done) | (simp;omega)) ?_);exact last _ _ (by simp;omega) ((hW.call0 hE).sub (Yi _))
 (refine Aa Y9 ?_;refine Qi ?_;refine Ya (K0 ixn 4 (by omega) (by omega) (by omega) _) ?_;rintro v w9 ⟨hHx,s2,h2,rfl⟩;replace hE:=hE.call0 hHx;rw [Yb] at hE;clear hHx;refine ⟨hE.ext,?_⟩;(try (refine Qi ?_)))
 ((try simp only [Fx]);replace hW:=hW.call0 hE;simp only [Yb,Ys] at hW;clear hE;refine F5 fun hE=>?_;(first | rw [Ff] | rw [Fz]);simp only [A6,List.filterMap_cons,List.filterMap_nil,List.getElem?_cons_succ,List.getElem?_cons_zero,Option.map_some];refine Qi ?_)
 refine And.intro ?_ ?_
 ·
  (refine Ei hE (Ao [y]) (xs:=[.tmp 34]) Ym E5 rfl rfl rfl (by omega) ?_;refine Qi ?_;refine ⟨rfl,by simp [Yh],fun g w4 hE2=>?_⟩;(try refine Qi ?_);replace hE:=hE2;clear hE2;refine ⟨hE.ext,?_⟩;try (refine Qi ?_))
  ((try simp only [Fx]);replace hW:=hW.call0 hE;simp only [Yb,Ys] at hW;clear hE;refine F5 fun hE=>?_;(first | rw [Ff] | rw [Fz]);simp only [A6,List.filterMap_cons,List.filterMap_nil,List.getElem?_cons_succ,List.getElem?_cons_zero,Option.map_some];refine Qi ?_)
  (refine ⟨[y],Fw (by first | exact As (hW.at 0 rfl) | exact As (hE.at 0 rfl)),?_⟩;try (refine Qi ?_))
  (repeat refine And.intro (by first | (simp;done) | (simp;omega)) ?_)
  (refine Aa Y9 ?_;refine Qi ?_;refine Ya (K0 s.length 2 (by omega) (by omega) (by omega) _) ?_;rintro v w9 ⟨hHx,s3,h3,rfl⟩;replace hE:=hE.call0 hHx;rw [Yb] at hE;clear hHx;refine ⟨hE.ext,?_⟩;(try (refine Qi ?_)))
  (repeat refine And.intro (by first | (simp;done) | (simp;omega)) ?_);exact last _ _ (by simp;omega) ((hW.call0 hE).sub (Yi _))
 (refine Aa Y9 ?_;refine Qi ?_;refine Ya (K0 s.length 2 (by omega) (by omega) (by omega) _) ?_;rintro v w9 ⟨hHx,s3,h3,rfl⟩;replace hE:=hE.call0 hHx;rw [Yb] at hE;clear hHx;refine ⟨hE.ext,?_⟩;(try (refine Qi ?_)))
 ((try simp only [Fx]);replace hW:=hW.call0 hE;simp only [Yb,Ys] at hW;clear hE;refine F5 fun hE=>?_;(first | rw [Ff] | rw [Fz]);simp only [A6,List.filterMap_cons,List.filterMap_nil,List.getElem?_cons_succ,List.getElem?_cons_zero,Option.map_some];refine Qi ?_)
 (refine Ei hE (Ao [y]) (xs:=[.tmp 34]) Ym E5 rfl rfl rfl (by omega) ?_;refine Qi ?_;refine ⟨rfl,by simp [Yh],fun g w4 hE2=>?_⟩;(try refine Qi ?_);replace hE:=hE2;clear hE2;refine ⟨hE.ext,?_⟩;try (refine Qi ?_))
 (refine ⟨[y],Fw (by first | exact As (hW.at 0 rfl) | exact As (hE.at 0 rfl)),?_⟩;try (refine Qi ?_))
 (repeat refine And.intro (by first | (simp;done) | (simp;omega)) ?_);exact last _ _ (by simp;omega) ((hW.call0 hE).sub (Yi _))
structure Dk where
 g:Nat
 cap:Int
 ka:OA
 kl:Bs
 kc:Nat
 na:OA
 nl:Bs
 nc:Nat
 pa:OA
 pl:LV
 pc:Nat
 ca:Int
structure Dk.ok (D:Dk) (k:Nat):Prop where
 c1:31<=D.cap
 c2:D.cap<=4096
 n1:D.nl.length<=2097152
 k1:D.kl.length<=2097152
 p1:D.pl.length+k<=1000000000
 p2:∀ v∈D.pl,v.oneCell'=true
 a1:0<=D.ca
 a2:D.ca+k<=1000000000
def dC (D:Dk):LV:=[.int .i64 D.cap,.slice D.ka D.kl.length D.kc,.slice D.na D.nl.length D.nc,.slice D.pa D.pl.length D.pc,.int .i64 0,.slice none 0 0,.bool false,.int .i64 D.ca]
@[simp] theorem dC_len (D:Dk):(dC D).length=8:=rfl
def dL (D:Dk):List Res:=[Ye D.g 72 (dC D),Y0 5 1 D.ka D.kl.length D.kc (Ao D.kl),Y0 5 1 D.na D.nl.length D.nc (Ao D.nl),Y0 172 1 D.pa D.pl.length D.pc D.pl]
section
variable {w0 w:World}{B:LN}{G:List Res}{D:Dk}{k:Nat}
theorem Ka (hH:Heap w0 B w (dL D++G)) {k:Nat}{v:Value} (hv:(dC D)[k]? = some v):w.cell? ⟨D.g,k,none⟩=some v:=Af (hH.at 0 rfl) hv
theorem Sk (hD:D.ok k) (hH:Heap w0 B w (dL D++G)):Does Yd 27 #[pV D.g] w fun v w'=>w'=w/\v=.bool false:=by
 obtain ⟨h1,h2,_⟩:=hD;refine En [pV D.g] 12 Tryz.func27 ?_;refine VS [0] ?_;refine VQ [2] fun K hK=>?_;refine ⟨_,Ka hH (k:=0) rfl,?_⟩;refine Qs ?_;rw [decide_eq_false (by omega)];apply hK;clear hK;exact Ae (Al rfl rfl ⟨rfl,rfl⟩)
theorem Nk (hD:D.ok k) (hH:Heap w0 B w (dL D++G)):Does Yd 29 #[pV D.g] w fun v w'=>w'=w/\v=.int .i64 D.cap:=by
 refine En [pV D.g] 9 Tryz.func29 ?_;refine VS [0] ?_;refine VQ [0,4] fun K hK=>?_;refine Aa Xp ?_;refine Qs ?_;refine Ya (Sk hD hH) ?_;rintro v w2 ⟨rfl,rfl⟩;apply hK;clear hK;refine Ai rfl rfl (fun h=>by simp at h) (fun h=>Ad ?_);refine VQ [2] fun K hK=>?_;refine ⟨_,Ka hH (k:=0) rfl,?_⟩;apply hK;clear hK;exact Ae (Al rfl rfl ⟨rfl,rfl⟩)
theorem Qz (hD:D.ok k) (hH:Heap w0 B w (dL D++G)):Does Yd 17 #[pV D.g] w fun v w'=>w'=w/\v=.int .i64 (D.nl.length / 512:Nat):=by
 refine En [pV D.g] 11 Tryz.func17 ?_;refine VS [0] ?_;refine VQ [0,4] fun K hK=>?_;refine Aa Xp ?_;refine Qs ?_;refine Ya (Sk hD hH) ?_;rintro v w2 ⟨rfl,rfl⟩;apply hK;clear hK;refine Ai rfl rfl (fun h=>by simp at h) (fun h=>Ad ?_);refine VQ [2] fun K hK=>?_;refine ⟨_,Ka hH (k:=2) rfl,?_⟩;refine Qs ?_;have h1:=hD.n1;refine ⟨by omega,by omega,Yr (by omega) (by omega),?_⟩;apply hK;clear hK;refine Ae (Al rfl rfl ⟨rfl,?_⟩)
 congr 1
theorem Zc (hD:D.ok k) (hH:Heap w0 B w (dL D++G)):Does Yd 72 #[pV D.g] w fun v w'=>w'=w/\v=.int .i64 0:=by
 refine En [pV D.g] 11 Tryz.func72 ?_;refine VS [0] ?_;refine VB ?_;refine VQ [0,3] fun K hK=>?_;refine Aa Xp ?_;refine Qs ?_;refine Ya (Sk hD hH) ?_;rintro v w2 ⟨rfl,rfl⟩;apply hK;clear hK;refine Ai rfl rfl (fun h=>by simp at h) (fun h=>?_);refine VQ [6] fun K hK=>?_;refine ⟨_,Ka hH (k:=6) rfl,?_⟩;apply hK;clear hK;refine Ai rfl rfl (fun h=>by simp at h) (fun h=>Ad ?_);refine An ?_;refine VS [2] ?_;exact Ae (Al rfl rfl ⟨rfl,rfl⟩)
theorem Qcm (hD:D.ok k) (hH:Heap w0 B w (dL D++G)):Does Yd 30 #[pV D.g] w fun v w'=>w'=w/\v=.bool false:=by
 refine En [pV D.g] 12 Tryz.func30 ?_;refine VS [0] ?_;refine VQ [2] fun K hK=>?_;refine Aa Xp ?_;refine Qs ?_;refine Ya (Sk hD hH) ?_;rintro v w2 ⟨rfl,rfl⟩;refine Qs ?_;refine ⟨_,Ka hH (k:=6) rfl,?_⟩;apply hK;clear hK;exact Ae (Al rfl rfl ⟨rfl,rfl⟩)
theorem Qfn (hD:D.ok k) (hH:Heap w0 B w (dL D++G)):Does Yd 8 #[pV D.g] w fun v w'=>w'=w/\v=Ab D.nl:=by
 refine En [pV D.g] 10 Tryz.func8 ?_;refine VS [0] ?_;refine VQ [0,4] fun K hK=>?_;refine Aa Xp ?_;refine Qs ?_;refine Ya (Sk hD hH) ?_;rintro v w2 ⟨rfl,rfl⟩;apply hK;clear hK;refine Ai rfl rfl (fun h=>by simp at h) (fun h=>Ad ?_);refine VQ [2] fun K hK=>?_;refine ⟨_,Ka hH (k:=2) rfl,?_⟩;refine Qs ?_;refine ⟨D.nl,hH.readsBytes 2 rfl,?_⟩;apply hK;clear hK;exact Ae (Al rfl rfl ⟨rfl,rfl⟩)
theorem Qfo (hD:D.ok k) (hH:Heap w0 B w (dL D++G)):Does Yd 9 #[pV D.g] w fun v w'=>w'=w/\v=.int .i64 D.ca:=by
 refine En [pV D.g] 9 Tryz.func9 ?_;refine VS [0] ?_;refine VQ [0,4] fun K hK=>?_;refine Aa Xp ?_;refine Qs ?_;refine Ya (Sk hD hH) ?_;rintro v w2 ⟨rfl,rfl⟩;apply hK;clear hK;refine Ai rfl rfl (fun h=>by simp at h) (fun h=>Ad ?_);refine VQ [2] fun K hK=>?_;refine ⟨_,Ka hH (k:=7) rfl,?_⟩;apply hK;clear hK;exact Ae (Al rfl rfl ⟨rfl,rfl⟩)
theorem Qs1 (hD:D.ok (k+1)) (i:Int) (hi:I64 i) (hH:Heap w0 B w (dL D++G)):Does Yd 45 #[pV D.g,.int .i64 i] w fun v w' =>
  w'=w/\(∃ e,e≠0/\v=.tuple #[Ab [],.int .i64 e])/\¬ (0<=i/\(i+1) * 512<=D.nl.length)∨Heap w0 B w' (dL { D with ca:=D.ca+1 }++G)/\∃ s:Bs,s.length=512/\v=.tuple #[Ab s,.int .i64 0]:=by
 refine En [pV D.g,.int .i64 i] 38 Tryz.func45 ?_;refine VS [0,1] ?_;refine VQ [0,1,6] fun K hK=>?_;refine Aa Ua ?_;refine Qs ?_;refine Ya (Zc hD hH) ?_;rintro v w2 ⟨rfl,rfl⟩;apply hK;clear hK;refine VS [0,1,6,10] ?_;refine Ai rfl rfl (fun h=>by simp at h) (fun h=>Ad ?_);have h1:=hD.n1;have h2:=hD.a1;have h3:=hD.a2;by_cases hin:i < 0∨(D.nl.length / 512:Nat)<=i
 ·
  refine VQ [0,1,19] fun K hK=>?_
  suffices out:K [(0,pV D.g),(1,.int .i64 i),(19,.bool true)] w2 by
   refine ⟨fun hn=>?_,fun hn=>?_⟩
   ·
    refine Aa Xq ?_;refine Qs ?_;refine Ya (Qz hD hH) ?_;rintro v w2 ⟨rfl,rfl⟩;refine Qs ?_;rw [decide_eq_true (by omega)];exact out
   exact out
  apply hK;clear hK;refine Ai rfl rfl (fun h=>?_) (fun h=>by simp at h);refine VS [4,5] ?_;exact Ae (Bp rfl rfl rfl (.inl ⟨rfl,⟨191,by decide,rfl⟩,by omega⟩))
 obtain ⟨j,rfl⟩:∃ j:Nat,i=j:=⟨i.toNat,by omega⟩;have hj:j < D.nl.length / 512:=by omega
 clear hin;refine VQ [0,1,19] fun K hK=>?_
 suffices out:K [(0,pV D.g),(1,.int .i64 j),(19,.bool false)] w2 by
  refine ⟨fun hn=>?_,fun hn=>by omega⟩;refine Aa Xq ?_;refine Qs ?_;refine Ya (Qz hD hH) ?_;rintro v w2 ⟨rfl,rfl⟩;refine Qs ?_;rw [decide_eq_false (by omega)];exact out
 apply hK;clear hK;refine Ai rfl rfl (fun h=>by simp at h) (fun h=>Ad ?_);refine VQ [0,1] fun K hK=>?_;refine ⟨_,Ka hH (k:=7) rfl,?_⟩;refine Qs ?_;(repeat first | refine Qo ?_ | refine Qp ?_);refine Ag ?_;refine Qs ?_;refine Ap hH 0 (vs:=[.int .i64 (D.ca+1)]) rfl rfl (by kernel_rfl) (by first | decide | (simp;done) | (simp;omega)) (by simp [Yc]) fun w6 hH2=>?_;(try refine Qs ?_);have hH3:Heap w0 B w6 (dL { D with ca:=D.ca+1 }++G):=hH2;clear hH hH2;apply hK;clear hK;refine VQ [4,5] fun K hK=>?_;refine ⟨_,Ka hH3 (k:=2) rfl,?_⟩;refine Qs ?_;(repeat first | refine Qo ?_ | refine Qp ?_);obtain ⟨g,hg⟩:=Cw (hH3.at 2 rfl) (show 0 < D.nl.length by omega);have hg:D.na=some ⟨g,0,none⟩:=hg;have hR:RS w6 D.na D.nl.length 1 (Ao D.nl):=As (hH3.at 2 rfl);rw [hg] at hR;have hcap:D.nl.length<=D.nc:=(hH3.at 2 rfl).2.1;refine ⟨⟨by omega,by omega,by omega⟩,(D.nl.drop (j * 512)).take 512,?_,?_⟩
 ·
  rw [show ((j:Int) * 512).toNat=j * 512 by omega,show (((j:Int)+1) * 512).toNat - j * 512=512 by omega,if_neg (by omega),hg];have h:=(RS.drop hR rfl (j * 512) (by omega)).take 512 (by omega);simp only [Nat.mul_one,bytesV_drop,bytesV_take] at h;exact Fw h
 apply hK;clear hK;exact Ae (Bp rfl rfl rfl (.inr ⟨hH3,_,by simp;omega,rfl⟩))
end
theorem QA0 {P:Program}{w:World}{KV:Value->Prop}{T:TypeId}{ps rs:Array TypeId}{v:Bool} (hu:P.underlying T=some (.func ps rs v)) (f:Fn) (x y:Array Value) (xo yo:Operand):A3 P .neq T xo yo (.func f x y) .nilFunc w KV=KV (.bool true):=by
 refine Ou fun w'=>?_;simp only [Xu];rw [R8 ⟨by simp,by simp⟩];simp only [X0,binOp,Xu,Qgx hu,Sem.run_pure];rfl
theorem Qud {P:Program}{w:World}{KV:Value->Prop}{T:TypeId}{ps rs:Array TypeId}{v:Bool} (hu:P.underlying T=some (.func ps rs v)) (xo yo:Operand):A3 P .neq T xo yo .nilFunc .nilFunc w KV=KV (.bool false):=by
 have h:∀ (d:Nat) (w:World),(Op.equalIn (d+1) T .nilFunc .nilFunc).run P w=.ok true w:=fun d w=>by unfold Op.equalIn;simp [run_underlying hu]
 refine Ou fun w'=>?_;simp only [Xu];rw [R8 ⟨by simp,by simp⟩];simp only [X0,binOp,Xu];rw [show (Op.equal T .nilFunc .nilFunc).run P w'=.ok true w' from h 9999 w'];rfl
theorem Qo4 (l:Bs) (hs:l.length<=1000000000) (a:OA) (lc:Nat) (w:World) (hr:RS w a l.length 1 (Ao l)) :
  Does Yd 97 #[.slice a l.length lc] w fun v w'=>∃ a' cap,Heap w [] w' [Y0 5 1 a' l.length cap (Ao l)]/\v=.slice a' l.length cap:=by
 refine En [.slice a l.length lc] 8 Tryz.func97 ?_;refine VS [0] ?_;cases a with
 | none =>
  have h0:l.length=0:=hr.2.1 rfl;obtain rfl:=Y7 h0;refine VQ [0,4] fun K hK=>?_;rw [Q1 Ym];apply hK;clear hK;refine Ai rfl rfl (fun h=>?_) (fun h=>by simp at h);refine VS [2] ?_;exact Ae (Al rfl rfl ⟨none,0,Sq,rfl⟩)
 | some p =>
  refine VQ [0,4] fun K hK=>?_;rw [Q1 Ym];apply hK;clear hK;refine Ai rfl rfl (fun h=>by simp at h) (fun h=>Ad ?_);refine VQ [2] fun K hK=>?_;refine Zw (Yz w) 1 Ym E5 (z:=.int .u8 0) (by kernel_rfl) rfl fun g w1 hH=>?_;refine Qs ?_;refine Ce ?_;refine Qs ?_;refine C3 (zs:=#[.int .u8 0]) (bytes:=1) hH 0 rfl Ym (by kernel_rfl) rfl (m:=l.length) (news:=Ao l) ⟨rfl,hH.rs' hr,5,Ym⟩ (Vf l) (fun h=>by omega) fun a' cap' w2 hc' hH2=>?_;simp only [Yl,Yb,Xs] at hH2;rw [Xs];apply hK;clear hK;exact Ae (Al rfl rfl ⟨_,_,hH2,rfl⟩)
theorem Re {w0 w:World}{B:LN}{G:List Res}{D:Dk}{r:Res} (h:Heap w0 B w (r::(dL D++G))):Heap w0 B w (dL D++(r::G)):=h.under [r] (dL D)
def QLr (c:Value) (X:List Res) (R:Bs->Bs->Prop):Prop :=
 ∀ {w0 w:World}{B:LN}{G:List Res}{a:OA}{l:Bs}{cp:Nat},l.length<=2097152->Heap w0 B w (Y0 5 1 a l.length cp (Ao l)::(X++G)) ->
  FnK Yd c [.slice a l.length cp] w fun v w'=>∃ (a':OA) (l':Bs) (cp':Nat),v=.slice a' l'.length cp'/\R l l'/\Heap w0 B w' (Y0 5 1 a' l'.length cp' (Ao l')::(X++G))
theorem Qh5 {w0 w:World}{B:LN}{G X:List Res}{D:Dk}{k:Nat} (hD:D.ok (k+1)) {f:Fn}{x y:Array Value}{R:Bs->Bs->Prop} (hc:QLr (.func f x y) X R) (hR:∀ l',R D.nl l'->l'.length<=2097152) (hH:Heap w0 B w (dL D++(X++G))) :
  Does Yd 73 #[pV D.g,.func f x y] w fun v w'=>v=.int .i64 0/\∃ D':Dk,D'.ok k/\D'.g=D.g/\D'.cap=D.cap/\R D.nl D'.nl/\Heap w0 B w' (dL D'++(X++G)):=by
 have p1:=hD.p1;have a1:=hD.a1;have a2:=hD.a2;refine En [pV D.g,.func f x y] 125 Tryz.func73 ?_;refine VS [0,1] ?_;refine VQ [0,1,8] fun K hK=>?_;rw [QA0 Xm];apply hK;clear hK;refine Ai rfl rfl (fun h=>?_) (fun h=>by simp at h);clear h;refine VQ [0,1] fun K hK=>?_;refine ⟨_,Ka hH (k:=3) rfl,?_⟩;refine Ei hH ([Ug f x y]) (xs:=[.tmp 14]) X1 QGb rfl rfl rfl (by omega) ?_;refine Qs ?_;refine ⟨trivial,by simp [Yh],fun g w4 hH2=>?_⟩;refine Ce ?_;refine Qs ?_;refine C3 (zs:=#[.nilFunc]) (bytes:=8) hH2 4 rfl X1 (by kernel_rfl) rfl (m:=1) (news:=[.func f x y]) ⟨rfl,As (hH2.at 0 rfl),172,X1⟩ (by simp [Yc]) (fun h=>by omega) fun a' cap' w5 hc' hH3=>?_;rw [show D.pl.length+1=(D.pl++[Ug f x y]).length by simp] at hH3 ⊢;refine Ag ?_;refine Qs ?_;refine Ap hH3 1 (vs:=[.slice a' (D.pl++[Ug f x y]).length cap']) rfl rfl (by kernel_rfl) (by first | decide | (simp;done) | (simp;omega)) (by simp [Yc]) fun w6 hH4=>?_;(try refine Qs ?_);obtain ⟨D1,hD1⟩:∃ D1:Dk,D1={ D with pa:=a',pl:=D.pl++[Ug f x y],pc:=cap' }:=⟨_,rfl⟩;have hH5:Heap w0 B w6 (dL D1++(X++G)):=by rw [hD1];exact hH4.sub (Yf _ _)
 have e1:D1.g=D.g:=by rw [hD1]
 have e2:D1.nl=D.nl:=by rw [hD1]
 have e3:D1.ca=D.ca:=by rw [hD1]
 have e4:D1.cap=D.cap:=by rw [hD1]
 have hok:D1.ok k:=by
  obtain ⟨c1,c2,n1,k1,_,p2,_,_⟩:=hD;rw [hD1];refine ⟨c1,c2,n1,k1,by simp;omega,fun v hv=>?_,a1,by show D.ca+_<=_;omega⟩;rcases Yu.1 hv with h | h
  ·
   exact p2 v h
  simp at h;subst h;rfl
 rw [<- e1];clear hH hH2 hH3 hH4 hc' hD1;apply hK;clear hK;refine VQ [0,1,24] fun K hK=>?_;refine ⟨_,Ka hH5 (k:=4) rfl,?_⟩;refine Qs ?_;apply hK;clear hK;refine Ai rfl rfl (fun h=>by simp at h) (fun h=>Ad ?_);clear h;refine VQ [0,1,97] fun K hK=>?_;rw [QA0 Xm];apply hK;clear hK;refine Ai rfl rfl (fun h=>?_) (fun h=>by simp at h);clear h;refine VQ [0] fun K hK=>?_;refine ⟨_,Ka hH5 (k:=2) rfl,?_⟩;refine Er ?_;refine Qs ?_;refine FnK.to (hc (by rw [e2];exact hD.n1) ((hH5.front 2 rfl).under1 _ [_,_,_] X)) ?_;rintro v w7 ⟨a2',l',c2',rfl,hRl,hH6⟩;have hH7:=(hH6.under1 _ X [_,_,_]).perm ((List.Perm.swap _ _ _).trans ((List.Perm.swap _ _ _).cons _));clear hH5 hH6;refine Ag ?_;refine Qs ?_;refine Ap hH7 0 (vs:=[.slice a2' l'.length c2']) rfl rfl (by kernel_rfl) (by first | decide | (simp;done) | (simp;omega)) (by simp [Yc]) fun w6 hH8=>?_;(try refine Qs ?_);have hH9:Heap w0 B w6 (dL { D1 with na:=a2',nl:=l',nc:=c2' }++(X++G)):=hH8;apply hK;clear hK;rw [e2] at hRl;have hl':=hR l' hRl;refine VQ [] fun K hK=>?_;refine ⟨_,Ka hH9 (k:=7) rfl,?_⟩;refine Qs ?_;(repeat first | refine Qo ?_ | refine Qp ?_);refine Ag ?_;refine Qs ?_;refine Ap hH9 0 (vs:=[.int .i64 (D1.ca+1)]) rfl rfl (by kernel_rfl) (by first | decide | (simp;done) | (simp;omega)) (by simp [Yc]) fun w6 hHa=>?_;(try refine Qs ?_);apply hK;clear hK;refine VS [4] ?_;refine Ae (Al rfl rfl ⟨rfl,{ D1 with na:=a2',nl:=l',nc:=c2',ca:=D1.ca+1 },?_,e1,e4,hRl,hHa⟩);obtain ⟨c1,c2,n1,k1,p1,p2,_,_⟩:=hok;exact ⟨c1,c2,hl',k1,p1,p2,by show 0<=D1.ca+1;omega,by show D1.ca+1+_<=_;omega⟩
theorem Qo5 {w0 w:World}{B:LN}{G:List Res}{D:Dk}{k:Nat} (hD:D.ok (k+1)) (hH:Heap w0 B w (dL D++G)) :
  Does Yd 73 #[pV D.g,.nilFunc] w fun v w'=>v=.int .i64 0/\∃ D':Dk,D'.ok k/\D'.g=D.g/\D'.cap=D.cap/\D'.nl=D.nl/\Heap w0 B w' (dL D'++G):=by
 have p1:=hD.p1;have a1:=hD.a1;have a2:=hD.a2;refine En [pV D.g,.nilFunc] 125 Tryz.func73 ?_;refine VS [0,1] ?_;refine VQ [0,1,8] fun K hK=>?_;rw [Qud Xm];apply hK;clear hK;refine Ai rfl rfl (fun h=>by simp at h) (fun h=>Ad ?_);clear h;refine VQ [0,1,24] fun K hK=>?_;refine ⟨_,Ka hH (k:=4) rfl,?_⟩;refine Qs ?_;apply hK;clear hK;refine Ai rfl rfl (fun h=>by simp at h) (fun h=>Ad ?_);clear h;refine VQ [0,1,97] fun K hK=>?_;rw [Qud Xm];apply hK;clear hK;refine Ai rfl rfl (fun h=>by simp at h) (fun h=>?_);clear h;refine VQ [0] fun K hK=>?_;refine ⟨_,Ka hH (k:=2) rfl,?_⟩;have hn:RS w D.na D.nl.length 1 (Ao D.nl):=As (hH.at 2 rfl);refine Aa Tryz.call97 ?_;refine Qs ?_;refine Ya (Qo4 D.nl (by have:=hD.n1;omega) D.na D.nc w hn) ?_;rintro v w2 ⟨a',cap,hHc,rfl⟩;have hH2:=hH.call0 hHc;refine Ag ?_;refine Qs ?_;refine Ap hH2 1 (vs:=[.slice a' D.nl.length cap]) rfl rfl (by kernel_rfl) (by first | decide | (simp;done) | (simp;omega)) (by simp [Yc]) fun w6 hH3=>?_;(try refine Qs ?_);refine Ag ?_;refine Qs ?_;refine Ap hH3 1 (vs:=[.slice none 0 0]) rfl rfl (by kernel_rfl) (by first | decide | (simp;done) | (simp;omega)) (by simp [Yc]) fun w6 hH4=>?_;(try refine Qs ?_)
 have hH5:Heap w0 B w6 (dL { D with ka:=a',kl:=D.nl,kc:=cap,pa:=none,pl:=[],pc:=0 }++G) :=
  ((((hH4.nilRow 172 1).sub (.cons_cons _ (.cons_cons _ (.cons_cons _ (.cons _ (.cons_cons _ (.cons _ (.refl _)))))))).front 3 rfl).front 2 rfl).front 3 rfl
 clear hH hH2 hH3 hH4 hHc hn;apply hK;clear hK;refine VQ [] fun K hK=>?_;refine ⟨_,Ka hH5 (k:=7) rfl,?_⟩;refine Qs ?_;(repeat first | refine Qo ?_ | refine Qp ?_);refine Ag ?_;refine Qs ?_;refine Ap hH5 0 (vs:=[.int .i64 (D.ca+1)]) rfl rfl (by kernel_rfl) (by first | decide | (simp;done) | (simp;omega)) (by simp [Yc]) fun w6 hHa=>?_;(try refine Qs ?_);apply hK;clear hK;refine VS [4] ?_;refine Ae (Al rfl rfl ⟨rfl,{ D with ka:=a',kl:=D.nl,kc:=cap,pa:=none,pl:=[],pc:=0,ca:=D.ca+1 },?_,rfl,rfl,rfl,hHa⟩);obtain ⟨c1,c2,n1,k1,p1,p2,_,_⟩:=hD;exact ⟨c1,c2,n1,n1,by show 0+_<=_;omega,by simp,by show 0<=D.ca+1;omega,by show D.ca+1+_<=_;omega⟩
structure Dk.nx (D D':Dk) (k:Nat):Prop where
 ok:D'.ok k
 g:D'.g=D.g
 cap:D'.cap=D.cap
 up:D.nl.length<=D'.nl.length
theorem Dk.ok.mono {D:Dk}{k m:Nat} (h:D.ok k) (hm:m<=k):D.ok m:=by
 obtain ⟨c1,c2,n1,k1,p1,p2,a1,a2⟩:=h;exact ⟨c1,c2,n1,k1,by omega,p2,a1,by omega⟩
theorem Dk.nx.trans {D D1 D2:Dk}{k m:Nat} (h:D.nx D1 k) (h2:D1.nx D2 m):D.nx D2 m:=⟨h2.ok,h2.g.trans h.g,h2.cap.trans h.cap,X5 h.up h2.up⟩
section
variable {w0 w:World}{B:LN}{G:List Res}{D:Dk}{k:Nat}
abbrev wrX (gi gs:Nat) (i:Nat) (s:Bs):List Res:=[Ye gs 9 [Ab s],Ye gi 3 [.int .i64 i]]
abbrev QQq (gi gs:Nat) (i:Int) (s:Bs):List Res:=[Ye gs 9 [Ab s],Ye gi 3 [.int .i64 i]]
theorem QFy (gi gs i:Nat) (s:Bs) (hi:i < 4096) (hs:s.length=512):QLr (.func (.func 74) #[] #[pV gi,pV gs]) (wrX gi gs i s) fun l l'=>l'.length<=2097152/\l.length<=l'.length/\(i+1) * 512<=l'.length:=by
 intro w0 w B G a l0 cp hl hH;refine FnK.mk (first:=#[]) (cs:=#[pV gi,pV gs]) Tryz.call74 ?_ fun _ _ h=>h
 show Does Yd 74 #[.slice a l0.length cp,pV gi,pV gs] w _
 refine En [.slice a l0.length cp,pV gi,pV gs] 26 Tryz.func74 ?_;refine VS [0,1,2] ?_;refine VQ [0,1,2,5] fun K hK=>?_;refine ⟨_,Af (hH.at 2 rfl) rfl,?_⟩;refine Qs ?_;(repeat first | refine Qo ?_ | refine Qp ?_);apply hK;clear hK;refine VS [0,1,2,5,12] ?_;refine Do [0,1,2] (fun e w'=>∃ (a:OA) (l:Bs) (cp:Nat),Is e [(0,.slice a l.length cp),(1,pV gi),(2,pV gs)]/\Heap w0 B w' (Y0 5 1 a l.length cp (Ao l)::(wrX gi gs i s++G))/\(i+1) * 512<=l.length/\l.length<=2097152/\l0.length<=l.length) ?_ ?_
 ·
  refine VD (fun h=>?_) (fun h=>Ad ?_)
  ·
   refine VQ [0,1,2] fun K hK=>?_;(repeat first | refine Qo ?_ | refine Qp ?_);refine Ce ?_;refine Qs ?_;refine Qq2 (m:=(i+1) * 512 - l0.length) hH 0 rfl (by omega) Ym Mv X4 rfl (by omega) fun a' cap' w5 hc' hH4=>?_;rw [bytesV_zero] at hH4;have hH5:Heap w0 B w5 (Y0 5 1 a' (l0.length+((i+1) * 512 - l0.length)) cap' (Ao l0++Ao (Xj ((i+1) * 512 - l0.length) 0))::(wrX gi gs i s++G)):=hH4;rw [<- Ql] at hH5;have e:l0.length+((i+1) * 512 - l0.length)=(l0++Xj ((i+1) * 512 - l0.length) (0:UInt8)).length:=by simp
   rw [e] at hH5 ⊢;apply hK;clear hK;refine Ah ?_;refine Qs ?_;exact ⟨a',_,cap',rfl,hH5,by rw [<- e];omega,by rw [<- e];omega,by rw [<- e];omega⟩
  refine Ah ?_;refine Qs ?_;exact ⟨a,l0,cp,rfl,hH,by omega,hl,by omega⟩
 clear hH hl;rintro e w1 ⟨a,l,cp,rfl,hH,h1,h2,h3⟩;obtain ⟨g,rfl⟩:=Cw (hH.at 0 rfl) (show 0 < l.length by omega);have hcap:l.length<=cp:=(hH.at 0 rfl).2.1;have ct:=Af (hH.at 1 rfl) (k:=0) (v:=Ab s) rfl;refine VL [0] 5 fun K hK=>?_;refine ⟨_,Af (hH.at 2 rfl) rfl,?_⟩;refine Qs ?_;(repeat first | refine Qo ?_ | refine Qp ?_);rw [if_neg (by omega)];refine ⟨_,ct,?_⟩;refine Qdy ?_;refine Qs ?_;refine Vg hH 0 rfl Ym E5 (off:=((i:Int) * 512).toNat) (by simp) (m:=512) (news:=Ao s) ⟨by simp [hs],rfl,rfl,Xa⟩ (Vf _) (by rw [Of];omega) fun w5 hu hH2=>?_;simp only [Yl,bytesV_take,bytesV_drop,<- Ql] at hH2;generalize hl':l.take _++s.take _++l.drop _=l' at hH2;have e:l.length=l'.length:=by rw [<- hl'];simp;omega
 rw [e] at hH2 ⊢;apply hK;clear hK;refine VS [4] ?_;exact Ae (Al rfl rfl ⟨_,l',cp,rfl,⟨by omega,by omega,by omega⟩,hH2⟩)
theorem Zd (hD:D.ok (k+1)) (i:Int) (hi:I64 i) (s:Bs) (hH:Heap w0 B w (dL D++G)):Does Yd 47 #[pV D.g,.int .i64 i,Ab s] w fun v w' =>
  ∃ (e:Int) (D':Dk),v=.int .i64 e/\D.nx D' k/\Heap w0 B w' (dL D'++G)/\(0<=i->i < D.cap->s.length=512->e=0)/\(e=0->(i+1) * 512<=D'.nl.length):=by
 have hno:D.nx D k:=⟨hD.mono (by omega),rfl,rfl,Yx _⟩;refine En [pV D.g,.int .i64 i,Ab s] 29 Tryz.func47 ?_;refine VQ [0,4,5] fun K hK=>?_;refine Iq hH [.int .i64 i] ?_;refine Qs ?_;refine ⟨trivial,fun gi w1 hH1=>?_⟩;refine Iq hH1 [Ab s] ?_;refine Qs ?_;refine ⟨trivial,fun gs w2 hH2=>?_⟩;apply hK;clear hK;have hX:Heap w0 B w2 (dL D++(QQq gi gs i s++G)):=hH2.under [_,_] (dL D);have hout:∀ {w3:World}{D':Dk},Heap w0 B w3 (dL D'++(QQq gi gs i s++G))->Heap w0 B w3 (dL D'++G):=fun h=>h.sub ((List.Sublist.refl _).append (.cons _ (.cons _ (.refl _))));clear hH1 hH2 hH;refine VQ [0,4,5,7] fun K hK=>?_;refine Aa Ua ?_;refine Qs ?_;refine Ya (Zc hD hX) ?_;rintro v w3 ⟨rfl,rfl⟩;apply hK;clear hK;refine VS [0,4,5,7,11] ?_;refine Ai rfl rfl (fun h=>by simp at h) (fun h=>Ad ?_);have c1:=Af (hX.at 5 rfl) (k:=0) (v:=.int .i64 i) rfl;refine Vq [0,4,5,22] fun K hK=>?_
 suffices out:∀ b:Bool,(b=true ↔ (i < 0∨D.cap<=i))->K [(0,pV D.g),(4,pV gi),(5,pV gs),(22,.bool b)] by
  refine ⟨_,c1,?_⟩;refine Qs ?_;refine ⟨fun h1=>?_,fun h1=>?_⟩
  ·
   refine ⟨_,c1,_,Ka hX (k:=0) rfl,?_⟩;refine Qs ?_;(repeat' (first | exact out _ _ (by first | omega | (simp;done) | (simp;omega)) | exact out _ (by first | omega | (simp;done) | (simp;omega)) | refine ⟨fun _=>?_,fun _=>?_⟩ | refine Qo ?_))
  (repeat' (first | exact out _ _ (by first | omega | (simp;done) | (simp;omega)) | exact out _ (by first | omega | (simp;done) | (simp;omega)) | refine ⟨fun _=>?_,fun _=>?_⟩ | refine Qo ?_))
 intro b hb;apply hK;clear hK;refine Vi (fun h=>?_) (fun h=>Ad ?_)
 ·
  have h:=hb.1 h;refine VS [6] ?_;exact Ae (Al rfl rfl ⟨191,D,rfl,hno,hout hX,fun _ _ _=>by omega,fun h=>by cases h⟩)
 have hg:¬ (i < 0∨D.cap<=i):=fun h2=>by rw [hb.2 h2] at h;cases h
 clear hb h;obtain ⟨j,rfl⟩:∃ j:Nat,i=j:=⟨i.toNat,by omega⟩;refine VQ [0,4,5,25] fun K hK=>?_;refine ⟨_,Af (hX.at 4 rfl) (k:=0) (v:=Ab s) rfl,?_⟩;refine Qs ?_;apply hK;clear hK;refine VD (fun h=>?_) (fun h=>Ad ?_)
 ·
  refine VS [6] ?_;exact Ae (Al rfl rfl ⟨2,D,rfl,hno,hout hX,fun _ _ _=>by omega,fun h=>by cases h⟩)
 have hs:s.length=512:=by omega
 have hcap:=hD.c2;refine VQ [6] fun K hK=>?_;refine Aa Um ?_;refine Qs ?_;refine Ya (Qh5 hD (QFy gi gs j s (by omega) hs) (fun _ h=>h.1) hX) ?_;rintro v w3 ⟨rfl,D',h1,h2,h3,h4,hH2⟩;apply hK;clear hK;exact Ae (Al rfl rfl ⟨0,D',rfl,⟨h1,h2,h3,h4.2.1⟩,hout hH2,fun _ _ _=>rfl,fun _=>by have:=h4.2.2;omega⟩)
theorem QFz {w:World}{T cp:Nat}{a:OA}{l:Bs} (m:Nat) (hm:m<=l.length) (h:(Y0 T 1 a l.length cp (Ao l)).holds w):(Y0 T 1 a (l.take m).length cp (Ao (l.take m))).holds w:=by
 obtain ⟨h1,h2,h3,h4⟩:=h;have hl:(l.take m).length=m:=by rw [Y4];omega
 refine ⟨by rw [Of,Nat.mul_one],by omega,h3,?_⟩;rcases h4 with ⟨rfl,h4,h5⟩ | ⟨g,rest,fz,h4,h5,h6,h7⟩
 ·
  exact .inl ⟨rfl,by omega,h5⟩
 refine .inr ⟨g,Ao (l.drop m)++rest,fz,h4,?_,?_,h7⟩ <;> rw [<- Yv,<- Ql,X8]
 ·
  exact h5
 exact h6
theorem QAh (gn n:Nat) (hn:n<=4096):QLr (.func (.func 83) #[] #[pV gn]) [Ye gn 3 [.int .i64 n]] fun l l'=>l'.length=min l.length (n * 512):=by
 intro w0 w B G a l cp hl hH;refine FnK.mk (first:=#[]) (cs:=#[pV gn]) Tryz.call83 ?_ fun _ _ h=>h
 show Does Yd 83 #[.slice a l.length cp,pV gn] w _
 refine En [.slice a l.length cp,pV gn] 11 Tryz.func83 ?_;refine VS [0,1] ?_;have hcap:l.length<=cp:=(hH.at 0 rfl).2.1;refine VQ [3] fun K hK=>?_;refine ⟨_,Af (hH.at 1 rfl) rfl,?_⟩;refine Qs ?_;(repeat first | refine Qo ?_ | refine Qp ?_);obtain ⟨m,hm⟩:∃ m,m=min l.length (n * 512):=⟨_,rfl⟩;have hl2:(l.take m).length=m:=by rw [Y4];omega
 rw [show (min (l.length:Int) (n * 512)).toNat=(l.take m).length by omega];apply hK;clear hK;exact Ae (Al rfl rfl ⟨_,l.take m,cp,rfl,by show (l.take m).length=_;omega,hH.view 0 rfl (QFz m (by omega)) fun b hb=>hb⟩)
theorem Qxe (hD:D.ok (k+1)) (n:Int) (hn:I64 n) (hH:Heap w0 B w (dL D++G)):Does Yd 59 #[pV D.g,.int .i64 n] w fun v w' =>
  ∃ (e:Int) (D':Dk),v=.int .i64 e/\(D'.ok k/\D'.g=D.g/\D'.cap=D.cap)/\Heap w0 B w' (dL D'++G)/\(e=0->((D'.nl.length / 512:Nat):Int)=n)/\(0<=n->n * 512<=D.nl.length->e=0):=by
 have hno:D.ok k/\D.g=D.g/\D.cap=D.cap:=⟨hD.mono (by omega),rfl,rfl⟩;refine En [pV D.g,.int .i64 n] 22 Tryz.func59 ?_;refine VQ [0,3] fun K hK=>?_;refine Iq hH [.int .i64 n] ?_;refine Qs ?_;refine ⟨trivial,fun gn w1 hH1=>?_⟩;apply hK;clear hK;have hX:Heap w0 B w1 (dL D++([Ye gn 3 [.int .i64 n]]++G)):=Re hH1;have hout:∀ {w3:World}{D':Dk},Heap w0 B w3 (dL D'++([Ye gn 3 [.int .i64 n]]++G))->Heap w0 B w3 (dL D'++G):=fun h=>h.sub ((List.Sublist.refl _).append (.cons _ (.refl _)));clear hH1 hH;refine VQ [0,3,5] fun K hK=>?_;refine Aa Ua ?_;refine Qs ?_;refine Ya (Zc hD hX) ?_;rintro v w3 ⟨rfl,rfl⟩;apply hK;clear hK;refine VS [0,3,5,9] ?_;refine Ai rfl rfl (fun h=>by simp at h) (fun h=>Ad ?_);have c1:=Af (hX.at 4 rfl) (k:=0) (v:=.int .i64 n) rfl;refine VH w3 (Ext.refl _) [0,3,18] [(0,true),(1,true),(2,true),(3,true),(4,true),(5,false),(6,true),(7,true)] fun K hK=>?_;refine ⟨_,c1,?_⟩;refine Qs ?_;have n1:=hD.n1
 suffices out:∀ b:Bool,(b=true ↔ (n < 0∨(D.nl.length / 512:Nat) < n))->K [(0,pV D.g),(3,pV gn),(18,.bool b)] w3 by
  refine ⟨fun h1=>?_,fun h1=>?_⟩
  ·
   refine ⟨_,c1,?_⟩;refine Aa Xq ?_;refine Qs ?_;refine Ya (Qz hD hX) ?_;rintro v w2 ⟨rfl,rfl⟩;refine Qs ?_;exact ⟨Ext.refl _,out _ (by simp;omega)⟩
  (repeat' (first | exact out _ _ (by first | omega | (simp;done) | (simp;omega)) | exact out _ (by first | omega | (simp;done) | (simp;omega)) | refine ⟨fun _=>?_,fun _=>?_⟩ | refine Qo ?_))
 intro b hb;apply hK;clear hK;refine Vi (fun h=>?_) (fun h=>Ad ?_)
 ·
  have h:=hb.1 h;refine VS [4] ?_;exact Ae (Al rfl rfl ⟨191,D,rfl,hno,hout hX,by omega,by omega⟩)
 have hg:¬ (n < 0∨(D.nl.length / 512:Nat) < n):=fun h2=>by rw [hb.2 h2] at h;cases h
 clear hb h;obtain ⟨j,rfl⟩:∃ j:Nat,n=j:=⟨n.toNat,by omega⟩;refine VQ [4] fun K hK=>?_;refine Aa Um ?_;refine Qs ?_;refine Ya (Qh5 hD (QAh gn j (by omega)) (fun l' h=>by rw [h];omega) hX) ?_;rintro v w3 ⟨rfl,D',h1,h2,h3,h4,hH2⟩;apply hK;clear hK;exact Ae (Al rfl rfl ⟨0,D',rfl,⟨h1,h2,h3⟩,hout hH2,fun _=>by rw [h4];omega,fun _ _=>rfl⟩)
theorem Ve (hD:D.ok (k+1)) (hH:Heap w0 B w (dL D++G)):Does Yd 48 #[pV D.g] w fun v w'=>v=.int .i64 0/\∃ D',D.nx D' k/\D'.nl=D.nl/\Heap w0 B w' (dL D'++G):=by
 refine En [pV D.g] 11 Tryz.func48 ?_;refine VS [0] ?_;refine VQ [0,3] fun K hK=>?_;refine Aa Ua ?_;refine Qs ?_;refine Ya (Zc hD hH) ?_;rintro v w2 ⟨rfl,rfl⟩;apply hK;clear hK;refine VS [0,3,7] ?_;refine Ai rfl rfl (fun h=>by simp at h) (fun h=>Ad ?_);refine VQ [2] fun K hK=>?_;refine Aa Um ?_;refine Qs ?_;refine Ya (Qo5 hD hH) ?_;rintro v w3 ⟨rfl,D',h1,h2,h3,h4,hH2⟩;apply hK;clear hK;exact Ae (Al rfl rfl ⟨rfl,D',⟨h1,h2,h3,Nat.le_of_eq (congrArg _ h4.symm)⟩,h4,hH2⟩)
end
theorem QQc (a b:Mb) (xo yo:Operand) (w:World) (KV:Value->Prop):∃ t:Bool,(a=b->t=true)/\A3 Yd .eql 54 xo yo (.agg (Ar a).toArray) (.agg (Ar b).toArray) w KV=KV (.bool t):=by
 refine ⟨decide (a.p=b.p) && (decide (a.s=b.s) && (decide (a.n=b.n) && (decide (a.z=b.z) && decide (a.c=b.c)))),fun h=>by subst h;simp,?_⟩;refine Ou fun w'=>?_;have hS:Yd.underlying 54=some (.struct (Yd.fieldsOf 54)):=by kernel_rfl
 have hp:Yd.stoodInHeld 54=false:=by kernel_rfl
 have hg:Yd.eqGuardType Yd.depth 54=false:=by kernel_rfl
 simp only [Xu];rw [run_eqGuard_agg _ _ _ _ _ _ _ hg];simp only [X0];rw [run_eql_struct,show (10000:Nat)=9999+1 from rfl,run_equalIn_agg w' 9999 54 _ _ hS hp];simp only [Program.fieldsOf,Tryz.underlying54];clear hS hp hg;have u3:=X4;have a3:=Tryz.isAgg3;have z3:=Tryz.sizeOf3;have u4:=Xa;have a4:=Tryz.isAgg9;have z4:=Tryz.sizeOf9;have u5:=Uk;have a5:=Tryz.isAgg52;have z5:=Tryz.sizeOf52;simp only [Ar]
 go_simp
 simp only [Int.ofNat_inj];(repeat' split) <;> simp_all
theorem Qti {w:World}{g:Nat}{x:Nt} (h:(Ye g 92 (Ed x)).holds w):Reads w ⟨g,1,none⟩ (Ar x.2):=fun j u hu=>by
 rw [Bv];exact Af h (by rw [Nat.add_comm];exact hu)
theorem bdM {KV:Value->Prop} (p:Bs):Ca Yd 54 [(0,Ab p)] KV=KV (.agg (Ar ⟨p,0,0,0,0⟩).toArray):=Cx (by kernel_rfl)
def QF7 (x:Nt):Prop:=If x.2.p=0/\(x.1=1/\x.2.ok∨x.1=2/\x.2=⟨x.2.p,0,0,0,0⟩)/\x.2.p.length<=400
theorem Qxf (x:Nt) (hx:x.2.fit) (w:World):Does Yd 93 #[.agg (Ed x).toArray] w fun v w'=>Heap w [] w' []/\∃ (s:Bs) (b:Bool),v=.tuple #[Ab s,.bool b]/\s.length<=2000/\(b=true->x.1=1->x.2.ok)/\(QF7 x->b=true/\s.length<=486):=by
 have hp:=hx.p;refine En [.agg (Ed x).toArray] 36 Tryz.func93 ?_;refine VQ [1] fun K hK=>?_;refine Iq (Yz w) (Ed x) ?_;refine Qs ?_;refine ⟨trivial,fun g w1 hH=>?_⟩;apply hK;clear hK;refine VQ [1,8] fun K hK=>?_;refine ⟨_,Af (hH.at 0 rfl) rfl,?_⟩;apply hK;clear hK;refine Aq ?_;refine VS [1,8,9] ?_;refine VD (fun h=>?_) (fun h=>?_)
 ·
  refine VQ [4,5] fun K hK=>?_;refine ⟨Ar x.2,⟨rfl,Qti (hH.at 0 rfl)⟩,?_⟩;refine Aa Tryz.call90 ?_;refine Qs ?_;refine Ya (Qkr x.2 hx w1) ?_;rintro v w2 ⟨hA,s,e,rfl,hs,hok,hok2⟩;have hH2:=hH.call0 hA;apply hK;clear hK;refine VS [2,3] ?_
  exact Ae (Bp rfl rfl rfl ⟨hH2.sub (by simp),s,_,rfl,hs,fun hb _=>hok (by simpa using hb),fun hg=>by
   obtain ⟨g1,g2,g3⟩:=hg;obtain ⟨q1,q2⟩:=hok2 g1 (g2.elim (·.2) fun g=>by omega);exact ⟨by simp [q1],by omega⟩⟩)
 refine VS [1,20] ?_;refine Ai rfl rfl (fun h2=>?_) (fun h2=>Ad ?_)
 ·
  refine VQ [1,6] fun K hK=>?_;refine ⟨_,Af (hH.at 0 rfl) (k:=1) rfl,?_⟩;apply hK;clear hK;have hr:=Qti (hH.at 0 rfl);refine Vb [2,3] [(0,0),(1,0),(2,2),(3,0),(4,0),(5,0),(7,0),(8,0),(11,0),(6,2),(9,0),(10,0),(12,0)] fun K hK=>?_;refine Aa X9 ?_;refine Qs ?_;refine Ya (T3 x.2.p w1 (by omega)) ?_;rintro v w2 ⟨hA,rfl⟩;have hH2:=hH.call0 hA;simp only [Yb] at hH2;refine Qs ?_
  suffices out:∀ b,(QF7 x->b=true)->K [(2,Ab x.2.p),(3,.bool b)] w2 by
   refine ⟨fun hc=>?_,fun hc=>out _ fun hg=>by simpa using (hc (by simp [hg.1])).elim⟩;rw [bdM];refine ⟨Ar x.2,⟨rfl,Qti (hH2.at 0 rfl)⟩,?_⟩;obtain ⟨t,ht0,ht⟩:=QQc x.2 ⟨x.2.p,0,0,0,0⟩ (.tmp 31) (.tmp 33) (bare w1) fun v=>K [(2,Ab x.2.p),(3,v)] w2;rw [ht];exact out t fun hg=>ht0 (hg.2.1.elim (fun g=>absurd g.1 h) (·.2))
  intro b hb;apply hK;clear hK;exact Ae (Bp rfl rfl rfl ⟨hH2.sub (by simp),_,b,rfl,by omega,fun _ h3=>absurd h3 h,fun hg=>⟨hb hg,by have:=hg.2.2;omega⟩⟩)
 refine An ?_;refine VS [2,3] ?_;refine Ae (Bp rfl rfl rfl ⟨hH.sub (by simp),[],false,rfl,by simp,by simp,fun hg=>?_⟩);simp only [decide_eq_false_iff_not] at h2;exact False.elim (hg.2.1.elim (fun g=>h g.1) fun g=>h2 g.1)
theorem Qs2 (gen:Int) (w:World):Does Yd 61 #[.int .i64 gen] w fun v w'=>w'=w/\∃ b:Bool,v=.bool b/\(b=false->¬ (0<=gen/\gen<=4611686018427387904)):=by
 refine En [.int .i64 gen] 9 Tryz.func61 ?_;refine VS [0] ?_;refine VQ [2] fun K hK=>?_
 suffices out:∀ b:Bool,(b=false->¬ (0<=gen/\gen<=4611686018427387904))->K [(2,.bool b)] w by
  exact ⟨fun _=>out _ (by simp;omega),fun _=>out _ (by simp;omega)⟩
 intro b hb;apply hK;clear hK;exact Ae (Al rfl rfl ⟨rfl,b,rfl,hb⟩)
def Th (gen at_:Int) (N:List Nt):Prop:=(0<=gen/\gen<=4611686018427387904)/\0<=at_/\N.length≠0/\N.length < 20 - at_/\∀ x∈N,QF7 x
theorem Qmg {D:Dk}{k:Nat} (hD:D.ok (k+40)) (gen at_:Int) (hg:I64 gen) (ha:I64 at_) (N:List Nt) (an:OA) (cn:Nat) (hN:N.length<=1000000000) (hf:∀ x∈N,x.2.fit) {w0 w:World}{B:LN}{G:List Res} (hm:Ft an cn N∈G) (hH:Heap w0 B w (dL D++G)) :
  Does Yd 70 #[pV D.g,.int .i64 gen,.int .i64 at_,.slice an N.length cn] w fun v w'=>∃ (n e:Int) (D':Dk),v=.tuple #[.int .i64 n,.int .i64 e]/\D.nx D' k/\Heap w0 B w' (dL D'++G)/\(e=0->0<=n/\n<=20/\∀ x∈N,x.1=1->x.2.ok)/\(Th gen at_ N->e=0/\n=at_+N.length+1):=by
 have hno:D.nx D k:=⟨hD.mono (by omega),rfl,rfl,Yx _⟩;have hcap:=hD.c1;refine En [pV D.g,.int .i64 gen,.int .i64 at_,.slice an N.length cn] 125 Tryz.func70 ?_;refine VS [0,1,2,3] ?_;refine VQ [0,1,2,3,25] fun K hK=>?_;refine Aa Xd ?_;refine Qs ?_;refine Ya (Nk hD hH) ?_;rintro v w2 ⟨rfl,rfl⟩;refine Qs ?_;apply hK;clear hK;refine Vi (fun h=>?_) (fun h=>Ad ?_)
 ·
  simp only [decide_eq_true_eq] at h;omega
 clear h;refine VQ [0,1,2,3,48] fun K hK=>?_;refine Aa Tryz.call61 ?_;refine Qs ?_;refine Ya (Qs2 gen w2) ?_;rintro v w3 ⟨rfl,b0,rfl,hb0⟩;refine Qs ?_
 suffices out:∀ b:Bool,(b=false->0<=at_/\at_<=20/\N.length≠0/\N.length < 20 - at_)->(b=true->¬ Th gen at_ N)->K [(0,pV D.g),(1,.int .i64 gen),(2,.int .i64 at_),(3,.slice an N.length cn),(48,.bool b)] w3 by
  cases b0 with
  | true =>
   rw [Bool.not_true,Quh];(repeat' (first | exact out _ (by first | (simp;done) | (intro hf;simp at hf;omega)) (by first | (simp;done) | (rintro hf ⟨-,k1,k2,k3,-⟩;simp at hf;omega) | (rintro hf ⟨-,k1,k2,k3,-⟩;omega)) | refine ⟨fun _=>?_,fun _=>?_⟩ | refine And.intro (Yr (by omega) (by omega)) ?_))
  | false =>
   rw [Bool.not_false,Qui];exact out _ (by simp) fun _ hg=>hb0 rfl hg.1
 intro b hb hb2;apply hK;clear hK;refine Vi (fun h=>?_) (fun h=>Ad ?_)
 ·
  refine VS [8,9] ?_;exact Ae (Bp rfl rfl rfl ⟨0,210,D,rfl,hno,hH,by omega,fun hg=>absurd hg (hb2 h)⟩)
 obtain ⟨a1,a2,a3,a4⟩:=hb h;clear hb h hb2;obtain ⟨at1,rfl⟩:∃ n:Nat,at_=n:=⟨at_.toNat,by omega⟩;refine VS [0,1,2,3,10] ?_;refine VS [0,1,2,3,10,49,50,51] ?_;refine Aq ?_;refine Ay [0,1,2,3,10,49,50,51] (fun m e w'=>∃ (i:Nat) (aS:OA) (cS:Nat) (S:List Bs),Is e [(0,pV D.g),(1,.int .i64 gen),(2,.int .i64 at1),(3,.slice an N.length cn),(10,.slice aS S.length cS),(49,.slice an N.length cn),(50,.int .i64 N.length),(51,.int .i64 i)]/\Heap w0 B w' (C1 aS S cS::(dL D++G))/\S.length=i/\(Th gen at1 N->∀ t∈S,t.length=512)/\(∀ x∈N.take i,x.1=1->x.2.ok)/\i<=N.length/\m=N.length - i) N.length ?_ ?_
 ·
  refine Qs ?_;exact ⟨0,none,0,[],rfl,hH.nilRow 9 1,rfl,by simp,by simp,by omega,rfl⟩
 clear hH w3;rintro m e w3 ⟨i,aS,cS,S,rfl,hH,hS,hS5,hok,hi,rfl⟩;refine VS [0,1,2,3,10,49,50,51,52] ?_;(repeat refine Aw ?_);refine VD (fun h=>?_) (fun h=>?_)
 ·
  refine Ad ?_;refine VB ?_;obtain ⟨x,hx⟩:∃ x,N[i]? = some x:=⟨_,Yk (show i < N.length by omega)⟩;have hxf:=hf x (Yn hx);have hl1:=hH.holds _ (Y8 _ (Yo _ hm));obtain ⟨g,hga⟩:=Cw hl1 (by omega);subst hga;have hrd:=QGl (As hl1) hx;refine VQ [0,1,2,3,10,11,12,49,50,51] fun K hK=>?_;refine ⟨⟨by omega,by omega⟩,Ed x,⟨rfl,hrd⟩,?_⟩;refine Dg hH [.int .i64 0,.string ⟨#[]⟩,.int .i64 0,.int .i64 0,.int .i64 0,.int .u32 0] fun gx w2 hH1=>?_;refine Qs ?_;refine Ag ?_;refine Qs ?_;refine Ap hH1 0 (vs:=Ed x) rfl rfl (by kernel_rfl) (by simp [Ed,Ar]) (Qms x) fun w4 hH2=>?_;have hH2:Heap w0 B w4 (Ye gx 92 (Ed x)::C1 aS S cS::(dL D++G)):=hH2;clear hH hH1 hl1 hrd;apply hK;clear hK;refine VQ [0,1,2,3,10,11,12,13,14,49,50,51] fun K hK=>?_;refine ⟨Ed x,⟨rfl,Bu (hH2.at 0 rfl)⟩,?_⟩;refine Aa Tryz.call93 ?_;refine Qs ?_;refine Ya (Qxf x hxf w4) ?_;rintro v w5 ⟨hA,s,bo,rfl,hs,hxo,hxg⟩;have hH3:=hH2.call0 hA;simp only [Yb] at hH3;clear hH2 hA;apply hK;clear hK;refine VS [0,1,2,3,10,11,12,13,49,50,51,62] ?_;cases bo with
  | false =>
   refine Ai rfl rfl (fun h=>?_) (fun h=>by simp at h);refine VS [8,9] ?_;exact Ae (Bp rfl rfl rfl ⟨0,210,D,rfl,hno,hH3.sub (.cons _ (.cons _ (.refl _))),by omega,fun hg=>by simpa using (hxg (hg.2.2.2.2 x (Yn hx))).1⟩)
  | true =>
   refine Ai rfl rfl (fun h=>by simp at h) (fun h=>Ad ?_);refine VQ [0,1,2,3,10,15,49,50,51] fun K hK=>?_;refine ⟨_,Af (hH3.at 0 rfl) rfl,?_⟩;refine Qs ?_;(repeat first | refine Qo ?_ | refine Qp ?_);obtain ⟨y,hy⟩:=Qmq x.1;have hy0:QF7 x->y.toNat≠0:=fun hg=>by rcases hg.2.1 with g | g <;> rw [g.1] at hy <;> omega
   rw [hy,show (at1:Int)+i=((at1+i:Nat):Int) by omega];refine Aa Un ?_;refine Qs ?_;refine Ya (Qek y gen ((at1+i:Nat):Int) hg (Yr (by omega) (by omega)) s (by omega) w5) ?_;rintro v w6 ⟨hB,t,e2,rfl,ht,ht5⟩;have hH4:=(hH3.sub (Yf _ _)).call0 hB;simp only [Yb] at hH4;clear hH3 hB;apply hK;clear hK;refine VQ [0,1,2,3,10,49,50,51] fun K hK=>?_;refine Ei hH4 (Cy [t]) (xs:=[.tmp 76]) Y1 Tt rfl rfl rfl (by omega) ?_;refine Qs ?_;refine ⟨rfl,by simp [Yh],fun g w4 hH5=>?_⟩;(try refine Qs ?_);refine Ce ?_;refine Qs ?_;refine C3 (zs:=#[.string ⟨#[]⟩]) (bytes:=16) hH5 1 rfl Y1 (by kernel_rfl) rfl (m:=1) (news:=Cy [t]) ⟨rfl,As (hH5.at 0 rfl),9,Y1⟩ (Zt _) (fun h=>by omega) fun a' cap' w7 hc' hH6=>?_;rw [<- Qan] at hH6
   have hH7:Heap w0 B w7 (C1 a' (S++[t]) cap'::(dL D++G)):=by
    have:=hH6.sub (Yf _ _)
    rwa [show S.length+1=(S++[t]).length by simp] at this
   clear hH4 hH5 hH6;apply hK;clear hK;refine An ?_;refine VS [0,1,2,3,10,49,50,51] ?_;refine Ah ?_;refine Qs ?_;refine ⟨N.length - (i+1),by omega,i+1,a',cap',S++[t],?_,hH7,by simp;omega,fun hg z hz=>?_,fun z hz=>?_,by omega,rfl⟩
   ·
    rw [show (S++[t]).length=S.length+1 by simp];rfl
   ·
    rcases Yu.1 hz with hz | hz
    ·
     exact hS5 hg z hz
    simp at hz;subst hz;have hgx:=hg.2.2.2.2 x (Yn hx);exact (ht5 (hy0 hgx) hg.1.1 hg.1.2 (by omega) (by omega) (hxg hgx).2).2
   rw [Xh,hx] at hz;rcases Yu.1 hz with hz | hz
   ·
    exact hok z hz
   simp at hz;subst hz;exact hxo rfl
 obtain rfl:i=N.length:=by omega
 rw [Xe] at hok;clear h hi;refine Ax rfl ?_;refine VQ [0,2,3,10,17] fun K hK=>?_;refine Qo ?_;obtain ⟨y,hy⟩:=Qmq (N.length:Int);rw [hy,show (at1:Int)+N.length=((at1+N.length:Nat):Int) by omega];refine Ei hH (Ao [y]) (xs:=[.tmp 88]) Ym E5 rfl rfl rfl (by omega) ?_;refine Qs ?_;refine ⟨rfl,by simp [Yh],fun g w4 hH2=>?_⟩;(try refine Qs ?_);refine ⟨[y],Fw (As (hH2.at 0 rfl)),?_⟩;refine Aa Un ?_;refine Qs ?_;refine Ya (Qek 3 gen ((at1+N.length:Nat):Int) hg (Yr (by omega) (by omega)) [y] (by simp) w4) ?_;rintro v w6 ⟨hB,t,e2,rfl,ht,ht5⟩;have hH3:=(hH2.sub (Yf _ _)).call0 hB;simp only [Yb] at hH3;clear hH hH2 hB;apply hK;clear hK;refine VQ [0,2,3,97,98,99] fun K hK=>?_;refine Ei hH3 (Cy [t]) (xs:=[.tmp 95]) Y1 Tt rfl rfl rfl (by omega) ?_;refine Qs ?_;refine ⟨rfl,by simp [Yh],fun g w4 hH5=>?_⟩;(try refine Qs ?_);refine Ce ?_;refine Qs ?_;refine C3 (zs:=#[.string ⟨#[]⟩]) (bytes:=16) hH5 1 rfl Y1 (by kernel_rfl) rfl (m:=1) (news:=Cy [t]) ⟨rfl,As (hH5.at 0 rfl),9,Y1⟩ (Zt _) (fun h=>by omega) fun a' cap' w7 hc' hH6=>?_;rw [<- Qan] at hH6;have e7:S.length+1=(S++[t]).length:=by simp
 rw [e7] at hH6 ⊢;have hH7:Heap w0 B w7 (C1 a' (S++[t]) cap'::(dL D++G)):=hH6.sub (Yf _ _);have hle:(S++[t]).length<=20:=by rw [<- e7];omega
 have hle2:(S++[t]).length=N.length+1:=by rw [<- e7];omega
 have hU5:Th gen at1 N->∀ u∈S++[t],u.length=512:=fun hg z hz=>by
  rcases Yu.1 hz with hz | hz
  ·
   exact hS5 hg z hz
  simp at hz;subst hz;exact (ht5 (by decide) hg.1.1 hg.1.2 (by omega) (by omega) (by simp)).2
 clear hH3 hH5 hH6 hc' e7 hS5 ht5;generalize S++[t]=U at *;refine Qs ?_;apply hK;clear hK;refine Aq ?_;refine Ay [0,2,3,97,98,99] (fun m e w'=>∃ (i:Nat) (D1:Dk),Is e [(0,pV D.g),(2,.int .i64 at1),(3,.slice an N.length cn),(97,.slice a' U.length cap'),(98,.int .i64 U.length),(99,.int .i64 i)]/\Heap w0 B w' (dL D1++(C1 a' U cap'::G))/\D.nx D1 (k+1+(U.length - i))/\i<=U.length/\m=U.length - i) U.length ?_ ?_
 ·
  refine Qs ?_;exact ⟨0,D,rfl,Re hH7,⟨hD.mono (by omega),rfl,rfl,Yx _⟩,by omega,rfl⟩
 clear hH7 w7;rintro m e w7 ⟨i,D1,rfl,hH,hD1,hi,rfl⟩;have hout:∀ {w3:World}{D':Dk},Heap w0 B w3 (dL D'++(C1 a' U cap'::G))->Heap w0 B w3 (dL D'++G):=fun h=>h.sub ((List.Sublist.refl _).append (.cons _ (.refl _)));have hg1:=hD1.g;refine VS [0,2,3,97,98,99,100] ?_;(repeat refine Aw ?_);refine VD (fun h=>?_) (fun h=>?_)
 ·
  refine Ad ?_;refine VB ?_;obtain ⟨u,hu⟩:∃ u,U[i]? = some u:=⟨_,Yk (show i < U.length by omega)⟩;obtain ⟨g,hga⟩:=Cw (hH.at 4 rfl) (by omega);subst hga;refine VQ [0,2,3,19,20,97,98,99] fun K hK=>?_;refine ⟨⟨by omega,by omega⟩,_,B3 (hH.at 4 rfl) (Sl hu),?_⟩;apply hK;clear hK;refine VQ [0,2,3,21,97,98,99] fun K hK=>?_;(repeat first | refine Qo ?_ | refine Qp ?_);rw [<- hg1];have hok1:D1.ok ((k+1+(U.length - (i+1)))+1):=hD1.ok.mono (by omega);refine Aa Ub ?_;refine Qs ?_;refine Ya (Zd hok1 _ (Yr (by omega) (by omega)) u hH) ?_;rintro v w8 ⟨e3,D2,rfl,hD2,hH2,hw3,_⟩;clear hH;apply hK;clear hK;refine VS [0,2,3,21,97,98,99,112] ?_;refine Vi (fun h=>?_) (fun h=>Ad ?_)
  ·
   simp only [decide_eq_true_eq] at h;refine VS [8,9] ?_;exact Ae (Bp rfl rfl rfl ⟨0,e3,D2,rfl,⟨hD2.ok.mono (by omega),hD2.g.trans hg1,hD2.cap.trans hD1.cap,X5 hD1.up hD2.up⟩,hout hH2,fun h0=>absurd h0 h,fun hg=>absurd (hw3 (by omega) (by have:=hD1.cap;have:=hg.2.2.2.1;omega) (hU5 hg u (Yn hu))) h⟩)
  refine An ?_;refine VS [0,2,3,97,98,99] ?_;refine Ah ?_;refine Qs ?_;exact ⟨U.length - (i+1),by omega,i+1,D2,by rw [hg1];rfl,hH2,hD1.trans hD2,by omega,rfl⟩
 refine Ax rfl ?_;refine VQ [2,3,22] fun K hK=>?_;rw [<- hg1];have hok1:D1.ok (k+1):=hD1.ok.mono (by omega);refine Aa X2 ?_;refine Qs ?_;refine Ya (Ve hok1 hH) ?_;rintro v w8 ⟨rfl,D2,hD2,_,hH2⟩;apply hK;clear hK;refine VS [2,3,22,118] ?_;refine Ai rfl rfl (fun h=>by simp at h) (fun h=>Ad ?_);refine VQ [8,9] fun K hK=>?_;(repeat first | refine Qo ?_ | refine Qp ?_);apply hK;clear hK;exact Ae (Bp rfl rfl rfl ⟨_,0,D2,rfl,hD1.trans hD2,hout hH2,fun _=>⟨by omega,by omega,hok⟩,fun _=>⟨rfl,by simp⟩⟩)
theorem Qxg (gen:Int) (hg:I64 gen) (l:List Mb) (a:OA) (c:Nat) (w:World) (hl:(Dw a c l).holds w) (hll:l.length<=1000000000) (hf:∀ m∈l,m.fit) :
  Does Yd 67 #[.int .i64 gen,.slice a l.length c] w fun v w' =>
   (∃ e:Int,e≠0/\v=.tuple #[.slice none 0 0,.int .i64 e]/\Heap w [] w' []/\¬ (l=[]/\0<=gen/\gen<=4611686018427387904)) ∨
   ∃ (g:Nat) (S:List Bs),(0<=gen/\gen<=4611686018427387904)/\S.length=5/\(∀ s∈S,s.length=512)/\v=.tuple #[.slice (some ⟨g,0,none⟩) 5 5,.int .i64 0]/\Heap w [] w' [C1 (some ⟨g,0,none⟩) S 5]:=by
 refine En [.int .i64 gen,.slice a l.length c] 65 Tryz.func67 ?_;refine VS [0,1] ?_;refine VQ [0,1,25] fun K hK=>?_
 suffices out:∀ (b:Bool) (w':World),Heap w [] w' []->(b=true->¬ (l=[]/\0<=gen/\gen<=4611686018427387904))->(b=false->0<=gen/\gen<=4611686018427387904)->K [(0,.int .i64 gen),(1,.slice a l.length c),(25,.bool b)] w' by
  refine ⟨fun h1=>⟨fun h2=>?_,fun h2=>out _ _ (Yz w) (fun _=>by omega) (by simp)⟩,fun h1=>out _ _ (Yz w) (fun _=>by omega) (by simp)⟩;refine Aa Tryz.call34 ?_;refine Qs ?_;refine Ya (Qfc l a c 4096 w hl hll hf (Yr (by omega) (by omega))) ?_;rintro v w2 ⟨hA,e,rfl,he⟩;refine Qs ?_;refine out _ _ hA (fun hb=>?_) (fun _=>by omega);simp at hb;exact fun h3=>hb (he h3.1 (by omega) (by omega))
 intro b w1 hH hb1 hb2;apply hK;clear hK;refine Vi (fun h=>?_) (fun h=>Ad ?_)
 ·
  refine VS [4,5] ?_;exact Ae (Bp rfl rfl rfl (.inl ⟨230,by decide,rfl,hH,hb1 h⟩))
 obtain ⟨g1,g2⟩:=hb2 h;clear hb1 hb2 h;refine VQ [0,1,6] fun K hK=>?_;refine Bo (.agg #[.pointer none,.slice none 0 0]) (by kernel_rfl) ?_;refine Qs ?_;have hg0:=hH.upd.size;have hH:=Heap.newBld hH;generalize w1.alloc (Xf #[.pointer none,.slice none 0 0] tB)=w2 at *;generalize w1.heap.size=gb at *;apply hK;clear hK;refine VS [0,6,26,27,28] ?_;refine Aq ?_;refine Ay [0,6,26,27,28] (fun m e w'=>∃ (i:Nat) (og:Option Nat) (bs:Bs),Is e [(0,.int .i64 gen),(6,pV gb),(26,.slice a l.length c),(27,.int .i64 l.length),(28,.int .i64 i)]/\Heap w [] w' [Res.bld gb og bs]/\bs.length<=2000 * i/\i<=l.length/\m=l.length - i) l.length ?_ ?_
 ·
  refine Qs ?_;exact ⟨0,none,[],rfl,hH,by simp,by omega,rfl⟩
 clear hH w2;rintro m e w2 ⟨i,og,bs,rfl,hH,hbs,hi,rfl⟩;refine VS [0,6,26,27,28,29] ?_;(repeat refine Aw ?_);refine Vi (fun h=>?_) (fun h=>?_)
 ·
  simp only [decide_eq_true_eq] at h;refine Ad ?_;refine VB ?_;obtain ⟨m,hm⟩:∃ m,l[i]? = some m:=⟨_,Yk (show i < l.length by omega)⟩;have hmf:=hf m (Yn hm);have hl1:=Lb hl hH;obtain ⟨g,rfl⟩:=Cw hl1 (by omega);have hrd:=M8 (As hl1) hm;refine VQ [0,6,8,26,27,28] fun K hK=>?_;refine ⟨⟨by omega,by omega⟩,Ar m,⟨rfl,hrd⟩,?_⟩;refine Dg hH [.string ⟨#[]⟩,.int .i64 0,.int .i64 0,.int .i64 0,.int .u32 0] fun gx w3 hH1=>?_;refine Qs ?_;refine Ag ?_;refine Qs ?_;refine Ap hH1 0 (vs:=Ar m) rfl rfl (by kernel_rfl) (by simp [Ar]) (Ic m) fun w4 hH2=>?_;have hH2:Heap w [] w4 [Ye gx 54 (Ar m),Res.bld gb og bs]:=hH2;clear hH hH1 hl1 hrd;apply hK;clear hK;refine VQ [0,6,9,26,27,28] fun K hK=>?_;refine ⟨Ar m,⟨rfl,Bu (hH2.at 0 rfl)⟩,?_⟩;refine Aa Tryz.call90 ?_;refine Qs ?_;refine Ya (Qkr m hmf w4) ?_;rintro v w5 ⟨hA,s,e,rfl,hs,_⟩;have hH3:=(hH2.sub (Yf _ _)).call0 hA;simp only [Yb] at hH3;clear hH2 hA;apply hK;clear hK;refine VQ [0,6,26,27,28] fun K hK=>?_;refine Aa Tryz.call91 ?_;refine Qs ?_;refine Ya (Qa8 s hH3 hg0 (by simp) (by omega)) ?_;rintro v w6 ⟨og2,hH4,_,rfl⟩;apply hK;clear hK;refine An ?_;refine VS [0,6,26,27,28] ?_;refine Ah ?_;refine Qs ?_;exact ⟨l.length - (i+1),by omega,i+1,og2,bs++s,rfl,hH4,by rw [Yg];omega,by omega,rfl⟩
 refine Ax rfl ?_;refine VQ [0,11] fun K hK=>?_;refine Aa Tryz.call92 ?_;refine Qs ?_;refine Ya (Qap hH hg0 (by simp)) ?_;rintro v w3 ⟨hH2,rfl⟩;have hbl:bs.length<=2000000000000:=by omega
 clear hH hbs hi h;apply hK;clear hK;refine VQ [0,11,12] fun K hK=>?_;refine Ew Y1 zi9 ?_;refine Qs ?_;refine ⟨5,5,⟨rfl,rfl,by omega,by omega,by omega⟩,?_⟩;have hH3:=hH2.row 9 (n:=5) (cap:=5) (sz:=1) (Xj 5 (.string ⟨#[]⟩)) [] (by simp) (by simp) (by omega) (by omega);rw [Xc,Qd0] at hH3;rw [Qd0];generalize w3.alloc (Xf (Cy (Xj 5 [])).toArray 9)=w4 at *;generalize w3.heap.size=gs at *;clear hH2;apply hK;clear hK;refine VS [0,11,12,42] ?_;refine Aq ?_;refine Ay [0,11,12,42] (fun m e w'=>∃ (i:Nat) (lf:Bs) (S:List Bs),Is e [(0,.int .i64 gen),(11,Ab lf),(12,.slice (some ⟨gs,0,none⟩) 5 5),(42,.int .i64 i)]/\Heap w [] w' [Y0 9 1 (some ⟨gs,0,none⟩) 5 5 (Cy S)]/\S.length=5/\(∀ j s,j < i->S[j]? = some s->s.length=512)/\lf.length<=bs.length/\i<=5/\m=5 - i) 5 ?_ ?_
 ·
  refine Qs ?_;exact ⟨0,bs,_,rfl,hH3,by simp,fun j s hj=>by omega,by omega,by omega,rfl⟩
 clear hH3 w4;rintro m e w4 ⟨i,lf,S,rfl,hH,hS,hok,hlf,hi,rfl⟩;refine VS [0,11,12,42,43] ?_;(repeat refine Aw ?_);refine VD (fun h=>?_) (fun h=>?_)
 ·
  refine Ad ?_;refine VB ?_;refine VS [0,11,12,13,42] ?_;obtain ⟨n,hn⟩:∃ n,n=min lf.length 486:=⟨_,rfl⟩;refine VQ [0,11,12,13,14,42] fun K hK=>?_;rw [show min (lf.length:Int) 486=(n:Int) by omega];apply hK;clear hK;refine VQ [0,11,12,14,42] fun K hK=>?_;refine And.intro ⟨by omega,by omega⟩ ?_;have ht:(lf.take n).length<=486:=by rw [Y4];omega
  refine Aa Un ?_;refine Qs ?_;refine Ya (Qek 4 gen (i:Int) hg (Yr (by omega) (by omega)) (lf.take n) (by omega) w4) ?_;rintro v w5 ⟨hA,t,e2,rfl,_,hex⟩;obtain ⟨_,ht5⟩:=hex (by decide) g1 g2 (by omega) (by omega) ht;have hH2:=hH.call0 hA;simp only [Yb] at hH2;clear hH hA hex;refine And.intro ⟨by omega,by omega⟩ ?_;refine Ag ?_;refine Qs ?_;refine Dp hH2 0 (o:=(i)) (vs:=[Ab t]) rfl (by first | exact (Bv _ _ _).symm | rfl | simp [Bv]) rfl (by kernel_rfl) (by first | omega | (simp;done) | (simp;omega) | (simp [Ao,Br];omega) | (rw [Bh];simp;omega)) (by simp [Yc]) fun w6 hH3=>?_;(try refine Qs ?_)
  have hH4:Heap w [] w6 [Y0 9 1 (some ⟨gs,0,none⟩) 5 5 (Cy (S.set i t))]:=by
   rw [<- Qdz S i t (by omega)];exact hH3
  clear hH2 hH3;apply hK;clear hK;refine VQ [0,11,12,42] fun K hK=>?_;refine And.intro ⟨by omega,by omega⟩ ?_;apply hK;clear hK;refine An ?_;refine VS [0,11,12,42] ?_;refine Ah ?_;refine Qs ?_;refine ⟨5 - (i+1),by omega,i+1,_,_,rfl,hH4,by simp [hS],fun j s hj hs=>?_,by rw [Y3];omega,by omega,rfl⟩;rw [List.getElem?_set] at hs;split at hs
  ·
   split at hs
   ·
    cases hs;exact ht5
   cases hs
  exact hok j s (by omega) hs
 obtain rfl:i=5:=by omega
 refine Ax rfl ?_;refine VS [4,5] ?_;refine Ae (Bp rfl rfl rfl (.inr ⟨gs,S,⟨g1,g2⟩,hS,fun s hs=>?_,rfl,by rw [C1,hS];exact hH⟩));obtain ⟨j,hj⟩:=List.getElem?_of_mem hs;exact hok j s (by have:=(Xx.1 hj).1;omega) hj
theorem Qh6 {D:Dk}{k:Nat} (hD:D.ok (k+6)) (gen:Int) (hg:I64 gen) (l:List Mb) (a:OA) (c:Nat) {w0 w:World}{B:LN}{G:List Res} (hll:l.length<=1000000000) (hf:∀ m∈l,m.fit) (hm:Dw a c l∈G) (hH:Heap w0 B w (dL D++G)) :
  Does Yd 35 #[pV D.g,.int .i64 gen,.slice a l.length c] w fun v w'=>∃ (e:Int) (D':Dk),v=.int .i64 e/\D.nx D' k/\Heap w0 B w' (dL D'++G)/\(l=[]->0<=gen->gen<=4611686018427387904->e=0):=by
 have hno:D.nx D k:=⟨hD.mono (by omega),rfl,rfl,Yx _⟩;have hc1:=hD.c1;have hc2:=hD.c2;refine En [pV D.g,.int .i64 gen,.slice a l.length c] 53 Tryz.func35 ?_;refine VS [0,1,2] ?_;refine VQ [0,1,2,15] fun K hK=>?_;refine Aa Xd ?_;refine Qs ?_;refine Ya (Nk hD hH) ?_;rintro v w2 ⟨rfl,rfl⟩;refine Qs ?_;apply hK;clear hK;refine Vi (fun h=>?_) (fun h=>Ad ?_)
 ·
  simp only [decide_eq_true_eq] at h;omega
 clear h;have hrow:=hH.holds _ (Yo _ hm);refine VQ [0,1,2,7,8] fun K hK=>?_;refine Aa Tryz.call67 ?_;refine Qs ?_;refine Ya (Qxg gen hg l a c w2 hrow hll hf) ?_;rintro v w3 hv;rcases hv with ⟨e,he,rfl,hA,hex⟩ | ⟨g,S,⟨g1,g2⟩,hS,hSl,rfl,hA⟩
 ·
  have hH2:=hH.call0 hA;apply hK;clear hK;refine VS [0,1,2,7,8,23] ?_;refine Ai rfl rfl (fun h=>?_) (fun h=>by simp at h;exact absurd h he);refine VS [6] ?_;exact Ae (Al rfl rfl ⟨e,D,rfl,hno,hH2,fun h1 h2 h3=>absurd ⟨h1,h2,h3⟩ hex⟩)
 have hH2:=Re (hH.call0 hA);clear hH hA;apply hK;clear hK;refine VS [0,1,2,7,8,23] ?_;refine Ai rfl rfl (fun h=>by simp at h) (fun h=>Ad ?_);clear h;refine VQ [0,1,7,9] fun K hK=>?_;refine Aa Xd ?_;refine Qs ?_;refine Ya (Nk hD hH2) ?_;rintro v w4 ⟨rfl,rfl⟩;have hrow2:=hH2.holds _ (Yo _ (Y8 _ hm));refine Aa Tryz.call34 ?_;refine Qs ?_;refine Ya (Qfc l a c D.cap w4 hrow2 hll hf (Yr (by omega) (by omega))) ?_;rintro v w5 ⟨hA,e,rfl,he⟩;have hH3:=hH2.call0 hA;simp only [Yb] at hH3;clear hH2 hA hrow hrow2;apply hK;clear hK;have hout:∀ {w3:World}{D':Dk},Heap w0 B w3 (dL D'++(C1 (some ⟨g,0,none⟩) S 5::G))->Heap w0 B w3 (dL D'++G):=fun h=>h.sub ((List.Sublist.refl _).append (.cons _ (.refl _)));refine VS [0,1,7,9,30] ?_;refine Vi (fun h=>?_) (fun h=>Ad ?_)
 ·
  simp only [decide_eq_true_eq] at h;refine VS [6] ?_;exact Ae (Al rfl rfl ⟨e,D,rfl,hno,hout hH3,fun h1 h2 h3=>he h1 (by omega) (by omega)⟩)
 clear h he;obtain ⟨gn,rfl⟩:∃ n:Nat,gen=n:=⟨gen.toNat,by omega⟩;refine VS [0,1,32,33,34] ?_;refine Aq ?_;refine Ay [0,1,32,33,34] (fun m e w'=>∃ (i:Nat) (D1:Dk),Is e [(0,pV D.g),(1,.int .i64 gn),(32,.slice (some ⟨g,0,none⟩) 5 5),(33,.int .i64 (5:Nat)),(34,.int .i64 i)]/\Heap w0 B w' (dL D1++(C1 (some ⟨g,0,none⟩) S 5::G))/\D.nx D1 (k+1+(5 - i))/\i<=5/\m=5 - i) 5 ?_ ?_
 ·
  refine Qs ?_;exact ⟨0,D,rfl,hH3,⟨hD.mono (by omega),rfl,rfl,Yx _⟩,by omega,rfl⟩
 clear hH3 w5;rintro m e w7 ⟨i,D1,rfl,hH,hD1,hi,rfl⟩;have hg1:=hD1.g;have hcp:=hD1.cap;refine VS [0,1,32,33,34,35] ?_;(repeat refine Aw ?_);refine Vi (fun h=>?_) (fun h=>?_)
 ·
  simp only [decide_eq_true_eq] at h;refine Ad ?_;refine VB ?_;obtain ⟨u,hu⟩:∃ u,S[i]? = some u:=⟨_,Yk (show i < S.length by omega)⟩;refine VQ [0,1,10,11,32,33,34] fun K hK=>?_;refine ⟨⟨by omega,by omega⟩,_,B3 (hH.at 4 rfl) (Sl hu),?_⟩;apply hK;clear hK;refine VQ [0,1,12,32,33,34] fun K hK=>?_;(repeat first | refine Qo ?_ | refine Qp ?_);have hix:0<=(gn:Int) % 2 * 5+i/\(gn:Int) % 2 * 5+i<=9:=by omega
  rw [<- hg1];have hok1:D1.ok ((k+1+(5 - (i+1)))+1):=hD1.ok.mono (by omega);refine Aa Ub ?_;refine Qs ?_;refine Ya (Zd hok1 _ (Yr (by omega) (by omega)) u hH) ?_;rintro v w8 ⟨e3,D2,rfl,hD2,hH2,hex,_⟩;clear hH;have he3:e3=0:=hex (by omega) (by omega) (hSl u (Yn hu));subst he3;apply hK;clear hK;refine VS [0,1,12,32,33,34,48] ?_;refine Ai rfl rfl (fun h=>by simp at h) (fun h=>Ad ?_);refine An ?_;refine VS [0,1,32,33,34] ?_;refine Ah ?_;refine Qs ?_;exact ⟨5 - (i+1),by omega,i+1,D2,by rw [hg1];rfl,hH2,hD1.trans hD2,by omega,rfl⟩
 refine Ax rfl ?_;refine VQ [6] fun K hK=>?_;rw [<- hg1];have hok1:D1.ok (k+1):=hD1.ok.mono (by omega);refine Aa X2 ?_;refine Qs ?_;refine Ya (Ve hok1 hH) ?_;rintro v w8 ⟨rfl,D2,hD2,_,hH2⟩;apply hK;clear hK;exact Ae (Al rfl rfl ⟨0,D2,rfl,hD1.trans hD2,hout hH2,fun _ _ _=>rfl⟩)
abbrev sL:LV:=[.int .i64 0,.slice none 0 0,.bool false]
theorem Qs3 {D:Dk}{k:Nat} (hD:D.ok k) (hn:D.nl=[]) {w0 w:World}{B:LN}{G:List Res} (hH:Heap w0 B w (dL D++G)) :
  Does Yd 31 #[pV D.g] w fun v w'=>v=.tuple #[.int .i64 0,.slice none 0 0,.int .i64 230]/\Heap w0 B w' (dL D++G):=by
 have hc1:=hD.c1;refine En [pV D.g] 104 Tryz.func31 ?_;refine VS [0] ?_;refine VQ [0,18] fun K hK=>?_;refine Aa Xd ?_;refine Qs ?_;refine Ya (Nk hD hH) ?_;rintro v w2 ⟨rfl,rfl⟩;refine Qs ?_;apply hK;clear hK;refine Vi (fun h=>?_) (fun h=>Ad ?_)
 ·
  simp only [decide_eq_true_eq] at h;omega
 clear h;refine VQ [0,20] fun K hK=>?_;refine Aa Uo ?_;refine Qs ?_;refine Ya (Qcm hD hH) ?_;rintro v w3 ⟨rfl,rfl⟩;apply hK;clear hK;refine Ai rfl rfl (fun h=>by simp at h) (fun h=>Ad ?_);clear h;refine VQ [0,5] fun K hK=>?_;refine Dg hH [.int .i64 0,.slice none 0 0,.bool false,.int .i64 0,.slice none 0 0,.bool false] fun gs w4 hH1=>?_;have hH2:=Re hH1;clear hH hH1;refine Qs ?_;apply hK;clear hK;refine VS [0,5,21] ?_;refine Aq ?_;refine Ay [0,5,21] (fun m e w'=>∃ (i:Nat),Is e [(0,pV D.g),(5,pV gs),(21,.int .i64 i)]/\Is w' w4/\i<=2/\m=2 - i) 2 ?_ ?_
 ·
  refine Qs ?_;exact ⟨0,rfl,rfl,by omega,rfl⟩
 rintro m e w5 ⟨i,rfl,rfl,hi,rfl⟩;refine VS [0,5,21,22] ?_;(repeat refine Aw ?_);refine Vi (fun h=>?_) (fun h=>?_)
 ·
  simp only [decide_eq_true_eq] at h;refine Ad ?_;refine VB ?_;refine VS [0,5,6,21] ?_;refine VQ [0,5,6,21,29] fun K hK=>?_;refine Aa Xq ?_;refine Qs ?_;refine Ya (Qz hD hH2) ?_;rintro v w6 ⟨rfl,rfl⟩;rw [hn];refine Qs ?_;(repeat first | refine Qo ?_ | refine Qp ?_);apply hK;clear hK;refine Ai rfl rfl (fun h2=>?_) (fun h2=>?_)
  ·
   refine Ax rfl ?_;refine VS [0,5,21] ?_;refine Ah ?_;refine Qs ?_;exact ⟨2 - (i+1),by omega,i+1,rfl,rfl,by omega,rfl⟩
  simp only [decide_eq_false_iff_not] at h2;exact absurd (by simp;omega) h2
 refine Ax rfl ?_
 have r0:Reads w5 ⟨gs,0,none⟩ sL:=fun j u hu=>by
  rw [Bv];refine Af (hH2.at 4 rfl) ?_
  match j,hu with | 0,hu=>exact hu | 1,hu=>exact hu | 2,hu=>exact hu
 have r1:Reads w5 ⟨gs,3,none⟩ sL:=fun j u hu=>by
  rw [Bv];refine Af (hH2.at 4 rfl) ?_
  match j,hu with | 0,hu=>exact hu | 1,hu=>exact hu | 2,hu=>exact hu
 (repeat refine Aw ?_);refine Qq1 w5 (Ext.refl _) [14,15] (.two [(0,true),(1,true),(2,true),(3,true)] 4 5 (.seq [(5,false),(6,false),(7,false)]) (.seq [(4,false),(6,false),(7,false)])) (by kernel_rfl) (by kernel_rfl) rfl fun K hK=>?_
 have fin:∀ (ga gb:Nat) (w9:World),Heap w0 B w9 (dL D++G)->(∀ k v,sL[k]? = some v->w9.cell? ⟨ga,k,none⟩=some v)->(∀ k v,sL[k]? = some v->w9.cell? ⟨gb,k,none⟩=some v)->K [(14,pV ga),(15,pV gb)] w9:=by
  intro ga gb w9 hX ha hb;apply hK;clear hK;refine VB ?_;refine VQ [14,15,78] fun K hK=>?_;refine ⟨_,ha 2 _ rfl,?_⟩;refine Qs ?_;apply hK;clear hK;refine Ai rfl rfl (fun h=>by simp at h) (fun h=>?_);refine VQ [15,97] fun K hK=>?_;refine ⟨_,hb 2 _ rfl,?_⟩;apply hK;clear hK;refine Ai rfl rfl (fun h=>by simp at h) (fun h=>Ad ?_);refine An ?_;refine VS [2,3,4] ?_;exact Ae (Q8 rfl rfl rfl rfl ⟨rfl,hX⟩)
 clear hK;simp only [Qd,A6,List.filterMap_cons,List.filterMap_nil,List.getElem?_cons_succ,List.getElem?_cons_zero,Option.map_some];refine Qs ?_;refine Qp ?_;refine ⟨sL,⟨rfl,r0⟩,⟨by omega,by decide⟩,sL,⟨rfl,r1⟩,?_⟩;refine And.intro ?_ ?_
 ·
  refine Dg (Yz w5) sL fun ga w6 hHa=>⟨hHa.ext,?_⟩;refine Qs ?_;refine Dg hHa sL fun gb w7 hHb=>⟨hHb.ext,?_⟩;refine Qs ?_;refine Ag ?_;refine Qs ?_;refine Ap hHb 1 (vs:=sL) rfl rfl (by kernel_rfl) (by simp) (by simp [Yc]) fun w8 hHc=>⟨hHc.ext,?_⟩;refine Ag ?_;refine Qs ?_;refine Ap hHc 0 (vs:=sL) rfl rfl (by kernel_rfl) (by simp) (by simp [Yc]) fun w9 hHd=>⟨hHd.ext,?_⟩;exact fin ga gb w9 ((hH2.call0 hHd).sub (.cons _ (.cons _ ((List.Sublist.refl _).append (.cons _ (.refl _)))))) (fun k v h=>Af (hHd.at 1 rfl) h) (fun k v h=>Af (hHd.at 0 rfl) h)
 refine Dg (Yz w5) sL fun gb w6 hHa=>⟨hHa.ext,?_⟩;refine Qs ?_;refine Dg hHa sL fun ga w7 hHb=>⟨hHb.ext,?_⟩;refine Qs ?_;refine Ag ?_;refine Qs ?_;refine Ap hHb 0 (vs:=sL) rfl rfl (by kernel_rfl) (by simp) (by simp [Yc]) fun w8 hHc=>⟨hHc.ext,?_⟩;refine Ag ?_;refine Qs ?_;refine Ap hHc 1 (vs:=sL) rfl rfl (by kernel_rfl) (by simp) (by simp [Yc]) fun w9 hHd=>⟨hHd.ext,?_⟩;exact fin ga gb w9 ((hH2.call0 hHd).sub (.cons _ (.cons _ ((List.Sublist.refl _).append (.cons _ (.refl _)))))) (fun k v h=>Af (hHd.at 0 rfl) h) (fun k v h=>Af (hHd.at 1 rfl) h)
structure Vt where
 g:Nat
 d:Dk
 gen:Int
 next:Int
 ma:OA
 ml:List Mb
 mc:Nat
 br:Bool
structure Vt.ok (V:Vt) (k:Nat):Prop where
 d:V.d.ok k
 g0:0<=V.gen
 g1:V.gen+k<=1000000000
 x0:0<=V.next
 x1:V.next<=20
 m:∀ m∈V.ml,m.ok
 n:(V.ml.map (·.p)).Nodup
 l:V.ml.length+k<=1000000000
def vC (V:Vt):LV:=[pV V.d.g,.int .i64 V.gen,.int .i64 V.next,.slice V.ma V.ml.length V.mc,.bool V.br]
@[simp] theorem vC_len (V:Vt):(vC V).length=5:=rfl
def vH (V:Vt):List Res:=[Ye V.g 86 (vC V),Dw V.ma V.mc V.ml]
structure Vt.nx (V V':Vt) (k:Nat):Prop where
 ok:V'.ok k
 g:V'.g=V.g
 dg:V'.d.g=V.d.g
 cap:V'.d.cap=V.d.cap
 up:V.d.nl.length<=V'.d.nl.length
theorem Vt.ok.mono {V:Vt}{k m:Nat} (h:V.ok k) (hm:m<=k):V.ok m:=by
 obtain ⟨d,g0,g1,x0,x1,hm2,n,l⟩:=h;exact ⟨d.mono hm,g0,by omega,x0,x1,hm2,n,by omega⟩
theorem Vt.nx.trans {V V1 V2:Vt}{k m:Nat} (h:V.nx V1 k) (h2:V1.nx V2 m):V.nx V2 m:=⟨h2.ok,h2.g.trans h.g,h2.dg.trans h.dg,h2.cap.trans h.cap,X5 h.up h2.up⟩
section
variable {w0 w:World}{B:LN}{G:List Res}{V:Vt}{k:Nat}
theorem Dy (hH:Heap w0 B w (dL V.d++(vH V++G))) {i:Nat}{v:Value} (hv:(vC V)[i]? = some v):w.cell? ⟨V.g,i,none⟩=some v:=Af (hH.at 4 rfl) hv
theorem Qqd (l:List Mb) {i:Nat}{m:Mb} (hm:l[i]? = some m):((l.take i).map A9).length+1=((l.take (i+1)).map A9).length:=by rw [Xh,hm];simp
theorem Qxh (l:List Mb) {i:Nat}{m:Mb} (hm:l[i]? = some m):C5 ((l.take i).map A9)++Bx (A9 m)=C5 ((l.take (i+1)).map A9):=by rw [Xh,hm];simp [C5,Bw]
theorem M4 (hV:V.ok k):∀ m∈V.ml,m.fit:=fun m hm=>(hV.m m hm).fit
theorem Ze (e:Int) (hH:Heap w0 B w (dL V.d++(vH V++G))):Does Yd 46 #[pV V.g,.int .i64 e] w fun v w'=>v=.int .i64 e/\Heap w0 B w' (dL V.d++(vH { V with br:=V.br || decide (e≠0) }++G)):=by
 refine En [pV V.g,.int .i64 e] 17 Tryz.func46 ?_;refine VS [0,1] ?_;refine VQ [1] fun K hK=>?_;refine ⟨_,Dy hH (i:=4) rfl,?_⟩;refine Qs ?_
 have out:∀ b:Bool,b=(V.br || decide (e≠0))->Mj Yd 4 (.pointer (some ⟨V.g,4,none⟩)) (.bool b) w fun w'=>K [(1,.int .i64 e)] w':=by
  rintro b rfl;refine Ap hH 4 (vs:=[.bool (V.br || decide (e≠0))]) rfl rfl (by kernel_rfl) (by simp) (by simp [Yc]) fun w6 hH2=>?_;have hH3:Heap w0 B w6 (dL V.d++(vH { V with br:=V.br || decide (e≠0) }++G)):=hH2;apply hK;clear hK;refine VS [4] ?_;exact Ae (Al rfl rfl ⟨rfl,hH3⟩)
 cases hb:V.br with
 | true =>
  rw [Qui];refine Ag ?_;refine Qs ?_;exact out true (by rw [hb];rfl)
 | false =>
  rw [Quh];refine Ag ?_;refine Qs ?_;exact out _ (by rw [hb];simp)
theorem Qbf (hV:V.ok k) (hH:Heap w0 B w (dL V.d++(vH V++G))):Does Yd 51 #[pV V.g] w fun v w'=>w'=w/\v=.int .i64 (if V.br then 190 else 0):=by
 refine En [pV V.g] 28 Tryz.func51 ?_;refine VS [0] ?_;refine VB ?_;refine VQ [0,3] fun K hK=>?_;refine ⟨_,Dy hH (i:=0) rfl,?_⟩;refine Qs ?_;apply hK;clear hK;refine Ai rfl rfl (fun h=>by simp at h) (fun h=>?_);refine VQ [14] fun K hK=>?_;refine ⟨_,Dy hH (i:=4) rfl,?_⟩;refine Qs ?_
 have out:K [(14,.bool V.br)] w:=by
  apply hK;clear hK;cases V.br with
  | true =>
   refine Ai rfl rfl (fun h=>?_) (fun h=>by simp at h);refine VS [2] ?_;exact Ae (Al rfl rfl ⟨rfl,rfl⟩)
  | false =>
   refine Ai rfl rfl (fun h=>by simp at h) (fun h=>Ad ?_);refine An ?_;refine VS [2] ?_;exact Ae (Al rfl rfl ⟨rfl,rfl⟩)
 clear hK;cases hb:V.br with
 | true =>
  rw [hb] at out;rw [Qui];exact out
 | false =>
  rw [hb] at out;rw [Quh];refine ⟨_,Dy hH (i:=0) rfl,?_⟩;refine Aa Uo ?_;refine Qs ?_;refine Ya (Qcm hV.d hH) ?_;rintro v w2 ⟨rfl,rfl⟩;exact out
theorem Qxi (hV:V.ok k) (hH:Heap w0 B w (dL V.d++(vH V++G))):Does Yd 25 #[pV V.g] w fun v w'=>w'=w/\v=.int .i64 V.d.cap:=by
 refine En [pV V.g] 11 Tryz.func25 ?_;refine VS [0] ?_;refine VS [0,4] ?_;refine Ai rfl rfl (fun h=>by simp at h) (fun h=>Ad ?_);refine VQ [2] fun K hK=>?_;refine ⟨_,Dy hH (i:=0) rfl,?_⟩;refine Aa Xd ?_;refine Qs ?_;refine Ya (Nk hV.d hH) ?_;rintro v w2 ⟨rfl,rfl⟩;apply hK;clear hK;exact Ae (Al rfl rfl ⟨rfl,rfl⟩)
theorem W5 (hV:V.ok k) (hH:Heap w0 B w (dL V.d++(vH V++G))):Does Yd 16 #[pV V.g] w fun v w'=>∃ a c,v=.slice a V.ml.length c/\Heap w [] w' [Dw a c V.ml]:=by
 refine En [pV V.g] 11 Tryz.func16 ?_;refine VS [0] ?_;refine VS [0,4] ?_;refine Ai rfl rfl (fun h=>by simp at h) (fun h=>Ad ?_);refine VQ [2] fun K hK=>?_;refine ⟨_,Dy hH (i:=3) rfl,?_⟩;refine Aa Tryz.call42 ?_;refine Qs ?_;refine Ya (Qom V.ml V.ma V.mc w (As (hH.at 5 rfl)) (by have:=hV.l;omega)) ?_;rintro v w2 ⟨a,c,rfl,hA⟩;apply hK;clear hK;exact Ae (Al rfl rfl ⟨a,c,rfl,hA⟩)
theorem W7 (hV:V.ok k) (hH0:Heap w0 B w (dL V.d++(vH V++G))):Does Yd 44 #[pV V.g] w fun v w'=>∃ a c,v=.slice a (V.ml.map A9).length c/\Heap w [] w' [Fj a c (V.ml.map A9)]:=by
 have hl:=hH0.at 5 rfl;have c3:=Dy hH0 (i:=3) rfl;have hlen:=hV.l;generalize V.g=g at *;generalize V.ml=l at *;generalize V.ma=a at *;generalize V.mc=c at *;clear hH0;refine En [pV g] 25 Tryz.func44 ?_;refine VS [0] ?_;refine VS [0,3] ?_;refine VQ [3,9,10,11] fun K hK=>?_;refine ⟨_,c3,?_⟩;refine Qs ?_;apply hK;clear hK;refine Aq ?_;refine Ay [3,9,10,11] (fun m e w'=>∃ (i:Nat) (ax:OA) (cx:Nat),Is e [(3,.slice ax ((l.take i).map A9).length cx),(9,.slice a l.length c),(10,.int .i64 l.length),(11,.int .i64 i)]/\Heap w [] w' [Fj ax cx ((l.take i).map A9)]/\i<=l.length/\m=l.length - i) l.length ?_ ?_
 ·
  refine Qs ?_;exact ⟨0,none,0,rfl,(Yz w).nilRow 64 2,by omega,rfl⟩
 rintro m e w1 ⟨i,ax,cx,rfl,hH,hi,rfl⟩;refine VS [3,9,10,11,12] ?_;(repeat refine Aw ?_);refine VD (fun h=>?_) (fun h=>?_)
 ·
  refine Ad ?_;refine VB ?_;obtain ⟨m,hm⟩:∃ m,l[i]? = some m:=⟨_,Yk (show i < l.length by omega)⟩;have hl1:=Lb hl hH;obtain ⟨g2,rfl⟩:=Cw hl1 (by omega);have hrd:=M8 (As hl1) hm;refine VQ [3,5,9,10,11] fun K hK=>?_;refine ⟨⟨by omega,by omega⟩,Ar m,⟨rfl,hrd⟩,?_⟩;refine Dg hH [.string ⟨#[]⟩,.int .i64 0,.int .i64 0,.int .i64 0,.int .u32 0] fun gx w2 hH1=>?_;refine Qs ?_;refine Ag ?_;refine Qs ?_;refine Ap hH1 0 (vs:=Ar m) rfl rfl (by kernel_rfl) (by simp [Ar]) (Ic m) fun w3 hH2=>?_;have hH3:Heap w [] w3 [Ye gx 54 (Ar m),Fj ax cx ((l.take i).map A9)]:=hH2;clear hH hH1 hH2 hl1 hrd;apply hK;clear hK;refine VQ [3,9,10,11] fun K hK=>?_;refine ⟨_,Af (hH3.at 0 rfl) rfl,_,Af (hH3.at 0 rfl) rfl,?_⟩;refine Qs ?_;refine C2 hH3 2 (Bx (A9 m)) (xs:=[.tmp 20]) Yw N6 rfl rfl rfl (by omega) (by omega) ?_;refine Qs ?_;refine ⟨by simp [Bx,A9,Yh],by simp [Bx,A9,Yh],fun gl w7 hH4=>?_⟩;refine Ce ?_;refine Qs ?_;refine C3 (zs:=#[.int .i64 0,.int .i64 0]) (bytes:=16) hH4 2 rfl Yw (by kernel_rfl) rfl (m:=1) ⟨rfl,As (hH4.at 0 rfl),64,Yw⟩ (La _) (fun h=>by simp;omega) fun a' cap' w8 hc' hH5=>?_;rw [Qqd l hm,Qxh l hm] at hH5;rw [Qqd l hm];have hH6:Heap w [] w8 [Fj a' cap' ((l.take (i+1)).map A9)]:=hH5.sub (.cons _ (.cons _ (.refl _)));apply hK;clear hK;refine An ?_;refine VS [3,9,10,11] ?_;refine Ah ?_;refine Qs ?_;exact ⟨l.length - (i+1),by omega,i+1,a',cap',rfl,hH6,by omega,rfl⟩
 obtain rfl:i=l.length:=by omega
 rw [Xe] at hH ⊢;refine Ax rfl ?_;refine VS [2] ?_;exact Ae (Al rfl rfl ⟨ax,cx,rfl,hH⟩)
end
section
variable {w0 w:World}{B:LN}{G:List Res}{V:Vt}{k:Nat}
theorem Vt.ok.dev {D':Dk}{m:Nat} (hV:V.ok k) (hD:V.d.nx D' m) (hm:m<=k):V.nx { V with d:=D' } m:=by
 obtain ⟨d,g0,g1,x0,x1,hm2,n,l⟩:=hV;exact ⟨⟨hD.ok,g0,by show V.gen+_<=_;omega,x0,x1,hm2,n,by show V.ml.length+_<=_;omega⟩,rfl,hD.g,hD.cap,hD.up⟩
theorem M9 {D':Dk} (hg:D'.g=V.d.g) (h:Heap w0 B w (dL D'++(vH V++G))):Heap w0 B w (dL { V with d:=D' }.d++(vH { V with d:=D' }++G)):=by
 have:vH { V with d:=D' }=vH V:=by unfold vH vC;simp only [hg]
 rw [this];exact h
theorem Vt.nx.fail {V1:Vt} (h:V.nx V1 k) (b:Bool):V.nx { V1 with br:=b } k:=by
 obtain ⟨⟨d,g0,g1,x0,x1,hm2,n,l⟩,h2,h3,h4,h5⟩:=h;exact ⟨⟨d,g0,g1,x0,x1,hm2,n,l⟩,h2,h3,h4,h5⟩
theorem Vt.nx.mono {V1:Vt}{m:Nat} (h:V.nx V1 k) (hm:m<=k):V.nx V1 m:=⟨h.ok.mono hm,h.g,h.dg,h.cap,h.up⟩
theorem Qcn (hV:V.ok (k+7)) (n:Int) (hn:I64 n) (hH:Heap w0 B w (dL V.d++(vH V++G))):Does Yd 37 #[pV V.g,.int .i64 n] w fun v w' =>
  ∃ (e:Int) (V':Vt),v=.int .i64 e/\V.nx V' k/\V'.ml=V.ml/\(e=0->V'.br=V.br)/\(n<=20 - V.next->e=0/\V'.next=V.next)/\Heap w0 B w' (dL V'.d++(vH V'++G)):=by
 have hno:V.nx V k:=⟨hV.mono (by omega),rfl,rfl,rfl,Yx _⟩;have g0:=hV.g0;have g1:=hV.g1;have x0:=hV.x0;have x1:=hV.x1;refine En [pV V.g,.int .i64 n] 43 Tryz.func37 ?_;refine Aj [0,1] fun K hK=>?_;apply hK;clear hK;refine Aj [0,12] fun K hK=>?_;refine ⟨_,Dy hH (i:=2) rfl,?_⟩;refine Qi ?_;(repeat first | refine Qo ?_ | refine ⟨⟨by omega,by omega⟩,?_⟩);apply hK;clear hK;refine Ai rfl rfl (fun h=>?_) (fun h=>Ad ?_)
 ·
  refine Aj [4] fun K hK=>?_;apply hK;clear hK;exact Ae (Al rfl rfl ⟨0,V,rfl,hno,rfl,fun _=>rfl,fun _=>⟨rfl,rfl⟩,hH⟩)
 simp only [decide_eq_false_iff_not] at h;(repeat refine Aw ?_);refine T6 [0,5] 13 (by kernel_rfl) (by kernel_rfl) (by kernel_rfl) rfl fun K hK=>?_;refine Qi ?_;refine ⟨_,Dy hH (i:=0) rfl,_,Dy hH (i:=1) rfl,?_⟩;refine Qi ?_;refine And.intro (by omega) ⟨_,Dy hH (i:=3) rfl,?_⟩;have hd:V.d.ok ((k+1)+6):=hV.d;refine Aa Tryz.call35 ?_;refine Qi ?_;refine Ya (Qh6 hd (V.gen+1) (Yr (by omega) (by omega)) V.ml V.ma V.mc (by have:=hV.l;omega) (M4 hV) (by simp [vH]) hH) ?_;rintro v w2 ⟨e,D',rfl,hD,hH2,_⟩;have hH3:=M9 hD.g hH2;have hV1:=hV.dev hD (by omega);obtain ⟨V1,hV1e⟩:∃ V1,V1={ V with d:=D' }:=⟨_,rfl⟩;rw [<- hV1e] at hH3 hV1;have m1:V1.ml=V.ml:=by rw [hV1e]
 have b1:V1.br=V.br:=by rw [hV1e]
 have n1:V1.gen=V.gen:=by rw [hV1e]
 clear hH hH2 hV1e;apply hK;clear hK;refine Aj [0,5,28] fun K hK=>?_;apply hK;clear hK;rw [<- hV1.g];have k1:=hV1.ok;refine Ai rfl rfl (fun h2=>?_) (fun h2=>Ad ?_)
 ·
  simp only [decide_eq_true_eq] at h2;refine Aj [4] fun K hK=>?_;refine Aa Uc ?_;refine Qi ?_;refine Ya (Ze e hH3) ?_;rintro v w3 ⟨rfl,hH4⟩;apply hK;clear hK;exact Ae (Al rfl rfl ⟨e,{ V1 with br:=V1.br || decide (e≠0) },rfl,(hV1.mono (by omega)).fail _,m1,fun h0=>absurd h0 h2,fun h3=>absurd h3 h,hH4⟩)
 clear h2;refine Aj [0] fun K hK=>?_;refine ⟨_,Dy hH3 (i:=1) rfl,?_⟩;refine Qi ?_;(repeat first | refine Qo ?_ | refine ⟨⟨by omega,by omega⟩,?_⟩);refine Ag ?_;refine Qi ?_;refine Ap hH3 4 (vs:=[.int .i64 (V1.gen+1)]) rfl rfl (by kernel_rfl) (by first | decide | (simp;done) | (simp;omega)) (by simp [Yc]) fun w6 hH4=>?_;(try refine Qi ?_);refine Ag ?_;refine Qi ?_;refine Ap hH4 4 (vs:=[.int .i64 0]) rfl rfl (by kernel_rfl) (by first | decide | (simp;done) | (simp;omega)) (by simp [Yc]) fun w6 hH5=>?_;(try refine Qi ?_);have hH6:Heap w0 B w6 (dL { V1 with gen:=V1.gen+1,next:=0 }.d++(vH { V1 with gen:=V1.gen+1,next:=0 }++G)):=hH5;apply hK;clear hK;refine Aj [4] fun K hK=>?_;apply hK;clear hK;refine Ae (Al rfl rfl ⟨0,{ V1 with gen:=V1.gen+1,next:=0 },rfl,⟨?_,hV1.g,hV1.dg,hV1.cap,hV1.up⟩,m1,fun _=>b1,fun h3=>absurd h3 h,hH6⟩);obtain ⟨d,g0,g1,x0,x1,hm2,n,l⟩:=k1;exact ⟨d.mono (by omega),by show 0<=V1.gen+1;omega,by show V1.gen+1+_<=_;omega,by show (0:Int)<=0;omega,by show (0:Int)<=20;omega,hm2,n,by show V1.ml.length+_<=_;omega⟩
theorem Qbg (hV:V.ok (k+41)) (N:List Nt) (an:OA) (cn:Nat) (hN:N.length<=1) (hf:∀ x∈N,x.2.fit) (hk:∀ x∈N,x.1=1∨x.1=2) (hm:Ft an cn N∈G) (hH:Heap w0 B w (dL V.d++(vH V++G))):Does Yd 38 #[pV V.g,.slice an N.length cn] w fun v w' =>
  ∃ (e:Int) (V':Vt),v=.int .i64 e/\V.nx V' k/\(e=0->V'.br=V.br/\L3 V.ml N V'.ml)/\(Th V.gen V.next N->e=0/\V'.next=V.next+N.length+1)/\Heap w0 B w' (dL V'.d++(vH V'++G)):=by
 have g0:=hV.g0;have g1:=hV.g1;have x0:=hV.x0;have x1:=hV.x1;have hd:V.d.ok ((k+1)+40):=hV.d;refine En [pV V.g,.slice an N.length cn] 42 Tryz.func38 ?_;refine Aj [0,1] fun K hK=>?_;apply hK;clear hK;(repeat refine Aw ?_);refine Qw [0,1,5,6] [(0,0),(1,0),(2,0),(4,0),(5,0),(6,0),(8,0),(9,0),(10,0),(12,0),(3,1),(7,1),(11,2),(13,2),(14,0),(15,0),(16,0),(17,0),(18,0)] (by kernel_rfl) (by kernel_rfl) (by kernel_rfl) (by simp only [A6,List.map_cons,List.map_nil,beq_self_eq_true,Nat.reduceBEq,List.filterMap_cons,List.filterMap_nil,List.getElem?_cons_succ,List.getElem?_cons_zero,Option.map_some];rfl) fun K hK=>?_;refine Qi ?_;refine ⟨_,Dy hH (i:=0) rfl,_,Dy hH (i:=1) rfl,_,Dy hH (i:=2) rfl,?_⟩;refine Aa Tryz.call70 ?_;refine Qi ?_;refine Ya (Qmg hd V.gen V.next (Yr (by omega) (by omega)) (Yr (by omega) (by omega)) N an cn (by omega) hf (Yo _ hm) hH) ?_;rintro v w2 ⟨n,e,D',rfl,hD,hH2,hex,hgd⟩;have hH3:=M9 hD.g hH2;have hV1:=hV.dev hD (by omega);obtain ⟨V1,hV1e⟩:∃ V1,V1={ V with d:=D' }:=⟨_,rfl⟩;rw [<- hV1e] at hH3 hV1;have m1:V1.ml=V.ml:=by rw [hV1e]
 have b1:V1.br=V.br:=by rw [hV1e]
 clear hH hH2 hV1e;apply hK;clear hK;refine Aj [0,1,5,6,25] fun K hK=>?_;apply hK;clear hK;rw [<- hV1.g];have k1:=hV1.ok;refine Ai rfl rfl (fun h=>?_) (fun h=>Ad ?_)
 ·
  simp only [decide_eq_true_eq] at h;refine Aj [4] fun K hK=>?_;refine Aa Uc ?_;refine Qi ?_;refine Ya (Ze e hH3) ?_;rintro v w3 ⟨rfl,hH4⟩;apply hK;clear hK;exact Ae (Al rfl rfl ⟨e,{ V1 with br:=V1.br || decide (e≠0) },rfl,(hV1.mono (by omega)).fail _,fun h0=>absurd h0 h,fun hg=>absurd (hgd hg).1 h,hH4⟩)
 have he:e=0:=by simpa using h
 clear h;obtain ⟨n1,n2,hno⟩:=hex he;have hfit1:=M4 k1;refine Aj [0] fun K hK=>?_;refine ⟨_,Dy hH3 (i:=3) rfl,?_⟩;refine Aa Tryz.call33 ?_;refine Qi ?_;refine Ya (Qfd V1.ml V1.ma V1.mc N an cn w2 (hH3.at 5 rfl) (hH3.holds _ (Yo _ (Yo _ hm))) (by have:=k1.l;omega) (by omega) hfit1 hf) ?_;rintro v w3 ⟨T,a',c',rfl,hT,hA⟩;have hH4:=hH3.call0 hA;simp only [Ys,Yb] at hH4;clear hH3 hA;refine Ag ?_;refine Qi ?_;refine Ap hH4 5 (vs:=[.int .i64 n]) rfl rfl (by kernel_rfl) (by first | decide | (simp;done) | (simp;omega)) (by simp [Yc]) fun w6 hH5=>?_;(try refine Qi ?_);refine Ag ?_;refine Qi ?_;refine Ap hH5 5 (vs:=[.slice a' T.length c']) rfl rfl (by kernel_rfl) (by first | decide | (simp;done) | (simp;omega)) (by simp [Yc]) fun w6 hH6=>?_;(try refine Qi ?_)
 have hH7:Heap w0 B w6 (dL { V1 with next:=n,ma:=a',ml:=T,mc:=c' }.d++(vH { V1 with next:=n,ma:=a',ml:=T,mc:=c' }++G)) :=
  (Re (Heap.sub (G':=Dw a' c' T::(dL V1.d++(Ye V1.g 86 (vC { V1 with next:=n,ma:=a',ml:=T,mc:=c' })::G))) hH6 (.cons_cons _ ((List.Sublist.refl (dL V1.d)).append (.cons_cons _ (.cons _ (.refl _))))))).perm ((List.Perm.swap _ _ _).append_left _)
 clear hH4 hH5 hH6;apply hK;clear hK;refine Aj [4] fun K hK=>?_;apply hK;clear hK;refine Ae (Al rfl rfl ⟨0,{ V1 with next:=n,ma:=a',ml:=T,mc:=c' },rfl,⟨?_,hV1.g,hV1.dg,hV1.cap,hV1.up⟩,fun _=>⟨b1,m1 ▸ hT⟩,fun hg=>⟨rfl,(hgd hg).2⟩,hH7⟩);obtain ⟨d,g0,g1,x0,x1,hm2,hn2,l⟩:=k1;have hl2:=hT.2.2;refine ⟨d.mono (by omega),g0,by show V1.gen+_<=_;omega,n1,n2,fun m hm3=>?_,hT.1,by show T.length+_<=_;omega⟩;rcases Qwd hT m hm3 with h1 | ⟨x,h1,h2,h3⟩
 ·
  exact hm2 m h1
 rw [<- h3];exact hno x h1 h2
end
abbrev Kx:Mb:=⟨[],0,0,0,0⟩
section
variable {w0 w:World}{B:LN}{G:List Res}{V:Vt}{k:Nat}
theorem Qfp (hV:V.ok k) (p:Bs) (hp:p.length<=1000000000) (hH:Heap w0 B w (dL V.d++(vH V++G))):Does Yd 36 #[pV V.g,Ab p] w fun v w' =>
  Heap w0 B w' (dL V.d++(vH V++G))/\((∃ (e:Int) (m0:Mb),e≠0/\v=.tuple #[.agg (Ar m0).toArray,.int .i64 e]/\¬ (V.br=false/\If p=0/\∃ m∈V.ml,m.p=p)) ∨
   ∃ (j:Nat) (m:Mb),V.ml[j]? = some m/\m.p=p/\V.br=false/\v=.tuple #[.agg (Ar m).toArray,.int .i64 0]):=by
 refine En [pV V.g,Ab p] 36 Tryz.func36 ?_;refine VQ [0,3,4] fun K hK=>?_;refine Iq hH [Ab p] ?_;refine Qs ?_;refine ⟨trivial,fun gp w1 hH1=>?_⟩;refine Dg hH1 (Ar Kx) fun gr w2 hH2=>?_;refine Qs ?_;apply hK;clear hK;have hX:Heap w0 B w2 ((dL V.d++vH V)++([Ye gr 54 (Ar Kx),Ye gp 9 [Ab p]]++G)):=X6 [_,_] (dL V.d++vH V) hH2;have hX:Heap w0 B w2 (dL V.d++(vH V++([Ye gr 54 (Ar Kx),Ye gp 9 [Ab p]]++G))):=hX
 have hout:∀ {w3:World}{cs:LV},Heap w0 B w3 (dL V.d++(vH V++([Ye gr 54 cs,Ye gp 9 [Ab p]]++G)))->Heap w0 B w3 (dL V.d++(vH V++G)) :=
  fun h=>h.sub ((List.Sublist.refl _).append ((List.Sublist.refl _).append (.cons _ (.cons _ (.refl _)))))
 clear hH hH1 hH2;refine VQ [0,3,4,6] fun K hK=>?_;refine Aa Up ?_;refine Qs ?_;refine Ya (Qbf hV hX) ?_;rintro v w3 ⟨rfl,rfl⟩;apply hK;clear hK;refine VS [0,3,4,6,11] ?_;cases hb:V.br with
 | true =>
  refine Ai rfl rfl (fun h=>?_) (fun h=>by simp at h);refine VQ [4,5] fun K hK=>?_;refine Ag ?_;refine Qs ?_;refine Ap hX 6 (vs:=Ar Kx) rfl rfl (by kernel_rfl) (by simp [Ar]) (Ic _) fun w6 hX2=>?_;apply hK;clear hK;exact Ae (Kk rfl rfl rfl (Fm (hX2.at 6 rfl) (by kernel_rfl) (by kernel_rfl) rfl ⟨hout hX2,.inl ⟨190,Kx,by omega,rfl,by simp⟩⟩))
 | false =>
  refine Ai rfl rfl (fun h=>by simp at h) (fun h=>Ad ?_);clear h;refine VQ [0,3,4,16] fun K hK=>?_;refine ⟨_,Af (hX.at 7 rfl) (k:=0) (v:=Ab p) rfl,?_⟩;refine Aa X9 ?_;refine Qs ?_;refine Ya (T3 p _ hp) ?_;rintro v w4 ⟨hA,rfl⟩;have hX1:=hX.call0 hA;simp only [Yb] at hX1;clear hX hA;refine Qs ?_;apply hK;clear hK;refine Vi (fun h=>?_) (fun h=>Ad ?_)
  ·
   simp only [decide_eq_true_eq] at h;refine VQ [4,5] fun K hK=>?_;refine Ag ?_;refine Qs ?_;refine Ap hX1 6 (vs:=Ar Kx) rfl rfl (by kernel_rfl) (by simp [Ar]) (Ic _) fun w6 hX2=>?_;apply hK;clear hK;exact Ae (Kk rfl rfl rfl (Fm (hX2.at 6 rfl) (by kernel_rfl) (by kernel_rfl) rfl ⟨hout hX2,.inl ⟨140,Kx,by omega,rfl,fun h2=>h h2.2.1⟩⟩))
  clear h;refine VQ [0,4,7] fun K hK=>?_;refine ⟨_,Dy hX1 (i:=3) rfl,?_⟩;refine Aa Tryz.call68 ?_;refine Qs ?_;refine Ya (Qr1 V.ml V.ma V.mc gp p _ (hX1.at 5 rfl) (by have:=hV.l;omega) (Af (hX1.at 7 rfl) (k:=0) (v:=Ab p) rfl)) ?_;rintro v w5 ⟨hA,hv⟩;have hX2:=hX1.call0 hA;simp only [Yb] at hX2;clear hX1 hA;rcases hv with ⟨rfl,hno⟩ | ⟨j,m,hj,hmp,rfl⟩
  ·
   skip
   apply hK;clear hK;refine VS [0,4,7,26] ?_;refine Ai rfl rfl (fun h=>?_) (fun h=>by simp at h);refine VQ [4,5] fun K hK=>?_;refine Ag ?_;refine Qs ?_;refine Ap hX2 6 (vs:=Ar Kx) rfl rfl (by kernel_rfl) (by simp [Ar]) (Ic _) fun w6 hX3=>?_;apply hK;clear hK;exact Ae (Kk rfl rfl rfl (Fm (hX3.at 6 rfl) (by kernel_rfl) (by kernel_rfl) rfl ⟨hout hX3,.inl ⟨240,Kx,by omega,rfl,fun h2=>h2.2.2.elim fun m h3=>hno m h3.1 h3.2⟩⟩))
  have hjl:j < V.ml.length:=(Xx.1 hj).1;have hl:=hV.l;apply hK;clear hK;refine VS [0,4,7,26] ?_;refine Ai rfl rfl (fun h=>by simp only [decide_eq_true_eq] at h;omega) (fun h=>Ad ?_);clear h;obtain ⟨g,hga⟩:=Cw (hX2.at 5 rfl) (by omega);have hga:V.ma=some ⟨g,0,none⟩:=hga;have hrs:RS w5 V.ma V.ml.length 5 (O4 V.ml):=As (hX2.at 5 rfl);rw [hga] at hrs;have hrd:=M8 hrs hj;have hc:=Dy hX2 (i:=3) rfl;rw [hga] at hc;refine VQ [4,5] fun K hK=>?_;refine ⟨_,hc,?_⟩;refine Qs ?_;refine ⟨⟨by omega,by omega⟩,Ar m,⟨rfl,hrd⟩,?_⟩;refine Ag ?_;refine Qs ?_;refine Ap hX2 6 (vs:=Ar m) rfl rfl (by kernel_rfl) (by simp [Ar]) (Ic _) fun w6 hX3=>?_;apply hK;clear hK;exact Ae (Kk rfl rfl rfl (Fm (hX3.at 6 rfl) (by kernel_rfl) (by kernel_rfl) rfl ⟨hout hX3,.inr ⟨j,m,hj,hmp,rfl,rfl⟩⟩))
end
def Fl (need:Int):List Ex->Int×Int
 | []=>(0,220)
 | x::l=>if need<=x.2 then (x.1,0) else Fl need l
theorem Qxj:∀ (U:List Ex) (at_:Int) (O:List Ex),(∀ x∈U,Kg x)->I64 at_->(∀ x∈U,I64 (x.1+x.2))->(∀ x∈U,∀ y,(y=at_∨∃ z∈U,y=z.1+z.2)->y < x.1->I64 (x.1 - y))->(∀ x∈O,Kg x)->∀ x∈(Ds at_ O U).2,Kg x:=by
 intro U
 induction U with
 | nil=>intro at_ O _ _ _ _ h;exact h
 | cons x U ih =>
  intro at_ O h1 h2 h3 h4 h5;refine ih _ _ (fun y hy=>h1 y (Y8 _ hy)) (h3 x Xv) (fun y hy=>h3 y (Y8 _ hy)) (fun y hy z hz=>h4 y (Y8 _ hy) z (.inr ?_)) ?_
  ·
   rcases hz with rfl | ⟨u,hu,rfl⟩
   ·
    exact ⟨x,Xv,rfl⟩
   exact ⟨u,Y8 _ hu,rfl⟩
  intro y hy;split at hy
  ·
   rename_i hlt;rcases Yu.1 hy with hy | hy
   ·
    exact h5 y hy
   simp at hy;subst hy;exact ⟨h2,h4 x Xv at_ (.inl rfl) hlt⟩
  exact h5 y hy
theorem Qs4:∀ (U:List Ex) (at_:Int) (O:List Ex),(Ds at_ O U).2.length<=O.length+U.length:=by
 intro U
 induction U with
 | nil=>intro at_ O;simp [Ds]
 | cons x U ih =>
  intro at_ O;refine X5 (ih _ _) ?_;split
  ·
   rw [Yg];simp only [Yy,Xb];omega
  simp only [Yy];omega
theorem Qxk (cap:Int) (T:List Ex):(Fr cap T).length<=T.length+1:=by
 have:=Qs4 (T++[(max cap 30,0)]) 30 [];simpa [Fr] using this
theorem QAi {cap:Int} (hc:cap<=4096) {T:List Ex} (h:May cap T):∀ x∈Fr cap T,Kg x:=by
 have hb:=fun x hx=>Qce h (x:=x) hx;have hcm:max cap 30<=4096:=by omega
 refine Qxj _ 30 [] (fun x hx=>?_) (by unfold I64;omega) (fun x hx=>?_) (fun x hx y hy hlt=>?_) (by simp)
 ·
  obtain ⟨h1,h2,h3⟩:=hb x hx;unfold Kg I64;omega
 ·
  obtain ⟨h1,h2,h3⟩:=hb x hx;unfold I64;omega
 obtain ⟨h1,h2,h3⟩:=hb x hx;rcases hy with rfl | ⟨z,hz,rfl⟩
 ·
  unfold I64;omega
 obtain ⟨h4,h5,h6⟩:=hb z hz;unfold I64;omega
theorem Qfq (l:List Ex) (a:OA) (c:Nat) (cap need:Int) (w:World) (hl:RS w a l.length 2 (C5 l)) (hlen:l.length<=1000000000) (hok:∀ x∈l,Kg x) (hcap:I64 cap) (hneed:I64 need) :
  Does Yd 24 #[.slice a l.length c,.int .i64 cap,.int .i64 need] w fun v w'=>Heap w [] w' [] /\
   ((need < 1/\v=.tuple #[.int .i64 0,.int .i64 2])∨(1<=need/\¬ (1<=cap/\cap<=4096/\May cap l)/\v=.tuple #[.int .i64 0,.int .i64 220]) ∨
   (1<=need/\(1<=cap/\cap<=4096/\May cap l)/\∃ T:List Ex,T.Perm l/\Oq T/\v=.tuple #[.int .i64 (Fl need (Fr cap T)).1,.int .i64 (Fl need (Fr cap T)).2])):=by
 refine En [.slice a l.length c,.int .i64 cap,.int .i64 need] 36 Tryz.func24 ?_;refine VS [0,1,2] ?_;refine VS [0,1,2,13] ?_;refine VD (fun h=>?_) (fun h=>Ad ?_)
 ·
  refine VS [6,7] ?_;exact Ae (Bp rfl rfl rfl ⟨Yz w,.inl ⟨h,rfl⟩⟩)
 have hn1:1<=need:=by omega
 clear h;refine VQ [2,8,9] fun K hK=>?_;refine Aa Tryz.call57 ?_;refine Qs ?_;refine Ya (Qwa l a c cap w hl hlen hok hcap) ?_;rintro v w2 (⟨hno,rfl,hH⟩ | ⟨hmc,T,a2,c2,hp,hs,rfl,hH⟩)
 ·
  skip
  apply hK;clear hK;refine VS [2,8,9,21] ?_;refine Ai rfl rfl (fun h=>?_) (fun h=>by simp at h);refine VS [6,7] ?_;exact Ae (Bp rfl rfl rfl ⟨hH,.inr (.inl ⟨hn1,hno,rfl⟩)⟩)
 apply hK;clear hK;refine VS [2,8,9,21] ?_;refine Ai rfl rfl (fun h=>by simp at h) (fun h=>Ad ?_);clear h;have hFok:=QAi hmc.2.1 ((Vu hp).2 hmc.2.2);have hFl:=Qxk cap T;rw [hp.length_eq] at hFl;obtain ⟨F,hF⟩:∃ F,F=Fr cap T:=⟨_,rfl⟩;rw [<- hF] at hH hFok hFl ⊢;refine VS [2,23,24,25] ?_;refine VB ?_;refine Ay [2,23,24,25] (fun m e w'=>∃ (i:Nat),Is e [(2,.int .i64 need),(23,.slice a2 F.length c2),(24,.int .i64 F.length),(25,.int .i64 i)]/\Heap w [] w' [Y0 64 2 a2 F.length c2 (C5 F)]/\Fl need F=Fl need (F.drop i)/\i<=F.length/\m=F.length - i) F.length ?_ ?_
 ·
  refine Qs ?_;exact ⟨0,rfl,hH,rfl,by omega,rfl⟩
 clear hH;rintro m e w3 ⟨i,rfl,hH,hfi,hi,rfl⟩;refine VS [2,23,24,25,26] ?_;(repeat refine Aw ?_);refine VD (fun h=>?_) (fun h=>?_)
 ·
  refine Ad ?_;refine VB ?_;have hi':i < F.length:=by omega
  obtain ⟨x,hx⟩:∃ x,F[i]? = some x:=⟨_,Yk hi'⟩
  have hdr:F.drop i=x::F.drop (i+1):=by
   rw [List.drop_eq_getElem_cons hi'];congr 1;rw [Yk hi'] at hx;exact Option.some.inj hx
  rw [hdr,Fl] at hfi;obtain ⟨g,rfl⟩:=Cw (hH.at 0 rfl) (by omega);have hrd:=Mw (k:=2) Qdk (As (hH.at 0 rfl)) rfl hx;rw [Sv,Xs] at hrd;refine VQ [2,11,23,24,25] fun K hK=>?_;refine ⟨⟨by omega,by omega⟩,Bx x,⟨rfl,hrd⟩,?_⟩;refine Bo (.agg #[.int .i64 0,.int .i64 0]) (by kernel_rfl) ?_;refine Qs ?_;have hH1:=hH.box 64 [.int .i64 0,.int .i64 0];generalize w3.alloc (Xf [Ul .i64 0,.int .i64 0].toArray 64)=w4 at *;generalize w3.heap.size=gb at *;refine Ag ?_;refine Qs ?_;refine Ap hH1 0 (vs:=Bx x) rfl rfl (by kernel_rfl) (by simp [Bx]) (La x) fun w5 hH2=>?_;have hH2:Heap w [] w5 [Ye gb 64 (Bx x),Y0 64 2 (some ⟨g,0,none⟩) F.length c2 (C5 F)]:=hH2;clear hH1 hH;apply hK;clear hK;have c1:w5.cell? ⟨gb,0,none⟩=some (.int .i64 x.1):=Af (hH2.at 0 rfl) rfl;have c2':w5.cell? ⟨gb,1,none⟩=some (.int .i64 x.2):=Af (hH2.at 0 rfl) rfl;refine VQ [2,11,23,24,25,32] fun K hK=>?_;refine ⟨_,c2',?_⟩;refine Qs ?_;apply hK;clear hK;refine VD (fun h=>?_) (fun h=>Ad ?_)
  ·
   rw [if_pos h] at hfi;refine VQ [6,7] fun K hK=>?_;refine ⟨_,c1,?_⟩;apply hK;clear hK;refine Ae (Bp rfl rfl rfl ⟨hH2.sub (Yi _),.inr (.inr ⟨hn1,hmc,T,hp,hs,?_⟩)⟩);rw [<- hF,hfi]
  rw [if_neg h] at hfi;refine An ?_;refine VS [2,23,24,25] ?_;refine Ah ?_;refine Qs ?_;exact ⟨F.length - (i+1),by omega,i+1,rfl,hH2.sub (Yf _ _),hfi,by omega,rfl⟩
 obtain rfl:i=F.length:=by omega
 rw [List.drop_length,Fl] at hfi;refine Ax rfl ?_;refine VS [6,7] ?_;refine Ae (Bp rfl rfl rfl ⟨hH.sub (Yi _),.inr (.inr ⟨hn1,hmc,T,hp,hs,?_⟩)⟩);rw [<- hF,hfi]
set_option maxHeartbeats 2000000
theorem Qk3 {M:Int}:∀ (U:List Ex) (a:Int) (O:List Ex),(∀ x∈U,30<=x.1/\0<=x.2/\x.1+x.2<=M)->30<=a->(∀ x∈O,30<=x.1/\x.1+x.2<=M)->∀ x∈(Ds a O U).2,30<=x.1/\x.1+x.2<=M
 | [],_,_,_,_,h=>h
 | y::U,a,O,hU,ha,hO=>by
  obtain ⟨h1,h2,h3⟩:=hU y (.head _);refine Qk3 U _ _ (fun x hx=>hU x (.tail _ hx)) (by omega) fun x hx=>?_;split at hx
  ·
   rcases Yu.1 hx with hx | hx
   ·
    exact hO x hx
   rw [Yp] at hx;subst hx;exact ⟨ha,by show a+(y.1 - a)<=M;omega⟩
  exact hO x hx
theorem Que {need:Int}:∀ {l:List Ex},(Fl need l).2=0->∃ x∈l,need<=x.2/\(Fl need l).1=x.1
 | [],h=>by simp [Fl] at h
 | x::l,h=>by
  unfold Fl at h ⊢;split at h
  ·
   rename_i hc;rw [if_pos hc];exact ⟨x,.head _,hc,rfl⟩
  rename_i hc;rw [if_neg hc];obtain ⟨y,h1,h2,h3⟩:=Que h;exact ⟨y,.tail _ h1,h2,h3⟩
theorem Qqe {cap need:Int}{T:List Ex} (hc:30<=cap) (h:May cap T) (h0:(Fl need (Fr cap T)).2=0):30<=(Fl need (Fr cap T)).1/\(Fl need (Fr cap T)).1+need<=cap:=by
 obtain ⟨x,h1,h2,h3⟩:=Que h0;have:=Qk3 _ 30 [] (fun y hy=>Qce h hy) (by omega) (by simp) x h1;rw [h3];omega
abbrev Df:=Bs×Bs
def B4 (x:Df):LV:=[Ab x.1,Ab x.2]
theorem Qm0 (x:Df):(B4 x).length=2:=rfl
theorem Rf (x:Df):∀ v∈B4 x,v.oneCell'=true:=by
 intro v hv;simp [B4] at hv;rcases hv with rfl | rfl <;> rfl
abbrev Ih (a:OA) (c:Nat) (l:List Df):Res:=Y0 43 2 a l.length c (Bw B4 l)
theorem Rp {w:World}{g n:Nat}{l:List Df} (h:RS w (some ⟨g,0,none⟩) n 2 (Bw B4 l)) {i:Nat}{m:Df} (hm:l[i]? = some m):Reads w ⟨g,i * 2,none⟩ (B4 m):=by
 have:=Mw (k:=2) Qm0 h rfl hm
 rwa [Sv,Xs] at this
def Db (x:Df) (s n:Int):Nt:=(1,⟨x.1,s,n,x.2.length,Oo x.2⟩)
theorem Quf {x:Df}{s n:Int} (hp:x.1.length<=1000) (hs:I64 s) (hn:I64 n) (hz:x.2.length<=8192):(Db x s n).2.fit :=
 ⟨hp,hs,hn,Yr (by show (-9223372036854775808:Int)<=(x.2.length:Int);omega) (by show (x.2.length:Int)<=9223372036854775807;omega),S0 _ 32⟩
structure N9 (V:Vt) (x:Df) (s0:Int) (n:Nat):Prop where
 br:V.br=false
 pc:If x.1=0
 pl:x.1.length<=400
 cl:x.2.length<=8192
 ln:V.ml.length < 16
 nx:V.next<=17
 own:P1 x.2 (tS x.2)->(Mu x.1 x.2 (tS x.2)).length=512 * n
 may:May V.d.cap (V.ml.map A9)
 fir:∀ T,T.Perm (V.ml.map A9)->Oq T->Fl n (Fr V.d.cap T)=(s0,0)
 ok:Mb.ok ⟨x.1,s0,n,x.2.length,Oo x.2⟩
def PutR (V:Vt) (l:List Df) (e:Int) (V':Vt):Prop:=(l=[]->V'=V/\(e=0 ↔ V.br=false/\V.ml.length<=16)) /\
 ∀ x s0 n,l=[x]->N9 V x s0 n->e=0/\V'.br=false/\V'.next=V.next+2/\L3 V.ml [Db x s0 n] V'.ml/\(s0+n) * 512<=V'.d.nl.length
theorem PutR.bad {V:Vt}{l:List Df}{e:Int} (he:e≠0) (h0:l=[]->¬ (V.br=false/\V.ml.length<=16)) (h1:∀ x s0 n,l=[x]->¬ N9 V x s0 n):PutR V l e V :=
 ⟨fun h=>⟨rfl,fun h2=>absurd h2 he,fun h2=>absurd h2 (h0 h)⟩,fun x s0 n h h2=>absurd h2 (h1 x s0 n h)⟩
theorem PutR.one {V V':Vt}{x:Df}{e:Int} (h:∀ s0 n,N9 V x s0 n->e=0/\V'.br=false/\V'.next=V.next+2/\L3 V.ml [Db x s0 n] V'.ml/\(s0+n) * 512<=V'.d.nl.length):PutR V [x] e V' :=
 ⟨fun h=>(by cases h),fun y s0 n h2 h3=>by cases h2;exact h s0 n h3⟩
theorem Qk4 {l T:List Mb} (hn:(l.map (·.p)).Nodup) (h:L3 l [] T):T.length=l.length:=by
 refine ((List.perm_ext_iff_of_nodup (Qdl h.1) (Qdl hn)).2 fun m=>?_).length_eq;rw [h.2.1 m]
 show N1 l m.p=some m ↔ _
 rw [Qdm hn];simp
theorem QTb {KV:Value->Prop} (p:Bs) (z:Int) (c:Nat):Ca Yd 54 [(0,Ab p),(3,.int .i64 z),(4,.int .u32 c)] KV=KV (.agg (Ar ⟨p,0,0,z,c⟩).toArray):=Cx (by kernel_rfl)
theorem bdN {KV:Value->Prop} (i:Int) (m:Mb):Ca Yd 92 [(0,.int .i64 i),(1,.agg (Ar m).toArray)] KV=KV (.agg (Ed (i,m)).toArray):=Cx (by kernel_rfl)
attribute [go_sem ↓] QTb bdN
def Mid (V:Vt) (l:List Df) (i:Nat) (N:List Nt) (U:List Ex) (S:List Bs):Prop:=(i=0/\N=l.map (fun x=>Db x 0 0)/\U=V.ml.map A9/\S=[]) ∨
 (i=1/\∃ (x:Df) (s:Bs) (s0:Int) (n:Nat),l=[x]/\N=[Db x s0 n]/\S=[s]/\s.length=512 * n/\30<=s0/\s0+n<=V.d.cap/\1<=n/\∀ s1 n1,N9 V x s1 n1->s1=s0/\n1=n)
theorem Qxl {V:Vt}{x:Df}{n:Nat}{v:Value} (hc:30<=V.d.cap) (hn:∀ s1 n1,N9 V x s1 n1->n1=n)
  (h:((n:Int) < 1/\v=.tuple #[.int .i64 0,.int .i64 2])∨(1<=(n:Int)/\¬ (1<=V.d.cap/\V.d.cap<=4096/\May V.d.cap (V.ml.map A9))/\v=.tuple #[.int .i64 0,.int .i64 220]) ∨
   (1<=(n:Int)/\(1<=V.d.cap/\V.d.cap<=4096/\May V.d.cap (V.ml.map A9))/\∃ T:List Ex,T.Perm (V.ml.map A9)/\Oq T/\v=.tuple #[.int .i64 (Fl n (Fr V.d.cap T)).1,.int .i64 (Fl n (Fr V.d.cap T)).2])) (hc2:V.d.cap<=4096) :
  ∃ s0 e2:Int,v=.tuple #[.int .i64 s0,.int .i64 e2]/\(e2=0->30<=s0/\s0+n<=V.d.cap/\1<=n)/\∀ s1 n1,N9 V x s1 n1->e2=0/\s1=s0:=by
 rcases h with ⟨h1,rfl⟩ | ⟨h1,h2,rfl⟩ | ⟨h1,h2,T,h3,h4,rfl⟩
 ·
  exact ⟨0,2,rfl,by omega,fun s1 n1 hP=>by have h2:(1:Int)<=n1:=hP.ok.n;have h3:=hn s1 n1 hP;omega⟩
 ·
  exact ⟨0,220,rfl,by omega,fun s1 n1 hP=>absurd ⟨by omega,hc2,hP.may⟩ h2⟩
 refine ⟨_,_,rfl,fun h0=>?_,fun s1 n1 hP=>?_⟩
 ·
  have:=Qqe hc ((Vu h3).2 h2.2.2) h0;exact ⟨this.1,this.2,by omega⟩
 have:=hP.fir T h3 h4;rw [hn s1 n1 hP] at this;rw [this];exact ⟨rfl,rfl⟩
section
variable {w0 w:World}{G:List Res}{V:Vt}{k:Nat}
theorem Qk5 (hT:Tb w0) (hV:V.ok (k+5000)) (l:List Df) (ae:OA) (ce:Nat) (hl:l.length<=1) (hp:∀ x∈l,x.1.length<=1000) (hm:Ih ae ce l∈G) (hH:Heap w0 [] w (dL V.d++(vH V++G))) :
  Does Yd 20 #[pV V.g,.slice ae l.length ce] w fun v w'=>∃ (e:Int) (V':Vt),v=.int .i64 e/\V.nx V' k/\Heap w0 [] w' (dL V'.d++(vH V'++G))/\PutR V l e V':=by
 have hno:V.nx V k:=⟨hV.mono (by omega),rfl,rfl,rfl,Yx _⟩;have hll:=hV.l;have hc1:=hV.d.c1;have hc2:=hV.d.c2;refine En [pV V.g,.slice ae l.length ce] 229 Tryz.func20 ?_;refine Aj [0,1] fun K hK=>?_;apply hK;clear hK;refine Aj [0,1,5] fun K hK=>?_;refine Aa Up ?_;refine Qi ?_;refine Ya (Qbf hV hH) ?_;rintro v w3 ⟨rfl,rfl⟩;apply hK;clear hK;refine Aj [0,1,5,28] fun K hK=>?_;apply hK;clear hK;by_cases hb:V.br=true
 ·
  rw [if_pos hb];refine Ai rfl rfl (fun h=>?_) (fun h=>by simp at h);refine Aj [4] fun K hK=>?_;apply hK;clear hK;exact Ae (Al rfl rfl ⟨190,V,rfl,hno,hH,.bad (by omega) (fun _ h=>by simp [hb] at h) fun x s0 n _ h=>by have:=h.br;simp [hb] at this⟩)
 replace hb:V.br=false:=by simpa using hb
 rw [if_neg (by simp [hb])];refine Ai rfl rfl (fun h=>by simp at h) (fun h=>Ad ?_);clear h;refine Aj [0,1,30,31,32] fun K hK=>?_;apply hK;clear hK;refine Aq ?_;refine Ay [0,1,30,31,32] (fun m e w'=>∃ (i:Nat),Is e [(0,pV V.g),(1,.slice ae l.length ce),(30,.slice ae l.length ce),(31,.int .i64 l.length),(32,.int .i64 i)]/\Heap w0 [] w' (dL V.d++(vH V++G))/\(∀ x∈l.take i,If x.1=0/\x.2.length<=8192)/\i<=l.length/\m=l.length - i) l.length ?_ ?_
 ·
  refine Qi ?_;exact ⟨0,rfl,hH,by simp,by omega,rfl⟩
 clear hH w3;rintro m e w3 ⟨i,rfl,hH,hck,hi,rfl⟩;refine Aj [0,1,30,31,32,33] fun K hK=>?_;apply hK;clear hK;(repeat refine Aw ?_);refine VD (fun h=>?_) (fun h=>?_)
 ·
  refine Ad ?_
  ((repeat refine Aw ?_);refine Aq ?_)
  obtain ⟨x,hx⟩:∃ x,l[i]? = some x:=⟨_,Yk (show i < l.length by omega)⟩;have hl1:=hH.holds _ (Yo _ (Yo _ hm));obtain ⟨g,hga⟩:=Cw hl1 (by omega);subst hga;have hrd:=Rp (As hl1) hx;refine Aj [0,1,7,30,31,32] fun K hK=>?_;refine ⟨⟨by omega,by omega⟩,B4 x,⟨rfl,hrd⟩,?_⟩;refine Dg hH (B4 ([],[])) fun gx w4 hH1=>?_;refine Qi ?_;refine Ag ?_;refine Qi ?_;refine Ap hH1 0 (vs:=B4 x) rfl rfl (by kernel_rfl) (by simp [B4]) (Rf x) fun w5 hH2=>?_;have hH2:Heap w0 [] w5 (Ye gx 43 (B4 x)::(dL V.d++(vH V++G))):=hH2;clear hH1 hl1 hrd;apply hK;clear hK;refine Aj [0,1,7,30,31,32,39] fun K hK=>?_;refine ⟨_,Af (hH2.at 0 rfl) rfl,?_⟩;refine Aa X9 ?_;refine Qi ?_;refine Ya (T3 x.1 _ (by have:=hp x (Yn hx);omega)) ?_;rintro v w6 ⟨hA,rfl⟩;have hH3:=hH2.call0 hA;simp only [Yb] at hH3;clear hA hH2 hH;refine Qi ?_;apply hK;clear hK;refine Ai rfl rfl (fun h2=>?_) (fun h2=>Ad ?_)
  ·
   simp only [decide_eq_true_eq] at h2;refine Aj [4] fun K hK=>?_;apply hK;clear hK
   exact Ae (Al rfl rfl ⟨140,V,rfl,hno,hH3.sub (Yf _ _),.bad (by omega) (fun h3=>by subst h3;simp at hx) fun y s0 n h3 h4=>by
    subst h3;have:=Yn hx;rw [Yp] at this;subst this;exact h2 h4.pc⟩)
  replace h2:If x.1=0:=by simpa using h2
  refine Aj [0,1,30,31,32,43] fun K hK=>?_;refine ⟨_,Af (hH3.at 0 rfl) (k:=1) rfl,?_⟩;refine Qi ?_;apply hK;clear hK;refine Ai rfl rfl (fun h4=>?_) (fun h4=>Ad ?_)
  ·
   simp only [decide_eq_true_eq] at h4;refine Aj [4] fun K hK=>?_;apply hK;clear hK
   exact Ae (Al rfl rfl ⟨3,V,rfl,hno,hH3.sub (Yf _ _),.bad (by omega) (fun h3=>by subst h3;simp at hx) fun y s0 n h3 h5=>by
    subst h3;have:=Yn hx;rw [Yp] at this;subst this;have:=h5.cl;omega⟩)
  simp only [decide_eq_false_iff_not] at h4;refine An ?_;refine Aj [0,1,30,31,32] fun K hK=>?_;(repeat refine Qo ?_);apply hK;clear hK;refine Ah ?_;refine Qi ?_;exact ⟨l.length - (i+1),by omega,i+1,rfl,hH3.sub (Yf _ _),by rw [Xh,hx];exact fun z hz=>(Yu.1 hz).elim (hck z) fun hz=>by simp at hz;rw [hz];exact ⟨h2,by omega⟩,by omega,rfl⟩
 obtain rfl:i=l.length:=by omega
 rw [Xe] at hck;clear h hi;refine Ax rfl ?_;refine Aj [0,1,8] fun K hK=>?_;apply hK;clear hK;refine Aj [0,1,8,9] fun K hK=>?_;refine Qc8 ?_;replace hH:=hH.newObj (.map (B5 []) 0);rw [show B5 []=#[] from rfl] at hH;generalize w3.alloc (Obj.map #[] 0)=w1 at *;generalize w3.heap.size=gm at *;refine Qi ?_;apply hK;clear hK;refine Aj [0,1,8,9,46,47,48] fun K hK=>?_;apply hK;clear hK;refine Aq ?_;refine Ay [0,1,8,9,46,47,48] (fun m e w'=>∃ (i:Nat) (an:OA) (cn:Nat) (L:List Ci) (cl:Nat),Is e [(0,pV V.g),(1,.slice ae l.length ce),(8,.slice an i cn),(9,.map (some gm)),(46,.slice ae l.length ce),(47,.int .i64 l.length),(48,.int .i64 i)]/\Heap w0 [] w' (Y0 92 6 an i cn (QLn ((l.take i).map fun x=>Db x 0 0))::Xg gm (.map (B5 L) cl)::(dL V.d++(vH V++G)))/\M7 L cl/\(i=0->L=[]/\an=none/\cn=0)/\i<=l.length/\m=l.length - i) l.length ?_ ?_
 ·
  refine Qi ?_;exact ⟨0,none,0,[],0,rfl,hH.nilRow 92 6,Qki,fun _=>⟨rfl,rfl,rfl⟩,by omega,rfl⟩
 clear hH w1 w3;rintro m e w3 ⟨i,an,cn,L,cl,rfl,hH,hM,hi0,hi,rfl⟩;refine Aj [0,1,8,9,46,47,48,49] fun K hK=>?_;apply hK;clear hK;(repeat refine Aw ?_);refine VD (fun h=>?_) (fun h=>?_)
 ·
  refine Ad ?_;obtain rfl:i=0:=by omega
  obtain ⟨rfl,rfl,rfl⟩:=hi0 rfl;obtain ⟨x,rfl⟩:∃ x,l=[x]:=X7.1 (by omega);clear hi0 hi
  ((repeat refine Aw ?_);refine Aq ?_)
  have hl1:=hH.holds _ (.tail _ (.tail _ (Yo _ (Yo _ hm))));obtain ⟨g,hga⟩:=Cw hl1 (by omega);subst hga;have hrd:=Rp (As hl1) (i:=0) rfl;have hpx:=hp x (.head _);have hcx:=(hck x (.head _)).2;refine Aj [0,1,8,9,11,46,47,48] fun K hK=>?_;refine ⟨⟨by omega,by omega⟩,B4 x,⟨rfl,hrd⟩,?_⟩;refine Dg hH (B4 ([],[])) fun gx w4 hH1=>?_;refine Qi ?_;refine Ag ?_;refine Qi ?_;refine Ap hH1 0 (vs:=B4 x) rfl rfl (by kernel_rfl) (by simp [B4]) (Rf x) fun w5 hH2=>?_;have hH2:Heap w0 [] w5 (Ye gx 43 (B4 x)::Y0 92 6 none 0 0 []::Xg gm (.map (B5 []) cl)::(dL V.d++(vH V++G))):=hH2;clear hH1 hl1 hrd hH;apply hK;clear hK;refine Aj [0,1,8,9,11,46,47,48,55] fun K hK=>?_;refine ⟨_,Af (hH2.at 0 rfl) rfl,?_⟩;refine Qoc hH2 2 (z:=.bool false) rfl Uh Xa (by kernel_rfl) ?_;refine Qi ?_;refine ⟨trivial,x.1,rfl,?_⟩;apply hK;clear hK;refine Ai rfl rfl (fun h2=>by cases h2) (fun h2=>Ad ?_);clear h2;refine Aj [0,1,8,9,11,46,47,48] fun K hK=>?_;refine ⟨_,Af (hH2.at 0 rfl) rfl,?_⟩;refine Qaf hH2 2 rfl hM Uh Xa ?_;refine Qi ?_;refine ⟨trivial,x.1,rfl,fun w6 hH3=>?_⟩;have hM2:=Qkj hM x.1 (.bool true);replace hH3:Heap w0 [] w6 (Ye gx 43 (B4 x)::Y0 92 6 none 0 0 []::Xg gm (.map (B5 (I4 [] cl x.1 (.bool true))) (L9 [] cl x.1))::(dL V.d++(vH V++G))):=hH3;clear hH2 hM;generalize I4 [] cl x.1 (.bool true)=L2 at *;generalize L9 [] cl x.1=cl2 at *;apply hK;clear hK;(repeat refine Aw ?_);refine T5 w6 (Ext.refl _) [0,1,8,9,46,47,48] [(0,true),(1,true),(2,true),(3,true),(4,true),(5,true),(6,true),(7,true),(8,false),(9,true),(10,true),(11,false),(12,false),(13,true)] (by kernel_rfl) (by kernel_rfl) rfl (by simp only [A6,List.filterMap_cons,List.filterMap_nil,List.getElem?_cons_succ,List.getElem?_cons_zero,Option.map_some];rfl) fun K hK=>?_;refine Qi ?_;have c0:=Af (hH3.at 0 rfl) (k:=0) (v:=Ab x.1) rfl;have c1:=Af (hH3.at 0 rfl) (k:=1) (v:=Ab x.2) rfl;refine ⟨_,c0,_,c1,_,c1,?_⟩;refine Qi ?_;refine Aa Tryz.call53 ?_;refine Qi ?_;refine Ya (Qkn x.2 w6 (by omega)) ?_;rintro v w7 ⟨hA,rfl⟩;refine Qi ?_;refine ⟨hA.ext,?_⟩;have hL:=hA.nilRow 92 6;refine C2 hL 6 (Ed (Db x 0 0)) (xs:=[.tmp 69]) Xi QF5 rfl rfl rfl (by omega) (by omega) ?_;refine Qi ?_;refine ⟨by simp [Ed,Ar,Db,Yh],by simp [Ed,Ar,Db,Yh],fun gl w8 hL2=>?_⟩;refine ⟨hL2.ext,?_⟩;refine Ce ?_;refine Qi ?_;refine C3 (zs:=#[.int .i64 0,.string ⟨#[]⟩,.int .i64 0,.int .i64 0,.int .i64 0,.int .u32 0]) (bytes:=56) hL2 1 rfl Xi (by kernel_rfl) rfl (m:=1) ⟨rfl,As (hL2.at 0 rfl),92,Xi⟩ (Qms _) (fun h=>by simp) fun a' cap' w9 hc' hL3=>?_;refine Qi ?_;refine ⟨hL3.ext,?_⟩;apply hK;clear hK;refine An ?_;refine Aj [0,1,8,9,46,47,48] fun K hK=>?_;(repeat refine Qo ?_);apply hK;clear hK;refine Ah ?_;refine Qi ?_;have hH4:=hH3.call0 (hL3.sub (Yf _ _));exact ⟨[x].length - (0+1),by simp,0+1,a',cap',L2,cl2,rfl,hH4.sub (.cons_cons _ (.cons _ (.cons _ (.refl _)))),hM2,fun h=>by omega,by simp,rfl⟩
 obtain rfl:i=l.length:=by omega
 rw [Xe] at hH;clear h hi hi0 hM
 have hX:Heap w0 [] w3 (dL V.d++(vH V++([Ft an cn (l.map fun x=>Db x 0 0)]++G))):=by
  have h1:Heap w0 [] w3 ([Ft an cn (l.map fun x=>Db x 0 0)]++((dL V.d++vH V)++G)):=by
   have:=hH.sub (.cons_cons _ (.cons _ (.refl _)));rw [show l.length=(l.map fun x=>Db x 0 0).length by simp] at this;exact this
  exact h1.under _ _
 rw [show l.length=(l.map fun x=>Db x 0 0).length by simp];clear hH;refine Ax rfl ?_;refine Aj [0,1,8,81] fun K hK=>?_;refine ⟨_,Dy hX (i:=3) rfl,?_⟩
 refine Aa Tryz.call33 ?_;refine Qi ?_;refine Ya (Qfd V.ml V.ma V.mc (l.map fun x=>Db x 0 0) an cn w3 (hX.at 5 rfl) (hX.at 6 rfl) (by omega) (by simp;omega) (M4 hV) (fun y hy=>by
  obtain ⟨x,hx,rfl⟩:=Xt.1 hy;exact Quf (hp x hx) (Yr (by decide) (by decide)) (Yr (by decide) (by decide)) (hck x hx).2)) ?_
 rintro v w4 ⟨T,a',c',rfl,hTT,hA⟩;refine Qi ?_;rw [Xr];have hX2:Heap w0 [] w4 (dL V.d++(vH V++([Ft an cn (l.map fun x=>Db x 0 0)]++G))):=(hX.call0 hA).sub (Yf _ _);have hT2:=hTT.2.2;rw [Xr] at hT2;clear hX hA;apply hK;clear hK;refine VD (fun h=>?_) (fun h=>Ad ?_)
 ·
  refine Aj [4] fun K hK=>?_;apply hK;clear hK
  exact Ae (Al rfl rfl ⟨241,V,rfl,hno,hX2.sub ((List.Sublist.refl _).append ((List.Sublist.refl _).append (.cons _ (.refl _)))),.bad (by omega) (fun h3 h4=>by subst h3;have:=Qk4 hV.n hTT;omega) fun y s0 n h3 h5=>by
   have:=h5.ln;omega⟩)
 have h16:l=[]->V.ml.length<=16:=fun h3=>by subst h3;have:=Qk4 hV.n hTT;omega
 clear h hTT hT2;refine Aj [0,1,8,12] fun K hK=>?_;refine Aa Ud ?_;refine Qi ?_;refine Ya (W7 hV hX2) ?_;rintro v w5 ⟨au,cu,rfl,hA⟩
 have hX3:Heap w0 [] w5 (C1 none [] 0::Fj au cu (V.ml.map A9)::Ft an cn (l.map fun x=>Db x 0 0)::(dL V.d++(vH V++G))) :=
  ((hX2.call0 hA).under1 _ (dL V.d++vH V) [Ft an cn (l.map fun x=>Db x 0 0)]).nilRow 9 1
 clear hX2 hA;apply hK;clear hK;refine Aj [0,1,8,12,13] fun K hK=>?_;apply hK;clear hK;refine Aj [0,1,8,12,13,86,87,88] fun K hK=>?_;apply hK;clear hK;refine Aq ?_;refine Ay [0,1,8,12,13,86,87,88] (fun m e w'=>∃ (i:Nat) (an:OA) (cn:Nat) (N:List Nt) (au:OA) (cu:Nat) (U:List Ex) (sa:OA) (cs:Nat) (S:List Bs),Is e [(0,pV V.g),(1,.slice ae l.length ce),(8,.slice an N.length cn),(12,.slice au U.length cu),(13,.slice sa S.length cs),(86,.slice ae l.length ce),(87,.int .i64 l.length),(88,.int .i64 i)]/\Heap w0 [] w' (C1 sa S cs::Fj au cu U::Ft an cn N::(dL V.d++(vH V++G)))/\Mid V l i N U S/\i<=l.length/\m=l.length - i) l.length ?_ ?_
 ·
  refine Qi ?_;exact ⟨0,an,cn,_,au,cu,_,none,0,_,by simp only [Xr];rfl,hX3,.inl ⟨rfl,rfl,rfl,rfl⟩,by omega,rfl⟩
 clear hX3 w5 w4 w3;rintro m e w3 ⟨i,an,cn,N,au,cu,U,sa,cs,S,rfl,hH,hmid,hi,rfl⟩;refine Aj [0,1,8,12,13,86,87,88,89] fun K hK=>?_;apply hK;clear hK;(repeat refine Aw ?_);refine VD (fun h=>?_) (fun h=>?_)
 ·
  refine Ad ?_;rcases hmid with ⟨rfl,rfl,rfl,rfl⟩ | ⟨rfl,x,s,s0,n,rfl,_⟩
  case inr=>simp at h
  obtain ⟨x,rfl⟩:∃ x,l=[x]:=X7.1 (by omega);clear h16 hi h
  ((repeat refine Aw ?_);refine Aq ?_)
  have hl1:=hH.holds _ (.tail _ (.tail _ (.tail _ (Yo _ (Yo _ hm)))));obtain ⟨g,hga⟩:=Cw hl1 (by simp);subst hga;have hrd:=Rp (As hl1) (i:=0) rfl;have hpx:=hp x (.head _);obtain ⟨hcp,hcx⟩:=hck x (.head _);obtain ⟨gn,hgn⟩:=Cw (hH.at 2 rfl) (by simp);subst hgn;refine Aj [0,1,8,12,13,14,15,86,87,88] fun K hK=>?_;refine ⟨⟨by omega,by simp⟩,B4 x,⟨rfl,hrd⟩,?_⟩;refine Dg hH (B4 ([],[])) fun gx w4 hH1=>?_;refine Qi ?_;refine Ag ?_;refine Qi ?_;refine Ap hH1 0 (vs:=B4 x) rfl rfl (by kernel_rfl) (by simp [B4]) (Rf x) fun w5 hH2=>?_;have hH2:Heap w0 [] w5 (Ye gx 43 (B4 x)::C1 sa [] cs::Fj au cu (V.ml.map A9)::Ft (some ⟨gn,0,none⟩) cn [Db x 0 0]::(dL V.d++(vH V++G))):=hH2;clear hH1 hl1 hrd hH;apply hK;clear hK;refine Aj [0,1,8,12,13,14,16,17,86,87,88] fun K hK=>?_;refine ⟨_,Af (hH2.at 0 rfl) (k:=0) rfl,_,Af (hH2.at 0 rfl) (k:=1) rfl,?_⟩;refine Aa Tryz.call54 ?_;refine Qi ?_;refine Ya (Qs0 x.1 x.2 _ (hT.heap hH2) (by omega) (by omega)) ?_;rintro v w6 ⟨hA,hv,hP1⟩
  have hcl:E9 x.1=some x.1:=by
   unfold If at hcp;split at hcp
   ·
    assumption
   omega
  rw [makeV,if_pos hcl,if_neg (by omega)] at hv;subst hv;have ho:=QFv (c:=x.2) (T:=tS x.2) hcl;have hsm:=(hP1 hcl hcx).small (by omega);have hpu:∀ s0 n,N9 V x s0 n->(Mu x.1 x.2 (tS x.2)).length=512 * n:=fun s0 n h=>h.own (hP1 hcl hcx);generalize Mu x.1 x.2 (tS x.2)=s at *;obtain ⟨n,hn⟩:∃ n,s.length=512 * n:=⟨s.length / 512,by omega⟩;have hH3:=(hH2.sub (Yf _ _)).call0 hA;simp only [Yb] at hH3;clear hH2 hA hP1;apply hK;clear hK;refine Aj [0,1,8,12,13,14,16,17,86,87,88,102] fun K hK=>?_;apply hK;clear hK;refine Ai rfl rfl (fun h=>by simp at h) (fun h=>Ad ?_);clear h;refine Aj [0,1,8,12,13,16,18,86,87,88] fun K hK=>?_;refine ⟨⟨by omega,by simp⟩,?_⟩;apply hK;clear hK;refine Aj [0,1,8,12,13,16,18,86,87,88] fun K hK=>?_;refine ⟨by omega,by omega,Yr (by omega) (by omega),?_⟩;rw [show (s.length:Int) / 512=(n:Int) by omega];refine Ag ?_;refine Qi ?_;refine Dp hH3 2 (o:=3) (vs:=[.int .i64 n]) rfl (by first | rfl | simp [Bv]) rfl (by kernel_rfl) (by show 3+1<=6;omega) (by simp [Yc]) fun w6 hH4=>?_;have hH5:Heap w0 [] w6 (C1 sa [] cs::Fj au cu (V.ml.map A9)::Ft (some ⟨gn,0,none⟩) cn [Db x 0 n]::(dL V.d++(vH V++G))):=hH4;clear hH3 hH4;apply hK;clear hK;have hX:Heap w0 [] w6 (dL V.d++(vH V++([C1 sa [] cs,Fj au cu (V.ml.map A9),Ft (some ⟨gn,0,none⟩) cn [Db x 0 n]]++G))):=X6 [_,_,_] (dL V.d++vH V) hH5;have cD:=Dy hX (i:=0) rfl
  have hxo:∀ y∈V.ml.map A9,Kg y:=fun y hy=>by
   obtain ⟨m,hm,rfl⟩:=Xt.1 hy;exact ⟨(M4 hV m hm).s,(M4 hV m hm).n⟩
  have cN:=B3 (hH5.at 2 rfl) (k:=3) (v:=.int .i64 n) rfl;refine V3 (bare w6) (Ss _ _) [0,1,8,12,13,16,17,18,86,87,88] (.two [(0,true),(1,true),(2,true),(3,true),(4,true),(5,true),(8,true),(9,true),(10,true)] 6 11 (.two [] 7 11 (.seq [(11,false),(12,false),(13,true),(14,true),(15,true),(16,true),(17,true),(18,false),(19,true)]) (.seq [(7,false),(12,false),(13,true),(14,true),(15,true),(16,true),(17,true),(18,false),(19,true)])) (.seq [(6,false),(7,false),(12,false),(13,true),(14,true),(15,true),(16,true),(17,true),(18,false),(19,true)])) fun K hK=>?_
  suffices out:∀ (s0 e2:Int) (w9:World),(e2=0->30<=s0/\s0+n<=V.d.cap/\1<=n)->(∀ s1 n1,N9 V x s1 n1->e2=0/\s1=s0)->Heap w0 [] w9 (C1 sa [] cs::Fj au cu (V.ml.map A9)::Ft (some ⟨gn,0,none⟩) cn [Db x s0 n]::(dL V.d++(vH V++G)))->K [(0,pV V.g),(1,.slice (some ⟨g,0,none⟩) [x].length ce),(8,.slice (some ⟨gn,0,none⟩) 1 cn),(12,.slice au (V.ml.map A9).length cu),(13,.slice sa 0 cs),(16,Ab s),(17,.int .i64 e2),(18,.pointer (some ⟨gn,1,none⟩)),(86,.slice (some ⟨g,0,none⟩) [x].length ce),(87,.int .i64 [x].length),(88,.int .i64 (0:Nat))] w9 by
   simp only [Lm,A6,List.filterMap_cons,List.filterMap_nil,List.getElem?_cons_succ,List.getElem?_cons_zero,Option.map_some];refine Qi ?_
   repeat' (first
    | (refine ⟨_,cD,?_⟩;skip)
    | (refine ⟨_,cN,?_⟩;(try refine Qi ?_))
    | (refine Aa Xd ?_;refine Qi ?_;refine Ya (Nk hV.d hX) ?_;rintro v w8 ⟨rfl,rfl⟩;skip)
    | (simp only [Bi];refine Qi ?_)
    | refine And.intro ?_ ?_)
   all_goals
    refine Aa Tryz.call24 ?_;refine Qi ?_;refine Ya (Qfq (V.ml.map A9) au cu V.d.cap n _ (As (hH5.at 1 rfl)) (by simp;omega) hxo (Yr (by omega) (by omega)) (Yr (by omega) (by omega))) ?_;rintro v w8 ⟨hA,hv⟩;obtain ⟨s0,e2,rfl,q1,q2⟩:=Qxl (by omega) (fun s1 n1 h=>by have:=hpu s1 n1 h;omega) hv (by omega);have hH6:=hH5.call0 hA;simp only [Yb] at hH6;(try simp only [Bi]);refine Ag ?_;refine Qi ?_;refine Dp hH6 2 (o:=2) (vs:=[.int .i64 s0]) rfl (by first | rfl | simp [Bv]) rfl (by kernel_rfl) (by show 2+1<=6;omega) (by simp [Yc]) fun w9 hH7=>?_;(try simp only [Bi]);have hH8:Heap w0 [] w9 (C1 sa [] cs::Fj au cu (V.ml.map A9)::Ft (some ⟨gn,0,none⟩) cn [Db x s0 n]::(dL V.d++(vH V++G))):=hH7;exact out s0 e2 _ q1 q2 hH8
  clear cD cN hX hH5 w6;intro s0 e2 w6 q1 q2 hH5;apply hK;clear hK;refine Aj [0,1,8,12,13,16,17,18,86,87,88,133] fun K hK=>?_;apply hK;clear hK;refine Ai rfl rfl (fun h=>?_) (fun h=>Ad ?_)
  ·
   simp only [decide_eq_true_eq] at h;refine Aj [4] fun K hK=>?_;apply hK;clear hK
   exact Ae (Al rfl rfl ⟨e2,V,rfl,hno,hH5.sub (.cons _ (.cons _ (.cons _ (.refl _)))),.bad h (fun h3=>by cases h3) fun y s1 n1 h3 h4=>by
    cases h3;exact h (q2 s1 n1 h4).1⟩)
  replace h:e2=0:=by simpa using h
  obtain ⟨b1,b2,b3⟩:=q1 h;subst h;clear q1;(repeat refine Aw ?_);refine Qw [0,1,8,12,13,16,86,87,88] [(0,0),(1,0),(2,0),(3,0),(5,0),(6,0),(7,0),(4,1),(8,2),(9,0),(10,2),(11,2),(12,0)] (by kernel_rfl) (by kernel_rfl) (by kernel_rfl) (by simp only [A6,List.map_cons,List.map_nil,beq_self_eq_true,Nat.reduceBEq,List.filterMap_cons,List.filterMap_nil,List.getElem?_cons_succ,List.getElem?_cons_zero,Option.map_some];rfl) fun K hK=>?_;refine Qi ?_;refine ⟨_,B3 (hH5.at 2 rfl) (k:=2) (v:=.int .i64 s0) rfl,_,B3 (hH5.at 2 rfl) (k:=3) (v:=.int .i64 n) rfl,?_⟩;refine Qi ?_;refine C2 hH5 2 (Bx (s0,(n:Int))) (xs:=[.tmp 144]) Yw N6 rfl rfl rfl (by omega) (by omega) ?_;refine Qi ?_;refine ⟨by simp [Bx,Yh],by simp [Bx,Yh],fun gl w7 hH6=>?_⟩;refine Ce ?_;refine Qi ?_;refine C3 (zs:=#[.int .i64 0,.int .i64 0]) (bytes:=16) hH6 2 rfl Yw (by kernel_rfl) rfl (m:=1) ⟨rfl,As (hH6.at 0 rfl),64,Yw⟩ (La _) (fun h=>by simp;omega) fun a' cap' w8 hc' hH7=>?_;apply hK;clear hK;rw [<- Sh,<- Sa] at hH7;rw [show (V.ml.map A9).length+1=(V.ml.map A9++[(s0,(n:Int))]).length by simp] at hH7 ⊢;have hH8:Heap w0 [] w8 (C1 sa [] cs::Fj a' cap' (V.ml.map A9++[(s0,(n:Int))])::Ft (some ⟨gn,0,none⟩) cn [Db x s0 n]::(dL V.d++(vH V++G))):=hH7.sub (Yf _ _);clear hH5 hH6 hH7 hc';generalize V.ml.map A9++[(s0,(n:Int))]=U at *;refine Aj [0,1,8,12,13,86,87,88] fun K hK=>?_;refine Ei hH8 (Cy [s]) (xs:=[.tmp 148]) Y1 Tt rfl rfl rfl (by omega) ?_;refine Qi ?_;refine ⟨rfl,by simp [Yh],fun g w4 hH9=>?_⟩;(try refine Qi ?_);refine Ce ?_;refine Qi ?_;refine C3 (zs:=#[.string ⟨#[]⟩]) (bytes:=16) hH9 1 rfl Y1 (by kernel_rfl) rfl (m:=1) (news:=Cy [s]) ⟨rfl,As (hH9.at 0 rfl),9,Y1⟩ (Zt _) (fun h=>by simp) fun a2 c2 w9 hc' hH10=>?_;have hH11:Heap w0 [] w9 (C1 a2 [s] c2::Fj a' cap' U::Ft (some ⟨gn,0,none⟩) cn [Db x s0 n]::(dL V.d++(vH V++G))):=hH10.sub (Yf _ _);clear hH8 hH9 hH10 hc';refine Qi ?_;apply hK;clear hK;refine An ?_;refine Aj [0,1,8,12,13,86,87,88] fun K hK=>?_;(repeat refine Qo ?_);apply hK;clear hK;refine Ah ?_;refine Qi ?_;exact ⟨[x].length - (0+1),by simp,0+1,_,cn,[Db x s0 n],a',cap',U,a2,c2,[s],rfl,hH11,.inr ⟨rfl,x,s,s0,n,rfl,rfl,rfl,hn,b1,b2,b3,fun s1 n1 h=>⟨(q2 s1 n1 h).2,by have:=hpu s1 n1 h;omega⟩⟩,by simp,rfl⟩
 obtain rfl:i=l.length:=by omega
 clear h hi;refine Ax rfl ?_;refine Aj [0,1,8,13,154] fun K hK=>?_;apply hK;clear hK;refine VD (fun h=>?_) (fun h=>Ad ?_)
 ·
  refine Aj [4] fun K hK=>?_;apply hK;clear hK;exact Ae (Al rfl rfl ⟨0,V,rfl,hno,hH.sub (.cons _ (.cons _ (.cons _ (.refl _)))),fun h3=>⟨rfl,fun _=>⟨hb,h16 h3⟩,fun _=>rfl⟩,fun y s1 n1 h3=>by subst h3;simp at h⟩)
 rcases hmid with ⟨h1,_⟩ | ⟨-,x,s,s0,n,rfl,rfl,rfl,hn,b1,b2,b3,hpu⟩
 ·
  omega
 clear h h16;have hpx:=hp x (.head _);have hcx:=(hck x (.head _)).2;have hX:Heap w0 [] w3 (dL V.d++(vH V++([C1 sa [s] cs,Ft an cn [Db x s0 n]]++G))):=X6 [_,_] (dL V.d++vH V) (hH.sub (.cons_cons _ (.cons _ (.refl _))));clear hH hck;refine Aj [0,8,13,19] fun K hK=>?_;refine ⟨Yr (by simp) (by simp),?_⟩;refine Aa Uq ?_;refine Qi ?_;refine Ya (Qcn (k:=k+4900) (hV.mono (by omega)) _ (Yr (by simp) (by simp)) hX) ?_;rintro v w4 ⟨e,V1,rfl,hV1,m1,b1',s1,hY⟩;clear hX;apply hK;clear hK;refine Aj [0,8,13,19,163] fun K hK=>?_;apply hK;clear hK;refine Ai rfl rfl (fun h=>?_) (fun h=>Ad ?_)
 ·
  simp only [decide_eq_true_eq] at h;refine Aj [4] fun K hK=>?_;apply hK;clear hK;exact Ae (Al rfl rfl ⟨e,V1,rfl,hV1.mono (by omega),hY.sub ((List.Sublist.refl _).append ((List.Sublist.refl _).append (.cons _ (.cons _ (.refl _))))),PutR.one fun s2 n2 h4=>absurd (s1 (by have:=h4.nx;simp;omega)).1 h⟩)
 replace h:e=0:=by simpa using h
 subst h;replace b1':=b1' rfl;have g1:=hV1.g;have hcap:=hV1.cap;have k1:=hV1.ok;obtain ⟨gn,hgn⟩:=Cw (hY.at 7 rfl) (by simp);subst hgn;obtain ⟨gs,hgs⟩:=Cw (hY.at 6 rfl) (by simp);subst hgs;refine Aj [0,8,165,166,167] fun K hK=>?_;apply hK;clear hK;refine Aq ?_;refine Ay [0,8,165,166,167] (fun m e w'=>∃ (i:Nat) (D1:Dk),Is e [(0,pV V.g),(8,.slice (some ⟨gn,0,none⟩) [Db x s0 n].length cn),(165,.slice (some ⟨gs,0,none⟩) [s].length cs),(166,.int .i64 [s].length),(167,.int .i64 i)]/\Heap w0 [] w' (dL D1++(vH V1++([C1 (some ⟨gs,0,none⟩) [s] cs,Ft (some ⟨gn,0,none⟩) cn [Db x s0 n]]++G)))/\V1.d.nx D1 (k+200+(1 - i) * 4096)/\(i=1->(s0+n) * 512<=D1.nl.length)/\i<=1/\m=1 - i) 1 ?_ ?_
 ·
  refine Qi ?_;exact ⟨0,V1.d,rfl,hY,⟨k1.d.mono (by omega),rfl,rfl,Yx _⟩,by omega,by omega,rfl⟩
 clear hY w4 w3;rintro m e w3 ⟨i,D1,rfl,hH,hD1,hi1,hi,rfl⟩;refine Aj [0,8,165,166,167,168] fun K hK=>?_;apply hK;clear hK;(repeat refine Aw ?_);refine Ai rfl rfl (fun h=>?_) (fun h=>?_)
 ·
  simp only [decide_eq_true_eq] at h;refine Ad ?_;obtain rfl:i=0:=by simp at h;omega
  clear hi hi1 h
  ((repeat refine Aw ?_);refine Aq ?_)
  refine Aj [0,8,20,21,165,166,167] fun K hK=>?_;refine ⟨⟨by omega,by simp⟩,_,B3 (hH.at 6 rfl) (Sl (i:=0) rfl),?_⟩;apply hK;clear hK;refine Aj [0,8,20,21,165,166,167,177,178] fun K hK=>?_;refine ⟨⟨by omega,by simp⟩,_,B3 (hH.at 7 rfl) (k:=3) (v:=.int .i64 n) rfl,?_⟩;apply hK;clear hK;refine Aq ?_;refine Ay [0,8,20,21,165,166,167,177,178] (fun m e w'=>∃ (j:Nat) (D2:Dk),Is e [(0,pV V.g),(8,.slice (some ⟨gn,0,none⟩) [Db x s0 n].length cn),(20,.int .i64 (0:Nat)),(21,Ab s),(165,.slice (some ⟨gs,0,none⟩) [s].length cs),(166,.int .i64 [s].length),(167,.int .i64 (0:Nat)),(177,.int .i64 n),(178,.int .i64 j)]/\Heap w0 [] w' (dL D2++(vH V1++([C1 (some ⟨gs,0,none⟩) [s] cs,Ft (some ⟨gn,0,none⟩) cn [Db x s0 n]]++G)))/\V1.d.nx D2 (k+200+(n - j))/\(0 < j->(s0+j) * 512<=D2.nl.length)/\j<=n/\m=n - j) n ?_ ?_
  ·
   refine Qi ?_;exact ⟨0,D1,rfl,hH,⟨hD1.ok.mono (by omega),hD1.g,hD1.cap,hD1.up⟩,by omega,by omega,rfl⟩
  clear hH hD1 D1 w3;rintro m e w3 ⟨j,D2,rfl,hH,hD2,hj0,hj,rfl⟩;refine Aj [0,8,20,21,165,166,167,177,178,179] fun K hK=>?_;apply hK;clear hK;(repeat refine Aw ?_);refine VD (fun h=>?_) (fun h=>?_)
  ·
   refine Ad ?_
   ((repeat refine Aw ?_);refine Aq ?_)
   refine Aj [0,8,20,21,22,165,166,167,177,178] fun K hK=>?_;apply hK;clear hK;have hV2:=M9 hD2.g hH;have cD:=Dy hV2 (i:=0) rfl;have cN:=B3 (hH.at 7 rfl) (k:=2) (v:=.int .i64 s0) rfl;(repeat refine Aw ?_);refine T6 [0,8,20,21,23,165,166,167,177,178] 20 (by kernel_rfl) (by kernel_rfl) (by kernel_rfl) rfl fun K hK=>?_;refine Qi ?_;refine ⟨_,g1 ▸ cD,⟨by omega,by simp⟩,_,cN,?_⟩;refine Qi ?_;refine ⟨Yr (by omega) (by omega),Yr (by omega) (by omega),Yr (by omega) (by omega),Yr (by omega) (by omega),⟨by omega,by omega,by omega⟩,?_⟩;obtain ⟨u,hu,hu5⟩:∃ u:Bs,u=List.take ((((j:Int)+1) * 512).toNat - ((j:Int) * 512).toNat) (List.drop ((j:Int) * 512).toNat s)/\u.length=512:=⟨_,rfl,by rw [Y4,Y3];omega⟩;rw [<- hu];have hok1:D2.ok ((k+200+(n - (j+1)))+1):=hD2.ok.mono (by omega);have hc3:=hD2.cap;refine Aa Ub ?_;refine Qi ?_;refine Ya (Zd hok1 _ (Yr (by omega) (by omega)) u hH) ?_;rintro v w4 ⟨e,D3,rfl,hD3,hH2,he1,he2⟩;have he:e=0:=he1 (by omega) (by omega) hu5;subst he;replace he2:=he2 rfl;clear hH hV2 cD cN hu he1;apply hK;clear hK;refine Aj [0,8,20,21,23,165,166,167,177,178,203] fun K hK=>?_;apply hK;clear hK;refine Ai rfl rfl (fun h=>by simp at h) (fun h=>Ad ?_);refine An ?_;refine Aj [0,8,20,21,165,166,167,177,178] fun K hK=>?_;(repeat refine Qo ?_);apply hK;clear hK;refine Ah ?_;refine Qi ?_;exact ⟨n - (j+1),by omega,j+1,D3,rfl,hH2,hD2.trans hD3,fun _=>by omega,by omega,rfl⟩
  obtain rfl:j=n:=by omega
  refine Ax rfl ?_;refine An ?_;refine Aj [0,8,165,166,167] fun K hK=>?_;(repeat refine Qo ?_);apply hK;clear hK;refine Ah ?_;refine Qi ?_;exact ⟨1 - (0+1),by omega,0+1,D2,rfl,hH,⟨hD2.ok.mono (by omega),hD2.g,hD2.cap,hD2.up⟩,fun _=>hj0 (by omega),by omega,rfl⟩
 obtain rfl:i=1:=by simp at h;omega
 replace hi1:=hi1 rfl;clear h;refine Ax rfl ?_;refine Aj [0,8,24] fun K hK=>?_;refine ⟨_,g1 ▸ Dy (M9 hD1.g hH) (i:=0) rfl,?_⟩;refine Qi ?_;refine Aa X2 ?_;refine Qi ?_;refine Ya (Ve (k:=k+100) (hD1.ok.mono (by omega)) hH) ?_;rintro v w4 ⟨rfl,D2,hD2,hnl,hH2⟩;clear hH;apply hK;clear hK;refine Aj [0,8,24,218] fun K hK=>?_;apply hK;clear hK;refine Ai rfl rfl (fun h=>by simp at h) (fun h=>Ad ?_);refine Aj [4] fun K hK=>?_;have hD3:V1.d.nx D2 (k+100):=hD1.trans hD2;have hV3:=M9 hD3.g hH2;have hV2:=k1.dev hD3 (by omega);have o2:=hV2.ok;rw [<- g1]
 refine Aa Ur ?_;refine Qi ?_;refine Ya (Qbg (k:=k) (o2.mono (by omega)) [Db x s0 n] (some ⟨gn,0,none⟩) cn (by simp) (fun y hy=>by
  rw [Yp] at hy;subst hy;exact Quf hpx (Yr (by omega) (by omega)) (Yr (by omega) (by omega)) hcx) (fun y hy=>by
  rw [Yp] at hy;subst hy;exact .inl rfl) (.tail _ (.head _)) hV3) ?_
 rintro v w5 ⟨e,V3,rfl,hV4,hc0,hgd,hH3⟩;apply hK;clear hK;refine Ae (Al rfl rfl ⟨e,V3,rfl,?_,hH3.sub ((List.Sublist.refl _).append ((List.Sublist.refl _).append (.cons _ (.cons _ (.refl _))))),PutR.one fun s2 n2 hP=>?_⟩)
 ·
  exact hV1.trans (hV2.trans hV4)
 obtain ⟨rfl,rfl⟩:=hpu s2 n2 hP;have hnx:=(s1 (by have:=hP.nx;simp;omega)).2
 have hG:=hgd ⟨⟨o2.g0,by have:=o2.g1;omega⟩,o2.x0,by simp,by show ((1:Nat):Int) < 20 - V1.next;have:=hP.nx;omega,fun y hy=>by
  rw [Yp] at hy;subst hy;exact ⟨hP.pc,.inl ⟨rfl,hP.ok⟩,hP.pl⟩⟩
 refine ⟨hG.1,(hc0 hG.1).1.trans (b1'.trans hb),?_,m1 ▸ (hc0 hG.1).2,?_⟩
 ·
  rw [hG.2]
  show V1.next+((1:Nat):Int)+1=_
  omega
 have h1:=hV4.up;have h2:D2.nl.length<=V3.d.nl.length:=h1;rw [hnl] at h2;omega
end
set_option maxHeartbeats 1000000
theorem bdX {KV:Value->Prop} (p c:Bs):Ca Yd 43 [(0,Ab p),(1,Ab c)] KV=KV (.agg (B4 (p,c)).toArray):=Cx (by kernel_rfl)
attribute [go_sem ↓] bdX bdM
section
variable {w0 w:World}{G:List Res}{V:Vt}{k:Nat}
theorem Pw {w':World}{R:List Res} (h:Heap w0 [] w (dL V.d++(vH V++G))) (hL:Heap w [] w' R):Heap w0 [] w' (dL V.d++(vH V++(R++G))):=X6 R (dL V.d++vH V) (h.call0 hL)
theorem I1 {r:Res} (h:Heap w0 [] w (dL V.d++(vH V++(r::G)))):Heap w0 [] w (dL V.d++(vH V++G)):=h.sub ((List.Sublist.refl _).append ((List.Sublist.refl _).append (.cons _ (.refl _))))
theorem R0 {r:Res} (h:Heap w0 [] w (r::(dL V.d++(vH V++G)))):Heap w0 [] w (dL V.d++(vH V++(r::G))):=X6 [r] (dL V.d++vH V) h
theorem Qel (hT:Tb w0) (hV:V.ok (k+5000)) (p c:Bs) (hp:p.length<=1000) (hH:Heap w0 [] w (dL V.d++(vH V++G))) :
  Does Yd 12 #[pV V.g,Ab p,Ab c] w fun v w'=>∃ (e:Int) (V':Vt),v=.int .i64 e/\V.nx V' k/\Heap w0 [] w' (dL V'.d++(vH V'++G))/\∀ s0 n,N9 V (p,c) s0 n->e=0/\V'.br=false/\V'.next=V.next+2/\L3 V.ml [Db (p,c) s0 n] V'.ml/\(s0+n) * 512<=V'.d.nl.length:=by
 refine En [pV V.g,Ab p,Ab c] 13 Tryz.func12 ?_;refine Aj [0,1,2] fun K hK=>?_;apply hK;clear hK;refine Aj [6] fun K hK=>?_;refine C2 hH 2 (B4 (p,c)) (xs:=[.tmp 10]) Yt Ti rfl rfl rfl (by omega) (by omega) ?_;refine Qi ?_;refine ⟨by simp [B4,Yh],by simp [B4,Yh],fun gl w2 hH2=>?_⟩;have hH3:Heap w0 [] w2 (dL V.d++(vH V++(Ih (some ⟨gl,0,none⟩) 1 [(p,c)]::G))):=R0 hH2
 refine Aa Tryz.call20 ?_;refine Qi ?_;refine Ya (Qk5 hT hV [(p,c)] (some ⟨gl,0,none⟩) 1 (by simp) (fun x hx=>by
  rw [Yp] at hx;subst hx;exact hp) (.head _) hH3) ?_
 rintro v w3 ⟨e,V',rfl,hn,hH4,hR⟩;apply hK;clear hK;exact Ae (Al rfl rfl ⟨e,V',rfl,hn,I1 hH4,fun s0 n hP=>hR.2 _ s0 n rfl hP⟩)
theorem Qk6 (hV:V.ok (k+60)) (p:Bs) (hp:p.length<=1000) (hH:Heap w0 [] w (dL V.d++(vH V++G))) :
  Does Yd 13 #[pV V.g,Ab p] w fun v w'=>∃ (e:Int) (V':Vt),v=.int .i64 e/\V.nx V' k/\Heap w0 [] w' (dL V'.d++(vH V'++G)) /\
   (V.br=false->If p=0->(∃ m∈V.ml,m.p=p)->V.next<=17->p.length<=400->e=0/\V'.br=false/\V'.next=V.next+2/\L3 V.ml [(2,⟨p,0,0,0,0⟩)] V'.ml):=by
 have hno:V.nx V k:=⟨hV.mono (by omega),rfl,rfl,rfl,Yx _⟩;refine En [pV V.g,Ab p] 32 Tryz.func13 ?_;refine Aj [0,1] fun K hK=>?_;apply hK;clear hK;refine Aj [0,1,6] fun K hK=>?_;refine Aa Tryz.call36 ?_;refine Qi ?_;refine Ya (Qfp hV p (by omega) hH) ?_;rintro v w2 ⟨hH2,hv⟩;clear hH;rcases hv with ⟨e,m0,he,rfl,hnm⟩ | ⟨j,m,hj,hmp,hb,rfl⟩
 ·
  skip
  refine Dg hH2 (Ar Kx) fun gm w3 hH3=>?_;refine Qi ?_;refine Ag ?_;refine Qi ?_;refine Ap hH3 0 (vs:=Ar m0) rfl rfl (by kernel_rfl) (by simp [Ar]) (Ic m0) fun w4 hH4=>?_;apply hK;clear hK;refine Aj [0,1,6,15] fun K hK=>?_;apply hK;clear hK;refine Ai rfl rfl (fun h=>?_) (fun h=>by simp only [decide_eq_false_iff_not] at h;exact absurd he h);refine Aj [4] fun K hK=>?_;apply hK;clear hK;exact Ae (Al rfl rfl ⟨e,V,rfl,hno,hH4.sub (.cons _ (.refl _)),fun h1 h2 h3=>absurd ⟨h1,h2,h3⟩ hnm⟩)
 skip
 refine Dg hH2 (Ar Kx) fun gm w3 hH3=>?_;refine Qi ?_;refine Ag ?_;refine Qi ?_;refine Ap hH3 0 (vs:=Ar m) rfl rfl (by kernel_rfl) (by simp [Ar]) (Ic m) fun w4 hH4=>?_;have hX:Heap w0 [] w4 (dL V.d++(vH V++G)):=hH4.sub (.cons _ (.refl _));clear hH2 hH3 hH4;apply hK;clear hK;refine Aj [0,1,6,15] fun K hK=>?_;apply hK;clear hK;refine Ai rfl rfl (fun h=>by simp at h) (fun h=>Ad ?_);clear h;refine Aj [0,1,7] fun K hK=>?_;refine Aa Uq ?_;refine Qi ?_;refine Ya (Qcn (k:=k+50) (hV.mono (by omega)) 2 (Yr (by omega) (by omega)) hX) ?_;rintro v w5 ⟨e,V1,rfl,hV1,m1,b1,s1,hY⟩;clear hX;apply hK;clear hK;refine Aj [0,1,7,22] fun K hK=>?_;apply hK;clear hK;refine Ai rfl rfl (fun h=>?_) (fun h=>Ad ?_)
 ·
  simp only [decide_eq_true_eq] at h;refine Aj [4] fun K hK=>?_;apply hK;clear hK;exact Ae (Al rfl rfl ⟨e,V1,rfl,hV1.mono (by omega),hY,fun _ _ _ h4 _=>absurd (s1 (by omega)).1 h⟩)
 replace h:e=0:=by simpa using h
 subst h;replace b1:=b1 rfl;have k1:=hV1.ok;refine Aj [4] fun K hK=>?_;refine C2 hY 6 (Ed (2,⟨p,0,0,0,0⟩)) (xs:=[.tmp 29]) Xi QF5 rfl rfl rfl (by omega) (by omega) ?_;refine Qi ?_;refine ⟨by simp [Ed,Ar,Yh],by simp [Ed,Ar,Yh],fun gl w6 hH2=>?_⟩;have hH3:Heap w0 [] w6 (dL V1.d++(vH V1++(Ft (some ⟨gl,0,none⟩) 1 [(2,⟨p,0,0,0,0⟩)]::G))):=R0 hH2;clear hY hH2;rw [<- hV1.g]
 have hgood:If p=0->p.length<=400->V.next<=17->Th V1.gen V1.next [(2,⟨p,0,0,0,0⟩)]:=fun h1 h2 h3=>⟨⟨k1.g0,by have:=k1.g1;omega⟩,k1.x0,by simp,by show ((1:Nat):Int) < 20 - V1.next;have:=(s1 (by omega)).2;omega,fun y hy=>by
  rw [Yp] at hy;subst hy;exact ⟨h1,.inr ⟨rfl,rfl⟩,h2⟩⟩
 refine Aa Ur ?_;refine Qi ?_;refine Ya (Qbg (k:=k) (k1.mono (by omega)) [(2,⟨p,0,0,0,0⟩)] (some ⟨gl,0,none⟩) 1 (by simp) (fun y hy=>by
  rw [Yp] at hy;subst hy;exact ⟨hp,Yr (by simp) (by simp),Yr (by simp) (by simp),Yr (by simp) (by simp),by simp⟩) (fun y hy=>by
  rw [Yp] at hy;subst hy;exact .inr rfl) (.head _) hH3) ?_
 rintro v w7 ⟨e,V3,rfl,hV4,hc0,hgd,hH4⟩;apply hK;clear hK;refine Ae (Al rfl rfl ⟨e,V3,rfl,hV1.trans hV4,I1 hH4,fun h1 h2 h3 h4 h5=>?_⟩);have hG:=hgd (hgood h2 h5 h4);refine ⟨hG.1,(hc0 hG.1).1.trans (b1.trans hb),?_,m1 ▸ (hc0 hG.1).2⟩;rw [hG.2]
 show V1.next+((1:Nat):Int)+1=_
 have:=(s1 (by omega)).2;omega
def EndV (l:List Ex) (n:Int):Prop:=May 4096 l/\n=P9 l∨¬ May 4096 l/\n=30
theorem EndV.one {l:List Ex}{n m:Int} (h:EndV l n) (h2:EndV l m):n=m:=by
 rcases h with ⟨h,rfl⟩ | ⟨h,rfl⟩ <;> rcases h2 with ⟨g,rfl⟩ | ⟨g,rfl⟩ <;> first | rfl | exact absurd g h | exact absurd h g
theorem EndV.range {l:List Ex}{n:Int} (h:EndV l n):30<=n/\n<=4096:=by
 rcases h with ⟨h,rfl⟩ | ⟨h,rfl⟩
 ·
  exact Qt2 fun x hx=>(h.1 x hx).2.2
 omega
theorem EndV.ex (l:List Ex):∃ n,EndV l n:=(Classical.em (May 4096 l)).elim (fun h=>⟨_,.inl ⟨h,rfl⟩⟩) fun h=>⟨_,.inr ⟨h,rfl⟩⟩
structure Vt.tr (V V':Vt) (k:Nat):Prop where
 ok:V'.ok k
 g:V'.g=V.g
 dg:V'.d.g=V.d.g
 cap:V'.d.cap=V.d.cap
 ml:V'.ml=V.ml
theorem Qs5 (hV:V.ok (k+10)) (hH:Heap w0 [] w (dL V.d++(vH V++G))):Does Yd 26 #[pV V.g] w fun v w' =>
  ∃ (e:Int) (V':Vt) (n:Int),v=.int .i64 e/\V.tr V' k/\Heap w0 [] w' (dL V'.d++(vH V'++G))/\EndV (V.ml.map A9) n/\(e=0 ↔ V.br=false)/\(e=0->V'.br=false/\((V'.d.nl.length / 512:Nat):Int)<=n/\(((V.d.nl.length / 512:Nat):Int)<=n->V'=V)/\(n<=((V.d.nl.length / 512:Nat):Int)->((V'.d.nl.length / 512:Nat):Int)=n)):=by
 have hno:V.tr V k:=⟨hV.mono (by omega),rfl,rfl,rfl,rfl⟩;refine En [pV V.g] 48 Tryz.func26 ?_;refine Aj [0] fun K hK=>?_;apply hK;clear hK;refine Aj [0,3] fun K hK=>?_;refine Aa Up ?_;refine Qi ?_;refine Ya (Qbf hV hH) ?_;rintro v w3 ⟨rfl,rfl⟩;apply hK;clear hK;refine Aj [0,3,9] fun K hK=>?_;apply hK;clear hK;by_cases hb:V.br=true
 ·
  rw [if_pos hb];refine Ai rfl rfl (fun h=>?_) (fun h=>by simp at h);refine Aj [2] fun K hK=>?_;apply hK;clear hK;obtain ⟨n,hn⟩:=EndV.ex (V.ml.map A9);exact Ae (Al rfl rfl ⟨190,V,n,rfl,hno,hH,hn,by simp [hb],fun h=>by omega⟩)
 replace hb:V.br=false:=by simpa using hb
 rw [if_neg (by simp [hb])];refine Ai rfl rfl (fun h=>by simp at h) (fun h=>Ad ?_);clear h;have hl:=hV.l;refine Aj [0,4] fun K hK=>?_;refine Aa Ud ?_;refine Qi ?_;refine Ya (W7 hV hH) ?_;rintro v w2 ⟨ax,cx,rfl,hA⟩
 refine Aa Tryz.call58 ?_;refine Qi ?_;refine Ya (Qzp (V.ml.map A9) ax cx w2 (As (hA.at 0 rfl)) (by simp;omega) (fun y hy=>by
  obtain ⟨m,hm,rfl⟩:=Xt.1 hy;exact ⟨(M4 hV m hm).s,(M4 hV m hm).n⟩)) ?_
 rintro v w4 ⟨hA2,n,rfl,hn⟩;have hn:EndV (V.ml.map A9) n:=hn;obtain ⟨r1,r2⟩:=hn.range;have hX:Heap w0 [] w4 (dL V.d++(vH V++G)):=((hH.call0 hA).call0 hA2).sub (Yf _ _);clear hH hA hA2;apply hK;clear hK;have n1:=hV.d.n1;refine Aj [0,4,23] fun K hK=>?_;refine ⟨_,Dy hX (i:=0) rfl,?_⟩;refine Aa Xq ?_;refine Qi ?_;refine Ya (Qz hV.d hX) ?_;rintro v w2 ⟨rfl,rfl⟩;refine Qi ?_;apply hK;clear hK;refine VD (fun h=>?_) (fun h=>Ad ?_)
 ·
  refine Aj [2] fun K hK=>?_;apply hK;clear hK;exact Ae (Al rfl rfl ⟨0,V,n,rfl,hno,hX,hn,by simp [hb],fun _=>⟨hb,h,fun _=>rfl,fun h2=>by omega⟩⟩)
 refine Aj [0,5] fun K hK=>?_;refine ⟨_,Dy hX (i:=0) rfl,?_⟩;refine Aa Tryz.call59 ?_;refine Qi ?_;refine Ya (Qxe (k:=k+5) (hV.d.mono (by omega)) n (Yr (by omega) (by omega)) hX) ?_;rintro v w3 ⟨e,D1,rfl,⟨o1,g1,c1⟩,hH2,q1,q2⟩;obtain rfl:e=0:=q2 (by omega) (by omega);replace q1:=q1 rfl;clear hX q2;apply hK;clear hK;refine Aj [0,5,32] fun K hK=>?_;apply hK;clear hK;refine Ai rfl rfl (fun h=>by simp at h) (fun h=>Ad ?_);(repeat refine Aw ?_);refine Qw [2] [(0,0),(1,0),(2,0),(3,0),(4,0),(5,0),(6,0),(7,2),(8,2),(9,2),(10,0)] (by kernel_rfl) (by kernel_rfl) (by kernel_rfl) (by simp only [A6,List.map_cons,List.map_nil,beq_self_eq_true,Nat.reduceBEq,List.filterMap_cons,List.filterMap_nil,List.getElem?_cons_succ,List.getElem?_cons_zero,Option.map_some];rfl) fun K hK=>?_;refine Qi ?_;refine ⟨_,Dy (M9 g1 hH2) (i:=0) rfl,?_⟩;refine Qi ?_;refine Aa X2 ?_;refine Qi ?_;refine Ya (Ve (k:=k+1) (o1.mono (by omega)) hH2) ?_;rintro v w5 ⟨rfl,D2,hD2,hnl,hH3⟩;refine Aa Uc ?_;refine Qi ?_;refine Ya (Ze (V:={ V with d:=D2 }) 0 (M9 (hD2.g.trans g1) hH3)) ?_;rintro v w6 ⟨rfl,hH4⟩;apply hK;clear hK;refine Ae (Al rfl rfl ⟨0,{ V with d:=D2,br:=V.br || decide ((0:Int)≠0) },n,rfl,⟨?_,rfl,hD2.g.trans g1,hD2.cap.trans c1,rfl⟩,hH4,hn,by simp [hb],fun _=>⟨by simp [hb],by rw [<- hnl] at q1;exact Int.le_of_eq q1,fun h2=>by omega,fun _=>by rw [<- hnl] at q1;exact q1⟩⟩);obtain ⟨d,g0,g1,x0,x1,hm2,n,l⟩:=hV;exact ⟨hD2.ok.mono (by omega),g0,by show V.gen+_<=_;omega,x0,x1,hm2,n,by show V.ml.length+_<=_;omega⟩
end
section
variable {w0 w:World}{G:List Res}{V:Vt}{k:Nat}
theorem Qco (hV:V.ok (k+9000)) (p:Bs) (tz:Int) (hp:p.length<=1000) (hto:I64 tz) (hH:Heap w0 [] w (dL V.d++(vH V++G))) :
  Does Yd 18 #[pV V.g,Ab p,.int .i64 tz] w fun v w'=>∃ (e:Int) (V':Vt),v=.int .i64 e/\V.nx V' k/\Heap w0 [] w' (dL V'.d++(vH V'++G))/\(e=0->V'.br=false/\QA6 V.ml p tz V'.ml) /\
   ∀ m,m∈V.ml->m.p=p->V.br=false->If p=0->p.length<=400->V.next<=17->May V.d.cap (V.ml.map A9++[(tz,m.n)])->Mb.ok { m with s:=tz }->(m.s+m.n) * 512<=V.d.nl.length->e=0/\V'.next=V.next+2:=by
 have hno:V.nx V k:=⟨hV.mono (by omega),rfl,rfl,rfl,Yx _⟩;have hl:=hV.l;have hc1:=hV.d.c1;have hc2:=hV.d.c2;refine En [pV V.g,Ab p,.int .i64 tz] 114 Tryz.func18 ?_;refine Aj [0,1,2] fun K hK=>?_;apply hK;clear hK;refine Aj [0,2,7,8] fun K hK=>?_;refine Aa Tryz.call36 ?_;refine Qi ?_;refine Ya (Qfp hV p (by omega) hH) ?_;rintro v w2 ⟨hH2,hv⟩;clear hH;rcases hv with ⟨e,m0,he,rfl,hnm⟩ | ⟨j,m,hj,hmp,hb,rfl⟩
 ·
  skip
  refine Dg hH2 (Ar Kx) fun gm w3 hH3=>?_;refine Qi ?_;refine Ag ?_;refine Qi ?_;refine Ap hH3 0 (vs:=Ar m0) rfl rfl (by kernel_rfl) (by simp [Ar]) (Ic m0) fun w4 hH4=>?_;apply hK;clear hK;refine Aj [0,2,7,8,22] fun K hK=>?_;apply hK;clear hK;refine Ai rfl rfl (fun h=>?_) (fun h=>by simp only [decide_eq_false_iff_not] at h;exact absurd he h);refine Aj [6] fun K hK=>?_;apply hK;clear hK;exact Ae (Al rfl rfl ⟨e,V,rfl,hno,hH4.sub (.cons _ (.refl _)),fun h=>absurd h he,fun m h1 h2 h3 h4=>absurd ⟨h3,h4,m,h1,h2⟩ hnm⟩)
 have hmm:=Yn hj;have hmo:=hV.m m hmm;obtain ⟨n,hn⟩:∃ n:Nat,m.n=n:=⟨m.n.toNat,by have:=hmo.n;omega⟩;have hn1:=hmo.n;have hn2:=hmo.n2;have hs1:=hmo.s;have hs2:=hmo.s2;refine Dg hH2 (Ar Kx) fun gm w3 hH3=>?_;refine Qi ?_;refine Ag ?_;refine Qi ?_;refine Ap hH3 0 (vs:=Ar m) rfl rfl (by kernel_rfl) (by simp [Ar]) (Ic m) fun w4 hH4=>?_;have hX:Heap w0 [] w4 (dL V.d++(vH V++(Ye gm 54 (Ar m)::G))):=R0 hH4;clear hH2 hH3 hH4;apply hK;clear hK;refine Aj [0,2,7,8,22] fun K hK=>?_;apply hK;clear hK;refine Ai rfl rfl (fun h=>by simp at h) (fun h=>Ad ?_);clear h;have cD:=Dy hX (i:=0) rfl;have cN:=Af (hX.at 6 rfl) (k:=2) rfl
 have hxo:∀ y∈V.ml.map A9++[(tz,m.n)],Kg y:=fun y hy=>by
  rcases Yu.1 hy with hy | hy
  ·
   obtain ⟨m,hm,rfl⟩:=Xt.1 hy;exact ⟨(M4 hV m hm).s,(M4 hV m hm).n⟩
  rw [Yp] at hy;subst hy;exact ⟨hto,hmo.fit.n⟩
 refine V3 w4 (Ext.refl _) [0,2,7,41] (.two [(0,true),(1,true),(2,true),(4,true),(5,true),(6,true),(7,true),(10,true),(11,true),(12,true),(13,true),(14,true)] 3 8 (.seq [(8,false),(9,false),(15,false),(16,false),(17,true)]) (.seq [(3,false),(9,false),(15,false),(16,false),(17,true)])) fun K hK=>?_
 suffices out:∀ (w9:World) (b:Bool),Heap w4 [] w9 []->(b=false->May V.d.cap (V.ml.map A9++[(tz,m.n)]))->(b=true->¬ May V.d.cap (V.ml.map A9++[(tz,m.n)]))->K [(0,pV V.g),(2,.int .i64 tz),(7,pV gm),(41,.bool b)] w9 by
  simp only [Lm,A6,List.filterMap_cons,List.filterMap_nil,List.getElem?_cons_succ,List.getElem?_cons_zero,Option.map_some];refine Qi ?_;refine ⟨_,cN,_,cD,?_⟩;refine Qi ?_;refine And.intro ?_ ?_
  ·
   refine Aa Ud ?_;refine Qi ?_;refine Ya (W7 hV hX) ?_;rintro v w5 ⟨ax,cx,rfl,hA⟩;refine ⟨hA.ext,?_⟩;(try simp only [Bi]);refine C2 hA 2 (Bx (tz,m.n)) (xs:=[.tmp 31]) Yw N6 rfl rfl rfl (by omega) (by omega) ?_;refine Qi ?_;refine ⟨by simp [Bx,Yh],by simp [Bx,Yh],fun gl w6 hL=>?_⟩;refine ⟨hL.ext,?_⟩;(try simp only [Bi]);refine Ce ?_;refine Qi ?_;refine C3 (zs:=#[.int .i64 0,.int .i64 0]) (bytes:=16) hL 1 rfl Yw (by kernel_rfl) rfl (m:=1) ⟨rfl,As (hL.at 0 rfl),64,Yw⟩ (La _) (fun h=>by simp;omega) fun a' cap' w7 hc' hL2=>?_;refine ⟨hL2.ext,?_⟩;(try simp only [Bi]);have hL3:=hL2.sub (Yf _ _);rw [<- Sh,<- Sa] at hL3;rw [show (V.ml.map A9).length+1=(V.ml.map A9++[(tz,m.n)]).length by simp] at hL3 ⊢;clear hL2 hL hc';generalize hU:V.ml.map A9++[(tz,m.n)]=U at *;refine Aa Xd ?_;refine Qi ?_;refine Ya (Nk hV.d (Pw hX hL3)) ?_;rintro v w8 ⟨rfl,rfl⟩;refine ⟨hL3.ext,?_⟩;(try simp only [Bi]);refine Aa Tryz.call43 ?_;refine Qi ?_;refine Ya (Vd U a' cap' V.d.cap _ (As (hL3.at 0 rfl)) (by rw [<- hU];simp;omega) hxo (Yr (by omega) (by omega))) ?_;rintro v w9 ⟨hA3,q,rfl,hq⟩;refine Qi ?_;refine ⟨(hL3.call0 hA3).ext,?_⟩;(try simp only [Bi]);refine out w9 _ ((hL3.call0 hA3).sub (Yi _)) (fun h2=>?_) (fun h2=>?_)
   ·
    rcases hq with ⟨h3,h4⟩ | ⟨h3,h4⟩
    ·
     exact h3.2.2
    simp [h4] at h2
   rcases hq with ⟨h3,h4⟩ | ⟨h3,h4⟩
   ·
    simp [h4] at h2
   exact fun h5=>h3 ⟨by omega,by omega,h5⟩
  refine C2 (Yz w4) 2 (Bx (tz,m.n)) (xs:=[.tmp 31]) Yw N6 rfl rfl rfl (by omega) (by omega) ?_;refine Qi ?_;refine ⟨by simp [Bx,Yh],by simp [Bx,Yh],fun gl w5 hL0=>?_⟩;refine ⟨hL0.ext,?_⟩;(try simp only [Bi]);refine Aa Ud ?_;refine Qi ?_;refine Ya (W7 hV (Pw hX hL0)) ?_;rintro v w6 ⟨ax,cx,rfl,hA⟩;have hL:=hL0.call0 hA;refine ⟨hL.ext,?_⟩;(try simp only [Bi]);refine Ce ?_;refine Qi ?_;refine C3 (zs:=#[.int .i64 0,.int .i64 0]) (bytes:=16) hL 0 rfl Yw (by kernel_rfl) rfl (m:=1) ⟨rfl,As (hL.at 1 rfl),64,Yw⟩ (La _) (fun h=>by simp;omega) fun a' cap' w7 hc' hL2=>?_;refine ⟨hL2.ext,?_⟩;(try simp only [Bi]);have hL3:=hL2.sub (.cons_cons _ (.cons _ (.refl _)));rw [<- Sh,<- Sa] at hL3;rw [show (V.ml.map A9).length+1=(V.ml.map A9++[(tz,m.n)]).length by simp] at hL3 ⊢;clear hL2 hL hc';generalize hU:V.ml.map A9++[(tz,m.n)]=U at *;refine Aa Xd ?_;refine Qi ?_;refine Ya (Nk hV.d (Pw hX hL3)) ?_;rintro v w8 ⟨rfl,rfl⟩;refine ⟨hL3.ext,?_⟩;(try simp only [Bi]);refine Aa Tryz.call43 ?_;refine Qi ?_;refine Ya (Vd U a' cap' V.d.cap _ (As (hL3.at 0 rfl)) (by rw [<- hU];simp;omega) hxo (Yr (by omega) (by omega))) ?_;rintro v w9 ⟨hA3,q,rfl,hq⟩;refine Qi ?_;refine ⟨(hL3.call0 hA3).ext,?_⟩;(try simp only [Bi]);refine out w9 _ ((hL3.call0 hA3).sub (Yi _)) (fun h2=>?_) (fun h2=>?_)
  ·
   rcases hq with ⟨h3,h4⟩ | ⟨h3,h4⟩
   ·
    exact h3.2.2
   simp [h4] at h2
  rcases hq with ⟨h3,h4⟩ | ⟨h3,h4⟩
  ·
   simp [h4] at h2
  exact fun h5=>h3 ⟨by omega,by omega,h5⟩
 clear cD cN;intro w5 b hA hb0 hb1;have hX2:Heap w0 [] w5 (dL V.d++(vH V++(Ye gm 54 (Ar m)::G))):=hX.call0 hA;clear hX hA w4;apply hK;clear hK;have huniq:∀ m',m'∈V.ml->m'.p=p->m'=m:=fun m' h1 h2=>Qir hV.n h1 hmm (h2.trans hmp.symm);refine Ai rfl rfl (fun h=>?_) (fun h=>Ad ?_)
 ·
  refine Aj [6] fun K hK=>?_;apply hK;clear hK
  exact Ae (Al rfl rfl ⟨2,V,rfl,hno,I1 hX2,fun h2=>by omega,fun m' h1 h2 _ _ _ _ h3=>by
   rw [huniq m' h1 h2] at h3;exact absurd h3 (hb1 h)⟩)
 have hmay:=hb0 h;clear hb0 hb1 h;obtain ⟨t1,t2,t3⟩:=hmay.1 (tz,m.n) (Yo _ (.head _));replace t1:30<=tz:=t1;replace t3:tz+m.n<=V.d.cap:=t3;refine Aj [0,2,7,9] fun K hK=>?_;refine Aa Uq ?_;refine Qi ?_;refine Ya (Qcn (k:=k+8900) (hV.mono (by omega)) 2 (Yr (by omega) (by omega)) hX2) ?_;rintro v w4 ⟨e,V1,rfl,hV1,m1,b1,s1,hY⟩;clear hX2 w5;apply hK;clear hK;refine Aj [0,2,7,9,47] fun K hK=>?_;apply hK;clear hK;refine Ai rfl rfl (fun h=>?_) (fun h=>Ad ?_)
 ·
  simp only [decide_eq_true_eq] at h;refine Aj [6] fun K hK=>?_;apply hK;clear hK;exact Ae (Al rfl rfl ⟨e,V1,rfl,hV1.mono (by omega),I1 hY,fun h2=>absurd h2 h,fun m' _ _ _ _ _ h4 _ _ _=>absurd (s1 (by omega)).1 h⟩)
 replace h:e=0:=by simpa using h
 subst h;replace b1:=b1 rfl;have k1:=hV1.ok;have g1:=hV1.g;have hcap:=hV1.cap;have hup:=hV1.up;refine Aj [0,2,7,50,51] fun K hK=>?_;refine ⟨_,Af (hY.at 6 rfl) (k:=2) rfl,?_⟩;apply hK;clear hK;rw [hn];refine Aq ?_;refine Ay [0,2,7,50,51] (fun q e w'=>∃ (j:Nat) (D2:Dk),Is e [(0,pV V.g),(2,.int .i64 tz),(7,pV gm),(50,.int .i64 n),(51,.int .i64 j)]/\Heap w0 [] w' (dL D2++(vH V1++(Ye gm 54 (Ar m)::G)))/\V1.d.nx D2 (k+200+2 * (n - j))/\j<=n/\q=n - j) n ?_ ?_
 ·
  refine Qi ?_;exact ⟨0,V1.d,rfl,hY,⟨k1.d.mono (by omega),rfl,rfl,Yx _⟩,by omega,rfl⟩
 clear hY w4;rintro q e w4 ⟨j,D2,rfl,hH,hD2,hj,rfl⟩;refine Aj [0,2,7,50,51,52] fun K hK=>?_;apply hK;clear hK;(repeat refine Aw ?_);refine VD (fun h=>?_) (fun h=>?_)
 ·
  refine Ad ?_
  ((repeat refine Aw ?_);refine Aq ?_)
  refine Aj [0,2,7,10,50,51] fun K hK=>?_;apply hK;clear hK;have hV2:=M9 hD2.g hH;have hc3:=hD2.cap;have hu3:=hD2.up;(repeat refine Aw ?_);refine Qw [0,2,7,10,11,12,50,51] [(0,0),(1,0),(2,0),(3,0),(5,0),(7,0),(6,1),(8,0),(4,2),(9,2),(10,0),(11,0),(12,0),(13,0),(14,0)] (by kernel_rfl) (by kernel_rfl) (by kernel_rfl) (by simp only [A6,List.map_cons,List.map_nil,beq_self_eq_true,Nat.reduceBEq,List.filterMap_cons,List.filterMap_nil,List.getElem?_cons_succ,List.getElem?_cons_zero,Option.map_some];rfl) fun K hK=>?_;refine Qi ?_;refine ⟨_,Af (hH.at 6 rfl) (k:=1) rfl,?_⟩;refine Qi ?_;refine And.intro (Yr (by omega) (by omega)) ⟨_,g1 ▸ Dy hV2 (i:=0) rfl,?_⟩;refine Qi ?_;have hok1:D2.ok ((k+200+2 * (n - (j+1))+1)+1):=hD2.ok.mono (by omega);refine Aa Tryz.call45 ?_;refine Qi ?_;refine Ya (Qs1 hok1 (m.s+j) (Yr (by omega) (by omega)) hH) ?_;rintro v w5 (⟨rfl,⟨e,he,rfl⟩,hbad⟩ | ⟨hH2,u,hu,rfl⟩)
  ·
   skip
   apply hK;clear hK;refine Aj [0,2,7,10,11,12,50,51,68] fun K hK=>?_;apply hK;clear hK;refine Ai rfl rfl (fun h2=>?_) (fun h2=>by simp only [decide_eq_false_iff_not] at h2;exact absurd he h2);refine Aj [6] fun K hK=>?_;rw [<- g1];refine Aa Uc ?_;refine Qi ?_;refine Ya (Ze (V:={ V1 with d:=D2 }) e hV2) ?_;rintro v w6 ⟨rfl,hH4⟩;apply hK;clear hK
   exact Ae (Al rfl rfl ⟨e,{ V1 with d:=D2,br:=V1.br || decide (e≠0) },rfl,hV1.trans ((k1.dev hD2 (by omega)).mono (by omega) |>.fail _),I1 hH4,fun h3=>absurd h3 he,fun m' h1 h2 _ _ _ _ _ _ h3=>by
    rw [huniq m' h1 h2] at h3;exact absurd ⟨by omega,by omega⟩ hbad⟩)
  have hD3:V1.d.nx { D2 with ca:=D2.ca+1 } (k+200+2 * (n - (j+1))+1):=by
   obtain ⟨a1,a2,a3,a4,a5,a6,a7,a8⟩:=hok1;exact ⟨⟨a1,a2,a3,a4,by show D2.pl.length+_<=_;omega,a6,by show 0<=D2.ca+1;omega,by show D2.ca+1+_<=_;omega⟩,hD2.g,hD2.cap,hD2.up⟩
  have hV3:=M9 hD3.g hH2;generalize hD3e:{ D2 with ca:=D2.ca+1 }=D3 at *;clear hH hV2 hok1 hD2 hu3 hD3e;apply hK;clear hK;refine Aj [0,2,7,10,11,12,50,51,68] fun K hK=>?_;apply hK;clear hK;refine Ai rfl rfl (fun h=>by simp at h) (fun h=>Ad ?_);refine Aj [0,2,7,13,50,51] fun K hK=>?_;refine ⟨_,g1 ▸ Dy hV3 (i:=0) rfl,Yr (by omega) (by omega),?_⟩;refine Qi ?_;have hc4:=hD3.cap;refine Aa Ub ?_;refine Qi ?_;refine Ya (Zd hD3.ok (tz+j) (Yr (by omega) (by omega)) u hH2) ?_;rintro v w6 ⟨e,D4,rfl,hD4,hH3,he1,_⟩;obtain rfl:e=0:=he1 (by omega) (by omega) hu;clear hH2 hV3 he1;apply hK;clear hK;refine Aj [0,2,7,13,50,51,85] fun K hK=>?_;apply hK;clear hK;refine Ai rfl rfl (fun h=>by simp at h) (fun h=>Ad ?_);refine An ?_;refine Aj [0,2,7,50,51] fun K hK=>?_;(repeat refine Qo ?_);apply hK;clear hK;refine Ah ?_;refine Qi ?_;exact ⟨n - (j+1),by omega,j+1,D4,rfl,hH3,hD3.trans hD4,by omega,rfl⟩
 clear h;refine Ax rfl ?_;refine Aj [0,2,7,14] fun K hK=>?_;refine ⟨_,g1 ▸ Dy (M9 hD2.g hH) (i:=0) rfl,?_⟩;refine Qi ?_;refine Aa X2 ?_;refine Qi ?_;refine Ya (Ve (k:=k+100) (hD2.ok.mono (by omega)) hH) ?_;rintro v w5 ⟨rfl,D3,hD3,hnl,hH2⟩;clear hH;apply hK;clear hK;refine Aj [0,2,7,14,99] fun K hK=>?_;apply hK;clear hK;refine Ai rfl rfl (fun h=>by simp at h) (fun h=>Ad ?_);have hD4:V1.d.nx D3 (k+100):=hD2.trans hD3;have hV3:=M9 hD4.g hH2;have hV2:=k1.dev hD4 (by omega);have o2:=hV2.ok;clear hH2;obtain ⟨V2,hV2e⟩:∃ V2,V2={ V1 with d:=D3 }:=⟨_,rfl⟩;have m2:V2.ml=V.ml:=by rw [hV2e];exact m1
 have x2:V2.next=V1.next:=by rw [hV2e]
 have b2:V2.br=V1.br:=by rw [hV2e]
 rw [<- hV2e] at hV3 hV2 o2;clear hV2e;refine Aj [0,7] fun K hK=>?_;refine Ag ?_;refine Qi ?_;refine Ap hV3 6 (vs:=[.int .i64 tz]) rfl rfl (by kernel_rfl) (by simp [Ar]) (by simp [Yc]) fun w6 hH3=>?_;have hH4:Heap w0 [] w6 (dL V2.d++(vH V2++(Ye gm 54 (Ar { m with s:=tz })::G))):=hH3;clear hV3 hH3;apply hK;clear hK;(repeat refine Aw ?_);refine Qw [6] [(0,0),(1,0),(2,0),(3,2),(4,0),(5,2),(6,2),(7,0)] (by kernel_rfl) (by kernel_rfl) (by kernel_rfl) (by simp only [A6,List.map_cons,List.map_nil,beq_self_eq_true,Nat.reduceBEq,List.filterMap_cons,List.filterMap_nil,List.getElem?_cons_succ,List.getElem?_cons_zero,Option.map_some];rfl) fun K hK=>?_;refine Qi ?_;refine ⟨Ar { m with s:=tz },⟨rfl,Bu (hH4.at 6 rfl)⟩,?_⟩;refine Qi ?_;refine C2 hH4 6 (Ed (1,{ m with s:=tz })) (xs:=[.tmp 111]) Xi QF5 rfl rfl rfl (by omega) (by omega) ?_;refine Qi ?_;refine ⟨by simp [Ed,Ar,Yh],by simp [Ed,Ar,Yh],fun gl w7 hH5=>?_⟩;have hH6:Heap w0 [] w7 (dL V2.d++(vH V2++(Ft (some ⟨gl,0,none⟩) 1 [(1,{ m with s:=tz })]::Ye gm 54 (Ar { m with s:=tz })::G))):=R0 hH5;clear hH4 hH5;rw [<- g1,<- hV2.g]
 have hfit:∀ y∈[((1:Int),{ m with s:=tz })],y.2.fit:=fun y hy=>by
  rw [Yp] at hy;subst hy;exact ⟨hmo.fit.p,hto,hmo.fit.n,hmo.fit.z,hmo.fit.c⟩
 refine Aa Ur ?_;refine Qi ?_;refine Ya (Qbg (k:=k) (o2.mono (by omega)) [(1,{ m with s:=tz })] (some ⟨gl,0,none⟩) 1 (by simp) hfit (fun y hy=>by
  rw [Yp] at hy;subst hy;exact .inl rfl) (.head _) hH6) ?_
 rintro v w8 ⟨e,V3,rfl,hV4,hc0,hgd,hH7⟩;apply hK;clear hK;refine Ae (Al rfl rfl ⟨e,V3,rfl,hV1.trans (hV2.trans hV4),I1 (I1 hH7),fun h0=>⟨(hc0 h0).1.trans (b2.trans (b1.trans hb)),?_⟩,fun m' q1 q2 _ q4 q5 q6 _ q7 _=>?_⟩)
 ·
  have:=Qr2 hV.n hmm (m2 ▸ (hc0 h0).2)
  rwa [hmp] at this
 rw [huniq m' q1 q2] at q7;have hnx:=(s1 (by omega)).2
 have hG:=hgd ⟨⟨o2.g0,by have:=o2.g1;omega⟩,o2.x0,by simp,by show ((1:Nat):Int) < 20 - V2.next;omega,fun y hy=>by
  rw [Yp] at hy;subst hy;exact ⟨by show If m.p=0;rw [hmp];exact q4,.inl ⟨rfl,q7⟩,by show m.p.length<=400;rw [hmp];exact q5⟩⟩
 refine ⟨hG.1,?_⟩;rw [hG.2]
 show V2.next+((1:Nat):Int)+1=_
 omega
end
section
variable {w0 w:World}{G:List Res}{D:Dk}{k:Nat}
theorem Qh7 (hD:D.ok (k+10)) (hn:D.nl=[]) (hk:k<=100000000) (hH:Heap w0 [] w (dL D++G)):Does Yd 11 #[pV D.g] w fun v w' =>
  ∃ V:Vt,v=.tuple #[pV V.g,.int .i64 0]/\V.ok k/\V.d.cap=D.cap/\V.d.g=D.g/\V.ml=[]/\V.gen=0/\V.next=0/\V.br=false/\Heap w0 [] w' (dL V.d++(vH V++G)):=by
 have hc1:=hD.c1;refine En [pV D.g] 87 Tryz.func11 ?_;refine Aj [0] fun K hK=>?_;apply hK;clear hK
 ((repeat refine Aw ?_);refine Aq ?_)
 refine Aj [0,13] fun K hK=>?_;refine Aa Xd ?_;refine Qi ?_;refine Ya (Nk hD hH) ?_;rintro v w2 ⟨rfl,rfl⟩;refine Qi ?_;apply hK;clear hK;refine Ai rfl rfl (fun h=>by simp only [decide_eq_true_eq] at h;omega) (fun h=>?_);refine Aj [0,17] fun K hK=>?_;refine Aa Xd ?_;refine Qi ?_;refine Ya (Nk hD hH) ?_;rintro v w2 ⟨rfl,rfl⟩;refine Qi ?_;apply hK;clear hK;refine Ai rfl rfl (fun h=>by simp only [decide_eq_true_eq] at h;omega) (fun h=>?_);refine Aj [0,21] fun K hK=>?_;refine Aa Uo ?_;refine Qi ?_;refine Ya (Qcm hD hH) ?_;rintro v w2 ⟨rfl,rfl⟩;apply hK;clear hK;refine Ai rfl rfl (fun h=>by simp at h) (fun h=>Ad ?_);refine An ?_;clear h;refine Aj [0,4,5,6] fun K hK=>?_;refine Aa Tryz.call31 ?_;refine Qi ?_;refine Ya (Qs3 hD hn hH) ?_;rintro v w3 ⟨rfl,hH2⟩;clear hH;apply hK;clear hK
 ((repeat refine Aw ?_);refine Aq ?_)
 refine Aj [0,4,5,6,57] fun K hK=>?_;refine ⟨fun _=>?_,fun h=>absurd trivial h⟩;refine Aa Xq ?_;refine Qi ?_;refine Ya (Qz hD hH2) ?_;rintro v w4 ⟨rfl,rfl⟩;rw [hn];refine Qi ?_;apply hK;clear hK;refine Ai rfl rfl (fun h=>by simp at h) (fun h=>?_);clear h;refine Aj [0,4,5,6,65] fun K hK=>?_;apply hK;clear hK;refine Do [0,4,5] (fun e w'=>Is e [(0,pV D.g),(4,.int .i64 (-1)),(5,.slice none 0 0)]/\Is w' w4) ?_ ?_
 ·
  refine Ai rfl rfl (fun h=>?_) (fun h=>by simp at h);refine Aj [0,4,5] fun K hK=>?_;apply hK;clear hK;refine Ah ?_;refine Qi ?_;exact ⟨rfl,rfl⟩
 rintro e w' ⟨rfl,rfl⟩;refine An ?_;refine Aj [0,4,5,12] fun K hK=>?_;refine ⟨Yr (by omega) (by omega),?_⟩;have hH3:Heap w0 [] w' (dL D++(Dw none 0 []::G)):=Re (hH2.nilRow 54 5);refine Aa Tryz.call35 ?_;refine Qi ?_;refine Ya (Qh6 (k:=k+4) hD 0 (Yr (by omega) (by omega)) [] none 0 (by simp) (by simp) (.head _) hH3) ?_;rintro v w5 ⟨e,D',rfl,hD',hH4,he⟩;obtain rfl:e=0:=he rfl (by omega) (by omega);clear hH2 hH3 he;apply hK;clear hK;refine Aj [0,4,5,12,78] fun K hK=>?_;apply hK;clear hK;refine Ai rfl rfl (fun h=>by simp at h) (fun h=>Ad ?_);refine Aj [2,3] fun K hK=>?_;refine ⟨Yr (by omega) (by omega),?_⟩;refine Iq hH4 (vC ⟨0,D',0,0,none,[],0,false⟩) ?_;refine Qi ?_;refine ⟨by simp [vC,hD'.g],fun g w6 hH5=>?_⟩;apply hK;clear hK;have hH6:Heap w0 [] w6 (dL D'++(Ye g 86 (vC ⟨0,D',0,0,none,[],0,false⟩)::Dw none 0 []::G)):=Re hH5;exact Ae (Bp rfl rfl rfl ⟨⟨g,D',0,0,none,[],0,false⟩,rfl,⟨hD'.ok.mono (by omega),Int.le_refl 0,by show (0:Int)+k<=_;omega,Int.le_refl 0,by show (0:Int)<=20;omega,nofun,.nil,by show 0+k<=_;omega⟩,hD'.cap,hD'.g,rfl,rfl,rfl,rfl,hH6⟩)
end
structure Ac where
 kd:Int
 p:Bs
 c:Bs
 tz:Int
 fa:OA
 fl:List Df
 fc:Nat
 r1:Int
 ra:OA
 rn:Nat
 rc:Nat
 r2:Int
def Ky (x:Ac):LV:=[.int .i64 x.kd,Ab x.p,Ab x.c,.int .i64 x.tz,.slice x.fa x.fl.length x.fc,.int .i64 x.r1,.slice x.ra x.rn x.rc,.int .u8 x.r2]
theorem Qm1 (x:Ac):(Ky x).length=8:=rfl
theorem QF0 (x:Ac):∀ v∈Ky x,v.oneCell'=true:=by
 intro v hv;simp [Ky] at hv;rcases hv with rfl | rfl | rfl | rfl | rfl | rfl | rfl | rfl <;> rfl
structure Acts (w:World) (a:OA) (l:List Ac):Prop where
 r:RS w a l.length 8 (Bw Ky l)
 f:∀ x∈l,RS w x.fa x.fl.length 2 (Bw B4 x.fl)
theorem Qtj {α:Type}{f:α->LV}{k:Nat} (hk:∀ x,(f x).length=k) {w:World}{p:Addr}{n:Nat}{l:List α} (h:RS w (some p) n k (Bw f l)) {i:Nat}{x:α} (hx:l[i]? = some x):Reads w (p.add (i * k)) (f x):=fun j u hu=>by
 have:=h.2.2 p rfl (i * k+j) u (Vk hk l i x hx j u hu);rw [Qcx];exact this
theorem Qm2 {w:World}{a:OA}{n k:Nat}{vs:LV} (h:RS w a n k vs) (hn:0 < n):∃ p,a=some p:=by
 cases a with
 | none=>have:=h.2.1 rfl;omega
 | some p=>exact ⟨p,rfl⟩
theorem QAj (l:List Ac) (a:OA) (c:Nat) (w:World) (hA:Acts w a l):Does Yd 4 #[.slice a l.length c,.int .i64 30000] w fun v w'=>w'=w/\∃ b,v=.bool b/\(b=true->l.length<=300/\∀ x∈l,x.p.length<=200):=by
 refine En [.slice a l.length c,.int .i64 30000] 85 Tryz.func4 ?_;refine VS [0,1] ?_;refine VS [0,1,5] ?_;refine VS [0,1,5,6] ?_;refine Aq ?_;refine Ay [0,1,5,6] (fun q e w'=>∃ (i:Nat) (n:Int),Is e [(0,.slice a l.length c),(1,.int .i64 30000),(5,.int .i64 n),(6,.int .i64 i)]/\Is w' w/\100 * (i:Int)<=n/\n<=30000/\(∀ x∈l.take i,x.p.length<=200)/\i<=l.length/\q=l.length - i) l.length ?_ ?_
 ·
  refine Qs ?_;exact ⟨0,0,rfl,rfl,by omega,by omega,by simp,by omega,rfl⟩
 rintro q e w' ⟨i,n,rfl,rfl,hn1,hn2,hp,hi,rfl⟩;refine VS [0,1,5,6,11] ?_;(repeat refine Aw ?_);refine VD (fun h=>?_) (fun h=>?_)
 ·
  refine Ad ?_;refine VB ?_;obtain ⟨x,hx⟩:∃ x,l[i]? = some x:=⟨_,Yk (show i < l.length by omega)⟩;obtain ⟨p,rfl⟩:=Qm2 hA.r (by omega);have hrd:=Qtj Qm1 hA.r hx;refine VQ [0,1,5,6] fun K hK=>?_;refine ⟨⟨by omega,by omega⟩,_,hrd 2 _ rfl,?_⟩;refine Qs ?_;refine ⟨by omega,by omega,Yr (by omega) (by omega),Yr (by omega) (by omega),?_⟩;obtain ⟨n1,hn1'⟩:∃ n1:Int,n1=n+(100+((x.c.length:Int) % 20000)):=⟨_,rfl⟩;rw [<- hn1'];apply hK;clear hK;refine VQ [0,1,5,6,44] fun K hK=>?_;refine ⟨⟨by omega,by omega⟩,_,hrd 1 _ rfl,?_⟩;refine Qs ?_
  suffices out:∀ b:Bool,(b=false->x.p.length<=200/\n1<=30000)->K [(0,.slice (some p) l.length c),(1,.int .i64 30000),(5,.int .i64 n1),(6,.int .i64 i),(44,.bool b)] w' by
   refine ⟨fun h3=>⟨⟨by omega,by omega⟩,_,hrd 4 _ rfl,?_⟩,fun h3=>out true (by simp)⟩;refine Qs ?_;refine ⟨fun h4=>?_,fun h4=>out true (by simp)⟩;exact out _ fun h5=>⟨by omega,by simpa using h5⟩
  intro b hb;apply hK;clear hK;refine Ai rfl rfl (fun h3=>?_) (fun h3=>Ad ?_)
  ·
   refine VS [4] ?_;exact Ae (Al rfl rfl ⟨rfl,false,rfl,by simp⟩)
  obtain ⟨hb1,hb2⟩:=hb h3;clear hb h3;have hf:=hA.f x (Yn hx);refine VS [0,1,5,6,7] ?_;refine Aq ?_;refine Ay [0,1,5,6,7] (fun q e w2=>∃ (k:Nat) (n:Int),Is e [(0,.slice (some p) l.length c),(1,.int .i64 30000),(5,.int .i64 n),(6,.int .i64 i),(7,.int .i64 k)]/\Is w2 w'/\n1+100 * (k:Int)<=n/\n<=30000/\k<=x.fl.length/\q=x.fl.length - k) x.fl.length ?_ ?_
  ·
   refine Qs ?_;exact ⟨0,n1,rfl,rfl,by omega,hb2,by omega,rfl⟩
  rintro q e w2 ⟨k,n2,rfl,rfl,hk1,hk2,hk,rfl⟩;refine VQ [0,1,5,6,7,52] fun K hK=>?_;refine ⟨⟨by omega,by omega⟩,_,hrd 4 _ rfl,?_⟩;refine Qs ?_;apply hK;clear hK;(repeat refine Aw ?_);refine Ai rfl rfl (fun h3=>?_) (fun h3=>?_)
  ·
   simp only [decide_eq_true_eq] at h3;refine Ad ?_;refine VB ?_;obtain ⟨y,hy⟩:∃ y,x.fl[k]? = some y:=⟨_,Yk (show k < x.fl.length by omega)⟩;obtain ⟨p2,hp2⟩:=Qm2 hf (by omega);have hrx:=hrd 4 _ rfl;rw [hp2] at hf hrx;have hry:=Qtj Qm0 hf hy;refine VQ [0,1,5,6,7] fun K hK=>?_;refine ⟨⟨by omega,by omega⟩,_,hrx,⟨by omega,by omega⟩,_,hry 1 _ rfl,?_⟩;refine Qs ?_;refine ⟨by omega,by omega,Yr (by omega) (by omega),Yr (by omega) (by omega),?_⟩;obtain ⟨n3,hn3⟩:∃ n3:Int,n3=n2+(100+((y.2.length:Int) % 20000)):=⟨_,rfl⟩;rw [<- hn3];apply hK;clear hK;refine VQ [0,1,5,6,7,84] fun K hK=>?_;refine ⟨⟨by omega,by omega⟩,_,hrx,⟨by omega,by omega⟩,_,hry 0 _ rfl,?_⟩;refine Qs ?_
   suffices out:∀ b:Bool,(b=false->n3<=30000)->K [(0,.slice (some p) l.length c),(1,.int .i64 30000),(5,.int .i64 n3),(6,.int .i64 i),(7,.int .i64 k),(84,.bool b)] w2 by
    refine ⟨fun h3=>?_,fun h3=>out true (by simp)⟩;exact out _ fun h5=>by simpa using h5
   intro b hb;apply hK;clear hK;refine Ai rfl rfl (fun h4=>?_) (fun h4=>Ad ?_)
   ·
    refine VS [4] ?_;exact Ae (Al rfl rfl ⟨rfl,false,rfl,by simp⟩)
   refine An ?_;have hb3:=hb h4;refine VS [0,1,5,6,7] ?_;refine Ah ?_;refine Qs ?_;exact ⟨x.fl.length - (k+1),by omega,k+1,n3,rfl,rfl,by omega,hb3,by omega,rfl⟩
  refine Ax rfl ?_;refine An ?_;refine VS [0,1,5,6] ?_;refine Ah ?_;refine Qs ?_;refine ⟨l.length - (i+1),by omega,i+1,n2,rfl,rfl,by omega,hk2,fun y hy=>?_,by omega,rfl⟩;rw [Xh,hx] at hy;rcases Yu.1 hy with hy | hy
  ·
   exact hp y hy
  rw [show y=x by simpa using hy];exact hb1
 obtain rfl:i=l.length:=by omega
 rw [Xe] at hp;refine Ax rfl ?_;refine VS [4] ?_;exact Ae (Al rfl rfl ⟨rfl,true,rfl,fun _=>⟨by omega,hp⟩⟩)
abbrev Ng (a:OA) (n c:Nat):Value:=.agg #[.slice a n c]
abbrev D5 (g:Nat) (a:OA) (n c:Nat):Res:=Ye g 29 [.slice a n c]
theorem QTc {KV:Value->Prop}:Ca Yd 29 [] KV=KV (Ng none 0 0):=Cx (by kernel_rfl)
attribute [go_sem ↓] QTc
theorem Qf8 (l:List Df) (x:Df):Bw B4 l++B4 x=Bw B4 (l++[x]):=by rw [R9,Vj]
theorem Qxm (x:Df) (l:List Df) (a:OA) (c:Nat) (w:World) (hl:(Ih a c l).holds w) (hll:l.length<=1000) (hx:x.1.length<=1000) (hp:∀ y∈l,y.1.length<=1000) :
  Does Yd 49 #[Ng a l.length c,.agg (B4 x).toArray] w fun v w'=>∃ (a':OA) (c':Nat) (l':List Df),v=Ng a' l'.length c'/\Heap w [] w' [Ih a' c' l']/\l'.length<=l.length+1/\∀ y∈l',y=x∨y∈l:=by
 refine En [Ng a l.length c,.agg (B4 x).toArray] 59 Tryz.func49 ?_;refine VQ [2,3,4] fun K hK=>?_;refine Iq (Yz w) [.slice a l.length c] ?_;refine Qs ?_;refine ⟨trivial,fun gm w1 hH1=>?_⟩;refine Iq hH1 (B4 x) ?_;refine Qs ?_;refine ⟨trivial,fun gx w2 hH2=>?_⟩;refine Dg hH2 [.slice none 0 0] fun g4 w3 hH3=>?_;refine Qs ?_;apply hK;clear hK;refine VQ [2,3,4,5] fun K hK=>?_;refine Dg hH3 [.slice none 0 0] fun g5 w4 hH4=>?_;refine Qs ?_;refine Ag ?_;refine Qs ?_;refine Ap hH4 0 (vs:=[.slice none 0 0]) rfl rfl (by kernel_rfl) (by simp) (by simp [Yc]) fun w5 hH5=>?_;have hH6:Heap w [] w5 [Ih none 0 [],D5 g5 none 0 0,D5 g4 none 0 0,Ye gx 43 (B4 x),D5 gm a l.length c]:=Us hH5 43 2;clear hH1 hH2 hH3 hH4 hH5;apply hK;clear hK;refine VS [2,3,4,5,6] ?_;refine VS [2,3,4,5,6,7] ?_;refine Aq ?_;refine Ay [2,3,4,5,6,7] (fun q e w'=>∃ (i:Nat) (dn:Bool) (ao:OA) (co:Nat) (lo:List Df),Is e [(2,pV gm),(3,pV gx),(4,pV g4),(5,pV g5),(6,.bool dn),(7,.int .i64 i)]/\Heap w [] w' [Ih ao co lo,D5 g5 ao lo.length co,D5 g4 none 0 0,Ye gx 43 (B4 x),D5 gm a l.length c]/\lo.length<=i+dn.toNat/\(∀ y∈lo,y=x∨y∈l)/\i<=l.length/\q=l.length - i) l.length ?_ ?_
 ·
  refine Qs ?_;exact ⟨0,false,none,0,[],rfl,hH6,by simp,by simp,by omega,rfl⟩
 clear hH6;rintro q e w4 ⟨i,dn,ao,co,lo,rfl,hH,h1,h2,hi,rfl⟩;have hdn:dn.toNat<=1:=by cases dn <;> simp
 refine VQ [2,3,4,5,6,7,14] fun K hK=>?_;refine ⟨_,Af (hH.at 4 rfl) (k:=0) rfl,?_⟩;refine Qs ?_;apply hK;clear hK;(repeat refine Aw ?_);refine VD (fun h=>?_) (fun h=>?_)
 ·
  refine Ad ?_;refine VB ?_;obtain ⟨y,hy⟩:∃ y,l[i]? = some y:=⟨_,Yk (show i < l.length by omega)⟩;have hym:=Yn hy;have hl1:=Lb hl hH;obtain ⟨g2,rfl⟩:=Cw hl1 (by omega);have hrd:=Rp (As hl1) hy;refine VL [2,3,4,5,6,7,8] 8 fun K hK=>?_;refine ⟨_,Af (hH.at 3 rfl) (k:=0) rfl,_,Af (hH.at 4 rfl) (k:=0) rfl,?_⟩;refine Qs ?_;refine ⟨⟨by omega,by omega⟩,_,hrd 0 _ rfl,?_⟩;refine Aa Tryz.call65 ?_;refine Qs ?_;refine Ya (Qd9 x.1 y.1 w4 (by omega) (by have:=hp y hym;omega)) ?_;rintro v w5 ⟨hA,rfl,-⟩;have hH2:=hH.call0 hA;simp only [Yb] at hH2;replace hl1:=Lb hl1 hA;replace hrd:=Rp (As hl1) hy;clear hH hA;generalize Rl x.1 y.1=z;apply hK;clear hK;refine VQ [2,3,4,5,6,7,8,31] fun K hK=>?_
  suffices out:∀ b:Bool,(b=true->dn=false)->K [(2,pV gm),(3,pV gx),(4,pV g4),(5,pV g5),(6,.bool dn),(7,.int .i64 i),(8,.int .i64 z),(31,.bool b)] w5 by
   exact ⟨fun _=>out _ (by simp),fun _=>out _ (by simp)⟩
  intro b hb;apply hK;clear hK;refine Do [2,3,4,5,6,7,8] (fun e w'=>∃ (dn:Bool) (ao:OA) (co:Nat) (lo:List Df),Is e [(2,pV gm),(3,pV gx),(4,pV g4),(5,pV g5),(6,.bool dn),(7,.int .i64 i),(8,.int .i64 z)]/\Heap w [] w' [Ih ao co lo,D5 g5 ao lo.length co,D5 g4 none 0 0,Ye gx 43 (B4 x),D5 gm (some ⟨g2,0,none⟩) l.length c]/\lo.length<=i+dn.toNat/\(∀ y∈lo,y=x∨y∈l)) ?_ ?_
  ·
   refine Ai rfl rfl (fun h3=>?_) (fun h3=>?_)
   ·
    refine VQ [2,3,4,5,7,8] fun K hK=>?_;refine ⟨_,Af (hH2.at 1 rfl) (k:=0) rfl,B4 x,⟨rfl,Bu (hH2.at 3 rfl)⟩,?_⟩;refine C2 hH2 2 (B4 x) (xs:=[.tmp 34]) Yt Ti rfl rfl rfl (by omega) (by omega) ?_;refine Qs ?_;refine ⟨by simp [B4,Yh],by simp [B4,Yh],fun gl w7 hL=>?_⟩;refine Ce ?_;refine Qs ?_;refine C3 (zs:=#[.string ⟨#[]⟩,.string ⟨#[]⟩]) (bytes:=32) hL 1 rfl Yt (by kernel_rfl) rfl (m:=1) ⟨rfl,As (hL.at 0 rfl),43,Yt⟩ (Rf _) (fun h=>by simp;omega) fun a' cap' w8 hc' hL2=>?_;rw [Qf8] at hL2;rw [show lo.length+1=(lo++[x]).length by simp] at hL2 ⊢;refine Ag ?_;refine Qs ?_;refine Ap hL2 2 (vs:=[.slice a' (lo++[x]).length cap']) rfl rfl (by kernel_rfl) (by simp) (by simp [Yc]) fun w9 hL3=>?_;have hL4:=hL3.sub (Yf _ _);apply hK;clear hK;refine VS [2,3,4,5,6,7,8] ?_;refine Ah ?_;refine Qs ?_;refine ⟨true,a',cap',lo++[x],rfl,hL4,?_,?_⟩
    ·
     have:=hb h3;subst this;simp at h1 ⊢;exact h1
    intro y hy;rcases Yu.1 hy with hy | hy
    ·
     exact h2 y hy
    exact .inl (by simpa using hy)
   refine Ad ?_;refine Ah ?_;refine Qs ?_;exact ⟨dn,ao,co,lo,rfl,hH2,h1,h2⟩
  clear hH2 h1 h2 hb hdn dn ao co lo;rintro e w6 ⟨dn,ao,co,lo,rfl,hH,h1,h2⟩;have hdn:dn.toNat<=1:=by cases dn <;> simp
  refine VS [2,3,4,5,6,7,39] ?_;have hl2:=Lb hl hH;have hrd:=Rp (As hl2) hy;refine Ai rfl rfl (fun h3=>?_) (fun h3=>Ad ?_)
  ·
   refine V3 (bare w6) (Ss _ _) [2,3,4,5,6,7] (.two [(0,true),(2,true),(4,true)] 1 3 (.seq [(3,false),(5,true),(6,false),(7,false),(8,false),(9,true),(10,false)]) (.two [(5,true)] 1 6 (.seq [(6,false),(7,false),(8,false),(9,true),(10,false)]) (.two [] 1 7 (.seq [(7,false),(8,false),(9,true),(10,false)]) (.seq [(1,false),(8,false),(9,true),(10,false)])))) fun K hK=>?_
   suffices out:∀ (w9:World) (a':OA) (cap':Nat),Heap w [] w9 [Ih a' cap' (lo++[y]),D5 g5 a' (lo++[y]).length cap',D5 g4 none 0 0,Ye gx 43 (B4 x),D5 gm (some ⟨g2,0,none⟩) l.length c]->K [(2,pV gm),(3,pV gx),(4,pV g4),(5,pV g5),(6,.bool dn),(7,.int .i64 i)] w9 by
    simp only [Lm,A6,List.filterMap_cons,List.filterMap_nil,List.getElem?_cons_succ,List.getElem?_cons_zero,Option.map_some];refine Qs ?_
    repeat' (first
     | (refine ⟨_,Af (hH.at 1 rfl) (k:=0) rfl,?_⟩;skip)
     | (refine ⟨_,Af (hH.at 4 rfl) (k:=0) rfl,?_⟩;refine Qs ?_)
     | (refine ⟨⟨by omega,by omega⟩,B4 y,⟨rfl,hrd⟩,?_⟩;skip)
     | (refine Qp ?_;skip)
     | (refine ⟨B4 y,⟨rfl,hrd⟩,?_⟩;skip)
     | (simp only [Bi];refine Qs ?_)
     | refine And.intro ?_ ?_)
    all_goals
     refine C2 hH 2 (B4 y) (xs:=[.tmp 46]) Yt Ti rfl rfl rfl (by omega) (by omega) ?_;refine Qs ?_;refine ⟨by simp [B4,Yh],by simp [B4,Yh],fun gl w7 hL=>?_⟩;(try simp only [Bi]);(try refine Qs ?_);(try (refine ⟨_,Af (hL.at 2 rfl) (k:=0) rfl,?_⟩;skip));refine Ce ?_;refine Qs ?_;refine C3 (zs:=#[.string ⟨#[]⟩,.string ⟨#[]⟩]) (bytes:=32) hL 1 rfl Yt (by kernel_rfl) rfl (m:=1) ⟨rfl,As (hL.at 0 rfl),43,Yt⟩ (Rf _) (fun h=>by simp;omega) fun a' cap' w8 hc' hL2=>?_;rw [Qf8] at hL2;rw [show lo.length+1=(lo++[y]).length by simp] at hL2 ⊢;(try simp only [Bi]);refine Ag ?_;refine Qs ?_;refine Ap hL2 2 (vs:=[.slice a' (lo++[y]).length cap']) rfl rfl (by kernel_rfl) (by simp) (by simp [Yc]) fun w9 hL3=>?_;(try simp only [Bi]);exact out w9 a' cap' (hL3.sub (Yf _ _))
   intro w9 a' cap' hL4;apply hK;clear hK;refine An ?_;refine VS [2,3,4,5,6,7] ?_;refine Ah ?_;refine Qs ?_;refine ⟨l.length - (i+1),by omega,i+1,dn,a',cap',lo++[y],rfl,hL4,by simp;omega,fun u hu=>?_,by omega,rfl⟩;rcases Yu.1 hu with hu | hu
   ·
    exact h2 u hu
   exact .inr (by rw [show u=y by simpa using hu];exact hym)
  refine An ?_;refine VS [2,3,4,5,6,7] ?_;refine Ah ?_;refine Qs ?_;exact ⟨l.length - (i+1),by omega,i+1,dn,ao,co,lo,rfl,hH,by omega,h2,by omega,rfl⟩
 obtain rfl:i=l.length:=by omega
 refine Ax rfl ?_;refine VS [3,4,5,51] ?_;refine Do [4,5] (fun e w'=>∃ (ao:OA) (co:Nat) (lo:List Df),Is e [(4,pV g4),(5,pV g5)]/\Heap w [] w' [Ih ao co lo,D5 g5 ao lo.length co,D5 g4 none 0 0]/\lo.length<=l.length+1/\(∀ y∈lo,y=x∨y∈l)) ?_ ?_
 ·
  refine Ai rfl rfl (fun h3=>?_) (fun h3=>Ad ?_)
  ·
   have hdf:dn=false:=by simpa using h3
   subst hdf;refine VQ [4,5] fun K hK=>?_;refine ⟨_,Af (hH.at 1 rfl) (k:=0) rfl,B4 x,⟨rfl,Bu (hH.at 3 rfl)⟩,?_⟩;refine C2 hH 2 (B4 x) (xs:=[.tmp 54]) Yt Ti rfl rfl rfl (by omega) (by omega) ?_;refine Qs ?_;refine ⟨by simp [B4,Yh],by simp [B4,Yh],fun gl w7 hL=>?_⟩;refine Ce ?_;refine Qs ?_;refine C3 (zs:=#[.string ⟨#[]⟩,.string ⟨#[]⟩]) (bytes:=32) hL 1 rfl Yt (by kernel_rfl) rfl (m:=1) ⟨rfl,As (hL.at 0 rfl),43,Yt⟩ (Rf _) (fun h=>by simp;omega) fun a' cap' w8 hc' hL2=>?_;rw [Qf8] at hL2;rw [show lo.length+1=(lo++[x]).length by simp] at hL2 ⊢;refine Ag ?_;refine Qs ?_;refine Ap hL2 2 (vs:=[.slice a' (lo++[x]).length cap']) rfl rfl (by kernel_rfl) (by simp) (by simp [Yc]) fun w9 hL3=>?_;have hL4:=hL3.sub (Yf _ _);apply hK;clear hK;refine Ah ?_;refine Qs ?_;refine ⟨a',cap',lo++[x],rfl,hL4.sub (.cons_cons _ (.cons_cons _ (.cons_cons _ (Yi _)))),by simpa using h1,fun u hu=>?_⟩;rcases Yu.1 hu with hu | hu
   ·
    exact h2 u hu
   exact .inl (by simpa using hu)
  refine Ah ?_;refine Qs ?_;exact ⟨ao,co,lo,rfl,hH.sub (.cons_cons _ (.cons_cons _ (.cons_cons _ (Yi _)))),by omega,h2⟩
 clear hH h1 h2 ao co lo;rintro e w5 ⟨ao,co,lo,rfl,hH,h1,h2⟩;refine VQ [4] fun K hK=>?_;refine ⟨[.slice ao lo.length co],⟨rfl,Bu (hH.at 1 rfl)⟩,?_⟩;refine Ag ?_;refine Qs ?_;refine Ap hH 2 (vs:=[.slice ao lo.length co]) rfl rfl (by kernel_rfl) (by simp) (by simp [Yc]) fun w6 hH2=>?_;apply hK;clear hK;refine Ae (Np rfl rfl ?_);refine Qs ?_;exact ⟨[.slice ao lo.length co],⟨rfl,Bu (hH2.at 2 rfl)⟩,ao,co,lo,rfl,hH2.sub (.cons_cons _ (Yi _)),h1,h2⟩
theorem Qmh (p:Bs) (l:List Df) (a:OA) (c:Nat) (w:World) (hl:(Ih a c l).holds w) (hll:l.length<=1000) :
  Does Yd 50 #[Ng a l.length c,Ab p] w fun v w'=>∃ (a':OA) (c':Nat) (l':List Df),v=Ng a' l'.length c'/\Heap w [] w' [Ih a' c' l']/\l'.length<=l.length/\∀ y∈l',y∈l:=by
 refine En [Ng a l.length c,Ab p] 34 Tryz.func50 ?_;refine VQ [1,2,4] fun K hK=>?_;refine Iq (Yz w) [.slice a l.length c] ?_;refine Qs ?_;refine ⟨trivial,fun gm w1 hH1=>?_⟩;refine Dg hH1 [.slice none 0 0] fun g4 w3 hH3=>?_;refine Qs ?_;apply hK;clear hK;refine VQ [1,2,4,5] fun K hK=>?_;refine Dg hH3 [.slice none 0 0] fun g5 w4 hH4=>?_;refine Qs ?_;refine Ag ?_;refine Qs ?_;refine Ap hH4 0 (vs:=[.slice none 0 0]) rfl rfl (by kernel_rfl) (by simp) (by simp [Yc]) fun w5 hH5=>?_;have hH6:Heap w [] w5 [Ih none 0 [],D5 g5 none 0 0,D5 g4 none 0 0,D5 gm a l.length c]:=Us hH5 43 2;clear hH1 hH3 hH4 hH5;apply hK;clear hK;refine VS [1,2,4,5,6] ?_;refine Aq ?_;refine Ay [1,2,4,5,6] (fun q e w'=>∃ (i:Nat) (ao:OA) (co:Nat) (lo:List Df),Is e [(1,Ab p),(2,pV gm),(4,pV g4),(5,pV g5),(6,.int .i64 i)]/\Heap w [] w' [Ih ao co lo,D5 g5 ao lo.length co,D5 g4 none 0 0,D5 gm a l.length c]/\lo.length<=i/\(∀ y∈lo,y∈l)/\i<=l.length/\q=l.length - i) l.length ?_ ?_
 ·
  refine Qs ?_;exact ⟨0,none,0,[],rfl,hH6,by simp,by simp,by omega,rfl⟩
 clear hH6;rintro q e w6 ⟨i,ao,co,lo,rfl,hH,h1,h2,hi,rfl⟩;refine VQ [1,2,4,5,6,12] fun K hK=>?_;refine ⟨_,Af (hH.at 3 rfl) (k:=0) rfl,?_⟩;refine Qs ?_;apply hK;clear hK;(repeat refine Aw ?_);refine VD (fun h=>?_) (fun h=>?_)
 ·
  refine Ad ?_;refine VB ?_;obtain ⟨y,hy⟩:∃ y,l[i]? = some y:=⟨_,Yk (show i < l.length by omega)⟩;have hym:=Yn hy;have hl1:=Lb hl hH;obtain ⟨g2,rfl⟩:=Cw hl1 (by omega);have hrd:=Rp (As hl1) hy;refine VQ [1,2,4,5,6,22] fun K hK=>?_;refine ⟨_,Af (hH.at 3 rfl) (k:=0) rfl,?_⟩;refine Qs ?_;refine ⟨⟨by omega,by omega⟩,_,hrd 0 _ rfl,?_⟩;refine Qs ?_;apply hK;clear hK;refine Ai rfl rfl (fun h3=>?_) (fun h3=>Ad ?_)
  ·
   refine V3 (bare w6) (Ss _ _) [1,2,4,5,6] (.two [(0,true),(2,true),(4,true)] 1 3 (.seq [(3,false),(5,true),(6,false),(7,false),(8,false),(9,true),(10,false)]) (.two [(5,true)] 1 6 (.seq [(6,false),(7,false),(8,false),(9,true),(10,false)]) (.two [] 1 7 (.seq [(7,false),(8,false),(9,true),(10,false)]) (.seq [(1,false),(8,false),(9,true),(10,false)])))) fun K hK=>?_
   suffices out:∀ (w9:World) (a':OA) (cap':Nat),Heap w [] w9 [Ih a' cap' (lo++[y]),D5 g5 a' (lo++[y]).length cap',D5 g4 none 0 0,D5 gm (some ⟨g2,0,none⟩) l.length c]->K [(1,Ab p),(2,pV gm),(4,pV g4),(5,pV g5),(6,.int .i64 i)] w9 by
    simp only [Lm,A6,List.filterMap_cons,List.filterMap_nil,List.getElem?_cons_succ,List.getElem?_cons_zero,Option.map_some];refine Qs ?_
    repeat' (first
     | (refine ⟨_,Af (hH.at 1 rfl) (k:=0) rfl,?_⟩;skip)
     | (refine ⟨_,Af (hH.at 3 rfl) (k:=0) rfl,?_⟩;refine Qs ?_)
     | (refine ⟨⟨by omega,by omega⟩,B4 y,⟨rfl,hrd⟩,?_⟩;skip)
     | (refine Qp ?_;skip)
     | (refine ⟨B4 y,⟨rfl,hrd⟩,?_⟩;skip)
     | (simp only [Bi];refine Qs ?_)
     | refine And.intro ?_ ?_)
    all_goals
     refine C2 hH 2 (B4 y) (xs:=[.tmp 29]) Yt Ti rfl rfl rfl (by omega) (by omega) ?_;refine Qs ?_;refine ⟨by simp [B4,Yh],by simp [B4,Yh],fun gl w7 hL=>?_⟩;(try simp only [Bi]);(try refine Qs ?_);(try (refine ⟨_,Af (hL.at 2 rfl) (k:=0) rfl,?_⟩;skip));refine Ce ?_;refine Qs ?_;refine C3 (zs:=#[.string ⟨#[]⟩,.string ⟨#[]⟩]) (bytes:=32) hL 1 rfl Yt (by kernel_rfl) rfl (m:=1) ⟨rfl,As (hL.at 0 rfl),43,Yt⟩ (Rf _) (fun h=>by simp;omega) fun a' cap' w8 hc' hL2=>?_;rw [Qf8] at hL2;rw [show lo.length+1=(lo++[y]).length by simp] at hL2 ⊢;(try simp only [Bi]);refine Ag ?_;refine Qs ?_;refine Ap hL2 2 (vs:=[.slice a' (lo++[y]).length cap']) rfl rfl (by kernel_rfl) (by simp) (by simp [Yc]) fun w9 hL3=>?_;(try simp only [Bi]);exact out w9 a' cap' (hL3.sub (Yf _ _))
   intro w9 a' cap' hL4;apply hK;clear hK;refine An ?_;refine VS [1,2,4,5,6] ?_;refine Ah ?_;refine Qs ?_;refine ⟨l.length - (i+1),by omega,i+1,a',cap',lo++[y],rfl,hL4,by simp;omega,fun u hu=>?_,by omega,rfl⟩;rcases Yu.1 hu with hu | hu
   ·
    exact h2 u hu
   rw [show u=y by simpa using hu];exact hym
  refine An ?_;refine VS [1,2,4,5,6] ?_;refine Ah ?_;refine Qs ?_;exact ⟨l.length - (i+1),by omega,i+1,ao,co,lo,rfl,hH,by omega,h2,by omega,rfl⟩
 refine Ax rfl ?_;refine VQ [4] fun K hK=>?_;refine ⟨[.slice ao lo.length co],⟨rfl,Bu (hH.at 1 rfl)⟩,?_⟩;refine Ag ?_;refine Qs ?_;refine Ap hH 2 (vs:=[.slice ao lo.length co]) rfl rfl (by kernel_rfl) (by simp) (by simp [Yc]) fun w6 hH2=>?_;apply hK;clear hK;refine Ae (Np rfl rfl ?_);refine Qs ?_;exact ⟨[.slice ao lo.length co],⟨rfl,Bu (hH2.at 2 rfl)⟩,ao,co,lo,rfl,hH2.sub (.cons_cons _ (Yi _)),by omega,h2⟩
theorem Qxn (x:Ac) (hk:x.kd=0∨x.kd=1∨x.kd=3) (l:List Df) (a:OA) (c:Nat) (w:World) (hl:(Ih a c l).holds w) (hll:l.length<=1000) (hx:x.p.length<=1000) (hp:∀ y∈l,y.1.length<=1000) :
  Does Yd 19 #[Ng a l.length c,.agg (Ky x).toArray] w fun v w'=>∃ (a':OA) (c':Nat) (l':List Df),v=Ng a' l'.length c'/\l'.length<=l.length+1/\(∀ y∈l',y.1.length<=1000)/\(Heap w [] w' [Ih a' c' l']∨a'=a/\c'=c/\l'=l/\Heap w [] w' []):=by
 refine En [Ng a l.length c,.agg (Ky x).toArray] 40 Tryz.func19 ?_;refine VQ [2,3,4] fun K hK=>?_;refine Iq (Yz w) [.slice a l.length c] ?_;refine Qs ?_;refine ⟨trivial,fun gm w1 hH1=>?_⟩;refine Iq hH1 (Ky x) ?_;refine Qs ?_;refine ⟨trivial,fun gx w2 hH2=>?_⟩;refine Dg hH2 [.slice none 0 0] fun g4 w3 hH3=>?_;have hH:Heap w [] w3 [D5 g4 none 0 0,Ye gx 41 (Ky x),D5 gm a l.length c]:=hH3;clear hH1 hH2 hH3;have hl3:=Lb hl hH;refine Qs ?_;apply hK;clear hK;refine VQ [2,3,4,7] fun K hK=>?_;refine ⟨_,Af (hH.at 1 rfl) (k:=0) rfl,?_⟩;apply hK;clear hK;refine Aq ?_;refine VS [2,3,4,7,8] ?_;refine Vi (fun h=>?_) (fun h=>?_)
 ·
  refine VQ [4] fun K hK=>?_;refine ⟨[.slice a l.length c],⟨rfl,Bu (hH.at 2 rfl)⟩,_,Af (hH.at 1 rfl) (k:=1) rfl,_,Af (hH.at 1 rfl) (k:=2) rfl,?_⟩;refine Qs ?_;refine Aa Tryz.call49 ?_;refine Qs ?_;refine Ya (Qxm (x.p,x.c) l a c w3 hl3 hll hx hp) ?_;rintro v w4 ⟨a',c',l',rfl,hA,h1,h2⟩;have hH2:=hH.call0 hA;refine Ag ?_;refine Qs ?_;refine Ap hH2 1 (vs:=[.slice a' l'.length c']) rfl rfl (by kernel_rfl) (by simp) (by simp [Yc]) fun w5 hH3=>?_;apply hK;clear hK;refine Ae (Np rfl rfl ?_);refine Qs ?_;exact ⟨[.slice a' l'.length c'],⟨rfl,Bu (hH3.at 1 rfl)⟩,a',c',l',rfl,h1,fun y hy=>(h2 y hy).elim (fun h=>by rw [h];exact hx) (hp y),.inl (hH3.sub (.cons_cons _ (Yi _)))⟩
 refine VS [2,3,4,7,17] ?_;have hk5:¬ x.kd=5:=by omega
 refine Do [2,4] (fun e w'=>Is e [(2,pV gm),(4,pV g4)]/\Is w' w3) ?_ ?_
 ·
  refine Ai rfl rfl (fun h3=>absurd (by simpa using h3) hk5) (fun h3=>?_);refine VS [2,3,4,33] ?_;refine Ai rfl rfl (fun h4=>?_) (fun h4=>?_)
  ·
   refine VQ [4] fun K hK=>?_;refine ⟨[.slice a l.length c],⟨rfl,Bu (hH.at 2 rfl)⟩,_,Af (hH.at 1 rfl) (k:=1) rfl,?_⟩;refine Aa Tryz.call50 ?_;refine Qs ?_;refine Ya (Qmh x.p l a c w3 hl3 hll) ?_;rintro v w4 ⟨a',c',l',rfl,hA,h1,h2⟩;have hH2:=hH.call0 hA;refine Ag ?_;refine Qs ?_;refine Ap hH2 1 (vs:=[.slice a' l'.length c']) rfl rfl (by kernel_rfl) (by simp) (by simp [Yc]) fun w5 hH3=>?_;apply hK;clear hK;refine Ae (Np rfl rfl ?_);refine Qs ?_;exact ⟨[.slice a' l'.length c'],⟨rfl,Bu (hH3.at 1 rfl)⟩,a',c',l',rfl,by omega,fun y hy=>hp y (h2 y hy),.inl (hH3.sub (.cons_cons _ (Yi _)))⟩
  refine Ad ?_;refine Ah ?_;refine Qs ?_;exact ⟨rfl,rfl⟩
 rintro e w' ⟨rfl,rfl⟩;refine An ?_;refine VQ [4] fun K hK=>?_;refine ⟨[.slice a l.length c],⟨rfl,Bu (hH.at 2 rfl)⟩,?_⟩;refine Ag ?_;refine Qs ?_;refine Ap hH 0 (vs:=[.slice a l.length c]) rfl rfl (by kernel_rfl) (by simp) (by simp [Yc]) fun w6 hH2=>?_;apply hK;clear hK;refine Ae (Np rfl rfl ?_);refine Qs ?_;exact ⟨[.slice a l.length c],⟨rfl,Bu (hH2.at 0 rfl)⟩,a,c,l,rfl,by omega,hp,.inr ⟨rfl,rfl,rfl,hH2.sub (Yi _)⟩⟩
abbrev eS:Value:=Ab []
theorem Qs6 (c:Int) (h1:31<=c) (h2:c<=4096) (w:World):Does Yd 28 #[.int .i64 c,eS] w fun v w'=>∃ D:Dk,v=.tuple #[pV D.g,.int .i64 0]/\D.ok 100000000/\D.cap=c/\D.nl=[]/\Heap w [] w' (dL D):=by
 refine En [.int .i64 c,eS] 32 Tryz.func28 ?_;refine VS [0,1] ?_;refine VQ [0,1,24] fun K hK=>?_
 suffices out:∀ b:Bool,(b=false)->K [(0,.int .i64 c),(1,eS),(24,.bool b)] w by
  rw [show (([]:LB).length:Int)=0 from rfl];(repeat' (first | exact out _ _ (by first | omega | (simp;done) | (simp;omega)) | exact out _ (by first | omega | (simp;done) | (simp;omega)) | refine ⟨fun _=>?_,fun _=>?_⟩ | refine Qo ?_))
 intro b hb;subst hb;apply hK;clear hK;refine Ai rfl rfl (fun h=>by simp at h) (fun h=>Ad ?_);refine VQ [4,5] fun K hK=>?_;refine Qb0 ?_;refine Qs ?_;refine Qb1 (Yz w) Xa Ym Xo (l:=[]) (by simp) fun a1 c1 w1 hH1=>?_;refine Qb0 ?_;refine Qs ?_;refine Qb1 hH1 Xa Ym Xo (l:=[]) (by simp) fun a2 c2 w2 hH2=>?_;refine Iq (hH2.nilRow 172 1) [.int .i64 c,.slice (some ⟨a1,0,none⟩) 0 c1,.slice (some ⟨a2,0,none⟩) 0 c2,.slice none 0 0,.int .i64 0,.slice none 0 0,.bool false,.int .i64 0] ?_;refine Qs ?_;refine ⟨rfl,fun g w3 hH3=>?_⟩;apply hK;clear hK;refine Ae (Bp rfl rfl rfl ⟨⟨g,c,some ⟨a1,0,none⟩,[],c1,some ⟨a2,0,none⟩,[],c2,none,[],0,0⟩,rfl,⟨h1,h2,by simp,by simp,by simp,by simp,by simp,by simp⟩,rfl,rfl,?_⟩);exact ((hH3.front 1 rfl).front 2 rfl).front 3 rfl |>.front 3 rfl
theorem Qk7 (c:Int) (h1:31<=c) (h2:c<=4096) (w:World):Does Yd 10 #[.int .i64 c] w fun v w'=>∃ D:Dk,v=.tuple #[pV D.g,.int .i64 0]/\D.ok 100000000/\D.cap=c/\D.nl=[]/\Heap w [] w' (dL D):=by
 refine En [.int .i64 c] 8 Tryz.func10 ?_;refine VS [0] ?_;refine VQ [2,3] fun K hK=>?_;refine Aa Tryz.call28 ?_;refine Qs ?_;refine Ya (Qs6 c h1 h2 w) ?_;rintro v w2 ⟨D,rfl,hD,hc,hn,hH⟩;apply hK;clear hK;exact Ae (Bp rfl rfl rfl ⟨D,rfl,hD,hc,hn,hH⟩)
theorem Qxo {C:Kv}{e:Env}{w:World}{t u s:Tmp}{T:TypeId}{a:Addr}{x y:Value} (hr:C.fn.results=#[.tmp t,.tmp u,.cell s T]) (ht:e.find? t=some x) (hu:e.find? u=some y) (hs:e.find? s=some (.pointer (some a))) (h:Bf C.P T (.pointer (some a)) w fun v=>C.F (.tuple #[x,y,v]) w):VX C [] .ret e w:=by
 intro ac n ha;obtain ⟨v,hv,hrun⟩:=Tw h;refine ⟨ha.defers,.tuple #[x,y,v],?_,_,w,n,rfl,rfl,hv⟩;have h1:=ha.at_ t _ ht;rw [Array.getD_eq_getD_getElem?] at h1;have h3:=ha.at_ u _ hu;rw [Array.getD_eq_getD_getElem?] at h3;have h4:=ha.at_ s _ hs;rw [Array.getD_eq_getD_getElem?] at h4;have h2:=hrun (w.drewN n) (Ext.drewN w n);simp [results,hr,h1,h3,h4,asAddr,h2]
theorem Qug (a:Int):-200 < a.tmod 200/\a.tmod 200 < 200/\(0<=a->0<=a.tmod 200):=by
 rcases Int.le_total 0 a with h | h
 ·
  rw [Xw h];omega
 have h2:a.tmod 200=-((-a).tmod 200):=by rw [Int.neg_tmod];omega
 rw [h2,Xw (show 0<=-a by omega)];omega
abbrev pG (am:OA) (cm:Nat) (ml:List Df) (g6 g7:Nat):List Res:=[Ih am cm ml,D5 g7 am ml.length cm,D5 g6 none 0 0]
theorem Qur {w0 w:World}{V:Vt}{X Y:List Res} (h:Heap w0 [] w (dL V.d++(vH V++X))) (hs:Y.Sublist X):Heap w0 [] w (dL V.d++(vH V++Y)):=h.sub ((List.Sublist.refl _).append ((List.Sublist.refl _).append hs))
theorem Qo6 (w:World) (hT:Tb w) (cp:Int) (l:List Ac) (a:OA) (c:Nat) (hA:Acts w a l) (hl:l.length<=300) (hp:∀ x∈l,x.p.length<=200) (hto:∀ x∈l,I64 x.tz) :
  Does Yd 6 #[.int .i64 cp,.slice a l.length c] w fun v w'=>∃ (V:Vt) (am:OA) (n cm:Nat),v=.tuple #[pV V.d.g,pV V.g,Ng am n cm]/\V.ok 10000000/\Heap w [] w' (dL V.d++(vH V++[])):=by
 refine En [.int .i64 cp,.slice a l.length c] 83 Tryz.func6 ?_;refine VQ [0,1,6] fun K hK=>?_;refine Dg (Yz w) [.slice none 0 0] fun g6 w1 hH1=>?_;refine Qs ?_;apply hK;clear hK;refine VQ [0,1,6,7] fun K hK=>?_;refine Dg hH1 [.slice none 0 0] fun g7 w2 hH2=>?_;refine Qs ?_;refine Ag ?_;refine Qs ?_;refine Ap hH2 0 (vs:=[.slice none 0 0]) rfl rfl (by kernel_rfl) (by simp) (by simp [Yc]) fun w3 hH3=>?_;have hH:Heap w [] w3 (pG none 0 [] g6 g7):=Us hH3 43 2;clear hH1 hH2 hH3;apply hK;clear hK;obtain ⟨b1,b2,_⟩:=Qug cp;refine VQ [1,6,7,8,9] fun K hK=>?_;generalize cp.tmod 200=r at *;obtain ⟨b3,b4,b5⟩:=Qug (r+200);replace b5:=b5 (by omega);refine ⟨by omega,Yr (by omega) (by omega),by omega,Yr (by omega) (by omega),?_⟩;generalize (r+200).tmod 200=z at *;refine Aa Tryz.call10 ?_;refine Qs ?_;refine Ya (Qk7 (31+z) (by omega) (by omega) w3) ?_;rintro v w4 ⟨D,rfl,hD,hDc,hDn,hA1⟩;have hH1:Heap w [] w4 (dL D++pG none 0 [] g6 g7):=hH.call0 hA1;clear hH hA1;apply hK;clear hK;refine VQ [1,6,7,8,9,10,11] fun K hK=>?_;refine Aa Tryz.call11 ?_;refine Qs ?_;refine Ya (Qh7 (k:=99999000) (hD.mono (by omega)) hDn (by omega) hH1) ?_;rintro v w5 ⟨V,rfl,hV,hVc,hVg,-,-,-,-,hH⟩;clear hH1;rw [<- hVg];apply hK;clear hK;refine VQ [1,6,7,8,10,39] fun K hK=>?_;refine ⟨fun _=>⟨fun _=>?_,fun h=>absurd trivial h⟩,fun h=>absurd trivial h⟩;apply hK;clear hK;refine Ai rfl rfl (fun h=>by simp at h) (fun h=>Ad ?_);refine VS [1,6,7,8,10,12] ?_;generalize hgv:V.g=gv;generalize hgd:V.d.g=gd;refine Aq ?_;refine Ay [1,6,7,8,10,12] (fun q e w'=>∃ (i:Nat) (V:Vt) (am:OA) (cm:Nat) (ml:List Df),Is e [(1,.slice a l.length c),(6,pV g6),(7,pV g7),(8,pV gd),(10,pV gv),(12,.int .i64 i)]/\Heap w [] w' (dL V.d++(vH V++pG am cm ml g6 g7))/\V.ok (99999000 - 10000 * i)/\V.g=gv/\V.d.g=gd/\ml.length<=i/\(∀ y∈ml,y.1.length<=1000)/\i<=l.length/\q=l.length - i) l.length ?_ ?_
 ·
  refine Qs ?_;exact ⟨0,V,none,0,[],rfl,hH,hV,hgv,hgd,by simp,by simp,by omega,rfl⟩
 clear hH hV hgv hgd hVc hVg V hD hDc hDn D b1 b2 b3 b4 b5;rintro q e w4 ⟨i,V,am,cm,ml,rfl,hH,hV,rfl,rfl,h1,h2,hi,rfl⟩;refine VS [1,6,7,8,10,12,44] ?_;(repeat refine Aw ?_);refine VD (fun h=>?_) (fun h=>?_)
 ·
  refine Ad ?_;refine VB ?_;obtain ⟨x,hx⟩:∃ x,l[i]? = some x:=⟨_,Yk (show i < l.length by omega)⟩;have hxm:=Yn hx;have hpx:=hp x hxm;have hAr:=hH.rs hA.r (by simp);obtain ⟨p,rfl⟩:=Qm2 hAr (by omega);have hrd:=Qtj Qm1 hAr hx;refine VQ [1,6,7,8,10,12,13] fun K hK=>?_;refine ⟨⟨by omega,by omega⟩,Ky x,⟨rfl,hrd⟩,?_⟩;refine Dg hH (Ky ⟨0,[],[],0,none,[],0,0,none,0,0,0⟩) fun ga w5 hH1=>?_;refine Qs ?_;refine Ag ?_;refine Qs ?_;refine Ap hH1 0 (vs:=Ky x) rfl rfl (by kernel_rfl) (by simp [Ky]) (QF0 x) fun w6 hH2=>?_;have hH3:Heap w [] w6 (dL V.d++(vH V++(Ye ga 41 (Ky x)::pG am cm ml g6 g7))):=R0 hH2;clear hH hH1 hH2 hrd hAr;apply hK;clear hK;refine VS [1,6,7,8,10,12,13,14] ?_;refine VQ [1,6,7,8,10,12,13,14,52] fun K hK=>?_;refine ⟨_,Af (hH3.at 6 rfl) (k:=0) rfl,?_⟩;apply hK;clear hK;refine Aq ?_;refine VS [1,6,7,8,10,12,13,14,52,53] ?_;refine Do [1,6,7,8,10,12,13,14] (fun e w'=>∃ (er:Int) (V2:Vt),Is e [(1,.slice (some p) l.length c),(6,pV g6),(7,pV g7),(8,pV V.d.g),(10,pV V.g),(12,.int .i64 i),(13,pV ga),(14,.int .i64 er)]/\Heap w [] w' (dL V2.d++(vH V2++(Ye ga 41 (Ky x)::pG am cm ml g6 g7)))/\V.nx V2 (99999000 - 10000 * (i+1))/\(er=0->x.kd=0∨x.kd=1∨x.kd=3)) ?_ ?_
  ·
   refine Ai rfl rfl (fun h3=>?_) (fun h3=>?_)
   ·
    simp only [decide_eq_true_eq] at h3;refine VQ [1,6,7,8,10,12,13,14] fun K hK=>?_;refine ⟨_,Af (hH3.at 6 rfl) (k:=1) rfl,_,Af (hH3.at 6 rfl) (k:=2) rfl,?_⟩;refine Aa Tryz.call12 ?_;refine Qs ?_;refine Ya (Qel (k:=99999000 - 10000 * (i+1)) hT (hV.mono (by omega)) x.p x.c (by omega) hH3) ?_;rintro v w7 ⟨e,V2,rfl,hn,hH4,-⟩;apply hK;clear hK;refine Ah ?_;refine Qs ?_;exact ⟨e,V2,rfl,hH4,hn,fun _=>.inl h3⟩
   simp only [decide_eq_false_iff_not] at h3;refine VS [1,6,7,8,10,12,13,14,52,61] ?_;refine Ai rfl rfl (fun h4=>?_) (fun h4=>?_)
   ·
    simp only [decide_eq_true_eq] at h4;refine VQ [1,6,7,8,10,12,13,14] fun K hK=>?_;refine ⟨_,Af (hH3.at 6 rfl) (k:=1) rfl,?_⟩;refine Aa Tryz.call13 ?_;refine Qs ?_;refine Ya (Qk6 (k:=99999000 - 10000 * (i+1)) (hV.mono (by omega)) x.p (by omega) hH3) ?_;rintro v w7 ⟨e,V2,rfl,hn,hH4,-⟩;apply hK;clear hK;refine Ah ?_;refine Qs ?_;exact ⟨e,V2,rfl,hH4,hn,fun _=>.inr (.inl h4)⟩
   simp only [decide_eq_false_iff_not] at h4;refine VS [1,6,7,8,10,12,13,14,67] ?_;refine Ai rfl rfl (fun h5=>?_) (fun h5=>?_)
   ·
    simp only [decide_eq_true_eq] at h5;refine VQ [1,6,7,8,10,12,13,14] fun K hK=>?_;refine ⟨_,Af (hH3.at 6 rfl) (k:=1) rfl,_,Af (hH3.at 6 rfl) (k:=3) rfl,?_⟩;refine Aa Tryz.call18 ?_;refine Qs ?_;refine Ya (Qco (k:=99999000 - 10000 * (i+1)) (hV.mono (by omega)) x.p x.tz (by omega) (hto x hxm) hH3) ?_;rintro v w7 ⟨e,V2,rfl,hn,hH4,-,-⟩;apply hK;clear hK;refine Ah ?_;refine Qs ?_;exact ⟨e,V2,rfl,hH4,hn,fun _=>.inr (.inr h5)⟩
   refine Ad ?_;refine Ah ?_;refine Qs ?_;exact ⟨240,V,rfl,hH3,⟨hV.mono (by omega),rfl,rfl,rfl,Yx _⟩,fun h=>by omega⟩
  clear hH3;rintro e w5 ⟨er,V2,rfl,hH,hn,hk⟩;rw [<- hn.g,<- hn.dg];refine An ?_;refine VS [1,6,7,8,10,12,13,76] ?_;refine Ai rfl rfl (fun h3=>?_) (fun h3=>Ad ?_)
  ·
   simp only [decide_eq_true_eq] at h3;have hrow:=hH.at 7 rfl;refine VQ [1,6,7,8,10,12] fun K hK=>?_;refine ⟨[.slice am ml.length cm],⟨rfl,Bu (hH.at 8 rfl)⟩,Ky x,⟨rfl,Bu (hH.at 6 rfl)⟩,?_⟩;refine Aa Tryz.call19 ?_;refine Qs ?_;refine Ya (Qxn x (hk h3) ml am cm w5 hrow (by omega) (by omega) h2) ?_;rintro v w6 ⟨a',c',l',rfl,k1,k2,hG⟩
   have hH2:Heap w [] w6 (dL V2.d++(vH V2++[Ih a' c' l',D5 g7 am ml.length cm,D5 g6 none 0 0])):=by
    rcases hG with hG | ⟨rfl,rfl,rfl,hG⟩
    ·
     exact Qur (Pw hH hG) (.cons_cons _ (.cons _ (.cons _ (.refl _))))
    exact Qur (hH.call0 hG) (.cons _ (.refl _))
   refine Ag ?_;refine Qs ?_;refine Ap hH2 7 (vs:=[.slice a' l'.length c']) rfl rfl (by kernel_rfl) (by simp) (by simp [Yc]) fun w7 hH3=>?_;apply hK;clear hK;refine An ?_;refine VS [1,6,7,8,10,12] ?_;refine Ah ?_;refine Qs ?_;exact ⟨l.length - (i+1),by omega,i+1,V2,a',c',l',rfl,hH3,hn.ok,rfl,rfl,by omega,k2,by omega,rfl⟩
  refine An ?_;refine VS [1,6,7,8,10,12] ?_;refine Ah ?_;refine Qs ?_;exact ⟨l.length - (i+1),by omega,i+1,V2,am,cm,ml,rfl,Qur hH (.cons _ (.refl _)),hn.ok,rfl,rfl,by omega,h2,by omega,rfl⟩
 refine Ax rfl ?_;refine Vb [4,5,6] [(0,0),(1,0),(3,0),(4,0),(2,2),(5,2)] fun K hK=>?_;refine ⟨[.slice am ml.length cm],⟨rfl,Bu (hH.at 7 rfl)⟩,?_⟩;refine Ag ?_;refine Qs ?_;refine Ap hH 8 (vs:=[.slice am ml.length cm]) rfl rfl (by kernel_rfl) (by simp) (by simp [Yc]) fun w7 hH3=>?_;apply hK;clear hK;refine Ae (Qxo rfl rfl rfl rfl ?_);refine Qs ?_;exact ⟨[.slice am ml.length cm],⟨rfl,Bu (hH3.at 8 rfl)⟩,V,am,ml.length,cm,rfl,hV.mono (by omega),Qur hH3 (Yi _)⟩
end Go.Proofs.YtfinjnahapbemaaGreatDoor
