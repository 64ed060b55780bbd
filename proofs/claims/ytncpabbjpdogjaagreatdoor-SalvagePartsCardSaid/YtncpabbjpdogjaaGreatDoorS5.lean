/- A program logic over the model, and what this program's functions do by it: part 5. No conditions: a library of lemmas. -/
import Derived.Test.YtncpabbjpdogjaaGreatDoorS4
import Derived.Shelf.SlSortCmp.WholeK
import Derived.Test.YtncpabbjpdogjaaGreatDoorChecked
open Nat (reduceEqDiff)
set_option linter.unusedSimpArgs false
set_option linter.unusedVariables false
set_option maxRecDepth 100000
open List renaming replicate->Ya,set_cons_zero->Yb,set_cons_succ->Yc,getElem?_eq_getElem->Yd,nil_append->Ye,range->Yf,getD_eq_getElem?_getD->Yg,length_append->Yh,append_nil->Yi,append_assoc->Yj,length_singleton->Yp,singleton_append->Yq,sublist_cons_self->Yt,take_succ_cons->Yu,take_zero->Yv,drop_succ_cons->Yw,mem_of_getElem?->Yx,length_replicate->Y0,take_of_length_le->Y1,drop_zero->Y2,length_take->Y6,drop_of_length_le->Y7,cons_append->Y8,replicate_succ->Y9,mem_map->Xd,set_append_right->Xf,getElem?_eq_none->Xg,length_cons->Xh,map_append->Xj,replicate_zero->Xk,getElem_mem->Xl,getElem?_append_right->Xm,getElem?_zipWith->Xo,replicate_append_replicate->Xr,getElem?_range->Xs,mem_singleton->Xv,range_succ->Xw,ext_getElem?->Xx,getElem?_set->Xy,getElem?_map->Xz,reverse_perm->X0,map_congr_left->X2,length_map->X3,mem_append->X4,getElem?_replicate->X6,length_range->X7,replicate_succ'->Ub,length_nil->Uc,perm_append_singleton->Uf,getElem?_append_left->Uh,pairwise_iff_getElem->Ui,length->Uj,flatten_cons->Uk,pairwise_map->Un,idxOf_lt_length_iff->Uo,length_drop->Up,length_set->Us,take_append_drop->Ut,set_append_left->Uu,count_le_length->Ux,zipWith_append->Uy,take_add_one->U3,map_map->U5,count_append->U7
open Go.Eng.CallK renaming mk->Yk
open Go.Value renaming oneCell'->Yl,int->Y5,cells->Xi,agg->Xp,slice->Xq,string->X8
open Go.Proofs.Tryz renaming underlying114->Ym,prog->Ys,underlying233->Xc,underlying118->Xu,call33->X5,underlying71->X9,underlying72->Um,call120->Uq,call104->U1,call106->U2,call32->U9,call36->Ga,call37->Gb,call69->Gd
open Go.Eng.Res renaming blk->Yn,row->Yr,bag->Ge
open Go.Obj renaming cells->Yo
open Nat renaming pow_le_pow_right->Yy,le_refl->Y4,sub_self->Xb,xor_lt_two_pow->Xn,testBit_two_pow->X1,zero_add->Ua,lt_or_ge->Ud,mod_lt->Ug,or_lt_two_pow->Ul,lt_of_lt_of_le->U0,sub_zero->U4,mul_comm->U6,mul_one->U8
open Int renaming toNat_natCast->Yz,toNat->Ue,one_mul->Uw
open Go.Eng.Heap renaming start->Y3,bag->Uv
open Go.IntKind renaming u32->Xa,i64->Xe,bits->Ur
open Go.Eng.I64 renaming mk->Xt
open Bool renaming or_false->Uz
namespace Go.Proofs.YtncpabbjpdogjaaGreatDoor
open Go Go.Eng
theorem L5 (n:Nat):Ag (Ya n 0)=Ya n (.int .i64 0):=by simp [Ag]
theorem Qty {n:Nat} (h:0 < n):Ya n (0:Nat)=[0]++Ya (n - 1) 0:=by
 obtain ⟨m,rfl⟩:∃ m,n=m+1:=⟨n - 1,by omega⟩;rfl
abbrev QJj (gT:Nat):Value:=.func (.func 201) #[] #[.pointer (some ⟨gT,0,none⟩)]
theorem Qr1 (l:List Nat) (hl:2<=l.length) (hl2:l.length<=258) (hx:∀ x∈l,1<=x/\x<=2147483648) (pa:Option Addr) (lc:Nat) (w:World) (hr:RS w pa l.length 1 (Ag l)) :
  Does Ys 176 #[.slice pa l.length lc] w fun v w'=>∃ a cap,Heap w [] w' [Yr 3 1 a (Ix l).length cap (Ag (Ix l))]/\v=.slice a (Ix l).length cap:=by
 obtain ⟨p,rfl⟩:=Dt hr (by omega);have hget:∀ i,i < l.length->1<=l.getD i 0/\l.getD i 0<=2147483648:=fun i hi=>hx _ (Dr 0 hi)
 have htot:Be (fun i=>l.getD i 0) l.length<=1099511627776:=by
  have:=Qho (fun i=>l.getD i 0) 2147483648 l.length fun i hi=>(hget i hi).2;omega
 refine En [.slice (some p) l.length lc] 90 Tryz.func176 ?_;generalize hn:l.length=n at *;refine VS [0] ?_;refine VQ [0,3] fun K hK=>?_;refine A6 (.slice none 0 0) (by kernel_rfl) ?_;refine Qs ?_;have hH0:=((Y3 w).box 233 [.slice none 0 0]).nilRow 235 2;generalize w.alloc (Yo [Xq none 0 0].toArray 233)=w1 at *;generalize w.heap.size=gT at *;apply hK;clear hK;refine VS [0,3,14,15,16] ?_;refine Ar ?_;refine Au [0,3,14,15,16] (fun m e w'=>∃ (i cap:Nat) (a:Option Addr),Is e [(0,.slice (some p) n lc),(3,.pointer (some ⟨gT,0,none⟩)),(14,.slice (some p) n lc),(15,.int .i64 n),(16,.int .i64 i)]/\Heap w [] w' [Yr 235 2 a i cap (F7 ((Yf i).map fun i=>(((l.getD i 0:Nat):Int),i))),Yn gT 233 [.slice a i cap]]/\i<=n/\m=n - i) n ?_ ?_
 ·
  refine Qs ?_;exact ⟨0,0,none,rfl,hH0,by omega,rfl⟩
 clear hH0;rintro m e w2 ⟨i,cap,a,rfl,hH,hi,rfl⟩;refine VS [0,3,14,15,16,17] ?_;(repeat refine Ax ?_);refine VD (fun h=>?_) (fun h=>?_)
 ·
  have hcell:=Ek (hH.rs' hr) (i:=i) (by omega);have hsn:(Yf (i+1)).map (fun i=>(((l.getD i 0:Nat):Int),i))=(Yf i).map (fun i=>(((l.getD i 0:Nat):Int),i))++[(((l.getD i 0:Nat):Int),i)]:=by rw [Xw,Xj];rfl
  have hml:((Yf i).map (fun i=>(((l.getD i 0:Nat):Int),i))).length=i:=by simp
  generalize hL1:(Yf i).map (fun i=>(((l.getD i 0:Nat):Int),i))=L at *;generalize hxx:l.getD i 0=x at *;refine Ab ?_;refine VB ?_;refine VQ [0,3,4,5,14,15,16] fun K hK=>?_;refine ⟨⟨by omega,by omega⟩,_,hcell,?_⟩;apply hK;clear hK;refine VQ [0,3,14,15,16] fun K hK=>?_;refine ⟨_,Aj (hH.at 1 rfl) rfl,?_⟩;refine E4 hH 2 (A3 ((x:Int),i)) (xs:=[.tmp 24]) Xc QAt rfl rfl rfl (by omega) (by omega) ?_;refine Qs ?_;refine ⟨rfl,by simp [Xi],fun g w4 hH2=>?_⟩;refine Cl ?_;refine Qs ?_;refine Ew (zs:=#[.int .i64 0,.int .i64 0]) (bytes:=16) hH2 1 rfl Xc (by kernel_rfl) rfl ⟨rfl,Az (hH2.at 0 rfl),235,Xc⟩ (L8 _) (fun h=>by omega) fun a' cap' w5 hc' hH3=>?_;simp only [Yc,Yb] at hH3;refine Af ?_;refine Qs ?_;refine Al hH3 2 (vs:=[.slice a' (i+1) cap']) rfl rfl (by kernel_rfl) (by simp) (by simp [Yl]) fun w6 hH4=>?_
  have hH5:Heap w [] w6 [Yr 235 2 a' (i+1) cap' (F7 (L++[((x:Int),i)])),Yn gT 233 [.slice a' (i+1) cap']]:=by
   rw [F7,Tl,Qi7];exact (hH4.sub (Yt _ _))
  apply hK;clear hK;refine Ao ?_;refine VS [0,3,14,15,16] ?_;refine Ah ?_;refine Qs ?_;exact ⟨n - (i+1),by omega,i+1,cap',a',rfl,by rw [hsn];exact hH5,by omega,rfl⟩
 obtain rfl:i=n:=by omega
 obtain ⟨g,rfl⟩:=Ir (hH.at 0 rfl) (by omega);have hroots:=Qny l;rw [hn] at hroots;rw [<- hroots] at hH;have hrl:(F8 l (Ya i 0)).length=i:=by rw [hroots];simp
 clear hroots;generalize hT0:F8 l (Ya i 0)=T0 at *
 have hH1:Heap w [] w2 [Dz g cap T0,Mk gT g cap T0]:=by
  unfold Dz Mk;rw [hrl];exact hH
 clear hH;refine As rfl ?_;generalize i=n at *;refine VQ [0,3,6] fun K hK=>?_;refine ⟨Xt (by omega) (by omega),?_⟩;refine Ev Ym E2 ?_;refine Qs ?_;refine ⟨2 * n,2 * n,⟨by push_cast;rfl,by push_cast;rfl,by omega,by omega,by omega⟩,?_⟩;have hH2:=hH1.row 3 (n:=2 * n) (cap:=2 * n) (sz:=1) (Ag (Ya (2 * n) 0)) [] (by simp [Bj]) (by simp [Bj]) (by omega) (by omega);rw [Yi,L5] at hH2;generalize w2.alloc (Yo (Ya (2 * n) (Y5 Xe 0)).toArray 3)=w3 at *;generalize w2.heap.size=go at *;rw [<- L5] at hH2;clear hH1;apply hK;clear hK;refine VS [0,3,6,7] ?_;refine VS [0,3,6,7,8] ?_;refine VB ?_;refine Au [0,3,6,7,8] (fun m e w'=>∃ (k cap g:Nat) (ws ov:List Nat) (hh:Nat->Nat) (T:List Tr),Is e [(0,.slice (some p) n lc),(3,.pointer (some ⟨gT,0,none⟩)),(6,.slice (some ⟨go,0,none⟩) (2 * n) (2 * n)),(7,.int .i64 (n+k:Nat)),(8,QJj gT)]/\Heap w [] w' [Dz g cap T,Mk gT g cap T,Yr 3 1 (some ⟨go,0,none⟩) (2 * n) (2 * n) (Ag (ov++Ya (n - k) 0))]/\O8 k (l,Ya n 0)=(ws,ov)/\Grown l k ws ov hh/\T.Perm (F8 ws ov)/\k+1<=n/\m=n - k) n ?_ ?_
 ·
  refine Qs ?_;have hg:=Grown.start l (by omega) (fun i hi=>(hget i (by omega)).1);rw [hn] at hg;refine ⟨0,cap,g,l,Ya n 0,_,T0,rfl,?_,rfl,hg,by rw [hT0],by omega,rfl⟩;have e:Ya n 0++Ya (n - 0) 0=Ya (2 * n) (0:Nat):=by rw [Xr];congr 1;omega
  rw [e];exact hH2.perm ((List.perm_append_comm (l₁:=[_])))
 clear hH2 hT0 hrl;rintro m e w4 ⟨k,cap,g,ws,ov,hh,T,rfl,hH,hgr,hg,hp,hk,rfl⟩
 have hTl:T.length+k=n:=by
  have h1:=hg.roots;rw [hp.length_eq,Qv7,hg.lws,hn];rw [hn] at h1;exact h1
 have hTok:∀ t∈T,I3 t:=fun t ht=>by
  obtain ⟨h1,h2,h3⟩:=Qd0.1 (hp.mem_iff.1 ht);have h4:=Zv (fun i=>if ov.getD i 0=0 then ws.getD i 0 else 0) (l.length+k) t.2 (by have:=hg.lws;omega);simp only [if_pos h2] at h4;rw [hg.weight,hn] at h4;have:=hg.lws;unfold I3;omega
 refine VQ [0,3,6,7,8,37] fun K hK=>?_;refine ⟨_,Aj (hH.at 1 rfl) rfl,?_⟩;refine Qs ?_;apply hK;clear hK;refine VD (fun h=>?_) (fun h=>?_)
 ·
  have hk2:k+1 < n:=by omega
  have hpick:=hg.pick (by omega);obtain ⟨hla,hlb,hne,hbf⟩:=hpick;have hlw:=hg.lws;have hlo:=hg.lov;rw [hn] at hlw hlo;refine Ab ?_;refine Ar ?_;refine VQ [0,3,6,7,8,9,10] fun K hK=>?_;refine Cc ?_;refine Qs ?_;refine FnK.mk Tryz.call201 (Qg4 T (by omega) (by omega) hTok gT g cap w w4 [] _ hH) ?_;rintro v w5 ⟨ta,Ta,hpa,hma,hH2,rfl⟩;have hta:=Qer (hp.mem_iff.1 (hpa.mem_iff.2 (by simp))) (fun x hx'=>hma x (hp.mem_iff.2 hx'));have hta2:ta.2=Fe ws ov:=hta.1.unique hla;have htaE:ta=(((ws.getD (Fe ws ov) 0:Nat):Int),Fe ws ov):=(Qcl _ _).2 ⟨by rw [hta.2,hta2],hta2⟩;have hTaok:∀ t∈Ta,I3 t:=fun t ht=>hTok t (hpa.mem_iff.2 (by simp [ht]));have hTal:Ta.length+1=T.length:=by have:=hpa.length_eq;simp at this;omega
  have hcut:=Qju (v:=ws.length) hla.lt (by omega) hla.free (by omega);rw [<- htaE] at hcut;have hpTa:Ta.Perm (F8 ws (ov.set (Fe ws ov) ws.length)):=((hpa.symm.trans hp).trans hcut).cons_inv;clear hH;refine Cc ?_;refine Qs ?_;refine FnK.mk Tryz.call201 (Qg4 Ta (by omega) (by omega) hTaok gT g cap w w5 [] _ hH2) ?_;rintro v w6 ⟨tb,Tb,hpb,hmb,hH3,rfl⟩;have htb:=Qer (hpTa.mem_iff.1 (hpb.mem_iff.2 (by simp))) (fun x hx'=>hmb x (hpTa.mem_iff.2 hx'));have htb2:tb.2=Fe ws (ov.set (Fe ws ov) ws.length):=htb.1.unique hlb;have htbE:tb=(((ws.getD tb.2 0:Nat):Int),tb.2):=(Qcl _ _).2 ⟨htb.2,rfl⟩;rw [<- htb2] at hlb hne hbf;have hTbok:∀ t∈Tb,I3 t:=fun t ht=>hTaok t (hpb.mem_iff.2 (by simp [ht]));have hTbl:Tb.length+1=Ta.length:=by have:=hpb.length_eq;simp at this;omega
  rw [<- hta2] at hla hlb hne hpTa;have hl1:(ov.set ta.2 ws.length).length=ws.length:=by simp;omega
  have hcut2:=Qju (v:=ws.length) hlb.lt hl1 hlb.free (by omega);rw [<- htbE] at hcut2;have hpTb:Tb.Perm (F8 ws ((ov.set ta.2 ws.length).set tb.2 ws.length)):=((hpb.symm.trans hpTa).trans hcut2).cons_inv;have hoka:=hTok ta (hpa.mem_iff.2 (by simp));have hokb:=hTaok tb (hpb.mem_iff.2 (by simp))
  have hstep:O8 (k+1) (l,Ya n 0)=(ws++[ws.getD ta.2 0+ws.getD tb.2 0],(ov.set ta.2 ws.length).set tb.2 ws.length++[0]):=by
   rw [O8,hgr,Rc];simp only;rw [<- htb2,<- hta2]
  obtain ⟨h',hg'⟩:=hg.step (by omega)
  have hgs:Rc (ws,ov)=(ws++[ws.getD ta.2 0+ws.getD tb.2 0],(ov.set ta.2 ws.length).set tb.2 ws.length++[0]):=by
   rw [Rc];simp only;rw [<- htb2,<- hta2]
  rw [hgs] at hg';simp only at hg';have ha1:=hla.lt;have hb1:=hlb.lt;have hwa:=hta.2;have hwb:=htb.2;clear hH2 hgs hcut hcut2 hta htb htaE htbE hma hmb;generalize hA:ta.2=A at *;generalize hB:tb.2=Bn at *;refine A6 (.agg #[.int .i64 0,.int .i64 0]) (by kernel_rfl) ?_;refine Qs ?_;have hH4:=hH3.box 235 [.int .i64 0,.int .i64 0];generalize w6.alloc (Yo [Y5 .i64 0,.int .i64 0].toArray 235)=w7 at *;generalize w6.heap.size=ga at *;refine A6 (.agg #[.int .i64 0,.int .i64 0]) (by kernel_rfl) ?_;refine Qs ?_;have hH5:=hH4.box 235 [.int .i64 0,.int .i64 0];generalize w7.alloc (Yo [Y5 .i64 0,.int .i64 0].toArray 235)=w8 at *;generalize w7.heap.size=gb at *;refine Af ?_;refine Qs ?_;refine Al hH5 1 (vs:=A3 ta) rfl rfl (by kernel_rfl) (by simp [A3]) (L8 _) fun w9 hH6=>?_;refine Af ?_;refine Qs ?_;refine Al hH6 0 (vs:=A3 tb) rfl rfl (by kernel_rfl) (by simp [A3]) (L8 _) fun w10 hH7=>?_;have hH7:Heap w [] w10 [Yn gb 235 (A3 tb),Yn ga 235 (A3 ta),Dz g cap Tb,Mk gT g cap Tb,Yr 3 1 (some ⟨go,0,none⟩) (2 * n) (2 * n) (Ag (ov++Ya (n - k) 0))]:=hH7;clear hH3 hH4 hH5 hH6;apply hK;clear hK;have ca1:(A3 ta)[1]? = some (.int .i64 (A:Nat)):=by rw [<- hA];rfl
  have cb1:(A3 tb)[1]? = some (.int .i64 (Bn:Nat)):=by rw [<- hB];rfl
  have hol:(ov++Ya (n - k) 0).length=2 * n:=by simp;omega
  have hF:=hH7.focus 4 rfl;have hla1:=hH7.hole_at 4 1 rfl rfl (by omega) ca1;have hlb1:=hH7.hole_at 4 0 rfl rfl (by omega) cb1;refine VH (holes [go] w10) (Ext.hole _ _) [0,3,6,7,8,9,10] [(0,true),(1,true),(2,true),(3,true),(4,true),(5,true),(6,true),(7,true),(8,true),(9,false),(10,true),(11,false)] fun K hK=>?_;refine ⟨_,hla1,_,hlb1,?_⟩;refine Qs ?_;refine Qp ?_;refine Af ?_;refine Qs ?_;refine Ej hF 0 (o:=(A)) (vs:=[.int .i64 (n+k:Nat)]) rfl (by first | exact (B0 _ _ _).symm | rfl | simp [B0]) rfl (by kernel_rfl) (by first | omega | (simp;done) | (simp;omega) | (simp [An,Bb];omega) | (rw [Bj];simp;omega)) (by simp [Yl]) fun w6 hH8=>?_;(try refine Qs ?_);simp only [Yp,Di (Ag (ov++Ya (n - k) 0)) _ _ (show A < (Ag (ov++Ya (n - k) 0)).length by rw [Bj,hol];omega),Ip,Yb,Yc] at hH8;refine ⟨hH8.upd.extH,⟨by omega,by omega⟩,?_⟩;refine Af ?_;refine Qs ?_;refine Ej hH8 0 (o:=(Bn)) (vs:=[.int .i64 (n+k:Nat)]) rfl (by first | exact (B0 _ _ _).symm | rfl | simp [B0]) rfl (by kernel_rfl) (by first | omega | (simp;done) | (simp;omega) | (simp [An,Bb];omega) | (rw [Bj];simp;omega)) (by simp [Yl]) fun w6 hH9=>?_;(try refine Qs ?_);simp only [Yp,Di (Ag ((ov++Ya (n - k) 0).set A (n+k))) _ _ (show Bn < (Ag ((ov++Ya (n - k) 0).set A (n+k))).length by rw [Bj,Us,hol];omega),Ip,Yb,Yc] at hH9;refine ⟨hH9.upd.extH,?_⟩;apply hK;clear hK;have hH9:=hH7.call1 4 rfl hH9;simp only [Yb,Yc,Ye] at hH9;clear hF hla1 hlb1
  have hrow:((ov++Ya (n - k) 0).set A (n+k)).set Bn (n+k)=((ov.set A ws.length).set Bn ws.length++[0])++Ya (n - (k+1)) 0:=by
   rw [Uu _ _ (by omega),Uu _ _ (by rw [Us];omega),hlw,Qty (show 0 < n - k by omega),Yj,show n - k - 1=n - (k+1) by omega]
  rw [hrow] at hH9;have hH10:Heap w [] w6 [Yn gb 235 (A3 tb),Yn ga 235 (A3 ta),Dz g cap Tb,Mk gT g cap Tb,Yr 3 1 (some ⟨go,0,none⟩) (2 * n) (2 * n) (Ag (((ov.set A ws.length).set Bn ws.length++[0])++Ya (n - (k+1)) 0))]:=hH9;have hso:=Qr0 (ws:=ws) (ov:=(ov.set A ws.length).set Bn ws.length) (ws.getD A 0+ws.getD Bn 0) (by simp;omega);clear hH7 hH8 hH9 hrow hol ca1 cb1;generalize (ov.set A ws.length).set Bn ws.length++[0]=ov' at *;generalize hwx:ws.getD A 0+ws.getD Bn 0=wx at *
  have hpf:(Tb++[(((wx:Nat):Int),n+k)]).Perm (F8 (ws++[wx]) ov'):=by
   rw [hso,hlw];rw [hlw] at hpTb;exact hpTb.append_right _
  clear hso hpTb;have hoka':=hoka;have hokb':=hokb;unfold I3 at hoka' hokb';have hsum:ta.1+tb.1=((wx:Nat):Int):=by rw [hwa,hwb,<- hwx];push_cast;rfl
  have ca0:(A3 ta)[0]? = some (.int .i64 ta.1):=rfl;have cb0:(A3 tb)[0]? = some (.int .i64 tb.1):=rfl;refine VQ [0,3,6,7,8] fun K hK=>?_;refine ⟨_,Aj (hH10.at 3 rfl) rfl,_,Aj (hH10.at 1 rfl) ca0,_,Aj (hH10.at 0 rfl) cb0,?_⟩;refine Qs ?_;refine ⟨Xt (by omega) (by omega),?_⟩;rw [hsum];refine E4 hH10 2 (A3 ((wx:Int),n+k)) (xs:=[.tmp 59]) Xc QAt rfl rfl rfl (by omega) (by omega) ?_;refine Qs ?_;refine ⟨rfl,by simp [Xi],fun g2 w11 hH11=>?_⟩;refine Cl ?_;refine Qs ?_;refine Ew (zs:=#[.int .i64 0,.int .i64 0]) (bytes:=16) hH11 3 rfl Xc (by kernel_rfl) rfl ⟨rfl,Az (hH11.at 0 rfl),235,Xc⟩ (L8 _) (fun h=>by omega) fun a' cap' w12 hc' hH12=>?_;simp only [Yc,Yb] at hH12;obtain ⟨g',rfl⟩:=Ir (hH12.at 3 rfl) (by omega);refine Af ?_;refine Qs ?_;refine Al hH12 4 (vs:=[.slice (some ⟨g',0,none⟩) (Tb.length+1) cap']) rfl rfl (by kernel_rfl) (by simp) (by simp [Yl]) fun w13 hH13=>?_
  have hH14:Heap w [] w13 [Dz g' cap' (Tb++[((wx:Int),n+k)]),Mk gT g' cap' (Tb++[((wx:Int),n+k)]),Yr 3 1 (some ⟨go,0,none⟩) (2 * n) (2 * n) (Ag (ov'++Ya (n - (k+1)) 0))]:=by
   rw [Dz,Mk,F7,Tl,Qi7,Yh,Yp];exact hH13.sub (((Yt _ _).trans (Yt _ _)).trans (Yt _ _))
  apply hK;clear hK;refine VS [0,3,6,7,8] ?_;refine Ao ?_;refine Ah ?_;refine Qs ?_;exact ⟨n - (k+1),by omega,k+1,cap',g',_,_,h',_,rfl,hH14,hstep,hg',hpf,by omega,rfl⟩
 obtain rfl:n=k+1:=by omega
 have hover:Qt l=ov:=by rw [Qt,hn,Nat.add_sub_cancel,hgr]
 have hgrS:Ix l=(Yf (k+1)).map fun i=>Cb ov (2 * (k+1)) i:=by rw [Ix,hover,hn]
 have hdl:∀ f i,Cb ov f i<=f:=fun f=>by
  induction f with
  | zero=>intro i;simp [Cb]
  | succ f ih=>intro i;rw [Cb];split;omega;have:=ih (ov.getD i 0);omega
 have hlo:=hg.lov;rw [hn] at hlo;have hup:=hg.up;rw [hn] at hup;have hdep:∀ i,i < k+1+k->ov.getD i 0≠0->Cb ov (2 * (k+1)) i=Cb ov (2 * (k+1)) (ov.getD i 0)+1:=fun i hi h0=>hg.dep _ (by omega) (by omega) h0
 have hd0:∀ i,ov.getD i 0=0->Cb ov (2 * (k+1)) i=0:=fun i h0=>by
  rw [show 2 * (k+1)=(2 * k+1)+1 by omega,Cb,if_pos h0]
 rw [hgrS]
 have hH1:Heap w [] w4 [Yr 3 1 (some ⟨go,0,none⟩) (2 * (k+1)) (2 * (k+1)) (Ag (ov++[0]))]:=by
  have e:k+1 - k=1:=by omega
  rw [e] at hH;exact hH.sub ((Yt _ _).trans (Yt _ _))
 clear hH hgrS hgr hg hp hTl hTok hover;have hog:∀ i,i < k+1+k->(ov++[0]).getD i 0=ov.getD i 0:=fun i hi=>Q1 (by omega);have hol:(ov++[0]).length=2 * (k+1):=by simp;omega
 refine As rfl ?_;refine VQ [0,6,11] fun K hK=>?_;refine Ev Ym E2 ?_;refine Qs ?_;refine ⟨k+1,k+1,⟨rfl,rfl,by omega,by omega,by omega⟩,?_⟩;have hH2:=hH1.row 3 (n:=k+1) (cap:=k+1) (sz:=1) (Ag (Ya (k+1) 0)) [] (by simp [Bj]) (by simp [Bj]) (by omega) (by omega);rw [Yi,L5] at hH2;generalize w4.alloc (Yo (Ya (k+1) (Y5 Xe 0)).toArray 3)=w5 at *;generalize w4.heap.size=gu at *;rw [<- L5] at hH2;clear hH1;apply hK;clear hK;refine VS [6,11,68,69] ?_;refine Ar ?_;refine Au [6,11,68,69] (fun m e w'=>∃ (i:Nat),Is e [(6,.slice (some ⟨go,0,none⟩) (2 * (k+1)) (2 * (k+1))),(11,.slice (some ⟨gu,0,none⟩) (k+1) (k+1)),(68,.int .i64 (k+1:Nat)),(69,.int .i64 i)]/\Heap w [] w' [Yr 3 1 (some ⟨gu,0,none⟩) (k+1) (k+1) (Ag ((Yf i).map (fun i=>Cb ov (2 * (k+1)) i)++Ya (k+1 - i) 0)),Yr 3 1 (some ⟨go,0,none⟩) (2 * (k+1)) (2 * (k+1)) (Ag (ov++[0]))]/\i<=k+1/\m=k+1 - i) (k+1) ?_ ?_
 ·
  refine Qs ?_;exact ⟨0,rfl,by simpa using hH2,by omega,rfl⟩
 clear hH2;rintro m e w6 ⟨i,rfl,hH,hi,rfl⟩;refine VS [6,11,68,69,70] ?_;(repeat refine Ax ?_);refine VD (fun h=>?_) (fun h=>?_)
 ·
  have hsn:(Yf (i+1)).map (fun i=>Cb ov (2 * (k+1)) i)=(Yf i).map (fun i=>Cb ov (2 * (k+1)) i)++[Cb ov (2 * (k+1)) i]:=by rw [Xw,Xj];rfl
  have hml:((Yf i).map (fun i=>Cb ov (2 * (k+1)) i)).length=i:=by simp
  have hdi:=hdl (2 * (k+1)) i;generalize (Yf i).map (fun i=>Cb ov (2 * (k+1)) i)=Dn at *;rw [Qty (show 0 < k+1 - i by omega),Yq] at hH;refine Ab ?_;refine VB ?_;refine VS [6,11,12,68,69] ?_;refine VS [6,11,12,13,68,69] ?_;refine Ar ?_;refine Au [6,11,12,13,68,69] (fun m e w'=>∃ (c at_:Nat),Is e [(6,.slice (some ⟨go,0,none⟩) (2 * (k+1)) (2 * (k+1))),(11,.slice (some ⟨gu,0,none⟩) (k+1) (k+1)),(12,.int .i64 i),(13,.int .i64 at_),(68,.int .i64 (k+1:Nat)),(69,.int .i64 i)]/\Heap w [] w' [Yr 3 1 (some ⟨gu,0,none⟩) (k+1) (k+1) (Ag (Dn++c::Ya (k+1 - i - 1) 0)),Yr 3 1 (some ⟨go,0,none⟩) (2 * (k+1)) (2 * (k+1)) (Ag (ov++[0]))]/\at_ < k+1+k/\c+Cb ov (2 * (k+1)) at_=Cb ov (2 * (k+1)) i/\m=2 * (k+1) - at_) (2 * (k+1) - i) ?_ ?_
  ·
   refine Qs ?_;exact ⟨0,i,rfl,hH,by omega,by omega,rfl⟩
  clear hH;rintro m e w7 ⟨c,at_,rfl,hH,hat,hc,rfl⟩;have hov:=hup at_ hat
  have hcell:w7.cell? ⟨go,at_,none⟩=some (.int .i64 ((ov.getD at_ 0:Nat):Int)):=by
   rw [<- hog at_ hat];exact Cn (hH.at 1 rfl) (F3 (by omega))
  refine VQ [6,11,12,13,68,69,77] fun K hK=>?_;refine ⟨⟨by omega,by omega⟩,_,hcell,?_⟩;refine Qs ?_;apply hK;clear hK;refine VD (fun h=>?_) (fun h=>?_)
  ·
   have h0:ov.getD at_ 0≠0:=by omega
   have hda:=hdep at_ hat h0;have hlen:(Dn++c::Ya (k+1 - i - 1) 0).length=k+1:=by simp;omega
   have hgc:(Dn++c::Ya (k+1 - i - 1) 0).getD i 0=c:=by
    rw [Yg,Xm (by omega),hml,Xb];rfl
   have hsc:(Dn++c::Ya (k+1 - i - 1) 0).set i (c+1)=Dn++(c+1)::Ya (k+1 - i - 1) 0:=by
    rw [Xf _ _ (by omega),hml,Xb];rfl
   have hcu:w7.cell? ⟨gu,i,none⟩=some (.int .i64 ((c:Nat):Int)):=by
    have:=Cn (hH.at 0 rfl) (F3 (l:=Dn++c::Ya (k+1 - i - 1) 0) (i:=i) (by omega))
    rwa [hgc] at this
   refine Ab ?_;refine VB ?_;refine VQ [6,11,12,13,68,69] fun K hK=>?_;refine ⟨⟨by omega,by omega⟩,_,hcu,?_⟩;refine Qs ?_;refine ⟨Xt (by omega) (by omega),⟨by omega,by omega⟩,?_⟩;refine Af ?_;refine Qs ?_;refine Ej hH 0 (o:=(i)) (vs:=[.int .i64 (c+1:Nat)]) rfl (by first | exact (B0 _ _ _).symm | rfl | simp [B0]) rfl (by kernel_rfl) (by first | omega | (simp;done) | (simp;omega) | (simp [An,Bb];omega) | (rw [Bj];simp;omega)) (by simp [Yl]) fun w6 hH3=>?_;(try refine Qs ?_);simp only [Yp,Di (Ag (Dn++c::Ya (k+1 - i - 1) 0)) _ _ (show i < (Ag (Dn++c::Ya (k+1 - i - 1) 0)).length by rw [Bj,hlen];omega),Ip,Yb,hsc] at hH3;apply hK;clear hK;refine Ao ?_
   have hcell2:w6.cell? ⟨go,at_,none⟩=some (.int .i64 ((ov.getD at_ 0:Nat):Int)):=by
    rw [<- hog at_ hat];exact Cn (hH3.at 1 rfl) (F3 (by omega))
   refine VQ [6,11,12,13,68,69] fun K hK=>?_;refine ⟨⟨by omega,by omega⟩,_,hcell2,?_⟩;apply hK;clear hK;refine Ah ?_;refine Qs ?_;exact ⟨2 * (k+1) - ov.getD at_ 0,by omega,c+1,ov.getD at_ 0,rfl,hH3,by omega,by omega,rfl⟩
  have h0:ov.getD at_ 0=0:=by omega
  rw [hd0 at_ h0] at hc;refine As rfl ?_;refine Ao ?_;refine VS [6,11,68,69] ?_;refine Ah ?_;refine Qs ?_;refine ⟨k+1 - (i+1),by omega,i+1,rfl,?_,by omega,rfl⟩;rw [hsn,<- hc,Yj,Yq,Nat.add_zero,show k+1 - (i+1)=k+1 - i - 1 by omega];exact hH
 obtain rfl:i=k+1:=by omega
 refine As rfl ?_;refine VS [2] ?_;refine Ad (A2 rfl rfl ?_);have e:((Yf (k+1)).map fun i=>Cb ov (2 * (k+1)) i).length=k+1:=by simp
 rw [e];rw [Xb,Xk,Yi] at hH;exact ⟨_,_,hH.sub (by simp),rfl⟩
theorem Qpj (l:List Nat) (f:Nat->Nat) {i:Nat} (h:i < l.length):((l.take i).map f++l.drop i).set i (f (l.getD i 0))=(l.take (i+1)).map f++l.drop (i+1)/\((l.take i).map f++l.drop i).getD i 0=l.getD i 0/\((l.take i).map f++l.drop i).length=l.length:=by
 have h1:=Mq 0 h;have h2:=drop_getD 0 h;have h3:((l.take i).map f).length=i:=by rw [X3,Y6];omega
 refine ⟨?_,?_,?_⟩
 ·
  rw [h2,Xf _ _ (by omega),h3,Xb,Yb,h1,Xj,Yj];rfl
 ·
  rw [h2,Yg,Xm (by omega),h3,Xb];rfl
 rw [Yh,h3,Up];omega
theorem Qv8 (l:List Nat) (most:Nat) (hl:2<=l.length) (hl2:l.length<=258) (hx:∀ x∈l,x<=1073741824) (hm:12<=most) (hm2:most<=20) (pa:Option Addr) (lc:Nat) (w:World) (hr:RS w pa l.length 1 (Ag l)) :
  Does Ys 143 #[.slice pa l.length lc,.int .i64 most] w fun v w'=>∃ a cap,Heap w [] w' [Yr 3 1 a (I0 l most).length cap (Ag (I0 l most))]/\v=.tuple #[.slice a (I0 l most).length cap,.int .i64 0]:=by
 have hc1:=Qep l hl hl2 hx pa lc w hr;have hc2:=Qry l (by omega) (by omega) pa lc w hr;refine En [.slice pa l.length lc,.int .i64 most] 59 Tryz.func143 ?_;have hlS:I0 l most=Nl most 40 (l.map fun x=>max x 1):=rfl;generalize I0 l most=res at *;generalize hn:l.length=n at *;refine VS [0,1] ?_;refine VQ [0,1,22] fun K hK=>?_;refine Ac Tryz.call174 ?_;refine Qs ?_;refine Yk hc1 ?_;rintro v w2 ⟨rfl,rfl⟩;refine Qs ?_
 suffices out:∀ b:Bool,(b=true ↔ False)->K [(0,.slice pa n lc),(1,.int .i64 most),(22,.bool b)] w2 by
  (try (rw [Bool.not_true];refine Qs ?_));refine ⟨fun h=>out _ (by simp;omega),fun h=>absurd h (by omega)⟩
 intro b hb;apply hK;clear hK;refine Ae rfl rfl (fun h=>(hb.1 h).elim) (fun h=>Ab ?_);clear hb h;refine VQ [1,6] fun K hK=>?_;refine Ac Tryz.call175 ?_;refine Qs ?_;refine Yk hc2 ?_;rintro v w3 ⟨a,cap,hH,rfl⟩;apply hK;clear hK;obtain ⟨g,rfl⟩:=Ir (hH.at 0 rfl) (by omega);refine VS [1,6,25,26,27] ?_;refine Ar ?_;refine Au [1,6,25,26,27] (fun m e w'=>∃ (i:Nat),Is e [(1,.int .i64 most),(6,.slice (some ⟨g,0,none⟩) n cap),(25,.slice (some ⟨g,0,none⟩) n cap),(26,.int .i64 n),(27,.int .i64 i)]/\Heap w2 [] w' [Yr 3 1 (some ⟨g,0,none⟩) n cap (Ag ((l.take i).map (fun x=>max x 1)++l.drop i))]/\i<=n/\m=n - i) n ?_ ?_
 ·
  refine Qs ?_;exact ⟨0,rfl,by simpa using hH,by omega,rfl⟩
 clear hH;rintro m e w4 ⟨i,rfl,hH,hi,rfl⟩;refine VS [1,6,25,26,27,28] ?_;(repeat refine Ax ?_);refine VD (fun h=>?_) (fun h=>?_)
 ·
  obtain ⟨hs1,hs2,hs3⟩:=Qpj l (fun x=>max x 1) (i:=i) (by omega);have hxi:=hx _ (Dr 0 (l:=l) (i:=i) (by omega));have hcell:=Cn (hH.at 0 rfl) (F3 (l:=(l.take i).map (fun x=>max x 1)++l.drop i) (i:=i) (by omega));rw [hs2] at hcell;generalize l.getD i 0=x at *;refine Ab ?_;refine VB ?_;refine VQ [1,6,7,8,25,26,27] fun K hK=>?_;refine ⟨⟨by omega,by omega⟩,_,hcell,?_⟩;apply hK;clear hK;refine VQ [1,6,25,26,27] fun K hK=>?_;refine Qp ?_;rw [show max ((x:Nat):Int) 1=((max x 1:Nat):Int) by omega];refine Af ?_;refine Qs ?_;refine Ej hH 0 (o:=(i)) (vs:=[.int .i64 (max x 1:Nat)]) rfl (by first | exact (B0 _ _ _).symm | rfl | simp [B0]) rfl (by kernel_rfl) (by first | omega | (simp;done) | (simp;omega) | (simp [An,Bb];omega) | (rw [Bj];simp;omega)) (by simp [Yl]) fun w6 hH2=>?_;(try refine Qs ?_);simp only [Yp,Di (Ag ((l.take i).map (fun x=>max x 1)++l.drop i)) _ _ (show i < (Ag ((l.take i).map (fun x=>max x 1)++l.drop i)).length by rw [Bj,hs3];omega),Ip,Yb,hs1] at hH2;apply hK;clear hK;refine Ao ?_;refine VS [1,6,25,26,27] ?_;refine Ah ?_;refine Qs ?_;exact ⟨n - (i+1),by omega,i+1,rfl,hH2,by omega,rfl⟩
 obtain rfl:i=n:=by omega
 rw [Y1 (by omega),Y7 (by omega),Yi] at hH;refine As rfl ?_
 have hown1:∀ x∈l.map (fun x=>max x 1),1<=x/\x<=Pm 40/\x<=2147483648:=fun x hx'=>by
  obtain ⟨y,hy,rfl⟩:=Xd.1 hx';have:=hx y hy;have e:Pm 40=549755813890:=by decide
  omega
 have hownl:(l.map fun x=>max x 1).length=i:=by simp [hn]
 generalize l.map (fun x=>max x 1)=own0 at *;generalize i=n at *;clear hn hx hi h;refine Ar ?_;refine Au [1,6] (fun m e w'=>∃ (t:Nat) (own:List Nat),Is e [(1,.int .i64 most),(6,.slice (some ⟨g,0,none⟩) n cap)]/\Heap w2 [] w' [Yr 3 1 (some ⟨g,0,none⟩) n cap (Ag own)]/\own.length=n/\(∀ x∈own,1<=x/\x<=Pm t/\x<=2147483648)/\res=Nl most t own/\m=t) 40 ?_ ?_
 ·
  refine Qs ?_;exact ⟨40,own0,rfl,hH,hownl,hown1,hlS,rfl⟩
 clear hH hown1 hownl hlS;rintro m e w5 ⟨t,own,rfl,hH,hol,hob,hres,rfl⟩;have hgl:=Qah own;have hc3:=Qr1 own (by omega) (by omega) (fun x hx'=>⟨(hob x hx').1,(hob x hx').2.2⟩) (some ⟨g,0,none⟩) cap w5 (by rw [hol];exact Az (hH.at 0 rfl));rw [hol] at hc3 hgl;refine Ar ?_;refine VQ [1,6,9] fun K hK=>?_;refine Ac Tryz.call176 ?_;refine Qs ?_;refine Yk hc3 ?_;rintro v w6 ⟨a2,cap2,hHg,rfl⟩;have hH2:=hH.call0 hHg;clear hH hHg;simp only [Yq] at hH2;apply hK;clear hK;refine VQ [1,6,9,43] fun K hK=>?_;refine Ac Tryz.call177 ?_;refine Qs ?_;refine Yk (Qpf (Ix own) (by omega) (by omega) a2 cap2 w6 (Az (hH2.at 0 rfl))) ?_;rintro v w7 ⟨rfl,rfl⟩;refine Qs ?_;apply hK;clear hK;refine VD (fun h=>?_) (fun h=>Ab ?_)
 ·
  have hfin:res=Ix own:=by
   rw [hres];cases m with
   | zero=>rfl
   | succ t=>rw [Nl,if_pos (by omega)]
  refine VS [4,5] ?_;exact Ad (A7 rfl rfl rfl ⟨a2,cap2,by rw [hfin];exact hH2.sub (by simp),by rw [hfin]⟩)
 obtain ⟨t,rfl⟩:∃ t,m=t+1:=by
  cases m with
  | succ t=>exact ⟨t,rfl⟩
  | zero =>
   have:=Qc0 (w:=own) (by omega) (by omega) (fun x hx'=>⟨(hob x hx').1,(hob x hx').2.1⟩);omega
 rw [Nl,if_neg (by omega)] at hres;have hH3:Heap w2 [] w7 [Yr 3 1 (some ⟨g,0,none⟩) n cap (Ag own)]:=hH2.sub (by simp);clear hH2 h;refine VS [1,6,45,46,47] ?_;refine Ar ?_;refine Au [1,6,45,46,47] (fun m e w'=>∃ (i:Nat),Is e [(1,.int .i64 most),(6,.slice (some ⟨g,0,none⟩) n cap),(45,.slice (some ⟨g,0,none⟩) n cap),(46,.int .i64 n),(47,.int .i64 i)]/\Heap w2 [] w' [Yr 3 1 (some ⟨g,0,none⟩) n cap (Ag ((own.take i).map (fun x=>x / 2+1)++own.drop i))]/\i<=n/\m=n - i) n ?_ ?_
 ·
  refine Qs ?_;exact ⟨0,rfl,by simpa using hH3,by omega,rfl⟩
 clear hH3;rintro m e w8 ⟨i,rfl,hH,hi,rfl⟩;refine VS [1,6,45,46,47,48] ?_;(repeat refine Ax ?_);refine VD (fun h=>?_) (fun h=>?_)
 ·
  obtain ⟨hs1,hs2,hs3⟩:=Qpj own (fun x=>x / 2+1) (i:=i) (by omega);have hxi:=hob _ (Dr 0 (l:=own) (i:=i) (by omega));have hcell:=Cn (hH.at 0 rfl) (F3 (l:=(own.take i).map (fun x=>x / 2+1)++own.drop i) (i:=i) (by omega));rw [hs2] at hcell;generalize own.getD i 0=x at *;refine Ab ?_;refine VB ?_;refine VQ [1,6,10,11,45,46,47] fun K hK=>?_;refine ⟨⟨by omega,by omega⟩,_,hcell,?_⟩;apply hK;clear hK;refine VQ [1,6,45,46,47] fun K hK=>?_;(repeat first | refine Qo ?_ | refine Qp ?_);rw [show ((x:Nat):Int) / 2+1=((x / 2+1:Nat):Int) by omega];refine Af ?_;refine Qs ?_;refine Ej hH 0 (o:=(i)) (vs:=[.int .i64 (x / 2+1:Nat)]) rfl (by first | exact (B0 _ _ _).symm | rfl | simp [B0]) rfl (by kernel_rfl) (by first | omega | (simp;done) | (simp;omega) | (simp [An,Bb];omega) | (rw [Bj];simp;omega)) (by simp [Yl]) fun w6 hH2=>?_;(try refine Qs ?_);simp only [Yp,Di (Ag ((own.take i).map (fun x=>x / 2+1)++own.drop i)) _ _ (show i < (Ag ((own.take i).map (fun x=>x / 2+1)++own.drop i)).length by rw [Bj,hs3];omega),Ip,Yb,hs1] at hH2;apply hK;clear hK;refine Ao ?_;refine VS [1,6,45,46,47] ?_;refine Ah ?_;refine Qs ?_;exact ⟨n - (i+1),by omega,i+1,rfl,hH2,by omega,rfl⟩
 obtain rfl:i=n:=by omega
 rw [Y1 (by omega),Y7 (by omega),Yi] at hH;refine As rfl ?_;refine Ao ?_;refine Ah ?_;refine Qs ?_;refine ⟨t,by omega,t,own.map fun x=>x / 2+1,rfl,hH,by simp [hol],fun x hx'=>?_,hres,rfl⟩;obtain ⟨y,hy,rfl⟩:=Xd.1 hx';have:=hob y hy;exact ⟨by omega,Qov this.2.1,by omega⟩
def Dp (hs:List (Option Addr×Nat)) (T:List (List Nat)):List Value:=List.zipWith (fun h t=>.slice h.1 t.length h.2) hs T
theorem Qbi {hs:List (Option Addr×Nat)}{T:List (List Nat)} (h:hs.length=T.length):(Dp hs T).length=T.length:=by simp [Dp,h]
theorem Nu {hs:List (Option Addr×Nat)}{T:List (List Nat)}{i:Nat}{h:Option Addr×Nat}{t:List Nat} (h1:hs[i]? = some h) (h2:T[i]? = some t):(Dp hs T)[i]? = some (.slice h.1 t.length h.2):=by
 simp [Dp,Xo,h1,h2]
theorem Qnz (hs:List (Option Addr×Nat)) (T:List (List Nat)):∀ u∈Dp hs T,u.oneCell'=true:=by
 intro u hu;obtain ⟨i,hi⟩:=List.mem_iff_getElem?.1 hu;rw [Dp,Xo] at hi;split at hi
 ·
  cases hi;rfl
 cases hi
theorem Qn0 {hs:List (Option Addr×Nat)}{T:List (List Nat)} (i:Nat) (h:Option Addr×Nat) (t:List Nat):(Dp hs T).set i (.slice h.1 t.length h.2)=Dp (hs.set i h) (T.set i t):=by
 unfold Dp;apply Xx;intro j;rw [Xy,Xo,Xo,Xy,Xy];by_cases e:i=j
 ·
  subst e;rw [if_pos rfl,if_pos rfl,if_pos rfl];simp only [List.length_zipWith];by_cases h1:i < hs.length
  ·
   by_cases h2:i < T.length
   ·
    rw [if_pos (by omega),if_pos h1,if_pos h2]
   rw [if_neg (by omega),if_pos h1,if_neg h2]
  rw [if_neg (by omega),if_neg h1]
 rw [if_neg e,if_neg e,if_neg e]
theorem Qlg {hs:List (Option Addr×Nat)}{T:List (List Nat)} (hl:hs.length=T.length) (h:Option Addr×Nat) (t:List Nat):Dp hs T++[.slice h.1 t.length h.2]=Dp (hs++[h]) (T++[t]):=by
 unfold Dp;rw [Uy hl];rfl
def PlanAt (w:World) (v:Value) (T:List (List Nat)) (P:List Nat):Prop :=
 ∃ ta tc pa pc,∃ hs:List (Option Addr×Nat),v=.agg #[.slice ta T.length tc,.slice pa P.length pc]/\hs.length=T.length/\RS w ta T.length 1 (Dp hs T)/\RS w pa P.length 1 (Ag P) /\
  ∀ (i:Nat) (h:Option Addr×Nat) (t:List Nat),hs[i]? = some h->T[i]? = some t->RS w h.1 t.length 1 (Ag t)
theorem PlanAt.keep {w w':World}{v:Value}{T:List (List Nat)}{P:List Nat}{G:List Res} (h:PlanAt w v T P) (hH:Heap w [] w' G):PlanAt w' v T P:=by
 obtain ⟨ta,tc,pa,pc,hs,h1,h2,h3,h4,h5⟩:=h;exact ⟨ta,tc,pa,pc,hs,h1,h2,hH.rs' h3,hH.rs' h4,fun i h t a b=>hH.rs' (h5 i h t a b)⟩
def Ai (ta:Option Addr) (nt tc:Nat) (pa:Option Addr) (np pc:Nat):List Value:=[.slice ta nt tc,.slice pa np pc]
theorem Qc9 (l:List Nat) (n:Nat) (hm:Nf l n) (a:Option Addr) (lc:Nat) (w:World) (hr:RS w a l.length 1 (Ag l)) :
  Does Ys 139 #[.slice a l.length lc,.int .i64 n] w fun v w'=>w'=w/\v=.bool true:=by
 obtain ⟨h1,h2,h3,h4,h5⟩:=hm;obtain ⟨p,rfl⟩:=Dt hr (by omega);refine En [.slice (some p) l.length lc,.int .i64 n] 37 Tryz.func139 ?_;generalize hn:l.length=m at *;refine VS [0,1] ?_;refine VQ [0,1,22] fun K hK=>?_
 suffices out:∀ b:Bool,(b=true ↔ False)->K [(0,.slice (some p) m lc),(1,.int .i64 n),(22,.bool b)] w by (repeat' (first | exact out _ _ (by first | omega | (simp;done) | (simp;omega)) | exact out _ (by first | omega | (simp;done) | (simp;omega)) | refine ⟨fun _=>?_,fun _=>?_⟩ | refine Qo ?_))
 intro b hb;apply hK;clear hK;refine Ae rfl rfl (fun h=>(hb.1 h).elim) (fun h=>Ab ?_);clear hb h;refine VS [1,23,24,25] ?_;refine Ar ?_;refine Au [1,23,24,25] (fun m' e w'=>∃ (i:Nat),Is e [(1,.int .i64 n),(23,.slice (some p) m lc),(24,.int .i64 m),(25,.int .i64 i)]/\Is w' w/\i<=m/\m'=m - i) m ?_ ?_
 ·
  refine Qs ?_;exact ⟨0,rfl,rfl,by omega,rfl⟩
 rintro m' e w' ⟨i,rfl,rfl,hi,rfl⟩;refine VS [1,23,24,25,26] ?_;(repeat refine Ax ?_);refine Vi (fun h=>?_) (fun h=>?_)
 ·
  simp only [decide_eq_true_eq] at h;have hcell:=Ek hr (i:=i) (by omega);have hx:=h5 _ (Dr 0 (l:=l) (i:=i) (by omega));generalize l.getD i 0=x at *;refine Ab ?_;refine VB ?_;refine VQ [1,6,23,24,25] fun K hK=>?_;refine ⟨⟨by omega,by omega⟩,_,hcell,?_⟩;apply hK;clear hK;refine VQ [1,23,24,25,35] fun K hK=>?_
  suffices out:∀ b:Bool,(b=true ↔ False)->K [(1,.int .i64 n),(23,.slice (some p) m lc),(24,.int .i64 m),(25,.int .i64 i),(35,.bool b)] w' by (repeat' (first | exact out _ _ (by first | omega | (simp;done) | (simp;omega)) | exact out _ (by first | omega | (simp;done) | (simp;omega)) | refine ⟨fun _=>?_,fun _=>?_⟩ | refine Qo ?_))
  intro b hb;apply hK;clear hK;refine Ae rfl rfl (fun h=>(hb.1 h).elim) (fun h=>Ab ?_);refine Ao ?_;refine VS [1,23,24,25] ?_;refine Ah ?_;refine Qs ?_;exact ⟨m - (i+1),by omega,i+1,rfl,rfl,by omega,rfl⟩
 refine As rfl ?_;refine VS [4] ?_;exact Ad (A2 rfl rfl ⟨rfl,rfl⟩)
theorem Qal (m:Nat) (hm:m<=1000000000) (w:World):Does Ys 108 #[.int .i64 m] w fun v w'=>w'=w/\v=.int .i64 (Ds m:Nat):=by
 refine En [.int .i64 m] 7 Tryz.func108 ?_;refine VS [0] ?_;refine VQ [2] fun K hK=>?_;(repeat first | refine Qo ?_ | refine Qp ?_);rw [show ((m:Int)+50 - 1) / 50=((Ds m:Nat):Int) by unfold Ds;omega];apply hK;clear hK;exact Ad (A2 rfl rfl ⟨rfl,rfl⟩)
theorem Qg5 (l:List Nat) (k:Nat) (hk:50 * k < l.length) (hl:l.length<=1000000000) (p:Addr) (lc:Nat) (hlc:l.length<=lc) (w:World) :
  Does Ys 142 #[.slice (some p) l.length lc,.int .i64 k] w fun v w'=>w'=w/\v=.slice (some (p.add (50 * k))) (D5 l k).length (lc - 50 * k):=by
 have hcl:(D5 l k).length=min 50 (l.length - 50 * k):=by simp [D5]
 refine En [.slice (some p) l.length lc,.int .i64 k] 15 Tryz.func142 ?_;generalize hn:l.length=n at *;refine VS [0,1] ?_;refine VQ [4] fun K hK=>?_;(repeat (first | refine Qo ?_ | refine ⟨Xt (by omega) (by omega),?_⟩ | refine ⟨⟨by omega,by omega,by omega⟩,?_⟩));rw [if_neg (by omega),show ((k:Int) * 50).toNat=50 * k by omega,show (min (n:Int) (((k:Int)+1) * 50)).toNat - 50 * k=(D5 l k).length by rw [hcl];omega];apply hK;clear hK;exact Ad (A2 rfl rfl ⟨rfl,rfl⟩)
theorem Qpk {w:World}{l:List Nat}{p:Addr} (hr:RS w (some p) l.length 1 (Ag l)) (hp:p.spot=none) {k:Nat} (hk:50 * k < l.length):RS w (some (p.add (50 * k))) (D5 l k).length 1 (Ag (D5 l k)):=by
 have h1:=hr.drop hp (50 * k) (by omega);rw [U8] at h1;have h2:=h1.take (D5 l k).length (by simp [D5];omega);rw [U8,Qg2,Qcj] at h2
 have e:(l.drop (50 * k)).take (D5 l k).length=D5 l k:=by
  unfold D5;rw [Y6,List.take_eq_take_iff];omega
 rwa [e] at h2
theorem Qn1 (m:Nat) (h1:1<=m) (hm:m<=1000000000) (w:World):Does Ys 140 #[.int .i64 m] w fun v w'=>w'=w/\v=.tuple #[.int .i64 (Kt m:Nat),.int .i64 0]:=by
 refine En [.int .i64 m] 19 Tryz.func140 ?_;refine VS [0] ?_;refine VS [0,7] ?_;refine Ae rfl rfl (fun h=>by simp at h;omega) (fun h=>Ab ?_);refine VQ [0,8,9] fun K hK=>?_
 suffices hsuf:∀ x:Array Value,x=(Ag [200,600,1200,2400]).toArray->K [(0,.int .i64 m),(8,.agg x),(9,.int .i64 0)] w from hsuf _ (by kernel_rfl)
 rintro x rfl;apply hK;clear hK;refine Ar ?_;refine Au [0,8,9] (fun m' e w'=>∃ (i:Nat),Is e [(0,.int .i64 m),(8,.agg (Ag [200,600,1200,2400]).toArray),(9,.int .i64 i)]/\Is w' w/\i<=4/\(∀ j,j < i->[200,600,1200,2400].getD j 0<=m)/\m'=4 - i) 4 ?_ ?_
 ·
  refine Qs ?_;exact ⟨0,rfl,rfl,by omega,fun j hj=>by omega,rfl⟩
 rintro m' e w' ⟨i,rfl,rfl,hi,hj,rfl⟩;refine VS [0,8,9,10] ?_;(repeat refine Ax ?_);refine VD (fun h=>?_) (fun h=>?_)
 ·
  have hvn:Bk (Ag [200,600,1200,2400]) i=fun K=>K (.int .i64 ([200,600,1200,2400].getD i 0:Nat)):=by
   funext K;exact Ql7 (F3 (by simp;omega))
  refine Ab ?_;refine VB ?_;refine VQ [0,4,5,8,9] fun K hK=>?_;rw [hvn]
  dsimp only
  refine Qp ?_;apply hK;clear hK;refine VS [0,4,8,9,15] ?_;refine VD (fun h=>?_) (fun h=>Ab ?_)
  ·
   have ht:Kt m=i+2:=by
    have h0:=hj 0;have h1':=hj 1;have h2:=hj 2
    match i,hi,h,h0,h1',h2 with
    | 0,_,h,_,_,_=>simp at h;unfold Kt;rw [if_pos (by omega)]
    | 1,_,h,h0,_,_=>simp at h h0;unfold Kt;rw [if_neg (by omega),if_pos (by omega)]
    | 2,_,h,h0,h1',_=>simp at h h0 h1';unfold Kt;rw [if_neg (by omega),if_neg (by omega),if_pos (by omega)]
    | 3,_,h,h0,h1',h2=>simp at h h0 h1' h2;unfold Kt;rw [if_neg (by omega),if_neg (by omega),if_neg (by omega),if_pos (by omega)]
    | 4,_,h,_,_,_=>exact absurd h (by simp)
   refine VS [2,3] ?_;exact Ad (A7 rfl rfl rfl ⟨rfl,by rw [ht];rfl⟩)
  refine Ao ?_;refine VS [0,8,9] ?_;refine Ah ?_;refine Qs ?_;refine ⟨4 - (i+1),by omega,i+1,rfl,rfl,by omega,fun j hj2=>?_,rfl⟩;by_cases e:j=i
  ·
   rw [e];omega
  exact hj j (by omega)
 have h0:=hj 0 (by omega);have h1':=hj 1 (by omega);have h2:=hj 2 (by omega);have h3:=hj 3 (by omega);simp at h0 h1' h2 h3;have ht:Kt m=6:=by unfold Kt;rw [if_neg (by omega),if_neg (by omega),if_neg (by omega),if_neg (by omega)]
 refine As rfl ?_;refine VS [2,3] ?_;exact Ad (A7 rfl rfl rfl ⟨rfl,by rw [ht];rfl⟩)
theorem Qda (m:Nat) (h0:0 < m) (hm:m<=1000000) (w:World):Does Ys 105 #[.int .i64 m] w fun v w'=>∃ g,Heap w [] w' [Yr 3 1 (some ⟨g,0,none⟩) m m (Ag (Yf m))]/\v=.slice (some ⟨g,0,none⟩) m m:=by
 refine En [.int .i64 m] 18 Tryz.func105 ?_;refine VS [0] ?_;refine VQ [3] fun K hK=>?_;refine Ev Ym E2 ?_;refine Qs ?_;refine ⟨m,m,⟨rfl,rfl,by omega,by omega,by omega⟩,?_⟩;have hH:=(Y3 w).row 3 (n:=m) (cap:=m) (sz:=1) (Ag (Ya m 0)) [] (by simp [Bj]) (by simp [Bj]) (by omega) (by omega);rw [Yi,L5] at hH;generalize w.alloc (Yo (Ya m (Y5 Xe 0)).toArray 3)=w1 at *;generalize w.heap.size=go at *;rw [<- L5] at hH;apply hK;clear hK;refine VS [3,8,9] ?_;refine Ar ?_;refine Au [3,8,9] (fun m' e w'=>∃ (i:Nat),Is e [(3,.slice (some ⟨go,0,none⟩) m m),(8,.int .i64 m),(9,.int .i64 i)]/\Heap w [] w' [Yr 3 1 (some ⟨go,0,none⟩) m m (Ag (Yf i++Ya (m - i) 0))]/\i<=m/\m'=m - i) m ?_ ?_
 ·
  refine Qs ?_;exact ⟨0,rfl,by simpa using hH,by omega,rfl⟩
 clear hH;rintro m' e w' ⟨i,rfl,hH,hi,rfl⟩;refine VS [3,8,9,10] ?_;(repeat refine Ax ?_);refine VD (fun h=>?_) (fun h=>?_)
 ·
  have hset:(Yf i++Ya (m - i) 0).set i i=Yf (i+1)++Ya (m - (i+1)) 0:=by
   obtain ⟨q,hq⟩:∃ q,m - i=q+1:=⟨m - i - 1,by omega⟩;rw [hq,Y9,Xf _ _ (by simp),X7,Xb,Yb,Xw,Yj,show m - (i+1)=q by omega];rfl
  have hlen:(Yf i++Ya (m - i) 0).length=m:=by simp;omega
  refine Ab ?_;refine VB ?_;refine VS [3,4,8,9] ?_;refine VQ [3,8,9] fun K hK=>?_;refine Qp ?_;refine Af ?_;refine Qs ?_;refine Ej hH 0 (o:=(i)) (vs:=[.int .i64 (i:Nat)]) rfl (by first | exact (B0 _ _ _).symm | rfl | simp [B0]) rfl (by kernel_rfl) (by first | omega | (simp;done) | (simp;omega) | (simp [An,Bb];omega) | (rw [Bj];simp;omega)) (by simp [Yl]) fun w6 hH2=>?_;(try refine Qs ?_);simp only [Yp,Di (Ag (Yf i++Ya (m - i) 0)) _ _ (show i < (Ag (Yf i++Ya (m - i) 0)).length by rw [Bj,hlen];omega),Ip,Yb,hset] at hH2;apply hK;clear hK;refine Ao ?_;refine VS [3,8,9] ?_;refine Ah ?_;refine Qs ?_;exact ⟨m - (i+1),by omega,i+1,rfl,hH2,by omega,rfl⟩
 obtain rfl:i=m:=by omega
 rw [Xb,Xk,Yi] at hH;refine As rfl ?_;refine VS [2] ?_;exact Ad (A2 rfl rfl ⟨go,hH,rfl⟩)
theorem Qdb (li:List Nat) (g cap at_:Nat) (hat:at_ < li.length) (hl:li.length<=1000000000000) (w0 w:World) (B:List Nat) (G:List Res) (hL:Heap w0 B w (Yr 3 1 (some ⟨g,0,none⟩) li.length cap (Ag li)::G)) :
  Does Ys 106 #[.slice (some ⟨g,0,none⟩) li.length cap,.int .i64 at_] w
   fun v w'=>Heap w0 B w' (Yr 3 1 (some ⟨g,0,none⟩) li.length cap (Ag (Kc li at_))::G)/\v=.int .i64 (li.getD at_ 0:Nat):=by
 refine En [.slice (some ⟨g,0,none⟩) li.length cap,.int .i64 at_] 22 Tryz.func106 ?_;refine VS [0,1] ?_;refine VQ [0,1,5] fun K hK=>?_;(repeat (first | refine Qo ?_ | refine Qp ?_ | (refine ⟨_,(by first | exact Aj (hL.at 0 rfl) rfl | exact Cn (hL.at 0 rfl) (bytesV_get (by omega)) | exact Cn (hL.at 0 rfl) (L6 (by omega)) | exact Cn (hL.at 0 rfl) (F3 (by omega)) | exact Aj (hL.at 1 rfl) rfl | exact Cn (hL.at 1 rfl) (bytesV_get (by omega)) | exact Cn (hL.at 1 rfl) (L6 (by omega)) | exact Cn (hL.at 1 rfl) (F3 (by omega)) | exact Aj (hL.at 2 rfl) rfl | exact Cn (hL.at 2 rfl) (bytesV_get (by omega)) | exact Cn (hL.at 2 rfl) (L6 (by omega)) | exact Cn (hL.at 2 rfl) (F3 (by omega)) | exact Aj (hL.at 3 rfl) rfl | exact Cn (hL.at 3 rfl) (bytesV_get (by omega)) | exact Cn (hL.at 3 rfl) (L6 (by omega)) | exact Cn (hL.at 3 rfl) (F3 (by omega))),?_⟩;(try refine Qs ?_))));apply hK;clear hK;refine VL [0,5] 7 fun K hK=>?_;obtain ⟨hx1,hx2,hx3,hx4⟩:=hL.at 0 rfl;clear hx1 hx4;refine ⟨Xt (by omega) (by omega),⟨by omega,by omega,by omega⟩,⟨by omega,by omega⟩,?_⟩
 have hsrc:RS w (some ⟨g,0,none⟩) at_ 1 (Ag (li.take at_)):=by
  rw [<- Qcj];have h:=(Az (hL.at 0 rfl)).take at_ (by omega)
  rwa [U8] at h
 suffices hall:∀ w5,Heap w0 B w5 (Yr 3 1 (some ⟨g,0,none⟩) li.length cap (Ag (li.take 1++li.take at_++li.drop (at_+1)))::G)->K [(0,.slice (some ⟨g,0,none⟩) li.length cap),(5,.int .i64 (li.getD at_ 0:Nat))] w5 by
  refine Qdn ?_;refine Qs ?_;by_cases hc1:cap=1
  ·
   have h0:at_=0:=by omega
   subst h0;rw [if_pos (by rw [hc1];rfl)];refine Tz hL 0 rfl Ym Lj (off:=0) rfl ⟨rfl,hsrc,3,Ym⟩ (Q8 _) (by simp) fun w5 hu hH4=>?_;refine hall w5 ?_;rw [show li.take 1++li.take 0++li.drop (0+1)=li by rw [Yv,Yi];exact Ut 1 li];simpa using hH4
  rw [if_neg (by rw [show Ue 1=1 from rfl];exact hc1)];simp only [Option.map_some];refine Tz hL 0 rfl Ym Lj (off:=1) rfl ⟨rfl,hsrc,3,Ym⟩ (Q8 _) (by rw [Bj,show Ue 1=1 from rfl];omega) fun w5 hu hH4=>?_;refine hall w5 ?_;have e:min at_ (at_+1 - Ue 1) * 1=at_:=by rw [show Ue 1=1 from rfl];omega
  simp only [e,Yb] at hH4;rw [R7,R7,<- Qcj,<- Qg2];have e5:(Ag (li.take at_)).take at_=Ag (li.take at_):=Y1 (by rw [Bj,Y6];omega);rw [e5,show 1+at_=at_+1 by omega] at hH4;exact hH4
 intro w5 hH;apply hK;clear hK;have hlen:(li.take 1++li.take at_++li.drop (at_+1)).length=li.length:=by simp;omega
 have hmv:(li.take 1++li.take at_++li.drop (at_+1)).set 0 (li.getD at_ 0)=Kc li at_:=by
  cases li with
  | nil=>simp at hat
  | cons x r=>simp [Kc]
 generalize li.take 1++li.take at_++li.drop (at_+1)=li2 at *;refine VQ [5] fun K hK=>?_;refine Qp ?_;refine Af ?_;refine Qs ?_;refine Ej hH 0 (o:=(0)) (vs:=[.int .i64 (li.getD at_ 0:Nat)]) rfl (by first | exact (B0 _ _ _).symm | rfl | simp [B0]) rfl (by kernel_rfl) (by first | omega | (simp;done) | (simp;omega) | (simp [An,Bb];omega) | (rw [Bj];simp;omega)) (by simp [Yl]) fun w6 hH2=>?_;(try refine Qs ?_);simp only [Yp,Di (Ag li2) _ _ (show 0 < (Ag li2).length by rw [Bj];omega),Ip,Yb,hmv] at hH2;apply hK;clear hK;refine VS [4] ?_;exact Ad (A2 rfl rfl ⟨hH2,rfl⟩)
theorem Qar (v:Value) (T:List (List Nat)) (P:List Nat) (hm:Nr T P) (w:World) (hp:PlanAt w v T P):Does Ys 104 #[v] w fun x w'=>Heap w [] w' []/\x=.bool true:=by
 obtain ⟨ta,tc,pa,pc,hs,rfl,hsl,hrT,hrP,hrt⟩:=hp;obtain ⟨m1,m2,m3,m4,m5,m6⟩:=hm;obtain ⟨qt,rfl⟩:=Dt hrT (by omega);obtain ⟨qp,rfl⟩:=Dt hrP (by omega);have hen:#[Xp #[.slice (some qt) T.length tc,.slice (some qp) P.length pc]]=[Xp (Ai (some qt) T.length tc (some qp) P.length pc).toArray].toArray:=rfl;rw [hen];refine Pv 72 Tryz.func104 rfl rfl (of_decide_eq_true rfl) ?_;simp only [Env.ofArgs];generalize hnt:T.length=nt at *;generalize hnp:P.length=np at *;refine VQ [1] fun K hK=>?_;refine Eb ?_;refine Qs ?_;have hH:=(Y3 w).box 120 (Ai (some qt) nt tc (some qp) np pc);generalize w.alloc (Yo (Ai (some qt) nt tc (some qp) np pc).toArray 120)=w1 at *;generalize w.heap.size=gp at *;have c0:w1.cell? ⟨gp,0,none⟩=some (.slice (some qt) nt tc):=Aj (hH.at 0 rfl) rfl;have c1:w1.cell? ⟨gp,1,none⟩=some (.slice (some qp) np pc):=Aj (hH.at 0 rfl) rfl;apply hK;clear hK;refine VQ [1,28] fun K hK=>?_
 suffices out:∀ b:Bool,(b=true ↔ False)->K [(1,.pointer (some ⟨gp,0,none⟩)),(28,.bool b)] w1 by
  refine ⟨_,c0,?_⟩;refine Qs ?_;refine ⟨fun _=>⟨_,c0,?_⟩,fun h2=>absurd h2 (by omega)⟩;refine Qs ?_;refine ⟨fun _=>⟨_,c1,?_⟩,fun h2=>absurd h2 (by omega)⟩;refine Qs ?_;refine ⟨fun _=>⟨_,c1,?_⟩,fun h2=>absurd h2 (by omega)⟩;refine Qs ?_;exact out _ (by simp;omega)
 intro b hb;apply hK;clear hK;refine Ae rfl rfl (fun h=>(hb.1 h).elim) (fun h=>Ab ?_);clear hb h;have hT0:T[0]? = some (T.getD 0 []):=by rw [Yg,Yd (by omega)];rfl
 refine VQ [1,30,31,32] fun K hK=>?_;refine ⟨_,c0,?_⟩;refine Qs ?_;apply hK;clear hK;refine Ar ?_;refine Au [1,30,31,32] (fun m e w'=>∃ (i:Nat),Is e [(1,.pointer (some ⟨gp,0,none⟩)),(30,.slice (some qt) nt tc),(31,.int .i64 nt),(32,.int .i64 i)]/\Is w' w1/\i<=nt/\m=nt - i) nt ?_ ?_
 ·
  refine Qs ?_;exact ⟨0,rfl,rfl,by omega,rfl⟩
 rintro m e w2 ⟨i,rfl,rfl,hi,rfl⟩;refine VS [1,30,31,32,33] ?_;(repeat refine Ax ?_);refine VD (fun h=>?_) (fun h=>?_)
 ·
  have hTi:T[i]? = some (T.getD i []):=by rw [Yg,Yd (by omega)];rfl
  obtain ⟨hh,hhi⟩:∃ hh,hs[i]? = some hh:=⟨_,Yd (by omega)⟩;obtain ⟨h0,hh0⟩:∃ h0,hs[0]? = some h0:=⟨_,Yd (by omega)⟩;have hrs:=hH.rs' hrT;have hci:=hrs.2.2 qt rfl i _ (Nu hhi hTi);have hc0:=hrs.2.2 qt rfl 0 _ (Nu hh0 hT0);have hrt2:=hH.rs' (hrt i hh _ hhi hTi);obtain ⟨e1,e2,e3⟩:=m5 _ (Yx hTi);have hck:=Qak (T.getD i []) hh.1 hh.2 w2 hrt2;rw [if_pos (Zy.2 e3)] at hck;generalize T.getD i []=t at *;generalize T.getD 0 []=t0 at *;refine Ab ?_;refine VB ?_;refine VQ [1,4,30,31,32] fun K hK=>?_;refine ⟨⟨by omega,by omega⟩,_,hci,?_⟩;apply hK;clear hK;refine VQ [1,30,31,32,53] fun K hK=>?_;refine ⟨_,c0,?_⟩;refine Qs ?_;refine ⟨by omega,_,hc0,?_⟩;refine Qs ?_;refine ⟨fun _=>⟨fun _=>?_,fun h2=>absurd h2 (by omega)⟩,fun h2=>absurd h2 (by omega)⟩;refine Ac Tryz.call125 ?_;refine Qs ?_;refine Yk hck ?_;rintro v w3 ⟨rfl,rfl⟩;refine Qs ?_;apply hK;clear hK;refine Ae rfl rfl (fun h=>by simp at h) (fun h=>Ab ?_);refine Ao ?_;refine VS [1,30,31,32] ?_;refine Ah ?_;refine Qs ?_;exact ⟨nt - (i+1),by omega,i+1,rfl,rfl,by omega,rfl⟩
 refine As rfl ?_;refine VQ [1,56,57,58] fun K hK=>?_;refine ⟨_,c1,?_⟩;refine Qs ?_;apply hK;clear hK;refine Ar ?_;refine Au [1,56,57,58] (fun m e w'=>∃ (i:Nat),Is e [(1,.pointer (some ⟨gp,0,none⟩)),(56,.slice (some qp) np pc),(57,.int .i64 np),(58,.int .i64 i)]/\Is w' w2/\i<=np/\m=np - i) np ?_ ?_
 ·
  refine Qs ?_;exact ⟨0,rfl,rfl,by omega,rfl⟩
 rintro m e w3 ⟨j,rfl,rfl,hj,rfl⟩;refine VS [1,56,57,58,59] ?_;(repeat refine Ax ?_);refine Vi (fun h=>?_) (fun h=>?_)
 ·
  simp only [decide_eq_true_eq] at h;have hcell:=Ek (hH.rs' hrP) (i:=j) (by omega);have hx:=m6 _ (Dr 0 (l:=P) (i:=j) (by omega));generalize P.getD j 0=x at *;refine Ab ?_;refine VB ?_;refine VQ [1,6,56,57,58] fun K hK=>?_;refine ⟨⟨by omega,by omega⟩,_,hcell,?_⟩;apply hK;clear hK;refine VQ [1,56,57,58,70] fun K hK=>?_;refine ⟨fun _=>⟨_,c0,?_⟩,fun h2=>absurd h2 (by omega)⟩;refine Qs ?_;rw [decide_eq_false (show ¬ ((nt:Int)<=x) by omega)];apply hK;clear hK;refine Ae rfl rfl (fun h=>by simp at h) (fun h=>Ab ?_);refine Ao ?_;refine VS [1,56,57,58] ?_;refine Ah ?_;refine Qs ?_;exact ⟨np - (j+1),by omega,j+1,rfl,rfl,by omega,rfl⟩
 refine As rfl ?_;refine VS [2] ?_;exact Ad (A2 rfl rfl ⟨hH.sub (by simp),rfl⟩)
theorem Qes:∀ (li:List Nat) (c i:Nat),i < li.idxOf c->li.getD i 0≠c
 | [],c,i,h=>by simp at h
 | x::li,c,i,h=>by
  rw [List.idxOf_cons] at h;by_cases e:x=c
  ·
   subst e;simp at h
  have:(x == c)=false:=by simpa using e
  rw [this] at h;simp only [cond_false] at h;cases i with
  | zero=>simpa using e
  | succ i =>
   have:=Qes li c i (by omega);simpa using this
theorem Qbj:∀ (P li:List Nat),(∀ k∈P,k∈li)->(Iu li P).length<=P.length * li.length
 | [],li,_=>by simp [Iu]
 | p::P,li,h=>by
  have h1:=Uo.2 (h p (by simp));have h2:=Qbj P (Kc li (li.idxOf p)) fun k hk=>(W5 h1 k).2 (h k (by simp [hk]));rw [Tu h1] at h2;simp only [Iu,Yh,Y0,Xh,Nat.succ_mul];omega
theorem Q5 (ls:List (List Bool)) (l:List Bool):Fc ls++Ay l=Fc (ls++[l]):=by simp [Fc]
theorem E5 (l:List Bool):∀ u∈Ay l,u.oneCell'=true:=by
 intro u hu;simp [Ay] at hu;rcases hu with rfl | rfl <;> rfl
theorem Qbw (v:Value) (T:List (List Nat)) (P:List Nat) (hm:Nr T P) (w:World) (hp:PlanAt w v T P):Does Ys 64 #[v] w fun x w'=>Heap w [] w' []/\x=.tuple #[Lu (Ex T P),.int .i64 0]:=by
 have hp0:=hp;obtain ⟨ta,tc,pa,pc,hs,rfl,hsl,hrT,hrP,hrt⟩:=hp;have hm0:=hm;obtain ⟨m1,m2,m3,m4,m5,m6⟩:=hm;obtain ⟨qt,rfl⟩:=Dt hrT (by omega);obtain ⟨qp,rfl⟩:=Dt hrP (by omega);have hen:#[Xp #[.slice (some qt) T.length tc,.slice (some qp) P.length pc]]=[Xp (Ai (some qt) T.length tc (some qp) P.length pc).toArray].toArray:=rfl
 have hpb:Ex T P=([A0 3 T.length++(A0 15 P.length++Iu (Yf T.length) P)]++T.map De).flatten:=by
  simp [Ex,List.flatMap,Yj]
 rw [hen,hpb];refine Pv 85 Tryz.func64 rfl rfl (of_decide_eq_true rfl) ?_;simp only [Env.ofArgs];have hpl:=Qbj P (Yf T.length) (fun k hk=>by simpa using m6 k hk);have hpl2:P.length * (Yf T.length).length<=32767 * 6:=Nat.mul_le_mul m4 (by simpa using m2);generalize hnt:T.length=nt at *;generalize hnp:P.length=np at *;refine VQ [1,2] fun K hK=>?_;refine Eb ?_;refine Qs ?_;have hH:=(Y3 w).box 120 (Ai (some qt) nt tc (some qp) np pc);generalize w.alloc (Yo (Ai (some qt) nt tc (some qp) np pc).toArray 120)=w1 at *;generalize w.heap.size=gp at *;refine A6 (.agg #[.string ⟨#[]⟩,.int .i64 0]) (by kernel_rfl) ?_;refine Qs ?_;have hH1:=hH.box 70 [.string ⟨#[]⟩,.int .i64 0];generalize w1.alloc (Yo [X8 ⟨#[]⟩,.int .i64 0].toArray 70)=w2 at *;generalize w1.heap.size=gr at *;clear hH;apply hK;clear hK;refine VQ [1,2,16] fun K hK=>?_;refine ⟨Ai (some qt) nt tc (some qp) np pc,⟨rfl,Ca (hH1.at 1 rfl)⟩,?_⟩;have hmc:=Qar _ T P hm0 w2 (hp0.keep hH1);refine Ac U1 ?_;refine Qs ?_;refine Yk hmc ?_;rintro v w3 ⟨hHm,rfl⟩;have hH2:=hH1.call0 hHm;simp only [Ye] at hH2;clear hH1 hHm hmc;refine Qs ?_;apply hK;clear hK;refine Ae rfl rfl (fun h=>by simp at h) (fun h=>Ab ?_);clear h;refine VQ [1,2,4] fun K hK=>?_;refine Ac U9 ?_;refine Qs ?_;refine Yk (Q2 w3) ?_;rintro v w4 ⟨gw,hHw,rfl⟩;have hH3:=hH2.call0 hHw;simp only [Yq] at hH3;clear hH2 hHw;apply hK;clear hK;refine VQ [1,2,4] fun K hK=>?_;refine ⟨_,Aj (hH3.at 2 rfl) (show (Ai (some qt) nt tc (some qp) np pc)[0]? = some _ from rfl),?_⟩;refine Qs ?_;rw [show ((nt:Int) % 18446744073709551616)=nt by omega];refine Ac X5 ?_;refine Qs ?_;refine Yk (Iq gw none 0 [] nt 3 w4 (by omega) (by omega) (by simp) (hH3.focus 0 rfl)) ?_;rintro v w5 ⟨a5,c5,hHp,rfl⟩;have hH4:=hH3.call1 0 rfl hHp;simp only [Yb,Ye] at hH4;clear hH3 hHp;apply hK;clear hK;refine VQ [1,2,4] fun K hK=>?_;refine ⟨_,Aj (hH4.at 2 rfl) (show (Ai (some qt) nt tc (some qp) np pc)[1]? = some _ from rfl),?_⟩;refine Qs ?_;rw [show ((np:Int) % 18446744073709551616)=np by omega];refine Ac X5 ?_;refine Qs ?_;refine Yk (Iq gw a5 c5 _ np 15 w5 (by omega) (by omega) (by rw [Ct];omega) (hH4.focus 0 rfl)) ?_;rintro v w6 ⟨a6,c6,hHp,rfl⟩;have hH5:=hH4.call1 0 rfl hHp;simp only [Yb,Ye] at hH5;clear hH4 hHp;apply hK;clear hK;refine VQ [1,2,4,5] fun K hK=>?_;refine ⟨_,Aj (hH5.at 2 rfl) (show (Ai (some qt) nt tc (some qp) np pc)[0]? = some _ from rfl),?_⟩;refine Qs ?_;refine Ac Tryz.call105 ?_;refine Qs ?_;refine Yk (Qda nt (by omega) (by omega) w6) ?_;rintro v w7 ⟨go,hHo,rfl⟩;have hH6:=hH5.call0 hHo;simp only [Yq] at hH6;clear hH5 hHo;apply hK;clear hK;refine VQ [1,2,4,5,36,37,38] fun K hK=>?_;refine ⟨_,Aj (hH6.at 3 rfl) (show (Ai (some qt) nt tc (some qp) np pc)[1]? = some _ from rfl),?_⟩;refine Qs ?_;apply hK;clear hK;generalize hFull:A0 3 nt++(A0 15 np++Iu (Yf nt) P)=Full at *
 have hFl:Full.length<=300000:=by
  rw [<- hFull];simp only [Yh,Ct];omega
 refine Ar ?_;refine Au [1,2,4,5,36,37,38] (fun m e w'=>∃ (i:Nat) (li:List Nat) (X:List Bool) (a:Option Addr) (c:Nat),Is e [(1,.pointer (some ⟨gp,0,none⟩)),(2,.pointer (some ⟨gr,0,none⟩)),(4,.pointer (some ⟨gw,0,none⟩)),(5,.slice (some ⟨go,0,none⟩) nt nt),(36,.slice (some qp) np pc),(37,.int .i64 np),(38,.int .i64 i)]/\Heap w [] w' [Yr 3 1 (some ⟨go,0,none⟩) nt nt (Ag li),wr gw a c X,Yn gr 70 [.string ⟨#[]⟩,.int .i64 0],Yn gp 120 (Ai (some qt) nt tc (some qp) np pc)]/\li.length=nt/\(∀ k,k < nt->k∈li)/\X++Iu li (P.drop i)=Full/\i<=np/\m=np - i) np ?_ ?_
 ·
  refine Qs ?_;exact ⟨0,_,_,a6,c6,rfl,hH6,by simp,fun k hk=>by simpa using hk,by rw [<- hFull,Y2,Yj],by omega,rfl⟩
 clear hH6;rintro m e w8 ⟨i,li,X,a,c,rfl,hH,hlil,hli,hX,hi,rfl⟩;refine VS [1,2,4,5,36,37,38,39] ?_;(repeat refine Ax ?_);refine VD (fun h=>?_) (fun h=>?_)
 ·
  have hcell:=Ek (hH.rs' hrP) (i:=i) (by omega);have hx:=m6 _ (Dr 0 (l:=P) (i:=i) (by omega));have hdp:P.drop i=P.getD i 0::P.drop (i+1):=drop_getD 0 (by omega);rw [hdp,Iu] at hX;generalize P.getD i 0=x at *;have hxl:=hli x hx;have hxi:=Uo.2 hxl
  have hXl:X.length+li.idxOf x+1<=300000:=by
   have:=congrArg Uj hX;simp only [Yh,Y0,Xh] at this;omega
  refine Ab ?_;refine VB ?_;refine VQ [1,2,4,5,7,36,37,38] fun K hK=>?_;refine ⟨⟨by omega,by omega⟩,_,hcell,?_⟩;apply hK;clear hK;refine VS [1,2,4,5,7,8,36,37,38] ?_;refine VB ?_;refine Au [1,2,4,5,7,8,36,37,38] (fun m e w'=>∃ (at_:Nat) (a:Option Addr) (c:Nat),Is e [(1,.pointer (some ⟨gp,0,none⟩)),(2,.pointer (some ⟨gr,0,none⟩)),(4,.pointer (some ⟨gw,0,none⟩)),(5,.slice (some ⟨go,0,none⟩) nt nt),(7,.int .i64 x),(8,.int .i64 at_),(36,.slice (some qp) np pc),(37,.int .i64 np),(38,.int .i64 i)]/\Heap w [] w' [Yr 3 1 (some ⟨go,0,none⟩) nt nt (Ag li),wr gw a c (X++Ya at_ true),Yn gr 70 [.string ⟨#[]⟩,.int .i64 0],Yn gp 120 (Ai (some qt) nt tc (some qp) np pc)]/\at_<=li.idxOf x/\m=li.idxOf x - at_) (li.idxOf x) ?_ ?_
  ·
   refine Qs ?_;exact ⟨0,a,c,rfl,by simpa using hH,by omega,rfl⟩
  clear hH hcell;rintro m e w9 ⟨at_,a2,c2,rfl,hH,hat,rfl⟩;have hca:=Cn (hH.at 0 rfl) (F3 (l:=li) (i:=at_) (by omega));refine VQ [1,2,4,5,7,8,36,37,38,47] fun K hK=>?_;refine ⟨⟨by omega,by omega⟩,_,hca,?_⟩;refine Qs ?_;apply hK;clear hK;refine Vi (fun h=>?_) (fun h=>?_)
  ·
   simp only [decide_eq_true_eq] at h
   have hlt:at_ < li.idxOf x:=by
    rcases Ud at_ (li.idxOf x) with h2 | h2
    ·
     exact h2
    have e:at_=li.idxOf x:=by omega
    rw [e,Qgr hxl] at h;omega
   refine Ab ?_;refine Ar ?_;refine VS [1,2,4,5,7,8,36,37,38] ?_;refine VQ [1,2,4,5,7,8,36,37,38] fun K hK=>?_;refine Ac X5 ?_;refine Qs ?_;refine Yk (Iq gw a2 c2 _ 1 1 w9 (by omega) (by omega) (by rw [Yh,Y0];omega) (hH.focus 1 rfl)) ?_;rintro v w10 ⟨a3,c3,hHp,rfl⟩;have e1:A0 1 1=[true]:=rfl;rw [e1,Yj,<- Ub] at hHp;have hH2:=hH.call1 1 rfl hHp;simp only [Yc,Yb,Ye] at hH2;apply hK;clear hK;refine Ao ?_;refine Ah ?_;refine Qs ?_;exact ⟨li.idxOf x - (at_+1),by omega,at_+1,a3,c3,rfl,hH2,by omega,rfl⟩
  simp only [decide_eq_false_iff_not,Decidable.not_not] at h
  have hlt:at_=li.idxOf x:=by
   rcases Ud at_ (li.idxOf x) with h2 | h2
   ·
    exact absurd (by omega) (Qes li x at_ h2)
   omega
  subst hlt;refine As rfl ?_;refine VQ [1,2,4,5,8,36,37,38] fun K hK=>?_;refine Ac X5 ?_;refine Qs ?_;refine Yk (Iq gw a2 c2 _ 0 1 w9 (by omega) (by omega) (by rw [Yh,Y0];omega) (hH.focus 1 rfl)) ?_;rintro v w10 ⟨a3,c3,hHp,rfl⟩;have e1:A0 1 0=[false]:=rfl;rw [e1,Yj] at hHp;have hH2:=hH.call1 1 rfl hHp;simp only [Yc,Yb,Ye] at hH2;clear hH hHp;apply hK;clear hK;refine VQ [1,2,4,5,36,37,38] fun K hK=>?_;have hmc:=Qdb li go nt (li.idxOf x) hxi (by omega) w w10 [] _ (by rw [hlil];exact hH2);rw [hlil] at hmc;refine Ac U2 ?_;refine Qs ?_;refine Yk hmc ?_;rintro v w11 ⟨hH3,rfl⟩;apply hK;clear hK;refine Ao ?_;refine VS [1,2,4,5,36,37,38] ?_;refine Ah ?_;refine Qs ?_;refine ⟨np - (i+1),by omega,i+1,Kc li (li.idxOf x),_,a3,c3,rfl,hH3,by rw [Tu hxi];exact hlil,fun k hk=>(W5 hxi k).2 (hli k hk),?_,by omega,rfl⟩;rw [<- hX];simp
 obtain rfl:i=np:=by omega
 rw [Y7 (by omega),Iu,Yi] at hX;subst hX;refine As rfl ?_;refine VQ [1,2,9] fun K hK=>?_;refine Ac Ga ?_;refine Qs ?_;refine Yk (Py gw a c _ w8 (hH.at 1 rfl)) ?_;rintro v w9 ⟨rfl,rfl⟩;refine Ac Gb ?_;refine Qs ?_;refine Yk (Oy gw a c _ w9 (hH.at 1 rfl)) ?_;rintro v w10 ⟨rfl,rfl⟩;refine Qs ?_;refine E4 hH 2 (Ay X) (xs:=[.tmp 62]) X9 Oc rfl rfl rfl (by omega) (by omega) ?_;refine Qs ?_;refine ⟨by simp [Ay,Xi],by simp [Xi],fun ga w11 hH2=>?_⟩
 have hH3:Heap w [] w11 [Yr 70 2 (some ⟨ga,0,none⟩) 1 1 (Fc [X]),Yn gr 70 [.string ⟨#[]⟩,.int .i64 0],Yn gp 120 (Ai (some qt) nt tc (some qp) i pc)]:=by
  have e:Fc [X]=Ay X:=by simp [Fc]
  rw [e];exact hH2.sub (.cons_cons _ (.cons _ (.cons _ (.refl _))))
 clear hH2 hH;apply hK;clear hK;refine VQ [2,9,65,66,67] fun K hK=>?_;refine ⟨_,Aj (hH3.at 2 rfl) (show (Ai (some qt) nt tc (some qp) i pc)[0]? = some _ from rfl),?_⟩;refine Qs ?_;apply hK;clear hK;clear h hi;refine Ar ?_;refine Au [2,9,65,66,67] (fun m e w'=>∃ (j:Nat) (a:Option Addr) (c:Nat),Is e [(2,.pointer (some ⟨gr,0,none⟩)),(9,.slice a (j+1) c),(65,.slice (some qt) nt tc),(66,.int .i64 nt),(67,.int .i64 j)]/\Heap w [] w' [Yr 70 2 a (j+1) c (Fc ([X]++(T.take j).map De)),Yn gr 70 [.string ⟨#[]⟩,.int .i64 0]]/\j<=nt/\m=nt - j) nt ?_ ?_
 ·
  refine Qs ?_;exact ⟨0,_,1,rfl,by simpa using hH3.sub (.cons_cons _ (.cons_cons _ (.cons _ (.refl _)))),by omega,rfl⟩
 clear hH3;rintro m e w12 ⟨j,a4,c4,rfl,hH,hj,rfl⟩;refine VS [2,9,65,66,67,68] ?_;(repeat refine Ax ?_);refine VD (fun h=>?_) (fun h=>?_)
 ·
  have hTj:T[j]? = some (T.getD j []):=by rw [Yg,Yd (by omega)];rfl
  obtain ⟨hh,hhi⟩:∃ hh,hs[j]? = some hh:=⟨_,Yd (by omega)⟩;have hci:=(hH.rs' hrT).2.2 qt rfl j _ (Nu hhi hTj);have hrt2:=hH.rs' (hrt j hh _ hhi hTj);obtain ⟨e1,e2,e3⟩:=m5 _ (Yx hTj);have htk:T.take (j+1)=T.take j++[T.getD j []]:=by rw [U3,hTj];rfl
  have hds:=Qfv (T.getD j []) e3.1 e3.2.1 e3.2.2.1 hh.1 hh.2 w12 hrt2;generalize T.getD j []=t at *;refine Ab ?_;refine VB ?_;refine VQ [2,9,11,65,66,67] fun K hK=>?_;refine ⟨⟨by omega,by omega⟩,_,hci,?_⟩;apply hK;clear hK;refine VQ [2,9,12,65,66,67] fun K hK=>?_;refine Ac Tryz.call107 ?_;refine Qs ?_;refine Yk hds ?_;rintro v w13 ⟨hHd,rfl⟩;have hH2:=hH.call0 hHd;simp only [Ye] at hH2;clear hH hHd;refine A6 (.agg #[.string ⟨#[]⟩,.int .i64 0]) (by kernel_rfl) ?_;refine Qs ?_;have hH3:=hH2.box 70 [.string ⟨#[]⟩,.int .i64 0];generalize w13.alloc (Yo [X8 ⟨#[]⟩,.int .i64 0].toArray 70)=w14 at *;generalize w13.heap.size=gb at *;refine Af ?_;refine Qs ?_;refine Al hH3 0 (vs:=Ay (De t)) rfl rfl (by kernel_rfl) (by simp [Ay]) (E5 _) fun w15 hH4=>?_;have hH5:Heap w [] w15 [Yn gb 70 (Ay (De t)),Yr 70 2 a4 (j+1) c4 (Fc ([X]++(T.take j).map De)),Yn gr 70 [.string ⟨#[]⟩,.int .i64 0]]:=hH4;clear hH2 hH3 hH4;apply hK;clear hK;refine VQ [2,9,65,66,67] fun K hK=>?_;refine ⟨Ay (De t),⟨rfl,Ca (hH5.at 0 rfl)⟩,?_⟩;refine E4 hH5 2 (Ay (De t)) (xs:=[.tmp 77]) X9 Oc rfl rfl rfl (by omega) (by omega) ?_;refine Qs ?_;refine ⟨by simp [Ay,Xi],by simp [Ay,Xi],fun g2 w16 hH6=>?_⟩;refine Cl ?_;refine Qs ?_;refine Ew (zs:=#[.string ⟨#[]⟩,.int .i64 0]) (bytes:=24) hH6 2 rfl X9 (by kernel_rfl) rfl ⟨rfl,Az (hH6.at 0 rfl),70,X9⟩ (E5 _) (fun h=>by omega) fun a' cap' w17 hc' hH7=>?_;simp only [Yc,Yb] at hH7;rw [Q5,Yj] at hH7;apply hK;clear hK;refine Ao ?_;refine VS [2,9,65,66,67] ?_;refine Ah ?_;refine Qs ?_;refine ⟨nt - (j+1),by omega,j+1,a',cap',rfl,?_,by omega,rfl⟩;rw [htk,Xj];exact hH7.sub (.cons _ (.cons _ (.refl _)))
 obtain rfl:j=nt:=by omega
 rw [Y1 (by omega)] at hH;obtain ⟨ga2,rfl⟩:=Ir (hH.at 0 rfl) (by omega);have hlen:([X]++T.map De).length=j+1:=by simp [hnt]
 have hfl:([X]++T.map De).flatten.length<=10000000000000:=by
  rw [List.flatten_append,Yh]
  have h1:∀ Q:List (List Nat),(∀ t∈Q,Fa t)->(Q.map De).flatten.length<=Q.length * 20000:=fun Q=>by
   induction Q with
   | nil=>intro _;simp
   | cons t Q ih =>
    intro hQ;have h2:=ih fun t ht=>hQ t (by simp [ht]);obtain ⟨o1,o2,o3,_⟩:=hQ t (by simp);have h3:=Wy t (t.getD 0 0) (o3 _ (Dr 0 (by omega))).2 fun x hx=>(o3 x hx).2;simp only [List.map_cons,Uk,Yh,Xh,Nat.succ_mul,De,Ct];omega
  have h4:=h1 T fun t ht=>(m5 t ht).2.2;simp only [List.flatten_singleton];omega
 have hjn:=Qdp ([X]++T.map De) ⟨ga2,0,none⟩ rfl c4 w12 (by rw [hlen];exact Az (hH.at 0 rfl)) hfl (by omega);rw [hlen] at hjn;generalize ([X]++T.map De).flatten=R at *;refine As rfl ?_;refine VQ [2,3] fun K hK=>?_;refine Ac Tryz.call35 ?_;refine Qs ?_;refine Yk hjn ?_;rintro v w13 ⟨hHj,rfl⟩;have hH2:=hH.call0 hHj;simp only [Ye] at hH2;refine Af ?_;refine Qs ?_;refine Al hH2 1 (vs:=Ay R) rfl rfl (by kernel_rfl) (by simp [Ay]) (E5 _) fun w14 hH3=>?_;have hH4:Heap w [] w14 [Yr 70 2 (some ⟨ga2,0,none⟩) (j+1) c4 (Fc ([X]++T.map De)),Yn gr 70 (Ay R)]:=hH3;apply hK;clear hK;refine Ad (I4 rfl rfl rfl (Cv (hH4.at 1 rfl) (by kernel_rfl) (by kernel_rfl) rfl ?_));exact ⟨hH4.sub (by simp),rfl⟩
def Nn (hs:List (Option Addr×Nat)) (L:List (List Nat)):List Res:=List.zipWith (fun h l=>Yr 3 1 h.1 l.length h.2 (Ag l)) hs L
theorem Qjv {hs:List (Option Addr×Nat)}{L:List (List Nat)}{i:Nat}{h:Option Addr×Nat}{l:List Nat} (h1:hs[i]? = some h) (h2:L[i]? = some l):(Nn hs L)[i]? = some (Yr 3 1 h.1 l.length h.2 (Ag l)):=by
 simp [Nn,Xo,h1,h2]
theorem Qg6 {hs:List (Option Addr×Nat)}{L:List (List Nat)} (hl:hs.length=L.length) (a:Option Addr) (c:Nat) (l:List Nat):Nn hs L++[Yr 3 1 a l.length c (Ag l)]=Nn (hs++[(a,c)]) (L++[l]):=by
 unfold Nn;rw [Uy hl];rfl
theorem Sy {α:Type} (L:List α) (z x:α) {n i:Nat} (hi:i < n) (hl:L.length=i):(L++Ya (n - i) z).set i x=(L++[x])++Ya (n - (i+1)) z:=by
 obtain ⟨q,hq⟩:∃ q,n - i=q+1:=⟨n - i - 1,by omega⟩;rw [hq,Y9,Xf _ _ (by omega),hl,Xb,Yb,Yj,show n - (i+1)=q by omega];rfl
theorem Qg7 (n:Nat):Dp (Ya n (none,0)) (Ya n [])=Ya n (.slice none 0 0):=by
 unfold Dp;rw [List.zipWith_replicate];simp
theorem Qiq {α β:Type} (f:α->β) {T:List α}{j:Nat}{t:α} (h:T[j]? = some t):(T.take (j+1)).map f=(T.take j).map f++[f t]:=by
 rw [U3,h,Xj];rfl
theorem Qdc (v:Value) (T:List (List Nat)) (P:List Nat) (hm:Nr T P) (list:List Nat) (hl1:1<=list.length) (hls:∀ s∈list,s < (T.getD 0 []).length) (hlg:Ds list.length<=P.length) (a:Option Addr) (lc:Nat) (w:World) (hp:PlanAt w v T P) (hr:RS w a list.length 1 (Ag list)) :
  Does Ys 65 #[v,.slice a list.length lc] w fun x w'=>Heap w [] w' []/\x=.tuple #[Lu (E7 T P list 0),.int .i64 0]:=by
 have hp0:=hp;obtain ⟨ta,tc,pa,pc,hs,rfl,hsl,hrT,hrP,hrt⟩:=hp;have hm0:=hm;obtain ⟨m1,m2,m3,m4,m5,m6⟩:=hm;have hT0:T[0]? = some (T.getD 0 []):=by rw [Yg,Yd (by omega)];rfl
 have hn0:3<=(T.getD 0 []).length/\(T.getD 0 []).length<=258:=by
  obtain ⟨e1,e2,e3⟩:=m5 _ (Yx hT0);exact ⟨e2,e3.2.1⟩
 have hml:list.length<=1638350:=by unfold Ds at hlg;omega
 have hFl:=Zf (T:=T) (P:=P) (c:=20) (fun t ht x hx=>((m5 t ht).2.2.2.2.1 x hx).2) list 0;obtain ⟨qt,rfl⟩:=Dt hrT (by omega);obtain ⟨qp,rfl⟩:=Dt hrP (by omega);obtain ⟨ql,rfl⟩:=Dt hr (by omega);have hen:#[Xp #[.slice (some qt) T.length tc,.slice (some qp) P.length pc],.slice (some ql) list.length lc]=[Xp (Ai (some qt) T.length tc (some qp) P.length pc).toArray,.slice (some ql) list.length lc].toArray:=rfl;rw [hen];refine Pv 106 Tryz.func65 rfl rfl (of_decide_eq_true rfl) ?_;simp only [Env.ofArgs];have hgd:=fun w=>Qal list.length (by omega) w;generalize hnt:T.length=nt at *;generalize hnp:P.length=np at *;generalize hnl:list.length=nl at *;generalize hn:(T.getD 0 []).length=n0 at *;refine VQ [1,2,4] fun K hK=>?_;refine Eb ?_;refine Qs ?_;have hH:=(Y3 w).box 120 (Ai (some qt) nt tc (some qp) np pc);generalize w.alloc (Yo (Ai (some qt) nt tc (some qp) np pc).toArray 120)=w1 at *;generalize w.heap.size=gp at *;refine A6 (.agg #[.string ⟨#[]⟩,.int .i64 0]) (by kernel_rfl) ?_;refine Qs ?_;have hH1:=hH.box 70 [.string ⟨#[]⟩,.int .i64 0];generalize w1.alloc (Yo [X8 ⟨#[]⟩,.int .i64 0].toArray 70)=w2 at *;generalize w1.heap.size=gr at *;clear hH;apply hK;clear hK;have hmc:=Qar _ T P hm0 w2 (hp0.keep hH1);have c0:w2.cell? ⟨gp,0,none⟩=some (.slice (some qt) nt tc):=Aj (hH1.at 1 rfl) rfl;have c1:w2.cell? ⟨gp,1,none⟩=some (.slice (some qp) np pc):=Aj (hH1.at 1 rfl) rfl;refine VH _ (Ext.refl _) [1,2,4,25] [(0,true),(1,false),(2,true),(3,true),(4,true),(5,true),(7,true),(8,true),(9,true),(6,false),(10,true),(11,true)] fun K hK=>?_;refine ⟨Ai (some qt) nt tc (some qp) np pc,⟨rfl,Ca (hH1.at 1 rfl)⟩,?_⟩;refine Ac U1 ?_;refine Qs ?_;refine Yk hmc ?_;rintro v w3 ⟨hHm,rfl⟩;have hH2:=hH1.call0 hHm;simp only [Ye] at hH2;refine Qs ?_;refine ⟨hHm.ext,?_⟩;refine ⟨_,c1,?_⟩;refine Qs ?_;refine Ac Tryz.call108 ?_;refine Qs ?_;refine Yk (hgd w3) ?_;rintro v w4 ⟨rfl,rfl⟩;refine Qs ?_;refine ⟨hHm.ext,?_⟩;rw [decide_eq_false (show ¬ ((np:Int) < (Ds nl:Nat)) by omega)];apply hK;clear hK;refine Ae rfl rfl (fun h=>by simp at h) (fun h=>Ab ?_);clear h hH1 hHm hmc c0 c1;generalize w4=w3 at *;refine VS [1,2,4,27,28,29] ?_;refine Ar ?_;refine Au [1,2,4,27,28,29] (fun m e w'=>∃ (i:Nat),Is e [(1,.slice (some ql) nl lc),(2,.pointer (some ⟨gp,0,none⟩)),(4,.pointer (some ⟨gr,0,none⟩)),(27,.slice (some ql) nl lc),(28,.int .i64 nl),(29,.int .i64 i)]/\Is w' w3/\i<=nl/\m=nl - i) nl ?_ ?_
 ·
  refine Qs ?_;exact ⟨0,rfl,rfl,by omega,rfl⟩
 rintro m e w' ⟨i,rfl,rfl,hi,rfl⟩;have c0:w'.cell? ⟨gp,0,none⟩=some (.slice (some qt) nt tc):=Aj (hH2.at 1 rfl) rfl;have c1:w'.cell? ⟨gp,1,none⟩=some (.slice (some qp) np pc):=Aj (hH2.at 1 rfl) rfl;obtain ⟨h0,hh0⟩:∃ h0,hs[0]? = some h0:=⟨_,Yd (by omega)⟩;have hc0:=(hH2.rs' hrT).2.2 qt rfl 0 _ (Nu hh0 hT0);rw [hn] at hc0;refine VS [1,2,4,27,28,29,30] ?_;(repeat refine Ax ?_);refine VD (fun h=>?_) (fun h=>?_)
 ·
  have hcell:=Ek (hH2.rs' hr) (i:=i) (by omega);have hx:=hls _ (Dr 0 (l:=list) (i:=i) (by omega));generalize list.getD i 0=x at *;refine Ab ?_;refine VB ?_;refine VQ [1,2,4,7,27,28,29] fun K hK=>?_;refine ⟨⟨by omega,by omega⟩,_,hcell,?_⟩;apply hK;clear hK;refine VQ [1,2,4,27,28,29,43] fun K hK=>?_;refine ⟨fun _=>⟨_,c0,?_⟩,fun h2=>absurd h2 (by omega)⟩;refine Qs ?_;refine ⟨by omega,_,hc0,?_⟩;refine Qs ?_;rw [decide_eq_false (show ¬ ((n0:Int)<=x) by omega)];apply hK;clear hK;refine Ae rfl rfl (fun h=>by simp at h) (fun h=>Ab ?_);refine Ao ?_;refine VS [1,2,4,27,28,29] ?_;refine Ah ?_;refine Qs ?_;exact ⟨nl - (i+1),by omega,i+1,rfl,rfl,by omega,rfl⟩
 clear h hi;generalize w'=w3 at *;refine As rfl ?_;refine VQ [1,2,4,8] fun K hK=>?_;refine Ac U9 ?_;refine Qs ?_;refine Yk (Q2 w3) ?_;rintro v w4 ⟨gw,hHw,rfl⟩;have hH3:=hH2.call0 hHw;simp only [Yq] at hH3;clear hHw;apply hK;clear hK;refine VQ [1,2,4,8,9] fun K hK=>?_;refine ⟨_,Aj (hH3.at 2 rfl) (show (Ai (some qt) nt tc (some qp) np pc)[0]? = some _ from rfl),?_⟩;refine Qs ?_;refine Ev Xu QAu ?_;refine Qs ?_;refine ⟨nt,nt,⟨rfl,rfl,by omega,by omega,by omega⟩,?_⟩;have hH4:=hH3.row 114 (n:=nt) (cap:=nt) (sz:=1) (Dp (Ya nt (none,0)) (Ya nt [])) [] (by rw [Qbi (by simp)];simp) (by rw [Yi,Qbi (by simp)];simp) (by omega) (by omega);rw [Yi,Qg7] at hH4;generalize w4.alloc (Yo (Ya nt (Xq none 0 0)).toArray 114)=w5 at *;generalize w4.heap.size=gc at *;rw [<- Qg7] at hH4;clear hH3;apply hK;clear hK;refine VS [1,2,4,8,9,52,53] ?_;refine Ar ?_;refine Au [1,2,4,8,9,52,53] (fun m e w'=>∃ (i:Nat) (us:List (Option Addr×Nat)),Is e [(1,.slice (some ql) nl lc),(2,.pointer (some ⟨gp,0,none⟩)),(4,.pointer (some ⟨gr,0,none⟩)),(8,.pointer (some ⟨gw,0,none⟩)),(9,.slice (some ⟨gc,0,none⟩) nt nt),(52,.int .i64 nt),(53,.int .i64 i)]/\Heap w [] w' (Yr 114 1 (some ⟨gc,0,none⟩) nt nt (Dp (us++Ya (nt - i) (none,0)) ((T.take i).map Du++Ya (nt - i) []))::wr gw none 0 []::Yn gr 70 [.string ⟨#[]⟩,.int .i64 0]::Yn gp 120 (Ai (some qt) nt tc (some qp) np pc)::Nn us ((T.take i).map Du))/\us.length=i/\i<=nt/\m=nt - i) nt ?_ ?_
 ·
  refine Qs ?_;exact ⟨0,[],rfl,by simpa [Nn] using hH4,rfl,by omega,rfl⟩
 clear hH4 hH2 c0 c1 hc0;rintro m e w6 ⟨i,us,rfl,hH,hus,hi,rfl⟩;refine VS [1,2,4,8,9,52,53,54] ?_;(repeat refine Ax ?_);refine VD (fun h=>?_) (fun h=>?_)
 ·
  have hTi:T[i]? = some (T.getD i []):=by rw [Yg,Yd (by omega)];rfl
  obtain ⟨hh,hhi⟩:∃ hh,hs[i]? = some hh:=⟨_,Yd (by omega)⟩;have hci:=(hH.rs' hrT).2.2 qt rfl i _ (Nu hhi hTi);have hrt2:=hH.rs' (hrt i hh _ hhi hTi);obtain ⟨e1,e2,e3⟩:=m5 _ (Yx hTi);have htk:=Qiq Du hTi;have hcd:=Qdl (T.getD i []) e3 hh.1 hh.2 w6 hrt2;generalize T.getD i []=t at *;have hLl:((T.take i).map Du).length=i:=by simp;omega
  have hAl:(Dp (us++Ya (nt - i) (none,0)) ((T.take i).map Du++Ya (nt - i) [])).length=nt:=by
   rw [Qbi (by simp;omega)];simp;omega
  have c0:w6.cell? ⟨gp,0,none⟩=some (.slice (some qt) nt tc):=Aj (hH.at 3 rfl) rfl;refine Ab ?_;refine VB ?_;refine VS [1,2,4,8,9,10,52,53] ?_;refine VQ [1,2,4,8,9,52,53] fun K hK=>?_;refine ⟨_,c0,?_⟩;refine Qs ?_;refine ⟨⟨by omega,by omega⟩,_,hci,?_⟩;refine Ac Tryz.call109 ?_;refine Qs ?_;refine Yk hcd ?_;rintro v w7 ⟨ac,cc,hHc,rfl⟩;have hH2:=hH.call0 hHc;simp only [Yq] at hH2;clear hHc c0 hci;refine Qp ?_
  have hset:(Dp (us++Ya (nt - i) (none,0)) ((T.take i).map Du++Ya (nt - i) [])).set i (.slice ac (Du t).length cc)=Dp ((us++[(ac,cc)])++Ya (nt - (i+1)) (none,0)) ((T.take (i+1)).map Du++Ya (nt - (i+1)) []):=by
   rw [htk,<- Sy us (none,0) (ac,cc) (by omega) hus,<- Sy _ [] (Du t) (by omega) hLl];exact Qn0 i (ac,cc) (Du t)
  refine Af ?_;refine Qs ?_;refine Ej hH2 1 (o:=i) (vs:=[.slice ac (Du t).length cc]) rfl (by simp [B0]) rfl (by kernel_rfl) (by simp only [Yp];omega) (by simp [Yl]) fun w8 hH3=>?_;simp only [Yp,Di _ _ _ (show i < (Dp (us++Ya (nt - i) (none,0)) ((T.take i).map Du++Ya (nt - i) [])).length by omega),hset,Yb,Yc] at hH3;have hH4:=hH3.perm (Uf _ _).symm;simp only [Y8] at hH4;rw [Qg6 (by omega),<- htk] at hH4;clear hH hH2 hH3;apply hK;clear hK;refine Ao ?_;refine VS [1,2,4,8,9,52,53] ?_;refine Ah ?_;refine Qs ?_;exact ⟨nt - (i+1),by omega,i+1,us++[(ac,cc)],rfl,hH4,by simp [hus],by omega,rfl⟩
 obtain rfl:i=nt:=by omega
 clear h hi;rw [Xb,Xk,Xk,Yi,Yi,Y1 (by omega)] at hH;generalize i=nt at *;refine As rfl ?_;refine VS [2,4,8,9,69,70,71] ?_;generalize hFull:E7 T P list 0=Full at *;refine Ar ?_;refine Au [2,4,8,9,69,70,71] (fun m e w'=>∃ (i:Nat) (X:List Bool) (a:Option Addr) (c:Nat),Is e [(2,.pointer (some ⟨gp,0,none⟩)),(4,.pointer (some ⟨gr,0,none⟩)),(8,.pointer (some ⟨gw,0,none⟩)),(9,.slice (some ⟨gc,0,none⟩) nt nt),(69,.slice (some ql) nl lc),(70,.int .i64 nl),(71,.int .i64 i)]/\Heap w [] w' (Yr 114 1 (some ⟨gc,0,none⟩) nt nt (Dp us (T.map Du))::wr gw a c X::Yn gr 70 [.string ⟨#[]⟩,.int .i64 0]::Yn gp 120 (Ai (some qt) nt tc (some qp) np pc)::Nn us (T.map Du))/\X++E7 T P (list.drop i) i=Full/\i<=nl/\m=nl - i) nl ?_ ?_
 ·
  refine Qs ?_;exact ⟨0,[],none,0,rfl,hH,by simpa using hFull,by omega,rfl⟩
 clear hH;rintro m e w7 ⟨i,X,a,c,rfl,hH,hX,hi,rfl⟩;refine VS [2,4,8,9,69,70,71,72] ?_;(repeat refine Ax ?_);refine VD (fun h=>?_) (fun h=>?_)
 ·
  have hcell:=Ek (hH.rs' hr) (i:=i) (by omega);have hx:=hls _ (Dr 0 (l:=list) (i:=i) (by omega));have hdp:list.drop i=list.getD i 0::list.drop (i+1):=drop_getD 0 (by omega);rw [hdp,E7] at hX;generalize list.getD i 0=x at *;have hgi:i / 50 < np:=by unfold Ds at hlg;omega
  have hcp:=Ek (hH.rs' hrP) (i:=i / 50) (by omega);have hpx:=m6 _ (Dr 0 (l:=P) (i:=i / 50) (by omega));generalize P.getD (i / 50) 0=k at *;have hTk:T[k]? = some (T.getD k []):=by rw [Yg,Yd (by omega)];rfl
  obtain ⟨hh,hhk⟩:∃ hh,hs[k]? = some hh:=⟨_,Yd (by omega)⟩;obtain ⟨uu,huk⟩:∃ uu,us[k]? = some uu:=⟨_,Yd (by omega)⟩;have hck:=(hH.rs' hrT).2.2 qt rfl k _ (Nu hhk hTk);have hrt2:=hH.rs' (hrt k hh _ hhk hTk);obtain ⟨e1,e2,e3⟩:=m5 _ (Yx hTk);have hCk:(T.map Du)[k]? = some (Du (T.getD k [])):=by rw [Xz,hTk];rfl
  have hcc:=Cn (hH.at 0 rfl) (Nu huk hCk);have hrc:=Az (hH.at (k+4) (show _=some (Yr 3 1 uu.1 (Du (T.getD k [])).length uu.2 (Ag (Du (T.getD k [])))) from Qjv huk hCk));rw [Qck] at hcc hrc;generalize T.getD k []=t at *;have hcode:=Zx e3 (i:=x) (by omega);have hok:=V4 e3 (i:=x) (by omega);obtain ⟨rt,hrt0⟩:=Dt hrt2 (by omega);obtain ⟨rc,hrc0⟩:=Dt hrc (by omega);rw [hrt0] at hrt2 hck;rw [hrc0] at hrc hcc;have hct:=Ek hrt2 (i:=x) (by omega);have hcx:=Ek hrc (i:=x) (by rw [Qck];omega);have hcg:(Du t).getD x 0=Dv t x:=by unfold Du;rw [T8 _ _ _ _ (by omega)]
  rw [hcg] at hcx
  have hXl:X.length+20<=100000000:=by
   have:=congrArg Uj hX;simp only [Yh] at this;omega
  have hw:M1 t x=A0 (t.getD x 0) (Dv t x):=rfl;rw [hw] at hX;have hp2:2 ^ (t.getD x 0)<=2 ^ 20:=Yy (by omega) hok.2;have hp3:2 ^ (t.getD x 0)<=1048576:=hp2;generalize t.getD x 0=b at *;generalize Dv t x=cx at *;have c0:w7.cell? ⟨gp,0,none⟩=some (.slice (some qt) nt tc):=Aj (hH.at 3 rfl) rfl;have c1:w7.cell? ⟨gp,1,none⟩=some (.slice (some qp) np pc):=Aj (hH.at 3 rfl) rfl;refine Ab ?_;refine VB ?_;refine VQ [2,4,8,9,11,12,69,70,71] fun K hK=>?_;refine ⟨⟨by omega,by omega⟩,_,hcell,?_⟩;apply hK;clear hK;refine VQ [2,4,8,9,12,13,69,70,71] fun K hK=>?_;refine ⟨_,c1,?_⟩;refine Qs ?_;rw [show ((i:Int) / 50)=((i / 50:Nat):Int) by omega];(repeat first | refine Qo ?_ | refine Qp ?_);refine ⟨_,hcp,?_⟩;apply hK;clear hK;refine VL [2,4,8,9,69,70,71] 17 fun K hK=>?_;refine ⟨⟨by omega,by omega⟩,_,hcc,?_⟩;refine Qs ?_;refine ⟨⟨by omega,by omega⟩,_,hcx,?_⟩;refine Qs ?_;refine ⟨_,c0,?_⟩;refine Qs ?_;refine ⟨⟨by omega,by omega⟩,_,hck,?_⟩;refine Qs ?_;refine ⟨⟨by omega,by omega⟩,_,hct,?_⟩;rw [show ((cx:Int) % 18446744073709551616)=cx by omega];refine Ac X5 ?_;refine Qs ?_;refine Yk (Iq gw a c X cx b w7 (by omega) hcode.2.2 (by omega) (hH.focus 1 rfl)) ?_;rintro v w8 ⟨a2,c2,hHp,rfl⟩;have hH2:=hH.call1 1 rfl hHp;simp only [Yb,Yc,Ye] at hH2;clear hH hHp hcc hcx c0 c1 hck hct hcp hrc hrt2 hcell;apply hK;clear hK;refine Ao ?_;refine VS [2,4,8,9,69,70,71] ?_;refine Ah ?_;refine Qs ?_;exact ⟨nl - (i+1),by omega,i+1,_,a2,c2,rfl,hH2,by rw [Yj];exact hX,by omega,rfl⟩
 obtain rfl:i=nl:=by omega
 rw [Y7 (by omega),E7,Yi] at hX;subst hX;refine As rfl ?_;refine VQ [4,5] fun K hK=>?_;refine Ac Ga ?_;refine Qs ?_;refine Yk (Py gw a c _ w7 (hH.at 1 rfl)) ?_;rintro v w9 ⟨rfl,rfl⟩;refine Ac Gb ?_;refine Qs ?_;refine Yk (Oy gw a c _ w9 (hH.at 1 rfl)) ?_;rintro v w10 ⟨rfl,rfl⟩;refine Qs ?_;refine Af ?_;refine Qs ?_;refine Al hH 2 (vs:=Ay X) rfl rfl (by kernel_rfl) (by simp [Ay]) (E5 _) fun w11 hH3=>?_;simp only [Yb,Yc] at hH3;apply hK;clear hK;refine Ad (I4 rfl rfl rfl (Cv (hH3.at 2 rfl) (by kernel_rfl) (by kernel_rfl) rfl ?_));exact ⟨hH3.sub (by simp),rfl⟩
theorem Qpl (l:List Nat):∀ (r:List Bool) (n code:Nat) (p:Nat×Nat),Eo l r n code=.ok p->p.2<=n+r.length
 | [],n,code,p,h=>by simp [Eo] at h
 | b::r,n,code,p,h=>by
  rw [Eo] at h;split at h
  ·
   cases h;simp
  split at h
  ·
   have:=Qpl l r _ _ p h;simp;omega
  cases h
theorem Qjw (l:List Nat):∀ (r:List Bool) (n code:Nat) (e:Int),Eo l r n code=.error e->e≠0
 | [],n,code,e,h=>by simp [Eo] at h;omega
 | b::r,n,code,e,h=>by
  rw [Eo] at h;split at h
  ·
   cases h
  split at h
  ·
   exact Qjw l r _ _ e h
  cases h;omega
theorem Qzp {l:List Nat}{bits:List Bool}{at_:Nat}{q:Nat×Nat} (ha:at_<=bits.length) (h:F9 l bits at_=.ok q):q.2<=bits.length:=by
 unfold F9 at h;split at h
 ·
  rename_i p hp;cases h;have:=Qpl l _ _ _ _ hp;simp at this;simp;omega
 cases h
theorem Qv9 {l:List Nat}{bits:List Bool}{at_:Nat}{e:Int} (h:F9 l bits at_=.error e):e≠0:=by
 unfold F9 at h;split at h
 ·
  cases h
 rename_i e' he;cases h;exact Qjw l _ _ _ _ he
theorem Qpm {l:List Nat}{bits:List Bool}{fin:Nat}:∀ (n at_:Nat) (q:List Nat×Nat),at_<=bits.length->C5 l bits fin n at_=.ok q->q.2<=bits.length/\q.1.length<=n/\(0 < n->0 < q.1.length)
 | 0,at_,q,ha,h=>by simp [C5] at h;subst h;simp;exact ha
 | n+1,at_,q,ha,h=>by
  rw [C5] at h;split at h
  ·
   cases h
  rename_i p hp;have h1:=Qzp ha hp;split at h
  ·
   cases h;simp;exact h1
  split at h
  ·
   cases h
  rename_i q' hq;cases h;have:=Qpm n p.2 q' h1 hq;simp;omega
theorem Qjx {l:List Nat}{bits:List Bool}{fin:Nat}:∀ (n at_:Nat) (e:Int),C5 l bits fin n at_=.error e->e≠0
 | 0,at_,e,h=>by simp [C5] at h
 | n+1,at_,e,h=>by
  rw [C5] at h;split at h
  ·
   rename_i e' he;cases h;exact Qv9 he
  split at h
  ·
   cases h
  split at h
  ·
   rename_i e' he;cases h;exact Qjx n _ _ he
  cases h
theorem Qdd {l:List Nat} (h:0 < l.length) (fin:Nat):l.getLast? = some fin ↔ l.getD (l.length - 1) 0=fin:=by
 rw [List.getLast?_eq_getElem?,Yg,Yd (by omega)];simp
theorem Qlh (v:Value) (T:List (List Nat)) (P:List Nat) (hm:Nr T P) (s:List UInt8) (at_:Nat) (hat:at_<=8 * s.length) (hs:s.length<=100000000000000) (w:World) (hp:PlanAt w v T P) :
  Does Ys 84 #[v,Aa s,.int .i64 at_] w (Qs3 (Ef T (At s) ((T.getD 0 []).length - 1) P at_) w):=by
 have hp0:=hp;obtain ⟨ta,tc,pa,pc,hs0,rfl,hsl,hrT,hrP,hrt⟩:=hp;have hm0:=hm;obtain ⟨m1,m2,m3,m4,m5,m6⟩:=hm;have hbl:=D0 s;have hT0:T[0]? = some (T.getD 0 []):=by rw [Yg,Yd (by omega)];rfl
 have hn0:3<=(T.getD 0 []).length/\(T.getD 0 []).length<=258:=by
  obtain ⟨e1,e2,e3⟩:=m5 _ (Yx hT0);exact ⟨e2,e3.2.1⟩
 obtain ⟨qt,rfl⟩:=Dt hrT (by omega);obtain ⟨qp,rfl⟩:=Dt hrP (by omega);obtain ⟨h0,hh0⟩:∃ h0,hs0[0]? = some h0:=⟨_,Yd (by omega)⟩;have hc0:=hrT.2.2 qt rfl 0 _ (Nu hh0 hT0);have hen:#[Xp #[.slice (some qt) T.length tc,.slice (some qp) P.length pc],Aa s,.int .i64 at_]=[Xp (Ai (some qt) T.length tc (some qp) P.length pc).toArray,Aa s,.int .i64 at_].toArray:=rfl;rw [hen];refine Pv 72 Tryz.func84 rfl rfl (of_decide_eq_true rfl) ?_;simp only [Env.ofArgs];generalize hn:(T.getD 0 []).length=n0 at *;generalize hres:Ef T (At s) (n0 - 1) P at_=res;generalize hnt:T.length=nt at *;generalize hnp:P.length=np at *;refine VQ [1,2,3] fun K hK=>?_;refine Eb ?_;refine Qs ?_;have hH:=(Y3 w).box 120 (Ai (some qt) nt tc (some qp) np pc);generalize w.alloc (Yo (Ai (some qt) nt tc (some qp) np pc).toArray 120)=w1 at *;generalize w.heap.size=gp at *;apply hK;clear hK;refine VQ [1,2,3,18] fun K hK=>?_;refine ⟨Ai (some qt) nt tc (some qp) np pc,⟨rfl,Ca (hH.at 0 rfl)⟩,?_⟩;refine Ac U1 ?_;refine Qs ?_;refine Yk (Qar _ T P hm0 w1 (hp0.keep hH)) ?_;rintro v w2 ⟨hHm,rfl⟩;have hH2:=hH.call0 hHm;simp only [Ye] at hH2;clear hH hHm;refine Qs ?_;apply hK;clear hK;refine Ae rfl rfl (fun h=>by simp at h) (fun h=>Ab ?_);clear h;refine VQ [1,2,3,27] fun K hK=>?_
 suffices out:∀ b:Bool,(b=true ↔ False)->K [(1,Aa s),(2,.int .i64 at_),(3,.pointer (some ⟨gp,0,none⟩)),(27,.bool b)] w2 by (repeat' (first | exact out _ _ (by first | omega | (simp;done) | (simp;omega)) | exact out _ (by first | omega | (simp;done) | (simp;omega)) | refine ⟨fun _=>?_,fun _=>?_⟩ | refine Qo ?_))
 intro b hb;apply hK;clear hK;refine Ae rfl rfl (fun h=>(hb.1 h).elim) (fun h=>Ab ?_);clear hb h;have c0:w2.cell? ⟨gp,0,none⟩=some (.slice (some qt) nt tc):=Aj (hH2.at 0 rfl) rfl;have c1:w2.cell? ⟨gp,1,none⟩=some (.slice (some qp) np pc):=Aj (hH2.at 0 rfl) rfl;have hc2:=(hH2.rs' hrT).2.2 qt rfl 0 _ (Nu hh0 hT0);rw [hn] at hc2;refine VQ [1,2,3,9] fun K hK=>?_;refine ⟨_,c0,?_⟩;refine Qs ?_;refine ⟨by omega,_,hc2,?_⟩;refine Qs ?_;(repeat first | refine Qo ?_ | refine Qp ?_);rw [show ((n0:Int) - 1)=((n0 - 1:Nat):Int) by omega];apply hK;clear hK;refine VS [1,2,3,9,10] ?_;refine VQ [1,2,3,9,10,35,36,37] fun K hK=>?_;refine ⟨_,c1,?_⟩;refine Qs ?_;apply hK;clear hK;clear c0 c1 hc2 hc0;generalize hfin:n0 - 1=fin at *;refine Ar ?_;refine Au [1,2,3,9,10,35,36,37] (fun m e w'=>∃ (i at2 cap:Nat) (D:List Nat) (a:Option Addr),Is e [(1,Aa s),(2,.int .i64 at2),(3,.pointer (some ⟨gp,0,none⟩)),(9,.int .i64 fin),(10,.slice a D.length cap),(35,.slice (some qp) np pc),(36,.int .i64 np),(37,.int .i64 i)]/\Heap w [] w' [Yr 3 1 a D.length cap (Ag D),Yn gp 120 (Ai (some qt) nt tc (some qp) np pc)]/\at2<=8 * s.length/\D.length<=50 * i/\(match Ef T (At s) fin (P.drop i) at2 with | .error e=>.error e | .ok x=>.ok (D++x.1,x.2))=res/\i<=np/\m=np - i) np ?_ ?_
 ·
  refine Qs ?_;refine ⟨0,at_,0,[],none,rfl,hH2.nilRow 3 1,hat,by simp,?_,by omega,rfl⟩;rw [<- hres,Y2];cases Ef T (At s) fin P at_ <;> rfl
 clear hH2 hres;rintro m e w3 ⟨i,at2,cap,D,a,rfl,hH,hat2,hDl,hres,hi,rfl⟩;refine VS [1,2,3,9,10,35,36,37,38] ?_;(repeat refine Ax ?_);refine VD (fun h=>?_) (fun h=>?_)
 ·
  have hcp:=Ek (hH.rs' hrP) (i:=i) (by omega);have hpx:=m6 _ (Dr 0 (l:=P) (i:=i) (by omega));have hdp:P.drop i=P.getD i 0::P.drop (i+1):=drop_getD 0 (by omega);rw [hdp,Ef] at hres;generalize P.getD i 0=k at *;have hTk:T[k]? = some (T.getD k []):=by rw [Yg,Yd (by omega)];rfl
  obtain ⟨hh,hhk⟩:∃ hh,hs0[k]? = some hh:=⟨_,Yd (by omega)⟩;have hck:=(hH.rs' hrT).2.2 qt rfl k _ (Nu hhk hTk);have hrt2:=hH.rs' (hrt k hh _ hhk hTk);obtain ⟨e1,e2,e3⟩:=m5 _ (Yx hTk);generalize T.getD k []=t at *;have hal:=Qzn t e3 s at2 50 fin hat2 hs (by omega) (by omega) hh.1 hh.2 w3 hrt2;have hag:=fun q=>Qpm (l:=t) (bits:=At s) (fin:=fin) 50 at2 q (by omega);have hae:=fun e=>Qjx (l:=t) (bits:=At s) (fin:=fin) 50 at2 e;generalize C5 t (At s) fin 50 at2=r at *;have c0:w3.cell? ⟨gp,0,none⟩=some (.slice (some qt) nt tc):=Aj (hH.at 1 rfl) rfl;refine Ab ?_;refine VB ?_;refine VQ [1,2,3,9,10,12,35,36,37] fun K hK=>?_;refine ⟨⟨by omega,by omega⟩,_,hcp,?_⟩;apply hK;clear hK;refine VQ [1,3,9,10,13,14,15,35,36,37] fun K hK=>?_;refine ⟨_,c0,?_⟩;refine Qs ?_;refine ⟨⟨by omega,by omega⟩,_,hck,?_⟩;refine Ac Tryz.call126 ?_;refine Qs ?_;refine Yk hal ?_;intro v w4 hEx;cases r with
  | error e =>
   obtain ⟨hHe,rfl⟩:=hEx;subst hres;have hH2:=hH.call0 hHe;simp only [Ye] at hH2;apply hK;clear hK;refine VS [1,3,9,10,13,14,15,35,36,37,55] ?_;refine Vi (fun h=>?_) (fun h=>?_)
   ·
    refine VS [6,7,8] ?_;exact Ad (Dh rfl rfl rfl rfl ⟨hH2.sub (by simp),rfl⟩)
   simp at h;exact absurd h (hae e rfl)
  | ok q =>
   obtain ⟨aq,cq,hHq,rfl⟩:=hEx;obtain ⟨q1,q2,q3⟩:=hag q rfl;replace q3:=q3 (by omega);simp only at hres;have hH2:=hH.call0 hHq;simp only [Yq] at hH2;obtain ⟨gq,rfl⟩:=Ir (hH2.at 0 rfl) q3;clear hH hHq;apply hK;clear hK;refine VS [1,3,9,10,13,14,15,35,36,37,55] ?_;refine Ae rfl rfl (fun h=>by simp at h) (fun h=>Ab ?_);clear h;refine VQ [1,3,9,10,13,14,35,36,37] fun K hK=>?_;refine Cl ?_;refine Qs ?_;refine Ew (zs:=#[.int .i64 0]) (bytes:=8) hH2 1 rfl Ym (by kernel_rfl) rfl ⟨rfl,Az (hH2.at 0 rfl),3,Ym⟩ (Q8 _) (fun h=>by omega) fun a' cap' w5 hc' hH3=>?_;simp only [Yc,Yb] at hH3;rw [<- R7,<- Yh] at hH3;rw [<- Yh];apply hK;clear hK;refine VS [1,2,3,9,10,13,35,36,37] ?_;have hce:=Cn (hH3.at 0 rfl) (F3 (l:=q.1) (i:=q.1.length - 1) (by omega));refine VQ [1,2,3,9,10,35,36,37,68] fun K hK=>?_;(repeat first | refine Qo ?_ | refine Qp ?_);refine ⟨_,hce,?_⟩;refine Qs ?_;apply hK;clear hK;clear hce;refine VD (fun h=>?_) (fun h=>Ab ?_)
   ·
    rw [if_pos ((Qdd q3 fin).2 (by omega))] at hres;subst hres;refine VS [6,7,8] ?_;exact Ad (Dh rfl rfl rfl rfl ⟨a',cap',hH3.sub (by simp),rfl⟩)
   rw [if_neg (fun e=>h (by have:=(Qdd q3 fin).1 e;omega))] at hres;refine Ao ?_;refine VS [1,2,3,9,10,35,36,37] ?_;refine Ah ?_;refine Qs ?_;refine ⟨np - (i+1),by omega,i+1,q.2,cap',D++q.1,a',rfl,hH3.sub (Yt _ _),by omega,by simp;omega,?_,by omega,rfl⟩;rw [<- hres];cases Ef T (At s) fin (P.drop (i+1)) q.2 with
   | error e=>rfl
   | ok y=>simp
 obtain rfl:i=np:=by omega
 rw [Y7 (by omega),Ef] at hres;subst hres;refine As rfl ?_;refine VS [6,7,8] ?_;exact Ad (Dh rfl rfl rfl rfl ⟨hH.sub (by simp),rfl⟩)
theorem F4 (ta:Option Addr) (nt tc:Nat) (pa:Option Addr) (np pc:Nat):∀ u∈Ai ta nt tc pa np pc,u.oneCell'=true:=by
 intro u hu;simp [Ai] at hu;rcases hu with rfl | rfl <;> rfl
theorem Qd1 {w:World}{v:Value}{T:List (List Nat)}{P:List Nat}{ta pa:Option Addr}{nt tc np pc:Nat}{hs:List (Option Addr×Nat)} (hv:v=.agg (Ai ta nt tc pa np pc).toArray) (hnt:T.length=nt) (hnp:P.length=np) (hl:hs.length=nt) (h1:RS w ta nt 1 (Dp hs T)) (h2:RS w pa np 1 (Ag P))
  (h3:∀ (i:Nat) (h:Option Addr×Nat) (t:List Nat),hs[i]? = some h->T[i]? = some t->RS w h.1 t.length 1 (Ag t)):PlanAt w v T P:=by
 subst hnt hnp;exact ⟨ta,tc,pa,pc,hs,hv,hl,h1,h2,h3⟩
set_option maxHeartbeats 4000000
theorem Bo {P:Program}{N:Nat}{ops:List Oper}{w0:World}{e:Env}{w:World}{K:Env->World->Prop}:Ap P N ops w0 [] e w K=K e w:=rfl
abbrev QJk:Value:=.agg (Ai none 0 0 none 0 0).toArray
def QJl (r:Except Int ((List (List Nat)×List Nat)×Nat)) (w:World) (v:Value) (w':World):Prop:=match r with
 | .ok q=>∃ pv,Heap w [] w' []/\PlanAt w' pv q.1.1 q.1.2/\v=.tuple #[pv,.int .i64 q.2,.int .i64 0]
 | .error e=>Heap w [] w' []/\v=.tuple #[QJk,.int .i64 0,.int .i64 e]
theorem Qir (s:List UInt8) (at_ n:Nat) (ha:at_<=8 * s.length) (hs:s.length<=100000000000000) (hn:3<=n/\n<=258) (w:World) :
  Does Ys 83 #[Aa s,.int .i64 at_,.int .i64 n] w (QJl (I7 (At s) at_ n) w):=by
 have hbl:=D0 s;generalize hres:I7 (At s) at_ n=res;unfold I7 at hres;refine En [Aa s,.int .i64 at_,.int .i64 n] 122 Tryz.func83 ?_;refine VQ [0,1,2,6] fun K hK=>?_;refine A6 (.agg #[.slice none 0 0,.slice none 0 0]) (by kernel_rfl) ?_;refine Qs ?_;have hH:=(Y3 w).box 120 (Ai none 0 0 none 0 0);have hpl:[Xq none 0 0,Xq none 0 0]=Ai none 0 0 none 0 0:=rfl;rw [hpl];generalize w.alloc (Yo (Ai none 0 0 none 0 0).toArray 120)=w1 at *;generalize w.heap.size=gr at *;apply hK;clear hK;refine VQ [0,2,6,9] fun K hK=>?_;refine Ac Tryz.call68 ?_;refine Qs ?_;refine Yk (Q3 s at_ w1 (Xt (by omega) (by omega)) (by omega)) ?_;rintro v w2 (⟨hbad,_⟩ | ⟨_,gd,gs,hHr,rfl⟩)
 ·
  omega
 rw [Yz] at hHr;have hH2:=hH.call0 hHr;simp only [Yq] at hH2;clear hH hHr;apply hK;clear hK;refine VQ [0,2,6,9,32] fun K hK=>?_
 suffices out:∀ b:Bool,(b=true ↔ False)->K [(0,Aa s),(2,.int .i64 n),(6,.pointer (some ⟨gr,0,none⟩)),(9,.pointer (some ⟨gd,0,none⟩)),(32,.bool b)] w2 by (repeat' (first | exact out _ _ (by first | omega | (simp;done) | (simp;omega)) | exact out _ (by first | omega | (simp;done) | (simp;omega)) | refine ⟨fun _=>?_,fun _=>?_⟩ | refine Qo ?_))
 intro b hb;apply hK;clear hK;refine Ae rfl rfl (fun h=>(hb.1 h).elim) (fun h=>Ab ?_);clear hb h;refine VQ [0,2,6,9,10,11] fun K hK=>?_;refine Ac Gd ?_;refine Qs ?_;refine Yk (Ot gd gs s at_ 3 w2 (by omega) (by omega) (by omega) (hH2.focus 0 rfl)) ?_;rintro v w3 (⟨h1,rfl,rfl⟩ | ⟨h1,hHt,rfl⟩)
 ·
  rw [Ze (by omega),if_pos (by simp)] at hres;subst hres;apply hK;clear hK;refine VS [0,2,6,9,10,11,40] ?_;refine Ae rfl rfl (fun h=>?_) (fun h=>by simp at h);refine VQ [6,7,8] fun K hK=>?_
  (refine Af ?_;refine Qs ?_)
  refine Al hH2 1 (vs:=Ai none 0 0 none 0 0) rfl rfl (by kernel_rfl) (by simp [Ai]) (F4 _ _ _ _ _ _) fun w4 hH3=>?_;simp only [Yb,Yc] at hH3;apply hK;clear hK;refine Ad (I5 rfl rfl rfl rfl (Cv (hH3.at 1 rfl) (by kernel_rfl) (by kernel_rfl) rfl ?_));exact ⟨hH3.sub (by simp),rfl⟩
 have hH3:=hH2.call1 0 rfl hHt;simp only [Yb,Ye] at hH3;clear hH2 hHt;rw [Qcd (by omega),if_neg (by simp)] at hres;simp only at hres;have hm7:=K8 (((At s).drop at_).take 3);have hfl:(((At s).drop at_).take 3).length=3:=by simp;omega
 rw [hfl] at hm7;generalize Bc (((At s).drop at_).take 3)=many at *;apply hK;clear hK;refine VS [0,2,6,9,10,11,40] ?_;refine Ae rfl rfl (fun h=>by simp at h) (fun h=>Ab ?_);clear h;refine VQ [0,2,6,9,10,48] fun K hK=>?_
 suffices out:∀ b:Bool,(b=true ↔ (many < 2∨6 < many))->K [(0,Aa s),(2,.int .i64 n),(6,.pointer (some ⟨gr,0,none⟩)),(9,.pointer (some ⟨gd,0,none⟩)),(10,.int .u64 many),(48,.bool b)] w3 by (repeat' (first | exact out _ _ (by first | omega | (simp;done) | (simp;omega)) | exact out _ (by first | omega | (simp;done) | (simp;omega)) | refine ⟨fun _=>?_,fun _=>?_⟩ | refine Qo ?_))
 intro b hb;apply hK;clear hK;refine Vi (fun h=>?_) (fun h=>?_)
 ·
  rw [if_pos (hb.1 h)] at hres;subst hres;refine VQ [6,7,8] fun K hK=>?_
  (refine Af ?_;refine Qs ?_)
  refine Al hH3 1 (vs:=Ai none 0 0 none 0 0) rfl rfl (by kernel_rfl) (by simp [Ai]) (F4 _ _ _ _ _ _) fun w4 hH4=>?_;simp only [Yb,Yc] at hH4;apply hK;clear hK;refine Ad (I5 rfl rfl rfl rfl (Cv (hH4.at 1 rfl) (by kernel_rfl) (by kernel_rfl) rfl ?_));exact ⟨hH4.sub (by simp),rfl⟩
 have hb2:¬ (many < 2∨6 < many):=fun hc=>by rw [hb.2 hc] at h;cases h
 rw [if_neg hb2] at hres;clear hb h;refine Ab ?_;refine VQ [0,2,6,9,10,11,12] fun K hK=>?_;refine Ac Gd ?_;refine Qs ?_;refine Yk (Ot gd gs s (at_+3) 15 w3 (by omega) (by omega) (by omega) (hH3.focus 0 rfl)) ?_;rintro v w4 (⟨h2,rfl,rfl⟩ | ⟨h2,hHt,rfl⟩)
 ·
  rw [Ze (by omega),if_pos (by simp)] at hres;subst hres;apply hK;clear hK;refine VS [0,2,6,9,10,11,12,56] ?_;refine Ae rfl rfl (fun h=>?_) (fun h=>by simp at h);refine VQ [6,7,8] fun K hK=>?_
  (refine Af ?_;refine Qs ?_)
  refine Al hH3 1 (vs:=Ai none 0 0 none 0 0) rfl rfl (by kernel_rfl) (by simp [Ai]) (F4 _ _ _ _ _ _) fun w4 hH4=>?_;simp only [Yb,Yc] at hH4;apply hK;clear hK;refine Ad (I5 rfl rfl rfl rfl (Cv (hH4.at 1 rfl) (by kernel_rfl) (by kernel_rfl) rfl ?_));exact ⟨hH4.sub (by simp),rfl⟩
 have hH4:=hH3.call1 0 rfl hHt;simp only [Yb,Ye] at hH4;clear hH3 hHt;rw [Qcd (by omega),if_neg (by simp)] at hres;simp only at hres;have hm7b:=K8 (((At s).drop (at_+3)).take 15);have hflb:(((At s).drop (at_+3)).take 15).length=15:=by simp;omega
 rw [hflb] at hm7b;generalize Bc (((At s).drop (at_+3)).take 15)=np at *;apply hK;clear hK;refine VS [0,2,6,9,10,11,12,56] ?_;refine Ae rfl rfl (fun h=>by simp at h) (fun h=>Ab ?_);clear h;refine VS [0,2,6,9,10,12,60] ?_;refine VD (fun h=>?_) (fun h=>Ab ?_)
 ·
  rw [if_pos (by omega)] at hres;subst hres;refine VQ [6,7,8] fun K hK=>?_
  (refine Af ?_;refine Qs ?_)
  refine Al hH4 1 (vs:=Ai none 0 0 none 0 0) rfl rfl (by kernel_rfl) (by simp [Ai]) (F4 _ _ _ _ _ _) fun w5 hH5=>?_;simp only [Yb,Yc] at hH5;apply hK;clear hK;refine Ad (I5 rfl rfl rfl rfl (Cv (hH5.at 1 rfl) (by kernel_rfl) (by kernel_rfl) rfl ?_));exact ⟨hH5.sub (by simp),rfl⟩
 rw [if_neg (by omega),show at_+3+15=at_+18 by omega] at *;have hat2:at_+18<=8 * s.length:=by omega
 refine VQ [0,2,6,9,10,12,13] fun K hK=>?_;refine A6 (.agg #[.slice none 0 0,.slice none 0 0]) (by kernel_rfl) ?_;refine Qs ?_;have hH5:=hH4.box 120 (Ai none 0 0 none 0 0);rw [hpl];generalize w4.alloc (Yo (Ai none 0 0 none 0 0).toArray 120)=w5 at *;generalize w4.heap.size=gp at *;clear hH4;apply hK;clear hK;refine VQ [0,2,6,9,10,12,13,14] fun K hK=>?_;(repeat first | refine Qo ?_ | refine Qp ?_);refine Ac Tryz.call105 ?_;refine Qs ?_;refine Yk (Qda many (by omega) (by omega) w5) ?_;rintro v w6 ⟨go,hHo,rfl⟩;have hH6:=hH5.call0 hHo;simp only [Yq] at hH6;clear hH5 hHo;apply hK;clear hK
 have hH7:Heap w [] w6 [Yr 3 1 (some ⟨go,0,none⟩) many many (Ag (Yf many)),rd gd gs s (at_+18),Yr 3 1 none 0 0 (Ag []),Yn gp 120 (Ai none 0 0 none 0 0),Yn gr 120 (Ai none 0 0 none 0 0)] :=
  (hH6.nilRow 3 1).perm ((List.Perm.swap _ _ _).trans (List.Perm.cons _ ((List.Perm.cons _ (List.Perm.swap _ _ _)).trans (List.Perm.swap _ _ _))))
 clear hH6;refine VS [0,2,6,9,10,13,14,65,66] ?_;generalize hpt:Fs (At s) many (Yf many) np (at_+18)=rp at *;have hpok:=fun q=>Qlz (bits:=At s) (many:=many) (by omega) np (Yf many) (at_+18) q (by simp) (by omega);have hperr:=fun e=>Qhq (bits:=At s) (many:=many) np (Yf many) (at_+18) e;rw [hpt] at hpok hperr;refine Ar ?_;refine Au [0,2,6,9,10,13,14,65,66] (fun m e w'=>∃ (i at2 cP:Nat) (aP:Option Addr) (li D:List Nat),Is e [(0,Aa s),(2,.int .i64 n),(6,.pointer (some ⟨gr,0,none⟩)),(9,.pointer (some ⟨gd,0,none⟩)),(10,.int .u64 many),(13,.pointer (some ⟨gp,0,none⟩)),(14,.slice (some ⟨go,0,none⟩) many many),(65,.int .u64 np),(66,.int .u64 i)]/\Heap w [] w' [Yr 3 1 (some ⟨go,0,none⟩) many many (Ag li),rd gd gs s at2,Yr 3 1 aP D.length cP (Ag D),Yn gp 120 (Ai none 0 0 aP D.length cP),Yn gr 120 (Ai none 0 0 none 0 0)]/\li.length=many/\D.length=i/\at2<=8 * s.length/\(match Fs (At s) many li (np - i) at2 with | .error e=>.error e | .ok q=>.ok (D++q.1,q.2))=rp/\i<=np/\m=np - i) np ?_ ?_
 ·
  refine Qs ?_;refine ⟨0,at_+18,0,none,Yf many,[],rfl,hH7,by simp,rfl,hat2,?_,by omega,rfl⟩;rw [U4,hpt];cases rp <;> rfl
 clear hH7 hpt;rintro m e w7 ⟨i,at2,cP,aP,li,D,rfl,hH,hlil,hDl,hat,hrp,hi,rfl⟩;refine VS [0,2,6,9,10,13,14,65,66,67] ?_;(repeat refine Ax ?_);refine VD (fun h=>?_) (fun h=>?_)
 ·
  obtain ⟨k,hk⟩:∃ k,np - i=k+1:=⟨np - i - 1,by omega⟩;rw [hk,Fs] at hrp;have hud:=Qq1 gd gs s at2 (many - 1) w7 (by omega) hat (by omega) (hH.focus 1 rfl);generalize hU:C0 ((At s).drop at2) (many - 1) 0=U at *;obtain ⟨u,ue⟩:=U;simp only at hrp hud;refine Ab ?_;refine VB ?_;refine VQ [0,2,6,9,10,13,14,15,16,65,66] fun K hK=>?_;(repeat first | refine Qo ?_ | refine Qp ?_);rw [show ((many:Int) - 1)=((many - 1:Nat):Int) by omega];refine Ac Tryz.call123 ?_;refine Qs ?_;refine Yk hud ?_;rintro v w8 ⟨rfl,hcs⟩;apply hK;clear hK;refine VS [0,2,6,9,10,13,14,15,16,65,66,77] ?_;refine Dk [0,2,6,9,10,13,14,15,16,65,66] (fun e w'=>Is e [(0,Aa s),(2,.int .i64 n),(6,.pointer (some ⟨gr,0,none⟩)),(9,.pointer (some ⟨gd,0,none⟩)),(10,.int .u64 many),(13,.pointer (some ⟨gp,0,none⟩)),(14,.slice (some ⟨go,0,none⟩) many many),(15,.int .i64 u),(16,.int .i64 (if ue=3 then 110 else ue)),(65,.int .u64 np),(66,.int .u64 i)]/\Is w' w8) ?_ ?_
  ·
   refine VD (fun h=>?_) (fun h=>?_)
   ·
    refine VS [0,2,6,9,10,13,14,15,16,65,66] ?_;refine Ah ?_;refine Qs ?_;exact ⟨by rw [if_pos h];rfl,rfl⟩
   refine Ab ?_;refine Ah ?_;refine Qs ?_;exact ⟨by rw [if_neg h];rfl,rfl⟩
  rintro e w9 ⟨rfl,rfl⟩;refine VS [0,2,6,9,10,13,14,15,16,65,66,79] ?_;rcases hcs with ⟨hne,rfl⟩ | ⟨hue,hul,hum,hHu⟩
  ·
   rw [if_pos hne] at hrp;subst hrp;subst hres;have hx:(if ue=3 then 110 else ue)≠0:=by split <;> omega
   generalize (if ue=3 then 110 else ue)=x at *;refine Ae rfl rfl (fun h=>?_) (fun h=>by simp at h;exact absurd h hx);refine VQ [6,7,8] fun K hK=>?_
   (refine Af ?_;refine Qs ?_)
   refine Al hH 4 (vs:=Ai none 0 0 none 0 0) rfl rfl (by kernel_rfl) (by simp [Ai]) (F4 _ _ _ _ _ _) fun w5 hH5=>?_;simp only [Yb,Yc] at hH5;apply hK;clear hK;refine Ad (I5 rfl rfl rfl rfl (Cv (hH5.at 4 rfl) (by kernel_rfl) (by kernel_rfl) rfl ?_));exact ⟨hH5.sub (by simp),rfl⟩
  subst hue;rw [if_neg (by simp)] at hrp;have hH2:=hH.call1 1 rfl hHu;simp only [Yb,Yc,Ye] at hH2;clear hH hHu;have hmvl:=Tu (li:=li) (at_:=u) (by omega);have hmd:=Qdb li go many u (by omega) (by omega) w w9 [] _ (by rw [hlil];exact hH2);rw [hlil] at hmd;refine Ae rfl rfl (fun h=>by simp at h) (fun h=>Ab ?_);clear h;refine V3 (bare w9) (Zn _ _) [0,2,6,9,10,13,14,65,66] (.two [(0,true),(2,true),(3,true)] 1 4 (.seq [(4,false),(5,false),(6,false),(7,true),(8,false)]) (.two [] 1 5 (.seq [(5,false),(6,false),(7,true),(8,false)]) (.seq [(1,false),(6,false),(7,true),(8,false)]))) fun K hK=>?_
  suffices out:∀ a' c' w10,Heap w [] w10 [Yr 3 1 (some ⟨go,0,none⟩) many many (Ag (Kc li u)),rd gd gs s (at2+u+1),Yr 3 1 a' (D++[li.getD u 0]).length c' (Ag (D++[li.getD u 0])),Yn gp 120 (Ai none 0 0 a' (D++[li.getD u 0]).length c'),Yn gr 120 (Ai none 0 0 none 0 0)]->K [(0,Aa s),(2,.int .i64 n),(6,.pointer (some ⟨gr,0,none⟩)),(9,.pointer (some ⟨gd,0,none⟩)),(10,.int .u64 many),(13,.pointer (some ⟨gp,0,none⟩)),(14,.slice (some ⟨go,0,none⟩) many many),(65,.int .u64 np),(66,.int .u64 i)] w10 by
   generalize hx:li.getD u 0=x at *;have c0:w9.cell? ⟨gp,1,none⟩=some (.slice aP D.length cP):=Aj (hH2.at 3 rfl) (show (Ai none 0 0 aP D.length cP)[1]? = some _ from rfl);simp only [Nq,Bd,List.filterMap_cons,List.filterMap_nil,List.getElem?_cons_succ,List.getElem?_cons_zero,Option.map_some];refine Qs ?_;simp only [Bo];refine Qs ?_;refine And.intro ?_ ?_
   ·
    refine ⟨_,c0,?_⟩;(try simp only [Bo]);refine Ac U2 ?_;refine Qs ?_;refine Yk hmd ?_;rintro v w10 ⟨hH3,rfl⟩;(try simp only [Bo]);refine Fb hH3 (Ag [x]) (xs:=[.tmp 86]) Ym Lj rfl rfl rfl (by omega) ?_;refine Qs ?_;refine ⟨rfl,by simp [Xi],fun g w4 hH4=>?_⟩;(try refine Qs ?_);(try simp only [Bo]);refine Cl ?_;refine Qs ?_;refine Ew (zs:=#[.int .i64 0]) (bytes:=8) hH4 3 rfl Ym (by kernel_rfl) rfl ⟨rfl,Az (hH4.at 0 rfl),3,Ym⟩ (Q8 _) (fun h=>by omega) fun a' cap' w12 hc' hH5=>?_;simp only [Yc,Yb] at hH5;skip;(try simp only [Bo]);skip;refine Af ?_;refine Qs ?_;refine Al hH5 4 (vs:=[.slice a' (D.length+1) cap']) rfl rfl (by kernel_rfl) (by simp [Ai]) (by simp [Yl]) fun w13 hH6=>?_;simp only [Yc,Yb] at hH6;skip;(try simp only [Bo]);skip;refine out a' cap' w13 ?_;rw [R7,Yh];exact hH6.sub (Yt _ _)
   refine Ac U2 ?_;refine Qs ?_;refine Yk hmd ?_;rintro v w10 ⟨hH3,rfl⟩;have c1:w10.cell? ⟨gp,1,none⟩=some (.slice aP D.length cP):=Aj (hH3.at 3 rfl) (show (Ai none 0 0 aP D.length cP)[1]? = some _ from rfl);(try simp only [Bo]);refine Qs ?_;refine And.intro ?_ ?_
   ·
    refine ⟨_,c1,?_⟩;(try simp only [Bo]);refine Fb hH3 (Ag [x]) (xs:=[.tmp 86]) Ym Lj rfl rfl rfl (by omega) ?_;refine Qs ?_;refine ⟨rfl,by simp [Xi],fun g w4 hH4=>?_⟩;(try refine Qs ?_);(try simp only [Bo]);refine Cl ?_;refine Qs ?_;refine Ew (zs:=#[.int .i64 0]) (bytes:=8) hH4 3 rfl Ym (by kernel_rfl) rfl ⟨rfl,Az (hH4.at 0 rfl),3,Ym⟩ (Q8 _) (fun h=>by omega) fun a' cap' w12 hc' hH5=>?_;simp only [Yc,Yb] at hH5;skip;(try simp only [Bo]);skip;refine Af ?_;refine Qs ?_;refine Al hH5 4 (vs:=[.slice a' (D.length+1) cap']) rfl rfl (by kernel_rfl) (by simp [Ai]) (by simp [Yl]) fun w13 hH6=>?_;simp only [Yc,Yb] at hH6;skip;(try simp only [Bo]);skip;refine out a' cap' w13 ?_;rw [R7,Yh];exact hH6.sub (Yt _ _)
   refine Fb hH3 (Ag [x]) (xs:=[.tmp 86]) Ym Lj rfl rfl rfl (by omega) ?_;refine Qs ?_;refine ⟨rfl,by simp [Xi],fun g w4 hH4=>?_⟩;(try refine Qs ?_);have c2:w4.cell? ⟨gp,1,none⟩=some (.slice aP D.length cP):=Aj (hH4.at 4 rfl) (show (Ai none 0 0 aP D.length cP)[1]? = some _ from rfl);(try simp only [Bo]);refine Qs ?_;refine ⟨_,c2,?_⟩;(try simp only [Bo]);refine Cl ?_;refine Qs ?_;refine Ew (zs:=#[.int .i64 0]) (bytes:=8) hH4 3 rfl Ym (by kernel_rfl) rfl ⟨rfl,Az (hH4.at 0 rfl),3,Ym⟩ (Q8 _) (fun h=>by omega) fun a' cap' w12 hc' hH5=>?_;simp only [Yc,Yb] at hH5;skip;(try simp only [Bo]);skip;refine Af ?_;refine Qs ?_;refine Al hH5 4 (vs:=[.slice a' (D.length+1) cap']) rfl rfl (by kernel_rfl) (by simp [Ai]) (by simp [Yl]) fun w13 hH6=>?_;simp only [Yc,Yb] at hH6;skip;(try simp only [Bo]);skip;refine out a' cap' w13 ?_;rw [R7,Yh];exact hH6.sub (Yt _ _)
  intro a' c' w10 hH3;clear hH2 hmd;apply hK;clear hK;refine Ao ?_;refine VS [0,2,6,9,10,13,14,65,66] ?_;refine Ah ?_;refine Qs ?_;rw [show (((i:Int)+1) % 18446744073709551616)=((i+1:Nat):Int) by omega];refine ⟨np - (i+1),by omega,i+1,at2+u+1,c',a',Kc li u,D++[li.getD u 0],rfl,hH3,by omega,by simp [hDl],by omega,?_,by omega,rfl⟩;rw [<- hrp,show np - (i+1)=k by omega];cases Fs (At s) many (Kc li u) k (at2+u+1) with
  | error e=>rfl
  | ok y=>simp
 have hi2:i=np:=by omega
 rw [hi2,Xb,Fs] at hrp;rw [hi2] at hDl;simp only [Yi] at hrp;clear h hi hi2;subst hrp;obtain ⟨hp1,hp2,hp3⟩:=hpok _ rfl;simp only at hres;clear hpok hperr hlil;refine As rfl ?_;refine VQ [0,1,2,6,10,13] fun K hK=>?_;refine Ac Tryz.call122 ?_;refine Qs ?_;refine Yk (Vp gd gs at2 s w7 (hH.at 1 rfl)) ?_;rintro v w8 ⟨rfl,rfl⟩;apply hK;clear hK;refine VS [0,1,2,6,13,93,94] ?_;have htok:=fun q=>Ql0 (bits:=At s) (n:=n) many at2 q (by omega);have hterr:=fun e=>Qhr (bits:=At s) (n:=n) many at2 e;generalize htt:Ft (At s) n many at2=rt at *;refine Ar ?_;refine Au [0,1,2,6,13,93,94] (fun m e w'=>∃ (t at3 cT:Nat) (aT:Option Addr) (us:List (Option Addr×Nat)) (T:List (List Nat)),Is e [(0,Aa s),(1,.int .i64 at3),(2,.int .i64 n),(6,.pointer (some ⟨gr,0,none⟩)),(13,.pointer (some ⟨gp,0,none⟩)),(93,.int .u64 many),(94,.int .u64 t)]/\Heap w [] w' (Yr 114 1 aT t cT (Dp us T)::Yr 3 1 aP np cP (Ag D)::Yn gp 120 (Ai aT t cT aP np cP)::Yn gr 120 (Ai none 0 0 none 0 0)::Nn us T)/\us.length=t/\T.length=t/\at3<=8 * s.length/\(match Ft (At s) n (many - t) at3 with | .error e=>.error e | .ok q=>.ok (T++q.1,q.2))=rt/\t<=many/\m=many - t) many ?_ ?_
 ·
  refine Qs ?_;refine ⟨0,at2,0,none,[],[],rfl,?_,rfl,rfl,hat,?_,by omega,rfl⟩
  ·
   have h7:=(hH.sub (.cons _ (.cons _ (.refl _)))).nilRow 114 1;rw [hDl] at h7;exact h7
  rw [U4,htt];cases rt <;> rfl
 clear hH htt;rintro m e w9 ⟨t,at3,cT,aT,us,T,rfl,hH,hus,hTl,hat3,hrt,ht,rfl⟩;refine VS [0,1,2,6,13,93,94,95] ?_;(repeat refine Ax ?_);refine VD (fun h=>?_) (fun h=>?_)
 ·
  obtain ⟨k,hk⟩:∃ k,many - t=k+1:=⟨many - t - 1,by omega⟩;rw [hk,Ft] at hrt;have hdt:=Qfw s at3 n hat3 hs (by omega) w9;have hdok:=fun q=>Qc2 (bits:=At s) (at_:=at3) (n:=n) (q:=q);have hderr:=fun e=>Qbs (bits:=At s) (at_:=at3) (n:=n) (e:=e);generalize Kn (At s) at3 n=rd1 at *;refine Ab ?_;refine VB ?_;refine VQ [0,2,6,13,17,18,19,93,94] fun K hK=>?_;refine Ac Tryz.call124 ?_;refine Qs ?_;refine Yk hdt ?_;intro v w10 hEx;cases rd1 with
  | error e =>
   obtain ⟨hHe,rfl⟩:=hEx;have hne:=hderr e rfl;subst hrt;subst hres;have hH2:=hH.call0 hHe;simp only [Ye] at hH2;apply hK;clear hK;refine VS [0,2,6,13,17,18,19,93,94,105] ?_;(repeat refine Ax ?_);refine Dk [0,2,6,13,19,93,94] (fun e' w'=>Is e' [(0,Aa s),(2,.int .i64 n),(6,.pointer (some ⟨gr,0,none⟩)),(13,.pointer (some ⟨gp,0,none⟩)),(19,.int .i64 e),(93,.int .u64 many),(94,.int .u64 t)]/\Is w' w10) ?_ ?_
   ·
    refine Ae rfl rfl (fun h=>by simp at h;exact absurd h hne) (fun h=>?_);refine Ab ?_;refine Ah ?_;refine Qs ?_;exact ⟨rfl,rfl⟩
   rintro e' w' ⟨rfl,rfl⟩;refine VS [0,2,6,13,19,93,94,109] ?_;refine Ae rfl rfl (fun h=>?_) (fun h=>by simp at h;exact absurd h hne);refine VQ [6,7,8] fun K hK=>?_
   (refine Af ?_;refine Qs ?_)
   refine Al hH2 3 (vs:=Ai none 0 0 none 0 0) rfl rfl (by kernel_rfl) (by simp [Ai]) (F4 _ _ _ _ _ _) fun w5 hH5=>?_;simp only [Yb,Yc] at hH5;apply hK;clear hK;refine Ad (I5 rfl rfl rfl rfl (Cv (hH5.at 3 rfl) (by kernel_rfl) (by kernel_rfl) rfl ?_));exact ⟨hH5.sub (by simp),rfl⟩
  | ok q =>
   obtain ⟨aq,cq,hHq,rfl⟩:=hEx;obtain ⟨q1,q2⟩:=hdok q rfl;simp only at hrt;have hH2:=hH.call0 hHq;simp only [Yq] at hH2;clear hH hHq;have hck:=Qak q.1 aq cq w10 (Az (hH2.at 0 rfl));apply hK;clear hK;refine VS [0,2,6,13,17,18,19,93,94,105] ?_;(repeat refine Ax ?_);refine Dk [0,2,6,13,17,18,19,93,94] (fun e' w'=>Is e' [(0,Aa s),(2,.int .i64 n),(6,.pointer (some ⟨gr,0,none⟩)),(13,.pointer (some ⟨gp,0,none⟩)),(17,.slice aq q.1.length cq),(18,.int .i64 q.2),(19,.int .i64 (if Og q.1=true then 0 else 80)),(93,.int .u64 many),(94,.int .u64 t)]/\Is w' w10) ?_ ?_
   ·
    refine Ae rfl rfl (fun h=>?_) (fun h=>by simp at h);refine VQ [0,2,6,13,17,18,19,93,94] fun K hK=>?_;refine Ac Tryz.call125 ?_;refine Qs ?_;refine Yk hck ?_;rintro v w11 ⟨rfl,rfl⟩;apply hK;clear hK;refine Ah ?_;refine Qs ?_;exact ⟨rfl,rfl⟩
   rintro e' w' ⟨rfl,rfl⟩;refine VS [0,2,6,13,17,18,19,93,94,109] ?_;by_cases hokb:Og q.1=true
   ·
    rw [if_pos hokb];rw [if_neg (by simp [hokb])] at hrt;refine Ae rfl rfl (fun h=>by simp at h) (fun h=>Ab ?_);clear h;have hrR:Nn (us++[(aq,cq)]) (T++[q.1])=Nn us T++[Yr 3 1 aq q.1.length cq (Ag q.1)]:=(Qg6 (by omega) _ _ _).symm;have hsS:Dp (us++[(aq,cq)]) (T++[q.1])=Dp us T++Dp [(aq,cq)] [q.1]:=by rw [<- Qlg (by omega)];rfl
    refine VQ [0,2,6,13,18,93,94] fun K hK=>?_;refine ⟨_,Aj (hH2.at 3 rfl) (show (Ai aT t cT aP np cP)[0]? = some _ from rfl),?_⟩;refine Fb hH2 (Dp [(aq,cq)] [q.1]) (xs:=[.tmp 114]) Xu QAs rfl rfl rfl (by omega) ?_;refine Qs ?_;refine ⟨rfl,by simp [Xi],fun gl w12 hH3=>?_⟩;refine Cl ?_;refine Qs ?_;refine Ew (zs:=#[.slice none 0 0]) (bytes:=24) hH3 2 rfl Xu (by kernel_rfl) rfl ⟨rfl,Az (hH3.at 0 rfl),114,Xu⟩ (Qnz _ _) (fun h=>by omega) fun a' cap' w13 hc' hH4=>?_;simp only [Yc,Yb] at hH4;rw [<- hsS] at hH4;refine Af ?_;refine Qs ?_;refine Al hH4 4 (vs:=[.slice a' (t+1) cap']) rfl rfl (by kernel_rfl) (by simp [Ai]) (by simp [Yl]) fun w14 hH5=>?_;simp only [Yc,Yb] at hH5;have hH6:=(hH5.sub (Yt _ _)).perm (Uf _ _).symm;simp only [Y8] at hH6;rw [<- hrR] at hH6;clear hH2 hH3 hH4 hH5;apply hK;clear hK;refine VS [0,1,2,6,13,93,94] ?_;refine Ao ?_;refine VS [0,1,2,6,13,93,94] ?_;refine Ah ?_;refine Qs ?_;rw [show (((t:Int)+1) % 18446744073709551616)=((t+1:Nat):Int) by omega];refine ⟨many - (t+1),by omega,t+1,q.2,cap',a',us++[(aq,cq)],T++[q.1],rfl,hH6,by simp [hus],by simp [hTl],by omega,?_,by omega,rfl⟩;rw [<- hrt,show many - (t+1)=k by omega];cases Ft (At s) n k q.2 with
    | error e=>rfl
    | ok y=>simp
   have hokf:Og q.1=false:=by simpa using hokb
   rw [if_neg hokb];rw [if_pos hokf] at hrt;subst hrt;subst hres;refine Ae rfl rfl (fun h=>?_) (fun h=>by simp at h);refine VQ [6,7,8] fun K hK=>?_
   (refine Af ?_;refine Qs ?_)
   refine Al hH2 4 (vs:=Ai none 0 0 none 0 0) rfl rfl (by kernel_rfl) (by simp [Ai]) (F4 _ _ _ _ _ _) fun w5 hH5=>?_;simp only [Yb,Yc] at hH5;apply hK;clear hK;refine Ad (I5 rfl rfl rfl rfl (Cv (hH5.at 4 rfl) (by kernel_rfl) (by kernel_rfl) rfl ?_));exact ⟨hH5.sub (by simp),rfl⟩
 have ht2:t=many:=by omega
 rw [ht2,Xb,Ft] at hrt;simp only [Yi] at hrt;subst hrt;subst hres;rw [ht2] at hH hus hTl;clear h ht ht2;refine As rfl ?_;refine VQ [6,7,8] fun K hK=>?_;refine ⟨Ai aT many cT aP np cP,⟨rfl,Ca (hH.at 2 rfl)⟩,?_⟩
 (refine Af ?_;refine Qs ?_)
 refine Al hH 3 (vs:=Ai aT many cT aP np cP) rfl rfl (by kernel_rfl) (by simp [Ai]) (F4 _ _ _ _ _ _) fun w10 hH6=>?_;simp only [Yb,Yc] at hH6;apply hK;clear hK;refine Ad (I5 rfl rfl rfl rfl (Cv (hH6.at 3 rfl) (by kernel_rfl) (by kernel_rfl) rfl ?_));refine ⟨_,hH6.sub (by simp),Qd1 rfl hTl hDl hus (Az (hH6.at 0 rfl)) (Az (hH6.at 1 rfl)) (fun i h t h6 h7=>?_),rfl⟩;exact Az (hH6.at (i+4) (show _=some (Yr 3 1 h.1 t.length h.2 (Ag t)) from Qjv h6 h7))
set_option maxHeartbeats 2000000
def Kj (used:List UInt8) (list:List Nat) (row most:Int):List UInt8×Int :=
 if (Kv used.length most (ni list)).2≠0 then ([],(Kv used.length most (ni list)).2)
 else if (K6 used (Kv used.length most (ni list)).1).2≠0 then ([],(K6 used (Kv used.length most (ni list)).1).2)
 else if (L0 (K6 used (Kv used.length most (ni list)).1).1 row).2≠0 then ([],(L0 (K6 used (Kv used.length most (ni list)).1).1 row).2)
 else C6 [] 0 (L0 (K6 used (Kv used.length most (ni list)).1).1 row).1
theorem Qis (used:List UInt8) (list:List Nat) (row most:Int) (la:Option Addr) (lc:Nat) (hu:used.length<=256) (hl:list.length<=2147483640) (hx:∀ x∈list,x<=1000) (hr:I64 row) (hm:I64 most) (w:World) (hrs:RS w la list.length 1 (Ag list)) :
  Does Ys 85 #[Aa used,.slice la list.length lc,.int .i64 row,.int .i64 most] w fun v w'=>Heap w [] w' []/\v=.tuple #[Aa (Kj used list row most).1,.int .i64 (Kj used list row most).2]:=by
 have hnl:(ni list).length=list.length:=by simp [ni]
 have hzd:=Qv2 used.length most (ni list) la lc (Xt (by omega) (by omega)) hm w (by rw [hnl,<- Qzf];exact hrs) (by omega) (fun v hv=>by
  simp only [ni,Xd] at hv;obtain ⟨x,hx2,rfl⟩:=hv;have:=hx x hx2;exact Xt (by omega) (by omega))
 obtain ⟨z1,z2⟩:=Qrv (n:=used.length) (most:=most) (ni list);rw [hnl] at hzd;have hS:Kj used list row most=Kj used list row most:=rfl
 conv at hS=>rhs;unfold Kj
 rw [hS];clear hS;generalize Kv used.length most (ni list)=Z at *;have hsb:=fun a c w h=>Qk4 Z.1 used a c (by omega) (by omega) (fun v hv=>by have:=z2 v hv;exact Xt (by omega) (by omega)) w h;have s1:=Qlb used Z.1;generalize K6 used Z.1=C at *;have hbk:=fun w=>Qvv C.1 row hr (by omega) w;have b1:=Qzd C.1 row;generalize L0 C.1 row=T at *;have hdc:=fun w=>Qza T.1 w (by omega);generalize C6 [] 0 T.1=X at *;refine En [Aa used,.slice la list.length lc,.int .i64 row,.int .i64 most] 47 Tryz.func85 ?_;refine VS [0,1,2,3] ?_;refine VQ [0,2,10,11] fun K hK=>?_;refine Ac Tryz.call127 ?_;refine Qs ?_;refine Yk hzd ?_;rintro v w2 ⟨ap,cp,hH,rfl⟩;apply hK;clear hK;refine VS [0,2,10,11,23] ?_;refine VD (fun h=>?_) (fun h=>?_)
 ·
  refine VS [8,9] ?_;refine Ad (A7 rfl rfl rfl ⟨hH.sub (by simp),?_⟩);rw [if_pos h]
 rw [if_neg h];refine Ab ?_;refine VQ [2,11,12] fun K hK=>?_;refine Ac Tryz.call128 ?_;refine Qs ?_;refine Yk (hsb _ _ w2 (Az (hH.at 0 rfl))) ?_;rintro v w3 ⟨hHs,rfl⟩;have hH2:=hH.call0 hHs;clear hH hHs;apply hK;clear hK;refine VS [2,11,12,32] ?_;refine VD (fun h=>?_) (fun h=>?_)
 ·
  refine VS [8,9] ?_;refine Ad (A7 rfl rfl rfl ⟨hH2.sub (by simp),?_⟩);rw [if_pos h]
 rw [if_neg h];refine Ab ?_;refine VQ [11,13] fun K hK=>?_;refine Ac Tryz.call129 ?_;refine Qs ?_;refine Yk (hbk w3) ?_;rintro v w4 ⟨hHs,rfl⟩;have hH3:=hH2.call0 hHs;clear hH2 hHs;apply hK;clear hK;refine VS [11,13,41] ?_;refine VD (fun h=>?_) (fun h=>?_)
 ·
  refine VS [8,9] ?_;refine Ad (A7 rfl rfl rfl ⟨hH3.sub (by simp),?_⟩);rw [if_pos h]
 rw [if_neg h];refine Ab ?_;refine VQ [8,9] fun K hK=>?_;refine Ac Tryz.call130 ?_;refine Qs ?_;refine Yk (hdc w4) ?_;rintro v w5 ⟨hHs,rfl⟩;have hH4:=hH3.call0 hHs;apply hK;clear hK;exact Ad (A7 rfl rfl rfl ⟨hH4.sub (by simp),rfl⟩)
abbrev Qs5 (e:Int):Value:=.iface 182 (.agg #[.int .i64 e])
abbrev V7 (e:Int):List PanicEntry:=[{ v:=Qs5 e,recovered:=false }]
theorem Qbx (b:Bool) (w:World):DoesP Ys 121 #[.bool b] w (fun _ w'=>w'=w/\b=true) (fun c w'=>w'=w/\b=false/\c=V7 120):=by
 refine Sb (args:=[.bool b]) 6 Tryz.func121 rfl rfl (of_decide_eq_true rfl) ?_;simp only [Env.ofArgs];refine GS [3] ?_;refine Dj rfl rfl (fun h=>?_) (fun h=>?_)
 ·
  (repeat with_reducible refine A5 ?_);refine Nw [] [2] (by kernel_rfl) fun K hK=>?_;simp only [go_sem,Yu,Yv,Yw,Y2,↓reduceIte,reduceEqDiff];refine Qa1 ?_;refine Qs ?_;exact ⟨⟨_,_,rfl⟩,QAe ⟨rfl,by simpa using h,rfl⟩⟩
 refine Fw (La (QFb (I8 rfl ⟨rfl,by simpa using h⟩)))
theorem Wr (g gs gr at_ n:Nat) (s:List UInt8) (w:World) (hn:n<=64) (ha:at_<=8 * s.length) (hs:s.length<=1000000000000000)
  (hL:Heap w (rd g gs s at_).foot w [rd g gs s at_]) (hc:w.cell? ⟨gr,0,none⟩=some (.pointer (some ⟨g,0,none⟩))) :
  DoesP Ys 120 #[.int .i64 n,.pointer (some ⟨gr,0,none⟩)] w
   (fun v w'=>at_+n<=8 * s.length/\Heap w (rd g gs s at_).foot w' [rd g gs s (at_+n)]/\v=.int .u64 (Bc (((At s).drop at_).take n)))
   (fun c w'=>w'=w/\8 * s.length < at_+n/\c=V7 10):=by
 refine Sb (args:=[.int .i64 n,.pointer (some ⟨gr,0,none⟩)]) 18 Tryz.func120 rfl rfl (of_decide_eq_true rfl) ?_;simp only [Env.ofArgs];refine GS [0,1] ?_;refine GQ [4,5] fun K hK=>?_;refine ⟨_,hc,?_⟩;refine Ac Gd ?_;refine Qs ?_;refine Yk (Ot g gs s at_ n w hn ha hs hL) ?_;rintro v w2 (⟨h1,rfl,rfl⟩ | ⟨h1,hH,rfl⟩)
 ·
  skip
  apply hK;clear hK;refine GS [4,5,13] ?_;(repeat with_reducible refine A5 ?_);refine Dj rfl rfl (fun h=>?_) (fun h=>by simp at h);(repeat with_reducible refine A5 ?_);refine Nw [] [3] (by kernel_rfl) fun K hK=>?_;simp only [go_sem,Yu,Yv,Yw,Y2,↓reduceIte,reduceEqDiff];refine Qa1 ?_;refine Qs ?_;exact ⟨⟨_,_,rfl⟩,QAe ⟨rfl,h1,rfl⟩⟩
 skip
 apply hK;clear hK;refine GS [4,5,13] ?_;(repeat with_reducible refine A5 ?_);refine Dj rfl rfl (fun h=>by simp at h) (fun h=>Fw ?_);refine GS [3] ?_;exact Nh (S8 (A2 rfl rfl ⟨h1,hH,rfl⟩))
set_option maxHeartbeats 2000000
abbrev pt (g:Nat):Value:=.pointer (some ⟨g,0,none⟩)
abbrev Mg (gA gB gC gD:Nat) (sum row tn e:Value):Res:=Ge [Yn gA 78 [sum],Yn gB 3 [row],Yn gC 3 [tn],Yn gD 23 [e]]
theorem Qfy (gA gB gC gD:Nat) (w:World):∀ n,CallsDIn Fence.wide 0 Ys 119 #[pt gA,pt gB,pt gC,pt gD] .returning (w.drewN n) (fun e2 u2 w'=>(∃ x,e2=.returned x)/\u2=.returning/\∃ w1 m,w'=w1.drewN m/\w1=w):=by
 refine Qgg (args:=[pt gA,pt gB,pt gC,pt gD]) (v:=.nilIface) (N:=20) Tryz.func119 rfl rfl rfl (by simp) (of_decide_eq_true rfl) (of_decide_eq_true rfl) (.inl ⟨rfl,rfl,rfl⟩) ?_;simp only [Env.ofArgs];refine GQ [0,1,2,3,4,9] fun K hK=>?_;rw [QG5 (P:=Ys) (T:=20) (ms:=#[]) rfl];apply hK;clear hK;refine Dj rfl rfl (fun h=>by simp at h) (fun h=>Fw (La fun a n ha=>⟨.inl rfl,ha.defers,w,n,rfl,rfl⟩))
theorem Qli (e:Int) (gA gB gC gD:Nat) (a b c d:Value) (w:World) (hB:Heap w (Mg gA gB gC gD a b c d).foot w [Mg gA gB gC gD a b c d]) :
  ∀ n,CallsDIn Fence.wide 0 Ys 119 #[pt gA,pt gB,pt gC,pt gD] (.panicking (V7 e)) (w.drewN n) (fun e2 u2 w'=>(∃ x,e2=.returned x)/\u2=.panicking [{ v:=Qs5 e,recovered:=true }] /\
   ∃ w1 m,w'=w1.drewN m/\Heap w (Mg gA gB gC gD a b c d).foot w1 [Mg gA gB gC gD (.int .u32 0) (.int .i64 0) (.int .i64 0) (.int .i64 e)]):=by
 refine Qgg (args:=[pt gA,pt gB,pt gC,pt gD]) (v:=Qs5 e) (N:=20) Tryz.func119 rfl rfl rfl (by simp) (of_decide_eq_true rfl) (of_decide_eq_true rfl) (.inr ⟨rfl,rfl⟩) ?_;simp only [Env.ofArgs];refine GQ [0,1,2,3,4,9] fun K hK=>?_;rw [QK5 (P:=Ys) (T:=20) (ms:=#[]) rfl];apply hK;clear hK;refine Dj rfl rfl (fun h=>?_) (fun h=>by simp at h);refine GQ [0,1,2,3,4,5,6] fun K hK=>?_;refine Qm7 ?_;refine Qs ?_;refine ⟨_,rfl,by kernel_rfl,?_⟩;refine A6 (.agg #[.int .i64 0]) (by kernel_rfl) ?_;refine Qs ?_;have hH:=hB.box 182 [.int .i64 0];generalize w.alloc (Yo [Y5 Xe 0].toArray 182)=w1 at *;generalize w.heap.size=g5 at *;refine Af ?_;refine Qs ?_;refine Al hH 0 (vs:=[.int .i64 e]) rfl rfl (by kernel_rfl) (by simp) (by simp [Yl]) fun w2 hH2=>?_;simp only [Yb,Yc] at hH2;apply hK;clear hK;clear hH;(repeat with_reducible refine A5 ?_);refine GS [0,1,2,3,5,16] ?_;(repeat with_reducible refine A5 ?_);refine Dj rfl rfl (fun h=>by simp at h) (fun h=>Fw ?_);have hH3:=hH2.perm (.swap _ _ _);have hF:=(hH3.focus 0 rfl).unbag;simp only [Yi] at hF;(repeat with_reducible refine A5 ?_);refine Qge (holes (Mg gA gB gC gD a b c d).foot w2) (Ext.hole _ _) [] [(0,true),(1,true),(2,false),(3,false),(4,false),(5,false)] (by kernel_rfl) (by kernel_rfl) (by kernel_rfl) (by simp only [Bd,List.filterMap_cons,List.filterMap_nil,List.getElem?_cons_succ,List.getElem?_cons_zero,Option.map_some];rfl) fun K hK=>?_;refine Qs ?_;refine ⟨_,hH3.hole_at 0 1 rfl rfl (by omega) rfl,?_⟩;refine Af ?_;refine Qs ?_;refine Al hF 0 (vs:=[.int .u32 0]) rfl rfl (by kernel_rfl) (by simp) (by simp [Yl]) fun w3 hF1=>?_;simp only [Yb,Yc] at hF1;refine ⟨hF1.upd.extH,?_⟩;refine Af ?_;refine Qs ?_;refine Al hF1 1 (vs:=[.int .i64 0]) rfl rfl (by kernel_rfl) (by simp) (by simp [Yl]) fun w4 hF2=>?_;simp only [Yb,Yc] at hF2;refine ⟨hF2.upd.extH,?_⟩;refine Af ?_;refine Qs ?_;refine Al hF2 2 (vs:=[.int .i64 0]) rfl rfl (by kernel_rfl) (by simp) (by simp [Yl]) fun w5 hF3=>?_;simp only [Yb,Yc] at hF3;refine ⟨hF3.upd.extH,?_⟩;refine Af ?_;refine Qs ?_;refine Al hF3 3 (vs:=[.int .i64 e]) rfl rfl (by kernel_rfl) (by simp) (by simp [Yl]) fun w6 hF4=>?_;simp only [Yb,Yc] at hF4;refine ⟨hF4.upd.extH,?_⟩;apply hK;clear hK;have hF5:=Uv (G:=[]) [Yn gA 78 [.int .u32 0],Yn gB 3 [.int .i64 0],Yn gC 3 [.int .i64 0],Yn gD 23 [.int .i64 e]] (by simpa using hF4);have hH4:=hH3.call1 0 rfl hF5;simp only [Ye,Yb] at hH4;exact La fun a n ha=>⟨.inl rfl,ha.defers,w6,n,rfl,hH4.sub (.cons_cons _ (.cons _ (.refl _)))⟩
set_option maxHeartbeats 4000000
def Dc (l:List Bool) (a:Nat):Nat×Nat×Nat×Nat :=
 if l.length < a+48 then (0,0,0,10)
 else if Bc ((l.drop a).take 48)≠54156738319193 then (0,0,0,120)
 else if l.length < a+80 then (0,0,0,10)
 else if l.length < a+81 then (0,0,0,10)
 else if Bc ((l.drop (a+80)).take 1)≠0 then (0,0,0,120)
 else if l.length < a+105 then (0,0,0,10)
 else (Bc ((l.drop (a+48)).take 32),Bc ((l.drop (a+81)).take 24),a+105,0)
def Wn (x:Nat×Nat×Nat×Nat):Value:=.tuple #[.int .u32 x.1,.int .i64 x.2.1,.int .i64 x.2.2.1,.int .i64 x.2.2.2]
theorem Qzq {C:K3}{e:Env}{w:World}{t u s r:Tmp}{T U S R:TypeId}{a b c d:Addr} (hr:C.fn.results=#[.cell t T,.cell u U,.cell s S,.cell r R]) (ht:e.find? t=some (.pointer (some a))) (hu:e.find? u=some (.pointer (some b))) (hs:e.find? s=some (.pointer (some c))) (hq:e.find? r=some (.pointer (some d)))
  (h:Bf C.P T (.pointer (some a)) w fun v=>Bf C.P U (.pointer (some b)) w fun x=>Bf C.P S (.pointer (some c)) w fun y=>Bf C.P R (.pointer (some d)) w fun z=>C.F (.tuple #[v,x,y,z]) w):VX C [] .ret e w:=by
 intro ac n ha;obtain ⟨v,hv,r1⟩:=Oo h;obtain ⟨x,hv,r2⟩:=Oo hv;obtain ⟨y,hv,r3⟩:=Oo hv;obtain ⟨z,hv,r4⟩:=Oo hv;refine ⟨ha.defers,.tuple #[v,x,y,z],?_,_,w,n,rfl,rfl,hv⟩;have h1:=ha.at_ t _ ht;rw [Array.getD_eq_getD_getElem?] at h1;have h2:=ha.at_ u _ hu;rw [Array.getD_eq_getD_getElem?] at h2;have h3:=ha.at_ s _ hs;rw [Array.getD_eq_getD_getElem?] at h3;have h4:=ha.at_ r _ hq;rw [Array.getD_eq_getD_getElem?] at h4;have q1:=r1 (w.drewN n) (Ext.drewN w n);have q2:=r2 (w.drewN n) (Ext.drewN w n);have q3:=r3 (w.drewN n) (Ext.drewN w n);have q4:=r4 (w.drewN n) (Ext.drewN w n);simp [results,hr,h1,h2,h3,h4,asAddr,q1,q2,q3,q4]
theorem Sk {P:Program}{T:TypeId}{g T':Nat}{v:Value}{w:World}{K:Value->Prop} (h:(Yn g T' [v]).holds w) (hd:Oz (P.underlying T)=false) (hs:(P.underlying T).isSome=true) (hk:K v):Bf P T (.pointer (some ⟨g,0,none⟩)) w K:=by
 have hc:w.cell? ⟨g,0,none⟩=some v:=Aj h rfl;unfold Bf;cases hu:P.underlying T with
 | none=>simp [hu] at hs
 | some d =>
  cases d <;> first
   | (exfalso;simp [Oz,hu] at hd;done)
   | exact ⟨v,hc,hk⟩
theorem Qpn {w w1:World}{N g4 g5 g6 g7:Nat}{v x y z:Value}{G:List Res}{F:Value->World->Prop} (hH:Heap w [] w1 (Mg g4 g5 g6 g7 v x y z::G)) (hF:F (.tuple #[v,x,y,z]) w1) :
  VX ⟨Ys,Tryz.f81,F,N⟩ [] .ret [(4,pt g4),(5,pt g5),(6,pt g6),(7,pt g7)] w1:=by
 have hU:=hH.unbag;refine Qzq rfl rfl rfl rfl rfl ?_;refine Sk (hU.at 0 rfl) (by kernel_rfl) (by kernel_rfl) ?_;refine Sk (hU.at 1 rfl) (by kernel_rfl) (by kernel_rfl) ?_;refine Sk (hU.at 2 rfl) (by kernel_rfl) (by kernel_rfl) ?_;exact Sk (hU.at 3 rfl) (by kernel_rfl) (by kernel_rfl) hF
theorem Q9 {w w1:World}{N g4 g5 g6 g7:Nat}{v x y z:Value}{G:List Res}{F:Value->World->Prop} (e:Nat) (hH:Heap w [] w1 (Mg g4 g5 g6 g7 v x y z::G)) (hF:∀ w',Heap w [] w' []->F (Wn (0,0,0,e)) w') :
  ∀ a n,FitsG N [{ target:=.fn (.func 119) #[pt g4,pt g5,pt g6,pt g7],args:=#[] }] [(4,pt g4),(5,pt g5),(6,pt g6),(7,pt g7)] a ->
   O5 Ys Tryz.f81 F Qv (.panic (V7 e)) a (w1.drewN n):=by
 refine Qjb (args:=#[]) (cs:=#[pt g4,pt g5,pt g6,pt g7]) (u:=.panicking (V7 e)) (R:=fun w2=>Heap w1 (Mg g4 g5 g6 g7 v x y z).foot w2 [Mg g4 g5 g6 g7 (.int .u32 0) (.int .i64 0) (.int .i64 0) (.int .i64 e)]) Tryz.call119 (by simp) rfl (fun n=>?_) fun w2 hR=>?_
 ·
  have h:=Qli e g4 g5 g6 g7 v x y z w1 (hH.focus 0 rfl) n;obtain ⟨h1,h2⟩:=h;refine ⟨h1,fun c cs hm hr=>?_⟩;obtain ⟨e2,u2,w2,fr,⟨hx,hu,hw⟩,rest⟩:=h2 c cs hm hr;exact ⟨e2,u2,w2,fr,⟨hx,by rw [hu];rfl,hw⟩,rest⟩
 have hH2:=hH.call1 0 rfl hR;simp only [Ye,Yb] at hH2;exact Qpn hH2 (hF _ (hH2.sub (List.nil_sublist _)))
theorem Qzr {w w1:World}{N g4 g5 g6 g7:Nat}{v x y z:Value}{G:List Res}{F:Value->World->Prop} (hH:Heap w [] w1 (Mg g4 g5 g6 g7 v x y z::G)) (hF:F (.tuple #[v,x,y,z]) w1) :
  ∀ a n,FitsG N [{ target:=.fn (.func 119) #[pt g4,pt g5,pt g6,pt g7],args:=#[] }] [(4,pt g4),(5,pt g5),(6,pt g6),(7,pt g7)] a ->
   O5 Ys Tryz.f81 F Qv .ret a (w1.drewN n):=by
 refine Qjb (args:=#[]) (cs:=#[pt g4,pt g5,pt g6,pt g7]) (u:=.returning) (R:=fun w2=>w2=w1) Tryz.call119 (by simp) rfl (fun n=>?_) fun w2 hR=>?_
 ·
  have h:=Qfy g4 g5 g6 g7 w1 n;obtain ⟨h1,h2⟩:=h;refine ⟨h1,fun c cs hm hr=>?_⟩;obtain ⟨e2,u2,w2,fr,⟨hx,hu,hw⟩,rest⟩:=h2 c cs hm hr;exact ⟨e2,u2,w2,fr,⟨hx,by rw [hu];rfl,hw⟩,rest⟩
 subst hR;exact Qpn hH hF
set_option maxHeartbeats 4000000
theorem Qet {P:Program}{w0 w:World}{B:List Nat}{G:List Res} (hH:Heap w0 B w G) (i:Nat) {g:Nat}{T T':TypeId}{cs:List Value}{v:Value}{C:World->Prop} (hi:G[i]? = some (Yn g T' cs)) (hv:v.cells=cs.toArray) (hsz:P.szo T=some cs.length) (h1:∀ u∈cs,u.oneCell'=true)
  (h:C w):Mw P T (.pointer (some ⟨g,0,none⟩)) v w C:=by
 obtain ⟨fz,hg,hfz⟩:=hH.at i hi;obtain ⟨hlt,hget⟩:=Array.getElem?_eq_some_iff.1 hg;refine ⟨w,fun n=>?_,h⟩;rw [Qac (o:=0) hv hsz hg hfz (by simp) h1 n];have hc:cs.take 0++cs++cs.drop (0+cs.length)=cs:=by simp
 rw [hc]
 have:Fm w g cs T' fz=w:=by
  unfold Fm
  have:w.heap.setIfInBounds g (.cells cs.toArray T' fz)=w.heap:=by
   refine Array.ext_getElem? fun i=>?_;rw [Array.getElem?_setIfInBounds];split
   ·
    rename_i hi2;subst hi2;exact hg.symm
   rfl
  rw [this]
 rw [this]
theorem Qfz (s:List UInt8) (at_:Int) (w:World) (ha:I64 at_) (hs:s.length<=1000000000000000) :
  Does Ys 81 #[Aa s,.int .i64 at_] w fun v w'=>Heap w [] w' []/\v=if at_ < 0∨8 * (s.length:Int) < at_ then Wn (0,0,0,2) else Wn (Dc (At s) at_.toNat):=by
 have hbl:=D0 s;refine Ww (args:=[Aa s,.int .i64 at_]) 40 Tryz.func81 rfl rfl (of_decide_eq_true rfl) ?_;simp only [Env.ofArgs];refine GQ [0,1,4,5,6,7] fun K hK=>?_;refine A6 (.int .u32 0) (by kernel_rfl) ?_;refine Qs ?_;have hH:=(Y3 w).box 78 [.int .u32 0];generalize w.alloc (Yo [Y5 Xa 0].toArray 78)=w1 at *;generalize w.heap.size=g4 at *;refine A6 (.int .i64 0) (by kernel_rfl) ?_;refine Qs ?_;have hH2:=hH.box 3 [.int .i64 0];generalize w1.alloc (Yo [Y5 Xe 0].toArray 3)=w2 at *;generalize w1.heap.size=g5 at *;refine A6 (.int .i64 0) (by kernel_rfl) ?_;refine Qs ?_;have hH3:=hH2.box 3 [.int .i64 0];generalize w2.alloc (Yo [Y5 Xe 0].toArray 3)=w3 at *;generalize w2.heap.size=g6 at *;refine A6 (.int .i64 0) (by kernel_rfl) ?_;refine Qs ?_;have hH4:=hH3.box 23 [.int .i64 0];generalize w3.alloc (Yo [Y5 Xe 0].toArray 23)=w4 at *;generalize w3.heap.size=g7 at *;apply hK;clear hK
 have hHB:Heap w [] w4 [Mg g4 g5 g6 g7 (.int .u32 0) (.int .i64 0) (.int .i64 0) (.int .i64 0)]:=Uv (G:=[]) _ (by
  refine hH4.perm ?_;exact (X0 [_,_,_,_]).symm)
 clear hH hH2 hH3 hH4;(repeat with_reducible refine A5 ?_);refine Qqx [0,1,4,5,6,7] 1 rfl (by kernel_rfl) rfl fun K hK=>?_;simp only [go_sem,Yu,Yv,Yw,Y2,↓reduceIte,reduceEqDiff];refine ⟨_,_,_,rfl,?_⟩;refine hK _ _ _ ?_;clear hK K;refine GQ [4,5,6,7,8] fun K hK=>?_;refine Ac Tryz.call68 ?_;refine Qs ?_;refine Yk (Q3 s at_ w4 ha (by omega)) ?_;rintro v w5 (⟨hbad,hHr,rfl⟩ | ⟨hgood,g,gs,hHr,rfl⟩)
 ·
  have hH5:=hHB.call0 hHr;simp only [Ye] at hH5;clear hHB hHr;refine A6 (.pointer none) (by kernel_rfl) ?_;refine Qs ?_;have hH6:=hH5.box 130 [.pointer none];generalize w5.alloc (Yo [Value.pointer none].toArray 130)=w6 at *;generalize w5.heap.size=g8 at *;refine Af ?_;refine Qs ?_;refine Al hH6 0 (vs:=[.pointer none]) rfl rfl (by kernel_rfl) (by simp) (by simp [Yl]) fun w7 hH7=>?_;simp only [Yb,Yc] at hH7;apply hK;clear hK;clear hH5 hH6;refine GQ [4,5,6,7,8,16] fun K hK=>?_;refine ⟨_,Aj (hH7.at 0 rfl) rfl,?_⟩;refine Qs ?_
  try rw [Vz (P:=Ys) (T:=130) rfl]
  apply hK;clear hK;(repeat with_reducible refine A5 ?_);refine Dj rfl rfl (fun h=>?_) (fun h=>by simp at h);(repeat with_reducible refine A5 ?_);refine Nw [] [2] (by kernel_rfl) fun K hK=>?_;simp only [go_sem,Yu,Yv,Yw,Y2,↓reduceIte,reduceEqDiff];refine Qa1 ?_;refine Qs ?_;refine ⟨⟨_,_,rfl⟩,fun a n hf=>Q9 2 (hH7.perm (.swap _ _ _)) ?_ a n (hf.sel [4,5,6,7])⟩;intro w' hw';rw [if_pos hbad];exact ⟨hw',rfl⟩
 obtain ⟨at_,rfl⟩:∃ n:Nat,at_=n:=⟨at_.toNat,by omega⟩;rw [if_neg hgood,Yz] at *;have hat:at_<=8 * s.length:=by omega
 clear hgood ha;have hH5:=hHB.call0 hHr;simp only [Y8,Ye] at hH5;clear hHB hHr;refine A6 (.pointer none) (by kernel_rfl) ?_;refine Qs ?_;have hH6:=hH5.box 130 [.pointer none];generalize w5.alloc (Yo [Value.pointer none].toArray 130)=w6 at *;generalize w5.heap.size=g8 at *;refine Af ?_;refine Qs ?_;refine Al hH6 0 (vs:=[pt g]) rfl rfl (by kernel_rfl) (by simp) (by simp [Yl]) fun w7 hH7=>?_;simp only [Yb,Yc] at hH7;apply hK;clear hK;clear hH5 hH6;refine GQ [4,5,6,7,8,16] fun K hK=>?_;refine ⟨_,Aj (hH7.at 0 rfl) rfl,?_⟩;refine Qs ?_
 try rw [Vz (P:=Ys) (T:=130) rfl]
 apply hK;clear hK;(repeat with_reducible refine A5 ?_);refine Dj rfl rfl (fun h=>by simp at h) (fun h=>Fw ?_);refine GS [4,5,6,7,8,9] ?_;refine GS [4,5,6,7,8,9,10] ?_;(repeat with_reducible refine A5 ?_);refine Nw [4,5,6,7,8,9,10] [2,1] (by kernel_rfl) fun K hK=>?_;simp only [go_sem,Yu,Yv,Yw,Y2,↓reduceIte,reduceEqDiff];refine Sc ?_;refine Qs ?_;refine CallP.mk Uq (Wr g gs g8 at_ 48 s w7 (by omega) hat hs (hH7.focus 1 rfl) (Aj (hH7.at 0 rfl) rfl)) ?_ ?_
 case' refine_2 =>
  rintro c w8 ⟨rfl,h1,rfl⟩ a n hf;refine Q9 10 (hH7.perm (X0 [_,_,_]).symm) ?_ a n (hf.sel [4,5,6,7]);intro w' hw';have:Dc (At s) at_=(0,0,0,10):=by rw [Dc,if_pos (by omega)]
  rw [this];exact ⟨hw',rfl⟩
 rintro v w8 ⟨h1,hHt,rfl⟩;have hH8:=hH7.call1 1 rfl hHt;simp only [Ye,Yb,Yc] at hH8;clear hH7 hHt;generalize hm:Bc (((At s).drop at_).take 48)=mg at *;simp only [go_sem,Yu,Yv,Yw,Y2,↓reduceIte,reduceEqDiff];refine Sc ?_;refine Qs ?_;refine CallP.mk Tryz.call121 (Qbx (decide ((mg:Int)=54156738319193)) w8) ?_ ?_
 case' refine_2 =>
  rintro c w9 ⟨rfl,h2,rfl⟩ a n hf;simp only [decide_eq_false_iff_not] at h2;refine Q9 120 (hH8.perm (X0 [_,_,_]).symm) ?_ a n (hf.sel [4,5,6,7]);intro w' hw';have:Dc (At s) at_=(0,0,0,120):=by rw [Dc,if_neg (by omega),if_pos (by rw [hm];omega)]
  rw [this];exact ⟨hw',rfl⟩
 rintro v w9 ⟨rfl,h2⟩;simp only [decide_eq_true_eq] at h2;obtain rfl:mg=54156738319193:=by omega
 clear h2
 have hS:Dc (At s) at_=if (At s).length < at_+80 then (0,0,0,10)
   else if (At s).length < at_+81 then (0,0,0,10)
   else if Bc (((At s).drop (at_+80)).take 1)≠0 then (0,0,0,120)
   else if (At s).length < at_+105 then (0,0,0,10)
   else (Bc (((At s).drop (at_+48)).take 32),Bc (((At s).drop (at_+81)).take 24),at_+105,0):=by
  rw [Dc,if_neg (by omega),if_neg (by rw [hm];omega)]
 apply hK;clear hK;rw [hS];clear hS hm;(repeat with_reducible refine A5 ?_);refine Nw [4,5,6,7,8,9,10] [1] (by kernel_rfl) fun K hK=>?_;simp only [go_sem,Yu,Yv,Yw,Y2,↓reduceIte,reduceEqDiff];refine Sc ?_;refine Qs ?_;refine CallP.mk Uq (Wr g gs g8 (at_+48) 32 s w9 (by omega) (by omega) hs (hH8.focus 1 rfl) (Aj (hH8.at 0 rfl) rfl)) ?_ ?_
 case' refine_2 =>
  rintro c w8 ⟨rfl,h1,rfl⟩ a n hf;refine Q9 10 (hH8.perm (X0 [_,_,_]).symm) ?_ a n (hf.sel [4,5,6,7]);intro w' hw';rw [if_pos (by omega)];exact ⟨hw',rfl⟩
 rintro v w10 ⟨h2,hHt,rfl⟩;have hH9:=hH8.call1 1 rfl hHt;simp only [Ye,Yb,Yc] at hH9;clear hH8 hHt;have hlt:=K8 (((At s).drop (at_+48)).take 32);have hlt2:=Yy (show 0 < 2 by omega) (show (((At s).drop (at_+48)).take 32).length<=32 by rw [Y6];omega);generalize hsum:Bc (((At s).drop (at_+48)).take 32)=sum at *;have hHA:=hH9.perm (X0 [_,_,_]).symm;simp only [List.reverse_cons,List.reverse_nil,Ye,Y8] at hHA;have hHA:=hHA.unbag;simp only [Y8,Ye] at hHA;simp only [go_sem,Yu,Yv,Yw,Y2,↓reduceIte,reduceEqDiff];rw [show ((sum:Int) % 4294967296)=sum by omega];refine Af ?_;refine Qs ?_;refine Al hHA 0 (vs:=[.int .u32 (sum:Nat)]) rfl rfl (by kernel_rfl) (by simp) (by simp [Yl]) fun w11 hHC=>?_;simp only [Yb,Yc] at hHC;apply hK;clear hK;rw [if_neg (by omega)];have hHD:Heap w [] w11 (Mg g4 g5 g6 g7 (.int .u32 sum) (.int .i64 0) (.int .i64 0) (.int .i64 0)::rd g gs s (at_+48+32)::[Yn g8 130 [pt g]]):=Uv _ hHC;clear hHC hHA hH9;(repeat with_reducible refine A5 ?_);refine Nw [4,5,6,7,8,9] [2,1] (by kernel_rfl) fun K hK=>?_;simp only [go_sem,Yu,Yv,Yw,Y2,↓reduceIte,reduceEqDiff];refine Sc ?_;refine Qs ?_;refine CallP.mk Uq (Wr g gs g8 (at_+48+32) 1 s w11 (by omega) (by omega) hs (hHD.focus 1 rfl) (Aj (hHD.at 2 rfl) rfl)) ?_ ?_
 case' refine_2 =>
  rintro c w8 ⟨rfl,h1,rfl⟩ a n hf;refine Q9 10 hHD ?_ a n (hf.sel [4,5,6,7]);intro w' hw';rw [if_pos (by omega)];exact ⟨hw',rfl⟩
 rintro v w12 ⟨h3,hHt,rfl⟩;have hHE:=hHD.call1 1 rfl hHt;simp only [Ye,Yb,Yc] at hHE;clear hHD hHt;rw [show at_+48+32=at_+80 by omega] at hHE h3 ⊢;generalize hbt:Bc (((At s).drop (at_+80)).take 1)=bt at *;simp only [go_sem,Yu,Yv,Yw,Y2,↓reduceIte,reduceEqDiff];refine Sc ?_;refine Qs ?_;refine CallP.mk Tryz.call121 (Qbx (decide ((bt:Int)=0)) w12) ?_ ?_
 case' refine_2 =>
  rintro c w9 ⟨rfl,h2,rfl⟩ a n hf;simp only [decide_eq_false_iff_not] at h2;refine Q9 120 hHE ?_ a n (hf.sel [4,5,6,7]);intro w' hw';rw [if_neg (by omega),if_pos (by omega)];exact ⟨hw',rfl⟩
 rintro v w13 ⟨rfl,h4⟩;simp only [decide_eq_true_eq] at h4;obtain rfl:bt=0:=by omega
 apply hK;clear hK;rw [if_neg (by omega),if_neg (by simp)];(repeat with_reducible refine A5 ?_);refine Nw [4,5,6,7,8] [1] (by kernel_rfl) fun K hK=>?_;simp only [go_sem,Yu,Yv,Yw,Y2,↓reduceIte,reduceEqDiff];refine Sc ?_;refine Qs ?_;refine CallP.mk Uq (Wr g gs g8 (at_+80+1) 24 s w13 (by omega) (by omega) hs (hHE.focus 1 rfl) (Aj (hHE.at 2 rfl) rfl)) ?_ ?_
 case' refine_2 =>
  rintro c w8 ⟨rfl,h1,rfl⟩ a n hf;refine Q9 10 hHE ?_ a n (hf.sel [4,5,6,7]);intro w' hw';rw [if_pos (by omega)];exact ⟨hw',rfl⟩
 rintro v w14 ⟨h5,hHt,rfl⟩;have hHG:=hHE.call1 1 rfl hHt;simp only [Ye,Yb,Yc] at hHG;clear hHE hHt hbt h4;rw [show at_+80+1=at_+81 by omega] at hHG h5 ⊢;have hlt3:=K8 (((At s).drop (at_+81)).take 24);have hlt4:=Yy (show 0 < 2 by omega) (show (((At s).drop (at_+81)).take 24).length<=24 by rw [Y6];omega);generalize hrow:Bc (((At s).drop (at_+81)).take 24)=row at *;have hHI:=hHG.unbag;simp only [Y8,Ye] at hHI;simp only [go_sem,Yu,Yv,Yw,Y2,↓reduceIte,reduceEqDiff];refine ⟨Xt (by omega) (by omega),?_⟩;refine Af ?_;refine Qs ?_;refine Al hHI 1 (vs:=[.int .i64 (row:Nat)]) rfl rfl (by kernel_rfl) (by simp) (by simp [Yl]) fun w15 hHJ=>?_;simp only [Yb,Yc] at hHJ;apply hK;clear hK;rw [if_neg (by omega)];clear hHI hHG
 have hHM:Heap w [] w15 (Ge [Yn g7 23 [.int .i64 0],Yn g6 3 [.int .i64 0]]::[Yn g4 78 [.int .u32 (sum:Nat)],Yn g5 3 [.int .i64 (row:Nat)],rd g gs s (at_+81+24),Yn g8 130 [pt g]]) :=
  Uv [_,_] ((hHJ.front 2 rfl).front 3 rfl)
 clear hHJ;have hF:=(hHM.focus 0 rfl).unbag;simp only [Yi] at hF;(repeat with_reducible refine A5 ?_);refine Qge (holes (Ge [Yn g7 23 [.int .i64 0],Yn g6 3 [.int .i64 0]]).foot w15) (Ext.hole _ _) [4,5,6,7] [(0,true),(1,true),(2,true),(3,false),(4,false),(5,false),(6,false),(7,false)] (by kernel_rfl) (by kernel_rfl) (by kernel_rfl) (by simp only [Bd,List.filterMap_cons,List.filterMap_nil,List.getElem?_cons_succ,List.getElem?_cons_zero,Option.map_some];rfl) fun K hK=>?_;refine Qs ?_;refine ⟨_,hHM.hole_at 0 1 rfl rfl (by omega) rfl,?_⟩;refine ⟨_,hHM.hole_at 0 2 rfl rfl (by omega) rfl,?_⟩;refine ⟨_,hHM.hole_at 0 4 rfl rfl (by omega) rfl,?_⟩;refine Ac Tryz.call122 ?_;refine Qs ?_;refine Yk (Vp g gs (at_+81+24) s w15 (hHM.at 3 rfl)) ?_;rintro v w16 ⟨rfl,rfl⟩;refine ⟨Ext.hole _ _,?_⟩;refine Af ?_;refine Qs ?_;refine Qet hHM 1 (cs:=[.int .u32 (sum:Nat)]) rfl rfl (by kernel_rfl) (by simp [Yl]) ?_;refine ⟨Ext.hole _ _,?_⟩;refine Af ?_;refine Qs ?_;refine Qet hHM 2 (cs:=[.int .i64 (row:Nat)]) rfl rfl (by kernel_rfl) (by simp [Yl]) ?_;refine ⟨Ext.hole _ _,?_⟩;refine Af ?_;refine Qs ?_;refine Al hF 1 (vs:=[.int .i64 (at_+81+24:Nat)]) rfl rfl (by kernel_rfl) (by simp) (by simp [Yl]) fun w17 hF1=>?_;simp only [Yb,Yc] at hF1;refine ⟨hF1.upd.extH,?_⟩;refine Af ?_;refine Qs ?_;refine Al hF1 0 (vs:=[.int .i64 0]) rfl rfl (by kernel_rfl) (by simp) (by simp [Yl]) fun w18 hF2=>?_;simp only [Yb,Yc] at hF2;refine ⟨hF2.upd.extH,?_⟩;apply hK;clear hK;have hF3:Heap w16 (Ge [Yn g7 23 [.int .i64 0],Yn g6 3 [.int .i64 0]]).foot w18 [Ge [Yn g7 23 [.int .i64 0],Yn g6 3 [.int .i64 (at_+81+24:Nat)]]]:=Uv [_,_] hF2;have hHN:=(hHM.call1 0 rfl hF3).unbag;simp only [Ye,Yb,Y8] at hHN
 have hHO:Heap w [] w18 (Mg g4 g5 g6 g7 (.int .u32 (sum:Nat)) (.int .i64 (row:Nat)) (.int .i64 (at_+81+24:Nat)) (.int .i64 0)::[rd g gs s (at_+81+24),Yn g8 130 [pt g]]) :=
  Uv [_,_,_,_] ((((hHN.front 0 rfl).front 1 rfl).front 3 rfl).front 3 rfl)
 refine Nh fun a n hf=>Qzr hHO ?_ a n hf;refine ⟨hHO.sub (List.nil_sublist _),?_⟩;rw [show at_+81+24=at_+105 by omega];rfl
def R1 (r:Nat):Nat:=if 2147483648<=r then (r * 2 % 4294967296) ^^^ 79764919 else r * 2 % 4294967296
def Ol:Nat->Nat->Nat
 | 0,r=>r
 | k+1,r=>R1 (Ol k r)
def tab (i:Nat):Nat:=Ol 8 (i * 16777216)
def Vr (r:Nat) (b:UInt8):Nat:=(r * 256 % 4294967296) ^^^ tab (r / 16777216 ^^^ b.toNat)
def N0 (r:Nat) (s:List UInt8):Nat:=s.foldl Vr r
def Cd (s:List UInt8):Nat:=4294967295 - N0 4294967295 s
def Ii (l:List Nat):Nat:=l.foldl (fun c x=>((c * 2 % 4294967296) ||| c / 2147483648) ^^^ x) 0
def Bm (l:List Nat):List Value:=l.map fun (n:Nat)=>Y5 .u32 (n:Int)
theorem Vj (l:List Nat):(Bm l).length=l.length:=by simp [Bm]
theorem Qpo {l:List Nat}{i:Nat} (h:i < l.length):(Bm l)[i]? = some (.int .u32 ((l.getD i 0:Nat):Int)):=by
 simp [Bm,Yd h,Yg]
theorem QJm {r:Nat} (h:r < 4294967296):R1 r < 4294967296:=by
 unfold R1;split
 ·
  exact Xn (n:=32) (Ug _ (by decide)) (by decide)
 exact Ug _ (by decide)
theorem Qs6 {r:Nat} (h:r < 4294967296):∀ k,Ol k r < 4294967296
 | 0=>h
 | k+1=>QJm (Qs6 h k)
theorem QAl (i:Nat) (h:i < 256):tab i < 4294967296:=by
 unfold tab;exact Qs6 (by omega) 8
theorem Qr2 {r:Nat} (h:r < 4294967296) (b:UInt8):Vr r b < 4294967296:=by
 unfold Vr;refine Xn (n:=32) (Ug _ (by decide)) (QAl _ ?_);have:=b.toNat_lt;exact Xn (n:=8) (by omega) (by omega)
theorem W9 (s:List UInt8):∀ {r:Nat},r < 4294967296->N0 r s < 4294967296:=by
 induction s with
 | nil=>intro r h;exact h
 | cons b s ih=>intro r h;exact ih (Qr2 h b)
theorem Qlj (r:Nat) (s:List UInt8) (b:UInt8):N0 r (s++[b])=Vr (N0 r s) b:=by simp [N0]
def tabs:List Nat:=(Yf 256).map tab
theorem Z6:tabs.length=256:=by
 unfold tabs;rw [X3,X7]
theorem Qzs {i:Nat} (h:i < 256):tabs.getD i 0=tab i:=by
 unfold tabs;rw [Yg,Xz,Xs h,Option.map_some,Option.getD_some]
theorem QEs {r:Nat} (h:r < 4294967296):r &&& 2147483648=if 2147483648<=r then 2147483648 else 0:=by
 rw [show (2147483648:Nat)=2 ^ 31 from rfl];apply Nat.eq_of_testBit_eq;intro j;rw [Nat.testBit_and,X1];by_cases hj:31=j
 ·
  subst hj;rw [Nat.testBit_eq_decide_div_mod_eq];by_cases h1:2 ^ 31<=r
  ·
   have:r / 2 ^ 31 % 2=1:=by omega
   rw [if_pos h1,this,X1];rfl
  have:r / 2 ^ 31 % 2=0:=by omega
  rw [if_neg h1,this];simp
 simp only [hj,decide_false,Bool.and_false];split
 ·
  rw [X1];simp [hj]
 simp
theorem Qr3 (w:World):Does Ys 110 #[] w fun v w'=>Heap w [] w' []/\v=.agg (Bm tabs).toArray:=by
 refine En [] 26 Tryz.func110 ?_;refine VQ [0] fun K hK=>?_;refine A6 (.agg (Bm (Ya 256 0)).toArray) (by kernel_rfl) ?_;have hH:=(Y3 w).box 170 (Bm (Ya 256 0));have ecells:(Xp (Bm (Ya 256 0)).toArray).cells=(Bm (Ya 256 0)).toArray:=rfl;rw [ecells];generalize w.alloc (Yo (Bm (Ya 256 0)).toArray 170)=w1 at *;generalize w.heap.size=g0 at *;refine Qs ?_;apply hK;clear hK;refine VQ [0,1] fun K hK=>?_;refine A6 (.agg (Bm (Ya 256 0)).toArray) (by kernel_rfl) ?_;have hH2:=hH.box 170 (Bm (Ya 256 0));rw [ecells];generalize w1.alloc (Yo (Bm (Ya 256 0)).toArray 170)=w2 at *;generalize w1.heap.size=g1 at *;refine Qs ?_;apply hK;clear hK;clear ecells hH;refine VS [0,1,4] ?_;refine VB ?_;refine Au [0,1,4] (fun m e w'=>∃ (i:Nat),Is e [(0,.pointer (some ⟨g0,0,none⟩)),(1,.pointer (some ⟨g1,0,none⟩)),(4,.int .i64 i)]/\Heap w [] w' [Yn g1 170 (Bm ((Yf i).map tab++Ya (256 - i) 0)),Yn g0 170 (Bm (Ya 256 0))]/\i<=256/\m=256 - i) 256 ?_ ?_
 ·
  refine Qs ?_;exact ⟨0,rfl,hH2,by omega,rfl⟩
 clear hH2;rintro m e w' ⟨i,rfl,hH,hi,rfl⟩;refine VS [0,1,4,5] ?_;(repeat refine Ax ?_);refine VD (fun h=>?_) (fun h=>?_)
 ·
  refine Ab ?_;refine VB ?_;refine VS [0,1,2,4] ?_
  have e24:(i:Int) % 4294967296 * 2 ^ Bx Xa 24 % 4294967296=((Ol 0 (i * 16777216):Nat):Int):=by
   rw [show Bx Xa 24=24 from rfl,Ol];omega
  refine VQ [0,1,2,3,4] fun K hK=>?_;rw [e24];(repeat refine Qo ?_);apply hK;clear hK;refine VS [0,1,2,3,4,10] ?_;refine VB ?_;refine Au [0,1,2,3,4,10] (fun m e w2=>∃ (k:Nat),Is e [(0,.pointer (some ⟨g0,0,none⟩)),(1,.pointer (some ⟨g1,0,none⟩)),(2,.int .i64 i),(3,.int .u32 (Ol k (i * 16777216):Nat)),(4,.int .i64 i),(10,.int .i64 k)]/\Is w2 w'/\k<=8/\m=8 - k) 8 ?_ ?_
  ·
   refine Qs ?_;exact ⟨0,rfl,rfl,by omega,rfl⟩
  rintro m e w2 ⟨k,rfl,rfl,hk,rfl⟩;refine VS [0,1,2,3,4,10,11] ?_;(repeat refine Ax ?_);refine VD (fun h=>?_) (fun h=>?_)
  ·
   refine Ab ?_;refine VB ?_;have hr:=Qs6 (r:=i * 16777216) (by omega) k;have hsh:Ol (k+1) (i * 16777216)=R1 (Ol k (i * 16777216)):=rfl;generalize Ol k (i * 16777216)=r at *;have hand:=QEs hr;refine VQ [0,1,2,3,4,10,14] fun K hK=>?_;refine ⟨⟨by omega,by omega⟩,⟨by omega,by omega⟩,?_⟩;rw [show Ue 2147483648=2147483648 from rfl,hand];apply hK;clear hK
   have fin:∀ q:Nat,q=R1 r->D9 [0,1,2,3,4,10] [(0,.pointer (some ⟨g0,0,none⟩)),(1,.pointer (some ⟨g1,0,none⟩)),(2,.int .i64 i),(3,.int .u32 q),(4,.int .i64 i),(10,.int .i64 (k+1))] fun e=>∃ m,m < 8 - k/\∃ (k:Nat),Is e [(0,.pointer (some ⟨g0,0,none⟩)),(1,.pointer (some ⟨g1,0,none⟩)),(2,.int .i64 i),(3,.int .u32 (Ol k (i * 16777216):Nat)),(4,.int .i64 i),(10,.int .i64 k)]/\Is w2 w2/\k<=8/\m=8 - k:=by
    intro q hq;refine Qs ?_;exact ⟨8 - (k+1),by omega,k+1,by rw [hsh,hq];rfl,rfl,by omega,rfl⟩
   by_cases hbig:2147483648<=r
   ·
    refine Ae rfl rfl (fun h=>?_) (fun h=>by simp [hbig] at h);refine VQ [0,1,2,3,4,10] fun K hK=>?_
    have e1:(r:Int) * 2 ^ Bx Xa 1 % 4294967296=((r * 2 % 4294967296:Nat):Int):=by
     rw [show Bx Xa 1=1 from rfl];omega
    rw [e1];refine ⟨by omega,⟨by omega,by omega⟩,⟨by omega,by omega⟩,?_⟩;apply hK;clear hK;refine Ao ?_;refine VS [0,1,2,3,4,10] ?_;refine Ah ?_;refine fin _ ?_;rw [R1,if_pos hbig];rfl
   refine Ae rfl rfl (fun h=>by simp [hbig] at h) (fun h=>?_);refine VQ [0,1,2,3,4,10] fun K hK=>?_
   have e1:(r:Int) * 2 ^ Bx Xa 1 % 4294967296=((r * 2 % 4294967296:Nat):Int):=by
    rw [show Bx Xa 1=1 from rfl];omega
   rw [e1];(repeat refine Qo ?_);apply hK;clear hK;refine Ao ?_;refine VS [0,1,2,3,4,10] ?_;refine Ah ?_;refine fin _ ?_;rw [R1,if_neg hbig]
  refine As rfl ?_;have hk8:k=8:=by omega
  subst hk8;refine VQ [0,1,4] fun K hK=>?_;(repeat first | refine Qo ?_ | refine Qp ?_);refine Af ?_;refine Qs ?_;refine Al hH 0 (vs:=[.int .u32 (tab i:Nat)]) rfl rfl (by kernel_rfl) (by rw [Vj];simp;omega) (by simp [Yl]) fun w6 hH2=>?_
  have hset:(Bm ((Yf i).map tab++Ya (256 - i) 0)).take i++[Y5 .u32 (tab i:Nat)]++(Bm ((Yf i).map tab++Ya (256 - i) 0)).drop (i+1)=Bm ((Yf (i+1)).map tab++Ya (256 - (i+1)) 0):=by
   rw [Di _ _ _ (by rw [Vj];simp;omega)];rw [Xw,Xj,show 256 - i=(256 - (i+1))+1 by omega,Y9];simp [Bm,Xf]
  simp only [Yp] at hH2;rw [hset] at hH2;apply hK;clear hK;refine Ao ?_;refine VS [0,1,4] ?_;refine Ah ?_;refine Qs ?_;exact ⟨256 - (i+1),by omega,i+1,rfl,hH2,by omega,rfl⟩
 refine As rfl ?_;have hi:i=256:=by omega
 subst hi;have e:(Yf 256).map tab++Ya (256 - 256) 0=tabs:=by simp [tabs]
 rw [e] at hH;refine VQ [0] fun K hK=>?_;refine ⟨Bm tabs,⟨by rw [Vj,Z6],Ca (hH.at 0 rfl)⟩,?_⟩;refine Af ?_;refine Qs ?_;have hlen:(Bm tabs).length=256:=by rw [Vj,Z6]
 have hlen0:(Bm (Ya 256 0)).length=256:=by simp [Bm]
 refine Al hH 1 (vs:=Bm tabs) rfl rfl (by rw [hlen];kernel_rfl) (by rw [hlen,hlen0];omega) (by intro u hu;obtain ⟨n,_,rfl⟩:=Xd.1 hu;rfl) fun w6 hH2=>?_
 have e2:(Bm (Ya 256 0)).take 0++Bm tabs++(Bm (Ya 256 0)).drop (0+(Bm tabs).length)=Bm tabs:=by
  rw [Yv,Ye,Y7 (by rw [hlen,hlen0];omega),Yi]
 rw [e2] at hH2;apply hK;clear hK;refine Ad (Ve rfl rfl (Cv (hH2.at 1 rfl) (by kernel_rfl) (by kernel_rfl) hlen ?_));exact ⟨hH2.sub (by simp),rfl⟩
theorem QJn {α:Sort _} (a:α):Is a a:=rfl
theorem Qwa (r:Nat) (s:List UInt8) (w:World) (hr:r < 4294967296) (hs:s.length<=1000000000000000000) :
  Does Ys 66 #[.int .u32 r,Aa s] w fun v w'=>Heap w [] w' []/\v=.int .u32 (N0 r s:Nat):=by
 refine En [.int .u32 r,Aa s] 27 Tryz.func66 ?_;refine VS [0,1] ?_;refine VQ [0,1,5] fun K hK=>?_;refine Ac Tryz.call110 ?_;refine Qs ?_;refine Yk (Qr3 w) ?_;rintro v w1 ⟨hH,rfl⟩;refine A6 (.agg (Bm (Ya 256 0)).toArray) (by kernel_rfl) ?_;have hH2:=hH.box 170 (Bm (Ya 256 0));have ecells:(Xp (Bm (Ya 256 0)).toArray).cells=(Bm (Ya 256 0)).toArray:=rfl;rw [ecells];generalize w1.alloc (Yo (Bm (Ya 256 0)).toArray 170)=w2 at *;generalize w1.heap.size=g at *;refine Qs ?_;refine Af ?_;refine Qs ?_;have hlen:(Bm tabs).length=256:=by rw [Vj,Z6]
 have hlen0:(Bm (Ya 256 0)).length=256:=by simp [Bm]
 refine Al hH2 0 (vs:=Bm tabs) rfl rfl (by rw [hlen];kernel_rfl) (by rw [hlen,hlen0];omega) (by intro u hu;obtain ⟨n,_,rfl⟩:=Xd.1 hu;rfl) fun w6 hH3=>?_
 have e2:(Bm (Ya 256 0)).take 0++Bm tabs++(Bm (Ya 256 0)).drop (0+(Bm tabs).length)=Bm tabs:=by
  rw [Yv,Ye,Y7 (by rw [hlen,hlen0];omega),Yi]
 rw [e2] at hH3;have hH4:Heap w [] w6 [Yn g 170 (Bm tabs)]:=hH3;clear hH3 hH2 hH ecells;apply hK;clear hK;refine VS [0,1,5,9,10] ?_;refine VB ?_;refine Au [0,1,5,9,10] (fun m e w'=>∃ (i:Nat),Is e [(0,.int .u32 (N0 r (s.take i):Nat)),(1,Aa s),(5,.pointer (some ⟨g,0,none⟩)),(9,.int .i64 s.length),(10,.int .i64 i)]/\Is w' w6/\i<=s.length/\m=s.length - i) s.length ?_ ?_
 ·
  refine Qs ?_;exact ⟨0,rfl,rfl,by omega,rfl⟩
 rintro m e w' ⟨i,rfl,rfl,hi,rfl⟩;refine VS [0,1,5,9,10,11] ?_;(repeat refine Ax ?_);refine VD (fun h=>?_) (fun h=>?_)
 ·
  refine Ab ?_;refine VB ?_;refine VS [0,1,5,6,9,10] ?_;have hq:=W9 (s.take i) hr;have htk:=Mq (0:UInt8) (l:=s) (i:=i) (by omega);have hnext:=Qlj r (s.take i) (s.getD i 0);rw [<- htk,Vr] at hnext;have hb:=(s.getD i 0).toNat_lt;have hx:(N0 r (s.take i) / 16777216) ^^^ (s.getD i 0).toNat < 256:=Xn (n:=8) (by omega) (by omega);have htl:=QAl _ hx;have htg:=Qzs hx;generalize N0 r (s.take i)=q at *
  have e1:(q:Int) / 2 ^ Bx Xa 24 % 256=((q / 16777216:Nat):Int):=by
   rw [show Bx Xa 24=24 from rfl];omega
  have e3:(q:Int) * 2 ^ Bx Xa 8 % 4294967296=((q * 256 % 4294967296:Nat):Int):=by
   rw [show Bx Xa 8=8 from rfl];omega
  refine VQ [0,1,5,9,10] fun K hK=>?_;rw [e1,e3];(repeat first | refine Qo ?_ | refine Qp ?_);(try simp only [Yz]);(repeat first | refine Qo ?_ | refine Qp ?_);refine ⟨_,Aj (hH4.at 0 rfl) (Qpo (by rw [Z6];exact hx)),?_⟩;refine Qs ?_;rw [htg];clear htg hx;generalize tab (q / 16777216 ^^^ (s.getD i 0).toNat)=tb at *;(repeat first | refine Qo ?_ | refine Qp ?_);(try simp only [Yz]);apply hK;clear hK;refine Ao ?_;refine VS [0,1,5,9,10] ?_;refine Ah ?_;refine Qs ?_;exact ⟨s.length - (i+1),by omega,i+1,by rw [hnext];exact QJn _,rfl,by omega,rfl⟩
 refine As rfl ?_;refine VS [4] ?_;rw [Y1 (by omega)];exact Ad (A2 rfl rfl ⟨hH4.sub (by simp),rfl⟩)
theorem Zg (s:List UInt8) (w:World) (hs:s.length<=1000000000000000000):Does Ys 31 #[Aa s] w fun v w'=>Heap w [] w' []/\v=.int .u32 (Cd s:Nat):=by
 have hlt:=W9 s (r:=4294967295) (by omega);refine En [Aa s] 6 Tryz.func31 ?_;refine VS [0] ?_;refine VQ [2] fun K hK=>?_;refine Ac Tryz.call66 ?_;refine Qs ?_;refine Yk (Qwa 4294967295 s w (by omega) hs) ?_;rintro v w1 ⟨hH,rfl⟩;refine Qs ?_;refine Qp ?_;have e:4294967295 - ((N0 4294967295 s:Nat):Int)=((Cd s:Nat):Int):=by unfold Cd;omega
 rw [e];apply hK;clear hK;exact Ad (A2 rfl rfl ⟨hH,rfl⟩)
theorem Qf0 (l:List Nat) (x:Nat):Ii (l++[x])=((Ii l * 2 % 4294967296) ||| Ii l / 2147483648) ^^^ x:=by simp [Ii]
theorem Wt (l:List Nat) (h:∀ x∈l,x < 4294967296):Ii l < 4294967296:=by
 have:∀ (l:List Nat) (c:Nat),c < 4294967296->(∀ x∈l,x < 4294967296)->l.foldl (fun c x=>((c * 2 % 4294967296) ||| c / 2147483648) ^^^ x) c < 4294967296:=by
  intro l
  induction l with
  | nil=>intro c hc _;exact hc
  | cons x l ih =>
   intro c hc hx;refine ih _ ?_ fun y hy=>hx y (by simp [hy]);exact Xn (n:=32) (Ul (Ug _ (by decide)) (by omega)) (hx x (by simp))
 exact this l 0 (by decide) h
theorem Qde (l:List Nat) (a:Option Addr) (cap:Nat) (w:World) (hl:RS w a l.length 1 (Bm l)) (h32:∀ x∈l,x < 4294967296) (hs:l.length<=1000000000000000000) :
  Does Ys 34 #[.slice a l.length cap] w fun v w'=>w'=w/\v=.int .u32 (Ii l:Nat):=by
 refine En [.slice a l.length cap] 22 Tryz.func34 ?_;refine VS [0] ?_;refine VS [0,3] ?_;refine VS [3,6,7,8] ?_;refine VB ?_;refine Au [3,6,7,8] (fun m e w'=>∃ (i:Nat),Is e [(3,.int .u32 (Ii (l.take i):Nat)),(6,.slice a l.length cap),(7,.int .i64 l.length),(8,.int .i64 i)]/\Is w' w/\i<=l.length/\m=l.length - i) l.length ?_ ?_
 ·
  refine Qs ?_;exact ⟨0,rfl,rfl,by omega,rfl⟩
 rintro m e w' ⟨i,rfl,rfl,hi,rfl⟩;refine VS [3,6,7,8,9] ?_;(repeat refine Ax ?_);refine VD (fun h=>?_) (fun h=>?_)
 ·
  refine Ab ?_;refine VB ?_;obtain ⟨p,rfl⟩:=Dt hl (by omega);have hc:w'.cell? (p.add i)=some (.int .u32 ((l.getD i 0:Nat):Int)):=hl.2.2 p rfl i _ (Qpo (by omega));have hx:=h32 _ (Dr 0 (show i < l.length by omega));have hq:=Wt (l.take i) fun x hx=>h32 x (List.mem_of_mem_take hx);have htk:=Mq 0 (l:=l) (i:=i) (by omega);have hnext:=Qf0 (l.take i) (l.getD i 0);rw [<- htk] at hnext;generalize Ii (l.take i)=q at *;generalize l.getD i 0=x at *;refine VQ [3,5,6,7,8] fun K hK=>?_;refine ⟨⟨by omega,by omega⟩,_,hc,?_⟩;apply hK;clear hK;have e1:(q:Int) * 2 ^ Bx Xa 1 % 4294967296=((q * 2 % 4294967296:Nat):Int):=by rw [show Bx Xa 1=1 from rfl];omega
  have e2:(q:Int) / 2 ^ Bx Xa 31=((q / 2147483648:Nat):Int):=by rw [show Bx Xa 31=31 from rfl];omega
  have hor:(q * 2 % 4294967296) ||| q / 2147483648 < 4294967296:=Ul (n:=32) (Ug _ (by decide)) (by omega)
  refine VQ [3,5,6,7,8] fun K hK=>?_;rw [e1,e2];refine ⟨by omega,by omega,⟨by omega,by omega⟩,⟨by omega,by omega⟩,?_⟩;(try simp only [Yz]);apply hK;clear hK;generalize (q * 2 % 4294967296) ||| q / 2147483648=o at *
  refine VQ [3,6,7,8] fun K hK=>?_;refine ⟨⟨by omega,by omega⟩,⟨by omega,by omega⟩,?_⟩;(try simp only [Yz]);rw [<- hnext];apply hK;clear hK;refine Ao ?_;refine VS [3,6,7,8] ?_;refine Ah ?_;refine Qs ?_;exact ⟨l.length - (i+1),by omega,i+1,rfl,rfl,by omega,rfl⟩
 refine As rfl ?_;refine VS [2] ?_;rw [Y1 (by omega)];exact Ad (A2 rfl rfl ⟨rfl,rfl⟩)
set_option maxHeartbeats 4000000
def Ke (bits:List Bool) (at_:Nat) (most:Int):Except Int (List UInt8×Nat×Nat) :=
 if (Dc bits at_).2.2.2≠0 then .error (Dc bits at_).2.2.2 else
 match Kq bits (Dc bits at_).2.2.1 with
 | .error e=>.error e
 | .ok u=>match I7 bits u.2 (u.1.length+2) with
  | .error e=>.error e
  | .ok p=>match Ef p.1.1 bits ((p.1.1.getD 0 []).length - 1) p.1.2 p.2 with
   | .error e=>.error e
   | .ok q =>
    if (Kj u.1 q.1 (Dc bits at_).2.1 most).2≠0 then .error (Kj u.1 q.1 (Dc bits at_).2.1 most).2
    else if Cd (Kj u.1 q.1 (Dc bits at_).2.1 most).1≠(Dc bits at_).1 then .error 121
    else .ok ((Kj u.1 q.1 (Dc bits at_).2.1 most).1,(Dc bits at_).1,q.2)
def Lf (s:List UInt8) (at_ most:Int):Except Int (List UInt8×Nat×Nat) :=
 if most < 1∨262144 < most∨at_ < 0∨8 * (s.length:Int) < at_ then .error 2 else Ke (At s) at_.toNat most
def QAw (r:Except Int (List UInt8×Nat×Nat)):Value:=match r with
 | .ok r=>.tuple #[Aa r.1,.int .u32 r.2.1,.int .i64 r.2.2,.int .i64 0]
 | .error e=>.tuple #[Aa [],.int .u32 0,.int .i64 0,.int .i64 e]
theorem Qs7 (l:List Bool) (a:Nat):((Dc l a).2.2.2=0/\a+105<=l.length/\(Dc l a).2.2.1=a+105/\(Dc l a).1 < 4294967296/\(Dc l a).2.1 < 16777216)∨((Dc l a).2.2.2=10∨(Dc l a).2.2.2=120):=by
 unfold Dc;have h1:=K8 ((l.drop (a+48)).take 32);have h2:=Yy (show 0 < 2 by omega) (show ((l.drop (a+48)).take 32).length<=32 by rw [Y6];omega);have h3:=K8 ((l.drop (a+81)).take 24);have h4:=Yy (show 0 < 2 by omega) (show ((l.drop (a+81)).take 24).length<=24 by rw [Y6];omega)
 repeat' split
 all_goals first
  | (exact .inr (.inl rfl))
  | (exact .inr (.inr rfl))
  | (refine .inl ⟨rfl,by omega,rfl,?_,?_⟩ <;> simp only <;> omega)
theorem Qzt:∀ (l out:List UInt8) (k:Nat),(C6 out k l).2=0∨(C6 out k l).1=[]:=by
 intro l
 induction l with
 | nil=>intro out k;rw [C6];split <;> simp
 | cons c l ih =>
  intro out k;rw [C6]
  repeat' split
  all_goals first | (right;rfl) | exact ih _ _
theorem Qzu (u:List UInt8) (l:List Nat) (row most:Int):(Kj u l row most).2=0∨(Kj u l row most).1=[]:=by
 unfold Kj
 repeat' split
 all_goals first | (right;rfl) | exact Qzt _ _ _
theorem Qpp (u:List UInt8) (l:List Nat) (row most:Int):(Kj u l row most).1.length<=262144:=by
 unfold Kj
 repeat' split
 all_goals first | simp | exact QEk _ _ _ (by simp)
theorem Qf1 (s:List UInt8) (at_ most:Int) (w:World) (ha:I64 at_) (hm:I64 most) (hs:s.length<=100000000000000) :
  Does Ys 46 #[Aa s,.int .i64 at_,.int .i64 most] w fun v w'=>Heap w [] w' []/\v=QAw (Lf s at_ most):=by
 have hbl:=D0 s;have hhd:=fun w=>Qfz s at_ w ha (by omega);refine En [Aa s,.int .i64 at_,.int .i64 most] 90 Tryz.func46 ?_;refine VS [0,1,2] ?_;refine VQ [0,1,2,22] fun K hK=>?_
 suffices out:∀ b:Bool,(b=true ↔ most < 1∨262144 < most)->K [(0,Aa s),(1,.int .i64 at_),(2,.int .i64 most),(22,.bool b)] w by
  refine ⟨fun h=>out _ (by simp at h ⊢;omega),fun h=>out _ (by simp at h ⊢;omega)⟩
 intro b hb;apply hK;clear hK;refine Vi (fun h=>?_) (fun h=>Ab ?_)
 ·
  have hb:=hb.1 h;refine VS [6,7,8,9] ?_;refine Ad (P6 rfl rfl rfl rfl rfl ⟨Y3 w,?_⟩);rw [Lf,if_pos (by omega)];rfl
 have hmo:¬ (most < 1∨262144 < most):=fun hh=>by rw [hb.2 hh] at h;cases h
 clear hb h;refine VQ [0,1,2,10,11,12] fun K hK=>?_;refine Ac Tryz.call81 ?_;refine Qs ?_;refine Yk (hhd w) ?_;rintro v w2 ⟨hH,rfl⟩;by_cases hat:at_ < 0∨8 * (s.length:Int) < at_
 ·
  rw [if_pos hat];unfold Wn;refine Qs ?_;apply hK;clear hK;refine VS [0,1,2,10,11,12,32] ?_;refine Ae rfl rfl (fun h=>?_) (fun h=>by simp at h);refine VS [6,7,8,9] ?_;refine Ad (P6 rfl rfl rfl rfl rfl ⟨hH,?_⟩);rw [Lf,if_pos (by omega)];rfl
 rw [if_neg hat];have hF:Lf s at_ most=Ke (At s) at_.toNat most:=by rw [Lf,if_neg (by omega)]
 rw [hF] at hK;obtain ⟨at_,rfl⟩:∃ n:Nat,at_=n:=⟨at_.toNat,by omega⟩;rw [Yz] at hK ⊢;have hok:=Qs7 (At s) at_;have hE:Ke (At s) at_ most=Ke (At s) at_ most:=rfl
 conv at hE=>rhs;unfold Ke
 generalize Ke (At s) at_ most=res at *;clear hF hat hhd;generalize Dc (At s) at_=hd at *;obtain ⟨sum,row,tz,e⟩:=hd;simp only at hok hE;unfold Wn;refine Qs ?_;apply hK;clear hK;refine VS [0,1,2,10,11,12,32] ?_;refine VD (fun h=>?_) (fun h=>?_)
 ·
  refine VS [6,7,8,9] ?_;refine Ad (P6 rfl rfl rfl rfl rfl ⟨hH,?_⟩);rw [hE,if_pos (by omega)];rfl
 obtain rfl:e=0:=by omega
 rw [if_neg (by simp)] at hE
 obtain ⟨_,h1,rfl,h2,h3⟩:(0:Nat)=0/\at_+105<=(At s).length/\tz=at_+105/\sum < 4294967296/\row < 16777216:=by
  rcases hok with hok | hok
  ·
   exact hok
  omega
 clear hok h;refine Ab ?_;have hst:=fun w=>Qk5 s (at_+105) (by omega) (by omega) w;generalize hbits:At s=bits at *;refine VQ [0,1,2,10,11,12,13] fun K hK=>?_;refine Ac Tryz.call82 ?_;refine Qs ?_;refine Yk (hst w2) ?_;rintro v w3 ⟨hHs,rfl⟩;have hH2:=hH.call0 hHs;clear hH hHs hst;cases hU:Kq bits (at_+105) with
 | error e =>
  rw [hU] at hE;have he:=Qc6 hU;unfold exV;refine Qs ?_;apply hK;clear hK;refine VS [0,1,2,10,11,12,13,42] ?_;refine Ae rfl rfl (fun h=>?_) (fun h=>by simp at h;exact absurd h he);refine VS [6,7,8,9] ?_;refine Ad (P6 rfl rfl rfl rfl rfl ⟨hH2,?_⟩);rw [hE];rfl
 | ok u =>
  rw [hU] at hE;obtain ⟨u1,u2,u3⟩:=Qbg hU;obtain ⟨u,at2⟩:=u;simp only at hE u1 u2 u3;unfold exV;refine Qs ?_;apply hK;clear hK;refine VS [0,1,2,10,11,12,13,42] ?_;refine Ae rfl rfl (fun h=>by simp at h) (fun h=>Ab ?_);have hpt:=fun w=>Qir s at2 (u.length+2) (by omega) (by omega) (by omega) w;rw [hbits] at hpt;refine VQ [0,1,2,10,11,12,13,14] fun K hK=>?_;(repeat first | refine Qo ?_ | refine Qp ?_);rw [show ((u.length:Int)+2)=((u.length+2:Nat):Int) by push_cast;rfl];refine Ac Tryz.call83 ?_;refine Qs ?_;refine Yk (hpt w3) ?_;cases hP:I7 bits at2 (u.length+2) with
  | error e =>
   rw [hP] at hE;have he:=Qc3 hP;rintro v w4 ⟨hHs,rfl⟩;have hH3:=hH2.call0 hHs;simp only [Yi] at hH3;clear hH2 hHs;refine A6 (.agg #[.slice none 0 0,.slice none 0 0]) (by kernel_rfl) ?_;refine Qs ?_;have hH4:=hH3.box 120 (Ai none 0 0 none 0 0);have hpl:[Xq none 0 0,Xq none 0 0]=Ai none 0 0 none 0 0:=rfl;rw [hpl];generalize w4.alloc (Yo (Ai none 0 0 none 0 0).toArray 120)=w5 at *;generalize w4.heap.size=gp at *;refine Af ?_;refine Qs ?_;refine Al hH4 0 (vs:=Ai none 0 0 none 0 0) rfl rfl (by kernel_rfl) (by simp [Ai]) (F4 _ _ _ _ _ _) fun w6 hH5=>?_;apply hK;clear hK;refine VS [0,1,2,10,11,12,13,14,55] ?_;refine Ae rfl rfl (fun h=>?_) (fun h=>by simp at h;exact absurd h he);refine VS [6,7,8,9] ?_;refine Ad (P6 rfl rfl rfl rfl rfl ⟨hH5.sub (by simp),?_⟩);rw [hE];rfl
  | ok p =>
   rw [hP] at hE;obtain ⟨m1,m2,m3⟩:=Qba (by omega) hP;obtain ⟨⟨T,P⟩,at3⟩:=p;simp only at hE m1 m2 m3;rintro v w4 ⟨pv,hHs,hpa,rfl⟩;have hH3:=hH2.call0 hHs;simp only [Yi] at hH3;clear hH2 hHs;obtain ⟨ta,tc,pa,pc,us,rfl,_⟩:=id hpa;have hpv:Xp #[.slice ta T.length tc,.slice pa P.length pc]=.agg (Ai ta T.length tc pa P.length pc).toArray:=rfl;simp only at hpa;rw [hpv] at hpa ⊢;refine Qs ?_;refine A6 (.agg #[.slice none 0 0,.slice none 0 0]) (by kernel_rfl) ?_;refine Qs ?_;have hHz:=(Y3 w4).box 120 (Ai none 0 0 none 0 0);have hpl:[Xq none 0 0,Xq none 0 0]=Ai none 0 0 none 0 0:=rfl;rw [hpl];generalize w4.alloc (Yo (Ai none 0 0 none 0 0).toArray 120)=w5 at *;generalize w4.heap.size=gp at *;refine Af ?_;refine Qs ?_;refine Al hHz 0 (vs:=Ai ta T.length tc pa P.length pc) rfl rfl (by kernel_rfl) (by simp [Ai]) (F4 _ _ _ _ _ _) fun w6 hHy=>?_;have hHx:Heap w4 [] w6 [Yn gp 120 (Ai ta T.length tc pa P.length pc)]:=hHy;have hH4:=hH3.call0 hHx;simp only [Yq] at hH4;have hpa2:=hpa.keep hHx;clear hHz hHy hHx hH3 hpa;apply hK;clear hK;refine VS [0,1,2,10,11,12,13,14,55] ?_;refine Ae rfl rfl (fun h=>by simp at h) (fun h=>Ab ?_);have hgt:=Qlh _ T P m1 s at3 (by omega) (by omega) w6 hpa2;rw [hbits] at hgt;refine VQ [1,2,10,11,12,13,15] fun K hK=>?_;refine ⟨Ai ta T.length tc pa P.length pc,⟨rfl,Ca (hH4.at 0 rfl)⟩,?_⟩;refine Ac Tryz.call84 ?_;refine Qs ?_;refine Yk hgt ?_;cases hG:Ef T bits ((T.getD 0 []).length - 1) P at3 with
   | error e =>
    rw [hG] at hE;have he:=Qg1 _ _ _ hG;rintro v w7 ⟨hHs,rfl⟩;have hH5:=hH4.call0 hHs;apply hK;clear hK;refine VS [1,2,10,11,12,13,15,66] ?_;refine Ae rfl rfl (fun h=>?_) (fun h=>by simp at h;exact absurd h he);refine VS [6,7,8,9] ?_;refine Ad (P6 rfl rfl rfl rfl rfl ⟨hH5.sub (by simp),?_⟩);rw [hE];rfl
   | ok q =>
    rw [hG] at hE;obtain ⟨n1,n2,n3,n4,n5,n6⟩:=m1;obtain ⟨g1,g2,g3⟩:=Qjq (N:=(T.getD 0 []).length) (fun t ht=>(n5 _ (by rw [Yg,Yd ht];exact Xl ht)).1) _ _ _ n6 (by omega) hG;obtain ⟨q,at4⟩:=q;simp only at hE g1 g2 g3;rintro v w7 ⟨aq,cq,hHs,rfl⟩;have hH5:=hH4.call0 hHs;simp only [Yq] at hH5;clear hH4 hHs hgt hpa2;refine Qs ?_;apply hK;clear hK;refine VS [1,2,10,11,12,13,15,66] ?_;refine Ae rfl rfl (fun h=>by simp at h) (fun h=>Ab ?_);have hup:=fun w h=>Qis u q row most aq cq (by omega) (by omega) (fun x hx=>by have:=g1 x hx;omega) (Xt (by omega) (by omega)) hm w h;have hue:=Qzu u q row most;have hul:=Qpp u q row most;generalize Kj u q row most=X at *;obtain ⟨txt,e⟩:=X;simp only at hE hue hul hup;refine VQ [1,10,12,16] fun K hK=>?_;refine Ac Tryz.call85 ?_;refine Qs ?_;refine Yk (hup w7 (Az (hH5.at 0 rfl))) ?_;rintro v w8 ⟨hHs,rfl⟩;have hH6:=hH5.call0 hHs;simp only [Ye] at hH6;clear hH5 hHs hup;apply hK;clear hK;refine VQ [1,10,12,16,83] fun K hK=>?_
    suffices out:∀ b:Bool,∀ w9,Heap w [] w9 []->(b=true ↔ e=0/\Cd txt≠sum)->K [(1,.int .i64 at4),(10,.int .u32 sum),(12,.int .i64 e),(16,Aa txt),(83,.bool b)] w9 by
     refine ⟨fun h=>?_,fun h=>out _ _ (hH6.sub (by simp)) (by simp at h ⊢;intro h';exact absurd h' h)⟩;refine Ac Tryz.call31 ?_;refine Qs ?_;refine Yk (Zg txt w8 (by omega)) ?_;rintro v w9 ⟨hHs,rfl⟩;have hH7:=hH6.call0 hHs;refine Qs ?_;exact out _ _ (hH7.sub (by simp)) (by simp [h];omega)
    intro b w9 hH7 hb;apply hK;clear hK;(repeat refine Ax ?_);refine Dk [1,10,12,16] (fun e' w'=>∃ x:Int,Is e' [(1,.int .i64 at4),(10,.int .u32 sum),(12,.int .i64 x),(16,Aa txt)]/\Is w' w9/\x=if b=true then 121 else e) ?_ ?_
    ·
     refine Vi (fun h=>?_) (fun h=>?_)
     ·
      refine VS [1,10,12,16] ?_;refine Ah ?_;refine Qs ?_;exact ⟨121,rfl,rfl,by simp [h]⟩
     refine Ab (Ah ?_);refine Qs ?_;exact ⟨e,rfl,rfl,by simp [h]⟩
    rintro e' w' ⟨x,rfl,rfl,hx⟩;refine VS [1,10,12,16,85] ?_;refine VD (fun h=>?_) (fun h=>Ab ?_)
    ·
     refine VS [6,7,8,9] ?_;refine Ad (P6 rfl rfl rfl rfl rfl ⟨hH7,?_⟩);rw [hE];by_cases hb2:b=true
     ·
      have h2:=hb.1 hb2;rw [if_pos hb2] at hx;rw [if_neg (by simp [h2.1]),if_pos h2.2,hx];rfl
     rw [if_neg hb2] at hx;rw [if_pos (by rw [<- hx];exact h),hx];rfl
    refine VS [6,7,8,9] ?_;refine Ad (P6 rfl rfl rfl rfl rfl ⟨hH7,?_⟩);have hb2:¬ b=true:=fun hb2=>by rw [if_pos hb2] at hx;omega
    rw [if_neg hb2] at hx;have he0:e=0:=by omega
    rw [hE,if_neg (by simp [he0]),if_neg (fun hc=>hb2 (hb.2 ⟨he0,hc⟩))];rfl
def L2 (s:List UInt8) (room:Int):Nat->Nat->List UInt8->List Nat->Except Int (List UInt8×Nat)
 | 0,_,_,_=>.error 10
 | f+1,bit,out,sums =>
  if 8 * s.length < bit+48 then .error 10
  else if Bc (((At s).drop bit).take 48)=25779555029136 then
   if 8 * s.length < bit+48+32 then .error 10
   else if Bc (((At s).drop (bit+48)).take 32)≠Ii sums then .error 121
   else .ok (out,(bit+87) / 8)
  else if Bc (((At s).drop bit).take 48)=54156738319193 then
   match Lf s bit room with
   | .error e=>.error e
   | .ok r=>if 262144 < out.length+r.1.length then .error 3 else L2 s room f r.2.2 (out++r.1) (sums++[r.2.1])
  else .error 130
def Ia (s:List UInt8) (a:Int):Except Int (List UInt8×Nat) :=
 if a < 0∨(s.length:Int) < a then .error 2
 else if (E3 s a.toNat 0 4).2≠0 then .error (E3 s a.toNat 0 4).2
 else L2 s (min ((E3 s a.toNat 0 4).1 * 100000) 262144) (8 * s.length+1) (8 * (a.toNat+4)) [] []
def Qmh (r:Except Int (List UInt8×Nat)):Value:=match r with
 | .ok r=>.tuple #[Aa r.1,.int .i64 r.2,.int .i64 0]
 | .error e=>.tuple #[Aa [],.int .i64 0,.int .i64 e]
theorem QEt {bits:List Bool}:∀ (r:List Bool) (i at_:Nat) (q:List UInt8×Nat),C9 bits r i at_=.ok q->at_<=q.2:=by
 intro r
 induction r with
 | nil=>intro i at_ q h;rw [C9] at h;cases h;exact Y4 _
 | cons b r ih =>
  intro i at_ q h;cases b with
  | false=>rw [C9] at h;exact ih _ _ _ h
  | true =>
   rw [C9] at h;split at h
   ·
    cases h
   cases hr:C9 bits r (i+1) (at_+16) with
   | error e=>rw [hr] at h;cases h
   | ok q' =>
    rw [hr] at h;cases h;have:=ih _ _ _ hr
    show at_<=q'.2
    omega
theorem Qn2 {bits:List Bool}{at_:Nat}{q:List UInt8×Nat} (h:Kq bits at_=.ok q):at_<=q.2:=by
 unfold Kq at h;split at h
 ·
  cases h
 cases hr:C9 bits ((bits.drop at_).take 16) 0 (at_+16) with
 | error e=>rw [hr] at h;cases h
 | ok q' =>
  rw [hr] at h;simp only at h;split at h
  ·
   cases h
  cases h;have:=QEt _ _ _ _ hr;omega
theorem QEu {bits:List Bool}{many:Nat}:∀ (k:Nat) (li:List Nat) (at_:Nat) (q:List Nat×Nat),Fs bits many li k at_=.ok q->at_<=q.2:=by
 intro k
 induction k with
 | zero=>intro li at_ q h;rw [Fs] at h;cases h;exact Y4 _
 | succ k ih =>
  intro li at_ q h;rw [Fs] at h;split at h
  ·
   cases h
  split at h
  ·
   cases h
  rename_i q' hr;cases h;have:=ih _ _ _ hr
  show at_<=q'.2
  omega
theorem Qit {bits:List Bool}{at_ n:Nat}{q:List Nat×Nat} (h:Kn bits at_ n=.ok q):at_<=q.2:=by
 unfold Kn at h;split at h
 ·
  cases h
 have:=(Qfc _ _ _ _ _ _ (Y4 _) h).2.2;omega
theorem QEv {bits:List Bool}{n:Nat}:∀ (k at_:Nat) (q:List (List Nat)×Nat),Ft bits n k at_=.ok q->at_<=q.2:=by
 intro k
 induction k with
 | zero=>intro at_ q h;rw [Ft] at h;cases h;exact Y4 _
 | succ k ih =>
  intro at_ q h;rw [Ft] at h;split at h
  ·
   cases h
  rename_i q1 h1;split at h
  ·
   cases h
  split at h
  ·
   cases h
  rename_i q' hr;cases h;have:=ih _ _ hr;have:=Qit h1
  show at_<=q'.2
  omega
theorem Qn3 {bits:List Bool}{at_ n:Nat}{q:(List (List Nat)×List Nat)×Nat} (h:I7 bits at_ n=.ok q):at_<=q.2:=by
 unfold I7 at h;split at h
 ·
  cases h
 split at h
 ·
  cases h
 split at h
 ·
  cases h
 split at h
 ·
  cases h
 split at h
 ·
  cases h
 rename_i q1 h1;split at h
 ·
  cases h
 rename_i q' hr;cases h;have:=QEu _ _ _ _ h1;have:=QEv _ _ _ hr
 show at_<=q'.2
 omega
theorem Qzv {T:List (List Nat)}{bits:List Bool}{fin:Nat}:∀ (P:List Nat) (at_:Nat) (q:List Nat×Nat),at_<=bits.length->Ef T bits fin P at_=.ok q->at_<=q.2:=by
 intro P
 induction P with
 | nil=>intro at_ q _ h;rw [Ef] at h;cases h
 | cons p P ih =>
  intro at_ q ha h;rw [Ef] at h;split at h
  ·
   cases h
  rename_i q1 h1;obtain ⟨_,_,h3,h4⟩:=Qdz _ _ _ ha h1;split at h
  ·
   cases h;exact h4
  split at h
  ·
   cases h
  rename_i q' hr;cases h;have:=ih _ _ h3 hr
  show at_<=q'.2
  omega
theorem Qzw {bits:List Bool}{at_:Nat}{most:Int}{r:List UInt8×Nat×Nat} (h:Ke bits at_ most=.ok r) :
  at_+105<=r.2.2/\r.2.2<=bits.length/\r.1.length<=262144/\r.2.1 < 4294967296:=by
 unfold Ke at h;split at h
 ·
  cases h
 rename_i h0;obtain ⟨_,b1,b2,b3,_⟩:=(Qs7 bits at_).resolve_right (fun hh=>h0 (by omega));rw [b2] at h;split at h
 ·
  cases h
 rename_i u hu;split at h
 ·
  cases h
 rename_i p hp;split at h
 ·
  cases h
 rename_i q hq;split at h
 ·
  cases h
 split at h
 ·
  cases h
 cases h;obtain ⟨u1,u2,u3⟩:=Qbg hu;obtain ⟨m1,m2,m3⟩:=Qba (by omega) hp;obtain ⟨n1,n2,n3,n4,n5,n6⟩:=m1;obtain ⟨g1,g2,g3⟩:=Qjq (N:=(p.1.1.getD 0 []).length) (fun t ht=>(n5 _ (by rw [Yg,Yd ht];exact Xl ht)).1) _ _ _ n6 (by omega) hq;have e1:=Qn2 hu;have e2:=Qn3 hp;have e3:=Qzv _ _ _ (by omega) hq;exact ⟨by show at_+105<=q.2;omega,g3,Qpp _ _ _ _,b3⟩
theorem Qwb {bits:List Bool}{at_:Nat}{most:Int}{e:Int} (h:Ke bits at_ most=.error e):e≠0:=by
 unfold Ke at h;split at h
 ·
  rename_i h0;cases h;exact_mod_cast h0
 split at h
 ·
  rename_i hu;cases h;exact Qc6 hu
 split at h
 ·
  rename_i hp;cases h;exact Qc3 hp
 split at h
 ·
  rename_i hq;cases h;exact Qg1 _ _ _ hq
 split at h
 ·
  rename_i h0;cases h;exact h0
 split at h
 ·
  cases h;decide
 cases h
theorem Qpq {s:List UInt8}{at_:Nat}{most:Int}{r:List UInt8×Nat×Nat} (h:Lf s at_ most=.ok r) :
  at_+105<=r.2.2/\r.2.2<=8 * s.length/\r.1.length<=262144/\r.2.1 < 4294967296:=by
 unfold Lf at h;split at h
 ·
  cases h
 rw [Yz] at h;have:=Qzw h
 rwa [D0] at this
theorem Qjy {s:List UInt8}{at_:Nat}{most:Int}{e:Int} (h:Lf s at_ most=.error e):e≠0:=by
 unfold Lf at h;split at h
 ·
  cases h;decide
 exact Qwb h
set_option maxHeartbeats 4000000
theorem QJo {s:List UInt8}{a:Nat}:(E3 s a 0 4).2=0->1<=(E3 s a 0 4).1/\(E3 s a 0 4).1<=9/\a+4<=s.length:=by
 simp only [E3,Ua,Nat.reduceAdd]
 repeat' split
 all_goals intro h
 all_goals first | (simp at h;done) | skip
 rename_i h1 h2;unfold M5 at h2;refine ⟨?_,?_,?_⟩ <;> omega
theorem Qe7 (s:List UInt8) (a:Int) (w:World) (ha:I64 a) (hs:s.length<=1000000000000) :
  Does Ys 22 #[Aa s,.int .i64 a] w fun v w'=>Heap w [] w' []/\v=Qmh (Ia s a):=by
 have hbl:=D0 s;generalize hres:Ia s a=res;unfold Ia at hres;refine En [Aa s,.int .i64 a] 109 Tryz.func22 ?_;refine VS [0,1] ?_;refine Vd ?_;refine VQ [0,1,26] fun K hK=>?_
 suffices out:∀ b:Bool,(b=true ↔ a < 0∨(s.length:Int) < a)->K [(0,Aa s),(1,.int .i64 a),(26,.bool b)] w by
  (repeat' (first | exact out _ _ (by first | omega | (simp;done) | (simp;omega)) | exact out _ (by first | omega | (simp;done) | (simp;omega)) | refine ⟨fun _=>?_,fun _=>?_⟩ | refine Qo ?_))
 intro b hb;apply hK;clear hK;refine Vi (fun h=>?_) (fun h=>Ab ?_)
 ·
  rw [if_pos (hb.1 h)] at hres;subst hres;refine VS [4,5,6] ?_;exact Ad (Dh rfl rfl rfl rfl ⟨Y3 w,rfl⟩)
 have hg:¬ (a < 0∨(s.length:Int) < a):=fun hh=>by rw [hb.2 hh] at h;cases h
 rw [if_neg hg] at hres;clear hb h;obtain ⟨a,rfl⟩:∃ n:Nat,a=n:=⟨a.toNat,by omega⟩;rw [Yz] at hres;have hhd:=fun w=>Qvj s a w (by omega) (by omega);have hok:=QJo (s:=s) (a:=a);generalize E3 s a 0 4=hd at *;obtain ⟨lev,e⟩:=hd;simp only at hres hhd hok;refine VQ [0,1,7,8] fun K hK=>?_;refine Ac Tryz.call44 ?_;refine Qs ?_;refine Yk (hhd w) ?_;rintro v w1 ⟨rfl,rfl⟩;(try refine Qs ?_);apply hK;clear hK;refine VS [0,1,7,8,34] ?_;refine VD (fun h=>?_) (fun h=>Ab ?_)
 ·
  rw [if_pos (by omega)] at hres;subst hres;refine VS [4,5,6] ?_;exact Ad (Dh rfl rfl rfl rfl ⟨Y3 w1,rfl⟩)
 obtain rfl:e=0:=by omega
 rw [if_neg (by simp)] at hres;obtain ⟨l1,l2,l3⟩:=hok rfl;clear hok hhd h hg;refine VS [0,1,7,9] ?_;refine VS [0,1,7,9,10] ?_;refine VS [0,7,9,10,11] ?_;(repeat refine Ax ?_);refine Va ?_;refine VB ?_
 refine Au [0,7,9,10,11] (fun m e w'=>∃ (bit f c1 c2:Nat) (out:List UInt8) (sums:List Nat) (a1 a2:Option Addr),Is e [(0,Aa s),(7,.int .i64 lev),(9,.slice a1 out.length c1),(10,.slice a2 sums.length c2),(11,.int .i64 bit)]/\Heap w1 [] w' [Yr 5 1 a1 out.length c1 (An out),Yr 78 1 a2 sums.length c2 (Bm sums)] /\
  L2 s (min (lev * 100000) 262144) f bit out sums=res/\bit<=8 * s.length/\8 * s.length+1<=f+bit/\out.length<=262144/\sums.length<=bit/\(∀ x∈sums,x < 4294967296)/\m=8 * s.length - bit) (8 * s.length - 8 * (a+4)) ?_ ?_
 ·
  refine Qs ?_;exact ⟨8 * (a+4),_,0,0,[],[],none,none,by push_cast;rfl,((Y3 w1).nilRow 78 1).nilRow 5 1,hres,by omega,by omega,by simp,by simp,by simp,rfl⟩
 clear hres;rintro m e w' ⟨bit,f,c1,c2,out,sums,a1,a2,rfl,hH,hres,hb1,hb2,ho,hsl,h32,rfl⟩;obtain ⟨f,rfl⟩:∃ k,f=k+1:=⟨f - 1,by omega⟩;rw [L2] at hres;refine VB ?_;refine VQ [0,7,9,10,11,12,13] fun K hK=>?_;refine Ac Tryz.call45 ?_;refine Qs ?_;refine Yk (Qeh s bit 48 w' hb1 (by omega) (by omega)) ?_;rintro v w2 ⟨hH2,rfl⟩;have hH3:=hH.call0 hH2;simp only [Ye] at hH3;clear hH hH2;by_cases hsh:8 * s.length < bit+48
 ·
  rw [if_pos hsh] at hres ⊢;subst hres;(try refine Qs ?_);apply hK;clear hK;refine VS [0,7,9,10,11,12,13,46] ?_;refine Ae rfl rfl (fun h=>?_) (fun h=>by simp at h);refine VS [4,5,6] ?_;exact Ad (Dh rfl rfl rfl rfl ⟨hH3.sub (by simp),rfl⟩)
 rw [if_neg hsh] at hres ⊢;generalize hv:Bc (((At s).drop bit).take 48)=v at *
 have hv48:v < 2 ^ 48:=by
  rw [<- hv];exact U0 (K8 _) (Yy (by omega) (by rw [Y6];omega))
 (try refine Qs ?_);apply hK;clear hK;refine VS [0,7,9,10,11,12,13,46] ?_;refine Ae rfl rfl (fun h=>by simp at h) (fun h=>Ab ?_);clear h;refine VS [0,7,9,10,11,48] ?_;refine VB ?_;refine VS [0,7,9,10,11,48,49] ?_;refine VD (fun h=>?_) (fun h=>?_)
 ·
  obtain rfl:v=25779555029136:=by omega
  rw [if_pos rfl] at hres;refine As rfl ?_;refine VQ [8,9,10,11,18] fun K hK=>?_;(repeat first | refine Qo ?_ | refine Qp ?_);rw [show ((bit:Int)+48)=((bit+48:Nat):Int) by push_cast;rfl];refine Ac Tryz.call45 ?_;refine Qs ?_;refine Yk (Qeh s (bit+48) 32 w2 (by omega) (by omega) (by omega)) ?_;rintro v w3 ⟨hHn,rfl⟩;have hH4:=hH3.call0 hHn;simp only [Ye] at hH4;clear hH3 hHn;by_cases hsh2:8 * s.length < bit+48+32
  ·
   rw [if_pos hsh2] at hres ⊢;subst hres;(try refine Qs ?_);apply hK;clear hK;refine VQ [8,9,11,99] fun K hK=>?_;refine ⟨fun h=>by simp at h,fun _=>?_⟩;apply hK;clear hK;refine Ae rfl rfl (fun h=>by simp at h) (fun h=>Ab ?_);clear h;refine VS [8,9,11,101] ?_;refine Ae rfl rfl (fun h=>?_) (fun h=>by simp at h);refine VS [4,5,6] ?_;exact Ad (Dh rfl rfl rfl rfl ⟨hH4.sub (by simp),rfl⟩)
  rw [if_neg hsh2] at hres ⊢;generalize hv2:Bc (((At s).drop (bit+48)).take 32)=v2 at *
  have hv32:v2 < 2 ^ 32:=by
   rw [<- hv2];exact U0 (K8 _) (Yy (by omega) (by rw [Y6];omega))
  have hcl:=Wt sums h32;(try refine Qs ?_);apply hK;clear hK;refine VQ [8,9,11,99] fun K hK=>?_
  suffices out:∀ b:Bool,(b=true ↔ v2≠Ii sums)->K [(8,.int .i64 0),(9,.slice a1 out.length c1),(11,.int .i64 bit),(99,.bool b)] w3 by
   refine ⟨fun _=>?_,fun h=>by simp at h⟩;refine Ac Tryz.call34 ?_;refine Qs ?_;refine Yk (Qde sums a2 c2 w3 (Az (hH4.at 1 rfl)) h32 (by omega)) ?_;rintro v w4 ⟨rfl,rfl⟩;(try refine Qs ?_);exact out _ (by simp;omega)
  intro b hb;apply hK;clear hK;by_cases hs2:v2≠Ii sums
  ·
   rw [if_pos hs2] at hres;subst hres;refine Ae rfl rfl (fun h=>?_) (fun h=>by rw [hb.2 hs2] at h;cases h);refine VS [8,9,11] ?_;refine VS [8,9,11,101] ?_;refine Ae rfl rfl (fun h=>?_) (fun h=>by simp at h);refine VS [4,5,6] ?_;exact Ad (Dh rfl rfl rfl rfl ⟨hH4.sub (by simp),rfl⟩)
  rw [if_neg hs2] at hres;subst hres;refine Ae rfl rfl (fun h=>absurd (hb.1 h) hs2) (fun h=>Ab ?_);refine VS [8,9,11,101] ?_;refine Ae rfl rfl (fun h=>by simp at h) (fun h=>Ab ?_);refine VQ [4,5,6] fun K hK=>?_;refine ⟨out,hH4.readsBytes 0 rfl,?_⟩;(try refine Qs ?_);(repeat refine Qo ?_);apply hK;clear hK;exact Ad (Dh rfl rfl rfl rfl ⟨hH4.sub (by simp),by simp only [Qmh];congr 5⟩)
 rw [if_neg (by omega)] at hres;refine VS [0,7,9,10,11,51] ?_;refine VD (fun h=>?_) (fun h=>?_)
 ·
  rw [if_pos (by omega)] at hres;clear hv hv48;generalize htk:Lf s bit (min (lev * 100000) 262144)=tk at *;refine VQ [0,7,9,10,14,15,16,17] fun K hK=>?_;refine Ac Tryz.call28 ?_;refine Qs ?_;refine Yk (Qjf lev w2 (by omega)) ?_;rintro v w3 ⟨rfl,rfl⟩;(try refine Qs ?_);refine Ac Tryz.call46 ?_;refine Qs ?_;refine Yk (Qf1 s bit (min (lev * 100000) 262144) w3 (Xt (by omega) (by omega)) (Xt (by omega) (by omega)) (by omega)) ?_;rintro v w4 ⟨hHt,rfl⟩;have hH4:=hH3.call0 hHt;simp only [Ye] at hH4;clear hH3 hHt;rw [htk];cases tk with
  | error e =>
   have he:=Qjy htk;simp only at hres;subst hres;unfold QAw;(try refine Qs ?_);apply hK;clear hK;refine VQ [0,7,9,10,14,15,16,17,72] fun K hK=>?_
   suffices out:K [(0,Aa s),(7,.int .i64 lev),(9,.slice a1 out.length c1),(10,.slice a2 sums.length c2),(14,Aa []),(15,.int .u32 0),(16,.int .i64 0),(17,.int .i64 e),(72,.bool false)] w4 by
    refine ⟨fun h=>by omega,fun _=>out⟩
   apply hK;clear hK;refine Ae rfl rfl (fun h=>by cases h) (fun h=>Ab ?_);refine VS [0,7,9,10,14,15,16,17,74] ?_;refine Ae rfl rfl (fun h=>?_) (fun h=>by simp at h;omega);refine VS [4,5,6] ?_;exact Ad (Dh rfl rfl rfl rfl ⟨hH4.sub (by simp),rfl⟩)
  | ok r =>
   obtain ⟨t,sum,tz⟩:=r;obtain ⟨k1,k2,k3,k4⟩:=Qpq htk;simp only at hres k1 k2 k3 k4;unfold QAw;(try refine Qs ?_);apply hK;clear hK;refine VQ [0,7,9,10,14,15,16,17,72] fun K hK=>?_
   suffices out:∀ b:Bool,(b=true ↔ 262144 < out.length+t.length)->K [(0,Aa s),(7,.int .i64 lev),(9,.slice a1 out.length c1),(10,.slice a2 sums.length c2),(14,Aa t),(15,.int .u32 sum),(16,.int .i64 tz),(17,.int .i64 0),(72,.bool b)] w4 by
    refine ⟨fun _=>?_,fun h=>by simp at h⟩;refine ⟨Xt (by omega) (by omega),?_⟩;exact out _ (by simp;omega)
   intro b hb;apply hK;clear hK;by_cases hbig:262144 < out.length+t.length
   ·
    rw [if_pos hbig] at hres;subst hres;refine Ae rfl rfl (fun h=>?_) (fun h=>by rw [hb.2 hbig] at h;cases h);refine VS [0,7,9,10,14,15,16,17] ?_;refine VS [0,7,9,10,14,15,16,17,74] ?_;refine Ae rfl rfl (fun h=>?_) (fun h=>by simp at h);refine VS [4,5,6] ?_;exact Ad (Dh rfl rfl rfl rfl ⟨hH4.sub (by simp),rfl⟩)
   rw [if_neg hbig] at hres;refine Ae rfl rfl (fun h=>absurd (hb.1 h) hbig) (fun h=>Ab ?_);clear hb h;refine VS [0,7,9,10,14,15,16,17,74] ?_;refine Ae rfl rfl (fun h=>by simp at h) (fun h=>Ab ?_);clear h;refine VQ [0,7,9,10,11] fun K hK=>?_;refine Cl ?_;refine Qs ?_;refine Qhk hH4 0 rfl Tryz.underlying37 Io Tryz.underlying9 (fun h=>by simp;omega) fun a' cap' w5 hc' hH5=>?_;simp only [Yb] at hH5;(try refine Qs ?_);refine Fb hH5 (Bm [sum]) (xs:=[.tmp 80]) Um Wh rfl rfl rfl (by omega) ?_;refine Qs ?_;refine ⟨rfl,by simp [Xi],fun g w4 hH6=>?_⟩;(try refine Qs ?_);refine Cl ?_;refine Qs ?_;refine Ew (zs:=#[.int .u32 0]) (bytes:=4) hH6 2 rfl Um (by kernel_rfl) rfl ⟨rfl,Az (hH6.at 0 rfl),78,Um⟩ (by simp [Bm];rfl) (fun h=>by omega) fun a'' cap'' w6 hc'' hH7=>?_;simp only [Yc,Yb] at hH7;(try refine Qs ?_);apply hK;clear hK;refine Ao ?_;refine Ao ?_;refine Ah ?_;refine Qs ?_;refine ⟨8 * s.length - tz,by omega,tz,f,cap',cap'',out++t,sums++[sum],a',a'',?_,?_,hres,by omega,by omega,by simp;omega,by simp;omega,?_,rfl⟩
   ·
    simp [Is]
   ·
    have:=hH7.sub (Yt _ _);simpa [Bm] using this
   intro x hx;rcases X4.1 hx with hx | hx
   ·
    exact h32 x hx
   simp at hx;omega
 rw [if_neg (by omega)] at hres;subst hres;refine VS [4,5,6] ?_;exact Ad (Dh rfl rfl rfl rfl ⟨hH3.sub (by simp),rfl⟩)
set_option maxHeartbeats 4000000
theorem QJp {s:List UInt8}{room:Int}:∀ (f bit:Nat) (out:List UInt8) (sums:List Nat) (r:List UInt8×Nat),out.length<=262144->L2 s room f bit out sums=.ok r ->
  bit+80<=8 * r.2/\r.2<=s.length/\r.1.length<=262144:=by
 intro f
 induction f with
 | zero=>intro bit out sums r _ h;cases h
 | succ f ih =>
  intro bit out sums r ho h;rw [L2] at h;split at h
  ·
   cases h
  split at h
  ·
   split at h
   ·
    cases h
   split at h
   ·
    cases h
   cases h;refine ⟨?_,?_,ho⟩ <;> simp only <;> omega
  split at h
  ·
   split at h
   ·
    cases h
   rename_i r' hr;split at h
   ·
    cases h
   have:=Qpq hr;have:=ih _ _ _ _ (by simp;omega) h;omega
  cases h
theorem QEw {s:List UInt8}{room:Int}:∀ (f bit:Nat) (out:List UInt8) (sums:List Nat) (e:Int),L2 s room f bit out sums=.error e->e≠0:=by
 intro f
 induction f with
 | zero=>intro bit out sums e h;cases h;decide
 | succ f ih =>
  intro bit out sums e h;rw [L2] at h;split at h
  ·
   cases h;decide
  split at h
  ·
   split at h
   ·
    cases h;decide
   split at h
   ·
    cases h;decide
   cases h
  split at h
  ·
   split at h
   ·
    rename_i hr;cases h;exact Qjy hr
   split at h
   ·
    cases h;decide
   exact ih _ _ _ _ h
  cases h;decide
theorem Qzx {s:List UInt8}{a:Nat}{r:List UInt8×Nat} (h:Ia s a=.ok r):a+14<=r.2/\r.2<=s.length/\r.1.length<=262144:=by
 unfold Ia at h;split at h
 ·
  cases h
 split at h
 ·
  cases h
 have:=QJp _ _ _ _ _ (by simp) h;rw [Yz] at this;omega
theorem Qwc {s:List UInt8}{a e:Int} (h:Ia s a=.error e):e≠0:=by
 unfold Ia at h;split at h
 ·
  cases h;decide
 split at h
 ·
  rename_i h0;cases h;exact_mod_cast h0
 exact QEw _ _ _ _ _ h
def Ee (f:Nat->Bool):List Bool:=(Yf 16).map f
theorem Sl (f:Nat->Bool):(Ee f).length=16:=by simp [Ee]
theorem Qcm (f:Nat->Bool) {k:Nat} (h:k < 16):(Ee f)[k]? = some (f k):=by simp [Ee,Xs h]
theorem Qg8 (f:Nat->Bool) {k:Nat} (h:k < 16):(Bc (Ee f)).testBit (15 - k)=f k:=by
 have h1:=T2 16 (Bc (Ee f)) k h;have h2:=Qb8 (Ee f);rw [Sl] at h2;rw [h2,Qcm f h] at h1;simpa using h1.symm
theorem Qg9 (f:Nat->Bool):A0 16 (Bc (Ee f))=Ee f:=by
 have h2:=Qb8 (Ee f)
 rwa [Sl] at h2
theorem Vk (f:Nat->Bool):Bc (Ee f) < 65536:=by have:=K8 (Ee f);rw [Sl] at this;exact this
theorem Qpr {f g:Nat->Bool}{j:Nat} (hj:j < 16) (h:∀ k,k < 16->g k=(f k || decide (k=j))):Bc (Ee f) ||| 2 ^ (15 - j)=Bc (Ee g):=by
 have hlt:Bc (Ee f) ||| 2 ^ (15 - j) < 65536:=Ul (n:=16) (Vk f) (Nat.pow_lt_pow_right (by omega) (by omega))
 have e:A0 16 (Bc (Ee f) ||| 2 ^ (15 - j))=Ee g:=by
  apply Xx;intro k;rcases Ud k 16 with hk | hk
  ·
   rw [T2 16 _ k hk,Qcm g hk,show 16 - 1 - k=15 - k by omega,Nat.testBit_or,Qg8 f hk,X1,h k hk]
   congr 2
   exact decide_eq_decide.2 (by omega)
  rw [Xg (by rw [Ct];exact hk),Xg (by rw [Sl];exact hk)]
 rw [<- e,Os,Nat.mod_eq_of_lt hlt]
theorem Qha (f:Nat->Bool):Bc (Ee f)=0 ↔ ∀ k,k < 16->f k=false:=by
 constructor
 ·
  intro h k hk;have:=Qg8 f hk;rw [h,Nat.zero_testBit] at this;exact this.symm
 intro h
 have:Ee f=Ya 16 false:=by
  apply Xx;intro k;rcases Ud k 16 with hk | hk
  ·
   rw [Qcm f hk,h k hk,X6,if_pos hk]
  rw [Xg (by rw [Sl];exact hk),Xg (by simpa using hk)]
 rw [this,<- Qcb,Os]
theorem QFo {n:Nat} (h:n<=2 ^ 15):((n:Int)) % 18446744073709551616=n:=by
 have:n<=32768:=h;omega
def Oi (u:List UInt8) (i:Nat):Nat:=Bc (Ee fun k=>Lz u (16 * i+k))
theorem Qjz (u:List UInt8) (i:Nat):Oi u i=0 ↔ Cg u i=false:=by
 unfold Oi Cg;rw [Qha,List.any_eq_false];simp
theorem Qwd (u:List UInt8) (c:UInt8) (i:Nat):Oi (u++[c]) i=if i=c.toNat / 16 then Oi u i ||| 2 ^ (15 - c.toNat % 16) else Oi u i:=by
 have hm:∀ b,Lz (u++[c]) b=(Lz u b || decide (b=c.toNat)):=fun b=>by
  simp only [Lz,List.any_append,List.any_cons,List.any_nil,Uz]
  congr 1
  by_cases e:b=c.toNat
  ·
   subst e;simp
  rw [decide_eq_false e,beq_eq_false_iff_ne];exact Ne.symm e
 split
 ·
  rename_i h
  symm
  unfold Oi;refine Qpr (by omega) fun k hk=>?_;rw [hm]
  congr 1
  exact decide_eq_decide.2 (by omega)
 rename_i h;unfold Oi Ee
 congr 1
 refine X2 fun k hk=>?_;have hk:k < 16:=by simpa using hk
 rw [hm,decide_eq_false (by omega),Uz]
theorem Qlk (u:List UInt8) (hu:Qj u=true) (hl:u.length<=1000000) (w:World) :
  Does Ys 63 #[Aa u] w fun v w'=>Heap w [] w' []/\v=.tuple #[Lu (Fh u),.int .i64 0]:=by
 refine En [Aa u] 69 Tryz.func63 ?_;refine VQ [0,2] fun K hK=>?_;refine A6 (.agg #[.string ⟨#[]⟩,.int .i64 0]) (by kernel_rfl) ?_;refine Qs ?_;have hH:=(Y3 w).box 70 [.string ⟨#[]⟩,.int .i64 0];generalize w.alloc (Yo [X8 ⟨#[]⟩,.int .i64 0].toArray 70)=w1 at *;generalize w.heap.size=gr at *;apply hK;clear hK;refine VQ [0,2,14] fun K hK=>?_;refine Ac Tryz.call98 ?_;refine Qs ?_;refine Yk (Qbb u (by omega) w1) ?_;rintro v w2 ⟨rfl,rfl⟩;rw [hu];refine Qs ?_;apply hK;clear hK;refine Ae rfl rfl (fun h=>by simp at h) (fun h=>Ab ?_);refine VQ [0,2,4] fun K hK=>?_;refine A6 (.agg (Fv (Ya 16 0)).toArray) (by kernel_rfl) ?_;refine Qs ?_;have hH1:=hH.box 165 (Fv (Ya 16 0));generalize w2.alloc (Yo (Fv (Ya 16 0)).toArray 165)=w3 at *;generalize w2.heap.size=gt at *;clear hH;apply hK;clear hK;generalize hn:u.length=n at *;refine VQ [0,2,4,17,18] fun K hK=>?_;rw [hn];apply hK;clear hK;refine Ar ?_;refine Au [0,2,4,17,18] (fun m e w'=>∃ (k:Nat) (R:List Nat),Is e [(0,Aa u),(2,.pointer (some ⟨gr,0,none⟩)),(4,.pointer (some ⟨gt,0,none⟩)),(17,.int .i64 n),(18,.int .i64 k)]/\Heap w [] w' [Yn gt 165 (Fv R),Yn gr 70 [.string ⟨#[]⟩,.int .i64 0]]/\R.length=16/\(∀ i,i < 16->R.getD i 0=Oi (u.take k) i)/\k<=n/\m=n - k) n ?_ ?_
 ·
  refine Qs ?_;refine ⟨0,_,rfl,hH1,by simp,fun i hi=>?_,by omega,rfl⟩;rw [Yg,X6,if_pos hi,Yv];exact ((Qjz [] i).2 (by simp [Cg,Lz])).symm
 clear hH1;rintro m e w4 ⟨k,R,rfl,hH,hR,hRk,hk,rfl⟩;refine VS [0,2,4,17,18,19] ?_;(repeat refine Ax ?_);refine VD (fun h=>?_) (fun h=>?_)
 ·
  have htk:=Mq 0 (l:=u) (i:=k) (by omega);have hc:=(u.getD k 0).toNat_lt;refine Ab ?_;refine VB ?_;refine VS [0,2,4,5,17,18] ?_;have hr1:=hRk ((u.getD k 0).toNat / 16) (by omega);have hrl:=Vk fun j=>Lz (u.take k) (16 * ((u.getD k 0).toNat / 16)+j);have hsn:=Qwd (u.take k) (u.getD k 0);rw [<- htk] at hsn;generalize hcc:(u.getD k 0).toNat=c at *;refine VL [0,2,4,17,18] 14 fun K hK=>?_;rw [hn,hcc];have hand:c &&& 15=c % 16:=Nat.and_two_pow_sub_one_eq_mod c 4;have hshr:Bx IntKind.u8 4=4:=by decide
  have hdiv:(c:Int) / 2 ^ 4=((c / 16:Nat):Int):=by push_cast;rfl
  rw [hshr,hdiv];have hsh:Bx IntKind.u64 ((15 - ((c % 16:Nat):Int)) % 256)=15 - c % 16:=S1 (by omega) (by simp [Ur];omega);have hp2:2 ^ (15 - c % 16)<=2 ^ 15:=Yy (by omega) (by omega)
  have hp:((1:Int) * 2 ^ (15 - c % 16)) % 18446744073709551616=((2 ^ (15 - c % 16):Nat):Int):=by
   rw [show (1:Int) * 2 ^ (15 - c % 16)=((2 ^ (15 - c % 16):Nat):Int) by push_cast;exact Uw _];exact QFo hp2
  rw [show Ue 15=15 from rfl,hand,hsh,hp,Yz];have hx:R.getD (c / 16) 0 < 65536:=by rw [hr1];exact hrl
  refine ⟨⟨by omega,by omega⟩,by omega,⟨by omega,by omega⟩,_,Aj (hH.at 0 rfl) (Qhx (by omega)),⟨by omega,by omega⟩,⟨by omega,by omega⟩,⟨by omega,by omega⟩,by omega,?_⟩;refine Qs ?_;have hi15:2 ^ (15 - c % 16)<=32768:=hp2;generalize 2 ^ (15 - c % 16)=pw at *;refine ⟨⟨by omega,by omega⟩,⟨by omega,by omega⟩,⟨by omega,by omega⟩,?_⟩;refine Af ?_;refine Qs ?_;refine Al hH 0 (o:=c / 16) (vs:=[.int .u64 ((R.getD (c / 16) 0 ||| pw:Nat):Int)]) rfl rfl (by kernel_rfl) (by rw [Z3,Yp];omega) (by simp [Yl]) fun w6 hH2=>?_;simp only [Yp,Di (Fv R) _ _ (show c / 16 < (Fv R).length by rw [Z3];omega),Qzg,Yb] at hH2;apply hK;clear hK;refine Ao ?_;refine VS [0,2,4,17,18] ?_;refine Ah ?_;refine Qs ?_;refine ⟨n - (k+1),by omega,k+1,_,rfl,hH2,by simp [hR],fun i hi=>?_,by omega,rfl⟩;rw [hsn i,<- hRk i hi];simp only [Yg,Xy];by_cases e:c / 16=i
  ·
   rw [if_pos e,if_pos (by omega),if_pos e.symm,<- e];rfl
  rw [if_neg e,if_neg (Ne.symm e)]
 obtain rfl:k=n:=by omega
 refine As rfl ?_;rw [Y1 (by omega)] at hRk;generalize k=n at *;refine VQ [2,4,6,7] fun K hK=>?_;refine Ac U9 ?_;refine Qs ?_;refine Yk (Q2 w4) ?_;rintro v w5 ⟨gw,hH2,rfl⟩;have hH3:=hH.call0 hH2;clear hH hH2;apply hK;clear hK;refine VQ [2,4,6,7,37,38] fun K hK=>?_;refine ⟨Fv R,⟨by rw [Z3,hR],Ca (hH3.at 1 rfl)⟩,?_⟩;apply hK;clear hK;have hflag:∀ i,i < 16->(R.getD i 0=0 ↔ Cg u i=false):=fun i hi=>by rw [hRk i hi,Qjz]
 refine Ar ?_;refine Au [2,4,6,7,37,38] (fun m e w'=>∃ (i:Nat),Is e [(2,.pointer (some ⟨gr,0,none⟩)),(4,.pointer (some ⟨gt,0,none⟩)),(6,.pointer (some ⟨gw,0,none⟩)),(7,.int .u64 (Bc (Ee fun j=>decide (j < i) && Cg u j):Nat)),(37,.agg (Fv R).toArray),(38,.int .i64 i)]/\Is w' w5/\i<=16/\m=16 - i) 16 ?_ ?_
 ·
  refine Qs ?_;have e0:Bc (Ee fun j=>decide (j < 0) && Cg u j)=0:=(Qha _).2 fun k _=>by simp
  exact ⟨0,by rw [e0];rfl,rfl,by omega,rfl⟩
 rintro m e w6 ⟨i,rfl,rfl,hi,rfl⟩;refine VS [2,4,6,7,37,38,39] ?_;(repeat refine Ax ?_);refine VD (fun h=>?_) (fun h=>?_)
 ·
  have hvn:Bk (Fv R) i=fun K=>K (.int .u64 (R.getD i 0:Nat)):=by
   funext K;exact Ql7 (Qhx (by omega))
  have hfl:=hflag i (by omega);refine Ab ?_;refine VB ?_;refine VQ [2,4,6,7,8,9,37,38] fun K hK=>?_;rw [hvn]
  dsimp only
  refine Qp ?_;apply hK;clear hK;refine VS [2,4,6,7,8,37,38,43] ?_;refine VD (fun h=>?_) (fun h=>?_)
  ·
   have hrt:Cg u i=true:=by
    cases hb:Cg u i with
    | true=>rfl
    | false=>have:=hfl.2 hb;omega
   have hor:=Qpr (f:=fun j=>decide (j < i) && Cg u j) (g:=fun j=>decide (j < i+1) && Cg u j) (j:=i) (by omega) (fun k hk=>by
    by_cases e:k=i
    ·
     subst e;simp [hrt]
    rw [decide_eq_false e,Uz]
    congr 1
    exact decide_eq_decide.2 (by omega))
   have hlt:=Vk fun j=>decide (j < i) && Cg u j;generalize Bc (Ee fun j=>decide (j < i) && Cg u j)=q at *;have hsh:Bx IntKind.u64 ((15 - (i:Int)) % 18446744073709551616)=15 - i:=S5 (by omega) (by simp [Ur];omega) (by decide);have hp2:2 ^ (15 - i)<=2 ^ 15:=Yy (by omega) (by omega)
   have hp:((1:Int) * 2 ^ (15 - i)) % 18446744073709551616=((2 ^ (15 - i):Nat):Int):=by
    rw [show (1:Int) * 2 ^ (15 - i)=((2 ^ (15 - i):Nat):Int) by push_cast;exact Uw _];exact QFo hp2
   refine VQ [2,4,6,7,37,38] fun K hK=>?_;rw [hsh,hp];have hi15:2 ^ (15 - i)<=32768:=hp2;generalize 2 ^ (15 - i)=pw at *;(repeat first | refine Qo ?_ | refine Qp ?_);refine Qs ?_;rw [hor];apply hK;clear hK;refine Ao ?_;refine VS [2,4,6,7,37,38] ?_;refine Ah ?_;refine Qs ?_;exact ⟨16 - (i+1),by omega,i+1,rfl,rfl,by omega,rfl⟩
  have hrf:Cg u i=false:=hfl.1 (by omega)
  have he:(fun j=>decide (j < i+1) && Cg u j)=fun j=>decide (j < i) && Cg u j:=by
   funext k;by_cases e:k=i
   ·
    subst e;simp [hrf]
   congr 1
   exact decide_eq_decide.2 (by omega)
  refine Ab ?_;refine Ao ?_;refine VS [2,4,6,7,37,38] ?_;refine Ah ?_;refine Qs ?_;exact ⟨16 - (i+1),by omega,i+1,by rw [he];rfl,rfl,by omega,rfl⟩
 obtain rfl:i=16:=by omega
 have hall:Bc (Ee fun j=>decide (j < 16) && Cg u j)=Bc (Ee (Cg u)):=by
  congr 1
 rw [hall];refine As rfl ?_;refine VQ [2,4,6] fun K hK=>?_;refine Ac X5 ?_;refine Qs ?_;refine Yk (Iq gw none 0 [] _ 16 w6 (by omega) (Vk _) (by simp) (hH3.focus 0 rfl)) ?_;rintro v w7 ⟨a2,c2,hHw,rfl⟩;rw [Ye,Qg9] at hHw;have hH4:=hH3.call1 0 rfl hHw;simp only [Yb,Ye] at hH4;clear hH3 hHw;apply hK;clear hK;refine VQ [2,6,54,55] fun K hK=>?_;refine ⟨Fv R,⟨by rw [Z3,hR],Ca (hH4.at 1 rfl)⟩,?_⟩;apply hK;clear hK;refine Ar ?_;refine Au [2,6,54,55] (fun m e w'=>∃ (i:Nat) (a:Option Addr) (c:Nat),Is e [(2,.pointer (some ⟨gr,0,none⟩)),(6,.pointer (some ⟨gw,0,none⟩)),(54,.agg (Fv R).toArray),(55,.int .i64 i)]/\Heap w [] w' [wr gw a c (Ee (Cg u)++(Yf i).flatMap fun i=>if Cg u i then Fi u i else []),Yn gt 165 (Fv R),Yn gr 70 [.string ⟨#[]⟩,.int .i64 0]]/\i<=16/\((Yf i).flatMap fun i=>if Cg u i then Fi u i else []).length<=16 * i/\m=16 - i) 16 ?_ ?_
 ·
  refine Qs ?_;exact ⟨0,a2,c2,rfl,by simpa using hH4,by omega,by simp,rfl⟩
 clear hH4;rintro m e w8 ⟨i,a,c,rfl,hH,hi,hlen,rfl⟩;refine VS [2,6,54,55,56] ?_;(repeat refine Ax ?_);refine VD (fun h=>?_) (fun h=>?_)
 ·
  have hvn:Bk (Fv R) i=fun K=>K (.int .u64 (R.getD i 0:Nat)):=by
   funext K;exact Ql7 (Qhx (by omega))
  have hfl:=hflag i (by omega);have hRi:=hRk i (by omega)
  have hs1:((Yf (i+1)).flatMap fun i=>if Cg u i then Fi u i else [])=((Yf i).flatMap fun i=>if Cg u i then Fi u i else [])++(if Cg u i then Fi u i else []):=by
   rw [Xw,List.flatMap_append];simp
  have hrl:=Qhs u i;generalize ((Yf i).flatMap fun i=>if Cg u i then Fi u i else [])=acc at *;refine Ab ?_;refine VB ?_;refine VQ [2,6,11,54,55] fun K hK=>?_;rw [hvn]
  dsimp only
  refine Qp ?_;apply hK;clear hK;refine VS [2,6,11,54,55,59] ?_;refine VD (fun h=>?_) (fun h=>?_)
  ·
   have hrt:Cg u i=true:=by
    cases hb:Cg u i with
    | true=>rfl
    | false=>have:=hfl.2 hb;omega
   rw [hrt,if_pos rfl] at hs1;refine VQ [2,6,54,55] fun K hK=>?_;rw [hRi];refine Ac X5 ?_;refine Qs ?_;refine Yk (Iq gw a c (Ee (Cg u)++acc) (Oi u i) 16 w8 (by omega) (Vk _) (by rw [Yh,Sl];omega) (hH.focus 0 rfl)) ?_;rintro v w9 ⟨a3,c3,hHw,rfl⟩;have hH2:=hH.call1 0 rfl hHw;rw [Oi,Qg9,Yj] at hH2;simp only [Yb,Ye] at hH2;apply hK;clear hK;refine Ao ?_;refine VS [2,6,54,55] ?_;refine Ah ?_;refine Qs ?_;exact ⟨16 - (i+1),by omega,i+1,a3,c3,rfl,by rw [hs1];exact hH2,by omega,by rw [hs1,Yh];omega,rfl⟩
  have hrf:Cg u i=false:=hfl.1 (by omega);rw [hrf,if_neg (by simp),Yi] at hs1;refine Ab ?_;refine Ao ?_;refine VS [2,6,54,55] ?_;refine Ah ?_;refine Qs ?_;exact ⟨16 - (i+1),by omega,i+1,a,c,rfl,by rw [hs1];exact hH,by omega,by rw [hs1];omega,rfl⟩
 obtain rfl:i=16:=by omega
 refine As rfl ?_;have hH:Heap w [] w8 [wr gw a c (Fh u),Yn gt 165 (Fv R),Yn gr 70 [.string ⟨#[]⟩,.int .i64 0]]:=hH;refine VQ [2,3] fun K hK=>?_;refine Ac Ga ?_;refine Qs ?_;refine Yk (Py gw a c _ w8 (hH.at 0 rfl)) ?_;rintro v w9 ⟨rfl,rfl⟩;refine Ac Gb ?_;refine Qs ?_;refine Yk (Oy gw a c _ w9 (hH.at 0 rfl)) ?_;rintro v w10 ⟨rfl,rfl⟩;refine Qs ?_;refine Af ?_;refine Qs ?_;refine Al hH 2 (vs:=Ay (Fh u)) rfl rfl (by kernel_rfl) (by simp [Ay]) (by simp [Ay,Yl]) fun w11 hH2=>?_;have hH2:Heap w [] w11 [wr gw a c (Fh u),Yn gt 165 (Fv R),Yn gr 70 (Ay (Fh u))]:=hH2;apply hK;clear hK;refine Ad (I4 rfl rfl rfl (Cv (hH2.at 2 rfl) (by kernel_rfl) (by kernel_rfl) rfl ?_));exact ⟨hH2.sub (by simp),rfl⟩
def Pp (l:List Int):List Nat:=l.map Ue
theorem Qwe {l:List Int} (h:∀ v∈l,0<=v):Bb l=Ag (Pp l):=by
 unfold Bb Ag Pp;rw [U5];apply X2;intro v hv;have:=h v hv;simp only [Function.comp]
 congr 1;omega
theorem QEx (l:List Int):(Pp l).length=l.length:=by simp [Pp]
theorem Vs:∀ (f k:Nat),k<=f->∀ x∈Fl k,0<=x/\x<=1
 | _,0,_,x,hx=>by simp [Rd] at hx
 | 0,k+1,h,x,hx=>by omega
 | f+1,k+1,h,x,hx=>by
  rw [Z2] at hx;rcases List.mem_cons.1 hx with rfl | hx
  ·
   omega
  exact Vs f (k / 2) (by omega) x hx
theorem Qs8 {n:Int} (hn:1<=n):∀ (l out:List Int) (z:Nat),(∀ v∈l,0<=v/\v < n)->(∀ x∈out,0<=x/\x < n+2)->(Et n out z l).2=0/\(∀ x∈(Et n out z l).1,0<=x/\x < n+2)/\(Et n out z l).1.length<=out.length+z+l.length+1/\1<=(Et n out z l).1.length
 | [],out,z,_,ho=>by
  have h1:=Vs z z (Y4 _);have h2:=W7 z z (Y4 _);refine ⟨rfl,fun x hx=>?_,by simp [Et];omega,by simp [Et];omega⟩;simp only [Et,X4,Xv] at hx;rcases hx with (hx | hx) | rfl
  ·
   exact ho x hx
  ·
   have:=h1 x hx;omega
  omega
 | v::r,out,z,hl,ho=>by
  have hv:=hl v (by simp);rw [Et];split
  ·
   obtain ⟨a,b,c,d⟩:=Qs8 hn r out (z+1) (fun v hv=>hl v (by simp [hv])) ho;exact ⟨a,b,by simp;omega,d⟩
  rw [if_neg (by omega)];have h1:=Vs z z (Y4 _);have h2:=W7 z z (Y4 _)
  obtain ⟨a,b,c,d⟩:=Qs8 hn r (out++Fl z++[v+1]) 0 (fun v hv=>hl v (by simp [hv])) (fun x hx=>by
   simp only [X4,Xv] at hx;rcases hx with (hx | hx) | rfl
   ·
    exact ho x hx
   ·
    have:=h1 x hx;omega
   omega)
  refine ⟨a,b,?_,d⟩;simp at c ⊢;omega
theorem Qtz {n:Int} (hn:1<=n) (hn2:n<=256) {l:List Int} (hl:∀ v∈l,0<=v/\v < n):(Ig n l).2=0/\(∀ x∈(Ig n l).1,0<=x/\x < n+2)/\(Ig n l).1.length<=l.length+1/\1<=(Ig n l).1.length:=by
 unfold Ig;rw [if_neg (by omega)];have:=Qs8 hn l [] 0 hl (by simp);simpa using this
def Iv (t:List UInt8) (σ:List Nat):List Int:=(Ka (A9 t) (B5 t σ)).getD []
def Ch (t:List UInt8) (σ:List Nat):List Nat:=Pp (Ig ((A9 t).length:Nat) (Iv t σ)).1
def Qu (s:List UInt8) (row:Nat):List Bool:=A0 48 54156738319193++A0 32 (Cd s)++A0 1 0++A0 24 row
def Bu (t:List UInt8) (σ:List Nat):List (List Nat)×List Nat:=E8 (Ch t σ) ((A9 t).length+2)
def Fy (s:List UInt8) (σ:List Nat):List Bool:=[Qu s (σ.idxOf 0),Fh (A9 (enc s)),Ex (Bu (enc s) σ).1 (Bu (enc s) σ).2,E7 (Bu (enc s) σ).1 (Bu (enc s) σ).2 (Ch (enc s) σ) 0].flatten
theorem P5 {t:List UInt8} (ht:t≠[]):1<=(A9 t).length/\(A9 t).length<=256:=by
 have h:=Qbc ht;constructor
 ·
  cases h2:A9 t with
  | nil =>
   obtain ⟨c,r,rfl⟩:∃ c r,t=c::r:=by cases t with
    | nil=>exact absurd rfl ht
    | cons c r=>exact ⟨c,r,rfl⟩
   have:c∈A9 (c::r):=Sq.2 (by simp);rw [h2] at this;simp at this
  | cons=>simp
 have hU:∀ m,(Le t m).length<=m:=fun m=>by
  unfold Le;rw [X3];exact Nat.le_trans (List.length_filter_le _ _) (by simp)
 exact hU 256
theorem Qr4 {t:List UInt8}{σ:List Nat} (ho:Ordered t σ):∀ c∈B5 t σ,c∈t:=by
 intro c hc;obtain ⟨i,hi,rfl⟩:=Xd.1 hc;have hi2:i < t.length:=by simpa using ho.perm.mem_iff.1 hi
 have:D8 t.length i < t.length:=by unfold D8;split <;> omega
 rw [Yg,Yd this];exact Xl this
theorem Qcn {t:List UInt8}{σ:List Nat} (ho:Ordered t σ):(B5 t σ).length=t.length:=by
 simp [B5,ho.perm.length_eq]
theorem Zh {t:List UInt8}{σ:List Nat} (ho:Ordered t σ):Ka (A9 t) (B5 t σ)=some (Iv t σ)/\(Iv t σ).length=t.length/\∀ v∈Iv t σ,0<=v/\v < (A9 t).length:=by
 obtain ⟨out,h⟩:=Qgy (B5 t σ) (A9 t) (fun c hc=>Sq.2 (Qr4 ho c hc));have e:Iv t σ=out:=by unfold Iv;rw [h];rfl
 obtain ⟨h1,h2⟩:=Qem _ _ _ h;rw [e];exact ⟨h,by rw [h1,Qcn ho],h2⟩
theorem Vt {t:List UInt8}{σ:List Nat} (ho:Ordered t σ) (ht:t≠[]):(Ig ((A9 t).length:Nat) (Iv t σ)).2=0/\Bb (Ig ((A9 t).length:Nat) (Iv t σ)).1=Ag (Ch t σ)/\(Ch t σ).length=(Ig ((A9 t).length:Nat) (Iv t σ)).1.length/\(Ch t σ).length<=t.length+1/\1<=(Ch t σ).length/\∀ s∈Ch t σ,s < (A9 t).length+2:=by
 obtain ⟨u1,u2⟩:=P5 ht;obtain ⟨p1,p2,p3⟩:=Zh ho;obtain ⟨z1,z2,z3,z4⟩:=Qtz (n:=((A9 t).length:Nat)) (by omega) (by omega) p3;have hl:(Ch t σ).length=(Ig ((A9 t).length:Nat) (Iv t σ)).1.length:=QEx _;refine ⟨z1,Qwe fun v hv=>(z2 v hv).1,hl,by omega,by omega,fun s hs=>?_⟩;obtain ⟨x,hx,rfl⟩:=Xd.1 hs;have:=z2 x hx;omega
theorem Z7 {t:List UInt8}{σ:List Nat} (ho:Ordered t σ) (ht:t≠[]) (hl:t.length<=262144):Nf (Ch t σ) ((A9 t).length+2):=by
 obtain ⟨u1,u2⟩:=P5 ht;obtain ⟨_,_,_,h4,h5,h6⟩:=Vt ho ht;exact ⟨by omega,by omega,h5,by omega,h6⟩
theorem Z8 (s:List UInt8) (row:Nat):(Qu s row).length=105:=by simp [Qu,Ct]
theorem Qwf {s:List UInt8}{σ:List Nat} (ho:Ordered (enc s) σ) (hs:s≠[]) (hl:s.length<=20000):(Fy s σ).length<=12 * s.length+4000:=by
 have he:enc s≠[]:=by
  intro e
  obtain ⟨c,r,rfl⟩:∃ c r,s=c::r:=by cases s with
   | nil=>exact absurd rfl hs
   | cons c r=>exact ⟨c,r,rfl⟩
  have h1:=Re (c::r) (by simp);have h2:=L7 (c::r) (by simp);have h3:=(P3 (c::r)).1;have h4:=Ps (B8 (c::r)) (c::r) h3;rw [e] at h1;have h5:=congrArg Uj h1;simp only [Yh,Uc] at h5;split at h4 <;> omega
 have hel:=Qci s;obtain ⟨u1,u2⟩:=P5 he;have hlen:=(Vt ho he).2.2.2.1;have hb:=Qdu (Z7 ho he (by omega));have hn:=Qdv (A9 (enc s));have hh:=Z8 s (σ.idxOf 0);unfold Fy;unfold Iy at hb;change (Ex (Bu (enc s) σ).1 (Bu (enc s) σ).2).length+(E7 (Bu (enc s) σ).1 (Bu (enc s) σ).2 (Ch (enc s) σ) 0).length<=_ at hb;simp only [Uk,List.flatten_nil,Yi,Yh];unfold Ds at hb;omega
theorem Qeu (n most:Int) (hn:1<=n):∀ (f z:Nat),z<=f->∀ (wt:Nat) (out r:List Int),1<=wt->(out.length:Int)<=most ->
  I1 n most out wt (Fl z++r)=if (out.length:Int)+wt * z<=most then I1 n most (out++Ya (wt * z) 0) (wt * 2 ^ (Fl z).length) r else ([],3):=by
 intro f
 induction f with
 | zero =>
  intro z hz wt out r h1 h2;have:z=0:=by omega
  subst this;simp [Rd,h2]
 | succ f ih =>
  intro z hz wt out r h1 h2;cases z with
  | zero=>simp [Rd,h2]
  | succ k =>
   have hk:((k % 2:Nat):Int)=0∨((k % 2:Nat):Int)=1:=by omega
   have e1:(((k % 2:Nat):Int)+1) * wt=((wt * (k % 2+1):Nat):Int):=by push_cast;rw [Int.mul_comm]
   have e2:wt * (k+1)=wt * (k % 2+1)+2 * wt * (k / 2):=by
    have:k+1=k % 2+1+2 * (k / 2):=by omega
    rw [this,Nat.mul_add];have:wt * (2 * (k / 2))=2 * wt * (k / 2):=by rw [Nat.mul_left_comm,Nat.mul_assoc]
    omega
   rw [Z2,Y8,I1,if_neg (by omega),if_pos (by omega),e1,Yz]
   have e2':(wt:Int) * ((k+1:Nat):Int)=((wt * (k % 2+1):Nat):Int)+((2 * wt * (k / 2):Nat):Int):=by
    rw [<- Int.natCast_mul,e2];simp
   have e3:((2 * wt:Nat):Int) * ((k / 2:Nat):Int)=((2 * wt * (k / 2):Nat):Int):=by rw [<- Int.natCast_mul]
   rw [e2',e2];clear e1 e2 e2';generalize wt * (k % 2+1)=p;have ihk:=ih (k / 2) (by omega) (2 * wt) (out++Ya p 0) r (by omega);rw [e3] at ihk;generalize 2 * wt * (k / 2)=q at *;by_cases h3:most - (out.length:Int) < (p:Int)
   ·
    rw [if_pos h3,if_neg (by omega)]
   rw [if_neg h3,ihk (by simp;omega)];rw [Yh,Y0];by_cases h4:(out.length:Int)+((p:Int)+(q:Int))<=most
   ·
    rw [if_pos (by omega),if_pos h4,Yj,Xr,Xh,Nat.pow_succ]
    congr 1
    rw [U6 2 wt,Nat.mul_assoc,U6 2]
   rw [if_neg (by omega),if_neg h4]
theorem Qh2 (n:Int) (hn:1<=n) (hn2:n<=256):∀ (l:List Int) (o:List Int) (z:Nat) (s:List Int),Et n o z l=(s,0) ->
  ∃ t,s=o++t/\∀ (out:List Int) (most:Int),(out.length:Int)<=most->I1 n most out 1 t=if (out.length:Int)+z+l.length<=most then (out++Ya z 0++l,0) else ([],3)
 | [],o,z,s,h=>by
  rw [Et] at h;obtain ⟨rfl,_⟩:=Prod.mk.inj h;refine ⟨Fl z++[n+1],by simp,fun out most ho=>?_⟩;rw [Qeu n most hn z z (Y4 _) 1 out _ (Y4 _) ho];have e:((1:Nat):Int) * (z:Int)=z:=by simp
  rw [e,Nat.one_mul];simp only [Uc,Int.natCast_zero,Int.add_zero,Yi];split
  ·
   rw [I1,if_neg (by omega),if_neg (by omega),if_pos rfl,Wk]
  rfl
 | v::r,o,z,s,h=>by
  rw [Et] at h;split at h
  ·
   rename_i hv;subst hv;obtain ⟨t,ht,hd⟩:=Qh2 n hn hn2 r o (z+1) s h;refine ⟨t,ht,fun out most ho=>?_⟩;rw [hd out most ho]
   have e:Ya (z+1) (0:Int)++r=Ya z 0++0::r:=by
    rw [Ub,Yj];rfl
   rw [Yj,e,<- Yj];simp only [Xh];by_cases hc:(out.length:Int)+((z+1:Nat):Int)+r.length<=most
   ·
    rw [if_pos hc,if_pos (by omega)]
   rw [if_neg hc,if_neg (by omega)]
  rename_i hv;split at h
  ·
   cases h
  rename_i hr;obtain ⟨t,ht,hd⟩:=Qh2 n hn hn2 r _ 0 s h;refine ⟨Fl z++(v+1)::t,by rw [ht];simp,fun out most ho=>?_⟩;rw [Qeu n most hn z z (Y4 _) 1 out _ (Y4 _) ho];have e:((1:Nat):Int) * (z:Int)=z:=by simp
  rw [e,Nat.one_mul];simp only [Xh];by_cases hc:(out.length:Int)+z<=most
  ·
   rw [if_pos hc,I1,if_neg (by omega),if_neg (by omega),if_neg (by omega),show v+1 - 1=v by omega];simp only [Yh,Y0];by_cases hc2:most<=((out.length+z:Nat):Int)
   ·
    rw [if_pos hc2,if_neg (by omega)]
   rw [if_neg hc2,hd _ most (by simp;omega)];simp only [Yh,Y0,Xh,Uc,Xk,Yi];by_cases hc3:(out.length:Int)+z+((r.length+1:Nat):Int)<=most
   ·
    rw [if_pos (by omega),if_pos hc3,Yj];rfl
   rw [if_neg (by omega),if_neg hc3]
  rw [if_neg hc,if_neg (by omega)]
theorem QOf (n:Int) (l s:List Int) (h:Ig n l=(s,0)) (most:Int) (h0:0<=most) (h1:most<=262144) :
  Kv n most s=if (l.length:Int)<=most then (l,0) else ([],3):=by
 rw [Ig] at h;split at h
 ·
  cases h
 rename_i hc;obtain ⟨t,ht,hd⟩:=Qh2 n (by omega) (by omega) l [] 0 s h;have:=hd [] most (by simpa using h0);rw [Ye] at ht;subst ht;rw [Kv,if_neg (by omega),this];simp
theorem Qt0 (out:List UInt8) (same:Nat) (c:UInt8) (s:List UInt8) (h:same≠4) (hl:out.length < 262144) :
  C6 out same (c::s)=C6 (out++[c]) (if 0 < same/\out.getLastD 0=c then same+1 else 1) s:=by
 rw [C6,if_neg h,if_neg (by omega)]
theorem Z9 (out:List UInt8) (c:UInt8):(out++[c]).getLastD 0=c:=by simp
theorem Qps (b:UInt8) (s:List UInt8):∀ (m j:Nat) (out:List UInt8),1<=j->j+m<=4->out.getLastD 0=b->out.length+m<=262144 ->
  C6 out j (Ya m b++s)=C6 (out++Ya m b) (j+m) s
 | 0,j,out,_,_,_,_=>by simp
 | m+1,j,out,h1,h2,h3,h4=>by
  rw [Y9,Y8,Qt0 _ _ _ _ (by omega) (by omega),if_pos ⟨by omega,h3⟩,
   Qps b s m (j+1) (out++[b]) (by omega) (by omega) (Z9 _ _) (by simp;omega),Yj]
  rw [show j+1+m=j+(m+1) by omega];rfl
theorem Qt1 (b:UInt8) (s out:List UInt8) (m same:Nat) (h1:1<=m) (h2:m<=4) (hs:same<=3) (hb:0 < same->out.getLastD 0≠b) (hl:out.length+m<=262144) :
  C6 out same (Ya m b++s)=C6 (out++Ya m b) m s:=by
 obtain ⟨m,rfl⟩:∃ k,m=k+1:=⟨m - 1,by omega⟩
 rw [Y9,Y8,Qt0 _ _ _ _ (by omega) (by omega),if_neg (fun h=>hb h.1 h.2),
  Qps b s m 1 (out++[b]) (by omega) (by omega) (Z9 _ _) (by simp;omega),Yj,Nat.add_comm 1 m]
 rfl
theorem Qj0 (b:UInt8):∀ (l:List UInt8) (n:Nat),n<=I2 b l->l.take n=Ya n b
 | [],n,h=>by simp [I2] at h;subst h;rfl
 | c::l,0,_=>rfl
 | c::l,n+1,h=>by
  simp only [I2] at h;by_cases hc:c=b
  ·
   rw [if_pos hc] at h;rw [Yu,Qj0 b l n (by omega),hc];rfl
  rw [if_neg hc] at h;omega
theorem Qh3 (b:UInt8) (l:List UInt8) (n:Nat) (h:n<=B8 (b::l)):(b::l).take n=Ya n b:=by
 simp only [B8] at h;cases n with
 | zero=>rfl
 | succ n=>rw [Yu,Qj0 b l n (by omega)];rfl
theorem Qt2 (b:UInt8) (l:List UInt8) (h:B8 (b::l) < 255):(b::l)[B8 (b::l)]? ≠ some b:=by
 simp only [B8] at h ⊢;rw [show min 255 (I2 b l+1)=I2 b l+1 by omega];exact Qy8 b l
theorem QEy:∀ (f:Nat) (l out:List UInt8) (same:Nat),l.length<=f->out.length+l.length<=262144->same<=3->(0 < same->∀ b,l[0]? = some b->out.getLastD 0≠b) ->
  C6 out same (enc l)=(out++l,0):=by
 intro f
 induction f with
 | zero =>
  intro l out same h1 h2 h3 h4;have:l=[]:=List.eq_nil_of_length_eq_zero (by omega);subst this;rw [Qd,C6,if_neg (by omega),Yi]
 | succ f ih =>
  intro l out same h1 h2 h3 h4;cases l with
  | nil=>rw [Qd,C6,if_neg (by omega),Yi]
  | cons b l =>
   have hp:=L7 (b::l) (by simp);have hle:=P3 (b::l);have htk:=Qh3 b l (B8 (b::l)) (Y4 _);have htk4:=Qh3 b l 4;have hend:=Qt2 b l;rw [Re (b::l) (by simp)];generalize B8 (b::l)=n at *;have hd:(b::l).take n++(b::l).drop n=b::l:=Ut _ _;rw [htk] at hd;have hdl:((b::l).drop n).length=(b::l).length - n:=Up;simp only [Xh] at h1 h2 hle hdl;have h4':0 < same->out.getLastD 0≠b:=fun h=>h4 h b rfl;by_cases hn:n < 4
   ·
    rw [Kd,if_pos hn,htk,Qt1 b _ out n same hp (by omega) h3 h4' (by omega),
     ih _ (out++Ya n b) n (by omega) (by simp only [Yh,Y0];omega) (by omega) ?_,Yj,hd]
    intro _ c hc hlast
    have e:(out++Ya n b).getLastD 0=b:=by
     obtain ⟨k,rfl⟩:∃ k,n=k+1:=⟨n - 1,by omega⟩;rw [Ub,<- Yj,Z9]
    rw [e] at hlast;rw [List.getElem?_drop,Nat.add_zero] at hc;exact hend (by omega) (by rw [hc,hlast])
   rw [Kd,if_neg hn,htk4 (by omega),Yj,Qt1 b _ out 4 same (by omega) (by omega) h3 h4' (by omega)];rw [Yq,C6,if_pos rfl];have e1:(UInt8.ofNat (n - 4)).toNat=n - 4:=by simp;omega
   have e2:(out++Ya 4 b).getLastD 0=b:=by
    rw [show Ya 4 b=Ya 3 b++[b] from rfl,<- Yj,Z9]
   rw [e1,e2,if_neg (by simp only [Yh,Y0];omega),
    ih _ _ 0 (by omega) (by simp only [Yh,Y0];omega) (by omega) (fun h=>by omega)]
   rw [Yj,Yj,<- Yj (Ya 4 b),Xr,show 4+(n - 4)=n by omega,hd]
theorem Qr5 (l:List UInt8) (h:l.length<=262144):C6 [] 0 (enc l)=(l,0):=by
 have:=QEy l.length l [] 0 (Y4 _) (by simpa using h) (by omega) (fun h=>by omega);simpa using this
theorem Ra {n v:Nat}{bits:List Bool}{at_:Nat}{r:List Bool} (h0:0 < n) (hv:v < 2 ^ n) (hb:bits.drop at_=A0 n v++r):at_+n<=bits.length/\Bc ((bits.drop at_).take n)=v/\bits.drop (at_+n)=r:=by
 have hl:=congrArg Uj hb;rw [Up,Yh,Ct] at hl;refine ⟨by omega,?_,?_⟩
 ·
  rw [hb,List.take_left' (Ct n v),Os,Nat.mod_eq_of_lt hv]
 rw [<- List.drop_drop,hb,List.drop_left' (Ct n v)]
theorem Qh4 {n:Int} (hn:1<=n):∀ (l out:List Int) (z:Nat),(∀ v∈l,0<=v/\v < n)->(∀ x∈out,0<=x/\x<=n)->∃ t,Et n out z l=(t++[n+1],0)/\∀ x∈t,0<=x/\x<=n
 | [],out,z,_,ho=>by
  have h1:=Vs z z (Y4 _);refine ⟨out++Fl z,rfl,fun x hx=>?_⟩;rcases X4.1 hx with hx | hx
  ·
   exact ho x hx
  have:=h1 x hx;omega
 | v::r,out,z,hl,ho=>by
  have hv:=hl v (by simp);rw [Et];split
  ·
   exact Qh4 hn r out (z+1) (fun v hv=>hl v (by simp [hv])) ho
  rw [if_neg (by omega)];have h1:=Vs z z (Y4 _);refine Qh4 hn r _ 0 (fun v hv=>hl v (by simp [hv])) fun x hx=>?_;simp only [X4,Xv] at hx;rcases hx with (hx | hx) | rfl
  ·
   exact ho x hx
  ·
   have:=h1 x hx;omega
  omega
theorem QJq {l:List Int} (h:∀ v∈l,0<=v):ni (Pp l)=l:=by
 unfold ni Pp;rw [U5]
 conv=>rhs;rw [<- List.map_id l]
 apply X2;intro v hv;have:=h v hv;simp only [Function.comp,id];omega
theorem Qwg {t:List UInt8}{σ:List Nat} (ho:Ordered t σ) (ht:t≠[]):∃ body,Ch t σ=body++[(A9 t).length+1]/\∀ x∈body,x < (A9 t).length+2/\x≠(A9 t).length+1:=by
 obtain ⟨u1,u2⟩:=P5 ht;obtain ⟨p1,p2,p3⟩:=Zh ho;obtain ⟨b,hb,hx⟩:=Qh4 (n:=((A9 t).length:Nat)) (by omega) (Iv t σ) [] 0 p3 (by simp);have he:Ig ((A9 t).length:Nat) (Iv t σ)=(b++[((A9 t).length:Int)+1],0):=by rw [Ig,if_neg (by omega)];exact hb
 refine ⟨Pp b,?_,fun x hx2=>?_⟩
 ·
  unfold Ch;rw [he];simp only [Pp,Xj,List.map_cons,List.map_nil]
  congr 2
 obtain ⟨y,hy,rfl⟩:=Xd.1 hx2;have:=hx y hy;omega
theorem Qwh {s:List UInt8}{σ:List Nat} (ho:Ordered (enc s) σ) (hs:s≠[]) (hl:s.length<=262144) (hel:(enc s).length<=262144) (hne:enc s≠[]) {most:Int} (h0:1<=most) (h1:most<=262144) :
  Kj (A9 (enc s)) (Ch (enc s) σ) (σ.idxOf 0) most=if ((enc s).length:Int)<=most then (s,0) else ([],3):=by
 obtain ⟨u1,u2⟩:=P5 hne;obtain ⟨p1,p2,p3⟩:=Zh ho;obtain ⟨z1,z2,z3,z4,z5,z6⟩:=Vt ho hne;have hz:∀ v∈(Ig ((A9 (enc s)).length:Nat) (Iv (enc s) σ)).1,0<=v:=fun v hv=>(Qtz (n:=((A9 (enc s)).length:Nat)) (by omega) (by omega) p3).2.1 v hv |>.1
 have hni:ni (Ch (enc s) σ)=(Ig ((A9 (enc s)).length:Nat) (Iv (enc s) σ)).1:=QJq hz;have hzb:=QOf ((A9 (enc s)).length:Nat) (Iv (enc s) σ) (Ig ((A9 (enc s)).length:Nat) (Iv (enc s) σ)).1 (by rw [<- z1]) most (by omega) h1;have hfb:=Qgx _ _ _ p1;have hmu:=Qbc hne;have hcl:=Qcn ho
 have hrow:σ.idxOf 0 < (enc s).length:=by
  have hm:0∈σ:=by
   refine ho.perm.mem_iff.2 ?_
   have:0 < (enc s).length:=by cases h:enc s with
    | nil=>exact absurd h hne
    | cons=>simp
   simpa using this
  have:=List.idxOf_lt_length_of_mem hm;have h2:=ho.perm.length_eq;simp at h2;omega
 have hbk:L0 (B5 (enc s) σ) (σ.idxOf 0:Nat)=(enc s,0):=by
  unfold L0;rw [if_neg (by omega),if_neg (by omega),Yz,hcl,Qy4 ho hne]
 have hsy:K6 (A9 (enc s)) (Iv (enc s) σ)=(B5 (enc s) σ,0):=by
  unfold K6;rw [if_pos hmu,hfb]
 unfold Kj;rw [hni,hzb,p2];by_cases hm:((enc s).length:Int)<=most
 ·
  simp only [if_pos hm];rw [if_neg (by simp),hsy,if_neg (by simp),hbk,if_neg (by simp),Qr5 s hl]
 simp only [if_neg hm];rw [if_pos (by simp)]
theorem Sz {s:List UInt8} (hs:s≠[]):enc s≠[]:=by
 intro e
 obtain ⟨c,r,rfl⟩:∃ c r,s=c::r:=by cases s with
  | nil=>exact absurd rfl hs
  | cons c r=>exact ⟨c,r,rfl⟩
 have h1:=Re (c::r) (by simp);have h2:=L7 (c::r) (by simp);have h3:=(P3 (c::r)).1;have h4:=Ps (B8 (c::r)) (c::r) h3;rw [e] at h1;have h5:=congrArg Uj h1;simp only [Yh,Uc] at h5;split at h4 <;> omega
theorem Qbk (s:List UInt8):Cd s < 4294967296:=by
 have:=W9 s (r:=4294967295) (by omega);unfold Cd
 first | omega | exact Xn (n:=32) this (by omega)
def Wc (s:List UInt8) (σ:List Nat):List Bool:=Fh (A9 (enc s))++(Ex (Bu (enc s) σ).1 (Bu (enc s) σ).2++E7 (Bu (enc s) σ).1 (Bu (enc s) σ).2 (Ch (enc s) σ) 0)
theorem Qd2 (s:List UInt8) (σ:List Nat):Fy s σ=Qu s (σ.idxOf 0)++Wc s σ:=by
 simp [Fy,Wc]
theorem Qzy {s:List UInt8}{σ:List Nat} (ho:Ordered (enc s) σ) (hs:s≠[]) (hl:s.length<=262144) (hel:(enc s).length<=262144) {bits:List Bool}{at_ sum:Nat}{r:List Bool} (hsum:sum < 4294967296) (hb:bits.drop at_=A0 48 54156738319193++(A0 32 sum++(A0 1 0++(A0 24 (σ.idxOf 0)++(Wc s σ++r))))) {most:Int} (h0:1<=most) (h1:most<=262144) :
  Ke bits at_ most=if ((enc s).length:Int)<=most then (if Cd s≠sum then .error 121 else .ok (s,sum,at_+(Fy s σ).length)) else .error 3:=by
 have hne:=Sz hs;obtain ⟨u1,u2⟩:=P5 hne;have hmay:=Z7 ho hne hel;obtain ⟨bm,bn⟩:=Qo3 hmay;have hbg:=Qel (Ch (enc s) σ) ((A9 (enc s)).length+2)
 have hrow:σ.idxOf 0 < 2 ^ 24:=by
  have h1:=List.idxOf_le_length (l:=σ) (a:=0);have h2:=ho.perm.length_eq;simp at h2;omega
 obtain ⟨a1,a2,a3⟩:=Ra (by omega) (by decide) hb;obtain ⟨b1,b2,b3⟩:=Ra (by omega) hsum a3;obtain ⟨c1,c2,c3⟩:=Ra (by omega) (by decide) b3;obtain ⟨d1,d2,d3⟩:=Ra (by omega) hrow c3
 have hhd:Dc bits at_=(sum,σ.idxOf 0,at_+105,0):=by
  unfold Dc;rw [if_neg (by omega),if_neg (by rw [a2];simp),if_neg (by omega),if_neg (by omega)];rw [show at_+48+32=at_+80 by omega] at c2;rw [show at_+48+32+1=at_+81 by omega] at d2;rw [c2,if_neg (by simp),if_neg (by omega),b2,d2]
 have e1:bits.drop (at_+105)=Fh (A9 (enc s))++((Ex (Bu (enc s) σ).1 (Bu (enc s) σ).2++E7 (Bu (enc s) σ).1 (Bu (enc s) σ).2 (Ch (enc s) σ) 0)++r):=by
  rw [show at_+105=at_+48+32+1+24 by omega,d3,Wc];simp
 have hst:=Qyw hne e1;have e2:=Mo e1;rw [Yj] at e2
 have hpt:I7 bits (at_+105+(Fh (A9 (enc s))).length) ((A9 (enc s)).length+2)=.ok (((Bu (enc s) σ).1,(Bu (enc s) σ).2),at_+105+(Fh (A9 (enc s))).length+(Ex (Bu (enc s) σ).1 (Bu (enc s) σ).2).length):=by
  have:=Qvl bm e2;rw [bn] at this;exact this
 have e3:=Mo e2;obtain ⟨body,hbody,hbx⟩:=Qwg ho hne;obtain ⟨n1,n2,n3,n4,n5,n6⟩:=bm
 have hgl:(Ch (enc s) σ).length<=50 * (Bu (enc s) σ).2.length:=by
  show _<=50 * (E8 _ _).2.length
  rw [hbg];unfold Ds;omega
 have hpc:E7 (Bu (enc s) σ).1 (Bu (enc s) σ).2 (Ch (enc s) σ) 0=K1 (Bu (enc s) σ).1 (Bu (enc s) σ).2 (Ch (enc s) σ) :=
  Qgs (Bu (enc s) σ).1 (Bu (enc s) σ).2 (Bu (enc s) σ).2 0 (Ch (enc s) σ) rfl hgl
 have hT:∀ t,t < (Bu (enc s) σ).1.length->((Bu (enc s) σ).1.getD t []).length=(A9 (enc s)).length+2/\Fa ((Bu (enc s) σ).1.getD t []):=fun t ht=>by
  have hm:(Bu (enc s) σ).1.getD t []∈(Bu (enc s) σ).1:=by
   rw [Yg,Yd ht];exact Xl ht
  obtain ⟨q1,q2,q3⟩:=n5 _ hm;exact ⟨by rw [q1];exact bn,q3⟩
 have hgp:Ef (Bu (enc s) σ).1 bits ((A9 (enc s)).length+1) (Bu (enc s) σ).2 (at_+105+(Fh (A9 (enc s))).length+(Ex (Bu (enc s) σ).1 (Bu (enc s) σ).2).length)=.ok (Ch (enc s) σ,at_+105+(Fh (A9 (enc s))).length+(Ex (Bu (enc s) σ).1 (Bu (enc s) σ).2).length+(K1 (Bu (enc s) σ).1 (Bu (enc s) σ).2 (Ch (enc s) σ)).length):=by
  rw [hpc,hbody] at e3;rw [hbody];exact Qtq (by omega) hT _ body n6 hbx (by rw [<- hbody];exact hgl) e3
 have hun:=Qwh ho hs hl hel hne h0 h1
 have hlen:(Fy s σ).length=105+(Fh (A9 (enc s))).length+(Ex (Bu (enc s) σ).1 (Bu (enc s) σ).2).length+(K1 (Bu (enc s) σ).1 (Bu (enc s) σ).2 (Ch (enc s) σ)).length:=by
  rw [Qd2,Wc,<- hpc];simp [Z8];omega
 have hbn:((Bu (enc s) σ).1.getD 0 []).length=(A9 (enc s)).length+2:=bn;unfold Ke;rw [hhd];simp only [ne_eq,not_true_eq_false,if_false];rw [hst];simp only;rw [hpt];simp only;rw [hbn,show (A9 (enc s)).length+2 - 1=(A9 (enc s)).length+1 by omega,hgp];simp only;rw [hun,hlen];by_cases hm:((enc s).length:Int)<=most
 ·
  simp only [if_pos hm,not_true_eq_false,if_false];split
  ·
   rfl
  rw [show at_+105+(Fh (A9 (enc s))).length+(Ex (Bu (enc s) σ).1 (Bu (enc s) σ).2).length+(K1 (Bu (enc s) σ).1 (Bu (enc s) σ).2 (Ch (enc s) σ)).length=at_+(105+(Fh (A9 (enc s))).length+(Ex (Bu (enc s) σ).1 (Bu (enc s) σ).2).length+(K1 (Bu (enc s) σ).1 (Bu (enc s) σ).2 (Ch (enc s) σ)).length) by omega]
 simp only [if_neg hm];rfl
theorem Qr6 {s:List UInt8}{σ:List Nat} (ho:Ordered (enc s) σ) (hs:s≠[]) (hl:s.length<=262144) (hel:(enc s).length<=262144) {bits:List Bool}{at_:Nat}{r:List Bool} (hb:bits.drop at_=Fy s σ++r) {most:Int} (h0:1<=most) (h1:most<=262144) :
  Ke bits at_ most=if ((enc s).length:Int)<=most then .ok (s,Cd s,at_+(Fy s σ).length) else .error 3:=by
 rw [Qzy (r:=r) ho hs hl hel (Qbk s) (by rw [hb,Qd2,Qu];simp [Yj]) h0 h1];simp
open Go Go.Eng Go.Shelf Go.Sort
section
variable {α:Type} [Inhabited α] {enc:α->List Value}{k:Nat}
theorem Qj1 (hk:∀ x,(enc x).length=k) (d:Array α) (j:Nat) (hj:j < d.size * k):(Cf enc d.toList)[j]? = some (flatK enc k d)[j]! := by
 have hk0:0 < k:=by
  rcases Nat.eq_zero_or_pos k with h | h
  ·
   subst h;simp at hj
  exact h
 have h1:j / k < d.size:=(Nat.div_lt_iff_lt_mul hk0).2 hj;have h2:j % k < k:=Ug _ hk0
 have h3:d.toList[j / k]? = some d[j / k]! := by
  rw [Yd (by simpa using h1),getElem!_pos d _ h1];simp
 have h4:(enc d[j / k]!)[j % k]? = some (enc d[j / k]!)[j % k]! := by
  rw [Yd (by rw [hk];exact h2),getElem!_pos (enc d[j / k]!) (j % k) (by rw [hk];exact h2)]
 have h5:=Qi8 hk d.toList (j / k) _ h3 (j % k) _ h4;rw [U6,Nat.div_add_mod] at h5;rw [h5,get_flatK enc k d j hj]
theorem Qiu (hk:∀ x,(enc x).length=k) {T g cap:Nat}{d:Array α}{w:World} (h:(Yr T k (some ⟨g,0,none⟩) d.size cap (Cf enc d.toList)).holds w):HoldsK enc k w g 0 d:=by
 intro j hj;rw [size_flatK] at hj;have hc:=Cn h (Qj1 hk d j hj);refine ⟨by rw [Ua];exact hc,?_⟩;obtain ⟨h1,h2,h3,h4⟩:=h;rcases h4 with ⟨h5,_⟩ | ⟨g',rest,fz,h5,hg,hl,hf⟩
 ·
  cases h5
 cases h5;have hn:=Nat.mul_le_mul_right k h2;have:=hf j (by omega);obtain ⟨lo,hi⟩:=fz;simp only [World.frozen?,hg,Ua];simpa using this
theorem Qn4 (hk:∀ x,(enc x).length=k) {T g cap:Nat}{d d':Array α}{w:World} (h:(Yr T k (some ⟨g,0,none⟩) d.size cap (Cf enc d.toList)).holds w) (hs:d'.size=d.size) (n m:Nat) (os:Array Obj) :
  ∃ w1,sortWorldK enc k (w.drewN n) g 0 m d' os=(w1.drewN n).drewN m/\Heap w [g] w1 [Yr T k (some ⟨g,0,none⟩) d'.size cap (Cf enc d'.toList)]:=by
 obtain ⟨h1,h2,h3,h4⟩:=h;rcases h4 with ⟨h5,_⟩ | ⟨g',rest,fz,h5,hg,hl,hf⟩
 ·
  cases h5
 cases h5;refine ⟨Sort.grow (putRowK enc k w g 0 d') os,rfl,?_⟩;have hlt:g < w.heap.size:=(Array.getElem?_eq_some_iff.1 hg).1;have hsz:(putRowK enc k w g 0 d').heap.size=w.heap.size:=by simp [putRowK,Sort.putRow,Sort.mapBlock]
 have hne:∀ i,i < w.heap.size->i≠g->(Sort.grow (putRowK enc k w g 0 d') os).heap[i]? = w.heap[i]? := fun i hi hi2=>by
  rw [Sort.heap_grow_old _ _ (by omega)];simp only [putRowK,Sort.putRow,Sort.mapBlock,Array.getElem?_modify];rw [if_neg (fun e=>hi2 e.symm)]
 have hcs:(Cf enc d'.toList).length=d'.size * k:=by rw [Qi6 hk];simp
 have hold:(Cf enc d.toList).length=d.size * k:=h1;have hdk:d'.size * k=d.size * k:=by rw [hs]
 have hat:(Sort.grow (putRowK enc k w g 0 d') os).heap[g]? = some (.cells (Cf enc d'.toList++rest).toArray T fz):=by
  rw [Sort.heap_grow_old _ _ (by omega)];simp only [putRowK,Sort.putRow,Sort.mapBlock,Array.getElem?_modify,if_true,hg,Option.map_some,Sort.onCells]
  congr 2
  apply Array.ext_getElem?;intro j;simp only [Sort.putCells,Array.getElem?_mapIdx,List.getElem?_toArray,size_flatK,Nat.zero_le,true_and,Ua,U4,id];by_cases hj:j < d'.size * k
  ·
   have e1:=Qj1 hk d' j hj;rw [Uh (by omega),Uh (by omega),e1];rw [Yd (by rw [hold,<- hs];exact hj),Option.map_some,if_pos hj]
  rw [Xm (by omega),Xm (by omega),hcs,hold,hs];cases rest[j - d.size * k]? with
  | none=>rfl
  | some x=>simp only [Option.map_some];rw [if_neg (by omega)]
 refine ⟨⟨rfl,rfl,rfl,by rw [Sort.grow];simp [hsz],fun i hi hi2=>hne i hi (by simpa using hi2)⟩,?_,?_,by simp⟩
 ·
  intro r hr;rw [Xv.1 hr];refine ⟨hcs,by omega,h3,.inr ⟨g,rest,fz,rfl,hat,?_,hf⟩⟩;rw [Yh] at hl ⊢;rw [hcs,hs,<- hold];exact hl
 intro r hr b hb;rw [Xv.1 hr] at hb;simp [Yr] at hb;subst hb;exact ⟨.inl (by simp),by rw [Sort.grow];simp [hsz];omega⟩
end
open Go.Shelf
def Qll:Go.Shelf.Ren:=⟨fun | 6=>178 | 15=>116 | 14=>204 | 28=>156 | 29=>157 | 20=>213 | 21=>214 | 22=>215 | 23=>216 | 24=>217 | 25=>218 | 26=>219 | 27=>220 | 46=>224 | 47=>182 | 48=>183 | 49=>225 | 50=>226 | 57=>227 | n=>n,fun | 22=>233 | 24=>235 | 25=>237 | 3=>3 | 39=>128 | 0=>0 | 53=>78 | 55=>83 | 4=>4 | 46=>212 | 45=>211 | 50=>216 | 5=>5 | 9=>9 | 66=>243 | 70=>247 | 76=>265 | 77=>197 | n=>n,fun | n=>n⟩
theorem Qzz:Go.Proofs.SlLaysF0.n6 Ys Qll:={
 mixed:=by kernel_rfl
 f6:=⟨Tryz.f178.name,by decide,Tryz.func178.trans (congrArg some (by kernel_rfl))⟩
 f14:=⟨Tryz.f204.name,by decide,Tryz.func204.trans (congrArg some (by kernel_rfl))⟩
 f15:=Tryz.func116.trans (congrArg some (by kernel_rfl))
 f20:=⟨Tryz.f213.name,by decide,Tryz.func213.trans (congrArg some (by kernel_rfl))⟩
 f21:=⟨Tryz.f214.name,by decide,Tryz.func214.trans (congrArg some (by kernel_rfl))⟩
 f22:=⟨Tryz.f215.name,by decide,Tryz.func215.trans (congrArg some (by kernel_rfl))⟩
 f23:=⟨Tryz.f216.name,by decide,Tryz.func216.trans (congrArg some (by kernel_rfl))⟩
 f24:=⟨Tryz.f217.name,by decide,Tryz.func217.trans (congrArg some (by kernel_rfl))⟩
 f25:=⟨Tryz.f218.name,by decide,Tryz.func218.trans (congrArg some (by kernel_rfl))⟩
 f26:=⟨Tryz.f219.name,by decide,Tryz.func219.trans (congrArg some (by kernel_rfl))⟩
 f27:=⟨Tryz.f220.name,by decide,Tryz.func220.trans (congrArg some (by kernel_rfl))⟩
 f28:=Tryz.func156.trans (congrArg some (by kernel_rfl))
 f29:=Tryz.func157.trans (congrArg some (by kernel_rfl))
 f46:=⟨Tryz.f224.name,by decide,Tryz.func224.trans (congrArg some (by kernel_rfl))⟩
 f47:=Tryz.func182.trans (congrArg some (by kernel_rfl))
 f48:=Tryz.func183.trans (congrArg some (by kernel_rfl))
 f49:=⟨Tryz.f225.name,by decide,Tryz.func225.trans (congrArg some (by kernel_rfl))⟩
 f50:=⟨Tryz.f226.name,by decide,Tryz.func226.trans (congrArg some (by kernel_rfl))⟩
 f57:=⟨Tryz.f227.name,by decide,Tryz.func227.trans (congrArg some (by kernel_rfl))⟩
 t0:=Tryz.underlying0
 a0:=Tryz.isAgg0
 z0:=Tryz.sizeOf0
 v0:=Tryz.zeroValue0
 t3:=Tryz.underlying3
 a3:=Tryz.isAgg3
 z3:=Tryz.sizeOf3
 v3:=Tryz.zeroValue3
 t4:=Tryz.underlying4
 a4:=Tryz.isAgg4
 z4:=Tryz.sizeOf4
 v4:=Tryz.zeroValue4
 t5:=Tryz.underlying5
 a5:=Tryz.isAgg5
 z5:=Tryz.sizeOf5
 v5:=Tryz.zeroValue5
 t9:=Tryz.underlying9
 a9:=Tryz.isAgg9
 z9:=Tryz.sizeOf9
 v9:=Tryz.zeroValue9
 t22:=Xc
 a22:=Tryz.isAgg233
 z22:=Tryz.sizeOf233
 v22:=Tryz.zeroValue233
 t25:=Tryz.underlying237
 a25:=Tryz.isAgg237
 z25:=Tryz.sizeOf237
 v25:=Tryz.zeroValue237
 t39:=Tryz.underlying128
 a39:=Tryz.isAgg128
 z39:=Tryz.sizeOf128
 v39:=Tryz.zeroValue128
 t45:=Tryz.underlying211
 a45:=Tryz.isAgg211
 z45:=Tryz.sizeOf211
 v45:=Tryz.zeroValue211
 t46:=Tryz.underlying212
 a46:=Tryz.isAgg212
 z46:=Tryz.sizeOf212
 v46:=Tryz.zeroValue212
 t50:=Tryz.underlying216
 a50:=Tryz.isAgg216
 z50:=Tryz.sizeOf216
 v50:=Tryz.zeroValue216
 t53:=Tryz.underlying78
 a53:=Tryz.isAgg78
 z53:=Tryz.sizeOf78
 v53:=Tryz.zeroValue78
 t55:=Tryz.underlying83
 a55:=Tryz.isAgg83
 z55:=Tryz.sizeOf83
 v55:=Tryz.zeroValue83
 t66:=Tryz.underlying243
 a66:=Tryz.isAgg243
 z66:=Tryz.sizeOf243
 v66:=Tryz.zeroValue243
 t70:=Tryz.underlying247
 a70:=Tryz.isAgg247
 z70:=Tryz.sizeOf247
 v70:=Tryz.zeroValue247
 t76:=Tryz.underlying265
 a76:=Tryz.isAgg265
 z76:=Tryz.sizeOf265
 v76:=Tryz.zeroValue265
 t77:=Tryz.underlying197
 a77:=Tryz.isAgg197
 z77:=Tryz.sizeOf197
 v77:=Tryz.zeroValue197 }
open Go Go.Eng
theorem Qe8 (a b:Tr) (ha:I3 a) (hb:I3 b) (w:World):Does Ys 179 #[.agg (A3 a).toArray,.agg (A3 b).toArray] w fun v w'=>v=.int .i64 (Dy a b)/\w'=(w.alloc (Yo (A3 a).toArray 235)).alloc (Yo (A3 b).toArray 235):=by
 obtain ⟨ha1,ha2,ha3⟩:=ha;obtain ⟨hb1,hb2,hb3⟩:=hb;refine En [.agg (A3 a).toArray,.agg (A3 b).toArray] 23 Tryz.func179 ?_;refine VQ [2,3] fun K hK=>?_;refine Eb ?_;refine Qs ?_;have hH:=(Y3 w).box 235 (A3 a);generalize w.alloc (Yo (A3 a).toArray 235)=w1 at *;generalize w.heap.size=ga at *;refine Eb ?_;refine Qs ?_;have hH2:=hH.box 235 (A3 b);generalize w1.alloc (Yo (A3 b).toArray 235)=w2 at *;generalize w1.heap.size=gb at *;clear hH;apply hK;clear hK;refine VQ [2,3,7] fun K hK=>?_;refine ⟨A3 a,⟨rfl,Ca (hH2.at 1 rfl)⟩,?_⟩;refine ⟨A3 b,⟨rfl,Ca (hH2.at 0 rfl)⟩,?_⟩;rw [Ql9];apply hK;clear hK;refine Vi (fun h=>?_) (fun h=>Ab ?_)
 ·
  simp only [decide_eq_true_eq] at h;subst h;refine VS [4] ?_;exact Ad (A2 rfl rfl ⟨by simp [Dy],rfl⟩)
 clear h;have c1:w2.cell? ⟨ga,0,none⟩=some (.int .i64 a.1):=Aj (hH2.at 1 rfl) rfl;have c2:w2.cell? ⟨ga,1,none⟩=some (.int .i64 a.2):=Aj (hH2.at 1 rfl) rfl;have c3:w2.cell? ⟨gb,0,none⟩=some (.int .i64 b.1):=Aj (hH2.at 0 rfl) rfl;have c4:w2.cell? ⟨gb,1,none⟩=some (.int .i64 b.2):=Aj (hH2.at 0 rfl) rfl;refine VQ [2,3,12] fun K hK=>?_;refine ⟨_,c1,_,c3,?_⟩;refine Qs ?_;apply hK;clear hK;refine Vi (fun h=>?_) (fun h=>Ab ?_)
 ·
  simp only [decide_eq_true_eq] at h;refine VQ [4] fun K hK=>?_;refine ⟨_,c1,_,c3,?_⟩;refine Qs ?_;refine ⟨Xt (by omega) (by omega),?_⟩;apply hK;clear hK;exact Ad (A2 rfl rfl ⟨by rw [Dy,if_neg h],rfl⟩)
 simp only [decide_eq_false_iff_not,Decidable.not_not] at h;refine VQ [4] fun K hK=>?_;refine ⟨_,c2,_,c4,?_⟩;refine Qs ?_;refine ⟨Xt (by omega) (by omega),?_⟩;apply hK;clear hK;exact Ad (A2 rfl rfl ⟨by rw [Dy,if_pos h],rfl⟩)
abbrev R2:={ t:Tr // I3 t }
instance:Inhabited R2:=⟨⟨(0,0),by unfold I3;omega⟩⟩
def Qy (x:R2):List Value:=A3 x.1
def Rz (x y:R2):Int:=Dy x.1 y.1
theorem Qma (x y:Tr):Dy x y < 0 ↔ (x.1 < y.1∨(x.1=y.1/\x.2 < y.2)):=by
 unfold Dy;split <;> omega
theorem QQh:Sort.SWO (Go.Proofs.ltOf Rz) where
 irrefl x:=by simp [Go.Proofs.ltOf,Rz,Dy]
 trans x y z h1 h2:=by
  simp only [Go.Proofs.ltOf,Rz,decide_eq_true_eq,Qma] at *;omega
 ntrans x y z h1 h2:=by
  simp only [Go.Proofs.ltOf,Rz,decide_eq_false_iff_not,Qma] at *;omega
theorem Qr7 (T:List Tr) (hT:T.length<=1000000) (hok:∀ t∈T,I3 t) (g cap:Nat) (w0 w:World) (B:List Nat) (G:List Res) (hL:Heap w0 B w (Dz g cap T::G)) :
  Does Ys 178 #[.slice (some ⟨g,0,none⟩) T.length cap,V6] w fun v w'=>∃ T':List Tr,T'.Perm T/\(T'.Pairwise fun a b=>¬ Dy b a < 0)/\Heap w0 B w' (Dz g cap T'::G):=by
 intro n
 obtain ⟨d,hd⟩:∃ d:Array R2,d.toList.map (·.1)=T:=by
  refine ⟨(T.pmap (fun t h=>(⟨t,h⟩:R2)) hok).toArray,?_⟩;rw [List.toList_toArray,List.map_pmap];simp
 have hdl:d.size=T.length:=by rw [<- hd];simp
 have henc:∀ d:Array R2,Cf Qy d.toList=F7 (d.toList.map (·.1)):=fun d=>by
  unfold F7 Cf;rw [List.flatMap_map];rfl
 have hrow:(Yr 235 2 (some ⟨g,0,none⟩) d.size cap (Cf Qy d.toList)).holds w:=by
  rw [henc d,hd,hdl];exact hL.at 0 rfl
 have hlt:g < w.heap.size:=(hL.foot (Dz g cap T) (by simp) g (by simp [Dz,Yr])).2
 have hcmp:Go.Proofs.CmpLays Ys 179 #[] Qy 2 Rz g 0 d.size (w.drewN n):=by
  intro m os dk hdk x y;rw [Array.append_empty];have h:=Qe8 x.1 y.1 x.2 y.2 (Go.Proofs.sortWorldK Qy 2 (w.drewN n) g 0 m dk os) 0;rw [QFr] at h;refine Calls.mono h ?_;rintro e w' ⟨v,w1,q,rfl,rfl,rfl,rfl⟩;refine ⟨rfl,q,#[Yo (A3 x.1).toArray 235,Yo (A3 y.1).toArray 235],?_⟩;rw [Sort.alloc_eq_grow,Sort.alloc_eq_grow,Sort.grow_grow];rfl
 have hcon:=AnyQ.slices_SortFunc Qzz 2 Tryz.isAgg235 Tryz.sizeOf235 Qy (fun _=>rfl) (fun x=>L8 x.1) Rz QQh 179 #[] g 0 cap d (w.drewN n) Tryz.call179 hcmp (Qiu (enc:=Qy) (k:=2) (fun _=>rfl) hrow) hlt (by omega);change Calls Ys 178 _ _ _ at hcon;rw [hdl] at hcon;refine hcon.mono ?_;rintro e w' ⟨rfl,d',m,os,⟨hp1,hp2,hp3⟩,hs,rfl⟩;obtain ⟨w1,e1,hH⟩:=Qn4 (enc:=Qy) (k:=2) (fun _=>rfl) hrow hp1 n m os;have e2:(w1.drewN n).drewN m=w1.drewN (n+m):=by simp [World.drewN,Nat.add_assoc]
 have hH2:=hL.call1 0 rfl hH;simp only [Yb,Ye] at hH2;have hlen:(d'.toList.map (·.1)).length=d'.size:=by simp
 have e3:Yr 235 2 (some ⟨g,0,none⟩) d'.size cap (Cf Qy d'.toList)=Dz g cap (d'.toList.map (·.1)):=by
  rw [Dz,hlen,<- henc d']
 rw [e3] at hH2;have hfull:∀ x:Array R2,(x.extract 0 x.size).toList=x.toList:=fun x=>by simp
 refine ⟨_,w1,n+m,rfl,by rw [e1,e2],d'.toList.map (·.1),?_,?_,hH2⟩
 ·
  rw [<- hd];have h1:=hp3;rw [<- hdl,hfull d,<- hp1,hfull d'] at h1;exact h1.map _
 rw [Un,Ui];intro i j hi hj hij;have h1:=hs i j (by omega) hij (by rw [<- hdl,<- hp1];simpa using hj);have h1:=of_decide_eq_false h1;simp only [Rz] at h1;have hi':i < d'.size:=by simpa using hi
 have hj':j < d'.size:=by simpa using hj
 rw [getElem!_pos d' i hi',getElem!_pos d' j hj'] at h1;simpa using h1
theorem Qz0 {n k:Nat} (hn:2<=n) (h1:2 ^ k<=n) (h2:n < 2 ^ (k+1)):D7 n=k:=(Nat.log2_eq_iff (by omega)).2 ⟨h1,h2⟩
def Kk (l:List Nat) (i:Nat):Tr:=(-((max (l.getD i 0) 1:Nat):Int),i)
theorem Qwi (l:List Nat) (hl:2<=l.length) (hl2:l.length<=258) (hx:∀ x∈l,x<=1073741824) (pa:Option Addr) (lc:Nat) (w:World) (hr:RS w pa l.length 1 (Ag l)) :
  Does Ys 144 #[.slice pa l.length lc] w fun v w'=>∃ a cap,Heap w [] w' [Yr 3 1 a (Em l).length cap (Ag (Em l))]/\v=.tuple #[.slice a (Em l).length cap,.int .i64 0]:=by
 have hc1:=Qep l hl hl2 hx pa lc w hr;obtain ⟨p,rfl⟩:=Dt hr (by omega);have hget:∀ i,i < l.length->l.getD i 0<=1073741824:=fun i hi=>hx _ (Dr 0 hi);refine En [.slice (some p) l.length lc] 73 Tryz.func144 ?_;generalize hn:l.length=n at *;refine VS [0] ?_;refine VQ [0,14] fun K hK=>?_;refine Ac Tryz.call174 ?_;refine Qs ?_;refine Yk hc1 ?_;rintro v w2 ⟨rfl,rfl⟩;refine Qs ?_;apply hK;clear hK;refine Ae rfl rfl (fun h=>by simp at h) (fun h=>Ab ?_);clear h hc1;refine VS [0,4,5] ?_;refine VB ?_;refine Au [0,4,5] (fun m e w'=>∃ (k:Nat),Is e [(0,.slice (some p) n lc),(4,.int .i64 n),(5,.int .i64 k)]/\Is w' w2/\1<=k/\k<=8/\2 ^ k<=n/\m=9 - k) 8 ?_ ?_
 ·
  refine Qs ?_;exact ⟨1,rfl,rfl,by omega,by omega,by omega,rfl⟩
 rintro m e w' ⟨k,rfl,rfl,hk1,hk8,hkn,rfl⟩;have hp2:2 ^ (k+1)<=2 ^ 9:=Yy (by omega) (by omega);have hp3:2 ^ (k+1)<=512:=hp2;have hsh:Bx Xe ((k:Int)+1)=k+1:=S1 (by omega) (by simp [Ur];omega);have hp:(1:Int) * 2 ^ (k+1)=((2 ^ (k+1):Nat):Int):=by push_cast;exact Uw _
 refine VQ [0,4,5,21] fun K hK=>?_;rw [hsh,hp];clear hp hp2 hsh;generalize hP2:2 ^ (k+1)=P2 at *;refine ⟨Xt (by omega) (by omega),by omega,Xt (by omega) (by omega),?_⟩;apply hK;clear hK;refine VD (fun h=>?_) (fun h=>?_)
 ·
  have hk9:k+1<=8:=by
   rcases Ud 8 (k+1) with h3 | h3
   ·
    have:2 ^ 9<=2 ^ (k+1):=Yy (by omega) (by omega);rw [hP2] at this;have e:(2:Nat) ^ 9=512:=by decide
    omega
   exact h3
  refine Ab ?_;refine Ar ?_;refine VS [0,4,5] ?_;refine Ao ?_;refine Ah ?_;refine Qs ?_;exact ⟨9 - (k+1),by omega,k+1,rfl,rfl,by omega,hk9,by rw [hP2];omega,rfl⟩
 have hK:=Qz0 (n:=n) (k:=k) (by omega) hkn (by rw [hP2];omega);refine As rfl ?_;refine VQ [0,4,5,6] fun K hK=>?_;refine Qqs (zs:=[.int .i64 0,.int .i64 0]) (k:=2) (bytes:=16) Xc (by kernel_rfl) rfl (by omega) ?_;refine Qs ?_;refine ⟨n,n,⟨rfl,rfl,by omega,by omega,by omega⟩,?_⟩
 have ez:∀ c,(Ya c [Y5 .i64 0,Y5 .i64 0]).flatten=F7 (Ya c (0,0)):=fun c=>by
  induction c with
  | zero=>rfl
  | succ c ih=>rw [Y9,Uk,ih,Y9];rfl
 have hH0:=(Y3 w').row 235 (n:=n) (cap:=n) (sz:=2) (F7 (Ya n (0,0))) [] (by rw [W8];simp) (by rw [Yi,W8];simp) (by omega) (by omega);rw [Yi,<- ez] at hH0;generalize w'.alloc (Yo (Ya n [Y5 Xe 0,Y5 Xe 0]).flatten.toArray 235)=w3 at *;generalize w'.heap.size=go at *;rw [ez] at hH0;apply hK;clear hK;refine VS [4,5,6,26,27,28] ?_;refine Ar ?_;refine Au [4,5,6,26,27,28] (fun m e w1=>∃ (i:Nat),Is e [(4,.int .i64 n),(5,.int .i64 k),(6,.slice (some ⟨go,0,none⟩) n n),(26,.slice (some p) n lc),(27,.int .i64 n),(28,.int .i64 i)]/\Heap w' [] w1 [Yr 235 2 (some ⟨go,0,none⟩) n n (F7 ((Yf i).map (Kk l)++Ya (n - i) (0,0)))]/\i<=n/\m=n - i) n ?_ ?_
 ·
  refine Qs ?_;exact ⟨0,rfl,by simpa using hH0,by omega,rfl⟩
 clear hH0;rintro m e w4 ⟨i,rfl,hH,hi,rfl⟩;refine VS [4,5,6,26,27,28,29] ?_;(repeat refine Ax ?_);refine VD (fun h=>?_) (fun h=>?_)
 ·
  have hcell:=Ek (hH.rs' hr) (i:=i) (by omega);have hgi:=hget i (by omega);have hsn:(Yf (i+1)).map (Kk l)=(Yf i).map (Kk l)++[Kk l i]:=by rw [Xw,Xj];rfl
  have hml:((Yf i).map (Kk l)).length=i:=by simp
  have hnt:Kk l i=(-((max (l.getD i 0) 1:Nat):Int),i):=rfl;generalize (Yf i).map (Kk l)=L at *;generalize l.getD i 0=x at *;generalize Kk l i=y at *
  have hset:(L++Ya (n - i) (0,0)).set i y=(L++[y])++Ya (n - (i+1)) (0,0):=by
   obtain ⟨q,hq⟩:∃ q,n - i=q+1:=⟨n - i - 1,by omega⟩;rw [hq,Y9,Xf _ _ (by omega),hml,Xb,Yb,Yj,show n - (i+1)=q by omega];rfl
  have hlen:(L++Ya (n - i) ((0:Int),(0:Nat))).length=n:=by simp;omega
  refine Ab ?_;refine VB ?_;refine VQ [4,5,6,7,8,26,27,28] fun K hK=>?_;refine ⟨⟨by omega,by omega⟩,_,hcell,?_⟩;apply hK;clear hK;refine VQ [4,5,6,26,27,28] fun K hK=>?_;refine ⟨Xt (by omega) (by omega),⟨by omega,by omega⟩,?_⟩;rw [show -(max ((x:Nat):Int) 1)=y.1 by rw [hnt];simp only;omega,show ((i:Nat):Int)=(y.2:Int) by rw [hnt]];refine Af ?_;refine Qs ?_;refine Ej hH 0 (o:=i * 2) (vs:=A3 y) rfl (by first | exact (B0 _ _ _).symm | rw [B0,Ua] | (rw [B0];simp;omega)) rfl (by kernel_rfl) (by rw [W8,hlen];simp [A3];omega) (L8 y) fun w6 hH6=>?_;have e6:=Qi9 Ov (L++Ya (n - i) (0,0)) i y (by omega);rw [hset] at e6
  have hH7:Heap w' [] w6 [Yr 235 2 (some ⟨go,0,none⟩) n n (F7 ((L++[y])++Ya (n - (i+1)) (0,0)))]:=by
   rw [show F7 ((L++[y])++Ya (n - (i+1)) (0,0))=Cf A3 ((L++[y])++Ya (n - (i+1)) (0,0)) from rfl,<- e6];exact hH6
  clear hH6 e6 hH hcell;have hi2:((y.2:Nat):Int)=i:=by rw [hnt]
  apply hK;clear hK;rw [hi2];refine Ao ?_;refine VS [4,5,6,26,27,28] ?_;refine Ah ?_;refine Qs ?_;exact ⟨n - (i+1),by omega,i+1,rfl,by rw [hsn];exact hH7,by omega,rfl⟩
 obtain rfl:i=n:=by omega
 rw [Xb,Xk,Yi] at hH;have hTl:((Yf i).map (Kk l)).length=i:=by simp
 have hTok:∀ t∈(Yf i).map (Kk l),I3 t:=fun t ht=>by
  obtain ⟨j,hj,rfl⟩:=Xd.1 ht;have hj:j < i:=by simpa using hj
  have:=hget j hj;unfold I3 Kk;simp only;omega
 have hH1:Heap w' [] w4 [Dz go i ((Yf i).map (Kk l))]:=by
  unfold Dz;rw [hTl];exact hH
 clear hH;refine As rfl ?_;have hcs:=Qr7 _ (by omega) hTok go i w' w4 [] [] hH1;rw [hTl] at hcs;refine VQ [4,5,6] fun K hK=>?_;refine Ac Tryz.call178 ?_;refine Qs ?_;refine Yk hcs ?_;rintro v w5 ⟨T,hTp,hTs,hH2⟩;have hTlen:T.length=i:=by rw [hTp.length_eq,hTl]
 have hTmem:∀ t∈T,t=Kk l t.2/\t.2 < i:=fun t ht=>by
  obtain ⟨j,hj,rfl⟩:=Xd.1 (hTp.mem_iff.1 ht);exact ⟨rfl,by simpa [Kk] using hj⟩
 have hσp:(T.map (·.2)).Perm (Yf l.length):=by
  have:=hTp.map (·.2);rw [U5] at this;rw [hn];refine this.trans ?_
  have e:((Yf i).map ((fun t:Tr=>t.2) ∘ Kk l))=Yf i:=by
   conv=>rhs;rw [<- List.map_id (Yf i)]
   exact X2 fun j _=>rfl
  rw [e]
 have hσs:(T.map (·.2)).Pairwise fun a b=>Ik l a b=true:=by
  have hnd:(T.map (·.2)).Nodup:=hσp.nodup_iff.2 List.nodup_range;rw [Un];have h2:=hTs.and (Un.1 hnd);have h3:T.Pairwise fun a b=>(a=Kk l a.2)/\(b=Kk l b.2):=Ui.2 fun i j hi hj _=>⟨(hTmem _ (Xl hi)).1,(hTmem _ (Xl hj)).1⟩;refine (h2.and h3).imp ?_;rintro a b ⟨⟨h4,h5⟩,h6,h7⟩;rw [Qma] at h4;have e1:a.1=-((max (l.getD a.2 0) 1:Nat):Int):=congrArg Prod.fst h6;have e2:b.1=-((max (l.getD b.2 0) 1:Nat):Int):=congrArg Prod.fst h7;rw [Si];omega
 have hfr:∀ q t,T[q]? = some t->S3 l t.2=q:=fun q t ht=>by
  obtain ⟨hq,e⟩:=List.getElem?_eq_some_iff.1 ht;have:=Qej hσp hσs (p:=q) (by simpa using hq);rw [List.getElem_map,e] at this;exact this
 clear hcs hH1 hTs hTok hTl;apply hK;clear hK;refine VQ [4,5,6,9] fun K hK=>?_;refine Ev Ym E2 ?_;refine Qs ?_;refine ⟨i,i,⟨rfl,rfl,by omega,by omega,by omega⟩,?_⟩;have hH3:=hH2.row 3 (n:=i) (cap:=i) (sz:=1) (Ag (Ya i 0)) [] (by simp [Bj]) (by simp [Bj]) (by omega) (by omega);rw [Yi,L5] at hH3;generalize w5.alloc (Yo (Ya i (Y5 Xe 0)).toArray 3)=w6 at *;generalize w5.heap.size=gu at *;rw [<- L5] at hH3;clear hH2;apply hK;clear hK;refine VS [4,5,9,46,47,48] ?_;refine Ar ?_;refine Au [4,5,9,46,47,48] (fun m e w1=>∃ (q:Nat) (O:List Nat),Is e [(4,.int .i64 i),(5,.int .i64 k),(9,.slice (some ⟨gu,0,none⟩) i i),(46,.slice (some ⟨go,0,none⟩) i i),(47,.int .i64 i),(48,.int .i64 q)]/\Heap w' [] w1 [Yr 3 1 (some ⟨gu,0,none⟩) i i (Ag O),Dz go i T]/\O.length=i/\(∀ j t,j < q->T[j]? = some t->O.getD t.2 0=M0 i j)/\q<=i/\m=i - q) i ?_ ?_
 ·
  refine Qs ?_;exact ⟨0,_,rfl,hH3,by simp,fun j t hj _=>by omega,by omega,rfl⟩
 clear hH3;rintro m e w7 ⟨q,O,rfl,hH,hOl,hO,hq,rfl⟩;refine VS [4,5,9,46,47,48,49] ?_;(repeat refine Ax ?_);refine VD (fun h=>?_) (fun h=>?_)
 ·
  have hqT:T[q]? = some T[q]:=Yd (by omega);have htm:=hTmem T[q] (Xl _);have hfq:=hfr q _ hqT;have hrd:=Sa Ov (Az (hH.at 1 rfl)) rfl hqT;rw [B0,Ua] at hrd;have hfl:M0 i q=if P2 - i<=q then k+1 else k:=by rw [M0,hK,hP2]
  generalize T[q]=t at *;refine Ab ?_;refine VB ?_;refine VQ [4,5,9,10,11,46,47,48] fun K hK=>?_;refine ⟨⟨by omega,by omega⟩,A3 t,⟨rfl,hrd⟩,?_⟩;refine A6 (.agg #[.int .i64 0,.int .i64 0]) (by kernel_rfl) ?_;refine Qs ?_;have hH4:=hH.box 235 [.int .i64 0,.int .i64 0];generalize w7.alloc (Yo [Y5 .i64 0,.int .i64 0].toArray 235)=w8 at *;generalize w7.heap.size=gt at *;refine Af ?_;refine Qs ?_;refine Al hH4 0 (vs:=A3 t) rfl rfl (by kernel_rfl) (by simp [A3]) (L8 _) fun w9 hH5=>?_;have hH5:Heap w' [] w9 [Yn gt 235 (A3 t),Yr 3 1 (some ⟨gu,0,none⟩) i i (Ag O),Dz go i T]:=hH5;apply hK;clear hK;clear hH hH4 hrd;have ct:(A3 t)[1]? = some (.int .i64 (t.2:Nat)):=rfl
  have hO2:∀ x,∀ j t',j < q+1->T[j]? = some t'->(O.set t.2 x).getD t'.2 0=if j=q then x else M0 i j:=fun x j t' hj ht'=>by
   have h8:=hfr j t' ht';by_cases e:j=q
   ·
    subst e;have e2:t'=t:=by rw [hqT] at ht';exact (Option.some.inj ht').symm
    rw [if_pos rfl,e2,Pr (by omega)]
   rw [if_neg e,Pq (fun e2=>e (by rw [<- h8,<- e2,hfq])),hO j t' (by omega) ht']
  refine VQ [4,5,9,10,11,46,47,48] fun K hK=>?_;refine ⟨_,Aj (hH5.at 0 rfl) ct,?_⟩;refine Qs ?_;refine Qp ?_;refine Af ?_;refine Qs ?_;refine Ej hH5 1 (o:=(t.2)) (vs:=[.int .i64 (k:Nat)]) rfl (by first | exact (B0 _ _ _).symm | rfl | simp [B0]) rfl (by kernel_rfl) (by first | omega | (simp;done) | (simp;omega) | (simp [An,Bb];omega) | (rw [Bj];simp;omega)) (by simp [Yl]) fun w6 hH6=>?_;(try refine Qs ?_);simp only [Yp,Di (Ag O) _ _ (show t.2 < (Ag O).length by rw [Bj,hOl];omega),Ip,Yb,Yc] at hH6;apply hK;clear hK;refine VQ [4,5,9,11,46,47,48,64] fun K hK=>?_;rw [S1 (i:=(k:Int)+1) (n:=k+1) (by omega) (by simp [Ur];omega),show (1:Int) * 2 ^ (k+1)=((2 ^ (k+1):Nat):Int) by push_cast;exact Uw _,hP2];(repeat first | refine Qo ?_ | refine Qp ?_);apply hK;clear hK;refine VD (fun h=>?_) (fun h=>Ab ?_)
  ·
   rw [if_pos (by omega)] at hfl;refine VQ [4,5,9,46,47,48] fun K hK=>?_;refine ⟨_,Aj (hH6.at 0 rfl) ct,?_⟩;refine Qs ?_;refine ⟨Xt (by omega) (by omega),⟨by omega,by omega⟩,?_⟩;refine Af ?_;refine Qs ?_;refine Ej hH6 1 (o:=(t.2)) (vs:=[.int .i64 (k+1:Nat)]) rfl (by first | exact (B0 _ _ _).symm | rfl | simp [B0]) rfl (by kernel_rfl) (by first | omega | (simp;done) | (simp;omega) | (simp [An,Bb];omega) | (rw [Bj];simp;omega)) (by simp [Yl]) fun w6 hH7=>?_;(try refine Qs ?_);simp only [Yp,Di (Ag (O.set t.2 k)) _ _ (show t.2 < (Ag (O.set t.2 k)).length by rw [Bj,Us,hOl];omega),Ip,Yb,Yc,List.set_set] at hH7;apply hK;clear hK;refine Ao ?_;refine VS [4,5,9,46,47,48] ?_;refine Ah ?_;refine Qs ?_;refine ⟨i - (q+1),by omega,q+1,_,rfl,hH7.sub (Yt _ _),by simp [hOl],fun j t' hj ht'=>?_,by omega,rfl⟩;rw [hO2 (k+1) j t' hj ht'];split
   ·
    rename_i e;rw [e,hfl]
   rfl
  rw [if_neg (by omega)] at hfl;refine Ao ?_;refine VS [4,5,9,46,47,48] ?_;refine Ah ?_;refine Qs ?_;refine ⟨i - (q+1),by omega,q+1,_,rfl,hH6.sub (Yt _ _),by simp [hOl],fun j t' hj ht'=>?_,by omega,rfl⟩;rw [hO2 k j t' hj ht'];split
  ·
   rename_i e;rw [e,hfl]
  rfl
 obtain rfl:q=i:=by omega
 have hfin:O=Em l:=by
  apply List.ext_getElem
  ·
   rw [hOl,Em,X3,X7,hn]
  intro j h1 h2;have hj:j < l.length:=by omega
  have hm:j∈T.map (·.2):=hσp.mem_iff.2 (by simpa using hj);obtain ⟨t,ht,e⟩:=Xd.1 hm;obtain ⟨p',hp',e2⟩:=List.getElem_of_mem ht;have h3:T[p']? = some t:=by rw [Yd hp',e2]
  have h4:=hO p' t (by omega) h3;have h5:=hfr p' t h3;simp only [Em,List.getElem_map,List.getElem_range]
  have e5:O.getD j 0=M0 l.length (S3 l j):=by
   have e':t.2=j:=e;rw [hn,<- e',h5];exact h4
  rw [<- e5,Yg,Yd h1];rfl
 have hfl2:(Em l).length=q:=by rw [<- hfin];exact hOl
 refine As rfl ?_;refine VS [2,3] ?_;refine Ad (A7 rfl rfl rfl ⟨some ⟨gu,0,none⟩,q,?_,by rw [hfl2]⟩);rw [hfl2,<- hfin];exact hH.sub (by simp)
theorem Qr8 (l:List Nat) (x n:Nat) (hx:x < n):(Yf n).map (fun s=>(l++[x]).count s)=((Yf n).map fun s=>l.count s).set x (l.count x+1):=by
 apply Xx;intro j;rw [Xz,Xy,Xz,X3,X7];by_cases e:x=j
 ·
  subst e;rw [if_pos rfl,if_pos hx,Xs hx];simp [U7]
 rw [if_neg e];by_cases hj:j < n
 ·
  rw [Xs hj];simp [U7,List.count_singleton,e]
 rw [Xg (by simpa using hj)];rfl
theorem Qr9 (l:List Nat) (n:Nat):((Yf n).map fun s=>l.count s).length=n:=by simp
theorem Qsa (n:Nat):(Yf n).map (fun s=>([]:List Nat).count s)=Ya n 0:=by
 apply Xx;intro j;rw [Xz,X6];by_cases hj:j < n
 ·
  rw [Xs hj,if_pos hj];rfl
 rw [Xg (by simpa using hj),if_neg hj];rfl
def QAx (G:List Res) (v:Value) (T:List (List Nat)) (P:List Nat):Prop:=∀ w:World,(∀ r∈G,r.holds w)->PlanAt w v T P
theorem Qiv (list:List Nat) (n:Nat) (hm:Nf list n) (a:Option Addr) (lc:Nat) (w:World) (hr:RS w a list.length 1 (Ag list)) :
  Does Ys 102 #[.slice a list.length lc,.int .i64 n] w fun x w'=>∃ v G,Heap w [] w' G/\QAx G v (E6 list n).1 (E6 list n).2/\x=.tuple #[v,.int .i64 0]:=by
 have hml:=Qc9 list n hm a lc;have hfl:=Ql1 hm;have hfq:Ez list n=(Yf n).map fun s=>list.count s:=rfl;obtain ⟨h1,h2,h3,h4,h5⟩:=hm;have hg1:=(Tv h3 h4);obtain ⟨p,rfl⟩:=Dt hr (by omega);refine En [.slice (some p) list.length lc,.int .i64 n] 51 Tryz.func102 ?_;generalize hnl:list.length=nl at *;refine VQ [0,1,4] fun K hK=>?_;refine A6 (.agg #[.slice none 0 0,.slice none 0 0]) (by kernel_rfl) ?_;refine Qs ?_;have hH:=(Y3 w).box 120 (Ai none 0 0 none 0 0);have hpl:[Xq none 0 0,Xq none 0 0]=Ai none 0 0 none 0 0:=rfl;rw [hpl];generalize w.alloc (Yo (Ai none 0 0 none 0 0).toArray 120)=w1 at *;generalize w.heap.size=gr at *;apply hK;clear hK;refine VQ [0,1,4,16] fun K hK=>?_;refine Ac Tryz.call139 ?_;refine Qs ?_;refine Yk (hml w1 (hH.rs' hr)) ?_;rintro v w2 ⟨rfl,rfl⟩;refine Qs ?_;apply hK;clear hK;refine Ae rfl rfl (fun h=>by simp at h) (fun h=>Ab ?_);clear h;refine VQ [0,4,6] fun K hK=>?_;refine Ev Ym E2 ?_;refine Qs ?_;refine ⟨n,n,⟨rfl,rfl,by omega,by omega,by omega⟩,?_⟩;have hH2:=hH.row 3 (n:=n) (cap:=n) (sz:=1) (Ag (Ya n 0)) [] (by simp [Bj]) (by simp [Bj]) (by omega) (by omega);rw [Yi,L5] at hH2;generalize w2.alloc (Yo (Ya n (Y5 Xe 0)).toArray 3)=w3 at *;generalize w2.heap.size=gu at *;rw [<- L5] at hH2;clear hH;apply hK;clear hK;refine VS [0,4,6,20,21,22] ?_;refine Ar ?_;refine Au [0,4,6,20,21,22] (fun m e w'=>∃ (i:Nat),Is e [(0,.slice (some p) nl lc),(4,.pointer (some ⟨gr,0,none⟩)),(6,.slice (some ⟨gu,0,none⟩) n n),(20,.slice (some p) nl lc),(21,.int .i64 nl),(22,.int .i64 i)]/\Heap w [] w' [Yr 3 1 (some ⟨gu,0,none⟩) n n (Ag ((Yf n).map fun s=>(list.take i).count s)),Yn gr 120 (Ai none 0 0 none 0 0)]/\i<=nl/\m=nl - i) nl ?_ ?_
 ·
  refine Qs ?_;exact ⟨0,rfl,by rw [Yv,Qsa];exact hH2,by omega,rfl⟩
 clear hH2;rintro m e w4 ⟨i,rfl,hH,hi,rfl⟩;refine VS [0,4,6,20,21,22,23] ?_;(repeat refine Ax ?_);refine VD (fun h=>?_) (fun h=>?_)
 ·
  have hcell:=Ek (hH.rs' hr) (i:=i) (by omega);have hx:=h5 _ (Dr 0 (l:=list) (i:=i) (by omega));have htk:list.take (i+1)=list.take i++[list.getD i 0]:=Mq 0 (by omega);have hsn:=Qr8 (list.take i) (list.getD i 0) n hx;rw [<- htk] at hsn;have hcl:=Qr9 (list.take i) n;have hcg:((Yf n).map fun s=>(list.take i).count s).getD (list.getD i 0) 0=(list.take i).count (list.getD i 0):=T8 _ _ _ _ hx;have hcle:(list.take i).count (list.getD i 0)<=i:=Nat.le_trans Ux (by rw [Y6];omega);generalize list.getD i 0=x at *
  have hcu:w4.cell? ⟨gu,x,none⟩=some (.int .i64 (((list.take i).count x:Nat):Int)):=by
   rw [<- hcg];exact Cn (hH.at 0 rfl) (F3 (by omega))
  generalize (list.take i).count x=c at *;generalize ((Yf n).map fun s=>(list.take i).count s)=C at *;refine Ab ?_;refine VB ?_;refine VQ [0,4,6,8,20,21,22] fun K hK=>?_;refine ⟨⟨by omega,by omega⟩,_,hcell,?_⟩;apply hK;clear hK;refine VQ [0,4,6,20,21,22] fun K hK=>?_;refine ⟨⟨by omega,by omega⟩,_,hcu,?_⟩;refine Qs ?_;refine ⟨Xt (by omega) (by omega),⟨by omega,by omega⟩,?_⟩;refine Af ?_;refine Qs ?_;refine Ej hH 0 (o:=(x)) (vs:=[.int .i64 (c+1:Nat)]) rfl (by first | exact (B0 _ _ _).symm | rfl | simp [B0]) rfl (by kernel_rfl) (by first | omega | (simp;done) | (simp;omega) | (simp [An,Bb];omega) | (rw [Bj];simp;omega)) (by simp [Yl]) fun w6 hH3=>?_;(try refine Qs ?_);simp only [Yp,Di (Ag C) _ _ (show x < (Ag C).length by rw [Bj];omega),Ip,Yb,<- hsn] at hH3;apply hK;clear hK;refine Ao ?_;refine VS [0,4,6,20,21,22] ?_;refine Ah ?_;refine Qs ?_;exact ⟨nl - (i+1),by omega,i+1,rfl,hH3,by omega,rfl⟩
 obtain rfl:i=nl:=by omega
 clear h hi;rw [Y1 (by omega),<- hfq] at hH;have hql:(Ez list n).length=n:=by rw [hfq];simp
 have hqx:∀ x∈Ez list n,x<=1073741824:=fun x hx=>by
  obtain ⟨s,_,rfl⟩:=Xd.1 hx;have:=Ux (l:=list) (a:=s);omega
 have hflp:E6 list n=([Em (Ez list n),Em (Ez list n)],Ya (Ds i) 0):=by unfold E6;rw [hnl]
 rw [hflp];have hfd:=Qwi (Ez list n) (by omega) (by omega) hqx (some ⟨gu,0,none⟩) n;rw [hql] at hfd;clear hfq hqx;generalize Ez list n=Q at *;generalize i=nl at *;refine As rfl ?_;refine VQ [0,4,6,9] fun K hK=>?_;refine Ac Tryz.call144 ?_;refine Qs ?_;refine Yk (hfd w4 (Az (hH.at 0 rfl))) ?_;rintro v w5 ⟨aa,ca,hHa,rfl⟩;have hH2:=hH.call0 hHa;simp only [Yq] at hH2;clear hH hHa;apply hK;clear hK;refine VQ [0,4,9,11] fun K hK=>?_;refine Ac Tryz.call144 ?_;refine Qs ?_;refine Yk (hfd w5 (Az (hH2.at 1 rfl))) ?_;rintro v w6 ⟨ab,cb,hHb,rfl⟩;have hH3:=hH2.call0 hHb;simp only [Yq] at hH3;clear hH2 hHb hfd;generalize hF:Em Q=F at *;apply hK;clear hK;refine VQ [4,5] fun K hK=>?_;refine Fb hH3 (Dp [(aa,ca),(ab,cb)] [F,F]) (xs:=[.tmp 43,.tmp 44]) Xu QAs rfl rfl rfl (by omega) ?_;refine Qs ?_;refine ⟨rfl,by simp [Xi],fun gt w7 hH4=>?_⟩;refine Ac Tryz.call108 ?_;refine Qs ?_;refine Yk (Qal nl (by omega) w7) ?_;rintro v w8 ⟨rfl,rfl⟩;generalize hgN:Ds nl=gN at *;refine Ev Ym E2 ?_;refine Qs ?_;refine ⟨gN,gN,⟨rfl,rfl,by omega,by omega,by omega⟩,?_⟩;have hH5:=hH4.row 3 (n:=gN) (cap:=gN) (sz:=1) (Ag (Ya gN 0)) [] (by simp [Bj]) (by simp [Bj]) (by omega) (by omega);rw [Yi,L5] at hH5;generalize w8.alloc (Yo (Ya gN (Y5 Xe 0)).toArray 3)=w9 at *;generalize w8.heap.size=gz at *;rw [<- L5] at hH5;clear hH3 hH4;refine Af ?_;refine Qs ?_;refine Al hH5 5 (vs:=Ai (some ⟨gt,0,none⟩) 2 2 (some ⟨gz,0,none⟩) gN gN) rfl rfl (by kernel_rfl) (by simp [Ai]) (F4 _ _ _ _ _ _) fun w10 hH6=>?_;simp only [Yb,Yc] at hH6;apply hK;clear hK;refine Ad (I4 rfl rfl rfl (Cv (hH6.at 5 rfl) (by kernel_rfl) (by kernel_rfl) rfl ?_));refine ⟨_,_,hH6.sub (List.take_sublist 4 _),fun w' hh=>Qd1 rfl rfl (by simp) rfl (Az (hh _ (Yx (i:=1) rfl))) (Az (hh _ (Yx (i:=0) rfl))) (fun i h t h6 h7=>?_),rfl⟩
 match i with
 | 0=>cases h6;cases h7;exact Az (hh _ (Yx (i:=3) rfl))
 | 1=>cases h6;cases h7;exact Az (hh _ (Yx (i:=2) rfl))
 | i+2=>simp at h6
theorem Qby (v:Value) (T:List (List Nat)) (P:List Nat) (hm:Nr T P) (list:List Nat) (hl1:1<=list.length) (hls:∀ s∈list,s < (T.getD 0 []).length) (hlg:Ds list.length<=P.length) (hsz:Iy (T,P) list<=1000000000000) (a:Option Addr) (lc:Nat) (w:World) (hp:PlanAt w v T P) (hr:RS w a list.length 1 (Ag list)) :
  Does Ys 103 #[v,.slice a list.length lc] w fun x w'=>Heap w [] w' []/\x=.tuple #[.int .i64 (Iy (T,P) list:Nat),.int .i64 0]:=by
 have hpd:=Qdc v T P hm list hl1 hls hlg a lc;have hsd:=Qbw v T P hm;have hsz':Iy (T,P) list=(Ex T P).length+(E7 T P list 0).length:=rfl;rw [hsz'] at hsz ⊢;have hp0:=hp;obtain ⟨ta,tc,pa,pc,hs,rfl,hsl,hrT,hrP,hrt⟩:=hp;have hen:#[Xp #[.slice ta T.length tc,.slice pa P.length pc],.slice a list.length lc]=[Xp (Ai ta T.length tc pa P.length pc).toArray,.slice a list.length lc].toArray:=rfl;rw [hen];refine Pv 29 Tryz.func103 rfl rfl (of_decide_eq_true rfl) ?_;simp only [Env.ofArgs];generalize list.length=nl at *;generalize T.length=nt at *;generalize P.length=np at *;generalize E7 T P list 0=X at *;generalize Ex T P=Y at *;refine VQ [1,2] fun K hK=>?_;refine Eb ?_;refine Qs ?_;have hH:=(Y3 w).box 120 (Ai ta nt tc pa np pc);generalize w.alloc (Yo (Ai ta nt tc pa np pc).toArray 120)=w1 at *;generalize w.heap.size=gp at *;apply hK;clear hK;refine VQ [2,6,7] fun K hK=>?_;refine ⟨Ai ta nt tc pa np pc,⟨rfl,Ca (hH.at 0 rfl)⟩,?_⟩;refine Ac Tryz.call65 ?_;refine Qs ?_;refine Yk (hpd w1 (hp0.keep hH) (hH.rs' hr)) ?_;rintro v w2 ⟨hHp,rfl⟩;have hH2:=hH.call0 hHp;simp only [Ye] at hH2;clear hH hHp;refine A6 (.agg #[.string ⟨#[]⟩,.int .i64 0]) (by kernel_rfl) ?_;refine Qs ?_;have hH3:=hH2.box 70 [.string ⟨#[]⟩,.int .i64 0];generalize w2.alloc (Yo [X8 ⟨#[]⟩,.int .i64 0].toArray 70)=w3 at *;generalize w2.heap.size=gb at *;refine Af ?_;refine Qs ?_;refine Al hH3 0 (vs:=Ay X) rfl rfl (by kernel_rfl) (by simp [Ay]) (E5 _) fun w4 hH4=>?_;simp only [Yb] at hH4;clear hH2 hH3;apply hK;clear hK;refine VS [2,6,7,17] ?_;refine Ae rfl rfl (fun h=>by simp at h) (fun h=>Ab ?_);clear h;refine VQ [6,8] fun K hK=>?_;refine ⟨Ai ta nt tc pa np pc,⟨rfl,Ca (hH4.at 1 rfl)⟩,?_⟩;refine Ac Tryz.call64 ?_;refine Qs ?_;refine Yk (hsd w4 (hp0.keep hH4)) ?_;rintro v w5 ⟨hHs,rfl⟩;have hH5:=hH4.call0 hHs;simp only [Ye] at hH5;clear hH4 hHs;refine A6 (.agg #[.string ⟨#[]⟩,.int .i64 0]) (by kernel_rfl) ?_;refine Qs ?_;have hH6:=hH5.box 70 [.string ⟨#[]⟩,.int .i64 0];generalize w5.alloc (Yo [X8 ⟨#[]⟩,.int .i64 0].toArray 70)=w6 at *;generalize w5.heap.size=ga at *;refine Af ?_;refine Qs ?_;refine Al hH6 0 (vs:=Ay Y) rfl rfl (by kernel_rfl) (by simp [Ay]) (E5 _) fun w7 hH7=>?_;simp only [Yb] at hH7;clear hH5 hH6;apply hK;clear hK;refine VQ [4,5] fun K hK=>?_;refine ⟨_,Aj (hH7.at 0 rfl) (show (Ay Y)[1]? = some _ from rfl),_,Aj (hH7.at 1 rfl) (show (Ay X)[1]? = some _ from rfl),?_⟩;refine Qs ?_;(repeat refine Qo ?_);apply hK;clear hK;exact Ad (A7 rfl rfl rfl ⟨hH7.sub (by simp),rfl⟩)
end Go.Proofs.YtncpabbjpdogjaaGreatDoor
