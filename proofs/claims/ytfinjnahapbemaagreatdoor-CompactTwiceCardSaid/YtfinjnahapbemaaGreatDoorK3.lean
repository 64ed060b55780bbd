/- A program logic over the model, and what this program's functions do by it: part 3. No conditions: a library of lemmas. -/
import Derived.Test.YtfinjnahapbemaaGreatDoorK2
import Derived.Laws.StructEq
import Derived.Lib.Bytealg
import Derived.Lib.Join
import Derived.MapKept
import Derived.Maps.RangeRun
import Derived.Scope
import Derived.Shelf.SlSortCmp.NoneTotal
import Derived.Shelf.SlSortCmp.WholeK
import Derived.Shelf.Small.Strs
import Derived.Shelf.Strings.Count
import Derived.Shelf.Strings.OnBuilder
import Derived.Shelf.Strings.Repeat
import Derived.Shelf.Strings.Search3
import Derived.Sort.Walk0
import Derived.Test.YtfinjnahapbemaaGreatDoorChecked
open Nat (reduceEqDiff)
set_option linter.unusedSimpArgs false
set_option linter.unusedVariables false
set_option maxRecDepth 100000
open List renaming replicate->Ya,getElem?_eq_getElem->Yb,set_cons_zero->Yc,length_append->Ye,getD_eq_getElem?_getD->Yf,append_nil->Yi,length_singleton->Yj,range->Ym,getElem?_eq_some_iff->Yn,nil_append->Yp,append_assoc->Yq,set_cons_succ->Yt,take_of_length_le->Yv,sublist_cons_self->Yw,mem_cons->Yz,singleton_append->Y0,getElem?_map->Y1,cons_append->Y2,drop_of_length_le->Y3,drop_eq_getElem_cons->Y4,mem_of_getElem?->Y9,length_cons->Xa,map_append->Xe,set_append_right->Xh,filter_append->Xi,nil_sublist->Xj,eq_nil_of_length_eq_zero->Xl,getElem?_append_right->Xq,take_append_drop->Xt,range_succ->Xu,mem_map->Xw,length_take->X0,perm_append_comm->X7,getElem?_zipWith->X8,length_replicate->X9,getElem?_toArray->Ua,perm_append_singleton->Ue,getElem?_append_left->Uj,replicate_zero->Uk,replicate_succ->Ul,length_set->Um,mem_singleton->Up,filter_cons_of_pos->Ur,take_add_one->Ut,cons_lt_cons_iff->Uw,filter_cons->Uy,count_eq_zero_of_not_mem->U1,mem_append->U3,mem_filter->U4,length_map->U5,map_congr_left->U6,take_zero->Gf,getElem?_set->Gh,idxOf_lt_length_iff->Gk,filter_cons_of_neg->Gl,drop_length->Gm,map_map->Gn,drop_eq_nil_of_le->Gq,filter_nil->Gr,length_nil->Gs,mem_cons_of_mem->Gv,mem_range->Gw,set_append_left->Gy,replicate_succ'->Gz,mem_map_of_mem->G4,toList_toArray->G5,sum_cons->G7,pairwise_cons->Hm,filter_congr->Hn,length_range->Hp,nodup_append->Hq,length->H3
open Go.Proofs.Tryz renaming prog->Yd,underlying3->Yy,underlying223->Y7,underlying9->Xc,zeroValue3->Xf,zeroValue9->Xg,sizeOf3->Xk,isAgg3->Xn,underlying5->Xo,underlying317->Xp,underlying107->Xs,zeroValue5->Xv,sizeOf9->Xx,underlying61->Xy,underlying4->X1,isAgg9->X2,underlying141->X5,zeroValue4->X6,underlying69->Ub,zeroValue141->Uc,underlying52->Ud,underlying0->Ug,sizeOf5->Uh,zeroValue52->Ui,zeroValue0->Un,underlying185->Uo,isAgg5->Us,sizeOf4->Uu,sizeOf141->Uv,isAgg141->Uz,sizeOf52->U0,isAgg4->U2,call108->U9,sizeOf0->Ga,isAgg52->Gb,call124->Gd,underlying279->Gg,isAgg0->Gi,zeroValue279->Gj,sizeOf279->G3,isAgg279->G8,underlying160->G9,underlying162->Ha,underlying211->Hb,underlying199->He,underlying200->Hf,underlying204->Hg,underlying194->Hh,underlying244->Hi,underlying248->Hj,underlying283->Hk,underlying284->Hl,zeroValue160->Hr,zeroValue162->Hs,zeroValue211->Ht,zeroValue199->Hu,zeroValue200->Hv,zeroValue204->Hw,zeroValue194->Hx,zeroValue244->Hy,zeroValue248->Hz,zeroValue283->H0,zeroValue284->H1
open Go.Eng.Res renaming blk->Yg,row->Yl,obj->Yu
open Go.Result renaming andThen_ok->Yh
open Go.Eng.CallK renaming mk->Yk
open Go.Obj renaming cells->Yo,loop->H6
open Go.Value renaming oneCell'->Yr,int->Y8,cells->Uf,agg->Ux,string->U8,slice->Gx,bool->H5
open Go.Sem renaming run_bind->Ys,run_pure->Y6
open Go.Eng.Heap renaming start->Yx,put->H4
open Nat renaming zero_add->Y5,sub_self->Xd,le_refl->Xm,xor_lt_two_pow->Xr,mod_lt->X4,testBit_two_pow->U7,div_div_eq_div_mul->Gp,mul_le_mul->Gt,pow_le_pow_right->Gu,add_assoc->G6,add_zero->Ho,mul_one->H2
open Go.IntKind renaming u32->Xb,i64->Uq
open Go.Eng.I64 renaming mk->Xz
open UInt8 renaming ofNat->X3,toNat_ofNat'->Hc
open Int renaming toNat->Ge
open Bool renaming false_eq_true->Hd
namespace Go.Proofs.YtfinjnahapbemaaGreatDoor
open Go Go.Eng
def Dr (l:LN):LN:=(Ym l.length).map (Dt l)
theorem Qca (l:LN):(Dr l).length=l.length:=by simp [Dr]
theorem QK4 {g n lc:Nat}{p:Addr}{ao:OA}{co:Nat}{l:LN}{w:World} (h:(Rv g (.slice (some p) n lc) ao co l).holds w) {k:Nat} (hk:k<=B6 l) (hL:B6 l<=20) :
  w.cell? ⟨g,2+k,none⟩=some (.int .i64 (Cs l k:Nat))/\w.cell? ⟨g,24+k,none⟩=some (.int .i64 (Fi l k:Nat))/\w.cell? ⟨g,46+k,none⟩=some (.int .i64 (De l k:Nat)):=by
 have lF:=Ph (Cs l) (B6 l+1);have lB:=Ph (Fi l) (B6 l+1);have lC:=Ph (De l) (B6 l+1);have h1:=Qzd (sv:=.slice (some p) n lc) (ov:=.slice ao (Cd l (B6 l)).length co) (Bg:=Di (Fi l) (B6 l+1)) (C:=Di (De l) (B6 l+1)) lF (n:=k) (by omega);have h2:=Qze (sv:=.slice (some p) n lc) (ov:=.slice ao (Cd l (B6 l)).length co) (C:=Di (De l) (B6 l+1)) lF lB (n:=k) (by omega);have h3:=Qpo (sv:=.slice (some p) n lc) (ov:=.slice ao (Cd l (B6 l)).length co) lF lB lC (n:=k) (by omega);rw [Qpp _ (by omega),if_pos (by omega)] at h1 h2 h3;exact ⟨Af h h1,Af h h2,Af h h3⟩
theorem Qtd {g n lc:Nat}{p:Addr}{ao:OA}{co:Nat}{l:LN}{w:World} (h:(Rv g (.slice (some p) n lc) ao co l).holds w):w.cell? ⟨g,0,none⟩=some (.slice (some p) n lc)/\w.cell? ⟨g,1,none⟩=some (.slice ao (Cd l (B6 l)).length co)/\Reads w ⟨g,0,none⟩ [.slice (some p) n lc]:=by
 have h0:w.cell? ⟨g,0,none⟩=some (.slice (some p) n lc):=Af h (k:=0) rfl;refine ⟨h0,Af h (k:=1) rfl,fun q u hu=>?_⟩;cases q with
 | zero=>simp at hu;subst hu;exact h0
 | succ q=>simp at hu
theorem Qlu (l:LN) (hok:Fv l) (g:Nat) (p:Addr) (lc:Nat) (ao:OA) (co:Nat) (w0 w:World) (G:List Res) (hr:RS w0 (some p) l.length 1 (Ak l)) (hL:Heap w0 [] w (Rv g (.slice (some p) l.length lc) ao co l::Wv ao co l::G)) :
  Does Yd 218 #[.pointer (some ⟨g,0,none⟩)] w fun v w'=>∃ a cap,Heap w0 [] w' (Yl 3 1 a (Dr l).length cap (Ak (Dr l))::Rv g (.slice (some p) l.length lc) ao co l::Wv ao co l::G)/\v=.slice a (Dr l).length cap:=by
 obtain ⟨hL1,hL20⟩:=Qpq hok;have hat:=fun i hi=>We hok (i:=i) hi;have hfl:=fun n hn=>Qih hok (n:=n) hn
 have hbl:∀ n,n<=20->Fi l n<=5160:=fun n hn=>by
  have:=Qik l (n - 1);have h2:=Gt (show n - 1<=20 by omega) hok.2.1;unfold Fi;omega
 obtain ⟨hl2,hl258,hin,_⟩:=id hok;refine En [.pointer (some ⟨g,0,none⟩)] 52 Tryz.func218 ?_;have hcl:=Qca l;generalize hn:l.length=n at *;refine VS [0] ?_;refine VQ [0,3] fun K hK=>?_;refine ⟨_,(Qtd (hL.at 0 rfl)).1,?_⟩;refine Qs ?_;refine Ew Y7 Ib ?_;refine Qs ?_;refine ⟨n,n,⟨rfl,rfl,by omega,by omega,by omega⟩,?_⟩;have hH:=hL.row 3 (n:=n) (cap:=n) (sz:=1) (Ak (Ya n 0)) [] (by simp [Bh]) (by simp [Bh]) (by omega) (by omega);have er:Ak (Ya n 0)=Ya n (.int .i64 0):=by simp [Ak]
 rw [Yi,er] at hH;generalize w.alloc (Yo (Ya n (Y8 Uq 0)).toArray 3)=w1 at *;generalize w.heap.size=gu at *;rw [<- er] at hH;clear hL;apply hK;clear hK;refine VQ [0,3,17,18,19] fun K hK=>?_;refine ⟨_,(Qtd (hH.at 1 rfl)).2.1,?_⟩;refine Qs ?_;apply hK;clear hK;have hol:=Qik l (B6 l)
 have hol2:(Cd l (B6 l)).length<=5160:=by
  have h2:=Gt hL20 hl258;rw [hn] at hol;omega
 generalize hoL:(Cd l (B6 l)).length=oL at *;refine Aq ?_;refine Ay [0,3,17,18,19] (fun m e w'=>∃ (k:Nat) (O:LN),Is e [(0,.pointer (some ⟨g,0,none⟩)),(3,.slice (some ⟨gu,0,none⟩) n n),(17,.slice ao oL co),(18,.int .i64 oL),(19,.int .i64 k)]/\Heap w0 [] w' (Yl 3 1 (some ⟨gu,0,none⟩) n n (Ak O)::Rv g (.slice (some p) n lc) ao co l::Wv ao co l::G)/\O.length=n/\(∀ j,j < k->O.getD ((Cd l (B6 l)).getD j 0) 0=Dt l ((Cd l (B6 l)).getD j 0))/\k<=oL/\m=oL - k) oL ?_ ?_
 ·
  refine Qs ?_;exact ⟨0,_,rfl,hH,by simp,fun j hj=>by omega,by omega,rfl⟩
 clear hH;rintro m e w2 ⟨k,O,rfl,hH,hOl,hO,hk,rfl⟩;refine VS [0,3,17,18,19,20] ?_;(repeat refine Aw ?_);refine VD (fun h=>?_) (fun h=>?_)
 ·
  have hkL:k < (Cd l (B6 l)).length:=by omega
  obtain ⟨go,rfl⟩:=Cw (hH.at 2 rfl) (by omega);have hcell:=B3 (hH.at 2 rfl) (Io hkL);obtain ⟨h1,h2,h3⟩:=Qmo l (B6 l) k hkL;have hcode:=Qvq hkL rfl;rw [hn] at h1;have hti:=hat _ (by rw [hn] at *;exact h1);have hco:=(Z6 hok (by rw [hn] at *;exact h1)).2.2;generalize hi:(Cd l (B6 l)).getD k 0=i at *;have hle:l.getD i 0<=B6 l:=Ra.1 (Xm _) _ (Ez 0 (by omega));obtain ⟨c1,c2,c3⟩:=QK4 (hH.at 1 rfl) hle hL20;have csv:=Qtd (hH.at 1 rfl);have hcx:=El (hH.rs' hr) (i:=i) (by omega);have hff:=hfl (l.getD i 0) hti.2;have hbb:=hbl (l.getD i 0) hti.2;have hp2:2 ^ (l.getD i 0)<=2 ^ 20:=Gu (by omega) hti.2;have hp3:2 ^ (l.getD i 0)<=1048576:=hp2;generalize hx:l.getD i 0=x at *;refine Ad ?_;refine VB ?_;refine VQ [0,3,4,5,17,18,19] fun K hK=>?_;refine ⟨⟨by omega,by omega⟩,_,hcell,?_⟩;apply hK;clear hK;refine VQ [0,3,4,5,6,17,18,19] fun K hK=>?_;refine ⟨_,csv.1,?_⟩;refine Qs ?_;refine ⟨⟨by omega,by omega⟩,_,hcx,?_⟩;apply hK;clear hK;refine VL [0,3,17,18,19] 18 fun K hK=>?_;refine ⟨⟨by omega,by omega⟩,_,c1,?_⟩;refine Qs ?_;refine ⟨Xz (by omega) (by omega),⟨by omega,by omega⟩,_,c2,?_⟩;refine Qs ?_;refine ⟨Xz (by omega) (by omega),⟨by omega,by omega⟩,?_⟩;rw [show ((Cs l x:Nat):Int)+k - (Fi l x:Nat)=((Dt l i:Nat):Int) by omega];refine Ag ?_;refine Qs ?_;refine Dp hH 0 (o:=(i)) (vs:=[.int .i64 (Dt l i:Nat)]) rfl (by first | exact (Bv _ _ _).symm | rfl | simp [Bv]) rfl (by kernel_rfl) (by first | omega | (simp;done) | (simp;omega) | (simp [Ao,Br];omega) | (rw [Bh];simp;omega)) (by simp [Yr]) fun w6 hH2=>?_;(try refine Qs ?_);simp only [Yj,Dm (Ak O) _ _ (show i < (Ak O).length by rw [Bh,hOl];omega),Ip,Yc] at hH2;apply hK;clear hK;refine An ?_;refine VS [0,3,17,18,19] ?_;refine Ah ?_;refine Qs ?_;refine ⟨oL - (k+1),by omega,k+1,_,rfl,hH2,by simp [hOl],fun j hj=>?_,by omega,rfl⟩;by_cases e:(Cd l (B6 l)).getD j 0=i
  ·
   rw [e,Pd (by omega)]
  rw [Pc (fun e2=>e e2.symm)];have:j≠k:=fun e2=>e (by rw [e2];exact hi);exact hO j (by omega)
 have hfin:O=Dr l:=by
  apply List.ext_getElem
  ·
   rw [hOl,hcl]
  intro i h1 h2;have hi:i < l.length:=by omega
  have hm:=Qpn hi (hat i (by omega)).1 (B6 l) (Ra.1 (Xm _) _ (Ez 0 hi));obtain ⟨j,hj,e⟩:=List.getElem_of_mem hm;have e2:(Cd l (B6 l)).getD j 0=i:=by rw [Yf,Yb hj];exact e
  have:=hO j (by omega);rw [e2,Yf,Yb h1] at this;simp only [Dr,List.getElem_map,List.getElem_range];exact this
 refine Ax rfl ?_;refine VS [2] ?_;refine Ae (Al rfl rfl ⟨some ⟨gu,0,none⟩,n,?_,by rw [hcl]⟩);rw [hcl,<- hfin];exact hH
theorem Qdt (l:LN) (hok:Fv l) (a:OA) (lc:Nat) (w:World) (hr:RS w a l.length 1 (Ak l)) :
  Does Yd 190 #[.slice a l.length lc] w fun v w'=>∃ a' cap,Heap w [] w' [Yl 3 1 a' (Dr l).length cap (Ak (Dr l))]/\v=.tuple #[.slice a' (Dr l).length cap,.int .i64 0]:=by
 have hl2:=hok.1;obtain ⟨p,rfl⟩:=Ek hr (by omega);refine En [.slice (some p) l.length lc] 16 Tryz.func190 ?_;refine VS [0] ?_;refine VQ [4,5] fun K hK=>?_;refine Aa Tryz.call217 ?_;refine Qs ?_;refine Yk (Qvs l hok (some p) lc w hr) ?_;rintro v w2 ⟨g,ao,co,hH,rfl⟩;apply hK;clear hK;refine VS [4,5,12] ?_;refine Ai rfl rfl (fun h=>by simp at h) (fun h=>Ad ?_);refine VQ [2,3] fun K hK=>?_;refine Aa Tryz.call218 ?_;refine Qs ?_;refine Yk (Qlu l hok g p lc ao co w w2 [] hr hH) ?_;rintro v w3 ⟨a',cap,hH2,rfl⟩;apply hK;clear hK;exact Ae (Bp rfl rfl rfl ⟨a',cap,hH2.sub (by simp),rfl⟩)
abbrev Tr:=Int×Nat
def A4 (t:Tr):LV:=[.int .i64 t.1,.int .i64 t.2]
theorem Oh (t:Tr):(A4 t).length=2:=rfl
theorem Lw (t:Tr):∀ v∈A4 t,v.oneCell'=true:=by
 intro v hv;simp [A4] at hv;rcases hv with rfl | rfl <;> rfl
def F2 (l:List Tr):LV:=Bw A4 l
def Du (a b:Tr):Int:=if a.1=b.1 then (a.2:Int) - b.2 else a.1 - b.1
theorem Qmp (a b:Tr) (xo yo:Operand) (w:World) (KV:Value->Prop):A3 Yd .eql 319 xo yo (.agg (A4 a).toArray) (.agg (A4 b).toArray) w KV=KV (.bool (decide (a=b))):=by
 refine Ou fun w'=>?_;have hS:Yd.underlying 319=some (.struct (Yd.fieldsOf 319)):=by kernel_rfl
 have hp:Yd.stoodInHeld 319=false:=by kernel_rfl
 have hg:Yd.eqGuardType Yd.depth 319=false:=by kernel_rfl
 simp only [Ys];rw [run_eqGuard_agg _ _ _ _ _ _ _ hg];simp only [Yh];rw [run_eql_struct,show (10000:Nat)=9999+1 from rfl,run_equalIn_agg w' 9999 319 _ _ hS hp];simp only [Program.fieldsOf,Tryz.underlying319];have u3:=Yy;have a3:=Xn;have z3:=Xk;simp only [A4]
 go_simp
 obtain ⟨a1,a2⟩:=a;obtain ⟨b1,b2⟩:=b;simp only [Prod.mk.injEq];by_cases h1:a1=b1
 ·
  by_cases h2:a2=b2
  ·
   subst h1 h2;simp
  have h3:¬ ((a2:Int)=b2):=by omega
  simp [h1,h2,h3]
 simp [h1]
theorem Qcb (a b:Tr):a=b ↔ a.1=b.1/\a.2=b.2:=by
 obtain ⟨a1,a2⟩:=a;obtain ⟨b1,b2⟩:=b;simp
def I3 (t:Tr):Prop:=-1099511627776<=t.1/\t.1<=1099511627776/\t.2<=1000000
theorem Qgk (a b:Tr) (ha:I3 a) (hb:I3 b) (w:World):Does Yd 234 #[.agg (A4 a).toArray,.agg (A4 b).toArray] w fun v w'=>Heap w [] w' []/\v=.int .i64 (Du a b):=by
 obtain ⟨ha1,ha2,ha3⟩:=ha;obtain ⟨hb1,hb2,hb3⟩:=hb;refine En [.agg (A4 a).toArray,.agg (A4 b).toArray] 23 Tryz.func234 ?_;refine VQ [2,3] fun K hK=>?_;refine Dl ?_;refine Qs ?_;have hH:=(Yx w).box 319 (A4 a);have e1:w.alloc (Yo (A4 a).toArray 319)=w.alloc (Yo (A4 a).toArray 319):=rfl;generalize w.alloc (Yo (A4 a).toArray 319)=w1 at *;generalize w.heap.size=ga at *;refine Dl ?_;refine Qs ?_;have hH2:=hH.box 319 (A4 b);generalize w1.alloc (Yo (A4 b).toArray 319)=w2 at *;generalize w1.heap.size=gb at *;clear hH e1;apply hK;clear hK;refine VQ [2,3,7] fun K hK=>?_;refine ⟨A4 a,⟨rfl,Bu (hH2.at 1 rfl)⟩,?_⟩;refine ⟨A4 b,⟨rfl,Bu (hH2.at 0 rfl)⟩,?_⟩;rw [Qmp];apply hK;clear hK;refine Vi (fun h=>?_) (fun h=>Ad ?_)
 ·
  simp only [decide_eq_true_eq] at h;subst h;refine VS [4] ?_;exact Ae (Al rfl rfl ⟨hH2.sub (by simp),by simp [Du]⟩)
 clear h;have c1:w2.cell? ⟨ga,0,none⟩=some (.int .i64 a.1):=Af (hH2.at 1 rfl) rfl;have c2:w2.cell? ⟨ga,1,none⟩=some (.int .i64 a.2):=Af (hH2.at 1 rfl) rfl;have c3:w2.cell? ⟨gb,0,none⟩=some (.int .i64 b.1):=Af (hH2.at 0 rfl) rfl;have c4:w2.cell? ⟨gb,1,none⟩=some (.int .i64 b.2):=Af (hH2.at 0 rfl) rfl;refine VQ [2,3,12] fun K hK=>?_;refine ⟨_,c1,_,c3,?_⟩;refine Qs ?_;apply hK;clear hK;refine Vi (fun h=>?_) (fun h=>Ad ?_)
 ·
  simp only [decide_eq_true_eq] at h;refine VQ [4] fun K hK=>?_;refine ⟨_,c1,_,c3,?_⟩;refine Qs ?_;refine ⟨Xz (by omega) (by omega),?_⟩;apply hK;clear hK;exact Ae (Al rfl rfl ⟨hH2.sub (by simp),by rw [Du,if_neg h]⟩)
 simp only [decide_eq_false_iff_not,Decidable.not_not] at h;refine VQ [4] fun K hK=>?_;refine ⟨_,c2,_,c4,?_⟩;refine Qs ?_;refine ⟨Xz (by omega) (by omega),?_⟩;apply hK;clear hK;exact Ae (Al rfl rfl ⟨hH2.sub (by simp),by rw [Du,if_pos h]⟩)
theorem Zj (l:List Tr):(F2 l).length=l.length * 2:=Zs Oh l
def E4:Tr->List Tr->Tr
 | m,[]=>m
 | m,t::l=>E4 (if Du t m < 0 then t else m) l
theorem Qkf:∀ (l:List Tr) (m t:Tr),E4 m (l++[t])=if Du t (E4 m l) < 0 then t else E4 m l
 | [],m,t=>rfl
 | x::l,m,t=>by rw [Y2,E4,Qkf l _ t,E4]
theorem Qin:∀ (l:List Tr) (m:Tr),E4 m l=m∨E4 m l∈l
 | [],m=>.inl rfl
 | x::l,m=>by
  rw [E4];rcases Qin l (if Du x m < 0 then x else m) with h | h
  ·
   rw [h];split
   ·
    simp
   simp
  simp [h]
theorem Qhg {a b c:Tr} (h1:¬ Du b a < 0) (h2:¬ Du c b < 0):¬ Du c a < 0:=by
 unfold Du at *;(repeat' split at *) <;> omega
theorem Qty:∀ (l:List Tr) (m:Tr),¬ Du m (E4 m l) < 0/\∀ t∈l,¬ Du t (E4 m l) < 0
 | [],m=>⟨by simp [E4,Du],by simp⟩
 | x::l,m=>by
  rw [E4];obtain ⟨h1,h2⟩:=Qty l (if Du x m < 0 then x else m);by_cases hx:Du x m < 0
  ·
   rw [if_pos hx] at h1 h2 ⊢;refine ⟨Qhg h1 (by unfold Du at hx ⊢;(repeat' split at *) <;> omega),fun t ht=>?_⟩;rcases Yz.1 ht with rfl | ht
   ·
    exact h1
   exact h2 t ht
  rw [if_neg hx] at h1 h2 ⊢;refine ⟨h1,fun t ht=>?_⟩;rcases Yz.1 ht with rfl | ht
  ·
   exact Qhg h1 hx
  exact h2 t ht
abbrev Wf:Value:=.func (.func 234) #[] #[]
def Dv (g cap:Nat) (l:List Tr):Res:=Yl 319 2 (some ⟨g,0,none⟩) l.length cap (F2 l)
theorem Qlv (t0:Tr) (l:List Tr) (hl:l.length<=1000000) (hok:∀ t∈t0::l,I3 t) (g cap:Nat) (w:World) (hL:(Dv g cap (t0::l)).holds w) :
  Does Yd 253 #[.slice (some ⟨g,0,none⟩) (t0::l).length cap,Wf] w fun v w'=>Heap w [] w' []/\v=.agg (A4 (E4 t0 l)).toArray:=by
 have hrs:RS w (some ⟨g,0,none⟩) (t0::l).length 2 (F2 (t0::l)):=As hL
 have hget:∀ (w':World) (i:Nat) (x:Tr),RS w' (some ⟨g,0,none⟩) (t0::l).length 2 (F2 (t0::l))->(t0::l)[i]? = some x->Reads w' ⟨g,i * 2,none⟩ (A4 x):=fun w' i x h hi=>by
  have:=Mw Oh h rfl hi
  rwa [Bv,Y5] at this
 refine En [.slice (some ⟨g,0,none⟩) (t0::l).length cap,Wf] 33 Tryz.func253 ?_;generalize hn:(t0::l).length=n at *;have hn1:l.length+1=n:=by rw [<- hn];simp
 refine VQ [0,1,4] fun K hK=>?_;refine Bo (.agg #[.int .i64 0,.int .i64 0]) (by kernel_rfl) ?_;refine Qs ?_;have hH:=(Yx w).box 319 [.int .i64 0,.int .i64 0];generalize w.alloc (Yo [Y8 .i64 0,.int .i64 0].toArray 319)=w1 at *;generalize w.heap.size=gr at *;apply hK;clear hK;refine VS [0,1,4,9] ?_;refine Do [0,1,4] (fun e w'=>Is e [(0,.slice (some ⟨g,0,none⟩) n cap),(1,Wf),(4,.pointer (some ⟨gr,0,none⟩))]/\Is w' w1) ?_ ?_
 ·
  refine Ai rfl rfl (fun h=>by simp at h;omega) (fun h=>Ad ?_);refine Ah ?_;refine Qs ?_;exact ⟨rfl,rfl⟩
 rintro e w' ⟨rfl,rfl⟩;have h0:=hget w' 0 t0 (hH.rs' hrs) rfl;refine VQ [0,1,4,5] fun K hK=>?_;refine ⟨by omega,A4 t0,⟨rfl,h0⟩,?_⟩;refine Bo (.agg #[.int .i64 0,.int .i64 0]) (by kernel_rfl) ?_;refine Qs ?_;have hH1:=hH.box 319 [.int .i64 0,.int .i64 0];generalize w'.alloc (Yo [Y8 .i64 0,.int .i64 0].toArray 319)=w2 at *;generalize w'.heap.size=gm at *;refine Ag ?_;refine Qs ?_;refine Ap hH1 0 (vs:=A4 t0) rfl rfl (by kernel_rfl) (by simp [A4]) (Lw _) fun w3 hH2=>?_;have hH2:Heap w [] w3 [Yg gm 319 (A4 t0),Yg gr 319 [.int .i64 0,.int .i64 0]]:=hH2;clear hH hH1 h0;apply hK;clear hK;refine VS [0,1,4,5,6] ?_;refine Aq ?_;refine Ay [0,1,4,5,6] (fun m e w'=>∃ (i:Nat),Is e [(0,.slice (some ⟨g,0,none⟩) n cap),(1,Wf),(4,.pointer (some ⟨gr,0,none⟩)),(5,.pointer (some ⟨gm,0,none⟩)),(6,.int .i64 (i+1:Nat))]/\Heap w [] w' [Yg gm 319 (A4 (E4 t0 (l.take i))),Yg gr 319 [.int .i64 0,.int .i64 0]]/\i+1<=n/\m=n - i) n ?_ ?_
 ·
  refine Qs ?_;exact ⟨0,rfl,hH2,by omega,rfl⟩
 clear hH2;rintro m e w4 ⟨i,rfl,hH,hi,rfl⟩;refine VS [0,1,4,5,6,17] ?_;refine VD (fun h=>?_) (fun h=>?_)
 ·
  have hil:i < l.length:=by omega
  have hgi:(t0::l)[i+1]? = some l[i]:=by simp [Yb hil]
  have hrd:=hget w4 (i+1) l[i] (hH.rs' hrs) hgi;have htk:l.take (i+1)=l.take i++[l[i]]:=by rw [Ut,Yb hil];rfl
  have hmn:=Qkf (l.take i) t0 l[i];rw [<- htk] at hmn;have hokx:I3 l[i]:=hok _ (by simp)
  have hokm:I3 (E4 t0 (l.take i)):=hok _ (by
   rcases Qin (l.take i) t0 with h | h
   ·
    rw [h];simp
   exact Gv _ (List.mem_of_mem_take h))
  generalize l[i]=x at *;generalize E4 t0 (l.take i)=mt at *;refine Ad ?_;refine VB ?_;refine VL [0,1,4,5,6,27] 6 fun K hK=>?_;refine ⟨⟨by omega,by omega⟩,A4 x,⟨rfl,hrd⟩,?_⟩;refine ⟨A4 mt,⟨rfl,Bu (hH.at 0 rfl)⟩,?_⟩;refine Er ?_;refine Qs ?_;refine FnK.mk Tryz.call234 (Qgk x mt hokx hokm w4) ?_;rintro v w5 ⟨hHc,rfl⟩;have hH2:=hH.call0 hHc;simp only [Yp] at hH2;refine Qs ?_;apply hK;clear hK;have hrd5:=hget w5 (i+1) x (hH2.rs' hrs) hgi;clear hH hHc;refine VD (fun h=>?_) (fun h=>?_)
  ·
   rw [if_pos h] at hmn;refine VQ [0,1,4,5,6] fun K hK=>?_;refine ⟨⟨by omega,by omega⟩,A4 x,⟨rfl,hrd5⟩,?_⟩;refine Ag ?_;refine Qs ?_;refine Ap hH2 0 (vs:=A4 x) rfl rfl (by kernel_rfl) (by simp [A4]) (Lw _) fun w6 hH3=>?_;have hH3:Heap w [] w6 [Yg gm 319 (A4 x),Yg gr 319 [.int .i64 0,.int .i64 0]]:=hH3;apply hK;clear hK;refine An ?_;refine VS [0,1,4,5,6] ?_;refine Ah ?_;refine Qs ?_;exact ⟨n - (i+1),by omega,i+1,rfl,by rw [hmn];exact hH3,by omega,rfl⟩
  rw [if_neg h] at hmn;refine Ad ?_;refine An ?_;refine VS [0,1,4,5,6] ?_;refine Ah ?_;refine Qs ?_;exact ⟨n - (i+1),by omega,i+1,rfl,by rw [hmn];exact hH2,by omega,rfl⟩
 refine Ax rfl ?_;rw [Yv (by omega)] at hH;refine VQ [4] fun K hK=>?_;refine ⟨A4 (E4 t0 l),⟨rfl,Bu (hH.at 0 rfl)⟩,?_⟩;refine Ag ?_;refine Qs ?_;refine Ap hH 1 (vs:=A4 (E4 t0 l)) rfl rfl (by kernel_rfl) (by simp [A4]) (Lw _) fun w6 hH3=>?_;have hH3:Heap w [] w6 [Yg gm 319 (A4 (E4 t0 l)),Yg gr 319 (A4 (E4 t0 l))]:=hH3;apply hK;clear hK;refine Ae (Np rfl rfl (Fm (hH3.at 1 rfl) (by kernel_rfl) (by kernel_rfl) rfl ?_));exact ⟨hH3.sub (by simp),rfl⟩
theorem Qn8 (x:Tr) (l:List Tr) (hl:l.length<=1000000) (hx:x∈l) (g cap:Nat) (w:World) (hL:(Dv g cap l).holds w) :
  Does Yd 254 #[.slice (some ⟨g,0,none⟩) l.length cap,.agg (A4 x).toArray] w fun v w'=>Heap w [] w' []/\∃ i:Nat,l[i]? = some x/\v=.int .i64 i:=by
 have hrs:RS w (some ⟨g,0,none⟩) l.length 2 (F2 l):=As hL
 have hget:∀ (w':World) (i:Nat) (y:Tr),RS w' (some ⟨g,0,none⟩) l.length 2 (F2 l)->l[i]? = some y->Reads w' ⟨g,i * 2,none⟩ (A4 y):=fun w' i y h hi=>by
  have:=Mw Oh h rfl hi
  rwa [Bv,Y5] at this
 refine En [.slice (some ⟨g,0,none⟩) l.length cap,.agg (A4 x).toArray] 19 Tryz.func254 ?_;generalize hn:l.length=n at *;refine VQ [0,3] fun K hK=>?_;refine Dl ?_;refine Qs ?_;have hH:=(Yx w).box 319 (A4 x);generalize w.alloc (Yo (A4 x).toArray 319)=w1 at *;generalize w.heap.size=gx at *;apply hK;clear hK;refine VS [0,3,7,8] ?_;refine Aq ?_;refine Ay [0,3,7,8] (fun m e w'=>∃ (i:Nat),Is e [(0,.slice (some ⟨g,0,none⟩) n cap),(3,.pointer (some ⟨gx,0,none⟩)),(7,.int .i64 n),(8,.int .i64 i)]/\Is w' w1/\i<=n/\x ∉ l.take i/\m=n - i) n ?_ ?_
 ·
  refine Qs ?_;exact ⟨0,rfl,rfl,by omega,by simp,rfl⟩
 rintro m e w' ⟨i,rfl,rfl,hi,hnot,rfl⟩;refine VS [0,3,7,8,9] ?_;(repeat refine Aw ?_);refine VD (fun h=>?_) (fun h=>?_)
 ·
  have hil:i < l.length:=by omega
  have hgi:l[i]? = some l[i]:=Yb hil;have hrd:=hget w' i l[i] (hH.rs' hrs) hgi;have htk:l.take (i+1)=l.take i++[l[i]]:=by rw [Ut,hgi];rfl
  generalize l[i]=y at *;refine Ad ?_;refine VB ?_;refine VS [0,3,5,7,8] ?_;refine Vq [0,3,5,7,8,16] fun K hK=>?_;refine ⟨A4 x,⟨rfl,Bu (hH.at 0 rfl)⟩,?_⟩;refine ⟨⟨by omega,by omega⟩,A4 y,⟨rfl,hrd⟩,?_⟩;rw [Qmp];apply hK;clear hK;refine VD (fun h=>?_) (fun h=>Ad ?_)
  ·
   subst h;refine VS [4] ?_;exact Ae (Al rfl rfl ⟨hH.sub (by simp),i,hgi,rfl⟩)
  refine An ?_;refine VS [0,3,7,8] ?_;refine Ah ?_;refine Qs ?_;refine ⟨n - (i+1),by omega,i+1,rfl,rfl,by omega,?_,rfl⟩;rw [htk,U3];rintro (h2 | h2)
  ·
   exact hnot h2
  simp at h2;exact h h2
 rw [Yv (by omega)] at hnot;exact absurd hx hnot
def F3 (ws ov:LN):List Tr:=((Ym ws.length).filter fun i=>ov.getD i 0 == 0).map fun i=>((ws.getD i 0:Nat),i)
theorem Qd6 {ws ov:LN}{t:Tr}:t∈F3 ws ov ↔ t.2 < ws.length/\ov.getD t.2 0=0/\t.1=(ws.getD t.2 0:Nat):=by
 unfold F3;rw [Xw];constructor
 ·
  rintro ⟨i,hi,rfl⟩;rw [U4,Gw,beq_iff_eq] at hi;exact ⟨hi.1,hi.2,rfl⟩
 rintro ⟨h1,h2,h3⟩;refine ⟨t.2,?_,?_⟩
 ·
  rw [U4,Gw,beq_iff_eq];exact ⟨h1,h2⟩
 rw [Qcb];exact ⟨h3.symm,rfl⟩
theorem Qe3 {ws ov:LN}{t:Tr} (ht:t∈F3 ws ov) (hm:∀ x∈F3 ws ov,¬ Du x t < 0):IsLeast ws ov t.2/\t.1=(ws.getD t.2 0:Nat):=by
 obtain ⟨h1,h2,h3⟩:=Qd6.1 ht;refine ⟨⟨h1,h2,fun i hi hf=>?_⟩,h3⟩;have:=hm (((ws.getD i 0:Nat):Int),i) (Qd6.2 ⟨hi,hf,rfl⟩);unfold Du at this;simp only at this;split at this <;> omega
theorem Qlw {p q:Nat->Bool}{a n:Nat} (ha:a < n) (hpa:p a=true) (hqa:q a=false) (h:∀ i,i≠a->q i=p i):((Ym n).filter p).Perm (a::(Ym n).filter q):=by
 induction n with
 | zero=>omega
 | succ n ih =>
  rw [Xu,Xi,Xi];by_cases e:a=n
  ·
   subst e
   have e1:(Ym a).filter p=(Ym a).filter q:=Hn fun i hi=>by
    have:i < a:=by simpa using hi
    exact (h i (by omega)).symm
   rw [Ur hpa,Gl (by simp [hqa]),Gr,Gr,Yi,e1];exact Ue _ _
  have e1:[n].filter p=[n].filter q:=by
   have:=h n (fun x=>e x.symm);cases hp:p n <;> simp [hp,this]
  rw [e1,<- Y2];exact (ih (by omega)).append_right _
theorem Qkg {ws ov:LN}{a v:Nat} (ha:a < ws.length) (hl:ov.length=ws.length) (h0:ov.getD a 0=0) (hv:v≠0):(F3 ws ov).Perm (((ws.getD a 0:Nat),a)::F3 ws (ov.set a v)):=by
 unfold F3;have:=Qlw (p:=fun i=>ov.getD i 0 == 0) (q:=fun i=>(ov.set a v).getD i 0 == 0) ha (by simp only [beq_iff_eq];exact h0) (by rw [Pd (by omega)];simp [hv]) (fun i hi=>by rw [Pc (fun x=>hi x.symm)]);have h2:=this.map fun i=>(((ws.getD i 0:Nat):Int),i);rw [List.map_cons] at h2;exact h2
theorem Qrj {ws ov:LN} (x:Nat) (hl:ov.length=ws.length):F3 (ws++[x]) (ov++[0])=F3 ws ov++[(((x:Nat):Int),ws.length)]:=by
 unfold F3;rw [Ye,Yj,Xu,Xi,Xe]
 congr 1
 ·
  have e:(Ym ws.length).filter (fun i=>(ov++[0]).getD i 0 == 0)=(Ym ws.length).filter fun i=>ov.getD i 0 == 0:=Hn fun i hi=>by
   rw [Qj (by rw [hl];simpa using hi)]
  rw [e];refine U6 fun i hi=>?_;rw [U4,Gw] at hi;rw [Qj hi.1]
 have e1:(ov++[0]).getD ws.length 0=0:=by rw [<- hl];exact Vn
 rw [Ur (by rw [beq_iff_eq];exact e1),Gr,List.map_cons,List.map_nil,Vn]
theorem Qvt (ws ov:LN):(F3 ws ov).length=Bc (fun i=>if ov.getD i 0=0 then 1 else 0) ws.length:=by
 unfold F3;rw [U5];generalize ws.length=n
 induction n with
 | zero=>rfl
 | succ n ih =>
  rw [Xu,Xi,Ye,ih,Bc];by_cases h:ov.getD n 0=0
  ·
   rw [Ur (by rw [beq_iff_eq];exact h),if_pos h];rfl
  rw [Gl (by rw [beq_iff_eq];exact h),if_neg h];rfl
theorem Qn9 (w:LN):F3 w (Ya w.length 0)=(Ym w.length).map fun i=>(((w.getD i 0:Nat):Int),i):=by
 unfold F3;rw [List.filter_eq_self.2 fun i hi=>by rw [R6];rfl]
theorem Qzf {α:Type} (l:List α) (i:Nat) (x z:α) (hx:l[i]? = some x) (hz:l[l.length - 1]? = some z):l.Perm (x::(l.set i z).take (l.length - 1)):=by
 have hi:=(Yn.1 hx).1;have hxe:l[i]=x:=(Yn.1 hx).2
 have h1:l=l.take (l.length - 1)++[z]:=by
  have h2:l.drop (l.length - 1)=[z]:=by
   have h3:=(Yn.1 hz);rw [Y4 h3.1,h3.2,Y3 (by omega)]
  rw [<- h2,Xt]
 rw [List.take_set];generalize hin:l.take (l.length - 1)=t at *;have htl:t.length=l.length - 1:=by rw [<- hin,X0];omega
 by_cases e:i=l.length - 1
 ·
  have:x=z:=by rw [e,hz] at hx;exact (Option.some.inj hx).symm
  subst this;rw [List.set_eq_of_length_le (by omega),h1];exact Ue _ _
 have hit:i < t.length:=by omega
 have hti:t[i]? = some x:=by
  rw [<- hin,List.getElem?_take,if_pos (by omega)];exact hx
 have ht:t=t.take i++x::t.drop (i+1):=by
  have h4:=Yn.1 hti;have h5:=Y4 h4.1;rw [h4.2] at h5;rw [<- h5,Xt]
 rw [List.set_eq_take_append_cons_drop,if_pos hit];generalize t.take i=a at *;generalize t.drop (i+1)=b at *;rw [h1,ht,Yq];have p1:(a++(x::b++[z])).Perm (x::(a++(b++[z]))):=by simp
 refine p1.trans (List.Perm.cons x ?_);exact (X7 (l₁:=b) (l₂:=[z])).append_left a
def L8 (gT g cap:Nat) (l:List Tr):Res:=Yg gT 317 [.slice (some ⟨g,0,none⟩) l.length cap]
theorem Qhh (trees:List Tr) (hl:trees.length<=1000000) (hne:0 < trees.length) (hok:∀ t∈trees,I3 t) (gT g cap:Nat) (w0 w:World) (B:LN) (G:List Res) (hL:Heap w0 B w (Dv g cap trees::L8 gT g cap trees::G)) :
  Does Yd 252 #[.pointer (some ⟨gT,0,none⟩)] w fun v w'=>∃ (t:Tr) (trees':List Tr),trees.Perm (t::trees')/\(∀ x∈trees,¬ Du x t < 0)/\Heap w0 B w' (Dv g cap trees'::L8 gT g cap trees'::G)/\v=.agg (A4 t).toArray:=by
 obtain ⟨t0,l0,rfl⟩:∃ t0 l0,trees=t0::l0:=by
  cases trees with
  | nil=>simp at hne
  | cons t l=>exact ⟨t,l,rfl⟩
 have hmin:=Qty l0 t0
 have hmem:E4 t0 l0∈t0::l0:=by
  rcases Qin l0 t0 with h | h
  ·
   rw [h];simp
  exact Gv _ h
 have hall:∀ x∈t0::l0,¬ Du x (E4 t0 l0) < 0:=fun x hx=>by
  rcases Yz.1 hx with rfl | hx
  ·
   exact hmin.1
  exact hmin.2 x hx
 clear hmin;refine En [.pointer (some ⟨gT,0,none⟩)] 24 Tryz.func252 ?_;refine VQ [0,1] fun K hK=>?_;refine Bo (.agg #[.int .i64 0,.int .i64 0]) (by kernel_rfl) ?_;refine Qs ?_;have hH:=hL.box 319 [.int .i64 0,.int .i64 0];generalize w.alloc (Yo [Y8 .i64 0,.int .i64 0].toArray 319)=w1 at *;generalize w.heap.size=gr at *;clear hL;apply hK;clear hK;refine VQ [0,1,2] fun K hK=>?_;refine ⟨_,Af (hH.at 2 rfl) rfl,?_⟩;refine Aa Tryz.call253 ?_;refine Qs ?_;refine Yk (Qlv t0 l0 (by simp at hl;omega) hok g cap w1 (hH.at 1 rfl)) ?_;rintro v w2 ⟨hHm,rfl⟩;have hH2:=hH.call0 hHm;simp only [Yp] at hH2;clear hH hHm;generalize E4 t0 l0=t at *;generalize hT:t0::l0=trees at *;refine Bo (.agg #[.int .i64 0,.int .i64 0]) (by kernel_rfl) ?_;refine Qs ?_;have hH3:=hH2.box 319 [.int .i64 0,.int .i64 0];generalize w2.alloc (Yo [Y8 .i64 0,.int .i64 0].toArray 319)=w3 at *;generalize w2.heap.size=gt at *;refine Ag ?_;refine Qs ?_;refine Ap hH3 0 (vs:=A4 t) rfl rfl (by kernel_rfl) (by simp [A4]) (Lw _) fun w4 hH4=>?_;have hH4:Heap w0 B w4 (Yg gt 319 (A4 t)::Yg gr 319 [.int .i64 0,.int .i64 0]::Dv g cap trees::L8 gT g cap trees::G):=hH4;clear hH2 hH3;apply hK;clear hK;refine VQ [0,1,2,3] fun K hK=>?_;refine ⟨_,Af (hH4.at 3 rfl) rfl,?_⟩;refine ⟨A4 t,⟨rfl,Bu (hH4.at 0 rfl)⟩,?_⟩;refine Aa Tryz.call254 ?_;refine Qs ?_;refine Yk (Qn8 t trees hl hmem g cap w4 (hH4.at 2 rfl)) ?_;rintro v w5 ⟨hHi,i,hi,rfl⟩;have hH5:=hH4.call0 hHi;simp only [Yp] at hH5;clear hH4 hHi;apply hK;clear hK;have hil:i < trees.length:=(Yn.1 hi).1;have hlast:trees[trees.length - 1]? = some trees[trees.length - 1]:=Yb (by omega);have hout:=Qzf trees i t _ hi hlast;generalize trees[trees.length - 1]=z at *;have hrs:=As (hH5.at 2 rfl);have hrd:=Mw Oh hrs rfl hlast;rw [Bv,Y5] at hrd;obtain ⟨hx1,hx2,hx3,hx4⟩:=hH5.at 2 rfl;clear hx1 hx4;refine VL [0,1,2] 9 fun K hK=>?_;refine ⟨_,Af (hH5.at 3 rfl) rfl,_,Af (hH5.at 3 rfl) rfl,_,Af (hH5.at 3 rfl) rfl,?_⟩;refine Qs ?_;refine ⟨Xz (by omega) (by omega),⟨by omega,by omega⟩,?_⟩;refine ⟨A4 z,⟨rfl,hrd⟩,?_⟩;refine Qp ?_;refine Ag ?_;refine Qs ?_;refine Dp hH5 2 (o:=i * 2) (vs:=A4 z) rfl (by rw [Bv,Y5]) rfl (by kernel_rfl) (by rw [Zj];simp [A4];omega) (Lw z) fun w6 hH6=>?_;have e6:=Qj2 Oh trees i z hil;simp only [Yt,Yc] at hH6;rw [Oh] at hH6
 have hH7:Heap w0 B w6 (Yg gt 319 (A4 t)::Yg gr 319 [.int .i64 0,.int .i64 0]::Dv g cap (trees.set i z)::L8 gT g cap trees::G):=by
  have e7:Dv g cap (trees.set i z)=Yl 319 2 (some ⟨g,0,none⟩) trees.length cap ((F2 trees).take (i * 2)++A4 z++(F2 trees).drop (i * 2+2)):=by
   rw [Dv,Um];exact congrArg _ e6.symm
  rw [e7];exact hH6
 clear hH6 hH5 e6 hrd hrs;have hlen2:((trees.set i z).take (trees.length - 1)).length=trees.length - 1:=by rw [X0,Um];omega
 have hsh:(Dv g cap (trees.set i z)).holds w6->(Dv g cap ((trees.set i z).take (trees.length - 1))).holds w6:=fun h=>by
  have h1:=Qq6 (m:=trees.length - 1) h (by rw [Um];omega);have h2:=Qg0 Oh (trees.set i z) (trees.length - 1);rw [show F2 (trees.set i z)=Bw A4 (trees.set i z) from rfl,h2] at h1;rw [Dv,hlen2];exact h1
 have hH8:=hH7.view 2 rfl hsh (fun b hb=>hb);simp only [Yt,Yc] at hH8;clear hH7 hsh;generalize (trees.set i z).take (trees.length - 1)=trees' at *;apply hK;clear hK;refine VQ [1,2] fun K hK=>?_;refine ⟨_,Af (hH8.at 3 rfl) rfl,_,Af (hH8.at 3 rfl) rfl,?_⟩;refine Qs ?_;refine ⟨Xz (by omega) (by omega),⟨by omega,by omega⟩,?_⟩;refine Ag ?_;refine Qs ?_;refine Ap hH8 3 (vs:=[.slice (some ⟨g,0,none⟩) trees'.length cap]) rfl (by rw [hlen2];rfl) (by kernel_rfl) (by simp) (by simp [Yr]) fun w7 hH9=>?_;have hH9:Heap w0 B w7 (Yg gt 319 (A4 t)::Yg gr 319 [.int .i64 0,.int .i64 0]::Dv g cap trees'::L8 gT g cap trees'::G):=hH9;apply hK;clear hK;refine VQ [1] fun K hK=>?_;refine ⟨A4 t,⟨rfl,Bu (hH9.at 0 rfl)⟩,?_⟩;refine Ag ?_;refine Qs ?_;refine Ap hH9 1 (vs:=A4 t) rfl rfl (by kernel_rfl) (by simp [A4]) (Lw _) fun w8 hH10=>?_;have hH10:Heap w0 B w8 (Yg gt 319 (A4 t)::Yg gr 319 (A4 t)::Dv g cap trees'::L8 gT g cap trees'::G):=hH10;apply hK;clear hK;refine Ae (Np rfl rfl (Fm (hH10.at 1 rfl) (by kernel_rfl) (by kernel_rfl) rfl ?_));exact ⟨t,trees',hout,hall,hH10.sub ((Yw _ _).trans (Yw _ _)),rfl⟩
theorem Lu (n:Nat):Ak (Ya n 0)=Ya n (.int .i64 0):=by simp [Ak]
theorem Qtz {n:Nat} (h:0 < n):Ya n (0:Nat)=[0]++Ya (n - 1) 0:=by
 obtain ⟨m,rfl⟩:∃ m,n=m+1:=⟨n - 1,by omega⟩;rfl
abbrev QK5 (gT:Nat):Value:=.func (.func 252) #[] #[.pointer (some ⟨gT,0,none⟩)]
theorem Qrk (l:LN) (hl:2<=l.length) (hl2:l.length<=258) (hx:∀ x∈l,1<=x/\x<=2147483648) (pa:OA) (lc:Nat) (w:World) (hr:RS w pa l.length 1 (Ak l)) :
  Does Yd 231 #[.slice pa l.length lc] w fun v w'=>∃ a cap,Heap w [] w' [Yl 3 1 a (Ix l).length cap (Ak (Ix l))]/\v=.slice a (Ix l).length cap:=by
 obtain ⟨p,rfl⟩:=Ek hr (by omega);have hget:∀ i,i < l.length->1<=l.getD i 0/\l.getD i 0<=2147483648:=fun i hi=>hx _ (Ez 0 hi)
 have htot:Bc (fun i=>l.getD i 0) l.length<=1099511627776:=by
  have:=Qig (fun i=>l.getD i 0) 2147483648 l.length fun i hi=>(hget i hi).2;omega
 refine En [.slice (some p) l.length lc] 90 Tryz.func231 ?_;generalize hn:l.length=n at *;refine VS [0] ?_;refine VQ [0,3] fun K hK=>?_;refine Bo (.slice none 0 0) (by kernel_rfl) ?_;refine Qs ?_;have hH0:=((Yx w).box 317 [.slice none 0 0]).nilRow 319 2;generalize w.alloc (Yo [Gx none 0 0].toArray 317)=w1 at *;generalize w.heap.size=gT at *;apply hK;clear hK;refine VS [0,3,14,15,16] ?_;refine Aq ?_;refine Ay [0,3,14,15,16] (fun m e w'=>∃ (i cap:Nat) (a:OA),Is e [(0,.slice (some p) n lc),(3,.pointer (some ⟨gT,0,none⟩)),(14,.slice (some p) n lc),(15,.int .i64 n),(16,.int .i64 i)]/\Heap w [] w' [Yl 319 2 a i cap (F2 ((Ym i).map fun i=>(((l.getD i 0:Nat):Int),i))),Yg gT 317 [.slice a i cap]]/\i<=n/\m=n - i) n ?_ ?_
 ·
  refine Qs ?_;exact ⟨0,0,none,rfl,hH0,by omega,rfl⟩
 clear hH0;rintro m e w2 ⟨i,cap,a,rfl,hH,hi,rfl⟩;refine VS [0,3,14,15,16,17] ?_;(repeat refine Aw ?_);refine VD (fun h=>?_) (fun h=>?_)
 ·
  have hcell:=El (hH.rs' hr) (i:=i) (by omega);have hsn:(Ym (i+1)).map (fun i=>(((l.getD i 0:Nat):Int),i))=(Ym i).map (fun i=>(((l.getD i 0:Nat):Int),i))++[(((l.getD i 0:Nat):Int),i)]:=by rw [Xu,Xe];rfl
  have hml:((Ym i).map (fun i=>(((l.getD i 0:Nat):Int),i))).length=i:=by simp
  generalize hL1:(Ym i).map (fun i=>(((l.getD i 0:Nat):Int),i))=L at *;generalize hxx:l.getD i 0=x at *;refine Ad ?_;refine VB ?_;refine VQ [0,3,4,5,14,15,16] fun K hK=>?_;refine ⟨⟨by omega,by omega⟩,_,hcell,?_⟩;apply hK;clear hK;refine VQ [0,3,14,15,16] fun K hK=>?_;refine ⟨_,Af (hH.at 1 rfl) rfl,?_⟩;refine C2 hH 2 (A4 ((x:Int),i)) (xs:=[.tmp 24]) Xp QA2 rfl rfl rfl (by omega) (by omega) ?_;refine Qs ?_;refine ⟨rfl,by simp [Uf],fun g w4 hH2=>?_⟩;refine Ce ?_;refine Qs ?_;refine C3 (zs:=#[.int .i64 0,.int .i64 0]) (bytes:=16) hH2 1 rfl Xp (by kernel_rfl) rfl ⟨rfl,As (hH2.at 0 rfl),319,Xp⟩ (Lw _) (fun h=>by omega) fun a' cap' w5 hc' hH3=>?_;simp only [Yt,Yc] at hH3;refine Ag ?_;refine Qs ?_;refine Ap hH3 2 (vs:=[.slice a' (i+1) cap']) rfl rfl (by kernel_rfl) (by simp) (by simp [Yr]) fun w6 hH4=>?_
  have hH5:Heap w [] w6 [Yl 319 2 a' (i+1) cap' (F2 (L++[((x:Int),i)])),Yg gT 317 [.slice a' (i+1) cap']]:=by
   rw [F2,R9,Vj];exact (hH4.sub (Yw _ _))
  apply hK;clear hK;refine An ?_;refine VS [0,3,14,15,16] ?_;refine Ah ?_;refine Qs ?_;exact ⟨n - (i+1),by omega,i+1,cap',a',rfl,by rw [hsn];exact hH5,by omega,rfl⟩
 obtain rfl:i=n:=by omega
 obtain ⟨g,rfl⟩:=Cw (hH.at 0 rfl) (by omega);have hroots:=Qn9 l;rw [hn] at hroots;rw [<- hroots] at hH;have hrl:(F3 l (Ya i 0)).length=i:=by rw [hroots];simp
 clear hroots;generalize hT0:F3 l (Ya i 0)=T0 at *
 have hH1:Heap w [] w2 [Dv g cap T0,L8 gT g cap T0]:=by
  unfold Dv L8;rw [hrl];exact hH
 clear hH;refine Ax rfl ?_;generalize i=n at *;refine VQ [0,3,6] fun K hK=>?_;refine ⟨Xz (by omega) (by omega),?_⟩;refine Ew Y7 Ib ?_;refine Qs ?_;refine ⟨2 * n,2 * n,⟨by push_cast;rfl,by push_cast;rfl,by omega,by omega,by omega⟩,?_⟩;have hH2:=hH1.row 3 (n:=2 * n) (cap:=2 * n) (sz:=1) (Ak (Ya (2 * n) 0)) [] (by simp [Bh]) (by simp [Bh]) (by omega) (by omega);rw [Yi,Lu] at hH2;generalize w2.alloc (Yo (Ya (2 * n) (Y8 Uq 0)).toArray 3)=w3 at *;generalize w2.heap.size=go at *;rw [<- Lu] at hH2;clear hH1;apply hK;clear hK;refine VS [0,3,6,7] ?_;refine VS [0,3,6,7,8] ?_;refine VB ?_;refine Ay [0,3,6,7,8] (fun m e w'=>∃ (k cap g:Nat) (ws ov:LN) (hh:Nat->Nat) (T:List Tr),Is e [(0,.slice (some p) n lc),(3,.pointer (some ⟨gT,0,none⟩)),(6,.slice (some ⟨go,0,none⟩) (2 * n) (2 * n)),(7,.int .i64 (n+k:Nat)),(8,QK5 gT)]/\Heap w [] w' [Dv g cap T,L8 gT g cap T,Yl 3 1 (some ⟨go,0,none⟩) (2 * n) (2 * n) (Ak (ov++Ya (n - k) 0))]/\Oz k (l,Ya n 0)=(ws,ov)/\Grown l k ws ov hh/\T.Perm (F3 ws ov)/\k+1<=n/\m=n - k) n ?_ ?_
 ·
  refine Qs ?_;have hg:=Grown.start l (by omega) (fun i hi=>(hget i (by omega)).1);rw [hn] at hg;refine ⟨0,cap,g,l,Ya n 0,_,T0,rfl,?_,rfl,hg,by rw [hT0],by omega,rfl⟩;have e:Ya n 0++Ya (n - 0) 0=Ya (2 * n) (0:Nat):=by rw [List.replicate_append_replicate];congr 1;omega
  rw [e];exact hH2.perm ((X7 (l₁:=[_])))
 clear hH2 hT0 hrl;rintro m e w4 ⟨k,cap,g,ws,ov,hh,T,rfl,hH,hgr,hg,hp,hk,rfl⟩
 have hTl:T.length+k=n:=by
  have h1:=hg.roots;rw [hp.length_eq,Qvt,hg.lws,hn];rw [hn] at h1;exact h1
 have hTok:∀ t∈T,I3 t:=fun t ht=>by
  obtain ⟨h1,h2,h3⟩:=Qd6.1 (hp.mem_iff.1 ht);have h4:=Z5 (fun i=>if ov.getD i 0=0 then ws.getD i 0 else 0) (l.length+k) t.2 (by have:=hg.lws;omega);simp only [if_pos h2] at h4;rw [hg.weight,hn] at h4;have:=hg.lws;unfold I3;omega
 refine VQ [0,3,6,7,8,37] fun K hK=>?_;refine ⟨_,Af (hH.at 1 rfl) rfl,?_⟩;refine Qs ?_;apply hK;clear hK;refine VD (fun h=>?_) (fun h=>?_)
 ·
  have hk2:k+1 < n:=by omega
  have hpick:=hg.pick (by omega);obtain ⟨hla,hlb,hne,hbf⟩:=hpick;have hlw:=hg.lws;have hlo:=hg.lov;rw [hn] at hlw hlo;refine Ad ?_;refine Aq ?_;refine VQ [0,3,6,7,8,9,10] fun K hK=>?_;refine Er ?_;refine Qs ?_;refine FnK.mk Tryz.call252 (Qhh T (by omega) (by omega) hTok gT g cap w w4 [] _ hH) ?_;rintro v w5 ⟨ta,Ta,hpa,hma,hH2,rfl⟩;have hta:=Qe3 (hp.mem_iff.1 (hpa.mem_iff.2 (by simp))) (fun x hx'=>hma x (hp.mem_iff.2 hx'));have hta2:ta.2=E8 ws ov:=hta.1.unique hla;have htaE:ta=(((ws.getD (E8 ws ov) 0:Nat):Int),E8 ws ov):=(Qcb _ _).2 ⟨by rw [hta.2,hta2],hta2⟩;have hTaok:∀ t∈Ta,I3 t:=fun t ht=>hTok t (hpa.mem_iff.2 (by simp [ht]));have hTal:Ta.length+1=T.length:=by have:=hpa.length_eq;simp at this;omega
  have hcut:=Qkg (v:=ws.length) hla.lt (by omega) hla.free (by omega);rw [<- htaE] at hcut;have hpTa:Ta.Perm (F3 ws (ov.set (E8 ws ov) ws.length)):=((hpa.symm.trans hp).trans hcut).cons_inv;clear hH;refine Er ?_;refine Qs ?_;refine FnK.mk Tryz.call252 (Qhh Ta (by omega) (by omega) hTaok gT g cap w w5 [] _ hH2) ?_;rintro v w6 ⟨tb,Tb,hpb,hmb,hH3,rfl⟩;have htb:=Qe3 (hpTa.mem_iff.1 (hpb.mem_iff.2 (by simp))) (fun x hx'=>hmb x (hpTa.mem_iff.2 hx'));have htb2:tb.2=E8 ws (ov.set (E8 ws ov) ws.length):=htb.1.unique hlb;have htbE:tb=(((ws.getD tb.2 0:Nat):Int),tb.2):=(Qcb _ _).2 ⟨htb.2,rfl⟩;rw [<- htb2] at hlb hne hbf;have hTbok:∀ t∈Tb,I3 t:=fun t ht=>hTaok t (hpb.mem_iff.2 (by simp [ht]));have hTbl:Tb.length+1=Ta.length:=by have:=hpb.length_eq;simp at this;omega
  rw [<- hta2] at hla hlb hne hpTa;have hl1:(ov.set ta.2 ws.length).length=ws.length:=by simp;omega
  have hcut2:=Qkg (v:=ws.length) hlb.lt hl1 hlb.free (by omega);rw [<- htbE] at hcut2;have hpTb:Tb.Perm (F3 ws ((ov.set ta.2 ws.length).set tb.2 ws.length)):=((hpb.symm.trans hpTa).trans hcut2).cons_inv;have hoka:=hTok ta (hpa.mem_iff.2 (by simp));have hokb:=hTaok tb (hpb.mem_iff.2 (by simp))
  have hstep:Oz (k+1) (l,Ya n 0)=(ws++[ws.getD ta.2 0+ws.getD tb.2 0],(ov.set ta.2 ws.length).set tb.2 ws.length++[0]):=by
   rw [Oz,hgr,Q2];simp only;rw [<- htb2,<- hta2]
  obtain ⟨h',hg'⟩:=hg.step (by omega)
  have hgs:Q2 (ws,ov)=(ws++[ws.getD ta.2 0+ws.getD tb.2 0],(ov.set ta.2 ws.length).set tb.2 ws.length++[0]):=by
   rw [Q2];simp only;rw [<- htb2,<- hta2]
  rw [hgs] at hg';simp only at hg';have ha1:=hla.lt;have hb1:=hlb.lt;have hwa:=hta.2;have hwb:=htb.2;clear hH2 hgs hcut hcut2 hta htb htaE htbE hma hmb;generalize hA:ta.2=A at *;generalize hB:tb.2=Bn at *;refine Bo (.agg #[.int .i64 0,.int .i64 0]) (by kernel_rfl) ?_;refine Qs ?_;have hH4:=hH3.box 319 [.int .i64 0,.int .i64 0];generalize w6.alloc (Yo [Y8 .i64 0,.int .i64 0].toArray 319)=w7 at *;generalize w6.heap.size=ga at *;refine Bo (.agg #[.int .i64 0,.int .i64 0]) (by kernel_rfl) ?_;refine Qs ?_;have hH5:=hH4.box 319 [.int .i64 0,.int .i64 0];generalize w7.alloc (Yo [Y8 .i64 0,.int .i64 0].toArray 319)=w8 at *;generalize w7.heap.size=gb at *;refine Ag ?_;refine Qs ?_;refine Ap hH5 1 (vs:=A4 ta) rfl rfl (by kernel_rfl) (by simp [A4]) (Lw _) fun w9 hH6=>?_;refine Ag ?_;refine Qs ?_;refine Ap hH6 0 (vs:=A4 tb) rfl rfl (by kernel_rfl) (by simp [A4]) (Lw _) fun w10 hH7=>?_;have hH7:Heap w [] w10 [Yg gb 319 (A4 tb),Yg ga 319 (A4 ta),Dv g cap Tb,L8 gT g cap Tb,Yl 3 1 (some ⟨go,0,none⟩) (2 * n) (2 * n) (Ak (ov++Ya (n - k) 0))]:=hH7;clear hH3 hH4 hH5 hH6;apply hK;clear hK;have ca1:(A4 ta)[1]? = some (.int .i64 (A:Nat)):=by rw [<- hA];rfl
  have cb1:(A4 tb)[1]? = some (.int .i64 (Bn:Nat)):=by rw [<- hB];rfl
  have hol:(ov++Ya (n - k) 0).length=2 * n:=by simp;omega
  have hF:=hH7.focus 4 rfl;have hla1:=hH7.hole_at 4 1 rfl rfl (by omega) ca1;have hlb1:=hH7.hole_at 4 0 rfl rfl (by omega) cb1;refine VH (holes [go] w10) (Ext.hole _ _) [0,3,6,7,8,9,10] [(0,true),(1,true),(2,true),(3,true),(4,true),(5,true),(6,true),(7,true),(8,true),(9,false),(10,true),(11,false)] fun K hK=>?_;refine ⟨_,hla1,_,hlb1,?_⟩;refine Qs ?_;refine Qp ?_;refine Ag ?_;refine Qs ?_;refine Dp hF 0 (o:=(A)) (vs:=[.int .i64 (n+k:Nat)]) rfl (by first | exact (Bv _ _ _).symm | rfl | simp [Bv]) rfl (by kernel_rfl) (by first | omega | (simp;done) | (simp;omega) | (simp [Ao,Br];omega) | (rw [Bh];simp;omega)) (by simp [Yr]) fun w6 hH8=>?_;(try refine Qs ?_);simp only [Yj,Dm (Ak (ov++Ya (n - k) 0)) _ _ (show A < (Ak (ov++Ya (n - k) 0)).length by rw [Bh,hol];omega),Ip,Yc,Yt] at hH8;refine ⟨hH8.upd.extH,⟨by omega,by omega⟩,?_⟩;refine Ag ?_;refine Qs ?_;refine Dp hH8 0 (o:=(Bn)) (vs:=[.int .i64 (n+k:Nat)]) rfl (by first | exact (Bv _ _ _).symm | rfl | simp [Bv]) rfl (by kernel_rfl) (by first | omega | (simp;done) | (simp;omega) | (simp [Ao,Br];omega) | (rw [Bh];simp;omega)) (by simp [Yr]) fun w6 hH9=>?_;(try refine Qs ?_);simp only [Yj,Dm (Ak ((ov++Ya (n - k) 0).set A (n+k))) _ _ (show Bn < (Ak ((ov++Ya (n - k) 0).set A (n+k))).length by rw [Bh,Um,hol];omega),Ip,Yc,Yt] at hH9;refine ⟨hH9.upd.extH,?_⟩;apply hK;clear hK;have hH9:=hH7.call1 4 rfl hH9;simp only [Yc,Yt,Yp] at hH9;clear hF hla1 hlb1
  have hrow:((ov++Ya (n - k) 0).set A (n+k)).set Bn (n+k)=((ov.set A ws.length).set Bn ws.length++[0])++Ya (n - (k+1)) 0:=by
   rw [Gy _ _ (by omega),Gy _ _ (by rw [Um];omega),hlw,Qtz (show 0 < n - k by omega),Yq,show n - k - 1=n - (k+1) by omega]
  rw [hrow] at hH9;have hH10:Heap w [] w6 [Yg gb 319 (A4 tb),Yg ga 319 (A4 ta),Dv g cap Tb,L8 gT g cap Tb,Yl 3 1 (some ⟨go,0,none⟩) (2 * n) (2 * n) (Ak (((ov.set A ws.length).set Bn ws.length++[0])++Ya (n - (k+1)) 0))]:=hH9;have hso:=Qrj (ws:=ws) (ov:=(ov.set A ws.length).set Bn ws.length) (ws.getD A 0+ws.getD Bn 0) (by simp;omega);clear hH7 hH8 hH9 hrow hol ca1 cb1;generalize (ov.set A ws.length).set Bn ws.length++[0]=ov' at *;generalize hwx:ws.getD A 0+ws.getD Bn 0=wx at *
  have hpf:(Tb++[(((wx:Nat):Int),n+k)]).Perm (F3 (ws++[wx]) ov'):=by
   rw [hso,hlw];rw [hlw] at hpTb;exact hpTb.append_right _
  clear hso hpTb;have hoka':=hoka;have hokb':=hokb;unfold I3 at hoka' hokb';have hsum:ta.1+tb.1=((wx:Nat):Int):=by rw [hwa,hwb,<- hwx];push_cast;rfl
  have ca0:(A4 ta)[0]? = some (.int .i64 ta.1):=rfl;have cb0:(A4 tb)[0]? = some (.int .i64 tb.1):=rfl;refine VQ [0,3,6,7,8] fun K hK=>?_;refine ⟨_,Af (hH10.at 3 rfl) rfl,_,Af (hH10.at 1 rfl) ca0,_,Af (hH10.at 0 rfl) cb0,?_⟩;refine Qs ?_;refine ⟨Xz (by omega) (by omega),?_⟩;rw [hsum];refine C2 hH10 2 (A4 ((wx:Int),n+k)) (xs:=[.tmp 59]) Xp QA2 rfl rfl rfl (by omega) (by omega) ?_;refine Qs ?_;refine ⟨rfl,by simp [Uf],fun g2 w11 hH11=>?_⟩;refine Ce ?_;refine Qs ?_;refine C3 (zs:=#[.int .i64 0,.int .i64 0]) (bytes:=16) hH11 3 rfl Xp (by kernel_rfl) rfl ⟨rfl,As (hH11.at 0 rfl),319,Xp⟩ (Lw _) (fun h=>by omega) fun a' cap' w12 hc' hH12=>?_;simp only [Yt,Yc] at hH12;obtain ⟨g',rfl⟩:=Cw (hH12.at 3 rfl) (by omega);refine Ag ?_;refine Qs ?_;refine Ap hH12 4 (vs:=[.slice (some ⟨g',0,none⟩) (Tb.length+1) cap']) rfl rfl (by kernel_rfl) (by simp) (by simp [Yr]) fun w13 hH13=>?_
  have hH14:Heap w [] w13 [Dv g' cap' (Tb++[((wx:Int),n+k)]),L8 gT g' cap' (Tb++[((wx:Int),n+k)]),Yl 3 1 (some ⟨go,0,none⟩) (2 * n) (2 * n) (Ak (ov'++Ya (n - (k+1)) 0))]:=by
   rw [Dv,L8,F2,R9,Vj,Ye,Yj];exact hH13.sub (((Yw _ _).trans (Yw _ _)).trans (Yw _ _))
  apply hK;clear hK;refine VS [0,3,6,7,8] ?_;refine An ?_;refine Ah ?_;refine Qs ?_;exact ⟨n - (k+1),by omega,k+1,cap',g',_,_,h',_,rfl,hH14,hstep,hg',hpf,by omega,rfl⟩
 obtain rfl:n=k+1:=by omega
 have hover:P0 l=ov:=by rw [P0,hn,Nat.add_sub_cancel,hgr]
 have hgrS:Ix l=(Ym (k+1)).map fun i=>Cj ov (2 * (k+1)) i:=by rw [Ix,hover,hn]
 have hdl:∀ f i,Cj ov f i<=f:=fun f=>by
  induction f with
  | zero=>intro i;simp [Cj]
  | succ f ih=>intro i;rw [Cj];split;omega;have:=ih (ov.getD i 0);omega
 have hlo:=hg.lov;rw [hn] at hlo;have hup:=hg.up;rw [hn] at hup;have hdep:∀ i,i < k+1+k->ov.getD i 0≠0->Cj ov (2 * (k+1)) i=Cj ov (2 * (k+1)) (ov.getD i 0)+1:=fun i hi h0=>hg.dep _ (by omega) (by omega) h0
 have hd0:∀ i,ov.getD i 0=0->Cj ov (2 * (k+1)) i=0:=fun i h0=>by
  rw [show 2 * (k+1)=(2 * k+1)+1 by omega,Cj,if_pos h0]
 rw [hgrS]
 have hH1:Heap w [] w4 [Yl 3 1 (some ⟨go,0,none⟩) (2 * (k+1)) (2 * (k+1)) (Ak (ov++[0]))]:=by
  have e:k+1 - k=1:=by omega
  rw [e] at hH;exact hH.sub ((Yw _ _).trans (Yw _ _))
 clear hH hgrS hgr hg hp hTl hTok hover;have hog:∀ i,i < k+1+k->(ov++[0]).getD i 0=ov.getD i 0:=fun i hi=>Qj (by omega);have hol:(ov++[0]).length=2 * (k+1):=by simp;omega
 refine Ax rfl ?_;refine VQ [0,6,11] fun K hK=>?_;refine Ew Y7 Ib ?_;refine Qs ?_;refine ⟨k+1,k+1,⟨rfl,rfl,by omega,by omega,by omega⟩,?_⟩;have hH2:=hH1.row 3 (n:=k+1) (cap:=k+1) (sz:=1) (Ak (Ya (k+1) 0)) [] (by simp [Bh]) (by simp [Bh]) (by omega) (by omega);rw [Yi,Lu] at hH2;generalize w4.alloc (Yo (Ya (k+1) (Y8 Uq 0)).toArray 3)=w5 at *;generalize w4.heap.size=gu at *;rw [<- Lu] at hH2;clear hH1;apply hK;clear hK;refine VS [6,11,68,69] ?_;refine Aq ?_;refine Ay [6,11,68,69] (fun m e w'=>∃ (i:Nat),Is e [(6,.slice (some ⟨go,0,none⟩) (2 * (k+1)) (2 * (k+1))),(11,.slice (some ⟨gu,0,none⟩) (k+1) (k+1)),(68,.int .i64 (k+1:Nat)),(69,.int .i64 i)]/\Heap w [] w' [Yl 3 1 (some ⟨gu,0,none⟩) (k+1) (k+1) (Ak ((Ym i).map (fun i=>Cj ov (2 * (k+1)) i)++Ya (k+1 - i) 0)),Yl 3 1 (some ⟨go,0,none⟩) (2 * (k+1)) (2 * (k+1)) (Ak (ov++[0]))]/\i<=k+1/\m=k+1 - i) (k+1) ?_ ?_
 ·
  refine Qs ?_;exact ⟨0,rfl,by simpa using hH2,by omega,rfl⟩
 clear hH2;rintro m e w6 ⟨i,rfl,hH,hi,rfl⟩;refine VS [6,11,68,69,70] ?_;(repeat refine Aw ?_);refine VD (fun h=>?_) (fun h=>?_)
 ·
  have hsn:(Ym (i+1)).map (fun i=>Cj ov (2 * (k+1)) i)=(Ym i).map (fun i=>Cj ov (2 * (k+1)) i)++[Cj ov (2 * (k+1)) i]:=by rw [Xu,Xe];rfl
  have hml:((Ym i).map (fun i=>Cj ov (2 * (k+1)) i)).length=i:=by simp
  have hdi:=hdl (2 * (k+1)) i;generalize (Ym i).map (fun i=>Cj ov (2 * (k+1)) i)=Dn at *;rw [Qtz (show 0 < k+1 - i by omega),Y0] at hH;refine Ad ?_;refine VB ?_;refine VS [6,11,12,68,69] ?_;refine VS [6,11,12,13,68,69] ?_;refine Aq ?_;refine Ay [6,11,12,13,68,69] (fun m e w'=>∃ (c at_:Nat),Is e [(6,.slice (some ⟨go,0,none⟩) (2 * (k+1)) (2 * (k+1))),(11,.slice (some ⟨gu,0,none⟩) (k+1) (k+1)),(12,.int .i64 i),(13,.int .i64 at_),(68,.int .i64 (k+1:Nat)),(69,.int .i64 i)]/\Heap w [] w' [Yl 3 1 (some ⟨gu,0,none⟩) (k+1) (k+1) (Ak (Dn++c::Ya (k+1 - i - 1) 0)),Yl 3 1 (some ⟨go,0,none⟩) (2 * (k+1)) (2 * (k+1)) (Ak (ov++[0]))]/\at_ < k+1+k/\c+Cj ov (2 * (k+1)) at_=Cj ov (2 * (k+1)) i/\m=2 * (k+1) - at_) (2 * (k+1) - i) ?_ ?_
  ·
   refine Qs ?_;exact ⟨0,i,rfl,hH,by omega,by omega,rfl⟩
  clear hH;rintro m e w7 ⟨c,at_,rfl,hH,hat,hc,rfl⟩;have hov:=hup at_ hat
  have hcell:w7.cell? ⟨go,at_,none⟩=some (.int .i64 ((ov.getD at_ 0:Nat):Int)):=by
   rw [<- hog at_ hat];exact B3 (hH.at 1 rfl) (Io (by omega))
  refine VQ [6,11,12,13,68,69,77] fun K hK=>?_;refine ⟨⟨by omega,by omega⟩,_,hcell,?_⟩;refine Qs ?_;apply hK;clear hK;refine VD (fun h=>?_) (fun h=>?_)
  ·
   have h0:ov.getD at_ 0≠0:=by omega
   have hda:=hdep at_ hat h0;have hlen:(Dn++c::Ya (k+1 - i - 1) 0).length=k+1:=by simp;omega
   have hgc:(Dn++c::Ya (k+1 - i - 1) 0).getD i 0=c:=by
    rw [Yf,Xq (by omega),hml,Xd];rfl
   have hsc:(Dn++c::Ya (k+1 - i - 1) 0).set i (c+1)=Dn++(c+1)::Ya (k+1 - i - 1) 0:=by
    rw [Xh _ _ (by omega),hml,Xd];rfl
   have hcu:w7.cell? ⟨gu,i,none⟩=some (.int .i64 ((c:Nat):Int)):=by
    have:=B3 (hH.at 0 rfl) (Io (l:=Dn++c::Ya (k+1 - i - 1) 0) (i:=i) (by omega))
    rwa [hgc] at this
   refine Ad ?_;refine VB ?_;refine VQ [6,11,12,13,68,69] fun K hK=>?_;refine ⟨⟨by omega,by omega⟩,_,hcu,?_⟩;refine Qs ?_;refine ⟨Xz (by omega) (by omega),⟨by omega,by omega⟩,?_⟩;refine Ag ?_;refine Qs ?_;refine Dp hH 0 (o:=(i)) (vs:=[.int .i64 (c+1:Nat)]) rfl (by first | exact (Bv _ _ _).symm | rfl | simp [Bv]) rfl (by kernel_rfl) (by first | omega | (simp;done) | (simp;omega) | (simp [Ao,Br];omega) | (rw [Bh];simp;omega)) (by simp [Yr]) fun w6 hH3=>?_;(try refine Qs ?_);simp only [Yj,Dm (Ak (Dn++c::Ya (k+1 - i - 1) 0)) _ _ (show i < (Ak (Dn++c::Ya (k+1 - i - 1) 0)).length by rw [Bh,hlen];omega),Ip,Yc,hsc] at hH3;apply hK;clear hK;refine An ?_
   have hcell2:w6.cell? ⟨go,at_,none⟩=some (.int .i64 ((ov.getD at_ 0:Nat):Int)):=by
    rw [<- hog at_ hat];exact B3 (hH3.at 1 rfl) (Io (by omega))
   refine VQ [6,11,12,13,68,69] fun K hK=>?_;refine ⟨⟨by omega,by omega⟩,_,hcell2,?_⟩;apply hK;clear hK;refine Ah ?_;refine Qs ?_;exact ⟨2 * (k+1) - ov.getD at_ 0,by omega,c+1,ov.getD at_ 0,rfl,hH3,by omega,by omega,rfl⟩
  have h0:ov.getD at_ 0=0:=by omega
  rw [hd0 at_ h0] at hc;refine Ax rfl ?_;refine An ?_;refine VS [6,11,68,69] ?_;refine Ah ?_;refine Qs ?_;refine ⟨k+1 - (i+1),by omega,i+1,rfl,?_,by omega,rfl⟩;rw [hsn,<- hc,Yq,Y0,Ho,show k+1 - (i+1)=k+1 - i - 1 by omega];exact hH
 obtain rfl:i=k+1:=by omega
 refine Ax rfl ?_;refine VS [2] ?_;refine Ae (Al rfl rfl ?_);have e:((Ym (k+1)).map fun i=>Cj ov (2 * (k+1)) i).length=k+1:=by simp
 rw [e];rw [Xd,Uk,Yi] at hH;exact ⟨_,_,hH.sub (by simp),rfl⟩
theorem Qpr (l:LN) (f:Nat->Nat) {i:Nat} (h:i < l.length):((l.take i).map f++l.drop i).set i (f (l.getD i 0))=(l.take (i+1)).map f++l.drop (i+1)/\((l.take i).map f++l.drop i).getD i 0=l.getD i 0/\((l.take i).map f++l.drop i).length=l.length:=by
 have h1:=Lv 0 h;have h2:=drop_getD 0 h;have h3:((l.take i).map f).length=i:=by rw [U5,X0];omega
 refine ⟨?_,?_,?_⟩
 ·
  rw [h2,Xh _ _ (by omega),h3,Xd,Yc,h1,Xe,Yq];rfl
 ·
  rw [h2,Yf,Xq (by omega),h3,Xd];rfl
 rw [Ye,h3,List.length_drop];omega
theorem Qvu (l:LN) (most:Nat) (hl:2<=l.length) (hl2:l.length<=258) (hx:∀ x∈l,x<=1073741824) (hm:12<=most) (hm2:most<=20) (pa:OA) (lc:Nat) (w:World) (hr:RS w pa l.length 1 (Ak l)) :
  Does Yd 214 #[.slice pa l.length lc,.int .i64 most] w fun v w'=>∃ a cap,Heap w [] w' [Yl 3 1 a (I2 l most).length cap (Ak (I2 l most))]/\v=.tuple #[.slice a (I2 l most).length cap,.int .i64 0]:=by
 have hc1:=Qe1 l hl hl2 hx pa lc w hr;have hc2:=Qrh l (by omega) (by omega) pa lc w hr;refine En [.slice pa l.length lc,.int .i64 most] 59 Tryz.func214 ?_;have hlS:I2 l most=M6 most 40 (l.map fun x=>max x 1):=rfl;generalize I2 l most=res at *;generalize hn:l.length=n at *;refine VS [0,1] ?_;refine VQ [0,1,22] fun K hK=>?_;refine Aa Tryz.call229 ?_;refine Qs ?_;refine Yk hc1 ?_;rintro v w2 ⟨rfl,rfl⟩;refine Qs ?_
 suffices out:∀ b:Bool,(b=true ↔ False)->K [(0,.slice pa n lc),(1,.int .i64 most),(22,.bool b)] w2 by
  (try (rw [Bool.not_true];refine Qs ?_));refine ⟨fun h=>out _ (by simp;omega),fun h=>absurd h (by omega)⟩
 intro b hb;apply hK;clear hK;refine Ai rfl rfl (fun h=>(hb.1 h).elim) (fun h=>Ad ?_);clear hb h;refine VQ [1,6] fun K hK=>?_;refine Aa Tryz.call230 ?_;refine Qs ?_;refine Yk hc2 ?_;rintro v w3 ⟨a,cap,hH,rfl⟩;apply hK;clear hK;obtain ⟨g,rfl⟩:=Cw (hH.at 0 rfl) (by omega);refine VS [1,6,25,26,27] ?_;refine Aq ?_;refine Ay [1,6,25,26,27] (fun m e w'=>∃ (i:Nat),Is e [(1,.int .i64 most),(6,.slice (some ⟨g,0,none⟩) n cap),(25,.slice (some ⟨g,0,none⟩) n cap),(26,.int .i64 n),(27,.int .i64 i)]/\Heap w2 [] w' [Yl 3 1 (some ⟨g,0,none⟩) n cap (Ak ((l.take i).map (fun x=>max x 1)++l.drop i))]/\i<=n/\m=n - i) n ?_ ?_
 ·
  refine Qs ?_;exact ⟨0,rfl,by simpa using hH,by omega,rfl⟩
 clear hH;rintro m e w4 ⟨i,rfl,hH,hi,rfl⟩;refine VS [1,6,25,26,27,28] ?_;(repeat refine Aw ?_);refine VD (fun h=>?_) (fun h=>?_)
 ·
  obtain ⟨hs1,hs2,hs3⟩:=Qpr l (fun x=>max x 1) (i:=i) (by omega);have hxi:=hx _ (Ez 0 (l:=l) (i:=i) (by omega));have hcell:=B3 (hH.at 0 rfl) (Io (l:=(l.take i).map (fun x=>max x 1)++l.drop i) (i:=i) (by omega));rw [hs2] at hcell;generalize l.getD i 0=x at *;refine Ad ?_;refine VB ?_;refine VQ [1,6,7,8,25,26,27] fun K hK=>?_;refine ⟨⟨by omega,by omega⟩,_,hcell,?_⟩;apply hK;clear hK;refine VQ [1,6,25,26,27] fun K hK=>?_;refine Qp ?_;rw [show max ((x:Nat):Int) 1=((max x 1:Nat):Int) by omega];refine Ag ?_;refine Qs ?_;refine Dp hH 0 (o:=(i)) (vs:=[.int .i64 (max x 1:Nat)]) rfl (by first | exact (Bv _ _ _).symm | rfl | simp [Bv]) rfl (by kernel_rfl) (by first | omega | (simp;done) | (simp;omega) | (simp [Ao,Br];omega) | (rw [Bh];simp;omega)) (by simp [Yr]) fun w6 hH2=>?_;(try refine Qs ?_);simp only [Yj,Dm (Ak ((l.take i).map (fun x=>max x 1)++l.drop i)) _ _ (show i < (Ak ((l.take i).map (fun x=>max x 1)++l.drop i)).length by rw [Bh,hs3];omega),Ip,Yc,hs1] at hH2;apply hK;clear hK;refine An ?_;refine VS [1,6,25,26,27] ?_;refine Ah ?_;refine Qs ?_;exact ⟨n - (i+1),by omega,i+1,rfl,hH2,by omega,rfl⟩
 obtain rfl:i=n:=by omega
 rw [Yv (by omega),Y3 (by omega),Yi] at hH;refine Ax rfl ?_
 have hown1:∀ x∈l.map (fun x=>max x 1),1<=x/\x<=O9 40/\x<=2147483648:=fun x hx'=>by
  obtain ⟨y,hy,rfl⟩:=Xw.1 hx';have:=hx y hy;have e:O9 40=549755813890:=by decide
  omega
 have hownl:(l.map fun x=>max x 1).length=i:=by simp [hn]
 generalize l.map (fun x=>max x 1)=own0 at *;generalize i=n at *;clear hn hx hi h;refine Aq ?_;refine Ay [1,6] (fun m e w'=>∃ (t:Nat) (own:LN),Is e [(1,.int .i64 most),(6,.slice (some ⟨g,0,none⟩) n cap)]/\Heap w2 [] w' [Yl 3 1 (some ⟨g,0,none⟩) n cap (Ak own)]/\own.length=n/\(∀ x∈own,1<=x/\x<=O9 t/\x<=2147483648)/\res=M6 most t own/\m=t) 40 ?_ ?_
 ·
  refine Qs ?_;exact ⟨40,own0,rfl,hH,hownl,hown1,hlS,rfl⟩
 clear hH hown1 hownl hlS;rintro m e w5 ⟨t,own,rfl,hH,hol,hob,hres,rfl⟩;have hgl:=Qah own;have hc3:=Qrk own (by omega) (by omega) (fun x hx'=>⟨(hob x hx').1,(hob x hx').2.2⟩) (some ⟨g,0,none⟩) cap w5 (by rw [hol];exact As (hH.at 0 rfl));rw [hol] at hc3 hgl;refine Aq ?_;refine VQ [1,6,9] fun K hK=>?_;refine Aa Tryz.call231 ?_;refine Qs ?_;refine Yk hc3 ?_;rintro v w6 ⟨a2,cap2,hHg,rfl⟩;have hH2:=hH.call0 hHg;clear hH hHg;simp only [Y0] at hH2;apply hK;clear hK;refine VQ [1,6,9,43] fun K hK=>?_;refine Aa Tryz.call232 ?_;refine Qs ?_;refine Yk (Qpm (Ix own) (by omega) (by omega) a2 cap2 w6 (As (hH2.at 0 rfl))) ?_;rintro v w7 ⟨rfl,rfl⟩;refine Qs ?_;apply hK;clear hK;refine VD (fun h=>?_) (fun h=>Ad ?_)
 ·
  have hfin:res=Ix own:=by
   rw [hres];cases m with
   | zero=>rfl
   | succ t=>rw [M6,if_pos (by omega)]
  refine VS [4,5] ?_;exact Ae (Bp rfl rfl rfl ⟨a2,cap2,by rw [hfin];exact hH2.sub (by simp),by rw [hfin]⟩)
 obtain ⟨t,rfl⟩:∃ t,m=t+1:=by
  cases m with
  | succ t=>exact ⟨t,rfl⟩
  | zero =>
   have:=Qc0 (w:=own) (by omega) (by omega) (fun x hx'=>⟨(hob x hx').1,(hob x hx').2.1⟩);omega
 rw [M6,if_neg (by omega)] at hres;have hH3:Heap w2 [] w7 [Yl 3 1 (some ⟨g,0,none⟩) n cap (Ak own)]:=hH2.sub (by simp);clear hH2 h;refine VS [1,6,45,46,47] ?_;refine Aq ?_;refine Ay [1,6,45,46,47] (fun m e w'=>∃ (i:Nat),Is e [(1,.int .i64 most),(6,.slice (some ⟨g,0,none⟩) n cap),(45,.slice (some ⟨g,0,none⟩) n cap),(46,.int .i64 n),(47,.int .i64 i)]/\Heap w2 [] w' [Yl 3 1 (some ⟨g,0,none⟩) n cap (Ak ((own.take i).map (fun x=>x / 2+1)++own.drop i))]/\i<=n/\m=n - i) n ?_ ?_
 ·
  refine Qs ?_;exact ⟨0,rfl,by simpa using hH3,by omega,rfl⟩
 clear hH3;rintro m e w8 ⟨i,rfl,hH,hi,rfl⟩;refine VS [1,6,45,46,47,48] ?_;(repeat refine Aw ?_);refine VD (fun h=>?_) (fun h=>?_)
 ·
  obtain ⟨hs1,hs2,hs3⟩:=Qpr own (fun x=>x / 2+1) (i:=i) (by omega);have hxi:=hob _ (Ez 0 (l:=own) (i:=i) (by omega));have hcell:=B3 (hH.at 0 rfl) (Io (l:=(own.take i).map (fun x=>x / 2+1)++own.drop i) (i:=i) (by omega));rw [hs2] at hcell;generalize own.getD i 0=x at *;refine Ad ?_;refine VB ?_;refine VQ [1,6,10,11,45,46,47] fun K hK=>?_;refine ⟨⟨by omega,by omega⟩,_,hcell,?_⟩;apply hK;clear hK;refine VQ [1,6,45,46,47] fun K hK=>?_;(repeat first | refine Qo ?_ | refine Qp ?_);rw [show ((x:Nat):Int) / 2+1=((x / 2+1:Nat):Int) by omega];refine Ag ?_;refine Qs ?_;refine Dp hH 0 (o:=(i)) (vs:=[.int .i64 (x / 2+1:Nat)]) rfl (by first | exact (Bv _ _ _).symm | rfl | simp [Bv]) rfl (by kernel_rfl) (by first | omega | (simp;done) | (simp;omega) | (simp [Ao,Br];omega) | (rw [Bh];simp;omega)) (by simp [Yr]) fun w6 hH2=>?_;(try refine Qs ?_);simp only [Yj,Dm (Ak ((own.take i).map (fun x=>x / 2+1)++own.drop i)) _ _ (show i < (Ak ((own.take i).map (fun x=>x / 2+1)++own.drop i)).length by rw [Bh,hs3];omega),Ip,Yc,hs1] at hH2;apply hK;clear hK;refine An ?_;refine VS [1,6,45,46,47] ?_;refine Ah ?_;refine Qs ?_;exact ⟨n - (i+1),by omega,i+1,rfl,hH2,by omega,rfl⟩
 obtain rfl:i=n:=by omega
 rw [Yv (by omega),Y3 (by omega),Yi] at hH;refine Ax rfl ?_;refine An ?_;refine Ah ?_;refine Qs ?_;refine ⟨t,by omega,t,own.map fun x=>x / 2+1,rfl,hH,by simp [hol],fun x hx'=>?_,hres,rfl⟩;obtain ⟨y,hy,rfl⟩:=Xw.1 hx';have:=hob y hy;exact ⟨by omega,Qpc this.2.1,by omega⟩
def Fo (hs:List (OA×Nat)) (T:List (LN)):LV:=List.zipWith (fun h t=>.slice h.1 t.length h.2) hs T
theorem Qa3 {hs:List (OA×Nat)}{T:List (LN)} (h:hs.length=T.length):(Fo hs T).length=T.length:=by simp [Fo,h]
theorem Qt {hs:List (OA×Nat)}{T:List (LN)}{i:Nat}{h:OA×Nat}{t:LN} (h1:hs[i]? = some h) (h2:T[i]? = some t):(Fo hs T)[i]? = some (.slice h.1 t.length h.2):=by
 simp [Fo,X8,h1,h2]
theorem Qoa {hs:List (OA×Nat)}{T:List (LN)} (i:Nat) (h:OA×Nat) (t:LN):(Fo hs T).set i (.slice h.1 t.length h.2)=Fo (hs.set i h) (T.set i t):=by
 unfold Fo;apply List.ext_getElem?;intro j;rw [Gh,X8,X8,Gh,Gh];by_cases e:i=j
 ·
  subst e;rw [if_pos rfl,if_pos rfl,if_pos rfl];simp only [List.length_zipWith];by_cases h1:i < hs.length
  ·
   by_cases h2:i < T.length
   ·
    rw [if_pos (by omega),if_pos h1,if_pos h2]
   rw [if_neg (by omega),if_pos h1,if_neg h2]
  rw [if_neg (by omega),if_neg h1]
 rw [if_neg e,if_neg e,if_neg e]
def PlanAt (w:World) (v:Value) (T:List (LN)) (P:LN):Prop :=
 ∃ ta tc pa pc,∃ hs:List (OA×Nat),v=.agg #[.slice ta T.length tc,.slice pa P.length pc]/\hs.length=T.length/\RS w ta T.length 1 (Fo hs T)/\RS w pa P.length 1 (Ak P) /\
  ∀ (i:Nat) (h:OA×Nat) (t:LN),hs[i]? = some h->T[i]? = some t->RS w h.1 t.length 1 (Ak t)
theorem PlanAt.keep {w w':World}{v:Value}{T:List (LN)}{P:LN}{G:List Res} (h:PlanAt w v T P) (hH:Heap w [] w' G):PlanAt w' v T P:=by
 obtain ⟨ta,tc,pa,pc,hs,h1,h2,h3,h4,h5⟩:=h;exact ⟨ta,tc,pa,pc,hs,h1,h2,hH.rs' h3,hH.rs' h4,fun i h t a b=>hH.rs' (h5 i h t a b)⟩
def Au (ta:OA) (nt tc:Nat) (pa:OA) (np pc:Nat):LV:=[.slice ta nt tc,.slice pa np pc]
theorem Qc5 (l:LN) (n:Nat) (hm:M0 l n) (a:OA) (lc:Nat) (w:World) (hr:RS w a l.length 1 (Ak l)) :
  Does Yd 210 #[.slice a l.length lc,.int .i64 n] w fun v w'=>w'=w/\v=.bool true:=by
 obtain ⟨h1,h2,h3,h4,h5⟩:=hm;obtain ⟨p,rfl⟩:=Ek hr (by omega);refine En [.slice (some p) l.length lc,.int .i64 n] 37 Tryz.func210 ?_;generalize hn:l.length=m at *;refine VS [0,1] ?_;refine VQ [0,1,22] fun K hK=>?_
 suffices out:∀ b:Bool,(b=true ↔ False)->K [(0,.slice (some p) m lc),(1,.int .i64 n),(22,.bool b)] w by (repeat' (first | exact out _ _ (by first | omega | (simp;done) | (simp;omega)) | exact out _ (by first | omega | (simp;done) | (simp;omega)) | refine ⟨fun _=>?_,fun _=>?_⟩ | refine Qo ?_))
 intro b hb;apply hK;clear hK;refine Ai rfl rfl (fun h=>(hb.1 h).elim) (fun h=>Ad ?_);clear hb h;refine VS [1,23,24,25] ?_;refine Aq ?_;refine Ay [1,23,24,25] (fun m' e w'=>∃ (i:Nat),Is e [(1,.int .i64 n),(23,.slice (some p) m lc),(24,.int .i64 m),(25,.int .i64 i)]/\Is w' w/\i<=m/\m'=m - i) m ?_ ?_
 ·
  refine Qs ?_;exact ⟨0,rfl,rfl,by omega,rfl⟩
 rintro m' e w' ⟨i,rfl,rfl,hi,rfl⟩;refine VS [1,23,24,25,26] ?_;(repeat refine Aw ?_);refine Vi (fun h=>?_) (fun h=>?_)
 ·
  simp only [decide_eq_true_eq] at h;have hcell:=El hr (i:=i) (by omega);have hx:=h5 _ (Ez 0 (l:=l) (i:=i) (by omega));generalize l.getD i 0=x at *;refine Ad ?_;refine VB ?_;refine VQ [1,6,23,24,25] fun K hK=>?_;refine ⟨⟨by omega,by omega⟩,_,hcell,?_⟩;apply hK;clear hK;refine VQ [1,23,24,25,35] fun K hK=>?_
  suffices out:∀ b:Bool,(b=true ↔ False)->K [(1,.int .i64 n),(23,.slice (some p) m lc),(24,.int .i64 m),(25,.int .i64 i),(35,.bool b)] w' by (repeat' (first | exact out _ _ (by first | omega | (simp;done) | (simp;omega)) | exact out _ (by first | omega | (simp;done) | (simp;omega)) | refine ⟨fun _=>?_,fun _=>?_⟩ | refine Qo ?_))
  intro b hb;apply hK;clear hK;refine Ai rfl rfl (fun h=>(hb.1 h).elim) (fun h=>Ad ?_);refine An ?_;refine VS [1,23,24,25] ?_;refine Ah ?_;refine Qs ?_;exact ⟨m - (i+1),by omega,i+1,rfl,rfl,by omega,rfl⟩
 refine Ax rfl ?_;refine VS [4] ?_;exact Ae (Al rfl rfl ⟨rfl,rfl⟩)
theorem Qai (m:Nat) (hm:m<=1000000000) (w:World):Does Yd 189 #[.int .i64 m] w fun v w'=>w'=w/\v=.int .i64 (Dq m:Nat):=by
 refine En [.int .i64 m] 7 Tryz.func189 ?_;refine VS [0] ?_;refine VQ [2] fun K hK=>?_;(repeat first | refine Qo ?_ | refine Qp ?_);rw [show ((m:Int)+50 - 1) / 50=((Dq m:Nat):Int) by unfold Dq;omega];apply hK;clear hK;exact Ae (Al rfl rfl ⟨rfl,rfl⟩)
theorem Qhi (l:LN) (k:Nat) (hk:50 * k < l.length) (hl:l.length<=1000000000) (p:Addr) (lc:Nat) (hlc:l.length<=lc) (w:World) :
  Does Yd 213 #[.slice (some p) l.length lc,.int .i64 k] w fun v w'=>w'=w/\v=.slice (some (p.add (50 * k))) (Dx l k).length (lc - 50 * k):=by
 have hcl:(Dx l k).length=min 50 (l.length - 50 * k):=by simp [Dx]
 refine En [.slice (some p) l.length lc,.int .i64 k] 15 Tryz.func213 ?_;generalize hn:l.length=n at *;refine VS [0,1] ?_;refine VQ [4] fun K hK=>?_;(repeat (first | refine Qo ?_ | refine ⟨Xz (by omega) (by omega),?_⟩ | refine ⟨⟨by omega,by omega,by omega⟩,?_⟩));rw [if_neg (by omega),show ((k:Int) * 50).toNat=50 * k by omega,show (min (n:Int) (((k:Int)+1) * 50)).toNat - 50 * k=(Dx l k).length by rw [hcl];omega];apply hK;clear hK;exact Ae (Al rfl rfl ⟨rfl,rfl⟩)
theorem Qps {w:World}{l:LN}{p:Addr} (hr:RS w (some p) l.length 1 (Ak l)) (hp:p.spot=none) {k:Nat} (hk:50 * k < l.length):RS w (some (p.add (50 * k))) (Dx l k).length 1 (Ak (Dx l k)):=by
 have h1:=hr.drop hp (50 * k) (by omega);rw [H2] at h1;have h2:=h1.take (Dx l k).length (by simp [Dx];omega);rw [H2,Qhf,Qb9] at h2
 have e:(l.drop (50 * k)).take (Dx l k).length=Dx l k:=by
  unfold Dx;rw [X0,List.take_eq_take_iff];omega
 rwa [e] at h2
theorem Qob (m:Nat) (h1:1<=m) (hm:m<=1000000000) (w:World):Does Yd 211 #[.int .i64 m] w fun v w'=>w'=w/\v=.tuple #[.int .i64 (Km m:Nat),.int .i64 0]:=by
 refine En [.int .i64 m] 19 Tryz.func211 ?_;refine VS [0] ?_;refine VS [0,7] ?_;refine Ai rfl rfl (fun h=>by simp at h;omega) (fun h=>Ad ?_);refine VQ [0,8,9] fun K hK=>?_
 suffices hsuf:∀ x:Array Value,x=(Ak [200,600,1200,2400]).toArray->K [(0,.int .i64 m),(8,.agg x),(9,.int .i64 0)] w from hsuf _ (by kernel_rfl)
 rintro x rfl;apply hK;clear hK;refine Aq ?_;refine Ay [0,8,9] (fun m' e w'=>∃ (i:Nat),Is e [(0,.int .i64 m),(8,.agg (Ak [200,600,1200,2400]).toArray),(9,.int .i64 i)]/\Is w' w/\i<=4/\(∀ j,j < i->[200,600,1200,2400].getD j 0<=m)/\m'=4 - i) 4 ?_ ?_
 ·
  refine Qs ?_;exact ⟨0,rfl,rfl,by omega,fun j hj=>by omega,rfl⟩
 rintro m' e w' ⟨i,rfl,rfl,hi,hj,rfl⟩;refine VS [0,8,9,10] ?_;(repeat refine Aw ?_);refine VD (fun h=>?_) (fun h=>?_)
 ·
  have hvn:Bb (Ak [200,600,1200,2400]) i=fun K=>K (.int .i64 ([200,600,1200,2400].getD i 0:Nat)):=by
   funext K;exact Qmn (Io (by simp;omega))
  refine Ad ?_;refine VB ?_;refine VQ [0,4,5,8,9] fun K hK=>?_;rw [hvn]
  dsimp only
  refine Qp ?_;apply hK;clear hK;refine VS [0,4,8,9,15] ?_;refine VD (fun h=>?_) (fun h=>Ad ?_)
  ·
   have ht:Km m=i+2:=by
    have h0:=hj 0;have h1':=hj 1;have h2:=hj 2
    match i,hi,h,h0,h1',h2 with
    | 0,_,h,_,_,_=>simp at h;unfold Km;rw [if_pos (by omega)]
    | 1,_,h,h0,_,_=>simp at h h0;unfold Km;rw [if_neg (by omega),if_pos (by omega)]
    | 2,_,h,h0,h1',_=>simp at h h0 h1';unfold Km;rw [if_neg (by omega),if_neg (by omega),if_pos (by omega)]
    | 3,_,h,h0,h1',h2=>simp at h h0 h1' h2;unfold Km;rw [if_neg (by omega),if_neg (by omega),if_neg (by omega),if_pos (by omega)]
    | 4,_,h,_,_,_=>exact absurd h (by simp)
   refine VS [2,3] ?_;exact Ae (Bp rfl rfl rfl ⟨rfl,by rw [ht];rfl⟩)
  refine An ?_;refine VS [0,8,9] ?_;refine Ah ?_;refine Qs ?_;refine ⟨4 - (i+1),by omega,i+1,rfl,rfl,by omega,fun j hj2=>?_,rfl⟩;by_cases e:j=i
  ·
   rw [e];omega
  exact hj j (by omega)
 have h0:=hj 0 (by omega);have h1':=hj 1 (by omega);have h2:=hj 2 (by omega);have h3:=hj 3 (by omega);simp at h0 h1' h2 h3;have ht:Km m=6:=by unfold Km;rw [if_neg (by omega),if_neg (by omega),if_neg (by omega),if_neg (by omega)]
 refine Ax rfl ?_;refine VS [2,3] ?_;exact Ae (Bp rfl rfl rfl ⟨rfl,by rw [ht];rfl⟩)
theorem Qlx (m:Nat) (h0:0 < m) (hm:m<=1000000) (w:World):Does Yd 186 #[.int .i64 m] w fun v w'=>∃ g,Heap w [] w' [Yl 3 1 (some ⟨g,0,none⟩) m m (Ak (Ym m))]/\v=.slice (some ⟨g,0,none⟩) m m:=by
 refine En [.int .i64 m] 18 Tryz.func186 ?_;refine VS [0] ?_;refine VQ [3] fun K hK=>?_;refine Ew Y7 Ib ?_;refine Qs ?_;refine ⟨m,m,⟨rfl,rfl,by omega,by omega,by omega⟩,?_⟩;have hH:=(Yx w).row 3 (n:=m) (cap:=m) (sz:=1) (Ak (Ya m 0)) [] (by simp [Bh]) (by simp [Bh]) (by omega) (by omega);rw [Yi,Lu] at hH;generalize w.alloc (Yo (Ya m (Y8 Uq 0)).toArray 3)=w1 at *;generalize w.heap.size=go at *;rw [<- Lu] at hH;apply hK;clear hK;refine VS [3,8,9] ?_;refine Aq ?_;refine Ay [3,8,9] (fun m' e w'=>∃ (i:Nat),Is e [(3,.slice (some ⟨go,0,none⟩) m m),(8,.int .i64 m),(9,.int .i64 i)]/\Heap w [] w' [Yl 3 1 (some ⟨go,0,none⟩) m m (Ak (Ym i++Ya (m - i) 0))]/\i<=m/\m'=m - i) m ?_ ?_
 ·
  refine Qs ?_;exact ⟨0,rfl,by simpa using hH,by omega,rfl⟩
 clear hH;rintro m' e w' ⟨i,rfl,hH,hi,rfl⟩;refine VS [3,8,9,10] ?_;(repeat refine Aw ?_);refine VD (fun h=>?_) (fun h=>?_)
 ·
  have hset:(Ym i++Ya (m - i) 0).set i i=Ym (i+1)++Ya (m - (i+1)) 0:=by
   obtain ⟨q,hq⟩:∃ q,m - i=q+1:=⟨m - i - 1,by omega⟩;rw [hq,Ul,Xh _ _ (by simp),Hp,Xd,Yc,Xu,Yq,show m - (i+1)=q by omega];rfl
  have hlen:(Ym i++Ya (m - i) 0).length=m:=by simp;omega
  refine Ad ?_;refine VB ?_;refine VS [3,4,8,9] ?_;refine VQ [3,8,9] fun K hK=>?_;refine Qp ?_;refine Ag ?_;refine Qs ?_;refine Dp hH 0 (o:=(i)) (vs:=[.int .i64 (i:Nat)]) rfl (by first | exact (Bv _ _ _).symm | rfl | simp [Bv]) rfl (by kernel_rfl) (by first | omega | (simp;done) | (simp;omega) | (simp [Ao,Br];omega) | (rw [Bh];simp;omega)) (by simp [Yr]) fun w6 hH2=>?_;(try refine Qs ?_);simp only [Yj,Dm (Ak (Ym i++Ya (m - i) 0)) _ _ (show i < (Ak (Ym i++Ya (m - i) 0)).length by rw [Bh,hlen];omega),Ip,Yc,hset] at hH2;apply hK;clear hK;refine An ?_;refine VS [3,8,9] ?_;refine Ah ?_;refine Qs ?_;exact ⟨m - (i+1),by omega,i+1,rfl,hH2,by omega,rfl⟩
 obtain rfl:i=m:=by omega
 rw [Xd,Uk,Yi] at hH;refine Ax rfl ?_;refine VS [2] ?_;exact Ae (Al rfl rfl ⟨go,hH,rfl⟩)
theorem Qly (li:LN) (g cap at_:Nat) (hat:at_ < li.length) (hl:li.length<=1000000000000) (w0 w:World) (B:LN) (G:List Res) (hL:Heap w0 B w (Yl 3 1 (some ⟨g,0,none⟩) li.length cap (Ak li)::G)) :
  Does Yd 187 #[.slice (some ⟨g,0,none⟩) li.length cap,.int .i64 at_] w
   fun v w'=>Heap w0 B w' (Yl 3 1 (some ⟨g,0,none⟩) li.length cap (Ak (Lf li at_))::G)/\v=.int .i64 (li.getD at_ 0:Nat):=by
 refine En [.slice (some ⟨g,0,none⟩) li.length cap,.int .i64 at_] 22 Tryz.func187 ?_;refine VS [0,1] ?_;refine VQ [0,1,5] fun K hK=>?_;(repeat (first | refine Qo ?_ | refine Qp ?_ | (refine ⟨_,(by first | exact Af (hL.at 0 rfl) rfl | exact B3 (hL.at 0 rfl) (bytesV_get (by omega)) | exact B3 (hL.at 0 rfl) (Kz (by omega)) | exact B3 (hL.at 0 rfl) (Io (by omega)) | exact Af (hL.at 1 rfl) rfl | exact B3 (hL.at 1 rfl) (bytesV_get (by omega)) | exact B3 (hL.at 1 rfl) (Kz (by omega)) | exact B3 (hL.at 1 rfl) (Io (by omega)) | exact Af (hL.at 2 rfl) rfl | exact B3 (hL.at 2 rfl) (bytesV_get (by omega)) | exact B3 (hL.at 2 rfl) (Kz (by omega)) | exact B3 (hL.at 2 rfl) (Io (by omega)) | exact Af (hL.at 3 rfl) rfl | exact B3 (hL.at 3 rfl) (bytesV_get (by omega)) | exact B3 (hL.at 3 rfl) (Kz (by omega)) | exact B3 (hL.at 3 rfl) (Io (by omega))),?_⟩;(try refine Qs ?_))));apply hK;clear hK;refine VL [0,5] 7 fun K hK=>?_;obtain ⟨hx1,hx2,hx3,hx4⟩:=hL.at 0 rfl;clear hx1 hx4;refine ⟨Xz (by omega) (by omega),⟨by omega,by omega,by omega⟩,⟨by omega,by omega⟩,?_⟩
 have hsrc:RS w (some ⟨g,0,none⟩) at_ 1 (Ak (li.take at_)):=by
  rw [<- Qb9];have h:=(As (hL.at 0 rfl)).take at_ (by omega)
  rwa [H2] at h
 suffices hall:∀ w5,Heap w0 B w5 (Yl 3 1 (some ⟨g,0,none⟩) li.length cap (Ak (li.take 1++li.take at_++li.drop (at_+1)))::G)->K [(0,.slice (some ⟨g,0,none⟩) li.length cap),(5,.int .i64 (li.getD at_ 0:Nat))] w5 by
  refine Qdy ?_;refine Qs ?_;by_cases hc1:cap=1
  ·
   have h0:at_=0:=by omega
   subst h0;rw [if_pos (by rw [hc1];rfl)];refine Vg hL 0 rfl Y7 O8 (off:=0) rfl ⟨rfl,hsrc,3,Y7⟩ (Qd5 _) (by simp) fun w5 hu hH4=>?_;refine hall w5 ?_;rw [show li.take 1++li.take 0++li.drop (0+1)=li by rw [Gf,Yi];exact Xt 1 li];simpa using hH4
  rw [if_neg (by rw [show Ge 1=1 from rfl];exact hc1)];simp only [Option.map_some];refine Vg hL 0 rfl Y7 O8 (off:=1) rfl ⟨rfl,hsrc,3,Y7⟩ (Qd5 _) (by rw [Bh,show Ge 1=1 from rfl];omega) fun w5 hu hH4=>?_;refine hall w5 ?_;have e:min at_ (at_+1 - Ge 1) * 1=at_:=by rw [show Ge 1=1 from rfl];omega
  simp only [e,Yc] at hH4;rw [Qc3,Qc3,<- Qb9,<- Qhf];have e5:(Ak (li.take at_)).take at_=Ak (li.take at_):=Yv (by rw [Bh,X0];omega);rw [e5,show 1+at_=at_+1 by omega] at hH4;exact hH4
 intro w5 hH;apply hK;clear hK;have hlen:(li.take 1++li.take at_++li.drop (at_+1)).length=li.length:=by simp;omega
 have hmv:(li.take 1++li.take at_++li.drop (at_+1)).set 0 (li.getD at_ 0)=Lf li at_:=by
  cases li with
  | nil=>simp at hat
  | cons x r=>simp [Lf]
 generalize li.take 1++li.take at_++li.drop (at_+1)=li2 at *;refine VQ [5] fun K hK=>?_;refine Qp ?_;refine Ag ?_;refine Qs ?_;refine Dp hH 0 (o:=(0)) (vs:=[.int .i64 (li.getD at_ 0:Nat)]) rfl (by first | exact (Bv _ _ _).symm | rfl | simp [Bv]) rfl (by kernel_rfl) (by first | omega | (simp;done) | (simp;omega) | (simp [Ao,Br];omega) | (rw [Bh];simp;omega)) (by simp [Yr]) fun w6 hH2=>?_;(try refine Qs ?_);simp only [Yj,Dm (Ak li2) _ _ (show 0 < (Ak li2).length by rw [Bh];omega),Ip,Yc,hmv] at hH2;apply hK;clear hK;refine VS [4] ?_;exact Ae (Al rfl rfl ⟨hH2,rfl⟩)
theorem Qc6 (v:Value) (T:List (LN)) (P:LN) (hm:O3 T P) (w:World) (hp:PlanAt w v T P):Does Yd 185 #[v] w fun x w'=>Heap w [] w' []/\x=.bool true:=by
 obtain ⟨ta,tc,pa,pc,hs,rfl,hsl,hrT,hrP,hrt⟩:=hp;obtain ⟨m1,m2,m3,m4,m5,m6⟩:=hm;obtain ⟨qt,rfl⟩:=Ek hrT (by omega);obtain ⟨qp,rfl⟩:=Ek hrP (by omega);have hen:#[Ux #[.slice (some qt) T.length tc,.slice (some qp) P.length pc]]=[Ux (Au (some qt) T.length tc (some qp) P.length pc).toArray].toArray:=rfl;rw [hen];refine Qu 72 Tryz.func185 rfl rfl (of_decide_eq_true rfl) ?_;simp only [Env.ofArgs];generalize hnt:T.length=nt at *;generalize hnp:P.length=np at *;refine VQ [1] fun K hK=>?_;refine Dl ?_;refine Qs ?_;have hH:=(Yx w).box 229 (Au (some qt) nt tc (some qp) np pc);generalize w.alloc (Yo (Au (some qt) nt tc (some qp) np pc).toArray 229)=w1 at *;generalize w.heap.size=gp at *;have c0:w1.cell? ⟨gp,0,none⟩=some (.slice (some qt) nt tc):=Af (hH.at 0 rfl) rfl;have c1:w1.cell? ⟨gp,1,none⟩=some (.slice (some qp) np pc):=Af (hH.at 0 rfl) rfl;apply hK;clear hK;refine VQ [1,28] fun K hK=>?_
 suffices out:∀ b:Bool,(b=true ↔ False)->K [(1,.pointer (some ⟨gp,0,none⟩)),(28,.bool b)] w1 by
  refine ⟨_,c0,?_⟩;refine Qs ?_;refine ⟨fun _=>⟨_,c0,?_⟩,fun h2=>absurd h2 (by omega)⟩;refine Qs ?_;refine ⟨fun _=>⟨_,c1,?_⟩,fun h2=>absurd h2 (by omega)⟩;refine Qs ?_;refine ⟨fun _=>⟨_,c1,?_⟩,fun h2=>absurd h2 (by omega)⟩;refine Qs ?_;exact out _ (by simp;omega)
 intro b hb;apply hK;clear hK;refine Ai rfl rfl (fun h=>(hb.1 h).elim) (fun h=>Ad ?_);clear hb h;have hT0:T[0]? = some (T.getD 0 []):=by rw [Yf,Yb (by omega)];rfl
 refine VQ [1,30,31,32] fun K hK=>?_;refine ⟨_,c0,?_⟩;refine Qs ?_;apply hK;clear hK;refine Aq ?_;refine Ay [1,30,31,32] (fun m e w'=>∃ (i:Nat),Is e [(1,.pointer (some ⟨gp,0,none⟩)),(30,.slice (some qt) nt tc),(31,.int .i64 nt),(32,.int .i64 i)]/\Is w' w1/\i<=nt/\m=nt - i) nt ?_ ?_
 ·
  refine Qs ?_;exact ⟨0,rfl,rfl,by omega,rfl⟩
 rintro m e w2 ⟨i,rfl,rfl,hi,rfl⟩;refine VS [1,30,31,32,33] ?_;(repeat refine Aw ?_);refine VD (fun h=>?_) (fun h=>?_)
 ·
  have hTi:T[i]? = some (T.getD i []):=by rw [Yf,Yb (by omega)];rfl
  obtain ⟨hh,hhi⟩:∃ hh,hs[i]? = some hh:=⟨_,Yb (by omega)⟩;obtain ⟨h0,hh0⟩:∃ h0,hs[0]? = some h0:=⟨_,Yb (by omega)⟩;have hrs:=hH.rs' hrT;have hci:=hrs.2.2 qt rfl i _ (Qt hhi hTi);have hc0:=hrs.2.2 qt rfl 0 _ (Qt hh0 hT0);have hrt2:=hH.rs' (hrt i hh _ hhi hTi);obtain ⟨e1,e2,e3⟩:=m5 _ (Y9 hTi);have hck:=Qbo (T.getD i []) hh.1 hh.2 w2 hrt2;rw [if_pos (Qii.2 e3)] at hck;generalize T.getD i []=t at *;generalize T.getD 0 []=t0 at *;refine Ad ?_;refine VB ?_;refine VQ [1,4,30,31,32] fun K hK=>?_;refine ⟨⟨by omega,by omega⟩,_,hci,?_⟩;apply hK;clear hK;refine VQ [1,30,31,32,53] fun K hK=>?_;refine ⟨_,c0,?_⟩;refine Qs ?_;refine ⟨by omega,_,hc0,?_⟩;refine Qs ?_;refine ⟨fun _=>⟨fun _=>?_,fun h2=>absurd h2 (by omega)⟩,fun h2=>absurd h2 (by omega)⟩;refine Aa Tryz.call216 ?_;refine Qs ?_;refine Yk hck ?_;rintro v w3 ⟨rfl,rfl⟩;refine Qs ?_;apply hK;clear hK;refine Ai rfl rfl (fun h=>by simp at h) (fun h=>Ad ?_);refine An ?_;refine VS [1,30,31,32] ?_;refine Ah ?_;refine Qs ?_;exact ⟨nt - (i+1),by omega,i+1,rfl,rfl,by omega,rfl⟩
 refine Ax rfl ?_;refine VQ [1,56,57,58] fun K hK=>?_;refine ⟨_,c1,?_⟩;refine Qs ?_;apply hK;clear hK;refine Aq ?_;refine Ay [1,56,57,58] (fun m e w'=>∃ (i:Nat),Is e [(1,.pointer (some ⟨gp,0,none⟩)),(56,.slice (some qp) np pc),(57,.int .i64 np),(58,.int .i64 i)]/\Is w' w2/\i<=np/\m=np - i) np ?_ ?_
 ·
  refine Qs ?_;exact ⟨0,rfl,rfl,by omega,rfl⟩
 rintro m e w3 ⟨j,rfl,rfl,hj,rfl⟩;refine VS [1,56,57,58,59] ?_;(repeat refine Aw ?_);refine Vi (fun h=>?_) (fun h=>?_)
 ·
  simp only [decide_eq_true_eq] at h;have hcell:=El (hH.rs' hrP) (i:=j) (by omega);have hx:=m6 _ (Ez 0 (l:=P) (i:=j) (by omega));generalize P.getD j 0=x at *;refine Ad ?_;refine VB ?_;refine VQ [1,6,56,57,58] fun K hK=>?_;refine ⟨⟨by omega,by omega⟩,_,hcell,?_⟩;apply hK;clear hK;refine VQ [1,56,57,58,70] fun K hK=>?_;refine ⟨fun _=>⟨_,c0,?_⟩,fun h2=>absurd h2 (by omega)⟩;refine Qs ?_;rw [decide_eq_false (show ¬ ((nt:Int)<=x) by omega)];apply hK;clear hK;refine Ai rfl rfl (fun h=>by simp at h) (fun h=>Ad ?_);refine An ?_;refine VS [1,56,57,58] ?_;refine Ah ?_;refine Qs ?_;exact ⟨np - (j+1),by omega,j+1,rfl,rfl,by omega,rfl⟩
 refine Ax rfl ?_;refine VS [2] ?_;exact Ae (Al rfl rfl ⟨hH.sub (by simp),rfl⟩)
theorem Qe4:∀ (li:LN) (c i:Nat),i < li.idxOf c->li.getD i 0≠c
 | [],c,i,h=>by simp at h
 | x::li,c,i,h=>by
  rw [List.idxOf_cons] at h;by_cases e:x=c
  ·
   subst e;simp at h
  have:(x == c)=false:=by simpa using e
  rw [this] at h;simp only [cond_false] at h;cases i with
  | zero=>simpa using e
  | succ i =>
   have:=Qe4 li c i (by omega);simpa using this
theorem Qa4:∀ (P li:LN),(∀ k∈P,k∈li)->(Iu li P).length<=P.length * li.length
 | [],li,_=>by simp [Iu]
 | p::P,li,h=>by
  have h1:=Gk.2 (h p (by simp));have h2:=Qa4 P (Lf li (li.idxOf p)) fun k hk=>(Qb8 h1 k).2 (h k (by simp [hk]));rw [Qb7 h1] at h2;simp only [Iu,Ye,X9,Xa,Nat.succ_mul];omega
theorem Qm (ls:List (List Bool)) (l:List Bool):E6 ls++Az l=E6 (ls++[l]):=by simp [E6]
theorem Ey (l:List Bool):∀ u∈Az l,u.oneCell'=true:=by
 intro u hu;simp [Az] at hu;rcases hu with rfl | rfl <;> rfl
theorem Qbp (v:Value) (T:List (LN)) (P:LN) (hm:O3 T P) (w:World) (hp:PlanAt w v T P):Does Yd 143 #[v] w fun x w'=>Heap w [] w' []/\x=.tuple #[Ll (Ej T P),.int .i64 0]:=by
 have hp0:=hp;obtain ⟨ta,tc,pa,pc,hs,rfl,hsl,hrT,hrP,hrt⟩:=hp;have hm0:=hm;obtain ⟨m1,m2,m3,m4,m5,m6⟩:=hm;obtain ⟨qt,rfl⟩:=Ek hrT (by omega);obtain ⟨qp,rfl⟩:=Ek hrP (by omega);have hen:#[Ux #[.slice (some qt) T.length tc,.slice (some qp) P.length pc]]=[Ux (Au (some qt) T.length tc (some qp) P.length pc).toArray].toArray:=rfl
 have hpb:Ej T P=([A2 3 T.length++(A2 15 P.length++Iu (Ym T.length) P)]++T.map Dd).flatten:=by
  simp [Ej,List.flatMap,Yq]
 rw [hen,hpb];refine Qu 85 Tryz.func143 rfl rfl (of_decide_eq_true rfl) ?_;simp only [Env.ofArgs];have hpl:=Qa4 P (Ym T.length) (fun k hk=>by simpa using m6 k hk);have hpl2:P.length * (Ym T.length).length<=32767 * 6:=Gt m4 (by simpa using m2);generalize hnt:T.length=nt at *;generalize hnp:P.length=np at *;refine VQ [1,2] fun K hK=>?_;refine Dl ?_;refine Qs ?_;have hH:=(Yx w).box 229 (Au (some qt) nt tc (some qp) np pc);generalize w.alloc (Yo (Au (some qt) nt tc (some qp) np pc).toArray 229)=w1 at *;generalize w.heap.size=gp at *;refine Bo (.agg #[.string ⟨#[]⟩,.int .i64 0]) (by kernel_rfl) ?_;refine Qs ?_;have hH1:=hH.box 184 [.string ⟨#[]⟩,.int .i64 0];generalize w1.alloc (Yo [U8 ⟨#[]⟩,.int .i64 0].toArray 184)=w2 at *;generalize w1.heap.size=gr at *;clear hH;apply hK;clear hK;refine VQ [1,2,16] fun K hK=>?_;refine ⟨Au (some qt) nt tc (some qp) np pc,⟨rfl,Bu (hH1.at 1 rfl)⟩,?_⟩;have hmc:=Qc6 _ T P hm0 w2 (hp0.keep hH1);refine Aa Tryz.call185 ?_;refine Qs ?_;refine Yk hmc ?_;rintro v w3 ⟨hHm,rfl⟩;have hH2:=hH1.call0 hHm;simp only [Yp] at hH2;clear hH1 hHm hmc;refine Qs ?_;apply hK;clear hK;refine Ai rfl rfl (fun h=>by simp at h) (fun h=>Ad ?_);clear h;refine VQ [1,2,4] fun K hK=>?_;refine Aa Tryz.call107 ?_;refine Qs ?_;refine Yk (Qk w3) ?_;rintro v w4 ⟨gw,hHw,rfl⟩;have hH3:=hH2.call0 hHw;simp only [Y0] at hH3;clear hH2 hHw;apply hK;clear hK;refine VQ [1,2,4] fun K hK=>?_;refine ⟨_,Af (hH3.at 2 rfl) (show (Au (some qt) nt tc (some qp) np pc)[0]? = some _ from rfl),?_⟩;refine Qs ?_;rw [show ((nt:Int) % 18446744073709551616)=nt by omega];refine Aa U9 ?_;refine Qs ?_;refine Yk (Ir gw none 0 [] nt 3 w4 (by omega) (by omega) (by simp) (hH3.focus 0 rfl)) ?_;rintro v w5 ⟨a5,c5,hHp,rfl⟩;have hH4:=hH3.call1 0 rfl hHp;simp only [Yc,Yp] at hH4;clear hH3 hHp;apply hK;clear hK;refine VQ [1,2,4] fun K hK=>?_;refine ⟨_,Af (hH4.at 2 rfl) (show (Au (some qt) nt tc (some qp) np pc)[1]? = some _ from rfl),?_⟩;refine Qs ?_;rw [show ((np:Int) % 18446744073709551616)=np by omega];refine Aa U9 ?_;refine Qs ?_;refine Yk (Ir gw a5 c5 _ np 15 w5 (by omega) (by omega) (by rw [C0];omega) (hH4.focus 0 rfl)) ?_;rintro v w6 ⟨a6,c6,hHp,rfl⟩;have hH5:=hH4.call1 0 rfl hHp;simp only [Yc,Yp] at hH5;clear hH4 hHp;apply hK;clear hK;refine VQ [1,2,4,5] fun K hK=>?_;refine ⟨_,Af (hH5.at 2 rfl) (show (Au (some qt) nt tc (some qp) np pc)[0]? = some _ from rfl),?_⟩;refine Qs ?_;refine Aa Tryz.call186 ?_;refine Qs ?_;refine Yk (Qlx nt (by omega) (by omega) w6) ?_;rintro v w7 ⟨go,hHo,rfl⟩;have hH6:=hH5.call0 hHo;simp only [Y0] at hH6;clear hH5 hHo;apply hK;clear hK;refine VQ [1,2,4,5,36,37,38] fun K hK=>?_;refine ⟨_,Af (hH6.at 3 rfl) (show (Au (some qt) nt tc (some qp) np pc)[1]? = some _ from rfl),?_⟩;refine Qs ?_;apply hK;clear hK;generalize hFull:A2 3 nt++(A2 15 np++Iu (Ym nt) P)=Full at *
 have hFl:Full.length<=300000:=by
  rw [<- hFull];simp only [Ye,C0];omega
 refine Aq ?_;refine Ay [1,2,4,5,36,37,38] (fun m e w'=>∃ (i:Nat) (li:LN) (X:List Bool) (a:OA) (c:Nat),Is e [(1,.pointer (some ⟨gp,0,none⟩)),(2,.pointer (some ⟨gr,0,none⟩)),(4,.pointer (some ⟨gw,0,none⟩)),(5,.slice (some ⟨go,0,none⟩) nt nt),(36,.slice (some qp) np pc),(37,.int .i64 np),(38,.int .i64 i)]/\Heap w [] w' [Yl 3 1 (some ⟨go,0,none⟩) nt nt (Ak li),wr gw a c X,Yg gr 184 [.string ⟨#[]⟩,.int .i64 0],Yg gp 229 (Au (some qt) nt tc (some qp) np pc)]/\li.length=nt/\(∀ k,k < nt->k∈li)/\X++Iu li (P.drop i)=Full/\i<=np/\m=np - i) np ?_ ?_
 ·
  refine Qs ?_;exact ⟨0,_,_,a6,c6,rfl,hH6,by simp,fun k hk=>by simpa using hk,by rw [<- hFull,List.drop_zero,Yq],by omega,rfl⟩
 clear hH6;rintro m e w8 ⟨i,li,X,a,c,rfl,hH,hlil,hli,hX,hi,rfl⟩;refine VS [1,2,4,5,36,37,38,39] ?_;(repeat refine Aw ?_);refine VD (fun h=>?_) (fun h=>?_)
 ·
  have hcell:=El (hH.rs' hrP) (i:=i) (by omega);have hx:=m6 _ (Ez 0 (l:=P) (i:=i) (by omega));have hdp:P.drop i=P.getD i 0::P.drop (i+1):=drop_getD 0 (by omega);rw [hdp,Iu] at hX;generalize P.getD i 0=x at *;have hxl:=hli x hx;have hxi:=Gk.2 hxl
  have hXl:X.length+li.idxOf x+1<=300000:=by
   have:=congrArg H3 hX;simp only [Ye,X9,Xa] at this;omega
  refine Ad ?_;refine VB ?_;refine VQ [1,2,4,5,7,36,37,38] fun K hK=>?_;refine ⟨⟨by omega,by omega⟩,_,hcell,?_⟩;apply hK;clear hK;refine VS [1,2,4,5,7,8,36,37,38] ?_;refine VB ?_;refine Ay [1,2,4,5,7,8,36,37,38] (fun m e w'=>∃ (at_:Nat) (a:OA) (c:Nat),Is e [(1,.pointer (some ⟨gp,0,none⟩)),(2,.pointer (some ⟨gr,0,none⟩)),(4,.pointer (some ⟨gw,0,none⟩)),(5,.slice (some ⟨go,0,none⟩) nt nt),(7,.int .i64 x),(8,.int .i64 at_),(36,.slice (some qp) np pc),(37,.int .i64 np),(38,.int .i64 i)]/\Heap w [] w' [Yl 3 1 (some ⟨go,0,none⟩) nt nt (Ak li),wr gw a c (X++Ya at_ true),Yg gr 184 [.string ⟨#[]⟩,.int .i64 0],Yg gp 229 (Au (some qt) nt tc (some qp) np pc)]/\at_<=li.idxOf x/\m=li.idxOf x - at_) (li.idxOf x) ?_ ?_
  ·
   refine Qs ?_;exact ⟨0,a,c,rfl,by simpa using hH,by omega,rfl⟩
  clear hH hcell;rintro m e w9 ⟨at_,a2,c2,rfl,hH,hat,rfl⟩;have hca:=B3 (hH.at 0 rfl) (Io (l:=li) (i:=at_) (by omega));refine VQ [1,2,4,5,7,8,36,37,38,47] fun K hK=>?_;refine ⟨⟨by omega,by omega⟩,_,hca,?_⟩;refine Qs ?_;apply hK;clear hK;refine Vi (fun h=>?_) (fun h=>?_)
  ·
   simp only [decide_eq_true_eq] at h
   have hlt:at_ < li.idxOf x:=by
    rcases Nat.lt_or_ge at_ (li.idxOf x) with h2 | h2
    ·
     exact h2
    have e:at_=li.idxOf x:=by omega
    rw [e,Qhb hxl] at h;omega
   refine Ad ?_;refine Aq ?_;refine VS [1,2,4,5,7,8,36,37,38] ?_;refine VQ [1,2,4,5,7,8,36,37,38] fun K hK=>?_;refine Aa U9 ?_;refine Qs ?_;refine Yk (Ir gw a2 c2 _ 1 1 w9 (by omega) (by omega) (by rw [Ye,X9];omega) (hH.focus 1 rfl)) ?_;rintro v w10 ⟨a3,c3,hHp,rfl⟩;have e1:A2 1 1=[true]:=rfl;rw [e1,Yq,<- Gz] at hHp;have hH2:=hH.call1 1 rfl hHp;simp only [Yt,Yc,Yp] at hH2;apply hK;clear hK;refine An ?_;refine Ah ?_;refine Qs ?_;exact ⟨li.idxOf x - (at_+1),by omega,at_+1,a3,c3,rfl,hH2,by omega,rfl⟩
  simp only [decide_eq_false_iff_not,Decidable.not_not] at h
  have hlt:at_=li.idxOf x:=by
   rcases Nat.lt_or_ge at_ (li.idxOf x) with h2 | h2
   ·
    exact absurd (by omega) (Qe4 li x at_ h2)
   omega
  subst hlt;refine Ax rfl ?_;refine VQ [1,2,4,5,8,36,37,38] fun K hK=>?_;refine Aa U9 ?_;refine Qs ?_;refine Yk (Ir gw a2 c2 _ 0 1 w9 (by omega) (by omega) (by rw [Ye,X9];omega) (hH.focus 1 rfl)) ?_;rintro v w10 ⟨a3,c3,hHp,rfl⟩;have e1:A2 1 0=[false]:=rfl;rw [e1,Yq] at hHp;have hH2:=hH.call1 1 rfl hHp;simp only [Yt,Yc,Yp] at hH2;clear hH hHp;apply hK;clear hK;refine VQ [1,2,4,5,36,37,38] fun K hK=>?_;have hmc:=Qly li go nt (li.idxOf x) hxi (by omega) w w10 [] _ (by rw [hlil];exact hH2);rw [hlil] at hmc;refine Aa Tryz.call187 ?_;refine Qs ?_;refine Yk hmc ?_;rintro v w11 ⟨hH3,rfl⟩;apply hK;clear hK;refine An ?_;refine VS [1,2,4,5,36,37,38] ?_;refine Ah ?_;refine Qs ?_;refine ⟨np - (i+1),by omega,i+1,Lf li (li.idxOf x),_,a3,c3,rfl,hH3,by rw [Qb7 hxi];exact hlil,fun k hk=>(Qb8 hxi k).2 (hli k hk),?_,by omega,rfl⟩;rw [<- hX];simp
 obtain rfl:i=np:=by omega
 rw [Y3 (by omega),Iu,Yi] at hX;subst hX;refine Ax rfl ?_;refine VQ [1,2,9] fun K hK=>?_;refine Aa Tryz.call111 ?_;refine Qs ?_;refine Yk (Pg gw a c _ w8 (hH.at 1 rfl)) ?_;rintro v w9 ⟨rfl,rfl⟩;refine Aa Tryz.call112 ?_;refine Qs ?_;refine Yk (Oj gw a c _ w9 (hH.at 1 rfl)) ?_;rintro v w10 ⟨rfl,rfl⟩;refine Qs ?_;refine C2 hH 2 (Az X) (xs:=[.tmp 62]) Uo Nz rfl rfl rfl (by omega) (by omega) ?_;refine Qs ?_;refine ⟨by simp [Az,Uf],by simp [Uf],fun ga w11 hH2=>?_⟩
 have hH3:Heap w [] w11 [Yl 184 2 (some ⟨ga,0,none⟩) 1 1 (E6 [X]),Yg gr 184 [.string ⟨#[]⟩,.int .i64 0],Yg gp 229 (Au (some qt) nt tc (some qp) i pc)]:=by
  have e:E6 [X]=Az X:=by simp [E6]
  rw [e];exact hH2.sub (.cons_cons _ (.cons _ (.cons _ (.refl _))))
 clear hH2 hH;apply hK;clear hK;refine VQ [2,9,65,66,67] fun K hK=>?_;refine ⟨_,Af (hH3.at 2 rfl) (show (Au (some qt) nt tc (some qp) i pc)[0]? = some _ from rfl),?_⟩;refine Qs ?_;apply hK;clear hK;clear h hi;refine Aq ?_;refine Ay [2,9,65,66,67] (fun m e w'=>∃ (j:Nat) (a:OA) (c:Nat),Is e [(2,.pointer (some ⟨gr,0,none⟩)),(9,.slice a (j+1) c),(65,.slice (some qt) nt tc),(66,.int .i64 nt),(67,.int .i64 j)]/\Heap w [] w' [Yl 184 2 a (j+1) c (E6 ([X]++(T.take j).map Dd)),Yg gr 184 [.string ⟨#[]⟩,.int .i64 0]]/\j<=nt/\m=nt - j) nt ?_ ?_
 ·
  refine Qs ?_;exact ⟨0,_,1,rfl,by simpa using hH3.sub (.cons_cons _ (.cons_cons _ (.cons _ (.refl _)))),by omega,rfl⟩
 clear hH3;rintro m e w12 ⟨j,a4,c4,rfl,hH,hj,rfl⟩;refine VS [2,9,65,66,67,68] ?_;(repeat refine Aw ?_);refine VD (fun h=>?_) (fun h=>?_)
 ·
  have hTj:T[j]? = some (T.getD j []):=by rw [Yf,Yb (by omega)];rfl
  obtain ⟨hh,hhi⟩:∃ hh,hs[j]? = some hh:=⟨_,Yb (by omega)⟩;have hci:=(hH.rs' hrT).2.2 qt rfl j _ (Qt hhi hTj);have hrt2:=hH.rs' (hrt j hh _ hhi hTj);obtain ⟨e1,e2,e3⟩:=m5 _ (Y9 hTj);have htk:T.take (j+1)=T.take j++[T.getD j []]:=by rw [Ut,hTj];rfl
  have hds:=Qgj (T.getD j []) e3.1 e3.2.1 e3.2.2.1 hh.1 hh.2 w12 hrt2;generalize T.getD j []=t at *;refine Ad ?_;refine VB ?_;refine VQ [2,9,11,65,66,67] fun K hK=>?_;refine ⟨⟨by omega,by omega⟩,_,hci,?_⟩;apply hK;clear hK;refine VQ [2,9,12,65,66,67] fun K hK=>?_;refine Aa Tryz.call188 ?_;refine Qs ?_;refine Yk hds ?_;rintro v w13 ⟨hHd,rfl⟩;have hH2:=hH.call0 hHd;simp only [Yp] at hH2;clear hH hHd;refine Bo (.agg #[.string ⟨#[]⟩,.int .i64 0]) (by kernel_rfl) ?_;refine Qs ?_;have hH3:=hH2.box 184 [.string ⟨#[]⟩,.int .i64 0];generalize w13.alloc (Yo [U8 ⟨#[]⟩,.int .i64 0].toArray 184)=w14 at *;generalize w13.heap.size=gb at *;refine Ag ?_;refine Qs ?_;refine Ap hH3 0 (vs:=Az (Dd t)) rfl rfl (by kernel_rfl) (by simp [Az]) (Ey _) fun w15 hH4=>?_;have hH5:Heap w [] w15 [Yg gb 184 (Az (Dd t)),Yl 184 2 a4 (j+1) c4 (E6 ([X]++(T.take j).map Dd)),Yg gr 184 [.string ⟨#[]⟩,.int .i64 0]]:=hH4;clear hH2 hH3 hH4;apply hK;clear hK;refine VQ [2,9,65,66,67] fun K hK=>?_;refine ⟨Az (Dd t),⟨rfl,Bu (hH5.at 0 rfl)⟩,?_⟩;refine C2 hH5 2 (Az (Dd t)) (xs:=[.tmp 77]) Uo Nz rfl rfl rfl (by omega) (by omega) ?_;refine Qs ?_;refine ⟨by simp [Az,Uf],by simp [Az,Uf],fun g2 w16 hH6=>?_⟩;refine Ce ?_;refine Qs ?_;refine C3 (zs:=#[.string ⟨#[]⟩,.int .i64 0]) (bytes:=24) hH6 2 rfl Uo (by kernel_rfl) rfl ⟨rfl,As (hH6.at 0 rfl),184,Uo⟩ (Ey _) (fun h=>by omega) fun a' cap' w17 hc' hH7=>?_;simp only [Yt,Yc] at hH7;rw [Qm,Yq] at hH7;apply hK;clear hK;refine An ?_;refine VS [2,9,65,66,67] ?_;refine Ah ?_;refine Qs ?_;refine ⟨nt - (j+1),by omega,j+1,a',cap',rfl,?_,by omega,rfl⟩;rw [htk,Xe];exact hH7.sub (.cons _ (.cons _ (.refl _)))
 obtain rfl:j=nt:=by omega
 rw [Yv (by omega)] at hH;obtain ⟨ga2,rfl⟩:=Cw (hH.at 0 rfl) (by omega);have hlen:([X]++T.map Dd).length=j+1:=by simp [hnt]
 have hfl:([X]++T.map Dd).flatten.length<=10000000000000:=by
  rw [List.flatten_append,Ye]
  have h1:∀ Q:List (LN),(∀ t∈Q,Fv t)->(Q.map Dd).flatten.length<=Q.length * 20000:=fun Q=>by
   induction Q with
   | nil=>intro _;simp
   | cons t Q ih =>
    intro hQ;have h2:=ih fun t ht=>hQ t (by simp [ht]);obtain ⟨o1,o2,o3,_⟩:=hQ t (by simp);have h3:=Za t (t.getD 0 0) (o3 _ (Ez 0 (by omega))).2 fun x hx=>(o3 x hx).2;simp only [List.map_cons,List.flatten_cons,Ye,Xa,Nat.succ_mul,Dd,C0];omega
  have h4:=h1 T fun t ht=>(m5 t ht).2.2;simp only [List.flatten_singleton];omega
 have hjn:=Qd1 ([X]++T.map Dd) ⟨ga2,0,none⟩ rfl c4 w12 (by rw [hlen];exact As (hH.at 0 rfl)) hfl (by omega);rw [hlen] at hjn;generalize ([X]++T.map Dd).flatten=R at *;refine Ax rfl ?_;refine VQ [2,3] fun K hK=>?_;refine Aa Tryz.call110 ?_;refine Qs ?_;refine Yk hjn ?_;rintro v w13 ⟨hHj,rfl⟩;have hH2:=hH.call0 hHj;simp only [Yp] at hH2;refine Ag ?_;refine Qs ?_;refine Ap hH2 1 (vs:=Az R) rfl rfl (by kernel_rfl) (by simp [Az]) (Ey _) fun w14 hH3=>?_;have hH4:Heap w [] w14 [Yl 184 2 (some ⟨ga2,0,none⟩) (j+1) c4 (E6 ([X]++T.map Dd)),Yg gr 184 (Az R)]:=hH3;apply hK;clear hK;refine Ae (Kk rfl rfl rfl (Fm (hH4.at 1 rfl) (by kernel_rfl) (by kernel_rfl) rfl ?_));exact ⟨hH4.sub (by simp),rfl⟩
def P4 (hs:List (OA×Nat)) (L:List (LN)):List Res:=List.zipWith (fun h l=>Yl 3 1 h.1 l.length h.2 (Ak l)) hs L
theorem Qvv {hs:List (OA×Nat)}{L:List (LN)}{i:Nat}{h:OA×Nat}{l:LN} (h1:hs[i]? = some h) (h2:L[i]? = some l):(P4 hs L)[i]? = some (Yl 3 1 h.1 l.length h.2 (Ak l)):=by
 simp [P4,X8,h1,h2]
theorem Qrl {hs:List (OA×Nat)}{L:List (LN)} (hl:hs.length=L.length) (a:OA) (c:Nat) (l:LN):P4 hs L++[Yl 3 1 a l.length c (Ak l)]=P4 (hs++[(a,c)]) (L++[l]):=by
 unfold P4;rw [List.zipWith_append hl];rfl
theorem Sz {α:Type} (L:List α) (z x:α) {n i:Nat} (hi:i < n) (hl:L.length=i):(L++Ya (n - i) z).set i x=(L++[x])++Ya (n - (i+1)) z:=by
 obtain ⟨q,hq⟩:∃ q,n - i=q+1:=⟨n - i - 1,by omega⟩;rw [hq,Ul,Xh _ _ (by omega),hl,Xd,Yc,Yq,show n - (i+1)=q by omega];rfl
theorem Qhj (n:Nat):Fo (Ya n (none,0)) (Ya n [])=Ya n (.slice none 0 0):=by
 unfold Fo;rw [List.zipWith_replicate];simp
theorem Qi9 {α β:Type} (f:α->β) {T:List α}{j:Nat}{t:α} (h:T[j]? = some t):(T.take (j+1)).map f=(T.take j).map f++[f t]:=by
 rw [Ut,h,Xe];rfl
theorem Qc7 (v:Value) (T:List (LN)) (P:LN) (hm:O3 T P) (list:LN) (hl1:1<=list.length) (hls:∀ s∈list,s < (T.getD 0 []).length) (hlg:Dq list.length<=P.length) (a:OA) (lc:Nat) (w:World) (hp:PlanAt w v T P) (hr:RS w a list.length 1 (Ak list)) :
  Does Yd 144 #[v,.slice a list.length lc] w fun x w'=>Heap w [] w' []/\x=.tuple #[Ll (E1 T P list 0),.int .i64 0]:=by
 have hp0:=hp;obtain ⟨ta,tc,pa,pc,hs,rfl,hsl,hrT,hrP,hrt⟩:=hp;have hm0:=hm;obtain ⟨m1,m2,m3,m4,m5,m6⟩:=hm;have hT0:T[0]? = some (T.getD 0 []):=by rw [Yf,Yb (by omega)];rfl
 have hn0:3<=(T.getD 0 []).length/\(T.getD 0 []).length<=258:=by
  obtain ⟨e1,e2,e3⟩:=m5 _ (Y9 hT0);exact ⟨e2,e3.2.1⟩
 have hml:list.length<=1638350:=by unfold Dq at hlg;omega
 have hFl:=Zv (T:=T) (P:=P) (c:=20) (fun t ht x hx=>((m5 t ht).2.2.2.2.1 x hx).2) list 0;obtain ⟨qt,rfl⟩:=Ek hrT (by omega);obtain ⟨qp,rfl⟩:=Ek hrP (by omega);obtain ⟨ql,rfl⟩:=Ek hr (by omega);have hen:#[Ux #[.slice (some qt) T.length tc,.slice (some qp) P.length pc],.slice (some ql) list.length lc]=[Ux (Au (some qt) T.length tc (some qp) P.length pc).toArray,.slice (some ql) list.length lc].toArray:=rfl;rw [hen];refine Qu 106 Tryz.func144 rfl rfl (of_decide_eq_true rfl) ?_;simp only [Env.ofArgs];have hgd:=fun w=>Qai list.length (by omega) w;generalize hnt:T.length=nt at *;generalize hnp:P.length=np at *;generalize hnl:list.length=nl at *;generalize hn:(T.getD 0 []).length=n0 at *;refine VQ [1,2,4] fun K hK=>?_;refine Dl ?_;refine Qs ?_;have hH:=(Yx w).box 229 (Au (some qt) nt tc (some qp) np pc);generalize w.alloc (Yo (Au (some qt) nt tc (some qp) np pc).toArray 229)=w1 at *;generalize w.heap.size=gp at *;refine Bo (.agg #[.string ⟨#[]⟩,.int .i64 0]) (by kernel_rfl) ?_;refine Qs ?_;have hH1:=hH.box 184 [.string ⟨#[]⟩,.int .i64 0];generalize w1.alloc (Yo [U8 ⟨#[]⟩,.int .i64 0].toArray 184)=w2 at *;generalize w1.heap.size=gr at *;clear hH;apply hK;clear hK;have hmc:=Qc6 _ T P hm0 w2 (hp0.keep hH1);have c0:w2.cell? ⟨gp,0,none⟩=some (.slice (some qt) nt tc):=Af (hH1.at 1 rfl) rfl;have c1:w2.cell? ⟨gp,1,none⟩=some (.slice (some qp) np pc):=Af (hH1.at 1 rfl) rfl;refine VH _ (Ext.refl _) [1,2,4,25] [(0,true),(1,false),(2,true),(3,true),(4,true),(5,true),(7,true),(8,true),(9,true),(6,false),(10,true),(11,true)] fun K hK=>?_;refine ⟨Au (some qt) nt tc (some qp) np pc,⟨rfl,Bu (hH1.at 1 rfl)⟩,?_⟩;refine Aa Tryz.call185 ?_;refine Qs ?_;refine Yk hmc ?_;rintro v w3 ⟨hHm,rfl⟩;have hH2:=hH1.call0 hHm;simp only [Yp] at hH2;refine Qs ?_;refine ⟨hHm.ext,?_⟩;(first | refine ⟨fun _=>⟨_,c1,?_⟩,fun h2=>absurd h2 (by simp)⟩ | refine ⟨_,c1,?_⟩);refine Qs ?_;refine Aa Tryz.call189 ?_;refine Qs ?_;refine Yk (hgd w3) ?_;rintro v w4 ⟨rfl,rfl⟩;refine Qs ?_;refine ⟨hHm.ext,?_⟩;rw [decide_eq_false (show ¬ ((np:Int) < (Dq nl:Nat)) by omega)];apply hK;clear hK;refine Ai rfl rfl (fun h=>by simp at h) (fun h=>Ad ?_);clear h hH1 hHm hmc c0 c1;generalize w4=w3 at *;refine VS [1,2,4,27,28,29] ?_;refine Aq ?_;refine Ay [1,2,4,27,28,29] (fun m e w'=>∃ (i:Nat),Is e [(1,.slice (some ql) nl lc),(2,.pointer (some ⟨gp,0,none⟩)),(4,.pointer (some ⟨gr,0,none⟩)),(27,.slice (some ql) nl lc),(28,.int .i64 nl),(29,.int .i64 i)]/\Is w' w3/\i<=nl/\m=nl - i) nl ?_ ?_
 ·
  refine Qs ?_;exact ⟨0,rfl,rfl,by omega,rfl⟩
 rintro m e w' ⟨i,rfl,rfl,hi,rfl⟩;have c0:w'.cell? ⟨gp,0,none⟩=some (.slice (some qt) nt tc):=Af (hH2.at 1 rfl) rfl;have c1:w'.cell? ⟨gp,1,none⟩=some (.slice (some qp) np pc):=Af (hH2.at 1 rfl) rfl;obtain ⟨h0,hh0⟩:∃ h0,hs[0]? = some h0:=⟨_,Yb (by omega)⟩;have hc0:=(hH2.rs' hrT).2.2 qt rfl 0 _ (Qt hh0 hT0);rw [hn] at hc0;refine VS [1,2,4,27,28,29,30] ?_;(repeat refine Aw ?_);refine VD (fun h=>?_) (fun h=>?_)
 ·
  have hcell:=El (hH2.rs' hr) (i:=i) (by omega);have hx:=hls _ (Ez 0 (l:=list) (i:=i) (by omega));generalize list.getD i 0=x at *;refine Ad ?_;refine VB ?_;refine VQ [1,2,4,7,27,28,29] fun K hK=>?_;refine ⟨⟨by omega,by omega⟩,_,hcell,?_⟩;apply hK;clear hK;refine VQ [1,2,4,27,28,29,43] fun K hK=>?_;refine ⟨fun _=>⟨_,c0,?_⟩,fun h2=>absurd h2 (by omega)⟩;refine Qs ?_;refine ⟨by omega,_,hc0,?_⟩;refine Qs ?_;rw [decide_eq_false (show ¬ ((n0:Int)<=x) by omega)];apply hK;clear hK;refine Ai rfl rfl (fun h=>by simp at h) (fun h=>Ad ?_);refine An ?_;refine VS [1,2,4,27,28,29] ?_;refine Ah ?_;refine Qs ?_;exact ⟨nl - (i+1),by omega,i+1,rfl,rfl,by omega,rfl⟩
 clear h hi;generalize w'=w3 at *;refine Ax rfl ?_;refine VQ [1,2,4,8] fun K hK=>?_;refine Aa Tryz.call107 ?_;refine Qs ?_;refine Yk (Qk w3) ?_;rintro v w4 ⟨gw,hHw,rfl⟩;have hH3:=hH2.call0 hHw;simp only [Y0] at hH3;clear hHw;apply hK;clear hK;refine VQ [1,2,4,8,9] fun K hK=>?_;refine ⟨_,Af (hH3.at 2 rfl) (show (Au (some qt) nt tc (some qp) np pc)[0]? = some _ from rfl),?_⟩;refine Qs ?_;refine Ew Tryz.underlying227 QA3 ?_;refine Qs ?_;refine ⟨nt,nt,⟨rfl,rfl,by omega,by omega,by omega⟩,?_⟩;have hH4:=hH3.row 223 (n:=nt) (cap:=nt) (sz:=1) (Fo (Ya nt (none,0)) (Ya nt [])) [] (by rw [Qa3 (by simp)];simp) (by rw [Yi,Qa3 (by simp)];simp) (by omega) (by omega);rw [Yi,Qhj] at hH4;generalize w4.alloc (Yo (Ya nt (Gx none 0 0)).toArray 223)=w5 at *;generalize w4.heap.size=gc at *;rw [<- Qhj] at hH4;clear hH3;apply hK;clear hK;refine VS [1,2,4,8,9,52,53] ?_;refine Aq ?_;refine Ay [1,2,4,8,9,52,53] (fun m e w'=>∃ (i:Nat) (us:List (OA×Nat)),Is e [(1,.slice (some ql) nl lc),(2,.pointer (some ⟨gp,0,none⟩)),(4,.pointer (some ⟨gr,0,none⟩)),(8,.pointer (some ⟨gw,0,none⟩)),(9,.slice (some ⟨gc,0,none⟩) nt nt),(52,.int .i64 nt),(53,.int .i64 i)]/\Heap w [] w' (Yl 223 1 (some ⟨gc,0,none⟩) nt nt (Fo (us++Ya (nt - i) (none,0)) ((T.take i).map Dr++Ya (nt - i) []))::wr gw none 0 []::Yg gr 184 [.string ⟨#[]⟩,.int .i64 0]::Yg gp 229 (Au (some qt) nt tc (some qp) np pc)::P4 us ((T.take i).map Dr))/\us.length=i/\i<=nt/\m=nt - i) nt ?_ ?_
 ·
  refine Qs ?_;exact ⟨0,[],rfl,by simpa [P4] using hH4,rfl,by omega,rfl⟩
 clear hH4 hH2 c0 c1 hc0;rintro m e w6 ⟨i,us,rfl,hH,hus,hi,rfl⟩;refine VS [1,2,4,8,9,52,53,54] ?_;(repeat refine Aw ?_);refine VD (fun h=>?_) (fun h=>?_)
 ·
  have hTi:T[i]? = some (T.getD i []):=by rw [Yf,Yb (by omega)];rfl
  obtain ⟨hh,hhi⟩:∃ hh,hs[i]? = some hh:=⟨_,Yb (by omega)⟩;have hci:=(hH.rs' hrT).2.2 qt rfl i _ (Qt hhi hTi);have hrt2:=hH.rs' (hrt i hh _ hhi hTi);obtain ⟨e1,e2,e3⟩:=m5 _ (Y9 hTi);have htk:=Qi9 Dr hTi;have hcd:=Qdt (T.getD i []) e3 hh.1 hh.2 w6 hrt2;generalize T.getD i []=t at *;have hLl:((T.take i).map Dr).length=i:=by simp;omega
  have hAl:(Fo (us++Ya (nt - i) (none,0)) ((T.take i).map Dr++Ya (nt - i) [])).length=nt:=by
   rw [Qa3 (by simp;omega)];simp;omega
  have c0:w6.cell? ⟨gp,0,none⟩=some (.slice (some qt) nt tc):=Af (hH.at 3 rfl) rfl;refine Ad ?_;refine VB ?_;refine VS [1,2,4,8,9,10,52,53] ?_;refine VQ [1,2,4,8,9,52,53] fun K hK=>?_;refine ⟨_,c0,?_⟩;refine Qs ?_;refine ⟨⟨by omega,by omega⟩,_,hci,?_⟩;refine Aa Tryz.call190 ?_;refine Qs ?_;refine Yk hcd ?_;rintro v w7 ⟨ac,cc,hHc,rfl⟩;have hH2:=hH.call0 hHc;simp only [Y0] at hH2;clear hHc c0 hci;refine Qp ?_
  have hset:(Fo (us++Ya (nt - i) (none,0)) ((T.take i).map Dr++Ya (nt - i) [])).set i (.slice ac (Dr t).length cc)=Fo ((us++[(ac,cc)])++Ya (nt - (i+1)) (none,0)) ((T.take (i+1)).map Dr++Ya (nt - (i+1)) []):=by
   rw [htk,<- Sz us (none,0) (ac,cc) (by omega) hus,<- Sz _ [] (Dr t) (by omega) hLl];exact Qoa i (ac,cc) (Dr t)
  refine Ag ?_;refine Qs ?_;refine Dp hH2 1 (o:=i) (vs:=[.slice ac (Dr t).length cc]) rfl (by simp [Bv]) rfl (by kernel_rfl) (by simp only [Yj];omega) (by simp [Yr]) fun w8 hH3=>?_;simp only [Yj,Dm _ _ _ (show i < (Fo (us++Ya (nt - i) (none,0)) ((T.take i).map Dr++Ya (nt - i) [])).length by omega),hset,Yc,Yt] at hH3;have hH4:=hH3.perm (Ue _ _).symm;simp only [Y2] at hH4;rw [Qrl (by omega),<- htk] at hH4;clear hH hH2 hH3;apply hK;clear hK;refine An ?_;refine VS [1,2,4,8,9,52,53] ?_;refine Ah ?_;refine Qs ?_;exact ⟨nt - (i+1),by omega,i+1,us++[(ac,cc)],rfl,hH4,by simp [hus],by omega,rfl⟩
 obtain rfl:i=nt:=by omega
 clear h hi;rw [Xd,Uk,Uk,Yi,Yi,Yv (by omega)] at hH;generalize i=nt at *;refine Ax rfl ?_;refine VS [2,4,8,9,69,70,71] ?_;generalize hFull:E1 T P list 0=Full at *;refine Aq ?_;refine Ay [2,4,8,9,69,70,71] (fun m e w'=>∃ (i:Nat) (X:List Bool) (a:OA) (c:Nat),Is e [(2,.pointer (some ⟨gp,0,none⟩)),(4,.pointer (some ⟨gr,0,none⟩)),(8,.pointer (some ⟨gw,0,none⟩)),(9,.slice (some ⟨gc,0,none⟩) nt nt),(69,.slice (some ql) nl lc),(70,.int .i64 nl),(71,.int .i64 i)]/\Heap w [] w' (Yl 223 1 (some ⟨gc,0,none⟩) nt nt (Fo us (T.map Dr))::wr gw a c X::Yg gr 184 [.string ⟨#[]⟩,.int .i64 0]::Yg gp 229 (Au (some qt) nt tc (some qp) np pc)::P4 us (T.map Dr))/\X++E1 T P (list.drop i) i=Full/\i<=nl/\m=nl - i) nl ?_ ?_
 ·
  refine Qs ?_;exact ⟨0,[],none,0,rfl,hH,by simpa using hFull,by omega,rfl⟩
 clear hH;rintro m e w7 ⟨i,X,a,c,rfl,hH,hX,hi,rfl⟩;refine VS [2,4,8,9,69,70,71,72] ?_;(repeat refine Aw ?_);refine VD (fun h=>?_) (fun h=>?_)
 ·
  have hcell:=El (hH.rs' hr) (i:=i) (by omega);have hx:=hls _ (Ez 0 (l:=list) (i:=i) (by omega));have hdp:list.drop i=list.getD i 0::list.drop (i+1):=drop_getD 0 (by omega);rw [hdp,E1] at hX;generalize list.getD i 0=x at *;have hgi:i / 50 < np:=by unfold Dq at hlg;omega
  have hcp:=El (hH.rs' hrP) (i:=i / 50) (by omega);have hpx:=m6 _ (Ez 0 (l:=P) (i:=i / 50) (by omega));generalize P.getD (i / 50) 0=k at *;have hTk:T[k]? = some (T.getD k []):=by rw [Yf,Yb (by omega)];rfl
  obtain ⟨hh,hhk⟩:∃ hh,hs[k]? = some hh:=⟨_,Yb (by omega)⟩;obtain ⟨uu,huk⟩:∃ uu,us[k]? = some uu:=⟨_,Yb (by omega)⟩;have hck:=(hH.rs' hrT).2.2 qt rfl k _ (Qt hhk hTk);have hrt2:=hH.rs' (hrt k hh _ hhk hTk);obtain ⟨e1,e2,e3⟩:=m5 _ (Y9 hTk);have hCk:(T.map Dr)[k]? = some (Dr (T.getD k [])):=by rw [Y1,hTk];rfl
  have hcc:=B3 (hH.at 0 rfl) (Qt huk hCk);have hrc:=As (hH.at (k+4) (show _=some (Yl 3 1 uu.1 (Dr (T.getD k [])).length uu.2 (Ak (Dr (T.getD k [])))) from Qvv huk hCk));rw [Qca] at hcc hrc;generalize T.getD k []=t at *;have hcode:=Z6 e3 (i:=x) (by omega);have hok:=We e3 (i:=x) (by omega);obtain ⟨rt,hrt0⟩:=Ek hrt2 (by omega);obtain ⟨rc,hrc0⟩:=Ek hrc (by omega);rw [hrt0] at hrt2 hck;rw [hrc0] at hrc hcc;have hct:=El hrt2 (i:=x) (by omega);have hcx:=El hrc (i:=x) (by rw [Qca];omega);have hcg:(Dr t).getD x 0=Dt t x:=by unfold Dr;rw [Vr _ _ _ _ (by omega)]
  rw [hcg] at hcx
  have hXl:X.length+20<=100000000:=by
   have:=congrArg H3 hX;simp only [Ye] at this;omega
  have hw:Mp t x=A2 (t.getD x 0) (Dt t x):=rfl;rw [hw] at hX;have hp2:2 ^ (t.getD x 0)<=2 ^ 20:=Gu (by omega) hok.2;have hp3:2 ^ (t.getD x 0)<=1048576:=hp2;generalize t.getD x 0=b at *;generalize Dt t x=cx at *;have c0:w7.cell? ⟨gp,0,none⟩=some (.slice (some qt) nt tc):=Af (hH.at 3 rfl) rfl;have c1:w7.cell? ⟨gp,1,none⟩=some (.slice (some qp) np pc):=Af (hH.at 3 rfl) rfl;refine Ad ?_;refine VB ?_;refine VQ [2,4,8,9,11,12,69,70,71] fun K hK=>?_;refine ⟨⟨by omega,by omega⟩,_,hcell,?_⟩;apply hK;clear hK;refine VQ [2,4,8,9,12,13,69,70,71] fun K hK=>?_;refine ⟨_,c1,?_⟩;refine Qs ?_;rw [show ((i:Int) / 50)=((i / 50:Nat):Int) by omega];(repeat first | refine Qo ?_ | refine Qp ?_);refine ⟨_,hcp,?_⟩;apply hK;clear hK;refine VL [2,4,8,9,69,70,71] 17 fun K hK=>?_;refine ⟨⟨by omega,by omega⟩,_,hcc,?_⟩;refine Qs ?_;refine ⟨⟨by omega,by omega⟩,_,hcx,?_⟩;refine Qs ?_;refine ⟨_,c0,?_⟩;refine Qs ?_;refine ⟨⟨by omega,by omega⟩,_,hck,?_⟩;refine Qs ?_;refine ⟨⟨by omega,by omega⟩,_,hct,?_⟩;rw [show ((cx:Int) % 18446744073709551616)=cx by omega];refine Aa U9 ?_;refine Qs ?_;refine Yk (Ir gw a c X cx b w7 (by omega) hcode.2.2 (by omega) (hH.focus 1 rfl)) ?_;rintro v w8 ⟨a2,c2,hHp,rfl⟩;have hH2:=hH.call1 1 rfl hHp;simp only [Yc,Yt,Yp] at hH2;clear hH hHp hcc hcx c0 c1 hck hct hcp hrc hrt2 hcell;apply hK;clear hK;refine An ?_;refine VS [2,4,8,9,69,70,71] ?_;refine Ah ?_;refine Qs ?_;exact ⟨nl - (i+1),by omega,i+1,_,a2,c2,rfl,hH2,by rw [Yq];exact hX,by omega,rfl⟩
 obtain rfl:i=nl:=by omega
 rw [Y3 (by omega),E1,Yi] at hX;subst hX;refine Ax rfl ?_;refine VQ [4,5] fun K hK=>?_;refine Aa Tryz.call111 ?_;refine Qs ?_;refine Yk (Pg gw a c _ w7 (hH.at 1 rfl)) ?_;rintro v w9 ⟨rfl,rfl⟩;refine Aa Tryz.call112 ?_;refine Qs ?_;refine Yk (Oj gw a c _ w9 (hH.at 1 rfl)) ?_;rintro v w10 ⟨rfl,rfl⟩;refine Qs ?_;refine Ag ?_;refine Qs ?_;refine Ap hH 2 (vs:=Az X) rfl rfl (by kernel_rfl) (by simp [Az]) (Ey _) fun w11 hH3=>?_;simp only [Yc,Yt] at hH3;apply hK;clear hK;refine Ae (Kk rfl rfl rfl (Fm (hH3.at 2 rfl) (by kernel_rfl) (by kernel_rfl) rfl ?_));exact ⟨hH3.sub (by simp),rfl⟩
theorem Nj (ta:OA) (nt tc:Nat) (pa:OA) (np pc:Nat):∀ u∈Au ta nt tc pa np pc,u.oneCell'=true:=by
 intro u hu;simp [Au] at hu;rcases hu with rfl | rfl <;> rfl
theorem Qkh {w:World}{v:Value}{T:List (LN)}{P:LN}{ta pa:OA}{nt tc np pc:Nat}{hs:List (OA×Nat)} (hv:v=.agg (Au ta nt tc pa np pc).toArray) (hnt:T.length=nt) (hnp:P.length=np) (hl:hs.length=nt) (h1:RS w ta nt 1 (Fo hs T)) (h2:RS w pa np 1 (Ak P))
  (h3:∀ (i:Nat) (h:OA×Nat) (t:LN),hs[i]? = some h->T[i]? = some t->RS w h.1 t.length 1 (Ak t)):PlanAt w v T P:=by
 subst hnt hnp;exact ⟨ta,tc,pa,pc,hs,hv,hl,h1,h2,h3⟩
set_option maxHeartbeats 4000000
theorem Bi {P:Program}{N:Nat}{ops:List Oper}{w0:World}{e:Env}{w:World}{K:Env->World->Prop}:Av P N ops w0 [] e w K=K e w:=rfl
end Go.Proofs.YtfinjnahapbemaaGreatDoor
namespace Go.Eng
open Go
theorem Heap.under {w0 w:World}{B:LN}{F:List Res} (A G:List Res) (h:Heap w0 B w (A++(G++F))):Heap w0 B w (G++(A++F)):=by
 refine h.perm ?_;rw [<- Yq,<- Yq];exact List.perm_append_comm.append_right F
theorem Heap.under1 {w0 w:World}{B:LN}{F:List Res} (r:Res) (A G:List Res) (h:Heap w0 B w (r::(A++(G++F)))):Heap w0 B w (r::(G++(A++F))):=by
 refine h.perm (.cons _ ?_);rw [<- Yq,<- Yq];exact List.perm_append_comm.append_right F
theorem Loop.same {r:Loop} (r1:r.state=.ready) (r2:r.pending=none):({ r with state:=.ready,pending:=none }:Loop)=r:=by
 cases r;simp only at r1 r2;subst r1 r2;rfl
def QGi (ms:LN):List Res:=ms.map fun r=>Yu r (.deferred (some []))
theorem QLk {P:Program}{fn:Func}{F:Value->World->Prop}{Pn:List PanicEntry->World->Prop}{N:Nat}{e:Env}{w0 w:World}{B:LN}{ms:LN}{G:List Res} (hH:Heap w0 B w (QGi ms++G))
  (hx:∀ w',Heap w0 B w' G->VX ⟨P,fn,F,N⟩ [] .ret e w'):∀ a n,FitsG N (ms.map Ny) e a->Tf P fn F Pn .ret a (w.drewN n):=fun a n ha=>by
 show LeavesInM _ _ _ _ _ _ a.defers _ _
 rw [ha.defers]
 have key:∀ (ms:LN) (w:World),Heap w0 B w (QGi ms++G)->LeavesInM Fence.wide 0 P fn a.tmps (Qup F Pn) (ms.map Ny) .returning (w.drewN n):=by
  intro ms
  induction ms with
  | nil=>intro w hH;exact Qif (hx w hH) ha
  | cons r ms ih =>
   intro w hH;have hp:=H4 (l:=r) (o:=.deferred (some [])) hH (.deferred none);exact ⟨by simp,.inl ⟨r,(w.putObj r (.deferred none)).drewN n,rfl,run_takeDeferred (w:=w.drewN n) (hH.at 0 rfl),ih _ (hp.sub (Yw _ _))⟩⟩
 exact key ms w hH
theorem Qvw {r:Loop}{p:Nat}{v:Value}{e:Env} (r3:r.params=#[p]) (hp:p < r.tmps.size) (r8:∀ t v,e.find? t=some v->r.tmps.getD t undef=v) :
  ∀ t u,Env.find? ((p,v)::e) t=some u->((r.params.zip [v].toArray).foldl (fun tmps (t,a)=>tmps.setIfInBounds t a) r.tmps).getD t undef=u:=by
 intro t u ht;rw [r3,show (#[p].zip [v].toArray)=#[(p,v)] by first | rfl | simp | (apply Array.ext';simp)]
 show (r.tmps.setIfInBounds p v).getD t undef=u
 rw [Env.find?] at ht;split at ht
 ·
  rename_i h46;simp only at h46;subst h46;cases ht;rw [Array.getD_eq_getD_getElem?,Array.getElem?_setIfInBounds_self_of_lt hp];rfl
 rename_i h46;rw [Array.getD_eq_getD_getElem?,Array.getElem?_setIfInBounds_ne (by exact fun h=>h46 h.symm),<- Array.getD_eq_getD_getElem?];exact r8 t u ht
theorem Sd {P:Program}{b:Frame}{a:Act}{k:List Item}{cs:List Frame}{w:World}{c:Code}:step P (lone (b.atR a (.code (.scope c)::k)) cs w)=.next (lone (b.atR a (.code c::.inScope c::k)) cs w) :=
 step_lone_go (by simp [stepG,stepG.exec,Frame.atR])
theorem Qja {P:Program}{b:Frame}{a:Act}{k:List Item}{cs:List Frame}{w:World}{c:Code}:step P (lone (b.atR a (.inScope c::k)) cs w)=.next (lone (b.atR a k) cs w) :=
 step_lone_go (by simp [stepG,stepG.exec,Frame.atR])
theorem Qrm {F:Fence}{m:Nat}{P:Program}{Q:Exit->Act->World->Prop}{c:Code}{a:Act}{w:World} (h:c.wpIn F m P (fun ex a w=>match ex with | .goto _=>False | ex=>Q ex a w) a w):(Code.scope c).wpIn F m P Q a w:=by
 intro b k cs hro hb hr;have h0:(lone (b.atR a (.code (.scope c)::k)) cs w).fenced P F:=fenced_calm hb hr rfl;obtain ⟨e,a₁,w₁,hq,harr⟩:=h b (.inScope c::k) cs hro hb hr;cases e with
 | normal=>exact ⟨.normal,a₁,w₁,hq,.head h0 Sd (StepsIn.trans harr (.one (fenced_calm hb hr rfl) Qja))⟩
 | exit id' =>
  have hx:exitTo id' (.inScope c::k)=exitTo id' k:=by simp [exitTo]
  exact ⟨.exit id',a₁,w₁,hq,fun k' hk=>.head h0 Sd (harr.1 k' (by rw [hx];exact hk)),
   fun hr' hk=>let ⟨k₁,h1,h2⟩:=harr.2 hr' (by rw [hx];exact hk);⟨k₁,h1,.head h0 Sd h2⟩⟩
 | goto l=>exact hq.elim
 | ret=>exact ⟨_,a₁,w₁,hq,.of_steps (.one h0 Sd) harr⟩
 | panic ch=>exact ⟨_,a₁,w₁,hq,.of_steps (.one h0 Sd) harr⟩
 | outgrown=>exact ⟨_,a₁,w₁,hq,.of_steps (.one h0 Sd) harr⟩
theorem Qrn {C:F8} (hC:∀ l a w,¬ C.post (.goto l) a w) {k:List It}{l:Nat}{a:Act}{w:World} (h:Em C k (.goto l) a w):False:=by
 induction k with
 | nil=>exact hC _ _ _ h
 | cons x k ih=>cases x <;> exact ih h
theorem Qzg {C:F8} (hC:∀ l a w,¬ C.post (.goto l) a w) {k:List It}{e:Env}{w:World}{c:Code} (h:VG C (.code c::k) e w):VG C (.code (.scope c)::k) e w:=by
 intro a n ha;have h1:=h a n ha;simp only [Em] at h1 ⊢;refine Qrm (wpIn_mono h1 fun ex a w hq=>?_);cases ex with
 | goto l=>exact (Qrn hC hq).elim
 | _=>exact hq
theorem Qzh {P:Program}{T E:TypeId}{sz:Nat} (hu:P.underlying T=some (.slice E)) (hsz:P.szo E=some sz) (w:World) :
  (Instr.buildSlice T 0 #[]).run P w=.ok (.slice (some ⟨w.heap.size,0,none⟩) 0 0) (w.alloc (.cells #[] E)):=by
 have hso:=I7 (P:=P) hsz;simp only [Instr.buildSlice,Ys,run_underlying hu,hso,Yh];rw [if_neg (by simp),if_pos (by simp)];have hf:Instr.fill (fun i=>some (i * sz,sz)) (#[]:Array Value) []=some #[]:=rfl;have e2:((Array.range (0 * sz)).map fun x=>(#[]:Array Value)[x % (#[]:Array Value).size]!)=#[]:=by rw [Nat.zero_mul];simp
 simp only [Ys,Y6,Yh,e2,hf,Mx]
theorem Zw {P:Program}{N:Nat}{d:Option Tmp}{ty:Nat}{pos:String}{af:Array Edge}{gd:Option (Nat×Bool)}{e:Env}{w:World}{R:Env->World->(Env->World->Prop)->Prop}{K:Env->World->Prop}{w0:World}{B:LN}{G:List Res} (hH:Heap w0 B w G) (k:Nat) {T E:TypeId}{z:Value}
  (hu:P.underlying T=some (.slice E)) (hsz:P.szo E=some k) (hz:P.zeroOf E=some z) (hzl:z.cells.toList.length=k)
  (h:∀ g w',Heap w0 B w' (Yl E k (some ⟨g,0,none⟩) 0 0 []::G)->R (e.put d (.slice (some ⟨g,0,none⟩) 0 0)) w' K) :
  B9 P N ⟨d,.buildSlice T 0 #[],ty,pos,af,gd⟩ e w R K:=by
 refine Ki fun a m ha=>⟨.slice (some ⟨w.heap.size,0,none⟩) 0 0,w.alloc (.cells #[] E),m,?_,?_⟩
 ·
  have hr:=Qzh (P:=P) hu hsz (w.drewN m);simp only [execOp,Ys,Array.map_empty,Y6];rw [hr];rfl
 have:=hH.row E (n:=0) (cap:=0) (sz:=k) [] [] (by simp) (by simp) (Xm _) (by omega);exact h _ _ this
abbrev Ci:=LB×Value×Nat
def mE (x:Ci):MapEntry:=⟨Ab x.1,x.2.1,x.2.2⟩
def B5 (L:List Ci):Array MapEntry:=(L.map mE).toArray
structure M7 (L:List Ci) (cl:Nat):Prop where
 keys:(L.map (·.1)).Nodup
 borns:(L.map (·.2.2)).Nodup
 lt:∀ x∈L,x.2.2 < cl
def I4 (L:List Ci) (cl:Nat) (k:LB) (v:Value):List Ci:=if k∈L.map (·.1) then L.map (fun e=>if e.1=k then (k,v,e.2.2) else e) else L++[(k,v,cl)]
def L9 (L:List Ci) (cl:Nat) (k:LB):Nat:=if k∈L.map (·.1) then cl else cl+1
theorem Qki:M7 [] 0:=⟨by simp,by simp,by simp⟩
theorem Qvx (L:List Ci) (k:LB) (v:Value):(L.map (fun e=>if e.1=k then (k,v,e.2.2) else e)).map (·.2.2)=L.map (·.2.2):=by
 rw [Gn];apply U6;intro e _;simp only [Function.comp];split <;> rfl
theorem Qpt (L:List Ci) (k:LB) (v:Value):(L.map (fun e=>if e.1=k then (k,v,e.2.2) else e)).map (·.1)=L.map (·.1):=by
 rw [Gn];apply U6;intro e _;simp only [Function.comp];split
 ·
  rename_i h;exact h.symm
 rfl
theorem Qkj {L:List Ci}{cl:Nat} (h:M7 L cl) (k:LB) (v:Value):M7 (I4 L cl k v) (L9 L cl k):=by
 unfold I4 L9;by_cases hk:k∈L.map (·.1)
 ·
  rw [if_pos hk,if_pos hk];refine ⟨by rw [Qpt];exact h.keys,by rw [Qvx];exact h.borns,?_⟩;intro x hx;obtain ⟨e,he,rfl⟩:=Xw.1 hx;have:=h.lt e he;split <;> exact this
 rw [if_neg hk,if_neg hk];refine ⟨?_,?_,?_⟩
 ·
  rw [Xe,Hq];refine ⟨h.keys,by simp,?_⟩;intro a ha b hb;simp at hb;subst hb;rintro rfl;exact hk ha
 ·
  rw [Xe,Hq];refine ⟨h.borns,by simp,?_⟩;intro a ha b hb;simp at hb;subst hb;obtain ⟨e,he,rfl⟩:=Xw.1 ha;have:=h.lt e he;omega
 intro x hx;rcases U3.1 hx with hx | hx
 ·
  have:=h.lt x hx;omega
 simp at hx;subst hx;simp
theorem Qkk (k l:LB):((⟨k.toArray⟩:ByteArray) == ⟨l.toArray⟩)=decide (k=l):=by
 show (k.toArray == l.toArray)=_
 rw [Bool.eq_iff_iff,beq_iff_eq,decide_eq_true_eq];simp
def K3 (k:LB):List Ci->Nat->Option (Nat×Value)
 | [],_=>none
 | e::L,i=>if k=e.1 then some (i,e.2.1) else K3 k L (i+1)
theorem Qcc (k:LB):∀ (L:List Ci) (i:Nat),Instr.findNow .string (Ab k) (L.map mE) i=some (K3 k L i):=by
 intro L
 induction L with
 | nil=>intro i;rfl
 | cons e L ih =>
  intro i
  have hs:Instr.sameNow .string (Ab k) (mE e).key=some (decide (k=e.1)):=by
   show some ((⟨k.toArray⟩:ByteArray) == ⟨e.1.toArray⟩)=_
   congr 1
   rw [Qkk]
  rw [List.map_cons,Instr.findNow,hs,K3];by_cases h:k=e.1
  ·
   rw [if_pos h,decide_eq_true h];rfl
  rw [if_neg h,decide_eq_false h];exact ih (i+1)
theorem Qhk {k:LB}:∀ {L:List Ci}{i:Nat},k ∉ L.map (·.1)->K3 k L i=none:=by
 intro L
 induction L with
 | nil=>intro i _;rfl
 | cons e L ih =>
  intro i h;simp only [List.map_cons,Yz,not_or] at h;rw [K3,if_neg h.1];exact ih h.2
theorem Qhl {k:LB}:∀ {L:List Ci}{i:Nat},k∈L.map (·.1)->∃ (j:Nat) (e:Ci),K3 k L i=some (i+j,e.2.1)/\L[j]? = some e/\e.1=k:=by
 intro L
 induction L with
 | nil=>intro i h;simp at h
 | cons e L ih =>
  intro i h;by_cases hk:k=e.1
  ·
   exact ⟨0,e,by rw [K3,if_pos hk];rfl,rfl,hk.symm⟩
  simp only [List.map_cons,Yz,hk,false_or] at h;obtain ⟨j,e',h1,h2,h3⟩:=ih (i:=i+1) h;exact ⟨j+1,e',by rw [K3,if_neg hk,h1,G6,Nat.add_comm 1 j],h2,h3⟩
theorem Qvy {L:List Ci} (hn:(L.map (·.1)).Nodup) {j:Nat}{e:Ci} (hj:L[j]? = some e) (k:LB) (v:Value) (hk:e.1=k) :
  (B5 L).modify j (fun e=>{ e with key:=Ab k,val:=v })=B5 (L.map (fun e=>if e.1=k then (k,v,e.2.2) else e)):=by
 apply Array.ext_getElem?;intro i;rw [Array.getElem?_modify];simp only [B5,Ua,Y1];by_cases h:j=i
 ·
  subst h;rw [if_pos rfl,hj];simp [mE,hk]
 rw [if_neg h];cases hi:L[i]? with
 | none=>rfl
 | some e' =>
  have hne:e'.1≠k:=by
   intro he;apply h;have h1:(L.map (·.1))[j]? = some k:=by rw [Y1,hj];simp [hk]
   have h2:(L.map (·.1))[i]? = some k:=by rw [Y1,hi];simp [he]
   obtain ⟨b1,c1⟩:=Yn.1 h1;obtain ⟨b2,c2⟩:=Yn.1 h2;exact (List.getElem_inj hn).1 (c1.trans c2.symm)
  simp [hne]
section
variable {P:Program}{N:Nat}{d:Option Tmp}{ty:Nat}{pos:String}{af:Array Edge}{gd:Option (Nat×Bool)}{e:Env}{w:World}{R:Env->World->(Env->World->Prop)->Prop}{K:Env->World->Prop}{w0:World}{B:LN}{G:List Res}
theorem Qc8 {T:TypeId} (h:R (e.put d (.map (some w.heap.size))) (w.alloc (.map #[] 0)) K):B9 P N ⟨d,.makeMap T none,ty,pos,af,gd⟩ e w R K :=
 Ki fun a n ha=>⟨_,_,n,rfl,h⟩
theorem Zk {W:World}{g:Nat}{o:Obj} (h:W.heap[g]? = some o) (hc:∀ c T fz,o≠.cells c T fz):(getObj g).run P W=.ok o W:=by
 cases o <;> simp [getObj,Sem.run,h]
 exact absurd rfl (hc _ _ _)
theorem Zl {W:World}{g:Nat}{o:Obj} (h:W.heap[g]? = some o) (o':Obj) (hm:(∃ es cl,o=.map es cl)∨∃ m s n c,o=.mapIter m s n c):(setObj g o').run P W=.ok () (W.putObj g o'):=by
 rcases hm with ⟨es,cl,rfl⟩ | ⟨m,s,n,c,rfl⟩ <;> simp [setObj,Sem.run,h,World.putObj]
theorem Qjb {W:World}{T kt et:TypeId} (hT:P.underlying T=some (.map kt et)) (hk:P.underlying kt=some .string) {g:Nat}{L:List Ci}{cl:Nat} (hg:W.heap[g]? = some (.map (B5 L) cl)) (hok:M7 L cl) (k:LB) (v:Value) :
  (Instr.mapUpdate T (.map (some g)) (Ab k) v).run P W=.ok () (W.putObj g (.map (B5 (I4 L cl k v)) (L9 L cl k))):=by
 have hck:∀ W:World,(Instr.checkKey false 10000 kt (Ab k)).run P W=.ok () W:=fun W=>by
  unfold Instr.checkKey;simp only [Ys,run_underlying hk,Yh];rfl
 have hfk:∀ W:World,(Instr.findKey kt (Ab k) (B5 L).toList).run P W=.ok (K3 k L 0) W:=fun W=>by
  unfold Instr.findKey;simp only [Ys,run_underlying hk,Yh];rw [show (B5 L).toList=L.map mE from rfl,Qcc];rfl
 simp only [Instr.mapUpdate,Ys,run_underlying hT,Yh,Zk hg (by simp),hck,hfk];by_cases hm:k∈L.map (·.1)
 ·
  obtain ⟨j,e,h1,h2,h3⟩:=Qhl (i:=0) hm
  have hks:∀ W:World,(Instr.keyThatStays (Ab e.1) (Ab k)).run P W=.ok (Ab k) W:=fun W=>by
   unfold Instr.keyThatStays
   have hs:Instr.sameBits 10000 (Ab e.1) (Ab k)=true:=by
    rw [h3]
    show ((⟨k.toArray⟩:ByteArray) == ⟨k.toArray⟩)=true
    rw [Qkk];simp
   rw [hs];rfl
  have hgk:(((B5 L)[0+j]?).map (·.key)).getD (Ab k)=Ab e.1:=by
   rw [Y5];simp only [B5,Ua,Y1,h2];rfl
  rw [h1];simp only [hgk,Ys,hks,Yh];rw [Y5,Qvy hok.keys h2 k v h3,Zl hg _ (.inl ⟨_,_,rfl⟩)];simp only [I4,L9,if_pos hm]
 rw [Qhk hm];simp only [];rw [Zl hg _ (.inl ⟨_,_,rfl⟩)];simp only [I4,L9,if_neg hm]
 congr 3
 simp [B5,mE]
theorem Qcd (hH:Heap w0 B w G) (i:Nat) {g:Nat}{o:Obj} (hi:G[i]? = some (Yu g o)) (o':Obj):Heap w0 B (w.putObj g o') (G.set i (Yu g o')):=by
 have hlt:g < w.heap.size:=(hH.foot _ (Y9 hi) g (by simp [Yu])).2;refine hH.set i hi ⟨rfl,rfl,rfl,by rw [W9];exact Xm _,fun k _ hk=>Qj7 (by simpa [Yu] using hk)⟩ (Qj6 hlt) fun b hb=>?_;simp [Yu] at hb;subst hb;exact ⟨.inl (by simp [Yu]),by rw [W9];exact hlt⟩
theorem Qaf (hH:Heap w0 B w G) (i:Nat) {T kt et:TypeId}{g cl:Nat}{L:List Ci}{m k x:Operand} (hi:G[i]? = some (Yu g (.map (B5 L) cl))) (hok:M7 L cl) (hT:P.underlying T=some (.map kt et)) (hk:P.underlying kt=some .string)
  (h:Am e m fun mv=>Am e k fun kv=>Am e x fun xv=>mv=.map (some g)/\∃ s,kv=Ab s/\∀ w',Heap w0 B w' (G.set i (Yu g (.map (B5 (I4 L cl s xv)) (L9 L cl s))))->R (e.put d undef) w' K):B9 P N ⟨d,.mapUpdate T m k x,ty,pos,af,gd⟩ e w R K :=
 Qem fun a n ha=>by
  obtain ⟨hm,s,hs,hR⟩:=Cp (K:=fun xv=>a.eval m=.map (some g)/\∃ s,a.eval k=Ab s/\∀ w',Heap w0 B w' (G.set i (Yu g (.map (B5 (I4 L cl s xv)) (L9 L cl s))))->R (e.put d undef) w' K) ha
   (Cp (K:=fun kv=>Am e x fun xv=>a.eval m=.map (some g)/\∃ s,kv=Ab s/\∀ w',Heap w0 B w' (G.set i (Yu g (.map (B5 (I4 L cl s xv)) (L9 L cl s))))->R (e.put d undef) w' K) ha
    (Cp (K:=fun mv=>Am e k fun kv=>Am e x fun xv=>mv=.map (some g)/\∃ s,kv=Ab s/\∀ w',Heap w0 B w' (G.set i (Yu g (.map (B5 (I4 L cl s xv)) (L9 L cl s))))->R (e.put d undef) w' K) ha h))
  have hg:w.heap[g]? = some (.map (B5 L) cl):=hH.at i hi;refine ⟨w.putObj g (.map (B5 (I4 L cl s (a.eval x))) (L9 L cl s)),n,?_,hR _ (Qcd hH i hi _)⟩;have hg':(w.drewN n).heap[g]? = some (.map (B5 L) cl):=hg;simp only [execOp,Ys,hm,hs,Qjb hT hk hg' hok,Yh,Y6];rfl
def Nw (L:List Ci) (k:LB):Option Value:=(K3 k L 0).map (·.2)
theorem Qoc (hH:Heap w0 B w G) (i:Nat) {T kt et:TypeId}{g cl:Nat}{L:List Ci}{m k:Operand}{c:Bool}{z:Value} (hi:G[i]? = some (Yu g (.map (B5 L) cl))) (hT:P.underlying T=some (.map kt et)) (hk:P.underlying kt=some .string) (hz:P.zeroOf et=some z)
  (h:Am e m fun mv=>Am e k fun kv=>mv=.map (some g)/\∃ s,kv=Ab s/\R (e.put d (if c then .tuple #[(Nw L s).getD z,.bool (Nw L s).isSome] else (Nw L s).getD z)) w K):B9 P N ⟨d,.lookup T m k c,ty,pos,af,gd⟩ e w R K :=
 Ki fun a n ha=>by
  obtain ⟨hm,s,hs,hR⟩:=Cp (K:=fun kv=>a.eval m=.map (some g)/\∃ s,kv=Ab s/\R (e.put d (if c then .tuple #[(Nw L s).getD z,.bool (Nw L s).isSome] else (Nw L s).getD z)) w K) ha
   (Cp (K:=fun mv=>Am e k fun kv=>mv=.map (some g)/\∃ s,kv=Ab s/\R (e.put d (if c then .tuple #[(Nw L s).getD z,.bool (Nw L s).isSome] else (Nw L s).getD z)) w K) ha h)
  have hg:(w.drewN n).heap[g]? = some (.map (B5 L) cl):=hH.at i hi;refine ⟨_,w,n,?_,hR⟩
  have hck:∀ b (W:World),(Instr.checkKey b 10000 kt (Ab s)).run P W=.ok () W:=fun b W=>by
   unfold Instr.checkKey;simp only [Ys,run_underlying hk,Yh];rfl
  have hfk:∀ W:World,(Instr.findKey kt (Ab s) (B5 L).toList).run P W=.ok (K3 s L 0) W:=fun W=>by
   unfold Instr.findKey;simp only [Ys,run_underlying hk,Yh];rw [show (B5 L).toList=L.map mE from rfl,Qcc];rfl
  simp only [execOp,Ys,hm,hs,Instr.lookup,run_underlying hT,Yh,Zk hg (by simp),Y6,hck,hfk];unfold Nw;cases K3 s L 0 with
  | none=>simp only [Ys,Zh hz,Yh,Y6];cases c <;> rfl
  | some p=>obtain ⟨j,v⟩:=p;simp only [Ys,Yh,Y6];cases c <;> rfl
theorem Qjc (hH:Heap w0 B w G) (i:Nat) {T kt et:TypeId}{g cl:Nat}{L:List Ci}{m:Operand} (hi:G[i]? = some (Yu g (.map (B5 L) cl))) (hT:P.underlying T=some (.map kt et))
  (h:Am e m fun mv=>mv=.map (some g)/\R (e.put d (.pointer (some ⟨w.heap.size,0,none⟩))) (w.alloc (.mapIter (some g) cl #[] cl)) K):B9 P N ⟨d,.range T m,ty,pos,af,gd⟩ e w R K :=
 Ki fun a n ha=>by
  obtain ⟨hm,hR⟩:=Cp (K:=fun mv=>mv=.map (some g)/\R (e.put d (.pointer (some ⟨w.heap.size,0,none⟩))) (w.alloc (.mapIter (some g) cl #[] cl)) K) ha h;have hg:(w.drewN n).heap[g]? = some (.map (B5 L) cl):=hH.at i hi;refine ⟨_,w.alloc (.mapIter (some g) cl #[] cl),n,?_,hR⟩;simp only [execOp,Ys,hm,Instr.range,run_underlying hT,Yh,Zk hg (by simp),Y6];rfl
theorem Qlz (hH:Heap w0 B w G) (i j:Nat) {g r cl:Nat}{L:List Ci}{D:List Ci}{it:Operand} (hi:G[i]? = some (Yu g (.map (B5 L) cl))) (hj:G[j]? = some (Yu r (.mapIter (some g) cl (D.map (·.2.2)).toArray cl))) (hok:M7 L cl)
  (h:Am e it fun iv=>iv=.pointer (some ⟨r,0,none⟩)/\((∀ x∈L,x.2.2∈D.map (·.2.2))->R (e.put d (.tuple #[.bool false])) w K) /\
   (∀ x∈L,x.2.2 ∉ D.map (·.2.2)->∀ w',Heap w0 B w' (G.set j (Yu r (.mapIter (some g) cl ((D++[x]).map (·.2.2)).toArray cl)))->R (e.put d (.tuple #[.bool true,Ab x.1,x.2.1])) w' K)):B9 P N ⟨d,.next it false,ty,pos,af,gd⟩ e w R K :=
 Ki fun a n ha=>by
  obtain ⟨hm,hR0,hR1⟩:=Cp (K:=fun iv=>iv=.pointer (some ⟨r,0,none⟩)/\((∀ x∈L,x.2.2∈D.map (·.2.2))->R (e.put d (.tuple #[.bool false])) w K) /\
   (∀ x∈L,x.2.2 ∉ D.map (·.2.2)->∀ w',Heap w0 B w' (G.set j (Yu r (.mapIter (some g) cl ((D++[x]).map (·.2.2)).toArray cl)))->R (e.put d (.tuple #[.bool true,Ab x.1,x.2.1])) w' K)) ha h
  have hg:(w.drewN n).heap[g]? = some (.map (B5 L) cl):=hH.at i hi;have hr:(w.drewN n).heap[r]? = some (.mapIter (some g) cl (D.map (·.2.2)).toArray cl):=hH.at j hj
  have hlo:∀ x,x∈(leftOf (B5 L) (D.map (·.2.2)).toArray).toList ↔ ∃ y∈L,x=mE y/\y.2.2 ∉ D.map (·.2.2):=by
   intro x;simp only [leftOf,B5,Array.toList_filter,U4,Xw];constructor
   ·
    rintro ⟨⟨y,hy,rfl⟩,h2⟩;refine ⟨y,hy,rfl,?_⟩;simp [mE] at h2;simpa using h2
   rintro ⟨y,hy,rfl,h2⟩;refine ⟨⟨y,hy,rfl⟩,?_⟩;simp [mE];simpa using h2
  rcases run_next_at (P:=P) (w.drewN n) ty r g cl cl (D.map (·.2.2)).toArray (B5 L) cl hr hg (fun x hx=>by
    obtain ⟨y,hy,rfl⟩:=Xw.1 (show x∈L.map mE from hx);exact hok.lt y hy) (Xm _) with ⟨h0,hrun⟩ | ⟨x,hx,w1,hw1,hrun⟩
  ·
   refine ⟨_,w,n,by simp only [execOp,Ys,hm,hrun,Yh,Y6],hR0 fun x hx=>?_⟩;apply Classical.byContradiction;intro hn;have:=(hlo (mE x)).2 ⟨x,hx,rfl,hn⟩;rw [Array.eq_empty_of_size_eq_zero h0] at this;simp at this
  obtain ⟨y,hy,rfl,hn⟩:=(hlo x).1 hx;have e1:((D.map (·.2.2)).toArray.push (mE y).born)=((D++[y]).map (·.2.2)).toArray:=by simp [mE]
  rw [e1] at hrun
  obtain ⟨m1,hm1⟩:∃ m1,w1=w.drewN m1:=by
   rcases hw1 with rfl | rfl
   ·
    exact ⟨n,rfl⟩
   exact ⟨n+1,rfl⟩
  subst hm1;exact ⟨_,w.putObj r (.mapIter (some g) cl ((D++[y]).map (·.2.2)).toArray cl),m1,by simp only [execOp,Ys,hm,hrun,Yh,Y6];rfl,hR1 y hy hn _ (Qcd hH j hj _)⟩
theorem Qro (hH:Heap w0 B w G) (i j:Nat) {g r cl:Nat}{L:List Ci}{D:List Ci}{x:Ci}{it:Operand} (hi:G[i]? = some (Yu g (.map (B5 L) cl))) (hj:G[j]? = some (Yu r (.mapIter (some g) cl ((D++[x]).map (·.2.2)).toArray cl))) (hok:M7 L cl) (hx:x∈L)
  (h:Am e it fun iv=>iv=.pointer (some ⟨r,0,none⟩)/\R (e.put d (.tuple #[Ab x.1,x.2.1])) w K):B9 P N ⟨d,.entry it,ty,pos,af,gd⟩ e w R K :=
 Ki fun a n ha=>by
  obtain ⟨hm,hR⟩:=Cp (K:=fun iv=>iv=.pointer (some ⟨r,0,none⟩)/\R (e.put d (.tuple #[Ab x.1,x.2.1])) w K) ha h;have hg:(w.drewN n).heap[g]? = some (.map (B5 L) cl):=hH.at i hi
  have hr:(w.drewN n).heap[r]? = some (.mapIter (some g) cl ((D.map (·.2.2)).toArray.push (mE x).born) cl):=by
   have:=hH.at j hj;have e1:((D.map (·.2.2)).toArray.push (mE x).born)=((D++[x]).map (·.2.2)).toArray:=by simp [mE]
   rw [e1];exact this
  have hrun:=run_entry_at (P:=P) (w.drewN n) r g cl (D.map (·.2.2)).toArray (B5 L) cl (mE x) hr hg (G4 hx) (by
   have:=hok.borns;rw [show (B5 L).toList=L.map mE from rfl,Gn];exact this)
  exact ⟨_,w,n,by simp only [execOp,Ys,hm,hrun,Yh,Y6];rfl,hR⟩
end
variable {P:Program}{N:Nat}{d:Option Tmp}{ty:Nat}{pos:String}{af:Array Edge}{gd:Option (Nat×Bool)}{e:Env}{w:World}{R:Env->World->(Env->World->Prop)->Prop}{K:Env->World->Prop}{w0:World}{B:LN}{G:List Res}
theorem Qkl {A A':Value->Prop} (hA:∀ v,A v->A' v) {n:Nat}:∀ {e:Env},Eu e n A->Eu e n A'
 | [],h=>h
 | p::e,h=>by
  rw [Eu] at *;split <;> rename_i hn
  ·
   rw [if_pos hn] at h;exact hA _ h
  rw [if_neg hn] at h;exact Qkl hA h
theorem Qzi {x:Operand}{A A':Value->Prop} (hA:∀ v,A v->A' v) (h:Am e x A):Am e x A':=by
 cases x with
 | tmp t=>exact Qkl hA h
 | const v=>exact hA _ h
 | global g=>exact hA _ h
 | func f=>exact hA _ h
theorem Iq (hH:Heap w0 B w G) (cs:LV) {T:TypeId}{x:Operand}
  (h:Am e x fun v=>v.cells=cs.toArray/\∀ g w',Heap w0 B w' (Yg g T cs::G)->R (e.put d (.pointer (some ⟨g,0,none⟩))) w' K):B9 P N ⟨d,.box T x,ty,pos,af,gd⟩ e w R K :=
 Dl (Qzi (fun v ⟨hv,h⟩=>by rw [hv];exact h _ _ (hH.box T cs)) h)
theorem Dg (hH:Heap w0 B w G) (cs:LV) {T:TypeId} (h:∀ g w',Heap w0 B w' (Yg g T cs::G)->R (e.put d (.pointer (some ⟨g,0,none⟩))) w' K) (hz:(P.zeroOf T).map Uf=some cs.toArray:=by kernel_rfl) :
  B9 P N ⟨d,.alloc T,ty,pos,af,gd⟩ e w R K:=by
 cases h0:P.zeroOf T with
 | none=>rw [h0] at hz;cases hz
 | some z =>
  rw [h0] at hz;have hz:z.cells=cs.toArray:=Option.some.inj hz;refine Bo z h0 ?_;rw [hz];exact h _ _ (hH.box T cs)
theorem CallK.heap {f:FuncId}{args:LV}{C F:Value->World->Prop}{G':Value->List Res} (hH:Heap w0 B w G) (h:Does P f args.toArray w fun v w'=>Heap w [] w' (G' v)/\F v w') (hc:∀ v w',Heap w0 B w' (G' v++G)->F v w'->C v w'):CallK P f args w C :=
 Yk h fun v w' ⟨h1,h2⟩=>hc v w' (hH.call0 h1) h2
def N7 (L:List Ci) (k:LB):List Ci:=match K3 k L 0 with
 | some (j,_)=>L.eraseIdx j
 | none=>L
theorem Qpu {L:List Ci} (hn:(L.map (·.1)).Nodup) (k:LB) (e:Ci):e∈N7 L k ↔ e∈L/\e.1≠k:=by
 unfold N7;by_cases hk:k∈L.map (·.1)
 ·
  obtain ⟨j,x,h1,h2,h3⟩:=Qhl (i:=0) hk;rw [h1,Y5]
  show e∈L.eraseIdx j ↔ _
  obtain ⟨hj,hx⟩:=Yn.1 h2;rw [List.mem_eraseIdx_iff_getElem?];constructor
  ·
   rintro ⟨i,hi,he⟩;refine ⟨Y9 he,fun h=>hi ?_⟩;have a1:(L.map (·.1))[j]? = some k:=by rw [Y1,h2];simp [h3]
   have a2:(L.map (·.1))[i]? = some k:=by rw [Y1,he];simp [h]
   obtain ⟨b1,c1⟩:=Yn.1 a1;obtain ⟨b2,c2⟩:=Yn.1 a2;exact ((List.getElem_inj hn).1 (c1.trans c2.symm)).symm
  rintro ⟨he,hne⟩;obtain ⟨i,hi⟩:=List.getElem?_of_mem he;refine ⟨i,fun h=>hne ?_,hi⟩;subst h;rw [h2] at hi;exact (congrArg (·.1) (Option.some.inj hi)).symm.trans h3
 rw [Qhk hk];exact ⟨fun h=>⟨h,fun e2=>hk (e2 ▸ G4 h)⟩,(·.1)⟩
theorem Qdh (L:List Ci) (k:LB):(N7 L k).Sublist L:=by
 unfold N7;split
 ·
  exact List.eraseIdx_sublist ..
 exact List.Sublist.refl _
theorem Qvz {L:List Ci}{cl:Nat} (h:M7 L cl) (k:LB):M7 (N7 L k) cl :=
 ⟨((Qdh L k).map _).nodup h.keys,((Qdh L k).map _).nodup h.borns,fun x hx=>h.lt x ((Qdh L k).subset hx)⟩
theorem Qc9 {α β:Type} (f:α->β):∀ (l:List α) (i:Nat),(l.map f).eraseIdx i=(l.eraseIdx i).map f
 | [],_=>rfl
 | _::_,0=>rfl
 | x::l,i+1=>by simp [Qc9 f l i]
theorem Qod (hH:Heap w0 B w G) (i:Nat) {T T' kt et:TypeId}{g cl:Nat}{L:List Ci}{os:Array Operand} (hi:G[i]? = some (Yu g (.map (B5 L) cl))) (hT:P.underlying T=some (.map kt et)) (hk:P.underlying kt=some .string)
  (h:Cz e os.toList fun vs=>∃ s,vs=[.map (some g),Ab s]/\∀ w',Heap w0 B w' (G.set i (Yu g (.map (B5 (N7 L s)) cl)))->R (e.put d (.tuple #[])) w' K) :
  B9 P N ⟨d,.call { callee:=.builtin .delete,args:=os,argTypes:=#[T,T'] },ty,pos,af,gd⟩ e w R K :=
 Ki fun a n ha=>by
  obtain ⟨s,hs,hR⟩:=Lt (K:=fun vs=>∃ s,vs=[.map (some g),Ab s]/\∀ w',Heap w0 B w' (G.set i (Yu g (.map (B5 (N7 L s)) cl)))->R (e.put d (.tuple #[])) w' K) ha h;have hg:(w.drewN n).heap[g]? = some (.map (B5 L) cl):=hH.at i hi;refine ⟨.tuple #[],w.putObj g (.map (B5 (N7 L s)) cl),n,?_,hR _ (Qcd hH i hi _)⟩
  have hck:∀ b (W:World),(Instr.checkKey b 10000 kt (Ab s)).run P W=.ok () W:=fun b W=>by
   unfold Instr.checkKey;simp only [Ys,run_underlying hk,Yh];rfl
  have hfk:∀ W:World,(Instr.findKey kt (Ab s) (B5 L).toList).run P W=.ok (K3 s L 0) W:=fun W=>by
   unfold Instr.findKey;simp only [Ys,run_underlying hk,Yh];rw [show (B5 L).toList=L.map mE from rfl,Qcc];rfl
  have hm:(os.map a.eval)=#[.map (some g),Ab s]:=by rw [Nl os a,hs]
  simp only [execOp,resolve,invoke,builtin,hm,Builtin.delete_,Ys,Y6,Yh,run_underlying hT];simp [run_underlying hT,Zk hg (by simp),hck,hfk];have e:∀ o,((fun a=>Value.tuple #[]) <$> setObj g o:Sem Value)=(setObj g o >>= fun a=>pure (Value.tuple #[])):=fun _=>rfl;unfold N7;cases h0:K3 s L 0 with
  | none=>simp only [e,Ys,Zl hg _ (.inl ⟨_,_,rfl⟩),Yh,Y6];rfl
  | some p =>
   obtain ⟨j,v⟩:=p;simp only [e,Ys,Zl hg _ (.inl ⟨_,_,rfl⟩),Yh,Y6];rw [show (B5 L).eraseIdxIfInBounds j=B5 (L.eraseIdx j) by rw [B5,B5,List.eraseIdxIfInBounds_toArray,Qc9]];rfl
end Go.Eng
namespace Go.Proofs.YtfinjnahapbemaaGreatDoor
open Go Go.Eng
def R2 (r:Nat):Nat:=if 2147483648<=r then (r * 2 % 4294967296) ^^^ 79764919 else r * 2 % 4294967296
def Ob:Nat->Nat->Nat
 | 0,r=>r
 | k+1,r=>R2 (Ob k r)
def tab (i:Nat):Nat:=Ob 8 (i * 16777216)
def Vy (r:Nat) (b:UInt8):Nat:=(r * 256 % 4294967296) ^^^ tab (r / 16777216 ^^^ b.toNat)
def Nq (r:Nat) (s:LB):Nat:=s.foldl Vy r
def Ck (s:LB):Nat:=4294967295 - Nq 4294967295 s
def I6 (l:LN):Nat:=l.foldl (fun c x=>((c * 2 % 4294967296) ||| c / 2147483648) ^^^ x) 0
def Bd (l:LN):LV:=l.map fun (n:Nat)=>Y8 .u32 (n:Int)
theorem St (l:LN):(Bd l).length=l.length:=by simp [Bd]
theorem Qio {l:LN}{i:Nat} (h:i < l.length):(Bd l)[i]? = some (.int .u32 ((l.getD i 0:Nat):Int)):=by
 simp [Bd,Yb h,Yf]
theorem QK6 {r:Nat} (h:r < 4294967296):R2 r < 4294967296:=by
 unfold R2;split
 ·
  exact Xr (n:=32) (X4 _ (by decide)) (by decide)
 exact X4 _ (by decide)
theorem Qte {r:Nat} (h:r < 4294967296):∀ k,Ob k r < 4294967296
 | 0=>h
 | k+1=>QK6 (Qte h k)
theorem Qm8 (i:Nat) (h:i < 256):tab i < 4294967296:=by
 unfold tab;exact Qte (by omega) 8
theorem Qrp {r:Nat} (h:r < 4294967296) (b:UInt8):Vy r b < 4294967296:=by
 unfold Vy;refine Xr (n:=32) (X4 _ (by decide)) (Qm8 _ ?_);have:=b.toNat_lt;exact Xr (n:=8) (by omega) (by omega)
theorem Zm (s:LB):∀ {r:Nat},r < 4294967296->Nq r s < 4294967296:=by
 induction s with
 | nil=>intro r h;exact h
 | cons b s ih=>intro r h;exact ih (Qrp h b)
theorem Ql0 (r:Nat) (s:LB) (b:UInt8):Nq r (s++[b])=Vy (Nq r s) b:=by simp [Nq]
def tabs:LN:=(Ym 256).map tab
theorem Su:tabs.length=256:=by
 unfold tabs;rw [U5,Hp]
theorem Qpv {i:Nat} (h:i < 256):tabs.getD i 0=tab i:=by
 unfold tabs;rw [Yf,Y1,List.getElem?_range h,Option.map_some,Option.getD_some]
theorem QE8 {r:Nat} (h:r < 4294967296):r &&& 2147483648=if 2147483648<=r then 2147483648 else 0:=by
 rw [show (2147483648:Nat)=2 ^ 31 from rfl];apply Nat.eq_of_testBit_eq;intro j;rw [Nat.testBit_and,U7];by_cases hj:31=j
 ·
  subst hj;rw [Nat.testBit_eq_decide_div_mod_eq];by_cases h1:2 ^ 31<=r
  ·
   have:r / 2 ^ 31 % 2=1:=by omega
   rw [if_pos h1,this,U7];rfl
  have:r / 2 ^ 31 % 2=0:=by omega
  rw [if_neg h1,this];simp
 simp only [hj,decide_false,Bool.and_false];split
 ·
  rw [U7];simp [hj]
 simp
theorem Qhm (w:World):Does Yd 76 #[] w fun v w'=>Heap w [] w' []/\v=.agg (Bd tabs).toArray:=by
 refine En [] 26 Tryz.func76 ?_;refine VQ [0] fun K hK=>?_;refine Bo (.agg (Bd (Ya 256 0)).toArray) (by kernel_rfl) ?_;have hH:=(Yx w).box 139 (Bd (Ya 256 0));have ecells:(Ux (Bd (Ya 256 0)).toArray).cells=(Bd (Ya 256 0)).toArray:=rfl;rw [ecells];generalize w.alloc (Yo (Bd (Ya 256 0)).toArray 139)=w1 at *;generalize w.heap.size=g0 at *;refine Qs ?_;apply hK;clear hK;refine VQ [0,1] fun K hK=>?_;refine Bo (.agg (Bd (Ya 256 0)).toArray) (by kernel_rfl) ?_;have hH2:=hH.box 139 (Bd (Ya 256 0));rw [ecells];generalize w1.alloc (Yo (Bd (Ya 256 0)).toArray 139)=w2 at *;generalize w1.heap.size=g1 at *;refine Qs ?_;apply hK;clear hK;clear ecells hH;refine VS [0,1,4] ?_;refine VB ?_;refine Ay [0,1,4] (fun m e w'=>∃ (i:Nat),Is e [(0,.pointer (some ⟨g0,0,none⟩)),(1,.pointer (some ⟨g1,0,none⟩)),(4,.int .i64 i)]/\Heap w [] w' [Yg g1 139 (Bd ((Ym i).map tab++Ya (256 - i) 0)),Yg g0 139 (Bd (Ya 256 0))]/\i<=256/\m=256 - i) 256 ?_ ?_
 ·
  refine Qs ?_;exact ⟨0,rfl,hH2,by omega,rfl⟩
 clear hH2;rintro m e w' ⟨i,rfl,hH,hi,rfl⟩;refine VS [0,1,4,5] ?_;(repeat refine Aw ?_);refine VD (fun h=>?_) (fun h=>?_)
 ·
  refine Ad ?_;refine VB ?_;refine VS [0,1,2,4] ?_
  have e24:(i:Int) % 4294967296 * 2 ^ By Xb 24 % 4294967296=((Ob 0 (i * 16777216):Nat):Int):=by
   rw [show By Xb 24=24 from rfl,Ob];omega
  refine VQ [0,1,2,3,4] fun K hK=>?_;rw [e24];(repeat refine Qo ?_);apply hK;clear hK;refine VS [0,1,2,3,4,10] ?_;refine VB ?_;refine Ay [0,1,2,3,4,10] (fun m e w2=>∃ (k:Nat),Is e [(0,.pointer (some ⟨g0,0,none⟩)),(1,.pointer (some ⟨g1,0,none⟩)),(2,.int .i64 i),(3,.int .u32 (Ob k (i * 16777216):Nat)),(4,.int .i64 i),(10,.int .i64 k)]/\Is w2 w'/\k<=8/\m=8 - k) 8 ?_ ?_
  ·
   refine Qs ?_;exact ⟨0,rfl,rfl,by omega,rfl⟩
  rintro m e w2 ⟨k,rfl,rfl,hk,rfl⟩;refine VS [0,1,2,3,4,10,11] ?_;(repeat refine Aw ?_);refine VD (fun h=>?_) (fun h=>?_)
  ·
   refine Ad ?_;refine VB ?_;have hr:=Qte (r:=i * 16777216) (by omega) k;have hsh:Ob (k+1) (i * 16777216)=R2 (Ob k (i * 16777216)):=rfl;generalize Ob k (i * 16777216)=r at *;have hand:=QE8 hr;refine VQ [0,1,2,3,4,10,14] fun K hK=>?_;refine ⟨⟨by omega,by omega⟩,⟨by omega,by omega⟩,?_⟩;rw [show Ge 2147483648=2147483648 from rfl,hand];apply hK;clear hK
   have fin:∀ q:Nat,q=R2 r->Ep [0,1,2,3,4,10] [(0,.pointer (some ⟨g0,0,none⟩)),(1,.pointer (some ⟨g1,0,none⟩)),(2,.int .i64 i),(3,.int .u32 q),(4,.int .i64 i),(10,.int .i64 (k+1))] fun e=>∃ m,m < 8 - k/\∃ (k:Nat),Is e [(0,.pointer (some ⟨g0,0,none⟩)),(1,.pointer (some ⟨g1,0,none⟩)),(2,.int .i64 i),(3,.int .u32 (Ob k (i * 16777216):Nat)),(4,.int .i64 i),(10,.int .i64 k)]/\Is w2 w2/\k<=8/\m=8 - k:=by
    intro q hq;refine Qs ?_;exact ⟨8 - (k+1),by omega,k+1,by rw [hsh,hq];rfl,rfl,by omega,rfl⟩
   by_cases hbig:2147483648<=r
   ·
    refine Ai rfl rfl (fun h=>?_) (fun h=>by simp [hbig] at h);refine VQ [0,1,2,3,4,10] fun K hK=>?_
    have e1:(r:Int) * 2 ^ By Xb 1 % 4294967296=((r * 2 % 4294967296:Nat):Int):=by
     rw [show By Xb 1=1 from rfl];omega
    rw [e1];refine ⟨by omega,⟨by omega,by omega⟩,⟨by omega,by omega⟩,?_⟩;apply hK;clear hK;refine An ?_;refine VS [0,1,2,3,4,10] ?_;refine Ah ?_;refine fin _ ?_;rw [R2,if_pos hbig];rfl
   refine Ai rfl rfl (fun h=>by simp [hbig] at h) (fun h=>?_);refine VQ [0,1,2,3,4,10] fun K hK=>?_
   have e1:(r:Int) * 2 ^ By Xb 1 % 4294967296=((r * 2 % 4294967296:Nat):Int):=by
    rw [show By Xb 1=1 from rfl];omega
   rw [e1];(repeat refine Qo ?_);apply hK;clear hK;refine An ?_;refine VS [0,1,2,3,4,10] ?_;refine Ah ?_;refine fin _ ?_;rw [R2,if_neg hbig]
  refine Ax rfl ?_;have hk8:k=8:=by omega
  subst hk8;refine VQ [0,1,4] fun K hK=>?_;(repeat first | refine Qo ?_ | refine Qp ?_);refine Ag ?_;refine Qs ?_;refine Ap hH 0 (vs:=[.int .u32 (tab i:Nat)]) rfl rfl (by kernel_rfl) (by rw [St];simp;omega) (by simp [Yr]) fun w6 hH2=>?_
  have hset:(Bd ((Ym i).map tab++Ya (256 - i) 0)).take i++[Y8 .u32 (tab i:Nat)]++(Bd ((Ym i).map tab++Ya (256 - i) 0)).drop (i+1)=Bd ((Ym (i+1)).map tab++Ya (256 - (i+1)) 0):=by
   rw [Dm _ _ _ (by rw [St];simp;omega)];rw [Xu,Xe,show 256 - i=(256 - (i+1))+1 by omega,Ul];simp [Bd,Xh]
  simp only [Yj] at hH2;rw [hset] at hH2;apply hK;clear hK;refine An ?_;refine VS [0,1,4] ?_;refine Ah ?_;refine Qs ?_;exact ⟨256 - (i+1),by omega,i+1,rfl,hH2,by omega,rfl⟩
 refine Ax rfl ?_;have hi:i=256:=by omega
 subst hi;have e:(Ym 256).map tab++Ya (256 - 256) 0=tabs:=by simp [tabs]
 rw [e] at hH;refine VQ [0] fun K hK=>?_;refine ⟨Bd tabs,⟨by rw [St,Su],Bu (hH.at 0 rfl)⟩,?_⟩;refine Ag ?_;refine Qs ?_;have hlen:(Bd tabs).length=256:=by rw [St,Su]
 have hlen0:(Bd (Ya 256 0)).length=256:=by simp [Bd]
 refine Ap hH 1 (vs:=Bd tabs) rfl rfl (by rw [hlen];kernel_rfl) (by rw [hlen,hlen0];omega) (by intro u hu;obtain ⟨n,_,rfl⟩:=Xw.1 hu;rfl) fun w6 hH2=>?_
 have e2:(Bd (Ya 256 0)).take 0++Bd tabs++(Bd (Ya 256 0)).drop (0+(Bd tabs).length)=Bd tabs:=by
  rw [Gf,Yp,Y3 (by rw [hlen,hlen0];omega),Yi]
 rw [e2] at hH2;apply hK;clear hK;refine Ae (Np rfl rfl (Fm (hH2.at 1 rfl) (by kernel_rfl) (by kernel_rfl) hlen ?_));exact ⟨hH2.sub (by simp),rfl⟩
theorem isR {α:Sort _} (a:α):Is a a:=rfl
def Ma (v:Nat):Nat->Nat
 | 0=>0
 | i+1=>(Ma v i * 2 % 4294967296) ||| (v / 2 ^ i % 2)
theorem S0 (v:Nat):∀ i,Ma v i < 4294967296
 | 0=>by show 0 < 4294967296;decide
 | i+1=>Nat.or_lt_two_pow (n:=32) (X4 _ (by decide)) (by have:=X4 (v / 2 ^ i) (show 2 > 0 by decide);omega)
def S9 (r:Nat) (b:UInt8):Nat:=(r * 256 % 4294967296) ^^^ tab (r / 16777216 ^^^ Ma b.toNat 8 % 256)
def Mk (s:LB):Nat:=s.foldl S9 4294967295
def Oo (s:LB):Nat:=Ma (4294967295 - Mk s) 32
theorem Qv0 {r:Nat} (h:r < 4294967296) (b:UInt8):S9 r b < 4294967296:=by
 unfold S9;refine Xr (n:=32) (X4 _ (by decide)) (Qm8 _ ?_);exact Xr (n:=8) (by omega) (X4 _ (by decide))
theorem Qkm (s:LB):Mk s < 4294967296:=by
 unfold Mk
 suffices h:∀ r,r < 4294967296->s.foldl S9 r < 4294967296 from h _ (by decide)
 induction s with
 | nil=>intro r h;exact h
 | cons b s ih=>intro r h;exact ih _ (Qv0 h b)
theorem Qoe (s:LB) (b:UInt8):Mk (s++[b])=S9 (Mk s) b:=by simp [Mk]
theorem Qe5 (v n:Nat) (w:World) (hv:v < 4294967296) (hn:n<=64) :
  Does Yd 77 #[.int .u32 v,.int .i64 n] w fun r w'=>w'=w/\r=.int .u32 (Ma v n:Nat):=by
 refine En [.int .u32 v,.int .i64 n] 18 Tryz.func77 ?_;refine VS [0,1] ?_;refine VS [0,1,5] ?_;refine VS [0,5,6,7] ?_;refine VB ?_;refine Ay [0,5,6,7] (fun m e w'=>∃ (i:Nat),Is e [(0,.int .u32 (v / 2 ^ i:Nat)),(5,.int .u32 (Ma v i:Nat)),(6,.int .i64 n),(7,.int .i64 i)]/\Is w' w/\i<=n/\m=n - i) n ?_ ?_
 ·
  refine Qs ?_;exact ⟨0,by rw [Nat.pow_zero,Nat.div_one];rfl,rfl,by omega,rfl⟩
 rintro m e w' ⟨i,rfl,rfl,hi,rfl⟩;refine VS [0,5,6,7,8] ?_;(repeat refine Aw ?_);refine VD (fun h=>?_) (fun h=>?_)
 ·
  refine Ad ?_;refine VB ?_;have hlt:=S0 v i;have hq:v / 2 ^ i < 4294967296:=Nat.lt_of_le_of_lt (Nat.div_le_self _ _) hv;have hd:v / 2 ^ (i+1)=v / 2 ^ i / 2:=by rw [Nat.pow_succ,Gp]
  have hn1:Ma v (i+1)=(Ma v i * 2 % 4294967296) ||| (v / 2 ^ i % 2):=rfl
  have hl1:=S0 v (i+1);rw [hn1] at hl1
  have e1:(Ma v i:Int) * 2 ^ By Xb 1 % 4294967296=((Ma v i * 2 % 4294967296:Nat):Int):=by
   rw [show By Xb 1=1 from rfl];omega
  refine VQ [0,5,6,7] fun K hK=>?_;rw [e1];generalize Ma v i=o at *;generalize v / 2 ^ i=q at *;simp only [Int.toNat_natCast,show Ge 1=1 from rfl,Nat.and_one_is_mod];refine ⟨by omega,⟨by omega,by omega⟩,⟨by omega,by omega⟩,⟨by omega,by omega⟩,⟨by omega,by omega⟩,?_⟩;apply hK;clear hK;refine VQ [0,5,6,7] fun K hK=>?_
  have e2:(q:Int) / 2 ^ By Xb 1=((v / 2 ^ (i+1):Nat):Int):=by
   rw [hd,show By Xb 1=1 from rfl];omega
  refine ⟨by omega,?_⟩;rw [e2];apply hK;clear hK;refine An ?_;refine VS [0,5,6,7] ?_;refine Ah ?_;refine Qs ?_;exact ⟨n - (i+1),by omega,i+1,by rw [hn1];exact isR _,rfl,by omega,rfl⟩
 refine Ax rfl ?_;refine VS [4] ?_;obtain rfl:i=n:=by omega
 exact Ae (Al rfl rfl ⟨rfl,rfl⟩)
theorem Qkn (s:LB) (w:World) (hs:s.length<=1000000000000000000) :
  Does Yd 53 #[Ab s] w fun v w'=>Heap w [] w' []/\v=.int .u32 (Oo s:Nat):=by
 refine En [Ab s] 31 Tryz.func53 ?_;refine VS [0] ?_;refine VQ [0,3] fun K hK=>?_;refine Aa Tryz.call76 ?_;refine Qs ?_;refine Yk (Qhm w) ?_;rintro v w1 ⟨hH,rfl⟩;refine Bo (.agg (Bd (Ya 256 0)).toArray) (by kernel_rfl) ?_;have hH2:=hH.box 139 (Bd (Ya 256 0));have ecells:(Ux (Bd (Ya 256 0)).toArray).cells=(Bd (Ya 256 0)).toArray:=rfl;rw [ecells];generalize w1.alloc (Yo (Bd (Ya 256 0)).toArray 139)=w2 at *;generalize w1.heap.size=g at *;refine Qs ?_;refine Ag ?_;refine Qs ?_;have hlen:(Bd tabs).length=256:=by rw [St,Su]
 have hlen0:(Bd (Ya 256 0)).length=256:=by simp [Bd]
 refine Ap hH2 0 (vs:=Bd tabs) rfl rfl (by rw [hlen];kernel_rfl) (by rw [hlen,hlen0];omega) (by intro u hu;obtain ⟨n,_,rfl⟩:=Xw.1 hu;rfl) fun w6 hH3=>?_
 have e2:(Bd (Ya 256 0)).take 0++Bd tabs++(Bd (Ya 256 0)).drop (0+(Bd tabs).length)=Bd tabs:=by
  rw [Gf,Yp,Y3 (by rw [hlen,hlen0];omega),Yi]
 rw [e2] at hH3;have hH4:Heap w [] w6 [Yg g 139 (Bd tabs)]:=hH3;clear hH3 hH2 hH ecells;apply hK;clear hK;refine VS [0,3,4] ?_;refine VS [0,3,4,8,9] ?_;refine VB ?_;refine Ay [0,3,4,8,9] (fun m e w'=>∃ (i:Nat),Is e [(0,Ab s),(3,.pointer (some ⟨g,0,none⟩)),(4,.int .u32 (Mk (s.take i):Nat)),(8,.int .i64 s.length),(9,.int .i64 i)]/\Is w' w6/\i<=s.length/\m=s.length - i) s.length ?_ ?_
 ·
  refine Qs ?_;exact ⟨0,rfl,rfl,by omega,rfl⟩
 rintro m e w' ⟨i,rfl,rfl,hi,rfl⟩;refine VS [0,3,4,8,9,10] ?_;(repeat refine Aw ?_);refine VD (fun h=>?_) (fun h=>?_)
 ·
  refine Ad ?_;refine VB ?_;refine VS [0,3,4,5,8,9] ?_;have hq:=Qkm (s.take i);have htk:=Lv (0:UInt8) (l:=s) (i:=i) (by omega);have hnext:=Qoe (s.take i) (s.getD i 0);rw [<- htk,S9] at hnext;have hb:=(s.getD i 0).toNat_lt;have hx:(Mk (s.take i) / 16777216) ^^^ (Ma (s.getD i 0).toNat 8 % 256) < 256:=Xr (n:=8) (by omega) (X4 _ (by decide));have htl:=Qm8 _ hx;have htg:=Qpv hx;generalize Mk (s.take i)=q at *
  have e1:(q:Int) / 2 ^ By Xb 24 % 256=((q / 16777216:Nat):Int):=by
   rw [show By Xb 24=24 from rfl];omega
  have e3:(q:Int) * 2 ^ By Xb 8 % 4294967296=((q * 256 % 4294967296:Nat):Int):=by
   rw [show By Xb 8=8 from rfl];omega
  refine VQ [0,3,4,8,9] fun K hK=>?_;rw [e1,e3,show ((s.getD i 0).toNat:Int) % 4294967296=((s.getD i 0).toNat:Int) by omega];refine ⟨by omega,by omega,⟨by omega,by omega⟩,?_⟩;refine Aa Tryz.call77 ?_;refine Qs ?_;refine Yk (Qe5 (s.getD i 0).toNat 8 w' (by omega) (by omega)) ?_;rintro v w7 ⟨rfl,rfl⟩;have ho:=S0 (s.getD i 0).toNat 8;generalize Ma (s.getD i 0).toNat 8=ov at *;refine Qs ?_;rw [show ((ov:Int) % 256).toNat=ov % 256 by omega];refine ⟨⟨by omega,by omega⟩,⟨by omega,by omega⟩,⟨by omega,by omega⟩,_,Af (hH4.at 0 rfl) (Qio (by rw [Su];exact hx)),?_⟩;refine Qs ?_;rw [htg];clear htg hx;generalize tab (q / 16777216 ^^^ ov % 256)=tb at *;(repeat first | refine Qo ?_ | refine Qp ?_);(try simp only [Int.toNat_natCast]);apply hK;clear hK;refine An ?_;refine VS [0,3,4,8,9] ?_;refine Ah ?_;refine Qs ?_;exact ⟨s.length - (i+1),by omega,i+1,by rw [hnext];exact isR _,rfl,by omega,rfl⟩
 refine Ax rfl ?_;rw [Yv (by omega)];have hq:=Qkm s;refine VQ [2] fun K hK=>?_;refine Qp ?_;rw [show 4294967295 - ((Mk s:Nat):Int)=((4294967295 - Mk s:Nat):Int) by omega];refine Aa Tryz.call77 ?_;refine Qs ?_;refine Yk (Qe5 (4294967295 - Mk s) 32 w' (by omega) (by omega)) ?_;rintro v w7 ⟨rfl,rfl⟩;apply hK;clear hK;exact Ae (Al rfl rfl ⟨hH4.sub (by simp),rfl⟩)
def Lh:LB->LB×List (LB)
 | []=>([],[])
 | b::s=>if b=47 then ([],(Lh s).1::(Lh s).2) else (b::(Lh s).1,(Lh s).2)
def Bq (s:LB):List (LB):=(Lh s).1::(Lh s).2
def Ef (l:List (LB)):LB:=Lib.join l [47]
theorem Qrq {a:LB} (r:LB) (h:(47:UInt8) ∉ a):Lh (a++47::r)=(a,Bq r):=by
 induction a with
 | nil=>simp [Lh,Bq]
 | cons b a ih =>
  simp only [Yz,not_or] at h;rw [Y2,Lh,if_neg (fun e=>h.1 e.symm),ih h.2]
theorem Qrr {a:LB} (h:(47:UInt8) ∉ a):Lh a=(a,[]):=by
 induction a with
 | nil=>rfl
 | cons b a ih =>
  simp only [Yz,not_or] at h;rw [Lh,if_neg (fun e=>h.1 e.symm),ih h.2]
theorem T9 {a:LB} (r:LB) (h:(47:UInt8) ∉ a):Bq (a++47::r)=a::Bq r:=by
 rw [Bq,Qrq r h]
theorem Va {a:LB} (h:(47:UInt8) ∉ a):Bq a=[a]:=by
 rw [Bq,Qrr h]
theorem Qa5 (s:LB):(47:UInt8) ∉ s∨∃ a r,s=a++47::r/\(47:UInt8) ∉ a:=by
 induction s with
 | nil=>exact .inl (by simp)
 | cons b s ih =>
  by_cases hb:b=47
  ·
   exact .inr ⟨[],s,by simp [hb],by simp⟩
  rcases ih with h | ⟨a,r,rfl,h⟩
  ·
   exact .inl (by simp only [Yz,not_or];exact ⟨fun e=>hb e.symm,h⟩)
  exact .inr ⟨b::a,r,rfl,by simp only [Yz,not_or];exact ⟨fun e=>hb e.symm,h⟩⟩
theorem Qko {P:LB->Prop} (h1:∀ a,(47:UInt8) ∉ a->P a) (h2:∀ a r,(47:UInt8) ∉ a->P r->P (a++47::r)):∀ s,P s:=by
 intro s;generalize hn:s.length=n
 induction n using Nat.strongRecOn generalizing s with
 | ind n ih =>
  rcases Qa5 s with h | ⟨a,r,rfl,h⟩
  ·
   exact h1 s h
  exact h2 a r h (ih r.length (by simp at hn;omega) r rfl)
theorem Qd7 (s:LB):Bq s≠[]:=by simp [Bq]
theorem Vc (x y:LB) (l:List (LB)):Ef (x::y::l)=x++47::Ef (y::l):=by
 simp only [Ef];rw [Lib.join_cons,Lib.join_cons];simp [Lib.joinTail]
theorem Qd8 (x:LB):Ef [x]=x:=Lib.join_one x _
theorem Qv1:Ef []=[]:=rfl
theorem T2:∀ s,Ef (Bq s)=s:=by
 refine Qko (fun a h=>?_) (fun a r h ih=>?_)
 ·
  rw [Va h,Qd8]
 rw [T9 r h];have e:Bq r=(Lh r).1::(Lh r).2:=rfl;rw [e,Vc,<- e,ih]
theorem Qkp {l m:List (LB)} (hl:l≠[]) (hm:m≠[]):Ef (l++m)=Ef l++47::Ef m:=by
 induction l with
 | nil=>simp at hl
 | cons x l ih =>
  cases l with
  | nil =>
   cases m with
   | nil=>simp at hm
   | cons y m=>rw [Y0,Vc,Qd8]
  | cons y l=>rw [Y2,Y2,Vc,<- Y2,ih (by simp),Vc,Yq];rfl
theorem Zx (l:List (LB)) (h:l≠[]):(Ef l).length+1=(l.map fun x=>x.length+1).sum:=by
 induction l with
 | nil=>simp at h
 | cons x l ih =>
  cases l with
  | nil=>simp [Qd8]
  | cons y l =>
   rw [Vc,List.map_cons,G7,<- ih (by simp)];simp;omega
theorem Qda:∀ s:LB,(Bq s).length=s.count 47+1:=by
 refine Qko (fun a h=>?_) (fun a r h ih=>?_)
 ·
  rw [Va h,U1 h];rfl
 rw [T9 r h,Xa,ih,List.count_append,U1 h,List.count_cons_self];omega
theorem Zn (s:LB):(Bq s).length<=s.length+1:=by
 rw [Qda];have:=List.count_le_length (a:=(47:UInt8)) (l:=s);omega
theorem Qjd {a:LB} (r:LB) (h:(47:UInt8) ∉ a):Lib.indexByte (a++47::r) 47=a.length:=by
 induction a with
 | nil=>simp [Lib.indexByte]
 | cons b a ih =>
  simp only [Yz,not_or] at h;have hb:(b == 47)=false:=by simpa using fun e=>h.1 (Eq.symm e)
  rw [Y2,Lib.indexByte,if_neg (by simp [hb]),ih h.2,if_neg (by simp)];simp
abbrev Et:=List (LB)
def Ev {α:Type} [LT α] [DecidableRel ((· < ·):α->α->Prop)] (x y:α):Int:=if x < y then -1 else if y < x then 1 else 0
def Rl (a b:LB):Int:=Ev (Bq a) (Bq b)
theorem Qat:∀ a b:LB,Lib.compareBytes a b=Ev a b
 | [],[]=>by simp [Lib.compareBytes,Ev]
 | [],b::v=>by simp [Lib.compareBytes,Ev]
 | a::u,[]=>by simp [Lib.compareBytes,Ev]
 | a::u,b::v=>by
  have ih:=Qat u v;rw [Lib.compareBytes,ih];unfold Ev;simp only [Uw];by_cases h1:a < b
  ·
   simp [h1]
  by_cases h2:b < a
  ·
   have:¬ a=b:=fun e=>by subst e;exact h1 h2
   simp [h1,h2,this]
  have:a=b:=UInt8.le_antisymm (UInt8.not_lt.1 h2) (UInt8.not_lt.1 h1);subst this;simp [h1]
theorem Qof (u:Et) (x y:Et):u++x < u++y ↔ x < y:=by
 induction u with
 | nil=>simp
 | cons a u ih =>
  rw [Y2,Y2,Uw,ih];constructor
  ·
   rintro (h | ⟨_,h⟩)
   ·
    exact absurd h (List.lt_irrefl a)
   exact h
  exact fun h=>.inr ⟨rfl,h⟩
theorem Qzj (u x y:Et):Ev (u++x) (u++y)=Ev x y:=by
 unfold Ev;simp only [Qof]
theorem Qv2 {a b:LB} (h:a≠b) (x y:Et):Ev (a::x) (b::y)=Ev a b:=by
 unfold Ev;simp only [Uw,h,fun e=>h (Eq.symm e),false_and,or_false];simp [Ne.symm h]
theorem Qje (b:LB) (y:Et):Ev ([]:Et) (b::y)=-1:=by simp [Ev]
theorem Qjf (b:LB) (y:Et):Ev (b::y) ([]:Et)=1:=by simp [Ev]
theorem Qv3 (x:Et):Ev x x=0:=by simp [Ev,List.lt_irrefl]
theorem QE9 {x y:Et}:Ev x y < 0 ↔ x < y:=by
 unfold Ev;by_cases h:x < y
 ·
  simp [h]
 by_cases h2:y < x <;> simp [h,h2]
def O0 (b:UInt8):Bool:=decide (32<=b.toNat) && decide (b.toNat<=126)
def Cm (x:LB):Bool:=decide (x≠[]) && decide (x≠[46])
def E9 (s:LB):Option (LB) :=
 if s.all O0=true/\([46,46]:LB) ∉ Bq s/\Ef ((Bq s).filter Cm)≠[]/\(Ef ((Bq s).filter Cm)).length<=120 then some (Ef ((Bq s).filter Cm)) else none
def QAp (o:Option (LB)):Value:=.tuple #[Ab (o.getD []),.int .i64 (if o.isSome then 0 else 140)]
def If (s:LB):Int:=if E9 s=some s then 0 else 140
theorem Qgl (l:Et):(Ef (l.filter Cm)).length<=(Ef l).length:=by
 by_cases h:l.filter Cm=[]
 ·
  rw [h];exact Nat.zero_le _
 have hl:l≠[]:=by rintro rfl;exact h rfl
 have h1:=Zx _ h;have h2:=Zx _ hl
 have h3:∀ m:Et,((m.filter Cm).map fun x=>x.length+1).sum<=(m.map fun x=>x.length+1).sum:=by
  intro m
  induction m with
  | nil=>simp
  | cons x m ih =>
   by_cases hx:Cm x=true
   ·
    simp [Uy,hx];omega
   simp [Uy,hx];omega
 have:=h3 l;omega
theorem Qog {s:LB} (h:E9 s=some s):s.all O0=true/\s.length<=120/\∀ x∈Bq s,x≠[]/\x≠[46]/\x≠[46,46]:=by
 unfold E9 at h;split at h
 ·
  rename_i hh;obtain ⟨h1,h2,h3,h4⟩:=hh;have h5:=Option.some.inj h;rw [h5] at h4;refine ⟨h1,h4,?_⟩
  have hall:∀ l:Et,Ef (l.filter Cm)=Ef l->l.filter Cm≠[]->∀ x∈l,Cm x=true:=by
   intro l he hne x hx;have hl:l≠[]:=by rintro rfl;simp at hx
   have e1:=Zx _ hne;have e2:=Zx _ hl;rw [he] at e1
   have key:∀ m:Et,((m.filter Cm).map fun x=>x.length+1).sum<=(m.map fun x=>x.length+1).sum/\(x∈m->¬ Cm x=true->((m.filter Cm).map fun x=>x.length+1).sum < (m.map fun x=>x.length+1).sum):=by
    intro m
    induction m with
    | nil=>simp
    | cons y m ih =>
     by_cases hy:Cm y=true
     ·
      simp only [Uy,hy,if_true,List.map_cons,G7];refine ⟨by omega,fun hm hk=>?_⟩;rcases Yz.1 hm with rfl | hm
      ·
       exact absurd hy hk
      have:=ih.2 hm hk;omega
     simp only [Uy,hy,List.map_cons,G7];refine ⟨?_,fun hm hk=>?_⟩
     ·
      simp;omega
     simp;omega
   rcases Bool.eq_false_or_eq_true (Cm x) with hk | hk
   ·
    exact hk
   have:=(key l).2 hx (by simp [hk]);omega
  have hne:(Bq s).filter Cm≠[]:=by
   intro e;rw [e] at h3;exact h3 rfl
  have:=hall (Bq s) (by rw [h5,T2]) hne;intro x hx;have hk:=this x hx;simp [Cm] at hk;exact ⟨hk.1,hk.2,fun e=>h2 (e ▸ hx)⟩
 cases h
open Go.Shelf
def Qdb:Go.Shelf.Ren:=⟨fun | 156=>99 | 165=>129 | 166=>91 | 169=>92 | 240=>127 | 241=>168 | 276=>159 | 277=>201 | n=>n,fun | 31=>107 | 9=>9 | 3=>3 | 4=>4 | 0=>0 | 20=>20 | 72=>162 | 76=>166 | 70=>160 | 37=>69 | 75=>165 | 127=>211 | 164=>251 | 5=>5 | 80=>34 | n=>n,fun | n=>n⟩
theorem Qip:Go.Proofs.Lays.n156 Yd Qdb:={
 mixed:=by kernel_rfl
 f156:=Tryz.func99.trans (congrArg some (by kernel_rfl))
 f165:=Tryz.func129.trans (congrArg some (by kernel_rfl))
 f166:=Tryz.func91.trans (congrArg some (by kernel_rfl))
 f169:=Tryz.func92.trans (congrArg some (by kernel_rfl))
 f240:=Tryz.func127.trans (congrArg some (by kernel_rfl))
 f241:=Tryz.func168.trans (congrArg some (by kernel_rfl))
 f276:=Tryz.func159.trans (congrArg some (by kernel_rfl))
 f277:=Tryz.func201.trans (congrArg some (by kernel_rfl))
 t0:=Ug
 a0:=Gi
 z0:=Ga
 v0:=Un
 t3:=Yy
 a3:=Xn
 z3:=Xk
 v3:=Xf
 t4:=X1
 a4:=U2
 z4:=Uu
 v4:=X6
 t9:=Xc
 a9:=X2
 z9:=Xx
 v9:=Xg
 t20:=Tryz.underlying20
 a20:=Tryz.isAgg20
 z20:=Tryz.sizeOf20
 v20:=Tryz.zeroValue20
 t31:=Xs
 a31:=Tryz.isAgg107
 z31:=Tryz.sizeOf107
 v31:=Tryz.zeroValue107
 t37:=Ub
 a37:=Tryz.isAgg69
 z37:=Tryz.sizeOf69
 v37:=Tryz.zeroValue69
 t70:=G9
 a70:=Tryz.isAgg160
 z70:=Tryz.sizeOf160
 v70:=Hr
 t72:=Ha
 a72:=Tryz.isAgg162
 z72:=Tryz.sizeOf162
 v72:=Hs
 t75:=Tryz.underlying165
 a75:=Tryz.isAgg165
 z75:=Tryz.sizeOf165
 v75:=Tryz.zeroValue165
 t76:=Tryz.underlying166
 a76:=Tryz.isAgg166
 z76:=Tryz.sizeOf166
 v76:=Tryz.zeroValue166
 t127:=Hb
 a127:=Tryz.isAgg211
 z127:=Tryz.sizeOf211
 v127:=Ht
 t164:=Tryz.underlying251
 a164:=Tryz.isAgg251
 z164:=Tryz.sizeOf251
 v164:=Tryz.zeroValue251 }
def Qgm:Go.Shelf.Ren:=⟨fun | 137=>169 | 217=>202 | 266=>223 | n=>n,fun | 9=>9 | 5=>5 | 3=>3 | n=>n,fun | n=>n⟩
theorem Qrs:Go.Proofs.Lays.n137 Yd Qgm:={
 mixed:=by kernel_rfl
 f137:=Tryz.func169.trans (congrArg some (by kernel_rfl))
 f217:=Tryz.func202.trans (congrArg some (by kernel_rfl))
 f266:=Tryz.func223.trans (congrArg some (by kernel_rfl))
 t3:=Yy
 a3:=Xn
 z3:=Xk
 v3:=Xf
 t5:=Xo
 a5:=Us
 z5:=Uh
 v5:=Xv
 t9:=Xc
 a9:=X2
 z9:=Xx
 v9:=Xg }
def Qdu:Go.Shelf.Ren:=⟨fun | 144=>132 | 143=>175 | 219=>204 | 217=>202 | 225=>224 | 224=>225 | 267=>226 | 266=>223 | 314=>238 | n=>n,fun | 9=>9 | 4=>4 | 3=>3 | 5=>5 | 46=>141 | 146=>279 | 51=>52 | n=>n,fun | 1=>0 | n=>n⟩
theorem Ql1:Go.Proofs.Lays.n144 Yd Qdu:={
 mixed:=by kernel_rfl
 f143:=Tryz.func175.trans (congrArg some (by kernel_rfl))
 f144:=Tryz.func132.trans (congrArg some (by kernel_rfl))
 f217:=Tryz.func202.trans (congrArg some (by kernel_rfl))
 f219:=Tryz.func204.trans (congrArg some (by kernel_rfl))
 f224:=Tryz.func225.trans (congrArg some (by kernel_rfl))
 f225:=Tryz.func224.trans (congrArg some (by kernel_rfl))
 f266:=Tryz.func223.trans (congrArg some (by kernel_rfl))
 f267:=Tryz.func226.trans (congrArg some (by kernel_rfl))
 f314:=Tryz.func238.trans (congrArg some (by kernel_rfl))
 t3:=Yy
 a3:=Xn
 z3:=Xk
 v3:=Xf
 t4:=X1
 a4:=U2
 z4:=Uu
 v4:=X6
 t5:=Xo
 a5:=Us
 z5:=Uh
 v5:=Xv
 t9:=Xc
 a9:=X2
 z9:=Xx
 v9:=Xg
 t46:=X5
 a46:=Uz
 z46:=Uv
 v46:=Uc
 t51:=Ud
 a51:=Gb
 z51:=U0
 v51:=Ui
 t146:=Gg
 a146:=G8
 z146:=G3
 v146:=Gj
 g1:=by kernel_rfl }
def Qfy:Go.Shelf.Ren:=⟨fun | 169=>92 | n=>n,fun | 70=>160 | 9=>9 | 0=>0 | 72=>162 | 37=>69 | 127=>211 | 3=>3 | 5=>5 | n=>n,fun | n=>n⟩
theorem Qoh:Go.Proofs.Lays.n169 Yd Qfy:={
 mixed:=by kernel_rfl
 f169:=Tryz.func92.trans (congrArg some (by kernel_rfl))
 t0:=Ug
 a0:=Gi
 z0:=Ga
 v0:=Un
 t3:=Yy
 a3:=Xn
 z3:=Xk
 v3:=Xf
 t9:=Xc
 a9:=X2
 z9:=Xx
 v9:=Xg
 t37:=Ub
 a37:=Tryz.isAgg69
 z37:=Tryz.sizeOf69
 v37:=Tryz.zeroValue69
 t70:=G9
 a70:=Tryz.isAgg160
 z70:=Tryz.sizeOf160
 v70:=Hr
 t72:=Ha
 a72:=Tryz.isAgg162
 z72:=Tryz.sizeOf162
 v72:=Hs
 t127:=Hb
 a127:=Tryz.isAgg211
 z127:=Tryz.sizeOf211
 v127:=Ht }
def Qjg:Go.Shelf.Ren:=⟨fun | 143=>175 | 219=>204 | 217=>202 | 225=>224 | 224=>225 | 267=>226 | 266=>223 | 314=>238 | n=>n,fun | 9=>9 | 3=>3 | 4=>4 | 5=>5 | 46=>141 | 146=>279 | 51=>52 | n=>n,fun | 1=>0 | n=>n⟩
theorem Qv4:Go.Proofs.Lays.n143 Yd Qjg:={
 mixed:=by kernel_rfl
 f143:=Tryz.func175.trans (congrArg some (by kernel_rfl))
 f217:=Tryz.func202.trans (congrArg some (by kernel_rfl))
 f219:=Tryz.func204.trans (congrArg some (by kernel_rfl))
 f224:=Tryz.func225.trans (congrArg some (by kernel_rfl))
 f225:=Tryz.func224.trans (congrArg some (by kernel_rfl))
 f266:=Tryz.func223.trans (congrArg some (by kernel_rfl))
 f267:=Tryz.func226.trans (congrArg some (by kernel_rfl))
 f314:=Tryz.func238.trans (congrArg some (by kernel_rfl))
 t3:=Yy
 a3:=Xn
 z3:=Xk
 v3:=Xf
 t4:=X1
 a4:=U2
 z4:=Uu
 v4:=X6
 t5:=Xo
 a5:=Us
 z5:=Uh
 v5:=Xv
 t9:=Xc
 a9:=X2
 z9:=Xx
 v9:=Xg
 t46:=X5
 a46:=Uz
 z46:=Uv
 v46:=Uc
 t51:=Ud
 a51:=Gb
 z51:=U0
 v51:=Ui
 t146:=Gg
 a146:=G8
 z146:=G3
 v146:=Gj
 g1:=by kernel_rfl }
def Qjh:Go.Shelf.Ren:=⟨fun | 138=>197 | 195=>219 | 218=>221 | 143=>175 | 219=>204 | 217=>202 | 225=>224 | 224=>225 | 267=>226 | 266=>223 | 314=>238 | n=>n,fun | 9=>9 | 3=>3 | 4=>4 | 5=>5 | 0=>0 | 46=>141 | 146=>279 | 51=>52 | n=>n,fun | 1=>0 | n=>n⟩
theorem Qv5:Go.Proofs.Lays.n138 Yd Qjh:={
 mixed:=by kernel_rfl
 f138:=Tryz.func197.trans (congrArg some (by kernel_rfl))
 f143:=Tryz.func175.trans (congrArg some (by kernel_rfl))
 f195:=Tryz.func219.trans (congrArg some (by kernel_rfl))
 f217:=Tryz.func202.trans (congrArg some (by kernel_rfl))
 f218:=Tryz.func221.trans (congrArg some (by kernel_rfl))
 f219:=Tryz.func204.trans (congrArg some (by kernel_rfl))
 f224:=Tryz.func225.trans (congrArg some (by kernel_rfl))
 f225:=Tryz.func224.trans (congrArg some (by kernel_rfl))
 f266:=Tryz.func223.trans (congrArg some (by kernel_rfl))
 f267:=Tryz.func226.trans (congrArg some (by kernel_rfl))
 f314:=Tryz.func238.trans (congrArg some (by kernel_rfl))
 t0:=Ug
 a0:=Gi
 z0:=Ga
 v0:=Un
 t3:=Yy
 a3:=Xn
 z3:=Xk
 v3:=Xf
 t4:=X1
 a4:=U2
 z4:=Uu
 v4:=X6
 t5:=Xo
 a5:=Us
 z5:=Uh
 v5:=Xv
 t9:=Xc
 a9:=X2
 z9:=Xx
 v9:=Xg
 t46:=X5
 a46:=Uz
 z46:=Uv
 v46:=Uc
 t51:=Ud
 a51:=Gb
 z51:=U0
 v51:=Ui
 t146:=Gg
 a146:=G8
 z146:=G3
 v146:=Gj
 g1:=by kernel_rfl }
def Qfz:Go.Shelf.Ren:=⟨fun | 106=>89 | 213=>126 | 265=>158 | n=>n,fun | 9=>9 | 3=>3 | n=>n,fun | n=>n⟩
theorem Qoi:Go.Proofs.Lays.n106 Yd Qfz:={
 mixed:=by kernel_rfl
 f106:=Tryz.func89.trans (congrArg some (by kernel_rfl))
 f213:=Tryz.func126.trans (congrArg some (by kernel_rfl))
 f265:=Tryz.func158.trans (congrArg some (by kernel_rfl))
 t3:=Yy
 a3:=Xn
 z3:=Xk
 v3:=Xf
 t9:=Xc
 a9:=X2
 z9:=Xx
 v9:=Xg }
theorem W4:Go.Proofs.Builder.Extra Yd Qdb where
 sizeBuilder:=by kernel_rfl
 liesBuilder:=by kernel_rfl
 t5:=Xo
 a5:=Us
 z5:=Uh
 v5:=Xv
 infoByte:=by kernel_rfl
 cellsByte:=by kernel_rfl
 sizeByte:=by kernel_rfl
 neB5:=by decide
open Go Go.Eng
set_option maxHeartbeats 1000000
abbrev Qe:Value:=Ab [47]
abbrev C1 (a:OA) (l:List (LB)) (c:Nat):Res:=Yl 9 1 a l.length c (Cy l)
theorem Ql2 {l:LB}{i f:Nat} (hf:f<=i) (hi:i < l.length) (h:(47:UInt8) ∉ (l.drop f).take (i - f)) (hb:l.getD i 0≠47):(47:UInt8) ∉ (l.drop f).take (i+1 - f):=by
 have h1:(l.drop f)[i - f]? = some (l.getD i 0):=by
  rw [List.getElem?_drop,show f+(i - f)=i by omega,Yf,Yb hi];rfl
 rw [show i+1 - f=(i - f)+1 by omega,Qb2 h1,U3];simp only [Up,not_or];exact ⟨h,fun e=>hb e.symm⟩
theorem Qzk {l:LB}{i f:Nat} (hf:f<=i) (hi:i < l.length) (h:(47:UInt8) ∉ (l.drop f).take (i - f)) (hb:l.getD i 0=47):Bq (l.drop f)=(l.drop f).take (i - f)::Bq (l.drop (i+1)):=by
 have h1:l.drop f=(l.drop f).take (i - f)++47::l.drop (i+1):=by
  conv=>lhs;rw [<- Xt (i - f) (l.drop f)]
  congr 1
  rw [List.drop_drop,show f+(i - f)=i by omega,Y4 hi]
  congr 1
  rw [<- hb,Yf,Yb hi];rfl
 conv=>lhs;rw [h1]
 exact T9 _ h
theorem Qrt {l:LB}{f:Nat} (hf:f<=l.length) (h:(47:UInt8) ∉ (l.drop f).take (l.length - f)):Bq (l.drop f)=[(l.drop f).take (l.length - f)]:=by
 have h1:(l.drop f).take (l.length - f)=l.drop f:=Yv (by simp);rw [h1] at h ⊢;exact Va h
theorem i47 (b:UInt8):((b.toNat:Int)=47) ↔ b=47:=by
 constructor
 ·
  intro h;have e:(47:UInt8).toNat=47:=rfl;exact UInt8.toNat_inj.1 (by omega)
 rintro rfl;rfl
def QFa (l gs:Nat) (s:LB) (w0:World) (PI:Et->List Res->Prop) (PE:List Res->Prop):Prop :=
 ∀ x rest G FR w,x.length<=s.length->PI (x::rest) G->Heap w0 [] w (G++Yg gs 9 [Ab s]::FR) ->
  YieldK Yd l [Ab x] w fun v w'=>∃ G',Heap w0 [] w' (G'++Yg gs 9 [Ab s]::FR)/\(v=.bool true/\PI rest G'∨v=.bool false/\PE G')
abbrev yV (l:Nat):Value:=.func (.yield l) #[] #[]
abbrev Mc (g:Nat):Value:=.pointer (some ⟨g,0,none⟩)
theorem Qji (l gs:Nat) (s:LB) (hs:s.length<=140737488355328) (w0:World) (PI:Et->List Res->Prop) (PE:List Res->Prop) (hR:QFa l gs s w0 PI PE) (G FR:List Res) (hG:PI (Bq s) G) (w:World)
  (hH:Heap w0 [] w (G++Yg gs 9 [Ab s]::FR)) :
  DoesP Yd 98 #[yV l,Mc gs] w (fun _ w'=>∃ G',Heap w0 [] w' (G'++Yg gs 9 [Ab s]::FR)/\(PI [] G'∨PE G')) Wr:=by
 refine Qay (args:=[yV l,Mc gs]) 30 Tryz.func98 rfl rfl (of_decide_eq_true rfl) ?_;simp only [Env.ofArgs];(repeat with_reducible refine Bl ?_);refine C8 [0,1,3] (by kernel_rfl) fun K hK=>?_;simp only [go_sem,↓reduceIte,reduceEqDiff]
 (refine hK _ _ ?_;clear hK)
 (repeat with_reducible refine Bl ?_);refine C8 [0,1,3,4] (by kernel_rfl) fun K hK=>?_;simp only [go_sem,↓reduceIte,reduceEqDiff]
 (refine hK _ _ ?_;clear hK)
 ((repeat with_reducible refine Bl ?_);refine My ?_)
 refine Qie [0,1,3,4] (fun m e w=>∃ (f i:Nat) (G:List Res),Is e [(0,yV l),(1,Mc gs),(3,.int .i64 f),(4,.int .i64 i)]/\Heap w0 [] w (G++Yg gs 9 [Ab s]::FR)/\f<=i/\m=s.length+1 - i /\
   (i<=s.length/\(47:UInt8) ∉ (s.drop f).take (i - f)/\PI (Bq (s.drop f)) G∨i=s.length+1/\PI [] G)) (s.length+1) ?_ ?_
 ·
  simp only [go_sem,↓reduceIte,reduceEqDiff];exact ⟨0,0,G,rfl,hH,Xm _,rfl,.inl ⟨by omega,by simp,hG⟩⟩
 clear hG hH w G;rintro m e w ⟨f,i,G,rfl,hH,hfi,rfl,hst⟩;have hHs:Heap w0 [] w (Yg gs 9 [Ab s]::(G++FR)):=hH.perm List.perm_middle;have c1:w.cell? ⟨gs,0,none⟩=some (Ab s):=Af (hHs.at 0 rfl) rfl;(repeat with_reducible refine Bl ?_);refine C8 [0,1,3,4,8] (by kernel_rfl) fun K hK=>?_;simp only [go_sem,↓reduceIte,reduceEqDiff];refine ⟨_,c1,?_⟩;simp only [go_sem,↓reduceIte,reduceEqDiff]
 (refine hK _ _ ?_;clear hK)
 (repeat with_reducible refine Bl ?_);refine Fy rfl rfl (fun h=>?_) (fun h=>?_)
 ·
  simp only [decide_eq_true_eq] at h;obtain ⟨hi,hno,hPI⟩:=hst.resolve_right (fun hh=>by omega);refine Lz ?_
  ((repeat with_reducible refine Bl ?_);refine My ?_)
  (repeat with_reducible refine Bl ?_);refine C8 [0,1,3,4,20] (by kernel_rfl) fun K hK=>?_;simp only [go_sem,↓reduceIte,reduceEqDiff]
  suffices out:∀ b:Bool,(b=true ↔ i=s.length∨i < s.length/\s.getD i 0=47)->K [(0,yV l),(1,Mc gs),(3,.int .i64 f),(4,.int .i64 i),(20,.bool b)] w by
   (try simp only [go_sem,↓QAo c1,↓reduceIte,reduceEqDiff]);refine And.intro (fun h1=>And.intro (by omega) (out _ ?_)) (fun h1=>out _ ?_)
   ·
    rw [decide_eq_true_eq,i47];constructor
    ·
     exact fun h=>.inr ⟨by omega,h⟩
    rintro (h | h)
    ·
     omega
    exact h.2
   simp only [true_iff];exact .inl (by omega)
  intro b hb
  (refine hK _ _ ?_;clear hK)
  (repeat with_reducible refine Bl ?_);refine Fy rfl rfl (fun h2=>?_) (fun h2=>?_)
  ·
   have h3:=hb.1 h2;clear hb h2 h
   have hnext:PI ((s.drop f).take (i - f)::(if i=s.length then [] else Bq (s.drop (i+1)))) G:=by
    rcases h3 with h3 | ⟨h3,h4⟩
    ·
     subst h3;rw [Qrt hfi hno] at hPI;rw [if_pos rfl];exact hPI
    rw [Qzk hfi h3 hno h4] at hPI;rw [if_neg (by omega)];exact hPI
   (repeat with_reducible refine Bl ?_);refine Qg3 [0,1,4,27] [5] (by kernel_rfl) fun K hK=>?_;simp only [go_sem,List.take_succ_cons,Gf,List.drop_succ_cons,List.drop_zero,↓reduceIte,reduceEqDiff];refine ⟨_,c1,?_⟩;simp only [go_sem,↓reduceIte,reduceEqDiff];refine ⟨⟨by omega,by omega⟩,?_⟩;refine Qes ?_;simp only [go_sem,↓reduceIte,reduceEqDiff];refine ⟨l,rfl,(hR _ _ G FR w (by simp;omega) hnext hH).mono ?_⟩;rintro v w2 ⟨G2,hH2,hv⟩;clear hH hHs c1 hPI hnext;rcases hv with ⟨rfl,hPI⟩ | ⟨rfl,hPE⟩
   ·
    simp only [go_sem,↓reduceIte,reduceEqDiff]
    (refine hK _ _ ?_;clear hK)
    (repeat with_reducible refine Bl ?_);refine Fy rfl rfl (fun h=>by simp at h) (fun h=>Lz ?_);clear h;(repeat with_reducible refine Bl ?_);refine C8 [0,1,3,4] (by kernel_rfl) fun K hK=>?_;simp only [go_sem,↓reduceIte,reduceEqDiff]
    ((repeat refine And.intro (by omega) ?_);refine hK _ _ ?_;clear hK)
    refine Ov ?_;(repeat with_reducible refine Bl ?_);refine C8 [0,1,3,4] (by kernel_rfl) fun K hK=>?_;simp only [go_sem,↓reduceIte,reduceEqDiff]
    ((repeat refine And.intro (by omega) ?_);refine hK _ _ ?_;clear hK)
    refine Z2 ?_;simp only [go_sem,↓reduceIte,reduceEqDiff];by_cases he:i=s.length
    ·
     rw [if_pos he] at hPI;exact ⟨s.length+1 - (i+1),by omega,i+1,i+1,G2,rfl,hH2,Xm _,rfl,.inr ⟨by omega,hPI⟩⟩
    rw [if_neg he] at hPI;exact ⟨s.length+1 - (i+1),by omega,i+1,i+1,G2,rfl,hH2,Xm _,rfl,.inl ⟨by omega,by simp,hPI⟩⟩
   simp only [go_sem,↓reduceIte,reduceEqDiff]
   (refine hK _ _ ?_;clear hK)
   (repeat with_reducible refine Bl ?_);refine Fy rfl rfl (fun h=>?_) (fun h=>by simp at h);exact Pr (Ws (Ly rfl ⟨G2,hH2,.inr hPE⟩))
  have h3:¬ (i=s.length∨i < s.length/\s.getD i 0=47):=fun hh=>by rw [hb.2 hh] at h2;cases h2
  have h4:i < s.length:=by omega
  have h5:s.getD i 0≠47:=fun e=>h3 (.inr ⟨h4,e⟩);refine Lz ?_;refine Ov ?_;(repeat with_reducible refine Bl ?_);refine C8 [0,1,3,4] (by kernel_rfl) fun K hK=>?_;simp only [go_sem,↓reduceIte,reduceEqDiff]
  ((repeat refine And.intro (by omega) ?_);refine hK _ _ ?_;clear hK)
  refine Z2 ?_;simp only [go_sem,↓reduceIte,reduceEqDiff];exact ⟨s.length+1 - (i+1),by omega,f,i+1,G,rfl,hH,by omega,rfl,.inl ⟨by omega,Ql2 hfi h4 hno h5,hPI⟩⟩
 simp only [decide_eq_false_iff_not] at h;rcases hst with ⟨hi,hno,hPI⟩ | ⟨hi,hPI⟩
 ·
  omega
 refine Sy rfl ?_;exact Ps (QQj (Ly rfl ⟨G,hH,.inl hPI⟩))
theorem Qhn (l:Et) (a:OA) (c:Nat) (w:World) (h:(C1 a l c).holds w) (h1:l.length<=140737488355328) (h2:(Ef l).length<=140737488355328) :
  Does Yd 99 #[.slice a l.length c,Qe] w fun v w'=>Heap w [] w' []/\v=Ab (Ef l):=by
 obtain ⟨_,r2,r3,r4⟩:=h;by_cases hl:l=[]
 ·
  subst hl;intro n;refine (Go.Proofs.Any.strings_Join_none Qip W4 a c ⟨#[47]⟩ (w.drewN n)).mono fun e w' ⟨he,hw⟩=>⟨_,w,n,he,hw,Yx w,rfl⟩
 rcases r4 with ⟨_,r5,_⟩ | ⟨g,rest,fz,rfl,hg,hlen,_⟩
 ·
  exact absurd (Xl r5) hl
 have hcell:∀ (j:Nat) (x:ByteArray),(l.map fun s=>(⟨s.toArray⟩:ByteArray))[j]? = some x->w.cell? ⟨g,0+j,none⟩=some (.string x):=by
  intro j x hx;rw [Y1] at hx;cases hj:l[j]? with
  | none=>rw [hj] at hx;cases hx
  | some s =>
   rw [hj] at hx;cases hx;rw [Y5,cell_of_row w g j _ _ _ hg];have hlt:=(Yn.1 hj).1
   show (Cy l++rest).toArray[j]? = _
   rw [Ua,Uj (by simpa using hlt),Sl hj]
 have hmm:(l.map fun s=>(⟨s.toArray⟩:ByteArray)).map (·.data.toList)=l:=by
  rw [Gn];exact List.map_id _
 intro n;have hm:=Go.Proofs.Any.strings_Join Qip W4 g 0 c (l.map fun s=>(⟨s.toArray⟩:ByteArray)) ⟨#[47]⟩ (w.drewN n) (fun j x hx=>hcell j x hx) (Array.getElem?_eq_some_iff.1 hg).1 (by simpa using h1) (by simpa using r2) (by rw [hmm];exact h2);rw [hmm,U5] at hm;exact hm.mono fun e w' ⟨he,hw⟩=>⟨_,w',0,he,rfl,⟨⟨hw.os,hw.tape,hw.output,hw.size,fun k hk _=>hw.block k hk⟩,by simp,by simp,.nil⟩,rfl⟩
theorem Zo {s:LB}{dn rest:Et} (h:dn++rest=Bq s):dn.length<=s.length+1/\(Ef (dn.filter Cm)).length<=s.length/\(dn.filter Cm).length<=s.length+1:=by
 have h1:=Zn s;rw [<- h,Ye] at h1;have h2:=List.length_filter_le Cm dn;have h3:=Qgl dn;refine ⟨by omega,Nat.le_trans h3 ?_,by omega⟩;have h4:=T2 s;rw [<- h] at h4;by_cases hd:dn=[]
 ·
  subst hd;simp [Qv1]
 by_cases hr:rest=[]
 ·
  subst hr;rw [Yi] at h4;rw [h4];exact Xm _
 rw [Qkp hd hr] at h4;rw [<- h4];simp
theorem Qoj (s:LB) (w:World) (hs:s.length<=1000000000):Does Yd 75 #[Ab s] w fun v w'=>Heap w [] w' []/\v=QAp (E9 s):=by
 refine Qer (args:=[Ab s]) 53 Tryz.func75 rfl rfl (of_decide_eq_true rfl) ?_;simp only [Env.ofArgs,Nat.reduceAdd];(repeat with_reducible refine Bl ?_);refine C8 [1] (by kernel_rfl) fun K hK=>?_;simp only [go_sem,↓reduceIte,reduceEqDiff];refine Dl ?_;simp only [go_sem,↓reduceIte,reduceEqDiff];have hH:=(Yx w).box 9 [Ab s];generalize w.alloc (Yo [Ab s].toArray 9)=w1 at *;generalize w.heap.size=gs at *
 (refine hK _ _ ?_;clear hK)
 (repeat with_reducible refine Bl ?_);refine Qzg (fun l a w=>id) ?_;(repeat with_reducible refine Bl ?_);refine C8 [1,4] (by kernel_rfl) fun K hK=>?_;simp only [go_sem,↓reduceIte,reduceEqDiff];refine Zw hH 1 Xs Tt (z:=U8 ⟨#[]⟩) (by kernel_rfl) rfl fun ga w2 hH2=>?_;simp only [go_sem,↓reduceIte,reduceEqDiff];refine Bo (.slice none 0 0) (by kernel_rfl) ?_;simp only [go_sem,↓reduceIte,reduceEqDiff];have hH3:=hH2.box 107 [.slice none 0 0];generalize w2.alloc (Yo [Gx none 0 0].toArray 107)=w3 at *;generalize w2.heap.size=go at *;refine Ag ?_;simp only [go_sem,↓reduceIte,reduceEqDiff];refine Ap hH3 0 (vs:=[.slice (some ⟨ga,0,none⟩) 0 0]) rfl rfl (by kernel_rfl) (by first | decide | (simp;done) | (simp;omega)) (by simp [Yr]) fun w6 hH4=>?_;(try simp only [go_sem,↓reduceIte,reduceEqDiff]);have hH4:Heap w [] w6 [Yg go 107 [.slice (some ⟨ga,0,none⟩) 0 0],C1 (some ⟨ga,0,none⟩) [] 0,Yg gs 9 [Ab s]]:=hH4;clear hH hH2 hH3
 (refine hK _ _ ?_;clear hK)
 (repeat with_reducible refine Bl ?_);refine C8 [1,4,5] (by kernel_rfl) fun K hK=>?_;simp only [go_sem,↓reduceIte,reduceEqDiff]
 (refine hK _ _ ?_;clear hK)
 have c1:w6.cell? ⟨gs,0,none⟩=some (Ab s):=Af (hH4.at 2 rfl) rfl;(repeat with_reducible refine Bl ?_);refine C8 [1,4,5,13,14] (by kernel_rfl) fun K hK=>?_;simp only [go_sem,↓reduceIte,reduceEqDiff];refine ⟨_,c1,?_⟩;simp only [go_sem,↓reduceIte,reduceEqDiff]
 (refine hK _ _ ?_;clear hK)
 ((repeat with_reducible refine Bl ?_);refine My ?_)
 refine Qie [1,4,5,13,14] (fun m e w'=>∃ (i:Nat),Is e [(1,Mc gs),(4,Mc go),(5,.func (.func 98) #[] #[Mc gs]),(13,.int .i64 s.length),(14,.int .i64 i)]/\Is w' w6/\i<=s.length/\(s.take i).all O0=true/\m=s.length - i) s.length ?_ ?_
 ·
  simp only [go_sem,↓reduceIte,reduceEqDiff];exact ⟨0,rfl,rfl,by omega,by simp,rfl⟩
 rintro m e w' ⟨i,rfl,rfl,hi,hall,rfl⟩;(repeat with_reducible refine Bl ?_);refine C8 [1,4,5,13,14,15] (by kernel_rfl) fun K hK=>?_;simp only [go_sem,↓reduceIte,reduceEqDiff]
 (refine hK _ _ ?_;clear hK)
 (repeat with_reducible refine Bl ?_);refine Fy rfl rfl (fun h=>?_) (fun h=>?_)
 ·
  simp only [decide_eq_true_eq] at h;have hi2:i < s.length:=by omega
  refine Lz ?_
  ((repeat with_reducible refine Bl ?_);refine My ?_)
  (repeat with_reducible refine Bl ?_);refine C8 [1,4,5,6,13,14] (by kernel_rfl) fun K hK=>?_;simp only [go_sem,↓reduceIte,reduceEqDiff]
  (refine hK _ _ ?_;clear hK)
  (repeat with_reducible refine Bl ?_);refine C8 [1,4,5,13,14,26] (by kernel_rfl) fun K hK=>?_;simp only [go_sem,↓reduceIte,reduceEqDiff];(try simp only [go_sem,↓QAo c1,↓reduceIte,reduceEqDiff])
  suffices out:∀ b:Bool,(b=true ↔ O0 (s.getD i 0)=false)->K [(1,Mc gs),(4,Mc go),(5,.func (.func 98) #[] #[Mc gs]),(13,.int .i64 s.length),(14,.int .i64 i),(26,.bool b)] w' by
   have e:O0 (s.getD i 0)=false ↔ ¬ (32<=(s.getD i 0).toNat/\(s.getD i 0).toNat<=126):=by
    cases h:O0 (s.getD i 0) <;> simp [O0] at h ⊢ <;> omega
   refine And.intro (by omega) (And.intro (fun h1=>And.intro (by omega) (out _ ?_)) (fun h1=>out _ ?_))
   ·
    rw [e,decide_eq_true_eq];omega
   rw [e];simp only [true_iff];omega
  intro b hb
  (refine hK _ _ ?_;clear hK)
  (repeat with_reducible refine Bl ?_);refine Fy rfl rfl (fun h2=>?_) (fun h2=>Lz ?_)
  ·
   have hbad:=hb.1 h2
   have hno:E9 s=none:=by
    unfold E9;rw [if_neg];rintro ⟨ha,_⟩;rw [List.all_eq_true] at ha;have:=ha (s.getD i 0) (by rw [Yf,Yb hi2];exact List.getElem_mem hi2);rw [this] at hbad;cases hbad
   (repeat with_reducible refine Bl ?_);refine C8 [2,3] (by kernel_rfl) fun K hK=>?_;simp only [go_sem,↓reduceIte,reduceEqDiff]
   (refine hK _ _ ?_;clear hK)
   exact Pr (Ws (Bp rfl rfl rfl ⟨hH4.sub (Xj _),by rw [hno];rfl⟩))
  have hok:O0 (s.getD i 0)=true:=by
   cases h5:O0 (s.getD i 0)
   ·
    have:=hb.2 h5;rw [this] at h2;cases h2
   rfl
  refine Ov ?_;(repeat with_reducible refine Bl ?_);refine C8 [1,4,5,13,14] (by kernel_rfl) fun K hK=>?_;simp only [go_sem,↓reduceIte,reduceEqDiff]
  ((repeat refine And.intro (by omega) ?_);refine hK _ _ ?_;clear hK)
  refine Z2 ?_;simp only [go_sem,↓reduceIte,reduceEqDiff];refine ⟨s.length - (i+1),by omega,i+1,rfl,rfl,by omega,?_,rfl⟩;rw [Qb2 (Yb hi2),List.all_append,hall];rw [Yf,Yb hi2] at hok;simpa using hok
 simp only [decide_eq_false_iff_not] at h;obtain rfl:i=s.length:=by omega
 rw [List.take_length] at hall;clear h c1;refine Sy rfl ?_;(repeat with_reducible refine Bl ?_);refine C8 [4,5,7] (by kernel_rfl) fun K hK=>?_;simp only [go_sem,↓reduceIte,reduceEqDiff];refine Bo (.bool false) (by kernel_rfl) ?_;simp only [go_sem,↓reduceIte,reduceEqDiff];have hH5:=hH4.box 4 [.bool false];generalize w'.alloc (Yo [H5 false].toArray 4)=w7 at *;generalize w'.heap.size=gb at *;refine Ag ?_;simp only [go_sem,↓reduceIte,reduceEqDiff];refine Ap hH5 0 (vs:=[.bool false]) rfl rfl (by kernel_rfl) (by first | decide | (simp;done) | (simp;omega)) (by simp [Yr]) fun w6 hH6=>?_;(try simp only [go_sem,↓reduceIte,reduceEqDiff]);have hH6:Heap w [] w6 [Yg gb 4 [.bool false],Yg go 107 [.slice (some ⟨ga,0,none⟩) 0 0],C1 (some ⟨ga,0,none⟩) [] 0,Yg gs 9 [Ab s]]:=hH6;clear hH4 hH5
 (refine hK _ _ ?_;clear hK)
 (repeat with_reducible refine Bl ?_);refine Qyy ?_;(repeat with_reducible refine Bl ?_);refine C8 [4,7,28] (by kernel_rfl) fun K hK=>?_;simp only [go_sem,↓reduceIte,reduceEqDiff]
 (refine hK _ _ ?_;clear hK)
 ((repeat with_reducible refine Bl ?_);refine My ?_)
 refine Qcv rfl rfl (fun _ _=>rfl) fun r r1 r2 r3 r4 r5 r6 r7 r8=>?_;generalize hdr:w6.heap.size=dr at *;have hH7:=(hH6.newObj (.deferred (some []))).newObj (.loop r);rw [show (w6.alloc (.deferred (some []))).heap.size=dr+1 by rw [<- hdr];show (w6.heap.push _).size=_;rw [Array.size_push],hdr] at hH7;clear r6 hH6;generalize (w6.alloc (Obj.deferred (some []))).alloc (H6 r)=wl at *;have hr:=Loop.same r1 r2
 have hH8:Heap w [] wl ([Yu (dr+1) (.loop r),Yg go 107 [.slice (some ⟨ga,0,none⟩) 0 0],C1 (some ⟨ga,0,none⟩) [] 0,Yg gb 4 [.bool false]]++Yg gs 9 [Ab s]::[Yu dr (.deferred (some []))]):=by
  refine hH7.perm ?_;refine List.Perm.cons _ ?_;refine (X7 (l₁:=[Yu dr (.deferred (some []))]) (l₂:=_)).trans ?_;refine (X7 (l₁:=[Yg gb 4 [.bool false]]) (l₂:=[Yg go 107 [.slice (some ⟨ga,0,none⟩) 0 0],C1 (some ⟨ga,0,none⟩) [] 0])).append_right _
 clear hH7
 refine (Qji (dr+1) gs s (by omega) w
  (fun l0 G0=>∃ (dn:Et) (a:OA) (c:Nat),dn++l0=Bq s/\([46,46]:LB) ∉ dn/\G0=[Yu (dr+1) (.loop r),Yg go 107 [.slice a (dn.filter Cm).length c],C1 a (dn.filter Cm) c,Yg gb 4 [.bool false]])
  (fun G0=>([46,46]:LB)∈Bq s/\∃ (dn rest:Et) (a:OA) (c:Nat),dn++rest=Bq s/\G0=[Yu (dr+1) (.loop { r with state:=.done,pending:=some (.exit 2) }),Yg go 107 [.slice a (dn.filter Cm).length c],C1 a (dn.filter Cm) c,Yg gb 4 [.bool true]]) ?_
  _ [Yu dr (.deferred (some []))] ⟨[],some ⟨ga,0,none⟩,0,rfl,by simp,rfl⟩ wl hH8).mono ?_ (fun _ _ h=>h)
 ·
  rintro x rest _ FR w7 hx ⟨dn,a0,c,hdn,hno,rfl⟩ hH9;have hb:=Zo hdn;have hb2:=Zo (s:=s) (dn:=dn++[x]) (rest:=rest) (by simpa using hdn);refine Qcw (N:=53) (e:=(29,Ab x)::[(4,Mc go),(7,Mc gb),(28,.func (.func 98) #[] #[Mc gs])]) (hH9.at 0 rfl) r1 r7 (by rw [r3];rfl) (Qvw r3 (by rw [r7];decide) r8) ?_;refine (congrArg (fun c=>VG _ [.code c] _ _) r4).mpr ?_;(repeat with_reducible refine Bl ?_);refine C8 [4,7,8] (by kernel_rfl) fun K hK=>?_;simp only [go_sem,↓reduceIte,reduceEqDiff]
  (refine hK _ _ ?_;clear hK)
  refine Ps fun a n hf=>⟨rfl,_,_,n,rfl,hf,hH9.at 0 rfl,?_⟩;have hHd:Heap w [] _ (Yu (dr+1) (.loop { r with state:=.busy })::Yg go 107 [.slice a0 (dn.filter Cm).length c]::C1 a0 (dn.filter Cm) c::Yg gb 4 [.bool false]::Yg gs 9 [Ab s]::FR):=H4 hH9 (.loop { r with state:=.busy });generalize w7.putObj (dr+1) (H6 { r with state:=.busy })=wb at *;clear hH9 hf a n;have hpi:dn++[x]++rest=Bq s:=by simpa using hdn
  refine (congrArg (fun c=>VG _ [.code c] _ _) r5).mpr ?_
  have goOn:∀ {a:OA}{c:Nat}{wz:World},x≠[46,46]->Heap w [] wz (Yu (dr+1) (.loop { r with state:=.busy })::Yg go 107 [.slice a ((dn++[x]).filter Cm).length c]::C1 a ((dn++[x]).filter Cm) c::Yg gb 4 [.bool false]::Yg gs 9 [Ab s]::FR) ->
    ∃ G',Heap w [] (wz.putObj (dr+1) (.loop { r with state:=.ready,pending:=none })) (G'++Yg gs 9 [Ab s]::FR)/\(H5 true=.bool true/\(∃ (dn:Et) (a:OA) (c:Nat),dn++rest=Bq s/\([46,46]:LB) ∉ dn/\G'=[Yu (dr+1) (.loop r),Yg go 107 [.slice a (dn.filter Cm).length c],C1 a (dn.filter Cm) c,Yg gb 4 [.bool false]]) ∨
     H5 true=.bool false/\([46,46]:LB)∈Bq s/\∃ (dn rest:Et) (a:OA) (c:Nat),dn++rest=Bq s/\G'=[Yu (dr+1) (.loop { r with state:=.done,pending:=some (.exit 2) }),Yg go 107 [.slice a (dn.filter Cm).length c],C1 a (dn.filter Cm) c,Yg gb 4 [.bool true]]):=by
   intro a c wz hx2 hh;rw [hr];refine ⟨_,hh.put (.loop r),.inl ⟨rfl,dn++[x],a,c,hpi,?_,rfl⟩⟩;rw [U3,Up];rintro (h | h)
   ·
    exact hno h
   exact hx2 h.symm
  ((repeat with_reducible refine Bl ?_);refine My ?_)
  (repeat with_reducible refine Bl ?_);refine C8 [4,7,8,30] (by kernel_rfl) fun K hK=>?_;simp only [go_sem,↓reduceIte,reduceEqDiff]
  (refine hK _ _ ?_;clear hK)
  ((repeat with_reducible refine Bl ?_);refine My ?_)
  (repeat with_reducible refine Bl ?_);refine C8 [4,7,8,30,31] (by kernel_rfl) fun K hK=>?_;simp only [go_sem,↓reduceIte,reduceEqDiff]
  (refine hK _ _ ?_;clear hK)
  (repeat with_reducible refine Bl ?_);by_cases hx0:x=[]
  ·
   subst hx0;refine Fy rfl rfl (fun h=>Lz ?_) (fun h=>by simp at h);refine Fy rfl rfl (fun h=>?_) (fun h=>by simp at h);refine Sy rfl ?_;refine Ps fun a n hf=>⟨_,n,rfl,hHd.at 0 rfl,?_⟩;refine goOn (a:=a0) (c:=c) (by simp) ?_;rw [Xi,show ([[]]:Et).filter Cm=[] from rfl,Yi];exact hHd
  refine Fy rfl rfl (fun h=>by simp at h;exact absurd h hx0) (fun h=>?_);clear h;(repeat with_reducible refine Bl ?_);refine C8 [4,7,8,30,31] (by kernel_rfl) fun K hK=>?_;simp only [go_sem,↓reduceIte,reduceEqDiff]
  (refine hK _ _ ?_;clear hK)
  (repeat with_reducible refine Bl ?_);by_cases hx1:x=[46]
  ·
   subst hx1;refine Fy rfl rfl (fun h=>?_) (fun h=>by simp at h);refine Sy rfl ?_;refine Ps fun a n hf=>⟨_,n,rfl,hHd.at 0 rfl,?_⟩;refine goOn (a:=a0) (c:=c) (by simp) ?_;rw [Xi,show ([[46]]:Et).filter Cm=[] from rfl,Yi];exact hHd
  refine Fy rfl rfl (fun h=>by simp at h;exact absurd h hx1) (fun h=>?_);clear h;(repeat with_reducible refine Bl ?_);refine C8 [4,7,8,30,34] (by kernel_rfl) fun K hK=>?_;simp only [go_sem,↓reduceIte,reduceEqDiff]
  (refine hK _ _ ?_;clear hK)
  (repeat with_reducible refine Bl ?_);by_cases hx2:x=[46,46]
  ·
   subst hx2;refine Fy rfl rfl (fun h=>?_) (fun h=>by simp at h);(repeat with_reducible refine Bl ?_);refine C8 [4] (by kernel_rfl) fun K hK=>?_;simp only [go_sem,↓reduceIte,reduceEqDiff];refine Ag ?_;simp only [go_sem,↓reduceIte,reduceEqDiff];refine Ap hHd 3 (vs:=[.bool true]) rfl rfl (by kernel_rfl) (by first | decide | (simp;done) | (simp;omega)) (by simp [Yr]) fun w6 hHe=>?_;(try simp only [go_sem,↓reduceIte,reduceEqDiff])
   (refine hK _ _ ?_;clear hK)
   refine Qq8 rfl fun a n hf=>?_;refine ⟨_,n,rfl,hHe.at 0 rfl,_,hHe.put (.loop { r with state:=.done,pending:=some (.exit 2) }),.inr ⟨rfl,?_,dn,[46,46]::rest,_,_,hdn,rfl⟩⟩;rw [<- hdn];simp
  refine Fy rfl rfl (fun h=>by simp at h;exact absurd h hx2) (fun h=>Lz ?_);clear h;refine Ov ?_;have hkp:Cm x=true:=by simp [Cm,hx0,hx1]
  have hf1:(dn++[x]).filter Cm=dn.filter Cm++[x]:=by simp [Xi,hkp]
  have hf2:((dn++[x]).filter Cm).length=(dn.filter Cm).length+1:=by rw [hf1];simp
  (repeat with_reducible refine Bl ?_);refine C8 [4,7] (by kernel_rfl) fun K hK=>?_;simp only [go_sem,↓reduceIte,reduceEqDiff];refine ⟨_,Af (hHd.at 1 rfl) rfl,?_⟩;refine Ei hHd [Ab x] (xs:=[.tmp 37]) Xs Tt rfl rfl rfl (by omega) ?_;simp only [go_sem,↓reduceIte,reduceEqDiff];refine ⟨trivial,by simp [Uf],fun g w4 hHe=>?_⟩;refine Ce ?_;simp only [go_sem,↓reduceIte,reduceEqDiff];refine C3 (zs:=#[.string ⟨#[]⟩]) (bytes:=16) hHe 3 rfl Xs (by kernel_rfl) rfl (m:=1) (news:=Cy [x]) ⟨rfl,As (hHe.at 0 rfl),9,Xs⟩ (Zt [x]) (fun h=>by omega) fun a' cap' w8 hc' hHf=>?_;simp only [Yt,Yc] at hHf;refine Ag ?_;simp only [go_sem,↓reduceIte,reduceEqDiff];refine Ap hHf 2 (vs:=[.slice a' ((dn.filter Cm).length+1) cap']) rfl rfl (by kernel_rfl) (by first | decide | (simp;done) | (simp;omega)) (by simp [Yr]) fun w6 hHg=>?_;(try simp only [go_sem,↓reduceIte,reduceEqDiff])
  (refine hK _ _ ?_;clear hK)
  rw [<- hf2,<- Qan,<- hf1] at hHg;refine Ov (Ps fun a n hf=>⟨_,n,rfl,hHg.at 1 rfl,?_⟩);refine goOn (a:=a') (c:=cap') hx2 ?_;exact hHg.sub (.cons _ (.refl _))
 rintro _ w7 ⟨G0,hH9,hv⟩;rcases hv with ⟨dn,a,c,hdn,hno,rfl⟩ | ⟨hbad,dn,rest,a,c,hdn,rfl⟩
 ·
  rw [Yi] at hdn;have hb:=Zo (rest:=[]) (s:=s) (dn:=dn) (by simpa using hdn);obtain ⟨kept,hkept⟩:∃ kept,kept=dn.filter Cm:=⟨_,rfl⟩;rw [<- hkept] at hb hH9;refine ⟨.ready,none,?_,by simp,?_⟩
  ·
   rw [hr];exact hH9.at 0 rfl
  simp only;have hHa:Heap w [] _ (Yu (dr+1) _::_):=H4 hH9 (.loop { r with state:=.exhausted,pending:=none });generalize w7.putObj (dr+1) (H6 { r with state:=.exhausted,pending:=none })=wb at *;have hHz:Heap w [] wb [Yg go 107 [.slice a kept.length c],C1 a kept c,Yg gb 4 [.bool false],Yu dr (.deferred (some []))]:=hHa.sub (.cons _ (.cons_cons _ (.cons_cons _ (.cons_cons _ (.cons _ (.refl _))))));clear hHa hH9;refine Ov ?_
  have hcl:E9 s=if Ef kept=[]∨120 < (Ef kept).length then none else some (Ef kept):=by
   unfold E9;rw [<- hdn,<- hkept];by_cases h1:Ef kept=[]
   ·
    rw [if_neg (fun h=>h.2.2.1 h1),if_pos (.inl h1)]
   by_cases h2:120 < (Ef kept).length
   ·
    rw [if_neg (fun h=>by have:=h.2.2.2;omega),if_pos (.inr h2)]
   rw [if_pos ⟨hall,hno,h1,by omega⟩,if_neg (by rintro (h | h);exact h1 h;exact h2 h)]
  (repeat with_reducible refine Bl ?_);refine C8 [7,9] (by kernel_rfl) fun K hK=>?_;simp only [go_sem,↓reduceIte,reduceEqDiff];refine ⟨_,Af (hHz.at 0 rfl) rfl,?_⟩;skip;refine Qg4 Tryz.call99 (Qhn kept a c wb (hHz.at 1 rfl) (by omega) (by omega)) (by simp only [go_sem,↓reduceIte,reduceEqDiff] <;> rfl) ?_;rintro v wj ⟨hHj,rfl⟩;simp only [go_sem,↓reduceIte,reduceEqDiff];(refine hK _ _ ?_;clear hK);have hHk:=hHz.call0 hHj;clear hHj;generalize Ef kept=p at *;(repeat with_reducible refine Bl ?_);refine C8 [9,51] (by kernel_rfl) fun K hK=>?_;simp only [go_sem,↓reduceIte,reduceEqDiff];refine ⟨_,Af (hHk.at 2 rfl) rfl,?_⟩;simp only [go_sem,↓reduceIte,reduceEqDiff]
  suffices out:∀ b:Bool,(b=true ↔ (p=[]∨120 < p.length))->K [(9,Ab p),(51,.bool b)] wj by
   refine And.intro (fun h1=>out _ ?_) (fun h1=>out _ ?_)
   ·
    rw [decide_eq_true_eq];simp only [h1,false_or];omega
   simp [h1]
  intro b hb2
  (refine hK _ _ ?_;clear hK)
  (repeat with_reducible refine Bl ?_);have hHq:=hHk.front 3 rfl;refine Fy rfl rfl (fun h=>?_) (fun h=>Lz ?_)
  ·
   rw [if_pos (hb2.1 h)] at hcl;(repeat with_reducible refine Bl ?_);refine C8 [2,3] (by kernel_rfl) fun K hK=>?_;simp only [go_sem,↓reduceIte,reduceEqDiff]
   (refine hK _ _ ?_;clear hK)
   refine Pr (QLk (ms:=[dr]) hHq fun w' hh=>Bp rfl rfl rfl ⟨hh.sub (Xj _),?_⟩);rw [hcl];rfl
  have hg:¬ (p=[]∨120 < p.length):=fun hh=>by rw [hb2.2 hh] at h;cases h
  rw [if_neg hg] at hcl;(repeat with_reducible refine Bl ?_);refine C8 [2,3] (by kernel_rfl) fun K hK=>?_;simp only [go_sem,↓reduceIte,reduceEqDiff]
  (refine hK _ _ ?_;clear hK)
  refine Pr (QLk (ms:=[dr]) hHq fun w' hh=>Bp rfl rfl rfl ⟨hh.sub (Xj _),?_⟩);rw [hcl];rfl
 have hb:=Zo hdn;obtain ⟨kept,hkept⟩:∃ kept,kept=dn.filter Cm:=⟨_,rfl⟩;rw [<- hkept] at hb hH9;refine ⟨.done,some (.exit 2),hH9.at 0 rfl,by simp,?_⟩;simp only;have hHa:Heap w [] _ (Yu (dr+1) _::_):=H4 hH9 (.loop { r with state:=.exhausted,pending:=some (.exit 2) });generalize w7.putObj (dr+1) (H6 { r with state:=.exhausted,pending:=some (.exit 2) })=wb at *;have hHz:Heap w [] wb [Yg go 107 [.slice a kept.length c],C1 a kept c,Yg gb 4 [.bool true],Yu dr (.deferred (some []))]:=hHa.sub (.cons _ (.cons_cons _ (.cons_cons _ (.cons_cons _ (.cons _ (.refl _))))));clear hHa hH9;refine Sy rfl ?_
 have hcl:E9 s=none:=by
  unfold E9;rw [if_neg];exact fun h=>h.2.1 hbad
 (repeat with_reducible refine Bl ?_);refine C8 [7,9] (by kernel_rfl) fun K hK=>?_;simp only [go_sem,↓reduceIte,reduceEqDiff];refine ⟨_,Af (hHz.at 0 rfl) rfl,?_⟩;skip;refine Qg4 Tryz.call99 (Qhn kept a c wb (hHz.at 1 rfl) (by omega) (by omega)) (by simp only [go_sem,↓reduceIte,reduceEqDiff] <;> rfl) ?_;rintro v wj ⟨hHj,rfl⟩;simp only [go_sem,↓reduceIte,reduceEqDiff];(refine hK _ _ ?_;clear hK);have hHk:=hHz.call0 hHj;clear hHj;generalize Ef kept=p at *;(repeat with_reducible refine Bl ?_);refine C8 [9,51] (by kernel_rfl) fun K hK=>?_;simp only [go_sem,↓reduceIte,reduceEqDiff];refine ⟨_,Af (hHk.at 2 rfl) rfl,?_⟩;simp only [go_sem,↓reduceIte,reduceEqDiff]
 (refine hK _ _ ?_;clear hK)
 (repeat with_reducible refine Bl ?_);refine Fy rfl rfl (fun h=>?_) (fun h=>by simp at h);(repeat with_reducible refine Bl ?_);refine C8 [2,3] (by kernel_rfl) fun K hK=>?_;simp only [go_sem,↓reduceIte,reduceEqDiff]
 (refine hK _ _ ?_;clear hK)
 have hHq:=hHk.front 3 rfl;refine Pr (QLk (ms:=[dr]) hHq fun w' hh=>Bp rfl rfl rfl ⟨hh.sub (Xj _),?_⟩);rw [hcl];rfl
theorem T3 (s:LB) (w:World) (hs:s.length<=1000000000):Does Yd 52 #[Ab s] w fun v w'=>Heap w [] w' []/\v=.int .i64 (If s):=by
 refine Qu (args:=[Ab s]) 17 Tryz.func52 rfl rfl (of_decide_eq_true rfl) ?_;simp only [Env.ofArgs];refine VR [0] rfl rfl fun K hK=>?_;simp only [go_sem,↓reduceIte,reduceEqDiff]
 (refine hK _ _ ?_;clear hK)
 refine VR [0,3,4] rfl rfl fun K hK=>?_;simp only [go_sem,↓reduceIte,reduceEqDiff];refine Aa Tryz.call75 ?_;simp only [go_sem,↓reduceIte,reduceEqDiff];refine Yk (Qoj s w hs) ?_;rintro v w2 ⟨hH,rfl⟩;unfold QAp
 (refine hK _ _ ?_;clear hK)
 refine VR [16] rfl rfl fun K hK=>?_;simp only [go_sem,↓reduceIte,reduceEqDiff]
 suffices out:∀ b:Bool,(b=true ↔ E9 s≠some s)->K [(16,.bool b)] w2 by
  cases hc:E9 s with
  | none =>
   rw [hc] at out;exact And.intro (fun h=>absurd h (by simp)) (fun _=>out _ (by simp))
  | some q =>
   rw [hc] at out;refine And.intro (fun _=>out _ ?_) (fun h=>absurd rfl h);simp
 intro b hb
 (refine hK _ _ ?_;clear hK)
 refine Ai rfl rfl (fun h=>?_) (fun h=>Ad ?_)
 ·
  refine VR [2] rfl rfl fun K hK=>?_;simp only [go_sem,↓reduceIte,reduceEqDiff]
  (refine hK _ _ ?_;clear hK)
  exact Ae (Al rfl rfl ⟨hH,by rw [If,if_neg (hb.1 h)]⟩)
 have hg:E9 s=some s:=Classical.byContradiction fun hh=>by rw [hb.2 hh] at h;cases h
 refine VR [2] rfl rfl fun K hK=>?_;simp only [go_sem,↓reduceIte,reduceEqDiff]
 (refine hK _ _ ?_;clear hK)
 exact Ae (Al rfl rfl ⟨hH,by rw [If,if_pos hg]⟩)
abbrev Bs:=LB
def Cf (n:Nat):Bs:=Ya n 0
def Nb (n:Nat):Nat->Bs
 | 0=>[]
 | j+1=>X3 (48+n / 8 ^ j % 8)::Nb n j
def Bm (n width:Nat):Bs:=Nb n (width - 1)++[0]
theorem Qiq (n:Nat):∀ j,(Nb n j).length=j
 | 0=>rfl
 | j+1=>by simp [Nb,Qiq n j]
theorem Ok (n:Nat) {width:Nat} (h:1<=width):(Bm n width).length=width:=by
 simp [Bm,Qiq];omega
def A1 (s:Bs) (w:Nat):Bs:=s++Cf (w - s.length)
theorem K2 (n:Nat):(Cf n).length=n:=by simp [Cf]
theorem Qf4 {s:Bs}{w:Nat} (h:s.length<=w):(A1 s w).length=w:=by simp [A1,K2];omega
def QQl (b:UInt8):Bool:=decide (48<=b.toNat) && decide (b.toNat<=55)
def QGj (n:Nat) (b:UInt8):Nat:=if n<=9007199254740992 then 8 * n+(b.toNat - 48) else n
def QQm (b:UInt8):Bool:=b == 32
def QS4 (b:UInt8):Bool:=b == 32 || b == 0
def QQn (s:Bs):Bs:=(s.dropWhile QQm).takeWhile QQl
def QS5 (s:Bs):Bs:=((s.dropWhile QQm).dropWhile QQl).dropWhile QS4
def Rw (s:Bs):Nat×Nat :=
 if QS5 s≠[] then (0,150) else if 9007199254740992 < (QQn s).foldl QGj 0 then (0,3) else ((QQn s).foldl QGj 0,0)
def QLl (s:Bs):Bs:=s.takeWhile fun b=>b != 0
def P7:Nat->Bs->Nat
 | _,[]=>0
 | i,b::r=>(if 148<=i/\i < 156 then 32 else b.toNat)+P7 (i+1) r
def Tk (s:Bs):Nat:=P7 0 s
theorem Qt0:∀ (a:Bs) (i:Nat),P7 i a<=255 * a.length
 | [],i=>by simp [P7]
 | x::a,i=>by
  have h:=Qt0 a (i+1);have hx:x.toNat < 256:=x.toNat_lt;rw [P7,Xa];split <;> omega
abbrev F4:Bs:=[117,115,116,97,114,0,48,48]
def Qf (s:Bs) (a n:Nat):Bs:=(s.drop a).take n
def QGk (s:Bs):Prop :=
 ((Rw (Qf s 100 8)).2=0/\(Rw (Qf s 108 8)).2=0/\(Rw (Qf s 116 8)).2=0/\(Rw (Qf s 124 12)).2=0/\(Rw (Qf s 136 12)).2=0/\(Rw (Qf s 148 8)).2=0) /\
  (Rw (Qf s 148 8)).1=Tk s/\Qf s 257 8=F4
instance (s:Bs):Decidable (QGk s):=by unfold QGk;infer_instance
def Ln (name:Bs) (size:Nat):Bs:=A1 name 100++(Bm 420 8++(Bm 0 8++(Bm 0 8++(Bm size 12++Bm 0 12))))
def Nc (kind:UInt8) (pre:Bs):Bs:=kind::(Cf 100++(F4++(Cf 32++(Cf 32++(Bm 0 8++(Bm 0 8++(A1 pre 155++Cf 12)))))))
def Rx (pre name:Bs) (kind:UInt8) (size:Nat):Nat:=Tk (Ln name size++(Cf 8++Nc kind pre))
def Ms (pre name:Bs) (kind:UInt8) (size:Nat):Bs:=Ln name size++(Bm (Rx pre name kind size) 7++32::Nc kind pre)
theorem Vs {name:Bs} (h:name.length<=100) (size:Nat):(Ln name size).length=148:=by
 simp [Ln,Qf4 h,Ok]
theorem Mg {pre:Bs} (h:pre.length<=155) (kind:UInt8):(Nc kind pre).length=356:=by
 simp [Nc,Qf4 h,Ok,K2]
theorem Q3 {pre name:Bs} (h:pre.length<=155) (h2:name.length<=100) (kind:UInt8) (size:Nat):(Ms pre name kind size).length=512:=by
 simp [Ms,Vs h2,Mg h,Ok]
theorem QFb {pre name:Bs} (h:pre.length<=155) (h2:name.length<=100) (kind:UInt8) (size:Nat):Rx pre name kind size < 8 ^ 6:=by
 have h3:=Qt0 (Ln name size++(Cf 8++Nc kind pre)) 0;rw [Ye,Ye,Vs h2,Mg h,K2] at h3;have:Rx pre name kind size<=255 * 512:=h3;omega
def Pt (p:Bs):Nat->Nat->Option (Bs×Bs)
 | 0,_=>none
 | f+1,i=>if i+1 < p.length/\i<=155 then (if p.getD i 0=47/\p.length - i - 1<=100 then some (p.take i,p.drop (i+1)) else Pt p f (i+1)) else none
def Iy (p:Bs):Option (Bs×Bs):=if p.length<=100 then some ([],p) else Pt p p.length 1
theorem Qe6 {p:Bs}:∀ {f i:Nat}{r:Bs×Bs},Pt p f i=some r->∃ k,i<=k/\k+1 < p.length/\k<=155/\p.getD k 0=47/\p.length - k - 1<=100/\r=(p.take k,p.drop (k+1))
 | 0,i,r,h=>by simp [Pt] at h
 | f+1,i,r,h=>by
  rw [Pt] at h;split at h
  ·
   rename_i h1;split at h
   ·
    rename_i h2;cases h;exact ⟨i,Xm _,h1.1,h1.2,h2.1,h2.2,rfl⟩
   obtain ⟨k,hk,hr⟩:=Qe6 h;exact ⟨k,by omega,hr⟩
  cases h
theorem Qa6 {p pre nm:Bs} (h:Iy p=some (pre,nm)) (hp:p≠[]):pre.length<=155/\nm.length<=100/\(pre=[]->nm≠[])/\(if pre=[] then nm else pre++47::nm)=p:=by
 rw [Iy] at h;split at h
 ·
  cases h;exact ⟨by simp,by omega,fun _=>hp,by simp⟩
 obtain ⟨k,h1,h2,h3,h4,h5,h6⟩:=Qe6 h;cases h6
 have hne:p.take k≠[]:=by
  intro hh;have:=congrArg H3 hh;simp only [X0,Gs] at this;omega
 refine ⟨by simp;omega,by simp;omega,fun hh=>absurd hh hne,?_⟩;rw [if_neg hne]
 have h7:p[k]? = some 47:=by
  rw [Yf] at h4;rw [Yb (by omega)] at h4 ⊢;simpa using h4
 have h8:p.drop k=47::p.drop (k+1):=by
  rw [Y4 (by omega)];rw [Yb (by omega)] at h7;simp at h7;rw [h7]
 rw [<- h8,Xt]
theorem Qe7 {p:Bs} (h:Iy p=none):100 < p.length:=by
 rw [Iy] at h;split at h
 ·
  cases h
 omega
def Kw (x:Bs):Bs:=x++Cf ((512 - x.length % 512) % 512)
theorem Rc (x:Bs):(Kw x).length=(x.length+511) / 512 * 512:=by
 rw [Kw,Ye,K2];omega
def Ry (n:Nat):Bs:=[X3 (48+n / 100 % 10),X3 (48+n / 10 % 10),X3 (48+n % 10)]
abbrev pathW:Bs:=[112,97,116,104]
def Mt (p:Bs):Bs:=Ry (p.length+10)++32::(pathW++61::(p++[10]))
theorem Qdi (p:Bs):(Mt p).length=p.length+10:=by simp [Mt,Ry]
theorem Qe8 (s:Bs) (w:World):Does Yd 169 #[Ab s,.int .u8 0] w fun v w'=>w'=w/\v=.int .i64 (Lib.indexByte s 0) :=
 Vl fun w=>Go.Proofs.Any.strings_IndexByte Qrs ⟨s.toArray⟩ 0 w
theorem Qru (s:Bs):Lib.indexByte s 0=if (0:UInt8)∈s then ((QLl s).length:Int) else -1:=by
 induction s with
 | nil=>rfl
 | cons b s ih =>
  rw [Lib.indexByte,ih];by_cases hb:b=0
  ·
   subst hb;simp [QLl]
  have h2:¬ (0:UInt8)=b:=fun e=>hb e.symm;rw [if_neg (by simpa using hb)];simp only [Yz,h2,false_or,QLl,List.takeWhile_cons,bne_iff_ne,ne_eq,hb,not_false_eq_true,if_true,Xa];split
  ·
   rw [if_neg (by simp;try omega)];simp
  simp
theorem Qkq {s:Bs} (h:(0:UInt8) ∉ s):Lib.indexByte s 0=-1:=by rw [Qru,if_neg h]
theorem Qpw (n:Nat):Cf n++[0]=Cf (n+1):=by rw [Cf,Cf,Gz]
theorem Qho (n width:Nat) (w:World) (h1:2<=width) (h2:width<=20) (hn:n < 8 ^ (width - 1)) (hm:n<=9007199254740992) :
  Does Yd 174 #[.int .i64 n,.int .i64 width] w fun v w'=>Heap w [] w' []/\v=.tuple #[Ab (Bm n width),.int .i64 0]:=by
 have hsh:n / 2 ^ (3 * (width - 1))=0:=by
  rw [Nat.pow_mul];exact Nat.div_eq_of_lt hn
 refine En [.int .i64 n,.int .i64 width] 43 Tryz.func174 ?_;refine VS [0,1] ?_;refine VQ [0,1,13] fun K hK=>?_;refine And.intro (fun _=>?_) (fun h=>absurd h (by omega));apply hK;clear hK;refine Ai rfl rfl (fun h=>absurd h (by simp;omega)) (fun h=>Ad ?_);clear h;refine VQ [0,1,23] fun K hK=>?_
 have hsN:By Uq (3 * ((width:Int) - 1))=3 * (width - 1):=by
  rw [By,show IntKind.i64.bits=64 from rfl];omega
 refine And.intro (fun _=>?_) (fun h=>absurd h (by omega));rw [hsN];refine And.intro (Xz (by omega) (by omega)) (And.intro (Xz (by omega) (by omega)) (And.intro (by omega) ?_))
 have hq:(n:Int) / 2 ^ (3 * (width - 1))=0:=by
  have:=congrArg (Nat.cast (R:=Int)) hsh;simpa using this
 rw [hq];apply hK;clear hK;refine Ai rfl rfl (fun h=>absurd h (by simp)) (fun h=>Ad ?_);clear h;refine VQ [0,1,6] fun K hK=>?_;refine Ew Ub Mv ?_;refine Qs ?_;refine ⟨width,width,⟨rfl,rfl,by omega,by omega,by omega⟩,?_⟩;have hH:=(Yx w).row 5 (n:=width) (cap:=width) (sz:=1) (Ya width (.int .u8 0)) [] (by simp) (by simp) (by omega) (by omega);rw [Yi,show Ya width (Y8 .u8 0)=Ao (Cf width) by simp [Ao,Cf]] at hH;rw [show Ya width (Y8 .u8 0)=Ao (Cf width) by simp [Ao,Cf]];generalize w.alloc (Yo (Ao (Cf width)).toArray 5)=w1 at *;generalize w.heap.size=gb at *;apply hK;clear hK;refine VS [0,6,7] ?_;refine Aq ?_;refine Ay [0,6,7] (fun m e w'=>∃ (i:Int) (n2 j:Nat),Is e [(0,.int .i64 n2),(6,.slice (some ⟨gb,0,none⟩) width width),(7,.int .i64 i)]/\Heap w [] w' [Yl 5 1 (some ⟨gb,0,none⟩) width width (Ao (Cf (width - 1 - j)++(Nb n j++[0])))]/\j<=width - 1/\i=(width:Int) - 2 - j/\n2=n / 8 ^ j/\n2<=n/\m=width - 1 - j) (width - 1) ?_ ?_
 ·
  refine Qs ?_;refine ⟨_,n,0,rfl,?_,by omega,by omega,by simp,by omega,by omega⟩;rw [Nb,Yp,Nat.sub_zero,Qpw,show width - 1+1=width by omega];exact hH
 clear hH;rintro m e w' ⟨i,n2,j,rfl,hH,hj,rfl,hn2,hle,rfl⟩;refine VS [0,6,7,29] ?_;refine VD (fun h=>?_) (fun h=>?_)
 ·
  refine Ad ?_;refine VB ?_
  have hlen:(Cf (width - 1 - j)++(Nb n j++[0])).length=width:=by
   simp [K2,Qiq];omega
  have e7:(n2 &&& Ge 7)=n2 % 8:=Nat.and_two_pow_sub_one_eq_mod n2 3;have hd8:n2 % 8 < 8:=X4 _ (by omega)
  have eo:(X3 (48+n / 8 ^ j % 8)).toNat=48+n2 % 8:=by
   rw [Hc,<- hn2];omega
  have es:(Cf (width - 1 - j)++(Nb n j++[0])).set (width - 2 - j) (X3 (48+n / 8 ^ j % 8))=Cf (width - 1 - (j+1))++(Nb n (j+1)++[0]):=by
   rw [show width - 1 - j=(width - 1 - (j+1))+1 by omega,<- Qpw,Yq,Xh _ _ (by rw [K2];omega),K2,show width - 2 - j - (width - 1 - (j+1))=0 by omega];rfl
  generalize Cf (width - 1 - j)++(Nb n j++[0])=O at *;refine VQ [0,6,7] fun K hK=>?_;rw [e7,show (48+((n2 % 8:Nat):Int)) % 256=((X3 (48+n / 8 ^ j % 8)).toNat:Int) by rw [eo];omega];generalize X3 (48+n / 8 ^ j % 8)=y at *;refine And.intro ⟨by omega,by omega⟩ (And.intro ⟨by omega,by omega⟩ (And.intro (Xz (by omega) (by omega)) (And.intro (by omega) ?_)));refine Ag ?_;refine Qs ?_;refine Dp hH 0 (o:=(((width:Int) - 2 - j).toNat)) (vs:=[.int .u8 y.toNat]) rfl (by first | exact (Bv _ _ _).symm | rfl | simp [Bv]) rfl (by kernel_rfl) (by first | omega | (simp;done) | (simp;omega) | (simp [Ao,Br];omega) | (rw [natsV_len];simp;omega)) (by simp [Yr]) fun w6 hH2=>?_;(try refine Qs ?_);rw [show ((width:Int) - 2 - j).toNat=width - 2 - j by omega] at hH2;simp only [Yj,Dm (Ao O) _ _ (show width - 2 - j < (Ao O).length by rw [Of];omega),T7,Yc,es] at hH2;apply hK;clear hK;refine VQ [0,6,7] fun K hK=>?_;refine Qo ?_
  have h8:(n2:Int) / 2 ^ By Uq 3=((n / 8 ^ (j+1):Nat):Int):=by
   rw [show By Uq 3=3 from rfl,Nat.pow_succ,<- Gp,<- hn2];omega
  have hle2:n / 8 ^ (j+1)<=n:=Nat.div_le_self _ _;rw [h8];apply hK;clear hK;refine An ?_;refine VQ [0,6,7] fun K hK=>?_;(repeat first | refine Qo ?_ | refine Qp ?_);apply hK;clear hK;refine Ah ?_;refine Qs ?_;exact ⟨width - 1 - (j+1),by omega,_,n / 8 ^ (j+1),j+1,rfl,hH2,by omega,by omega,rfl,hle2,rfl⟩
 obtain rfl:j=width - 1:=by omega
 refine Ax rfl ?_;rw [Xd,show Cf 0++(Nb n (width - 1)++[0])=Bm n width by simp [Cf,Bm]] at hH;refine VQ [4,5] fun K hK=>?_;refine ⟨Bm n width,Fw (by have:=Ok n (width:=width) (by omega);rw [<- this] at hH ⊢;exact As (hH.at 0 rfl)),?_⟩;apply hK;clear hK;exact Ae (Bp rfl rfl rfl ⟨hH.sub (by simp),rfl⟩)
theorem QAq (w:World) (n:Nat) (hn:n<=1000000000):Heap w [] (w.alloc (Yo (Ya n (Y8 .u8 0)).toArray 5)) [Yl 5 1 (some ⟨w.heap.size,0,none⟩) n n (Ao (Cf n))]/\Sf (w.alloc (Yo (Ya n (Y8 .u8 0)).toArray 5)) (some ⟨w.heap.size,0,none⟩) n (Cf n):=by
 have hH:=(Yx w).row 5 (n:=n) (cap:=n) (sz:=1) (Ya n (.int .u8 0)) [] (by simp) (by simp) (by omega) (by omega);rw [Yi] at hH;have hz:Ya n (Y8 .u8 0)=Ao (Cf n):=by simp [Ao,Cf]
 rw [hz] at hH ⊢;refine ⟨hH,Fw ?_⟩;have hr:=As (hH.at 0 rfl);exact hr
theorem Qrv (s:Bs) (width:Nat) (w:World) (hs:s.length<=width) (hw:width<=512) (h0:(0:UInt8) ∉ s) :
  Does Yd 203 #[Ab s,.int .i64 width] w fun v w'=>Heap w [] w' []/\v=.tuple #[Ab (A1 s width),.int .i64 0]:=by
 refine En [Ab s,.int .i64 width] 29 Tryz.func203 ?_;refine VS [0,1] ?_;refine VQ [0,1,11] fun K hK=>?_;refine And.intro (fun _=>?_) (fun h=>absurd h (by omega));apply hK;clear hK;refine Ai rfl rfl (fun h=>absurd h (by simp;omega)) (fun h=>Ad ?_);clear h;refine VQ [0,1,20] fun K hK=>?_;refine And.intro (fun _=>?_) (fun h=>absurd h (by omega));refine Aa Tryz.call169 ?_;refine Qs ?_;refine Yk (Qe8 s w) ?_;rintro v w2 ⟨rfl,rfl⟩;rw [Qkq h0];refine Qs ?_;apply hK;clear hK;refine Ai rfl rfl (fun h=>absurd h (by simp)) (fun h=>Ad ?_);clear h;refine VQ [4,5] fun K hK=>?_;rw [show (width:Int) - s.length=((width - s.length:Nat):Int) by omega];refine And.intro (Xz (by omega) (by omega)) ?_;refine Ew Ub Mv ?_;refine Qs ?_;refine ⟨width - s.length,width - s.length,⟨rfl,rfl,by omega,by omega,by omega⟩,?_⟩;obtain ⟨hH,hrb⟩:=QAq w2 (width - s.length) (by omega);generalize w2.alloc (Yo (Ya (width - s.length) (Y8 .u8 0)).toArray 5)=w1 at *;generalize w2.heap.size=gb at *;refine ⟨Cf (width - s.length),hrb,?_⟩;refine And.intro (by rw [K2];omega) ?_;apply hK;clear hK;exact Ae (Bp rfl rfl rfl ⟨hH.sub (by simp),rfl⟩)
theorem Qv6 (s:Bs) (w:World) (hs:s.length=512):Does Yd 173 #[Ab s] w fun v w'=>w'=w/\v=.tuple #[.int .i64 (Tk s),.int .i64 0]:=by
 refine En [Ab s] 30 Tryz.func173 ?_;refine VS [0] ?_;refine VS [0,8] ?_;rw [hs];refine Ai rfl rfl (fun h=>by simp at h) (fun h=>Ad ?_);clear h;refine VS [0,4] ?_;refine VS [0,4,10,11] ?_;rw [hs];refine Aq ?_;refine Ay [0,4,10,11] (fun m e w'=>∃ (i n:Nat),Is e [(0,Ab s),(4,.int .i64 n),(10,.int .i64 512),(11,.int .i64 i)]/\Is w' w/\i<=512/\n+P7 i (s.drop i)=Tk s/\n<=255 * i/\m=512 - i) 512 ?_ ?_
 ·
  refine Qs ?_;exact ⟨0,0,rfl,rfl,by omega,by simp [Tk],by omega,rfl⟩
 rintro m e w' ⟨i,n,rfl,rfl,hi,hsum,hn,rfl⟩;refine VS [0,4,10,11,12] ?_;(repeat refine Aw ?_);refine VD (fun h=>?_) (fun h=>?_)
 ·
  have hd:s.drop i=s.getD i 0::s.drop (i+1):=by
   rw [Y4 (by omega),Yf,Yb (by omega)];rfl
  have hlt:(s.getD i 0).toNat < 256:=(s.getD i 0).toNat_lt;rw [hd,P7] at hsum;refine Ad ?_;refine VB ?_;refine VS [0,4,5,10,11] ?_;refine VQ [0,4,5,10,11,19] fun K hK=>?_
  suffices out:∀ b:Bool,(b=true ↔ 148<=i/\i < 156)->K [(0,Ab s),(4,.int .i64 n),(5,.int .i64 i),(10,.int .i64 512),(11,.int .i64 i),(19,.bool b)] w' by
   refine ⟨fun h3=>out _ ?_,fun h3=>out _ ?_⟩
   ·
    rw [decide_eq_true_eq];omega
   simp only [Hd,false_iff];omega
  intro b hb;apply hK;clear hK;refine Ai rfl rfl (fun h2=>?_) (fun h2=>?_)
  ·
   rw [if_pos (hb.1 h2)] at hsum;refine VS [0,4,10,11] ?_;refine An ?_;refine VS [0,4,10,11] ?_;refine Ah ?_;refine Qs ?_;exact ⟨512 - (i+1),by omega,i+1,n+32,rfl,rfl,by omega,by omega,by omega,rfl⟩
  rw [if_neg (fun h3=>by rw [hb.2 h3] at h2;cases h2)] at hsum;refine VS [0,4,10,11] ?_;refine An ?_;refine VS [0,4,10,11] ?_;refine Ah ?_;refine Qs ?_;exact ⟨512 - (i+1),by omega,i+1,n+(s.getD i 0).toNat,rfl,rfl,by omega,by omega,by omega,rfl⟩
 obtain rfl:i=512:=by omega
 refine Ax rfl ?_;rw [Gq (by omega),P7,Ho] at hsum;subst hsum;refine VS [2,3] ?_;exact Ae (Bp rfl rfl rfl ⟨rfl,rfl⟩)
abbrev pV (g:Nat):Value:=.pointer (some ⟨g,0,none⟩)
theorem i8 (b c:UInt8) {n:Int} (h:(c.toNat:Int)=n):((b.toNat:Int)=n) ↔ b=c:=by
 subst h;rw [Int.ofNat_inj,UInt8.toNat_inj]
structure Mb where
 p:Bs
 s:Int
 n:Int
 z:Int
 c:Nat
def Ar (m:Mb):LV:=[Ab m.p,.int .i64 m.s,.int .i64 m.n,.int .i64 m.z,.int .u32 m.c]
structure Mb.fit (m:Mb):Prop where
 p:m.p.length<=1000
 s:I64 m.s
 n:I64 m.n
 z:I64 m.z
 c:m.c < 4294967296
structure Mb.ok (m:Mb):Prop where
 p:m.p.length<=1000
 s:30<=m.s
 n:1<=m.n
 n2:m.n<=4096
 s2:m.s<=4096 - m.n
 z:0<=m.z
 z2:m.z<=8192
 c:m.c < 4294967296
theorem Ic (m:Mb):∀ v∈Ar m,v.oneCell'=true:=by
 intro v hv;simp [Ar] at hv;rcases hv with rfl | rfl | rfl | rfl | rfl <;> rfl
theorem Mb.ok.fit {m:Mb} (h:m.ok):m.fit:=by
 obtain ⟨h1,h2,h3,h4,h5,h6,h7,h8⟩:=h;exact ⟨h1,Xz (by omega) (by omega),Xz (by omega) (by omega),Xz (by omega) (by omega),h8⟩
theorem Qe9 (m:Mb) (hm:m.fit) (w:World):Does Yd 66 #[.agg (Ar m).toArray] w fun v w'=>Heap w [] w' []/\(v=.int .i64 0/\m.ok∨v=.int .i64 200/\¬ (If m.p=0/\m.ok)):=by
 obtain ⟨m1,m2,m3,m4,m5⟩:=hm;refine En [.agg (Ar m).toArray] 40 Tryz.func66 ?_;refine Aj [1] fun K hK=>?_;refine Iq (Yx w) (Ar m) ?_;refine Qi ?_;refine ⟨trivial,fun g w1 hH=>?_⟩;apply hK;clear hK;refine Aj [39] fun K hK=>?_;refine ⟨_,Af (hH.at 0 rfl) rfl,?_⟩;refine Aa Tryz.call52 ?_;refine Qi ?_;refine Yk (T3 m.p w1 (by omega)) ?_;rintro v w2 ⟨hHp,rfl⟩;have hH:=hH.call0 hHp;simp only [Yp] at hH;clear hHp;refine Qi ?_
 suffices out:∀ b:Bool,(b=false->m.ok)/\(b=true->If m.p=0->¬ m.ok)->K [(39,.bool b)] w2 by
  (repeat' (first | exact out _ ⟨by first | (simp;done) | (intro hf;first | (cases hf;done) | (simp at hf;constructor <;> omega)),by first | (simp;done) | (intro hf h0 hk;obtain ⟨k1,k2,k3,k4,k5,k6,k7,k8⟩:=hk;first | omega | (simp at hf;omega) | (simp_all;done))⟩ | refine ⟨fun _=>?_,fun _=>?_⟩ | (refine ⟨_,Af (hH.at 0 rfl) rfl,?_⟩;(try refine Qi ?_)) | refine Qo ?_))
 intro b hb;apply hK;clear hK;refine Ai rfl rfl (fun h=>?_) (fun h=>Ad ?_)
 ·
  refine Aj [2] fun K hK=>?_;apply hK;clear hK;exact Ae (Al rfl rfl ⟨hH.sub (by simp),.inr ⟨rfl,fun h3=>hb.2 h h3.1 h3.2⟩⟩)
 refine Aj [2] fun K hK=>?_;apply hK;clear hK;exact Ae (Al rfl rfl ⟨hH.sub (by simp),.inl ⟨rfl,hb.1 h⟩⟩)
theorem Qmq (z:Int):∃ y:UInt8,z % 256=(y.toNat:Int):=⟨X3 (z % 256).toNat,by rw [Hc];omega⟩
theorem K0 (x wd:Nat) (hx:x < 18446744073709551616) (hw:1<=wd) (hw2:wd<=8) (w:World):Does Yd 124 #[.int .u64 x,.int .i64 wd] w fun v w'=>Heap w [] w' []/\∃ s:Bs,s.length=wd/\v=Ab s:=by
 refine En [.int .u64 x,.int .i64 wd] 29 Tryz.func124 ?_;refine Aj [0,1] fun K hK=>?_;apply hK;clear hK;refine Aj [0,1,5] fun K hK=>?_;refine Ew Ub Mv ?_;refine Qi ?_;refine ⟨wd,wd,⟨rfl,rfl,by omega,by omega,by omega⟩,?_⟩;have hH:=(Yx w).row 5 (n:=wd) (cap:=wd) (sz:=1) (Ya wd (.int .u8 0)) [] (by simp) (by simp) (by omega) (by omega);rw [Yi,bytesV_zero] at hH;rw [bytesV_zero];generalize w.alloc (Yo (Ao (Ya wd 0)).toArray 5)=w1 at *;generalize w.heap.size=g at *;apply hK;clear hK;refine Aj [0,1,5,10,11] fun K hK=>?_;apply hK;clear hK;refine Aq ?_;refine Ay [0,1,5,10,11] (fun m e w'=>∃ (i:Nat) (l:Bs),Is e [(0,.int .u64 x),(1,.int .i64 wd),(5,.slice (some ⟨g,0,none⟩) wd wd),(10,.int .i64 wd),(11,.int .i64 i)]/\Heap w [] w' [Yl 5 1 (some ⟨g,0,none⟩) wd wd (Ao l)]/\l.length=wd/\i<=wd/\m=wd - i) wd ?_ ?_
 ·
  refine Qi ?_;exact ⟨0,_,rfl,hH,by simp,by omega,rfl⟩
 clear hH w1;rintro m e w1 ⟨i,l,rfl,hH,hl,hi,rfl⟩;refine Aj [0,1,5,10,11,12] fun K hK=>?_;apply hK;clear hK;(repeat refine Aw ?_);refine Ai rfl rfl (fun h=>?_) (fun h=>?_)
 ·
  simp only [decide_eq_true_eq] at h;refine Ad ?_
  ((repeat refine Aw ?_);refine Aq ?_)
  refine Aj [0,1,5,6,10,11] fun K hK=>?_;apply hK;clear hK;refine Aj [0,1,5,10,11] fun K hK=>?_;(repeat first | refine Qo ?_ | refine ⟨⟨by omega,by omega⟩,?_⟩);obtain ⟨y,hy⟩:=Qmq ((x:Int) / 2 ^ By IntKind.u64 (8 * ((wd:Int) - 1 - i) % 18446744073709551616));rw [hy];refine Ag ?_;refine Qi ?_;refine Dp hH 0 (o:=(i)) (vs:=[.int .u8 y.toNat]) rfl (by first | exact (Bv _ _ _).symm | rfl | simp [Bv]) rfl (by kernel_rfl) (by first | omega | (simp;done) | (simp;omega) | (simp [Ao,Br];omega) | (rw [Bh];simp;omega)) (by simp [Yr]) fun w6 hH2=>?_;(try refine Qi ?_);simp only [Yj,Dm (Ao l) _ _ (show i < (Ao l).length by rw [Of];omega),T7,Yc] at hH2;apply hK;clear hK;refine An ?_;refine Aj [0,1,5,10,11] fun K hK=>?_;(repeat first | refine Qo ?_ | refine ⟨⟨by omega,by omega⟩,?_⟩);apply hK;clear hK;refine Ah ?_;refine Qi ?_;exact ⟨wd - (i+1),by omega,i+1,_,rfl,hH2,by simp;omega,by omega,rfl⟩
 refine Ax rfl ?_;rw [<- hl] at hH;refine Aj [4] fun K hK=>?_;refine ⟨l,by rw [<- hl];exact hH.readsBytes 0 rfl,?_⟩;apply hK;clear hK;exact Ae (Al rfl rfl ⟨hH.sub (by simp),l,hl,rfl⟩)
theorem Qkr (m:Mb) (hm:m.fit) (w:World):Does Yd 90 #[.agg (Ar m).toArray] w fun v w'=>Heap w [] w' []/\∃ (s:Bs) (e:Int),v=.tuple #[Ab s,.int .i64 e]/\s.length<=2000/\(e=0->m.ok)/\(If m.p=0->m.ok->e=0/\s.length=m.p.length+11):=by
 refine En [.agg (Ar m).toArray] 38 Tryz.func90 ?_;refine Aj [1] fun K hK=>?_;refine Iq (Yx w) (Ar m) ?_;refine Qi ?_;refine ⟨trivial,fun g w1 hH=>?_⟩;apply hK;clear hK;refine Aj [1,4] fun K hK=>?_;refine ⟨Ar m,⟨rfl,Bu (hH.at 0 rfl)⟩,?_⟩;refine Aa Tryz.call66 ?_;refine Qi ?_;refine Yk (Qe9 m hm w1) ?_;rintro v w2 ⟨hHp,hv⟩;have hH:=hH.call0 hHp;simp only [Yp] at hH;clear hHp;rcases hv with ⟨rfl,hok⟩ | ⟨rfl,hno⟩
 ·
  skip
  apply hK;clear hK;refine Aj [1,4,8] fun K hK=>?_;apply hK;clear hK;refine Ai rfl rfl (fun h=>by simp at h) (fun h=>Ad ?_);clear h;obtain ⟨m1,m2,m3,m4,m5,m6,m7,m8⟩:=hok;have es:m.s % 18446744073709551616=(m.s.toNat:Int):=by omega
  have en:m.n % 18446744073709551616=(m.n.toNat:Int):=by omega
  have ez:m.z % 18446744073709551616=(m.z.toNat:Int):=by omega
  have ec:(m.c:Int) % 18446744073709551616=(m.c:Int):=by omega
  have el:(m.p.length:Int) % 18446744073709551616=(m.p.length:Int):=by omega
  (repeat refine Aw ?_);refine T5 w2 (Ext.refl _) [2,3] [(0,true),(1,true),(2,true),(3,true),(5,true),(6,true),(8,true),(9,true),(10,true),(13,true),(14,true),(15,true),(18,true),(19,true),(20,true),(23,true),(24,true),(25,true),(4,false),(7,true),(11,false),(12,true),(16,false),(17,true),(21,false),(22,true),(26,false),(27,true),(28,true),(29,true)] (by kernel_rfl) (by kernel_rfl) rfl (by simp only [A6,List.filterMap_cons,List.filterMap_nil,List.getElem?_cons_succ,List.getElem?_cons_zero,Option.map_some];rfl) fun K hK=>?_;refine Qi ?_;(repeat (first | refine Qo ?_ | refine ⟨⟨by omega,by omega⟩,?_⟩ | (refine ⟨_,(by first | exact Af (hH.at 0 rfl) rfl | exact B3 (hH.at 0 rfl) (bytesV_get (by omega)) | exact B3 (hH.at 0 rfl) (Kz (by omega)) | exact Af (hH.at 1 rfl) rfl | exact B3 (hH.at 1 rfl) (bytesV_get (by omega)) | exact B3 (hH.at 1 rfl) (Kz (by omega)) | exact Af (hH.at 2 rfl) rfl | exact B3 (hH.at 2 rfl) (bytesV_get (by omega)) | exact B3 (hH.at 2 rfl) (Kz (by omega)) | exact Af (hH.at 3 rfl) rfl | exact B3 (hH.at 3 rfl) (bytesV_get (by omega)) | exact B3 (hH.at 3 rfl) (Kz (by omega))),?_⟩;(try refine Qi ?_))));rw [es,en,ez,ec,el];refine Aa Gd ?_;refine Qi ?_;refine Yk (K0 m.p.length 1 (by omega) (by omega) (by omega) w2) ?_;rintro v w3 ⟨hA3,s3,h3,rfl⟩;refine Qi ?_;refine ⟨hA3.ext,?_⟩;refine And.intro (by first | omega | (simp only [Ye];omega)) ?_;refine Aa Gd ?_;refine Qi ?_;refine Yk (K0 m.s.toNat 2 (by omega) (by omega) (by omega) w3) ?_;rintro v w4 ⟨hA4,s4,h4,rfl⟩;refine Qi ?_;refine ⟨(hA3.call0 hA4).ext,?_⟩;refine And.intro (by first | omega | (simp only [Ye];omega)) ?_;refine Aa Gd ?_;refine Qi ?_;refine Yk (K0 m.n.toNat 2 (by omega) (by omega) (by omega) w4) ?_;rintro v w5 ⟨hA5,s5,h5,rfl⟩;refine Qi ?_;refine ⟨((hA3.call0 hA4).call0 hA5).ext,?_⟩;refine And.intro (by first | omega | (simp only [Ye];omega)) ?_;refine Aa Gd ?_;refine Qi ?_;refine Yk (K0 m.z.toNat 2 (by omega) (by omega) (by omega) w5) ?_;rintro v w6 ⟨hA6,s6,h6,rfl⟩;refine Qi ?_;refine ⟨(((hA3.call0 hA4).call0 hA5).call0 hA6).ext,?_⟩;refine And.intro (by first | omega | (simp only [Ye];omega)) ?_;refine Aa Gd ?_;refine Qi ?_;refine Yk (K0 m.c 4 (by omega) (by omega) (by omega) w6) ?_;rintro v w7 ⟨hA7,s7,h7,rfl⟩;refine Qi ?_;refine ⟨((((hA3.call0 hA4).call0 hA5).call0 hA6).call0 hA7).ext,?_⟩;refine And.intro (by first | omega | (simp only [Ye];omega)) ?_;apply hK;clear hK;refine Ae (Bp rfl rfl rfl ⟨((((hH.call0 hA3).call0 hA4).call0 hA5).call0 hA6).call0 hA7 |>.sub (by simp),_,0,rfl,by simp only [Ye];omega,fun _=>⟨m1,m2,m3,m4,m5,m6,m7,m8⟩,fun _ _=>⟨rfl,by simp only [Ye];omega⟩⟩)
 skip
 apply hK;clear hK;refine Aj [1,4,8] fun K hK=>?_;apply hK;clear hK;refine Ai rfl rfl (fun h=>?_) (fun h=>by simp at h);refine Aj [2,3] fun K hK=>?_;apply hK;clear hK;exact Ae (Bp rfl rfl rfl ⟨hH.sub (by simp),[],200,rfl,by simp,by simp,fun h1 h2=>absurd ⟨h1,h2⟩ hno⟩)
open Go.Shelf
def Qrw:Go.Shelf.Ren:=⟨fun | 6=>55 | 15=>82 | 14=>81 | 28=>122 | 29=>123 | 20=>114 | 21=>115 | 22=>116 | 23=>117 | 24=>118 | 25=>119 | 26=>120 | 27=>121 | 46=>152 | 47=>153 | 48=>154 | 49=>155 | 50=>156 | 57=>195 | n=>n,fun | 22=>55 | 24=>54 | 25=>111 | 3=>3 | 39=>141 | 0=>0 | 53=>52 | 55=>194 | 4=>4 | 46=>200 | 45=>199 | 50=>204 | 5=>5 | 9=>9 | 66=>244 | 70=>248 | 76=>283 | 77=>284 | n=>n,fun | n=>n⟩
theorem QAr:Go.Proofs.SlLaysF0.n6 Yd Qrw:={
 mixed:=by kernel_rfl
 f6:=⟨Tryz.f55.name,by decide,Tryz.func55.trans (congrArg some (by kernel_rfl))⟩
 f14:=⟨Tryz.f81.name,by decide,Tryz.func81.trans (congrArg some (by kernel_rfl))⟩
 f15:=Tryz.func82.trans (congrArg some (by kernel_rfl))
 f20:=⟨Tryz.f114.name,by decide,Tryz.func114.trans (congrArg some (by kernel_rfl))⟩
 f21:=⟨Tryz.f115.name,by decide,Tryz.func115.trans (congrArg some (by kernel_rfl))⟩
 f22:=⟨Tryz.f116.name,by decide,Tryz.func116.trans (congrArg some (by kernel_rfl))⟩
 f23:=⟨Tryz.f117.name,by decide,Tryz.func117.trans (congrArg some (by kernel_rfl))⟩
 f24:=⟨Tryz.f118.name,by decide,Tryz.func118.trans (congrArg some (by kernel_rfl))⟩
 f25:=⟨Tryz.f119.name,by decide,Tryz.func119.trans (congrArg some (by kernel_rfl))⟩
 f26:=⟨Tryz.f120.name,by decide,Tryz.func120.trans (congrArg some (by kernel_rfl))⟩
 f27:=⟨Tryz.f121.name,by decide,Tryz.func121.trans (congrArg some (by kernel_rfl))⟩
 f28:=Tryz.func122.trans (congrArg some (by kernel_rfl))
 f29:=Tryz.func123.trans (congrArg some (by kernel_rfl))
 f46:=⟨Tryz.f152.name,by decide,Tryz.func152.trans (congrArg some (by kernel_rfl))⟩
 f47:=Tryz.func153.trans (congrArg some (by kernel_rfl))
 f48:=Tryz.func154.trans (congrArg some (by kernel_rfl))
 f49:=⟨Tryz.f155.name,by decide,Tryz.func155.trans (congrArg some (by kernel_rfl))⟩
 f50:=⟨Tryz.f156.name,by decide,Tryz.func156.trans (congrArg some (by kernel_rfl))⟩
 f57:=⟨Tryz.f195.name,by decide,Tryz.func195.trans (congrArg some (by kernel_rfl))⟩
 t0:=Ug
 a0:=Gi
 z0:=Ga
 v0:=Un
 t3:=Yy
 a3:=Xn
 z3:=Xk
 v3:=Xf
 t4:=X1
 a4:=U2
 z4:=Uu
 v4:=X6
 t5:=Xo
 a5:=Us
 z5:=Uh
 v5:=Xv
 t9:=Xc
 a9:=X2
 z9:=Xx
 v9:=Xg
 t22:=Tryz.underlying55
 a22:=Tryz.isAgg55
 z22:=Tryz.sizeOf55
 v22:=Tryz.zeroValue55
 t25:=Tryz.underlying111
 a25:=Tryz.isAgg111
 z25:=Tryz.sizeOf111
 v25:=Tryz.zeroValue111
 t39:=X5
 a39:=Uz
 z39:=Uv
 v39:=Uc
 t45:=He
 a45:=Tryz.isAgg199
 z45:=Tryz.sizeOf199
 v45:=Hu
 t46:=Hf
 a46:=Tryz.isAgg200
 z46:=Tryz.sizeOf200
 v46:=Hv
 t50:=Hg
 a50:=Tryz.isAgg204
 z50:=Tryz.sizeOf204
 v50:=Hw
 t53:=Ud
 a53:=Gb
 z53:=U0
 v53:=Ui
 t55:=Hh
 a55:=Tryz.isAgg194
 z55:=Tryz.sizeOf194
 v55:=Hx
 t66:=Hi
 a66:=Tryz.isAgg244
 z66:=Tryz.sizeOf244
 v66:=Hy
 t70:=Hj
 a70:=Tryz.isAgg248
 z70:=Tryz.sizeOf248
 v70:=Hz
 t76:=Hk
 a76:=Tryz.isAgg283
 z76:=Tryz.sizeOf283
 v76:=H0
 t77:=Hl
 a77:=Tryz.isAgg284
 z77:=Tryz.sizeOf284
 v77:=H1 }
open Go Go.Eng Go.Shelf Go.Sort
section
variable {α:Type} [Inhabited α] {enc:α->LV}{k:Nat}
theorem Qks (hk:∀ x,(enc x).length=k) (d:Array α) (j:Nat) (hj:j < d.size * k):(Bw enc d.toList)[j]? = some (flatK enc k d)[j]! := by
 have hk0:0 < k:=by
  rcases Nat.eq_zero_or_pos k with h | h
  ·
   subst h;simp at hj
  exact h
 have h1:j / k < d.size:=(Nat.div_lt_iff_lt_mul hk0).2 hj;have h2:j % k < k:=X4 _ hk0
 have h3:d.toList[j / k]? = some d[j / k]! := by
  rw [Yb (by simpa using h1),getElem!_pos d _ h1];simp
 have h4:(enc d[j / k]!)[j % k]? = some (enc d[j / k]!)[j % k]! := by
  rw [Yb (by rw [hk];exact h2),getElem!_pos (enc d[j / k]!) (j % k) (by rw [hk];exact h2)]
 have h5:=Vk hk d.toList (j / k) _ h3 (j % k) _ h4;rw [Nat.mul_comm,Nat.div_add_mod] at h5;rw [h5,get_flatK enc k d j hj]
theorem Qaj (hk:∀ x,(enc x).length=k) {T g cap:Nat}{d:Array α}{w:World} (h:(Yl T k (some ⟨g,0,none⟩) d.size cap (Bw enc d.toList)).holds w):HoldsK enc k w g 0 d:=by
 intro j hj;rw [size_flatK] at hj;have hc:=B3 h (Qks hk d j hj);refine ⟨by rw [Y5];exact hc,?_⟩;obtain ⟨h1,h2,h3,h4⟩:=h;rcases h4 with ⟨h5,_⟩ | ⟨g',rest,fz,h5,hg,hl,hf⟩
 ·
  cases h5
 cases h5;have hn:=Nat.mul_le_mul_right k h2;have:=hf j (by omega);obtain ⟨lo,hi⟩:=fz;simp only [World.frozen?,hg,Y5];simpa using this
theorem Qa7 (hk:∀ x,(enc x).length=k) {T g cap:Nat}{d d':Array α}{w:World} (h:(Yl T k (some ⟨g,0,none⟩) d.size cap (Bw enc d.toList)).holds w) (hs:d'.size=d.size) (n m:Nat) (os:Array Obj) :
  ∃ w1,sortWorldK enc k (w.drewN n) g 0 m d' os=(w1.drewN n).drewN m/\Heap w [g] w1 [Yl T k (some ⟨g,0,none⟩) d'.size cap (Bw enc d'.toList)]:=by
 obtain ⟨h1,h2,h3,h4⟩:=h;rcases h4 with ⟨h5,_⟩ | ⟨g',rest,fz,h5,hg,hl,hf⟩
 ·
  cases h5
 cases h5;refine ⟨Sort.grow (putRowK enc k w g 0 d') os,rfl,?_⟩;have hlt:g < w.heap.size:=(Array.getElem?_eq_some_iff.1 hg).1;have hsz:(putRowK enc k w g 0 d').heap.size=w.heap.size:=by simp [putRowK,Sort.putRow,Sort.mapBlock]
 have hne:∀ i,i < w.heap.size->i≠g->(Sort.grow (putRowK enc k w g 0 d') os).heap[i]? = w.heap[i]? := fun i hi hi2=>by
  rw [Sort.heap_grow_old _ _ (by omega)];simp only [putRowK,Sort.putRow,Sort.mapBlock,Array.getElem?_modify];rw [if_neg (fun e=>hi2 e.symm)]
 have hcs:(Bw enc d'.toList).length=d'.size * k:=by rw [Zs hk];simp
 have hold:(Bw enc d.toList).length=d.size * k:=h1;have hdk:d'.size * k=d.size * k:=by rw [hs]
 have hat:(Sort.grow (putRowK enc k w g 0 d') os).heap[g]? = some (.cells (Bw enc d'.toList++rest).toArray T fz):=by
  rw [Sort.heap_grow_old _ _ (by omega)];simp only [putRowK,Sort.putRow,Sort.mapBlock,Array.getElem?_modify,if_true,hg,Option.map_some,Sort.onCells]
  congr 2
  apply Array.ext_getElem?;intro j;simp only [Sort.putCells,Array.getElem?_mapIdx,Ua,size_flatK,Nat.zero_le,true_and,Y5,Nat.sub_zero,id];by_cases hj:j < d'.size * k
  ·
   have e1:=Qks hk d' j hj;rw [Uj (by omega),Uj (by omega),e1];rw [Yb (by rw [hold,<- hs];exact hj),Option.map_some,if_pos hj]
  rw [Xq (by omega),Xq (by omega),hcs,hold,hs];cases rest[j - d.size * k]? with
  | none=>rfl
  | some x=>simp only [Option.map_some];rw [if_neg (by omega)]
 refine ⟨⟨rfl,rfl,rfl,by rw [Sort.grow];simp [hsz],fun i hi hi2=>hne i hi (by simpa using hi2)⟩,?_,?_,by simp⟩
 ·
  intro r hr;rw [Up.1 hr];refine ⟨hcs,by omega,h3,.inr ⟨g,rest,fz,rfl,hat,?_,hf⟩⟩;rw [Ye] at hl ⊢;rw [hcs,hs,<- hold];exact hl
 intro r hr b hb;rw [Up.1 hr] at hb;simp [Yl] at hb;subst hb;exact ⟨.inl (by simp),by rw [Sort.grow];simp [hsz];omega⟩
end
open Go Go.Eng
theorem Qrx (s:LB) (w:World):Does Yd 175 #[Ab s,Qe] w fun v w'=>w'=w/\v=.int .i64 (Lib.indexByte s 47) :=
 Vl fun w=>Go.Proofs.Any.strings_Index_one Qv4 ⟨s.toArray⟩ 47 w
theorem Qry (s:LB) (w:World):Does Yd 197 #[Ab s,Qe] w fun v w'=>w'=w/\v=.int .i64 (s.count 47:Nat) :=
 Vl fun w=>Go.Proofs.Any.strings_Count_one Qv5 ⟨s.toArray⟩ 47 w
theorem Qjj (s t:LB) (w:World):Does Yd 89 #[Ab s,Ab t] w fun v w'=>w'=w/\v=.int .i64 (Ev s t):=by
 rw [<- Qat];exact Vl fun w=>Go.Proofs.Any.strings_Compare Qoi ⟨s.toArray⟩ ⟨t.toArray⟩ w
theorem Qjk (s:LB) (w:World) (hs:s.length<=1000000000):Does Yd 157 #[Ab s,Qe,.int .i64 0,.int .i64 (-1)] w fun v w' =>
  ∃ g,v=.slice (some ⟨g,0,none⟩) (Bq s).length (Bq s).length/\Heap w [] w' [Yl 9 1 (some ⟨g,0,none⟩) (Bq s).length (Bq s).length (Cy (Bq s))]/\w'.drawn=w.drawn:=by
 have hcnt:=Qda s;have hlen:=Zn s;refine En [Ab s,Qe,.int .i64 0,.int .i64 (-1)] 66 Tryz.func157 ?_;refine VS [0,1,2,3] ?_;refine VS [0,1,2,3,13] ?_;refine Ai rfl rfl (fun h=>by simp at h) (fun h=>Ad ?_);refine VS [0,1,2,3,15] ?_;refine Ai rfl rfl (fun h=>by simp at h) (fun h=>Ad ?_);refine VS [0,1,2,3,20] ?_;refine Ai rfl rfl (fun h=>?_) (fun h=>by simp at h);clear h;refine VQ [0,1,2,3] fun K hK=>?_;refine Aa Tryz.call197 ?_;refine Qs ?_;refine Yk (Qry s w) ?_;rintro v w2 ⟨rfl,rfl⟩;refine Qs ?_;refine And.intro (Xz (by omega) (by omega)) ?_;apply hK;clear hK;generalize hn:(Bq s).length=n at *;have hn0:0 < n:=by omega
 rw [show (((s.count 47:Nat):Int)+1)=(n:Int) by omega];refine VQ [0,1,2,3] fun K hK=>?_;refine And.intro (Xz (by omega) (by omega)) ?_;rw [show min (n:Int) ((s.length:Int)+1)=(n:Int) by omega];apply hK;clear hK;refine VQ [0,1,2,3,9] fun K hK=>?_;refine Ew Xs zi9 ?_;refine Qs ?_;refine ⟨n,n,⟨rfl,rfl,by omega,by omega,by omega⟩,?_⟩;have hD:(w2.alloc (Yo (Ya n (U8 ⟨#[]⟩)).toArray 9)).drawn=w2.drawn:=rfl;have hH:=(Yx w2).row 9 (sz:=1) (n:=n) (cap:=n) (Cy (Ya n [])) [] (by simp [Cy]) (by simp [Cy]) (by omega) (by omega);rw [Qd0] at hD ⊢;rw [Yi] at hH;generalize w2.alloc (Yo (Cy (Ya n [])).toArray 9)=w3 at *;generalize w2.heap.size=g at *;apply hK;clear hK;refine VQ [0,1,2,3,9] fun K hK=>?_;refine And.intro (Xz (by omega) (by omega)) ?_;apply hK;clear hK;refine VS [0,1,2,3,9,10] ?_;(repeat refine Aw ?_);refine Do [0,9,10] (fun e w'=>∃ (dn:List (LB)) (r:LB),Bq s=dn++[r]/\Is e [(0,Ab r),(9,.slice (some ⟨g,0,none⟩) n n),(10,.int .i64 dn.length)]/\Heap w2 [] w' [Yl 9 1 (some ⟨g,0,none⟩) n n (Cy (dn++Ya (n - dn.length) []))]/\w'.drawn=w2.drawn) ?_ ?_
 ·
  refine Aq ?_;refine Ay [0,1,2,3,9,10] (fun m e w'=>∃ (dn:List (LB)) (r:LB),Bq s=dn++Bq r/\Is e [(0,Ab r),(1,Qe),(2,.int .i64 0),(3,.int .i64 ((n:Int) - 1)),(9,.slice (some ⟨g,0,none⟩) n n),(10,.int .i64 dn.length)]/\Heap w2 [] w' [Yl 9 1 (some ⟨g,0,none⟩) n n (Cy (dn++Ya (n - dn.length) []))]/\w'.drawn=w2.drawn/\m=n - dn.length) n ?_ ?_
  ·
   refine Qs ?_;exact ⟨[],s,rfl,rfl,by simpa using hH,hD,rfl⟩
  clear hH hD;rintro m e w4 ⟨dn,r,hsp,rfl,hH,hD,rfl⟩;have hdl:n=dn.length+(Bq r).length:=by rw [<- hn,hsp,Ye]
  have hrl:r.length<=s.length:=by
   have h1:=T2 s;rw [hsp] at h1;rw [<- h1];cases dn with
   | nil=>rw [Yp,T2];exact Xm _
   | cons x dn=>rw [Qkp (by simp) (Qd7 r),T2];simp;omega
  refine VS [0,1,2,3,9,10,36] ?_;refine VD (fun h=>?_) (fun h=>?_)
  ·
   refine Ad ?_;refine VB ?_;refine VQ [0,1,2,3,9,10,11] fun K hK=>?_;refine Aa Tryz.call175 ?_;refine Qs ?_;refine Yk (Qrx r w4) ?_;rintro v w5 ⟨rfl,rfl⟩;apply hK;clear hK;rcases Qa5 r with hc | ⟨a,q,rfl,hc⟩
   ·
    exfalso;rw [Va hc] at hdl;simp at hdl;omega
   rw [T9 q hc] at hsp hdl;rw [Qjd q hc];simp only [Ye,Xa] at hrl hdl;refine VS [0,1,2,3,9,10,11,41] ?_;refine Ai rfl rfl (fun h2=>by simp at h2;omega) (fun h2=>Ad ?_);clear h2;refine VQ [0,1,2,3,9,10,11] fun K hK=>?_;simp only [Ye,Xa,Gs];(repeat first | refine Qo ?_ | refine Qp ?_);(repeat first | refine Qo ?_ | refine Qp ?_)
   have hset:(Cy (dn++Ya (n - dn.length) [])).take dn.length++[Ab a]++(Cy (dn++Ya (n - dn.length) [])).drop (dn.length+1)=Cy ((dn++[a])++Ya (n - (dn++[a]).length) []):=by
    rw [Qdz _ _ _ (by simp;omega)]
    congr 1
    rw [List.set_append,if_neg (Nat.lt_irrefl _),Xd,Yq]
    congr 1
    rw [show n - dn.length=(n - (dn++[a]).length)+1 by simp;omega,Ul];rfl
   rw [Ho,List.take_left' rfl];refine Ag ?_;refine Qs ?_;refine Qet hH 0 (o:=dn.length) (vs:=[Ab a]) rfl (by simp [Bv]) rfl (by kernel_rfl) (by simp;omega) (by simp [Yr]) fun w6 hH2 hD2=>?_;rw [hD] at hD2;simp only [Yj,Yc] at hH2;rw [hset] at hH2;apply hK;clear hK;refine VQ [0,1,2,3,9,10] fun K hK=>?_;simp only [Ye,Xa,Gs];(repeat first | refine Qo ?_ | refine Qp ?_);refine Qs ?_;(repeat first | refine Qo ?_ | refine Qp ?_);apply hK;clear hK;refine VS [0,1,2,3,9,10] ?_;refine An ?_;refine Ah ?_;refine Qs ?_;refine ⟨n - (dn++[a]).length,by simp;omega,dn++[a],q,by rw [hsp];simp,?_,hH2,hD2,rfl⟩;rw [show a++47::q=(a++[47])++q by simp,List.drop_left' (by simp),show ((dn.length:Int)+1)=((dn++[a]).length:Nat) by simp];rfl
  have h1:(Bq r).length=1:=by
   have:0 < (Bq r).length:=List.length_pos_iff.2 (Qd7 r);omega
  refine Ax rfl ?_;refine Ah ?_;rcases Qa5 r with hc | ⟨a,q,rfl,hc⟩
  ·
   rw [Va hc] at hsp;exact ⟨dn,r,hsp,rfl,hH,hD⟩
  exfalso;rw [T9 q hc] at h1;simp at h1;exact Qd7 q h1
 rintro e w4 ⟨dn,r,hsp,rfl,hH,hD⟩;have hdl:n=dn.length+1:=by rw [<- hn,hsp];simp
 refine VQ [9,10] fun K hK=>?_;(repeat first | refine Qo ?_ | refine Qp ?_)
 have hset:(Cy (dn++Ya (n - dn.length) [])).take dn.length++[Ab r]++(Cy (dn++Ya (n - dn.length) [])).drop (dn.length+1)=Cy (Bq s):=by
  rw [Qdz _ _ _ (by simp;omega)]
  congr 1
  rw [List.set_append,if_neg (Nat.lt_irrefl _),Xd,hsp]
  congr 1
  rw [show n - dn.length=0+1 by omega];rfl
 refine Ag ?_;refine Qs ?_;refine Qet hH 0 (o:=dn.length) (vs:=[Ab r]) rfl (by simp [Bv]) rfl (by kernel_rfl) (by simp;omega) (by simp [Yr]) fun w6 hH2 hD2=>?_;rw [hD] at hD2;simp only [Yj,Yc] at hH2;rw [hset] at hH2;apply hK;clear hK;refine VQ [8] fun K hK=>?_;(repeat first | refine Qo ?_ | refine Qp ?_);(repeat first | refine Qo ?_ | refine Qp ?_);apply hK;clear hK;refine Ae (Al rfl rfl ⟨g,?_,hH2,hD2⟩)
 show Gx _ (dn.length+1) n=_
 rw [<- hdl]
theorem Qrz (s:LB) (w:World) (hs:s.length<=1000000000):Does Yd 125 #[Ab s,Qe] w fun v w' =>
  ∃ g,v=.slice (some ⟨g,0,none⟩) (Bq s).length (Bq s).length/\Heap w [] w' [C1 (some ⟨g,0,none⟩) (Bq s) (Bq s).length]/\w'.drawn=w.drawn:=by
 refine En [Ab s,Qe] 8 Tryz.func125 ?_;refine VS [0,1] ?_;refine VQ [4] fun K hK=>?_;refine Aa Tryz.call157 ?_;refine Qs ?_;refine Yk (Qjk s w hs) ?_;rintro v w2 ⟨g,rfl,hH,hD⟩;apply hK;clear hK;exact Ae (Al rfl rfl ⟨g,rfl,hH,hD⟩)
theorem Qfa (s:LB) (w:World) (hs:s.length<=1000000000):Does Yd 88 #[Ab s] w fun v w' =>
  ∃ g,v=.slice (some ⟨g,0,none⟩) (Bq s).length (Bq s).length/\Heap w [] w' [C1 (some ⟨g,0,none⟩) (Bq s) (Bq s).length]/\w'.drawn=w.drawn:=by
 refine En [Ab s] 5 Tryz.func88 ?_;refine VS [0] ?_;refine VQ [2] fun K hK=>?_;refine Aa Tryz.call125 ?_;refine Qs ?_;refine Yk (Qrz s w hs) ?_;rintro v w2 ⟨g,rfl,hH,hD⟩;apply hK;clear hK;exact Ae (Al rfl rfl ⟨g,rfl,hH,hD⟩)
theorem Qdj {l:Et}{i:Nat} (h:i < l.length):∃ x,l[i]? = some x/\l.drop i=x::l.drop (i+1) :=
 ⟨l[i],Yb h,Y4 h⟩
theorem Qd9 (s t:LB) (w:World) (hs:s.length<=1000000000) (ht:t.length<=1000000000):Does Yd 65 #[Ab s,Ab t] w fun v w'=>Heap w [] w' []/\v=.int .i64 (Rl s t)/\w'.drawn=w.drawn:=by
 have hl1:=Zn s;have hl2:=Zn t;refine En [Ab s,Ab t] 51 Tryz.func65 ?_;refine VS [0,1] ?_;refine VQ [5,6] fun K hK=>?_;refine Aa Tryz.call88 ?_;refine Qs ?_;refine Yk (Qfa s w hs) ?_;rintro v w2 ⟨g1,rfl,hH1,hD1⟩;refine Aa Tryz.call88 ?_;refine Qs ?_;refine Yk (Qfa t w2 ht) ?_;rintro v w3 ⟨g2,rfl,hH2,hD2⟩;rw [hD1] at hD2;have hH:Heap w [] w3 [C1 (some ⟨g2,0,none⟩) (Bq t) (Bq t).length,C1 (some ⟨g1,0,none⟩) (Bq s) (Bq s).length]:=hH1.call0 hH2;clear hH1 hH2;apply hK;clear hK;unfold Rl;generalize Bq s=x at *;generalize Bq t=y at *;have c1:∀ {i:Nat}{u:LB},x[i]? = some u->w3.cell? ⟨g1,i,none⟩=some (Ab u):=fun h=>B3 (hH.at 1 rfl) (Sl h);have c2:∀ {i:Nat}{u:LB},y[i]? = some u->w3.cell? ⟨g2,i,none⟩=some (Ab u):=fun h=>B3 (hH.at 0 rfl) (Sl h);refine VS [5,6,16,17] ?_;refine Aq ?_;refine Ay [5,6,16,17] (fun m e w'=>∃ (i:Nat),Is e [(5,.slice (some ⟨g1,0,none⟩) x.length x.length),(6,.slice (some ⟨g2,0,none⟩) y.length y.length),(16,.int .i64 (min (x.length:Int) y.length)),(17,.int .i64 i)]/\Is w' w3/\i<=x.length/\i<=y.length/\Ev (x.drop i) (y.drop i)=Ev x y/\m=x.length - i) x.length ?_ ?_
 ·
  refine Qs ?_;exact ⟨0,rfl,rfl,by omega,by omega,rfl,rfl⟩
 rintro m e w' ⟨i,rfl,rfl,hi1,hi2,hgo,rfl⟩;refine VS [5,6,16,17,18] ?_;(repeat refine Aw ?_);refine VD (fun h=>?_) (fun h=>?_)
 ·
  refine Ad ?_;refine VB ?_;refine VS [5,6,7,16,17] ?_;obtain ⟨u,hu,hux⟩:=Qdj (l:=x) (i:=i) (by omega);obtain ⟨v,hv,hvy⟩:=Qdj (l:=y) (i:=i) (by omega);rw [hux,hvy] at hgo;refine Vq [5,6,7,16,17,28] fun K hK=>?_;refine ⟨⟨by omega,by omega⟩,_,c1 hu,?_⟩;refine ⟨⟨by omega,by omega⟩,_,c2 hv,?_⟩;refine Qs ?_;apply hK;clear hK;refine Ai rfl rfl (fun h2=>?_) (fun h2=>Ad ?_)
  ·
   have hne:u≠v:=by simpa using h2
   rw [Qv2 hne] at hgo;refine VL [4] 8 fun K hK=>?_;refine ⟨⟨by omega,by omega⟩,_,c1 hu,?_⟩;refine ⟨⟨by omega,by omega⟩,_,c2 hv,?_⟩;refine Aa Tryz.call89 ?_;refine Qs ?_;refine Yk (Qjj u v w') ?_;rintro r w5 ⟨rfl,rfl⟩;apply hK;clear hK;exact Ae (Al rfl rfl ⟨hH.sub (Xj _),by rw [hgo],hD2⟩)
  have he:u=v:=by simpa using h2
  subst he
  have hgo:Ev (x.drop (i+1)) (y.drop (i+1))=Ev x y:=by
   rw [<- hgo];exact (Qzj [u] _ _).symm
  refine An ?_;refine VS [5,6,16,17] ?_;refine Ah ?_;refine Qs ?_;exact ⟨x.length - (i+1),by omega,i+1,rfl,rfl,by omega,by omega,hgo,rfl⟩
 refine Ax rfl ?_;refine VB ?_;refine VS [5,6,39] ?_;refine VD (fun h=>?_) (fun h=>?_)
 ·
  obtain rfl:i=x.length:=by omega
  obtain ⟨v,hv,hvy⟩:=Qdj (l:=y) (i:=x.length) (by omega);rw [Gm,hvy,Qje] at hgo;refine VS [4] ?_;exact Ae (Al rfl rfl ⟨hH.sub (Xj _),by rw [<- hgo],hD2⟩)
 refine VS [5,6,45] ?_;refine VD (fun h=>?_) (fun h=>?_)
 ·
  obtain rfl:i=y.length:=by omega
  obtain ⟨v,hv,hvy⟩:=Qdj (l:=x) (i:=y.length) (by omega);rw [Gm,hvy,Qjf] at hgo;refine VS [4] ?_;exact Ae (Al rfl rfl ⟨hH.sub (Xj _),by rw [<- hgo],hD2⟩)
 refine Ad ?_;refine An ?_;obtain rfl:i=x.length:=by omega
 rw [Gm,show y.drop x.length=[] from Gq (by omega),Qv3] at hgo;refine VS [4] ?_;exact Ae (Al rfl rfl ⟨hH.sub (Xj _),by rw [<- hgo],hD2⟩)
theorem QFc (m:Mb):(Ar m).length=5:=rfl
def O4 (l:List Mb):LV:=Bw Ar l
theorem Qzl (l:List Mb):∀ v∈O4 l,v.oneCell'=true:=Qep Ic l
abbrev Dw (a:OA) (c:Nat) (l:List Mb):Res:=Yl 54 5 a l.length c (O4 l)
abbrev Ik (m:Mb):Value:=.agg (Ar m).toArray
abbrev Il (P:Mb->Prop):={ m:Mb // P m }
theorem Qhp {P:Mb->Prop} [Inhabited (Il P)] (fc:FuncId) (hfc:∀ args w,(callFunc fc args).run Yd w=.ok (.enter fc args) w) (cf:Il P->Il P->Int) (hO:Sort.SWO (Go.Proofs.ltOf cf))
  (hcm:∀ (x y:Il P) (w:World),Does Yd fc #[Ik x.1,Ik y.1] w fun v w'=>v=.int .i64 (cf x y)/\Heap w [] w' []/\w'.drawn=w.drawn)
  (l:List Mb) (hT:l.length<=1000000000000) (hok:∀ t∈l,P t) (a:OA) (c:Nat) (w0 w:World) (B:LN) (G:List Res) (hL:Heap w0 B w (Dw a c l::G)) :
  Does Yd 55 #[.slice a l.length c,.func (.func fc) #[] #[]] w fun v w'=>∃ T:List Mb,T.Perm l/\(∀ (i j:Nat) (x y:Il P),i < j->T[i]? = some x.1->T[j]? = some y.1->¬ cf y x < 0)/\Heap w0 B w' (Dw a c T::G):=by
 obtain ⟨_,_,_,h4⟩:=hL.at 0 rfl;rcases h4 with ⟨rfl,h0,rfl⟩ | ⟨g,_,_,rfl,_⟩
 ·
  obtain rfl:l=[]:=Xl h0;intro n;refine (AnyF.slices_SortFunc_none QAr none 0 (.func (.func fc) #[] #[]) (w.drewN n)).mono ?_;rintro e w' ⟨rfl,rfl⟩;exact ⟨_,w,n,rfl,rfl,[],.nil,by simp,hL⟩
 intro n
 obtain ⟨d,hd⟩:∃ d:Array (Il P),d.toList.map (·.1)=l:=by
  refine ⟨(l.pmap (fun t h=>(⟨t,h⟩:Il P)) hok).toArray,?_⟩;rw [G5,List.map_pmap];simp
 have hdl:d.size=l.length:=by rw [<- hd];simp
 have henc:∀ d:Array (Il P),Bw (fun x:Il P=>Ar x.1) d.toList=O4 (d.toList.map (·.1)):=fun d=>by
  unfold O4 Bw;rw [List.flatMap_map]
 have hrow:(Yl 54 5 (some ⟨g,0,none⟩) d.size c (Bw (fun x:Il P=>Ar x.1) d.toList)).holds w:=by
  rw [henc d,hd,hdl];exact hL.at 0 rfl
 have hlt:g < w.heap.size:=(hL.foot (Dw (some ⟨g,0,none⟩) c l) (by simp) g (by simp [Yl])).2
 have hcmp:Go.Proofs.CmpLays Yd fc #[] (fun x:Il P=>Ar x.1) 5 cf g 0 d.size (w.drewN n):=by
  intro m os dk hdk x y;rw [Array.append_empty];have h:=hcm x y (Go.Proofs.sortWorldK (fun x:Il P=>Ar x.1) 5 (w.drewN n) g 0 m dk os) 0;rw [Qtb] at h;refine Calls.mono h ?_;rintro e w' ⟨v,w1,q,rfl,rfl,rfl,hH,hD⟩;obtain ⟨o,rfl⟩:=Qy3 hH hD;exact ⟨rfl,q,o,rfl⟩
 have hcon:=AnyQ.slices_SortFunc QAr 5 Tryz.isAgg54 Tryz.sizeOf54 (fun x:Il P=>Ar x.1) (fun _=>rfl) (fun x=>Ic x.1) cf hO fc #[] g 0 c d (w.drewN n) hfc hcmp (Qaj (enc:=fun x:Il P=>Ar x.1) (k:=5) (fun _=>rfl) hrow) hlt (by omega);change Calls Yd 55 _ _ _ at hcon;rw [hdl] at hcon;refine hcon.mono ?_;rintro e w' ⟨rfl,d',m,os,⟨hp1,hp2,hp3⟩,hs,rfl⟩;obtain ⟨w1,e1,hH⟩:=Qa7 (enc:=fun x:Il P=>Ar x.1) (k:=5) (fun _=>rfl) hrow hp1 n m os;have e2:(w1.drewN n).drewN m=w1.drewN (n+m):=by simp [World.drewN,G6]
 have hH2:=hL.call1 0 rfl hH;simp only [Yc,Yp] at hH2;have hlen:(d'.toList.map (·.1)).length=d'.size:=by simp
 have e3:Yl 54 5 (some ⟨g,0,none⟩) d'.size c (Bw (fun x:Il P=>Ar x.1) d'.toList)=Dw (some ⟨g,0,none⟩) c (d'.toList.map (·.1)):=by
  rw [Dw,hlen,<- henc d']
 rw [e3] at hH2;have hfull:∀ x:Array (Il P),(x.extract 0 x.size).toList=x.toList:=fun x=>by simp
 refine ⟨_,w1,n+m,rfl,by rw [e1,e2],d'.toList.map (·.1),?_,?_,hH2⟩
 ·
  rw [<- hd];have h1:=hp3;rw [<- hdl,hfull d,<- hp1,hfull d'] at h1;exact h1.map _
 intro i j x y hij hx hy;rw [Y1,Option.map_eq_some_iff] at hx hy;obtain ⟨x',hx',hxe⟩:=hx;obtain ⟨y',hy',hye⟩:=hy;obtain rfl:=Subtype.ext hxe;obtain rfl:=Subtype.ext hye;obtain ⟨hi,rfl⟩:=Yn.1 hx';obtain ⟨hj,rfl⟩:=Yn.1 hy';have hi':i < d'.size:=by simpa using hi
 have hj':j < d'.size:=by simpa using hj
 have h1:=of_decide_eq_false (hs i j (by omega) hij (by rw [<- hdl,<- hp1];exact hj'));rw [getElem!_pos d' i hi',getElem!_pos d' j hj'] at h1;simpa using h1
open Go.Shelf
def Qok:Go.Shelf.Ren:=⟨fun | 6=>95 | 15=>82 | 14=>128 | 28=>122 | 29=>123 | 20=>160 | 21=>161 | 22=>162 | 23=>163 | 24=>164 | 25=>165 | 26=>166 | 27=>167 | 46=>198 | 47=>153 | 48=>154 | 49=>199 | 50=>200 | 57=>222 | n=>n,fun | 22=>61 | 24=>64 | 25=>171 | 3=>3 | 39=>141 | 0=>0 | 53=>52 | 55=>194 | 4=>4 | 46=>200 | 45=>199 | 50=>204 | 5=>5 | 9=>9 | 66=>244 | 70=>248 | 76=>283 | 77=>284 | n=>n,fun | n=>n⟩
theorem Qt1:Go.Proofs.SlLaysF0.n6 Yd Qok:={
 mixed:=by kernel_rfl
 f6:=⟨Tryz.f95.name,by decide,Tryz.func95.trans (congrArg some (by kernel_rfl))⟩
 f14:=⟨Tryz.f128.name,by decide,Tryz.func128.trans (congrArg some (by kernel_rfl))⟩
 f15:=Tryz.func82.trans (congrArg some (by kernel_rfl))
 f20:=⟨Tryz.f160.name,by decide,Tryz.func160.trans (congrArg some (by kernel_rfl))⟩
 f21:=⟨Tryz.f161.name,by decide,Tryz.func161.trans (congrArg some (by kernel_rfl))⟩
 f22:=⟨Tryz.f162.name,by decide,Tryz.func162.trans (congrArg some (by kernel_rfl))⟩
 f23:=⟨Tryz.f163.name,by decide,Tryz.func163.trans (congrArg some (by kernel_rfl))⟩
 f24:=⟨Tryz.f164.name,by decide,Tryz.func164.trans (congrArg some (by kernel_rfl))⟩
 f25:=⟨Tryz.f165.name,by decide,Tryz.func165.trans (congrArg some (by kernel_rfl))⟩
 f26:=⟨Tryz.f166.name,by decide,Tryz.func166.trans (congrArg some (by kernel_rfl))⟩
 f27:=⟨Tryz.f167.name,by decide,Tryz.func167.trans (congrArg some (by kernel_rfl))⟩
 f28:=Tryz.func122.trans (congrArg some (by kernel_rfl))
 f29:=Tryz.func123.trans (congrArg some (by kernel_rfl))
 f46:=⟨Tryz.f198.name,by decide,Tryz.func198.trans (congrArg some (by kernel_rfl))⟩
 f47:=Tryz.func153.trans (congrArg some (by kernel_rfl))
 f48:=Tryz.func154.trans (congrArg some (by kernel_rfl))
 f49:=⟨Tryz.f199.name,by decide,Tryz.func199.trans (congrArg some (by kernel_rfl))⟩
 f50:=⟨Tryz.f200.name,by decide,Tryz.func200.trans (congrArg some (by kernel_rfl))⟩
 f57:=⟨Tryz.f222.name,by decide,Tryz.func222.trans (congrArg some (by kernel_rfl))⟩
 t0:=Ug
 a0:=Gi
 z0:=Ga
 v0:=Un
 t3:=Yy
 a3:=Xn
 z3:=Xk
 v3:=Xf
 t4:=X1
 a4:=U2
 z4:=Uu
 v4:=X6
 t5:=Xo
 a5:=Us
 z5:=Uh
 v5:=Xv
 t9:=Xc
 a9:=X2
 z9:=Xx
 v9:=Xg
 t22:=Xy
 a22:=Tryz.isAgg61
 z22:=Tryz.sizeOf61
 v22:=Tryz.zeroValue61
 t25:=Tryz.underlying171
 a25:=Tryz.isAgg171
 z25:=Tryz.sizeOf171
 v25:=Tryz.zeroValue171
 t39:=X5
 a39:=Uz
 z39:=Uv
 v39:=Uc
 t45:=He
 a45:=Tryz.isAgg199
 z45:=Tryz.sizeOf199
 v45:=Hu
 t46:=Hf
 a46:=Tryz.isAgg200
 z46:=Tryz.sizeOf200
 v46:=Hv
 t50:=Hg
 a50:=Tryz.isAgg204
 z50:=Tryz.sizeOf204
 v50:=Hw
 t53:=Ud
 a53:=Gb
 z53:=U0
 v53:=Ui
 t55:=Hh
 a55:=Tryz.isAgg194
 z55:=Tryz.sizeOf194
 v55:=Hx
 t66:=Hi
 a66:=Tryz.isAgg244
 z66:=Tryz.sizeOf244
 v66:=Hy
 t70:=Hj
 a70:=Tryz.isAgg248
 z70:=Tryz.sizeOf248
 v70:=Hz
 t76:=Hk
 a76:=Tryz.isAgg283
 z76:=Tryz.sizeOf283
 v76:=H0
 t77:=Hl
 a77:=Tryz.isAgg284
 z77:=Tryz.sizeOf284
 v77:=H1 }
open Go Go.Eng
abbrev Ex:=Int×Int
def Bx (t:Ex):LV:=[.int .i64 t.1,.int .i64 t.2]
theorem Qdk (t:Ex):(Bx t).length=2:=rfl
theorem La (t:Ex):∀ v∈Bx t,v.oneCell'=true:=by
 intro v hv;simp [Bx] at hv;rcases hv with rfl | rfl <;> rfl
def C5 (l:List Ex):LV:=Bw Bx l
theorem Qv7 (l:List Ex):∀ v∈C5 l,v.oneCell'=true:=Qep La l
def Kg (t:Ex):Prop:=I64 t.1/\I64 t.2
def Nd (a b:Ex):Int:=if a=b then 0 else if a.1 < b.1∨a.1=b.1/\a.2 < b.2 then -1 else 1
theorem QK7 (a b:Ex) (xo yo:Operand) (w:World) (KV:Value->Prop):A3 Yd .eql 64 xo yo (.agg (Bx a).toArray) (.agg (Bx b).toArray) w KV=KV (.bool (decide (a=b))):=by
 refine Ou fun w'=>?_;have hS:Yd.underlying 64=some (.struct (Yd.fieldsOf 64)):=by kernel_rfl
 have hp:Yd.stoodInHeld 64=false:=by kernel_rfl
 have hg:Yd.eqGuardType Yd.depth 64=false:=by kernel_rfl
 simp only [Ys];rw [run_eqGuard_agg _ _ _ _ _ _ _ hg];simp only [Yh];rw [run_eql_struct,show (10000:Nat)=9999+1 from rfl,run_equalIn_agg w' 9999 64 _ _ hS hp];simp only [Program.fieldsOf,Tryz.underlying64];have u3:=Yy;have a3:=Xn;have z3:=Xk;simp only [Bx]
 go_simp
 obtain ⟨a1,a2⟩:=a;obtain ⟨b1,b2⟩:=b;simp only [Prod.mk.injEq];by_cases h1:a1=b1
 ·
  by_cases h2:a2=b2
  ·
   subst h1 h2;simp
  have h3:¬ (a2=b2):=by omega
  simp [h1,h2,h3]
 simp [h1]
abbrev QLm:Value:=.func (.func 96) #[] #[]
theorem Qv8 (a b:Ex) (w:World):Does Yd 96 #[.agg (Bx a).toArray,.agg (Bx b).toArray] w fun v w'=>v=.int .i64 (Nd a b)/\w'=(w.alloc (Yo (Bx a).toArray 64)).alloc (Yo (Bx b).toArray 64):=by
 refine En [.agg (Bx a).toArray,.agg (Bx b).toArray] 27 Tryz.func96 ?_;refine VQ [2,3] fun K hK=>?_;refine Dl ?_;refine Qs ?_;have hH:=(Yx w).box 64 (Bx a);generalize w.alloc (Yo (Bx a).toArray 64)=w1 at *;generalize w.heap.size=ga at *;refine Dl ?_;refine Qs ?_;have hH2:=hH.box 64 (Bx b);generalize w1.alloc (Yo (Bx b).toArray 64)=w2 at *;generalize w1.heap.size=gb at *;clear hH;apply hK;clear hK;have c1:w2.cell? ⟨ga,0,none⟩=some (.int .i64 a.1):=Af (hH2.at 1 rfl) rfl;have c2:w2.cell? ⟨ga,1,none⟩=some (.int .i64 a.2):=Af (hH2.at 1 rfl) rfl;have c3:w2.cell? ⟨gb,0,none⟩=some (.int .i64 b.1):=Af (hH2.at 0 rfl) rfl;have c4:w2.cell? ⟨gb,1,none⟩=some (.int .i64 b.2):=Af (hH2.at 0 rfl) rfl;refine VQ [2,3,7] fun K hK=>?_;refine ⟨Bx a,⟨rfl,Bu (hH2.at 1 rfl)⟩,?_⟩;refine ⟨Bx b,⟨rfl,Bu (hH2.at 0 rfl)⟩,?_⟩;rw [QK7];apply hK;clear hK;refine VD (fun h=>?_) (fun h=>Ad ?_)
 ·
  subst h;refine VS [4] ?_;exact Ae (Al rfl rfl ⟨by simp [Nd],rfl⟩)
 refine VQ [26] fun K hK=>?_
 suffices out:∀ b1:Bool,(b1=true ↔ (a.1 < b.1∨a.1=b.1/\a.2 < b.2))->K [(26,.bool b1)] w2 by
  refine ⟨_,c1,_,c3,?_⟩;refine Qs ?_;refine ⟨fun h1=>?_,fun h1=>?_⟩
  ·
   refine ⟨_,c1,_,c3,?_⟩;refine Qs ?_;refine ⟨fun h2=>?_,fun h2=>?_⟩
   ·
    refine ⟨_,c2,_,c4,?_⟩;refine Qs ?_;(repeat' (first | exact out _ _ (by first | omega | (simp;done) | (simp;omega)) | exact out _ (by first | omega | (simp;done) | (simp;omega)) | refine ⟨fun _=>?_,fun _=>?_⟩ | refine Qo ?_))
   (repeat' (first | exact out _ _ (by first | omega | (simp;done) | (simp;omega)) | exact out _ (by first | omega | (simp;done) | (simp;omega)) | refine ⟨fun _=>?_,fun _=>?_⟩ | refine Qo ?_))
  (repeat' (first | exact out _ _ (by first | omega | (simp;done) | (simp;omega)) | exact out _ (by first | omega | (simp;done) | (simp;omega)) | refine ⟨fun _=>?_,fun _=>?_⟩ | refine Qo ?_))
 intro b1 hb;apply hK;clear hK;refine Ai rfl rfl (fun h3=>?_) (fun h3=>Ad ?_)
 ·
  refine VS [4] ?_;exact Ae (Al rfl rfl ⟨by rw [Nd,if_neg h,if_pos (hb.1 h3)],rfl⟩)
 have hg:¬ (a.1 < b.1∨a.1=b.1/\a.2 < b.2):=fun h2=>by have:=hb.2 h2;simp_all
 refine VS [4] ?_;exact Ae (Al rfl rfl ⟨by rw [Nd,if_neg h,if_neg hg],rfl⟩)
abbrev R3:={ t:Ex // Kg t }
instance:Inhabited R3:=⟨⟨(0,0),by unfold Kg I64;omega⟩⟩
def P8 (x:R3):LV:=Bx x.1
def Rm (x y:R3):Int:=Nd x.1 y.1
theorem Qmr (x y:Ex):Nd x y < 0 ↔ (x.1 < y.1∨(x.1=y.1/\x.2 < y.2)):=by
 unfold Nd;obtain ⟨x1,x2⟩:=x;obtain ⟨y1,y2⟩:=y;simp only [Prod.mk.injEq];split
 ·
  omega
 split <;> omega
theorem QS6:Sort.SWO (Go.Proofs.ltOf Rm) where
 irrefl x:=by simp [Go.Proofs.ltOf,Rm,Nd]
 trans x y z h1 h2:=by
  simp only [Go.Proofs.ltOf,Rm,decide_eq_true_eq,Qmr] at *;omega
 ntrans x y z h1 h2:=by
  simp only [Go.Proofs.ltOf,Rm,decide_eq_false_iff_not,Qmr] at *;omega
def Tl (g cap:Nat) (l:List Ex):Res:=Yl 64 2 (some ⟨g,0,none⟩) l.length cap (C5 l)
theorem Qr0 (T:List Ex) (hT:T.length<=10000000000000) (hok:∀ t∈T,Kg t) (g cap:Nat) (w0 w:World) (B:LN) (G:List Res) (hL:Heap w0 B w (Tl g cap T::G)) :
  Does Yd 95 #[.slice (some ⟨g,0,none⟩) T.length cap,QLm] w fun v w'=>∃ T':List Ex,T'.Perm T/\(T'.Pairwise fun a b=>¬ Nd b a < 0)/\Heap w0 B w' (Tl g cap T'::G):=by
 intro n
 obtain ⟨d,hd⟩:∃ d:Array R3,d.toList.map (·.1)=T:=by
  refine ⟨(T.pmap (fun t h=>(⟨t,h⟩:R3)) hok).toArray,?_⟩;rw [G5,List.map_pmap];simp
 have hdl:d.size=T.length:=by rw [<- hd];simp
 have henc:∀ d:Array R3,Bw P8 d.toList=C5 (d.toList.map (·.1)):=fun d=>by
  unfold C5 Bw;rw [List.flatMap_map];rfl
 have hrow:(Yl 64 2 (some ⟨g,0,none⟩) d.size cap (Bw P8 d.toList)).holds w:=by
  rw [henc d,hd,hdl];exact hL.at 0 rfl
 have hlt:g < w.heap.size:=(hL.foot (Tl g cap T) (by simp) g (by simp [Tl,Yl])).2
 have hcmp:Go.Proofs.CmpLays Yd 96 #[] P8 2 Rm g 0 d.size (w.drewN n):=by
  intro m os dk hdk x y;rw [Array.append_empty];have h:=Qv8 x.1 y.1 (Go.Proofs.sortWorldK P8 2 (w.drewN n) g 0 m dk os) 0;rw [Qtb] at h;refine Calls.mono h ?_;rintro e w' ⟨v,w1,q,rfl,rfl,rfl,rfl⟩;refine ⟨rfl,q,#[Yo (Bx x.1).toArray 64,Yo (Bx y.1).toArray 64],?_⟩;rw [Sort.alloc_eq_grow,Sort.alloc_eq_grow,Sort.grow_grow];rfl
 have hcon:=AnyQ.slices_SortFunc Qt1 2 Tryz.isAgg64 Tryz.sizeOf64 P8 (fun _=>rfl) (fun x=>La x.1) Rm QS6 96 #[] g 0 cap d (w.drewN n) Tryz.call96 hcmp (Qaj (enc:=P8) (k:=2) (fun _=>rfl) hrow) hlt (by omega);change Calls Yd 95 _ _ _ at hcon;rw [hdl] at hcon;refine hcon.mono ?_;rintro e w' ⟨rfl,d',m,os,⟨hp1,hp2,hp3⟩,hs,rfl⟩;obtain ⟨w1,e1,hH⟩:=Qa7 (enc:=P8) (k:=2) (fun _=>rfl) hrow hp1 n m os;have e2:(w1.drewN n).drewN m=w1.drewN (n+m):=by simp [World.drewN,G6]
 have hH2:=hL.call1 0 rfl hH;simp only [Yc,Yp] at hH2;have hlen:(d'.toList.map (·.1)).length=d'.size:=by simp
 have e3:Yl 64 2 (some ⟨g,0,none⟩) d'.size cap (Bw P8 d'.toList)=Tl g cap (d'.toList.map (·.1)):=by
  rw [Tl,hlen,<- henc d']
 rw [e3] at hH2;have hfull:∀ x:Array R3,(x.extract 0 x.size).toList=x.toList:=fun x=>by simp
 refine ⟨_,w1,n+m,rfl,by rw [e1,e2],d'.toList.map (·.1),?_,?_,hH2⟩
 ·
  rw [<- hd];have h1:=hp3;rw [<- hdl,hfull d,<- hp1,hfull d'] at h1;exact h1.map _
 rw [List.pairwise_map,List.pairwise_iff_getElem];intro i j hi hj hij;have h1:=hs i j (by omega) hij (by rw [<- hdl,<- hp1];simpa using hj);have h1:=of_decide_eq_false h1;simp only [Rm] at h1;have hi':i < d'.size:=by simpa using hi
 have hj':j < d'.size:=by simpa using hj
 rw [getElem!_pos d' i hi',getElem!_pos d' j hj'] at h1;simpa using h1
def dj (a b:Ex):Prop:=a.1+a.2<=b.1∨b.1+b.2<=a.1
def Ok1 (cap:Int) (x:Ex):Prop:=30<=x.1/\1<=x.2/\x.1+x.2<=cap
def May (cap:Int) (l:List Ex):Prop:=(∀ x∈l,Ok1 cap x)/\l.Pairwise dj
def Oq (l:List Ex):Prop:=l.Pairwise fun a b=>¬ Nd b a < 0
def O1 (cap:Int):Int->List Ex->Bool
 | _,[]=>true
 | at_,x::l=>if x.1 < at_∨x.2 < 1∨cap < x.1∨cap - x.1 < x.2 then false else O1 cap (x.1+x.2) l
theorem Qv9 {a b:Ex} (h:¬ Nd b a < 0):a.1<=b.1:=by
 rw [Qmr] at h;omega
theorem QFd (cap:Int):∀ (T:List Ex) (at_:Int),Oq T->(O1 cap at_ T=true ↔ (∀ x∈T,at_<=x.1/\1<=x.2/\x.1+x.2<=cap)/\T.Pairwise dj):=by
 intro T
 induction T with
 | nil=>intro at_ _;simp [O1]
 | cons x T ih =>
  intro at_ hs;obtain ⟨h1,h2⟩:=Hm.1 hs;rw [Hm,O1];have ih:=ih (x.1+x.2) h2;split
  ·
   rename_i hb;simp only [Hd,Yz,forall_eq_or_imp,false_iff];intro ⟨⟨h3,h4⟩,h5⟩;omega
  rename_i hb;rw [ih];simp only [Yz,forall_eq_or_imp];constructor
  ·
   intro ⟨h3,h4⟩;refine ⟨⟨by omega,fun y hy=>?_⟩,fun y hy=>.inl (h3 y hy).1,h4⟩;have:=h3 y hy;omega
  intro ⟨⟨h3,h4⟩,h5,h6⟩;refine ⟨fun y hy=>?_,h6⟩;have q1:=h4 y hy;have q2:=Qv9 (h1 y hy);rcases h5 y hy with q3 | q3 <;> omega
theorem QFe {a b:Ex} (h:dj a b):dj b a:=h.symm
theorem Vu {cap:Int}{l m:List Ex} (h:l.Perm m):May cap l ↔ May cap m:=by
 unfold May;rw [h.pairwise_iff (fun h=>QFe h)];constructor
 ·
  exact fun ⟨h1,h2⟩=>⟨fun x hx=>h1 x (h.mem_iff.2 hx),h2⟩
 exact fun ⟨h1,h2⟩=>⟨fun x hx=>h1 x (h.mem_iff.1 hx),h2⟩
theorem Qzm {cap:Int}{l T:List Ex} (hp:T.Perm l) (hs:Oq T):O1 cap 30 T=true ↔ May cap l:=by
 rw [QFd cap T 30 hs,<- Vu hp];rfl
theorem May.mono {c d:Int} (h:c<=d) {l:List Ex} (hm:May c l):May d l:=⟨fun x hx=>by obtain ⟨h1,h2,h3⟩:=hm.1 x hx;exact ⟨h1,h2,by omega⟩,hm.2⟩
theorem Sv (b o j:Nat):(⟨b,o,none⟩:Addr).add j=⟨b,o+j,none⟩:=by unfold Addr.add;split <;> simp_all
theorem Qol (l:List Ex) (a:OA) (c:Nat) (w:World) (hl:RS w a l.length 2 (C5 l)) (hlen:l.length<=8796093022208) :
  Does Yd 94 #[.slice a l.length c] w fun v w'=>∃ a' c',v=.slice a' l.length c'/\Heap w [] w' [Yl 64 2 a' l.length c' (C5 l)]:=by
 refine En [.slice a l.length c] 8 Tryz.func94 ?_;refine VS [0] ?_;cases a with
 | none =>
  have h0:l.length=0:=hl.2.1 rfl;have hnil:l=[]:=Xl h0;subst hnil;refine VQ [0,4] fun K hK=>?_;rw [Q1 Xy];apply hK;clear hK;refine Ai rfl rfl (fun h=>?_) (fun h=>by simp at h);refine VS [2] ?_;exact Ae (Al rfl rfl ⟨none,0,rfl,Sq⟩)
 | some p =>
  refine VQ [0,4] fun K hK=>?_;rw [Q1 Xy];apply hK;clear hK;refine Ai rfl rfl (fun h=>by simp at h) (fun h=>Ad ?_);refine VQ [2] fun K hK=>?_;refine Zw (Yx w) 2 Xy N6 (z:=.agg #[.int .i64 0,.int .i64 0]) (by kernel_rfl) rfl fun g w1 hH=>?_;refine Qs ?_;refine Ce ?_;refine Qs ?_;refine C3 (zs:=#[.int .i64 0,.int .i64 0]) (bytes:=16) hH 0 rfl Xy (by kernel_rfl) rfl (m:=l.length) (news:=C5 l) ⟨rfl,hH.rs' hl,64,Xy⟩ (Qv7 l) (fun h=>by omega) fun a' cap' w2 hc' hH2=>?_;simp only [Yc,Yp,Y5] at hH2;rw [Y5];apply hK;clear hK;exact Ae (Al rfl rfl ⟨_,_,rfl,hH2⟩)
theorem Qgn (w:World):Does Yd 95 #[.slice none 0 0,QLm] w fun v w'=>Heap w [] w' []:=fun n=>by
 refine (AnyF.slices_SortFunc_none Qt1 none 0 QLm (w.drewN n)).mono ?_;rintro e w' ⟨rfl,rfl⟩;exact ⟨_,w,n,rfl,rfl,Yx w⟩
theorem Qfb (l:List Ex) (a:OA) (c:Nat) (w:World) (hl:RS w a l.length 2 (C5 l)) (hlen:l.length<=8796093022208) (hok:∀ x∈l,Kg x) :
  Does Yd 71 #[.slice a l.length c] w fun v w'=>∃ (T:List Ex) (a':OA) (c':Nat),T.Perm l/\Oq T/\v=.slice a' T.length c'/\Heap w [] w' [Yl 64 2 a' T.length c' (C5 T)]:=by
 refine En [.slice a l.length c] 9 Tryz.func71 ?_;refine VS [0] ?_;refine VQ [3] fun K hK=>?_;refine Aa Tryz.call94 ?_;refine Qs ?_;refine Yk (Qol l a c w hl hlen) ?_;rintro v w2 ⟨a',c',rfl,hH⟩;apply hK;clear hK;refine VQ [3] fun K hK=>?_;cases a' with
 | none =>
  have hrow:=hH.at 0 rfl;obtain ⟨r1,r2,r3,r4⟩:=hrow;rcases r4 with ⟨_,r5,r6⟩ | ⟨g,_,_,h,_⟩
  ·
   have hnil:l=[]:=Xl r5;subst hnil;subst r6;refine Aa Tryz.call95 ?_;refine Qs ?_;refine Yk (Qgn w2) ?_;rintro v w3 hH2;have hH3:=hH.call0 hH2;apply hK;clear hK;refine VS [2] ?_;exact Ae (Al rfl rfl ⟨[],none,0,.nil,.nil,rfl,hH3⟩)
  cases h
 | some p =>
  obtain ⟨g,rfl⟩:∃ g,p=⟨g,0,none⟩:=by
   obtain ⟨r1,r2,r3,r4⟩:=hH.at 0 rfl;rcases r4 with ⟨h,_⟩ | ⟨g,_,_,h,_⟩
   ·
    cases h
   cases h;exact ⟨g,rfl⟩
  refine Aa Tryz.call95 ?_;refine Qs ?_;refine Yk (Qr0 l (by omega) hok g c' w w2 [] [] hH) ?_;rintro v w3 ⟨T,hp,hs,hH2⟩;apply hK;clear hK;refine VS [2] ?_;refine Ae (Al rfl rfl ⟨T,some ⟨g,0,none⟩,c',hp,hs,?_,hH2⟩);rw [hp.length_eq]
end Go.Proofs.YtfinjnahapbemaaGreatDoor
