/- A program logic over the model, and what this program's functions do by it: part 4. No conditions: a library of lemmas. -/
import Derived.Test.YtncpabbjpdogjaaGreatDoorQ3
import Derived.Laws.StructEq
import Derived.Sort.AssemblyPlain
open Nat (reduceEqDiff)
set_option linter.unusedSimpArgs false
set_option linter.unusedVariables false
set_option maxRecDepth 100000
open List renaming getElem?_eq_getElem->Ya,getD_eq_getElem?_getD->Yb,replicate->Yc,set_cons_zero->Yd,range->Yf,set_cons_succ->Yh,length_append->Yi,nil_append->Yl,append_assoc->Yn,take_of_length_le->Yp,drop_of_length_le->Yt,append_nil->Yu,getElem?_eq_some_iff->Yv,length_range->Yw,length_singleton->Yy,getElem?_append_right->Y0,length_cons->Y1,drop_eq_getElem_cons->Y2,mem_range->Y3,cons_append->Y6,filter_cons_of_pos->Y7,getElem?_map->Y8,eq_nil_of_length_eq_zero->Xa,take_add_one->Xb,filter_cons_of_neg->Xc,getElem_cons_zero->Xd,getElem_cons_succ->Xe,ext_getElem->Xh,length_take->Xi,filter_append->Xj,getElem?_eq_none->Xk,getElem?_append_left->Xl,getElem_toArray->Xm,nodup_range->Xn,range_succ->Xr,mem_append->Xs,mem_map->Xu,length_drop->Xv,pairwise_iff_getElem->Xy,map_congr_left->Xz,getElem_of_mem->X0,mem_filter->X1,getElem_range->X2,flatMap_cons->X3,replicate_append_replicate->X5,set_append_right->X6,perm_append_comm->X7,getElem_mem->X8,getElem_map->X9,mem_cons->Ua,mem_of_mem_take->Ub,length_set->Ud,length_pos_iff->Ue,getElem?_drop->Ug,perm_append_singleton->Uh,getLastD_eq_getLast?->Ui,length->Uj,getElem_inj->Ul,pairwise_lt_range->Un,map_map->Uo,getElem?_set_self->Uq,range_succ_eq_map->Ur,sublist_cons_self->Uu,length_map->Uv,length_nil->Uw,filter_nil->Ux,length_filter_le->Uy,length_replicate->Uz,take_append_drop->U0,range_add->U1,set_append_left->U2,mem_cons_of_mem->U4,take_set_of_le->U5,flatMap_append->U6,ext_getElem?->Ga,pairwise_map->Gb,filter_congr->Gh
open Go.Proofs.Tryz renaming underlying114->Ye,prog->Yg,underlying37->Ys,call136->Um,call33->U3,call173->U9,call165->Gg
open Go.Eng.Res renaming blk->Yj,row->Yr
open Go.Eng.CallK renaming mk->Yk
open Int renaming toNat_natCast->Ym,toNat->Uf
open Go.Value renaming oneCell'->Yo,int->Y5,cells->Xg,slice->Xt
open Go.Obj renaming cells->Yq
open Nat renaming pow_le_pow_right->Yx,le_refl->Xf,add_sub_cancel_left->Xo,add_sub_cancel->Xq,mod_eq_of_lt->Xw,mul_le_mul->X4,add_assoc->Uk,add_zero->Up,lt_or_ge->Us,zero_add->Ut,mod_lt->U8,le_trans->Gd,succ->Ge,mul_comm->Gf
open Go.Eng.Heap renaming start->Yz
open Go.Eng.I64 renaming mk->Y4
open Option renaming getD_some->Y9
open Go.IntKind renaming i64->Xp
open Bool renaming and_eq_true->Xx,false_eq_true->U7
open UInt8 renaming toNat_inj->Uc,ofNat->Gj
open Go.Eng.FnK renaming mk->Gi
namespace Go.Proofs.YtncpabbjpdogjaaGreatDoor
open Go Go.Eng
open Go.Sort (swp insertionSort heapSort breakPatterns choosePivot Hint reverseRange partialInsertionSort partitionEqual partition pdq bitsLen)
def QJn (lt:Int->Int->Bool) (d3:Array Int) (a b limit:Nat) (wb wp:Bool) (pivot:Nat):Array Int :=
 if a > 0 && ! lt d3[a - 1]! d3[pivot]! then
  match partitionEqual lt d3 a b pivot with
  | (mid,d4)=>if _h:a < mid/\mid<=b then pdq lt d4 mid b limit wb wp else d4
 else
  match partition lt d3 a b pivot with
  | (mid,al,d4) =>
   if _h:a<=mid/\mid < b then
    if mid - a < b - mid then pdq lt (pdq lt d4 a mid limit true true) (mid+1) b limit (decide (mid - a ≥ (b - a) / 8)) al
    else pdq lt (pdq lt d4 (mid+1) b limit true true) a mid limit (decide (b - mid ≥ (b - a) / 8)) al
   else d4
def QJo (lt:Int->Int->Bool) (d2:Array Int) (a b limit:Nat) (wb wp:Bool) (pivot:Nat) (hint:Hint):Array Int :=
 if (if wb && wp && hint=.increasing then partialInsertionSort lt d2 a b else (d2,false)).2 then (if wb && wp && hint=.increasing then partialInsertionSort lt d2 a b else (d2,false)).1
 else QJn lt (if wb && wp && hint=.increasing then partialInsertionSort lt d2 a b else (d2,false)).1 a b limit wb wp pivot
def QJp (lt:Int->Int->Bool) (d1:Array Int) (a b limit:Nat) (wb wp:Bool) (c:Nat×Hint):Array Int :=
 QJo lt (if c.2=.decreasing then reverseRange d1 a b else d1) a b limit wb wp (if c.2=.decreasing then (b - 1) - (c.1 - a) else c.1) (if c.2=.decreasing then Hint.increasing else c.2)
theorem QD3 {lt:Int->Int->Bool}{d:Array Int}{a b limit:Nat}{wb wp:Bool} (h:b - a<=12):pdq lt d a b limit wb wp=insertionSort lt d a b:=by rw [pdq,if_pos h]
theorem Qyj {lt:Int->Int->Bool}{d:Array Int}{a b limit:Nat}{wb wp:Bool} (h:¬ b - a<=12) (hl:limit=0):pdq lt d a b limit wb wp=heapSort lt d a b:=by rw [pdq,if_neg h,if_pos hl]
theorem Qyk {lt:Int->Int->Bool}{d:Array Int}{a b limit:Nat}{wb wp:Bool} (h:¬ b - a<=12) (hl:¬ limit=0) :
  pdq lt d a b limit wb wp=QJp lt (if ! wb then breakPatterns d a b else d) a b (if ! wb then limit - 1 else limit) wb wp (choosePivot lt (if ! wb then breakPatterns d a b else d) a b):=by
 conv=>lhs;rw [pdq]
 rw [if_neg h,if_neg hl];rfl
set_option maxHeartbeats 4000000 in
theorem Qk8 {cmp:Value}{cf:Int->Int->Int}{Q:Int->Prop}{R:Res} (hC:Cmp cmp cf Q R) (g cap:Nat):∀ (n a b limit:Nat) (d:Array Int) (hn:b - a < n) (hab:a<=b) (hb:b<=d.size) (hl:limit<=100) (hd:d.size<=100000000000) (hQ:AllQ Q d) (w0 w:World) (B:List Nat) (G:List Res)
  (hL:Heap w0 B w (Aw g cap d::R::G)),Does Yg 173 #[sl g cap d,.int .i64 a,.int .i64 b,.int .i64 limit,cmp] w
   fun v w'=>∃ d',d'=pdq (ltOf cf) d a b limit true true/\d'.size=d.size/\AllQ Q d'/\Heap w0 B w' (Aw g cap d'::R::G)/\v=.tuple #[]:=by
 intro n
 induction n with
 | zero=>intro a b limit d hn;omega
 | succ n ih =>
 intro a b limit d hn hab hb hl hd hQ w0 w B G hL;refine En [sl g cap d,.int .i64 a,.int .i64 b,.int .i64 limit,cmp] 148 Tryz.func173 ?_;refine Am [0,1,2,3,4,10] fun K hK=>?_;apply hK;clear hK;refine Am [0,1,2,3,4,10,11] fun K hK=>?_;apply hK;clear hK;refine Ar ?_;refine Au [0,1,2,3,4,10,11] (fun m e w'=>∃ (x y l:Nat) (wb wp:Bool) (d':Array Int),Is e [(0,sl g cap d),(1,.int .i64 x),(2,.int .i64 y),(3,.int .i64 l),(4,cmp),(10,.bool wb),(11,.bool wp)]/\Heap w0 B w' (Aw g cap d'::R::G)/\d'.size=d.size/\AllQ Q d'/\a<=x/\x<=y/\y<=b/\l<=100/\pdq (ltOf cf) d' x y l wb wp=pdq (ltOf cf) d a b limit true true/\m=y - x) (b - a) ?_ ?_
 ·
  refine Qi ?_;exact ⟨a,b,limit,true,true,d,rfl,hL,rfl,hQ,by omega,by omega,by omega,by omega,rfl,rfl⟩
 rintro m e w1 ⟨x,y,l,wb,wp,d1,rfl,hH,hs1,hQ1,hx,hxy,hy,hl1,hp,hm⟩;refine Ar ?_;refine Am [0,1,2,3,4,10,11,12] fun K hK=>?_;(repeat refine Qo ?_);apply hK;clear hK;rw [show ((y:Int) - x)=((y - x:Nat):Int) by omega];refine Am [0,1,2,3,4,10,11,12,25] fun K hK=>?_;apply hK;clear hK;refine VD (fun h=>?_) (fun h=>?_)
 ·
  rw [QD3 (by omega)] at hp;refine Am [] fun K hK=>?_;have hc:=Qbx hC g cap x y d1 (by omega) (by omega) (by omega) hQ1 w0 w1 B G hH;rw [sl,hs1] at hc;refine Ac Tryz.call192 ?_;refine Qi ?_;refine Yk hc ?_;rintro v w2 ⟨d2,hd2,hs2,hQ2,hH2,rfl⟩;apply hK;clear hK;refine Ad (Km rfl ?_);exact ⟨d2,by rw [hd2,hp],by omega,hQ2,hH2,rfl⟩
 have h12:¬ y - x<=12:=by omega
 refine Ab ?_;refine Am [0,1,2,3,4,10,11,12,32] fun K hK=>?_;apply hK;clear hK;refine VD (fun h=>?_) (fun h=>?_)
 ·
  rw [Qyj (by omega) (by omega)] at hp;refine Am [] fun K hK=>?_;have hc:=Qiu hC g cap x y d1 (by omega) (by omega) (by omega) hQ1 w0 w1 B G hH;rw [sl,hs1] at hc;refine Ac Tryz.call193 ?_;refine Qi ?_;refine Yk hc ?_;rintro v w2 ⟨d2,hd2,hs2,hQ2,hH2,rfl⟩;apply hK;clear hK;refine Ad (Km rfl ?_);exact ⟨d2,by rw [hd2,hp],by omega,hQ2,hH2,rfl⟩
 have hl0:¬ l=0:=by omega
 rw [Qyk h12 hl0] at hp;clear h;refine Ab ?_;refine Am [0,1,2,3,4,10,11,12,39] fun K hK=>?_;apply hK;clear hK;refine C8 [0,1,2,3,4,10,11,12] (fun e w'=>∃ (l':Nat) (d':Array Int),Is e [(0,sl g cap d),(1,.int .i64 x),(2,.int .i64 y),(3,.int .i64 l'),(4,cmp),(10,.bool wb),(11,.bool wp),(12,.int .i64 (y - x:Nat))]/\Heap w0 B w' (Aw g cap d'::R::G)/\d'.size=d.size/\AllQ Q d'/\l'<=100/\QJp (ltOf cf) d' x y l' wb wp (choosePivot (ltOf cf) d' x y)=pdq (ltOf cf) d a b limit true true) ?_ ?_
 ·
  refine Ae rfl rfl (fun h=>?_) (fun h=>?_)
  ·
   simp at h;subst h;refine Am [0,1,2,3,4,10,11,12] fun K hK=>?_;have hc:=Qby (cmp:=cmp) (R:=R) (Q:=Q) g cap x y d1 (by omega) (by omega) (by omega) hQ1 w0 w1 B G hH;rw [sl,hs1] at hc;refine Ac Tryz.call194 ?_;refine Qi ?_;refine Yk hc ?_;rintro v w2 ⟨d2,hd2,hs2,hQ2,hH2,rfl⟩;apply hK;clear hK;refine Am [0,1,2,3,4,10,11,12] fun K hK=>?_;(repeat refine Qo ?_);apply hK;clear hK;refine Ah ?_;refine Qi ?_;refine ⟨l - 1,d2,by rw [show ((l:Int) - 1)=((l - 1:Nat):Int) by omega];rfl,hH2,by omega,hQ2,by omega,?_⟩;rw [<- hp,hd2];rfl
  simp at h;subst h;refine Ab ?_;refine Ah ?_;refine Qi ?_;exact ⟨l,d1,rfl,hH,hs1,hQ1,hl1,hp⟩
 clear hp hH hQ1 hs1 hl0 hl1;rintro e w2 ⟨l1,d2,rfl,hH,hs1,hQ1,hl1,hp⟩;refine Am [0,1,2,3,4,10,11,12,13,14] fun K hK=>?_;have hc:=Qdk hC g cap x y d2 (by omega) (by omega) (by omega) hQ1 w0 w2 B G hH;rw [sl,hs1] at hc;refine Ac Tryz.call195 ?_;refine Qi ?_;refine Yk hc ?_;rintro v w3 ⟨p,hint,hch,hpr,hH3,rfl⟩;clear hH hc;rw [<- hch,QJp] at hp;clear hch
 dsimp only at hp
 apply hK;clear hK;simp only [Xm,Xd,Xe];refine Am [0,1,2,3,4,10,11,12,13,14,56] fun K hK=>?_;apply hK;clear hK;refine C8 [0,1,2,3,4,10,11,12,13,14] (fun e w'=>∃ (p':Nat) (h':Hint) (d':Array Int),Is e [(0,sl g cap d),(1,.int .i64 x),(2,.int .i64 y),(3,.int .i64 l1),(4,cmp),(10,.bool wb),(11,.bool wp),(12,.int .i64 (y - x:Nat)),(13,.int .i64 p'),(14,.int .i64 (Wd h'))]/\Heap w0 B w' (Aw g cap d'::R::G)/\d'.size=d.size/\AllQ Q d'/\(x<=p'/\p' < y)/\QJo (ltOf cf) d' x y l1 wb wp p' h'=pdq (ltOf cf) d a b limit true true) ?_ ?_
 ·
  refine Ae rfl rfl (fun h=>?_) (fun h=>?_)
  ·
   have hh:hint=.decreasing:=by cases hint <;> simp [Wd] at h ⊢
   subst hh;simp only [if_true] at hp;refine Am [0,1,2,3,4,10,11,12,13] fun K hK=>?_;have hc:=Qcr (cmp:=cmp) (R:=R) (Q:=Q) g cap x y d2 (by omega) (by omega) (by omega) hQ1 w0 w3 B G hH3;rw [sl,hs1] at hc;refine Ac Tryz.call196 ?_;refine Qi ?_;refine Yk hc ?_;rintro v w4 ⟨d3,hd3,hs3,hQ3,hH4,rfl⟩;apply hK;clear hK;refine Am [0,1,2,3,4,10,11,12,13] fun K hK=>?_;(repeat refine Qo ?_);apply hK;clear hK;refine Am [0,1,2,3,4,10,11,12,13,14] fun K hK=>?_;apply hK;clear hK;refine Ah ?_;refine Qi ?_;exact ⟨y - 1 - (p - x),.increasing,d3,by rw [show ((y:Int) - 1 - (p - x))=((y - 1 - (p - x):Nat):Int) by omega];rfl,hH4,by omega,hQ3,by omega,by rw [hd3];exact hp⟩
  have hh:hint≠.decreasing:=by rintro rfl;simp [Wd] at h
  simp only [if_neg hh] at hp;refine Ab ?_;refine Ah ?_;refine Qi ?_;exact ⟨p,hint,d2,rfl,hH3,hs1,hQ1,hpr,hp⟩
 clear hp hH3 hQ1 hs1 hpr;rintro e w4 ⟨p,hint,d2,rfl,hH,hs1,hQ1,hpr,hp⟩;refine Am [0,1,2,3,4,10,11,12,13,75] fun K hK=>?_
 suffices hall:∀ bb:Bool,bb=(wb && wp && decide (hint=.increasing))->K [(0,sl g cap d),(1,.int .i64 x),(2,.int .i64 y),(3,.int .i64 l1),(4,cmp),(10,.bool wb),(11,.bool wp),(12,.int .i64 (y - x:Nat)),(13,.int .i64 p),(75,.bool bb)] w4 by
  have hd:decide (Wd hint=1)=decide (hint=.increasing):=by cases hint <;> rfl
  rw [hd]
  revert hall
  clear hK hp;cases wb <;> cases wp <;> intro hall <;> simpa [gB] using hall _ rfl
 intro bb hbb;apply hK;clear hK;rw [QJo,show (wb && wp && decide (hint=.increasing))=bb from hbb.symm] at hp;clear hbb;refine C8 [0,1,2,3,4,10,11,12,13] (fun e w'=>∃ (d':Array Int),Is e [(0,sl g cap d),(1,.int .i64 x),(2,.int .i64 y),(3,.int .i64 l1),(4,cmp),(10,.bool wb),(11,.bool wp),(12,.int .i64 (y - x:Nat)),(13,.int .i64 p)]/\Heap w0 B w' (Aw g cap d'::R::G)/\d'.size=d.size/\AllQ Q d'/\QJn (ltOf cf) d' x y l1 wb wp p=pdq (ltOf cf) d a b limit true true) ?_ ?_
 ·
  refine Ae rfl rfl (fun h=>?_) (fun h=>?_)
  ·
   subst h;simp only [if_true] at hp;refine Am [0,1,2,3,4,10,11,12,13,80] fun K hK=>?_;have hc:=Qae hC g cap x y d2 (by omega) (by omega) (by omega) hQ1 w0 w4 B G hH;rw [sl,hs1] at hc;refine Ac Tryz.call197 ?_;refine Qi ?_;refine Yk hc ?_;rintro v w5 ⟨d3,ok,hd3,hs3,hQ3,hH5,rfl⟩;rw [<- hd3] at hp
   dsimp only at hp
   apply hK;clear hK;refine Ae rfl rfl (fun h=>?_) (fun h=>?_)
   ·
    subst h;rw [if_pos rfl] at hp;exact Ad (Km rfl ⟨d3,hp,by omega,hQ3,hH5,rfl⟩)
   subst h;rw [if_neg (by simp)] at hp;refine Ab ?_;refine Ah ?_;refine Qi ?_;exact ⟨d3,rfl,hH5,by omega,hQ3,hp⟩
  subst h;simp only [U7,if_false] at hp;refine Ab ?_;refine Ah ?_;refine Qi ?_;exact ⟨d2,rfl,hH,hs1,hQ1,hp⟩
 clear hp hH hQ1 hs1;rintro e w5 ⟨d3,rfl,hH,hs1,hQ1,hp⟩;rw [QJn] at hp;(repeat refine Ay ?_);refine W6 [0,1,2,3,4,10,11,12,13,97] 13 (by kernel_rfl) (by kernel_rfl) (by kernel_rfl) rfl fun K hK=>?_;refine Qi ?_
 have hall:∀ bb:Bool,∀ w4,bb=(decide (x > 0) && ! ltOf cf d3[x - 1]! d3[p]!)->Heap w0 B w4 (Aw g cap d3::R::G)->K [(0,sl g cap d),(1,.int .i64 x),(2,.int .i64 y),(3,.int .i64 l1),(4,cmp),(10,.bool wb),(11,.bool wp),(12,.int .i64 (y - x:Nat)),(13,.int .i64 p),(97,.bool bb)] w4:=by
  clear hH;intro bb w4 hbb hH;rw [<- hbb] at hp;apply hK;clear hK;refine Ae rfl rfl (fun h=>?_) (fun h=>?_)
  ·
   subst h;rw [if_pos rfl] at hp;refine Am [0,2,3,4,10,11,15] fun K hK=>?_;have hc:=Qbi hC g cap x y p d3 (by omega) (by omega) hpr (by omega) hQ1 w0 w4 B G hH;rw [sl,hs1] at hc;refine Ac Tryz.call198 ?_;refine Qi ?_;refine Yk hc ?_;rintro v w5 ⟨mid,d4,hd4,hmid,hs4,hQ4,hH5,rfl⟩;rw [<- hd4] at hp
   dsimp only at hp
   rw [dif_pos hmid] at hp;apply hK;clear hK;refine Am [0,1,2,3,4,10,11] fun K hK=>?_;apply hK;clear hK;refine As rfl ?_;refine Ah ?_;refine Qi ?_;exact ⟨y - mid,by omega,mid,y,l1,wb,wp,d4,rfl,hH5,by omega,hQ4,by omega,by omega,by omega,hl1,hp,rfl⟩
  subst h;rw [if_neg (by simp)] at hp;refine Ab ?_;refine Am [0,1,2,3,4,12,16,17] fun K hK=>?_;have hc:=Qfz hC g cap x y p d3 (by omega) (by omega) hpr (by omega) hQ1 w0 w4 B G hH;rw [sl,hs1] at hc;refine Ac Tryz.call199 ?_;refine Qi ?_;refine Yk hc ?_;rintro v w5 ⟨mid,al,d4,hd4,hmid,hs4,hQ4,hH5,rfl⟩;rw [<- hd4] at hp
  dsimp only at hp
  rw [dif_pos hmid] at hp;apply hK;clear hK;simp only [Xm,Xd,Xe];refine Am [0,1,2,3,4,11,12,16] fun K hK=>?_;apply hK;clear hK;refine Am [0,1,2,3,4,11,12,16,18,19] fun K hK=>?_;(repeat refine Qo ?_);apply hK;clear hK;rw [show ((mid:Int) - x)=((mid - x:Nat):Int) by omega,show ((y:Int) - mid)=((y - mid:Nat):Int) by omega];refine Am [0,1,2,3,4,11,16,18,19,20] fun K hK=>?_;(repeat refine Qo ?_);apply hK;clear hK;refine Am [0,1,2,3,4,11,16,18,19,20,125] fun K hK=>?_;apply hK;clear hK;refine VD (fun h=>?_) (fun h=>?_)
  ·
   rw [if_pos (by omega)] at hp;refine Am [0,1,2,3,4,10,11,16] fun K hK=>?_;apply hK;clear hK;refine Am [0,2,3,4,10,11,16] fun K hK=>?_;have hc:=ih x mid l1 d4 (by omega) (by omega) (by omega) hl1 (by omega) hQ4 w0 w5 B G hH5;rw [sl,show d4.size=d.size by omega] at hc;refine Ac U9 ?_;refine Qi ?_;refine Yk hc ?_;rintro v w6 ⟨d5,hd5,hs5,hQ5,hH6,rfl⟩;rw [<- hd5] at hp;apply hK;clear hK;refine Am [0,1,2,3,4,10,11] fun K hK=>?_;(repeat refine Qo ?_);apply hK;clear hK;refine Ao ?_;refine Ah ?_;refine Qi ?_;refine ⟨y - (mid+1),by omega,mid+1,y,l1,decide (mid - x ≥ (y - x) / 8),al,d5,?_,hH6,by omega,hQ5,by omega,by omega,by omega,hl1,hp,rfl⟩;rw [show decide (mid - x ≥ (y - x) / 8)=decide (((y - x:Nat):Int) / 8<=((mid - x:Nat):Int)) from decide_eq_decide.2 (by omega)];rfl
  rw [if_neg (by omega)] at hp;refine Am [0,1,2,3,4,10,11,16] fun K hK=>?_;apply hK;clear hK;refine Am [0,1,3,4,10,11,16] fun K hK=>?_;refine And.intro (Y4 (by omega) (by omega)) ?_;have hc:=ih (mid+1) y l1 d4 (by omega) (by omega) (by omega) hl1 (by omega) hQ4 w0 w5 B G hH5;rw [sl,show d4.size=d.size by omega,show ((mid+1:Nat):Int)=(mid:Int)+1 by omega] at hc;refine Ac U9 ?_;refine Qi ?_;refine Yk hc ?_;rintro v w6 ⟨d5,hd5,hs5,hQ5,hH6,rfl⟩;rw [<- hd5] at hp;apply hK;clear hK;refine Am [0,1,2,3,4,10,11] fun K hK=>?_;apply hK;clear hK;refine Ao ?_;refine Ah ?_;refine Qi ?_;refine ⟨mid - x,by omega,x,mid,l1,decide (y - mid ≥ (y - x) / 8),al,d5,?_,hH6,by omega,hQ5,by omega,by omega,by omega,hl1,hp,rfl⟩;rw [show decide (y - mid ≥ (y - x) / 8)=decide (((y - x:Nat):Int) / 8<=((y - mid:Nat):Int)) from decide_eq_decide.2 (by omega)];rfl
 refine ⟨fun hg=>?_,fun hg=>?_⟩
 ·
  (repeat (first | (refine ⟨_,B1 (hH.at 0 rfl) (by omega),?_⟩;(try refine Qi ?_)) | refine Qo ?_ | refine ⟨⟨by omega,by omega⟩,?_⟩));refine Ce ?_;refine Qi ?_;refine FnK.to (Cmp.look hC hH (hQ1 _ (by omega)) (hQ1 _ (by omega))) ?_;rintro v w4 ⟨hH2,rfl⟩;(try refine Qi ?_);refine hall _ _ ?_ hH2;simp [ltOf,show 0 < x by omega]
 refine hall _ _ ?_ hH;simp [show ¬ 0 < x by omega]
open Go Go.Eng
open Go.Sort (pdq bitsLen SWO)
def Qz8 (lt:Int->Int->Bool) (l l':List Int):Prop:=l'.Perm l/\l'.Pairwise fun x y=>lt y x=false
theorem Wt {d:Array Int}{i:Nat} (h:i < d.size):d[i]! = d.toList[i]'(by simpa using h):=by
 simp [getElem!_def,h]
theorem QD4 {lt:Int->Int->Bool} (hS:SWO lt) (d:Array Int) (limit:Nat):Qz8 lt d.toList (pdq lt d 0 d.size limit true true).toList:=by
 obtain ⟨⟨h1,h2,h3⟩,h4⟩:=Sort.pdq_sorts lt hS d 0 d.size limit true true (by omega) (by omega) (.inl rfl);generalize pdq lt d 0 d.size limit true true=d' at *;refine ⟨?_,?_⟩
 ·
  have e1:d'.extract 0 d.size=d':=by rw [<- h1];simp
  have e2:d.extract 0 d.size=d:=by simp
  rw [e1,e2] at h3;exact h3
 rw [Xy];intro i j hi hj hij;have:=h4 i j (by omega) hij (by simpa [h1] using hj)
 rwa [Wt (by simpa using hj),Wt (by simpa using hi)] at this
theorem Qbr {cmp:Value}{cf:Int->Int->Int}{Q:Int->Prop}{R:Res} (hC:Cmp cmp cf Q R) (hS:SWO (ltOf cf)) (g cap:Nat) (d:Array Int) (hd:d.size<=100000000000) (hQ:AllQ Q d) (w0 w:World) (B:List Nat) (G:List Res)
  (hL:Heap w0 B w (Aw g cap d::R::G)):Does Yg 137 #[sl g cap d,cmp] w
   fun v w'=>∃ d',Qz8 (ltOf cf) d.toList d'.toList/\d'.size=d.size/\AllQ Q d'/\Heap w0 B w' (Aw g cap d'::R::G)/\v=.tuple #[]:=by
 refine En [sl g cap d,cmp] 14 Tryz.func137 ?_;refine VS [0,1,4] ?_;refine VQ [] fun K hK=>?_;rw [Int.emod_eq_of_lt (by omega) (by omega)];refine Ac Tryz.call116 ?_;refine Qs ?_;refine Yk (Qg5 d.size (by omega) w) ?_;rintro v w2 ⟨rfl,rfl⟩;have hb40:bitsLen d.size<=40:=Sg (by omega);refine Ac U9 ?_;refine Qs ?_;refine Yk (Qk8 hC g cap (d.size+1) 0 d.size (bitsLen d.size) d (by omega) (by omega) (by omega) (by omega) hd hQ w0 w2 B G hL) ?_;rintro v w3 ⟨d',hd',hs,hQ',hH,rfl⟩;apply hK;clear hK;exact Qc (Km rfl ⟨d',by rw [hd'];exact QD4 hS d _,hs,hQ',hH,rfl⟩)
open Go Go.Eng
abbrev Rq (a:Addr) (n cap:Nat) (by_:Nat):Value:=.agg #[.slice (some a) n cap,.int .i64 by_]
theorem Z0 (rk:List Int) (a:Addr) (cap by_ i:Nat) (hn:rk.length<=1000000000) (hby:by_<=10000000000) (hi:i < rk.length) (w:World) (hr:RS w (some a) rk.length 1 (Bb rk)) :
  Does Yg 136 #[Rq a rk.length cap by_,.int .i64 i] w fun v w'=>Heap w [] w' []/\v=.tuple #[.int .i64 (rk.getD i 0),.int .i64 (rk.getD ((i+by_) % rk.length) 0)]:=by
 refine En [Rq a rk.length cap by_,.int .i64 i] 23 Tryz.func136 ?_;refine VQ [1,2] fun K hK=>?_;refine Dx ?_;refine Qs ?_;have hH:=(Yz w).box 196 [.slice (some a) rk.length cap,.int .i64 by_];generalize w.alloc (Yq [Xt (some a) rk.length cap,.int .i64 by_].toArray 196)=w1 at *;generalize w.heap.size=g at *;have hr1:=hH.rs' hr;apply hK;clear hK;refine Vq [4,5] fun K hK=>?_;(repeat first | refine Qo ?_ | refine Qp ?_ | (refine Gc hH ?_;(try refine Qs ?_)));refine ⟨_,Rl hr1 hi,?_⟩;(repeat first | refine Qo ?_ | refine Qp ?_ | (refine Gc hH ?_;(try refine Qs ?_)));have hm:(i+by_) % rk.length < rk.length:=U8 _ (by omega);rw [show ((i:Int)+by_) % rk.length=(((i+by_) % rk.length:Nat):Int) by push_cast;rfl];generalize (i+by_) % rk.length=j at *;refine And.intro (by omega) ⟨_,Rl hr1 (i:=j) hm,?_⟩;apply hK;clear hK;refine Ad (A6 rfl rfl rfl ?_);exact ⟨hH.sub (by simp),rfl⟩
def Ij (rk:List Int) (x:Int):Int:=rk.getD x.toNat 0
def Kd (rk:List Int) (by_:Nat) (x:Int):Int:=rk.getD ((x.toNat+by_) % rk.length) 0
def La (rk:List Int) (by_:Nat) (x y:Int):Int :=
 if Ij rk x≠Ij rk y then Ij rk x - Ij rk y else if Kd rk by_ x≠Kd rk by_ y then Kd rk by_ x - Kd rk by_ y else x - y
def Wq (rk:List Int) (x:Int):Prop:=0<=x/\x < rk.length
def O2 (rk:List Int):Prop:=∀ r∈rk,0<=r/\r<=1000000000
theorem Qa {rk:List Int} (h:O2 rk) (i:Nat):0<=rk.getD i 0/\rk.getD i 0<=1000000000:=by
 by_cases hi:i < rk.length
 ·
  rw [Yb,Ya hi];exact h _ (X8 hi)
 rw [Yb,Xk (by omega)];simp
theorem Qyl {rk:List Int} (h:O2 rk) (hn:rk.length<=1000000000) (by_:Nat) (x y:Int) (hx:Wq rk x) (hy:Wq rk y):-1000000000<=La rk by_ x y/\La rk by_ x y<=1000000000:=by
 obtain ⟨h1,h2⟩:=hx;obtain ⟨h3,h4⟩:=hy;unfold La Ij Kd;have a1:=Qa h x.toNat;have a2:=Qa h y.toNat;have a3:=Qa h ((x.toNat+by_) % rk.length);have a4:=Qa h ((y.toNat+by_) % rk.length);split
 ·
  omega
 split <;> omega
theorem Qk9 (rk:List Int) (hrk:O2 rk) (a:Addr) (cap by_ i j:Nat) (hn:rk.length<=1000000000) (hby:by_<=10000000000) (hi:i < rk.length) (hj:j < rk.length) (w:World) (hr:RS w (some a) rk.length 1 (Bb rk)) :
  Does Yg 138 #[Rq a rk.length cap by_,.int .i64 i,.int .i64 j] w fun v w'=>Heap w [] w' []/\v=.int .i64 (La rk by_ i j):=by
 have a1:=Qa hrk i;have a2:=Qa hrk j;have a3:=Qa hrk ((i+by_) % rk.length);have a4:=Qa hrk ((j+by_) % rk.length)
 have hcm:La rk by_ i j=if rk.getD i 0≠rk.getD j 0 then rk.getD i 0 - rk.getD j 0 else if rk.getD ((i+by_) % rk.length) 0≠rk.getD ((j+by_) % rk.length) 0 then rk.getD ((i+by_) % rk.length) 0 - rk.getD ((j+by_) % rk.length) 0 else (i:Int) - j:=by
  simp only [La,Ij,Kd,Ym];rfl
 have hk1:=fun w hr=>Z0 rk a cap by_ i hn hby hi w hr;have hk2:=fun w hr=>Z0 rk a cap by_ j hn hby hj w hr;generalize rk.getD i 0=ka at *;generalize rk.getD j 0=kb at *;generalize rk.getD ((i+by_) % rk.length) 0=kc at *;generalize rk.getD ((j+by_) % rk.length) 0=kd at *;rw [hcm];clear hcm;refine En [Rq a rk.length cap by_,.int .i64 i,.int .i64 j] 40 Tryz.func138 ?_;refine VQ [1,2,3] fun K hK=>?_;refine Dx ?_;refine Qs ?_;have hH:=(Yz w).box 196 [.slice (some a) rk.length cap,.int .i64 by_];generalize w.alloc (Yq [Xt (some a) rk.length cap,.int .i64 by_].toArray 196)=w1 at *;generalize w.heap.size=g at *;have hr1:=hH.rs' hr;apply hK;clear hK;refine VQ [1,2,3,7,8] fun K hK=>?_;refine ⟨[.slice (some a) rk.length cap,.int .i64 by_],⟨rfl,B6 (hH.at 0 rfl)⟩,?_⟩;refine Ac Um ?_;refine Qs ?_;refine Yk (hk1 w1 hr1) ?_;rintro v w2 ⟨hH2,rfl⟩;have hH3:=hH.call0 hH2;simp only [Yl] at hH3;have hr2:=hH3.rs' hr;apply hK;clear hK;refine VQ [1,2,7,8,9,10] fun K hK=>?_;refine ⟨[.slice (some a) rk.length cap,.int .i64 by_],⟨rfl,B6 (hH3.at 0 rfl)⟩,?_⟩;refine Ac Um ?_;refine Qs ?_;refine Yk (hk2 w2 hr2) ?_;rintro v w3 ⟨hH4,rfl⟩;have hH5:=hH3.call0 hH4;simp only [Yl] at hH5;have hH6:Heap w [] w3 []:=hH5.sub (by simp);apply hK;clear hK;refine VB ?_
 try simp only [Xm,Xd,Xe]
 refine VS [1,2,7,8,9,10,23] ?_;refine VD (fun h=>?_) (fun h=>?_)
 ·
  refine VS [6] ?_;exact Ad (A0 rfl rfl ⟨hH6,by rw [if_pos h]⟩)
 rw [if_neg h];refine VS [1,2,8,10,30] ?_;refine VD (fun h=>?_) (fun h=>?_)
 ·
  refine VS [6] ?_;exact Ad (A0 rfl rfl ⟨hH6,by rw [if_pos h]⟩)
 rw [if_neg h];refine Ab ?_;refine Ao ?_;refine VS [6] ?_;exact Ad (A0 rfl rfl ⟨hH6,rfl⟩)
theorem Qo6 (rk:List Int) (hrk:O2 rk) (gr:Nat) (cap by_:Nat) (hn:rk.length<=1000000000) (hby:by_<=10000000000) :
  Cmp (.func (.func 138) #[Rq ⟨gr,0,none⟩ rk.length cap by_] #[]) (La rk by_) (Wq rk) (Yr 3 1 (some ⟨gr,0,none⟩) rk.length cap (Bb rk)) where
 i64:=fun x y hx hy=>by have:=Qyl hrk hn by_ x y hx hy;omega
 run:=fun w x y hR hx hy=>by
  obtain ⟨i,rfl⟩:∃ i:Nat,x=i:=⟨x.toNat,by have:=hx.1;omega⟩;obtain ⟨j,rfl⟩:∃ j:Nat,y=j:=⟨y.toNat,by have:=hy.1;omega⟩;exact Gi Tryz.call138 (Qk9 rk hrk ⟨gr,0,none⟩ cap by_ i j hn hby (by have:=hx.2;omega) (by have:=hy.2;omega) w (Az hR)) fun v w' h=>h
theorem Ri (rk:List Int) (by_:Nat) (x y:Int):La rk by_ x y < 0 ↔ Ij rk x < Ij rk y∨(Ij rk x=Ij rk y/\(Kd rk by_ x < Kd rk by_ y∨(Kd rk by_ x=Kd rk by_ y/\x < y))):=by
 unfold La;split
 ·
  omega
 split <;> omega
theorem Qo7 (rk:List Int) (by_:Nat):Sort.SWO (ltOf (La rk by_)):=by
 constructor
 ·
  intro x;simp [ltOf,La]
 ·
  intro x y z h1 h2;have h3:=Ri rk by_ x y;have h4:=Ri rk by_ y z;have h5:=Ri rk by_ x z;simp only [ltOf] at *;have h1:=of_decide_eq_true h1;have h2:=of_decide_eq_true h2;exact decide_eq_true (by omega)
 intro x y z h1 h2;have h3:=Ri rk by_ x y;have h4:=Ri rk by_ y z;have h5:=Ri rk by_ x z;simp only [ltOf] at *;have h1:=of_decide_eq_false h1;have h2:=of_decide_eq_false h2;exact decide_eq_false (by omega)
def Fh:List UInt8->List UInt8->Bool
 | [],_=>true
 | _::_,[]=>false
 | a::l,b::m=>if a=b then Fh l m else decide (a.toNat < b.toNat)
theorem Vl:∀ l,Fh l l=true
 | []=>rfl
 | a::l=>by simp [Fh,Vl l]
theorem Z1:∀ l m,Fh l m=true->Fh m l=true->l=m
 | [],[],_,_=>rfl
 | [],_::_,_,h=>by simp [Fh] at h
 | _::_,[],h,_=>by simp [Fh] at h
 | a::l,b::m,h1,h2=>by
  simp only [Fh] at h1 h2;by_cases h:a=b
  ·
   subst h;simp at h1 h2;rw [Z1 l m h1 h2]
  simp [h,Ne.symm h] at h1 h2;omega
theorem Qo8:∀ (l m:List UInt8) (c:UInt8),l.length=m.length->Fh (l++[c]) (m++[c])=true->Fh l m=true
 | [],_,_,_,_=>rfl
 | _::_,[],_,h,_=>by simp at h
 | a::l,b::m,c,hl,h=>by
  simp only [Y6,Fh] at h ⊢;by_cases hab:a=b
  ·
   subst hab;simp at h ⊢;exact Qo8 l m c (by simpa using hl) h
  simp [hab] at h ⊢;exact h
def Co (s:List UInt8) (i:Nat):List UInt8:=s.drop i++s.take i
theorem Qrh (s:List UInt8) (i:Nat):(Co s i).length=s.length:=by simp [Co];omega
theorem Qym (s:List UInt8):Co s 0=s:=by simp [Co]
def Wm:List UInt8->List UInt8
 | []=>[]
 | a::l=>l++[a]
theorem Qh2 (s:List UInt8) (i:Nat) (h:i < s.length):Co s (i+1)=Wm (Co s i):=by
 have e:s.drop i=s[i]::s.drop (i+1):=Y2 h;rw [Co,Co,e,Y6,Wm,Yn]
 congr 1
 rw [Xb,Ya h];rfl
theorem Qyn (s:List UInt8):Co s s.length=s:=by simp [Co]
theorem Qo9 (s:List UInt8) (i:Nat) (h:i < s.length):(Co s i).head? = some (s.getD i 0):=by
 rw [Co,Y2 h,Yb,Ya h];rfl
structure Ordered (s:List UInt8) (σ:List Nat):Prop where
 perm:σ.Perm (Yf s.length)
 sorted:σ.Pairwise fun i j=>Fh (Co s i) (Co s j)=true/\(Co s i=Co s j->i < j)
theorem Ordered.unique {s:List UInt8}{σ τ:List Nat} (h:Ordered s σ) (k:Ordered s τ):σ=τ:=by
 refine List.Perm.eq_of_pairwise (le:=fun i j=>Fh (Co s i) (Co s j)=true/\(Co s i=Co s j->i < j)) (fun a b _ _ h1 h2=>?_) h.sorted k.sorted (h.perm.trans k.perm.symm);have e:=Z1 _ _ h1.1 h2.1;have:=h1.2 e;have:=h2.2 e.symm;omega
def D4 (n i:Nat):Nat:=if i=0 then n - 1 else i - 1
theorem Qvg (s:List UInt8) (i:Nat) (h:i < s.length):Co s i=Wm (Co s (D4 s.length i)):=by
 unfold D4;by_cases h0:i=0
 ·
  subst h0;rw [if_pos rfl,<- Qh2 s (s.length - 1) (by omega),show s.length - 1+1=s.length by omega,Qyn,Qym]
 rw [if_neg h0,<- Qh2 s (i - 1) (by omega),show i - 1+1=i by omega]
def B4 (s:List UInt8) (σ:List Nat):List UInt8:=σ.map fun i=>s.getD (D4 s.length i) 0
def C5 (L:List UInt8):List Nat:=(Yf 256).flatMap fun b=>(Yf L.length).filter fun i=>(L.getD i 0).toNat == b
theorem Nu (L:List UInt8):(C5 L).Perm (Yf L.length):=by
 unfold C5;generalize hn:Yf L.length=xs;clear hn
 induction xs with
 | nil=>simp
 | cons x xs ih =>
  have h1:∀ (bs:List Nat),bs.Nodup->(L.getD x 0).toNat∈bs ->
    (bs.flatMap fun b=>(x::xs).filter fun i=>(L.getD i 0).toNat == b).Perm (x::bs.flatMap fun b=>xs.filter fun i=>(L.getD i 0).toNat == b):=by
   intro bs
   induction bs with
   | nil=>intro _ h;simp at h
   | cons b bs ihb =>
    intro hnd hm;rw [List.nodup_cons] at hnd;simp only [X3];by_cases hb:(L.getD x 0).toNat=b
    ·
     have hno:∀ b'∈bs,((x::xs).filter fun i=>(L.getD i 0).toNat == b')=xs.filter fun i=>(L.getD i 0).toNat == b':=by
      intro b' hb';rw [Xc];simp only [beq_iff_eq];intro h;exact hnd.1 (by rw [<- hb,h];exact hb')
     rw [Y7 (by simpa using hb)]
     have e:(bs.flatMap fun b'=>(x::xs).filter fun i=>(L.getD i 0).toNat == b')=bs.flatMap fun b'=>xs.filter fun i=>(L.getD i 0).toNat == b':=by
      have:∀ (l:List Nat),(∀ b'∈l,((x::xs).filter fun i=>(L.getD i 0).toNat == b')=xs.filter fun i=>(L.getD i 0).toNat == b')->(l.flatMap fun b'=>(x::xs).filter fun i=>(L.getD i 0).toNat == b')=l.flatMap fun b'=>xs.filter fun i=>(L.getD i 0).toNat == b':=by
       intro l
       induction l with
       | nil=>intro _;rfl
       | cons c l ihl=>intro h;rw [X3,X3,h c (by simp),ihl fun b' hb'=>h b' (by simp [hb'])]
      exact this bs hno
     rw [e];exact List.Perm.refl _
    rw [Xc (by simpa using hb)]
    have hm':(L.getD x 0).toNat∈bs:=by
     rcases Ua.1 hm with h | h
     ·
      exact absurd h hb
     exact h
    refine (List.Perm.append_left _ (ihb hnd.2 hm')).trans ?_;exact List.perm_middle
  refine (h1 _ Xn (Y3.2 (UInt8.toNat_lt _))).trans (ih.cons x)
theorem Qfd (L:List UInt8):(C5 L).Pairwise fun i j=>(L.getD i 0).toNat < (L.getD j 0).toNat∨((L.getD i 0).toNat=(L.getD j 0).toNat/\i < j):=by
 unfold C5;rw [List.pairwise_flatMap];refine ⟨fun b _=>?_,?_⟩
 ·
  have hr:(Yf L.length).Pairwise (· < ·):=Un;have:=hr.filter fun i=>(L.getD i 0).toNat == b;refine this.imp_of_mem fun {i j} hi hj h=>?_;rw [X1] at hi hj;simp only [beq_iff_eq] at hi hj;exact .inr ⟨by rw [hi.2,hj.2],h⟩
 refine (Un (n:=256)).imp fun {b c} h i hi j hj=>?_;rw [X1] at hi hj;simp only [beq_iff_eq] at hi hj;exact .inl (by rw [hi.2,hj.2];exact h)
def Ll (L:List UInt8) (pl:List Nat):Nat->Nat->List UInt8
 | 0,_=>[]
 | n+1,p=>L.getD (pl.getD p 0) 0::Ll L pl n (pl.getD p 0)
theorem QD5 (a:UInt8) (l:List UInt8):Wm (a::l)=l++[a]:=rfl
section
variable {s:List UInt8}{σ:List Nat}
theorem QD6 (h:Ordered s σ) {j:Nat} (hj:j < s.length):(B4 s σ).getD j 0=s.getD (D4 s.length (σ.getD j 0)) 0:=by
 have hl:σ.length=s.length:=by rw [h.perm.length_eq,Yw]
 simp only [B4,Yb,Y8];rw [Ya (by omega)];simp
theorem QI6 (h:Ordered s σ) {j:Nat} (hj:j < s.length):σ.getD j 0 < s.length:=by
 have hl:σ.length=s.length:=by rw [h.perm.length_eq,Yw]
 have:σ.getD j 0∈σ:=by
  rw [Yb,Ya (by omega)];simp
 have:=(h.perm.mem_iff).1 this;simpa using this
theorem Qpa {n i:Nat} (h:i < n):D4 n i < n:=by unfold D4;split <;> omega
theorem Qh3 (h:Ordered s σ) {j:Nat} (hj:j < s.length):∃ l,Co s (σ.getD j 0)=l++[(B4 s σ).getD j 0]/\Co s (D4 s.length (σ.getD j 0))=(B4 s σ).getD j 0::l:=by
 have h1:=QI6 h hj;have h2:=Qvg s _ h1;have h3:=Qo9 s _ (Qpa h1);cases hr:Co s (D4 s.length (σ.getD j 0)) with
 | nil=>rw [hr] at h3;simp at h3
 | cons a l =>
  rw [hr] at h2 h3;simp only [List.head?_cons,Option.some.injEq] at h3;rw [QD6 h hj,<- h3];exact ⟨l,h2,rfl⟩
theorem Qri (n:Nat):((Yf n).map (D4 n)).Perm (Yf n):=by
 refine (List.perm_ext_iff_of_nodup ?_ Xn).2 fun a=>?_
 ·
  refine List.Pairwise.map _ ?_ (List.pairwise_lt_range.imp_of_mem (S:=fun a b=>a < b/\b < n) fun {a b} ha hb h=>⟨h,by simpa using hb⟩);intro a b h;unfold D4;split <;> split <;> omega
 simp only [Xu,Y3];constructor
 ·
  rintro ⟨i,hi,rfl⟩;exact Qpa hi
 intro ha;by_cases h:a=n - 1
 ·
  exact ⟨0,by omega,by unfold D4;rw [if_pos rfl];omega⟩
 exact ⟨a+1,by omega,by unfold D4;rw [if_neg (by omega)];omega⟩
theorem Qyo (σ:List Nat):(Yf σ.length).map (fun j=>σ.getD j 0)=σ:=by
 apply Ga;intro j;rw [Y8];by_cases h:j < σ.length
 ·
  rw [Ya (by simpa using h)];simp [Yb,h]
 rw [Xk (by simpa using h),Xk (by omega)];rfl
theorem Qvh (h:Ordered s σ):σ.map (Co s)=(C5 (B4 s σ)).map fun j=>Co s (D4 s.length (σ.getD j 0)):=by
 have hl:σ.length=s.length:=by rw [h.perm.length_eq,Yw]
 have hcl:(B4 s σ).length=s.length:=by simp [B4,hl]
 have hpp:=Nu (B4 s σ);rw [hcl] at hpp;have hmem:∀ j∈C5 (B4 s σ),j < s.length:=fun j hj=>by simpa using (hpp.mem_iff).1 hj
 refine List.Perm.eq_of_pairwise (le:=fun l m=>Fh l m=true) (fun a b _ _ h1 h2=>Z1 a b h1 h2) ?_ ?_ ?_
 ·
  exact List.Pairwise.map _ (fun a b h=>h) (h.sorted.imp fun h=>h.1)
 ·
  refine List.Pairwise.map _ ?_ ((Qfd (B4 s σ)).imp_of_mem (S:=fun i j=>((((B4 s σ).getD i 0).toNat < ((B4 s σ).getD j 0).toNat∨(((B4 s σ).getD i 0).toNat=((B4 s σ).getD j 0).toNat/\i < j))/\i < s.length)/\j < s.length) fun hi hj h=>⟨⟨h,hmem _ hi⟩,hmem _ hj⟩);rintro i j ⟨⟨hij,hi⟩,hj⟩;obtain ⟨l,e1,e2⟩:=Qh3 h hi;obtain ⟨m,f1,f2⟩:=Qh3 h hj;rw [e2,f2];simp only [Fh];rcases hij with hlt | ⟨he,hlt⟩
  ·
   have:(B4 s σ).getD i 0≠(B4 s σ).getD j 0:=fun h'=>by rw [h'] at hlt;omega
   simp only [this,if_false];simpa using hlt
  have he':(B4 s σ).getD i 0=(B4 s σ).getD j 0:=Uc.1 he;rw [if_pos he'];have hs:=Xy.1 h.sorted i j (by omega) (by omega) hlt;have g1:σ[i]'(by omega)=σ.getD i 0:=by rw [Yb,Ya (by omega)];rfl
  have g2:σ[j]'(by omega)=σ.getD j 0:=by rw [Yb,Ya (by omega)];rfl
  rw [g1,g2,e1,f1,he'] at hs;refine Qo8 l m _ ?_ hs.1;have a1:=congrArg Uj e1;have a2:=congrArg Uj f1;simp [Qrh] at a1 a2;omega
 have p1:(σ.map (Co s)).Perm ((Yf s.length).map (Co s)):=h.perm.map _;have p2:((C5 (B4 s σ)).map fun j=>Co s (D4 s.length (σ.getD j 0))).Perm ((Yf s.length).map fun j=>Co s (D4 s.length (σ.getD j 0))):=hpp.map _;refine p1.trans (List.Perm.trans ?_ p2.symm)
 have e1:((Yf s.length).map fun j=>Co s (D4 s.length (σ.getD j 0)))=(σ.map (D4 s.length)).map (Co s):=by
  rw [<- hl]
  conv=>rhs;rw [<- Qyo σ]
  simp [Uo,Function.comp_def,hl]
 rw [e1];exact (((h.perm.map (D4 s.length)).trans (Qri s.length)).symm).map _
theorem Qtk (h:Ordered s σ):∀ (n p i:Nat),p < s.length->i < s.length->Co s (σ.getD p 0)=Co s i->i+n<=s.length ->
  Ll (B4 s σ) (C5 (B4 s σ)) n p=(s.drop i).take n
 | 0,_,_,_,_,_,_=>by simp [Ll]
 | n+1,p,i,hp,hi,hr,hn=>by
  have hl:σ.length=s.length:=by rw [h.perm.length_eq,Yw]
  have hcl:(B4 s σ).length=s.length:=by simp [B4,hl]
  have hpp:=Nu (B4 s σ);rw [hcl] at hpp;have hpl:(C5 (B4 s σ)).length=s.length:=by rw [hpp.length_eq,Yw]
  generalize hq:(C5 (B4 s σ)).getD p 0=q
  have hqlt:q < s.length:=by
   have:q∈C5 (B4 s σ):=by
    rw [<- hq,Yb,Ya (by omega)];simp
   simpa using (hpp.mem_iff).1 this
  have hb:=congrArg (fun l=>l[p]?) (Qvh h);simp only [Y8] at hb;rw [Ya (by omega),Ya (by omega)] at hb;simp only [Option.map_some,Option.some.injEq] at hb;have g1:σ[p]'(by omega)=σ.getD p 0:=by rw [Yb,Ya (by omega)];rfl
  have g2:(C5 (B4 s σ))[p]'(by omega)=q:=by rw [<- hq,Yb,Ya (by omega)];rfl
  rw [g1,g2,hr] at hb;obtain ⟨l,e1,e2⟩:=Qh3 h hqlt;rw [e2] at hb;have hd:=Qo9 s i hi;rw [hb] at hd;simp only [List.head?_cons,Option.some.injEq] at hd;have hnext:Co s (σ.getD q 0)=Wm (Co s i):=by rw [hb,QD5,e1]
  rw [Ll,hq,hd,Y2 hi,List.take_succ_cons];have e3:s.getD i 0=s[i]:=by rw [Yb,Ya hi];rfl
  rw [e3]
  congr 1
  by_cases hlast:i+1=s.length
  ·
   have:n=0:=by omega
   subst this;simp [Ll]
  exact Qtk h n q (i+1) hqlt (by omega) (by rw [hnext,Qh2 s i hi]) (by omega)
theorem Qyp (h:Ordered s σ) (hs:s≠[]):Ll (B4 s σ) (C5 (B4 s σ)) s.length (σ.idxOf 0)=s:=by
 have hl:σ.length=s.length:=by rw [h.perm.length_eq,Yw]
 have hn:0 < s.length:=Ue.2 hs;have hm:0∈σ:=(h.perm.mem_iff).2 (by simpa using hn);have hr:σ.idxOf 0 < σ.length:=List.idxOf_lt_length_iff.2 hm
 have hg:σ.getD (σ.idxOf 0) 0=0:=by
  rw [Yb,Ya hr];simp
 have:=Qtk h s.length (σ.idxOf 0) 0 (by omega) hn (by rw [hg]) (by omega);simpa using this
end
def pre (s:List UInt8) (m i:Nat):List UInt8:=(Yf m).map fun t=>s.getD ((i+t) % s.length) 0
theorem W9 (s:List UInt8) (m i:Nat):(pre s m i).length=m:=by simp [pre]
theorem Qfk (s:List UInt8) (a b i:Nat):pre s (a+b) i=pre s a i++pre s b ((i+a) % s.length):=by
 simp only [pre,U1,List.map_append,Uo]
 congr 1
 apply Xz;intro t _;simp only [Function.comp]
 congr 1
 rw [Nat.mod_add_mod,Uk]
theorem Qcc:∀ {a c:List UInt8} (b d:List UInt8),a.length=c.length->Fh (a++b) (c++d)=if a=c then Fh b d else Fh a c
 | [],[],_,_,_=>by simp
 | [],_::_,_,_,h=>by simp at h
 | _::_,[],_,_,h=>by simp at h
 | x::a,y::c,b,d,h=>by
  have ih:=Qcc (a:=a) (c:=c) b d (by simpa using h);by_cases hxy:x=y
  ·
   subst hxy;simp only [Y6,Fh,if_true,ih,List.cons.injEq,true_and]
  simp [Fh,hxy]
theorem Qfl (s:List UInt8) (i:Nat) (hi:i < s.length):pre s s.length i=Co s i:=by
 apply Xh
 ·
  simp [pre,Co];omega
 intro t h1 h2;simp only [pre,Uv,Yw] at h1;simp only [pre,Co,X9,X2,List.getElem_append,Xv,List.getElem_drop,List.getElem_take];split
 ·
  rename_i h;rw [Xw (by omega),Yb,Ya (by omega),Y9]
 rename_i h
 have e:(i+t) % s.length=t - (s.length - i):=by
  rw [Nat.mod_eq_sub_mod (by omega),Xw (by omega)];omega
 rw [e,Yb,Ya (by omega),Y9]
theorem Qrj (s:List UInt8) (m i j:Nat) (hi:i < s.length) (hj:j < s.length) (h:Co s i=Co s j):pre s m i=pre s m j:=by
 rw [<- Qfl s i hi,<- Qfl s j hj] at h;unfold pre at h ⊢;apply Xz;intro t _;have ht:t % s.length < s.length:=U8 _ (by omega);have h1:=(List.map_inj_left.1 h) (t % s.length) (by simpa using ht)
 rwa [Nat.add_mod_mod,Nat.add_mod_mod] at h1
def Ranks (s:List UInt8) (rk:List Int) (m:Nat):Prop:=rk.length=s.length/\∀ i j,i < s.length->j < s.length->(rk.getD i 0<=rk.getD j 0 ↔ Fh (pre s m i) (pre s m j)=true)
def Ok (rk:List Int) (by_:Nat) (x y:Int):Prop:=Ij rk x < Ij rk y∨(Ij rk x=Ij rk y/\Kd rk by_ x<=Kd rk by_ y)
def LeK (s:List UInt8) (rk:List Int) (by_ m:Nat):Prop:=rk.length=s.length/\∀ i j:Nat,i < s.length->j < s.length->(Ok rk by_ i j ↔ Fh (pre s m i) (pre s m j)=true)
theorem Ranks.eq {s:List UInt8}{rk:List Int}{m:Nat} (h:Ranks s rk m) {i j:Nat} (hi:i < s.length) (hj:j < s.length):rk.getD i 0=rk.getD j 0 ↔ pre s m i=pre s m j:=by
 constructor
 ·
  intro e;exact Z1 _ _ ((h.2 i j hi hj).1 (by omega)) ((h.2 j i hj hi).1 (by omega))
 intro e;have h1:=(h.2 i j hi hj).2 (by rw [e];exact Vl _);have h2:=(h.2 j i hj hi).2 (by rw [e];exact Vl _);omega
theorem LeK.first {s:List UInt8}{rk:List Int} (h:Ranks s rk 1):LeK s rk 0 1:=by
 refine ⟨h.1,fun i j hi hj=>?_⟩;have hn:=h.1;rw [<- h.2 i j hi hj];simp only [Ok,Ij,Kd,Ym,Up,hn,Xw hi,Xw hj];omega
theorem LeK.double {s:List UInt8}{rk:List Int}{c:Nat} (h:Ranks s rk c):LeK s rk c (c+c):=by
 refine ⟨h.1,fun i j hi hj=>?_⟩;have hn:=h.1;have h0:0 < s.length:=by omega
 rw [Qfk,Qfk,Qcc _ _ (by rw [W9,W9])];have hi2:(i+c) % s.length < s.length:=U8 _ h0;have hj2:(j+c) % s.length < s.length:=U8 _ h0;have e1:=h.eq hi hj;have e2:=h.2 i j hi hj;have e3:=h.2 _ _ hi2 hj2;simp only [Ok,Ij,Kd,Ym,hn];split
 ·
  rename_i hp;rw [<- e3];have:=e1.2 hp;omega
 rename_i hp;rw [<- e2];have:¬ rk.getD i 0=rk.getD j 0:=fun h'=>hp (e1.1 h');omega
def Lw (rk:List Int) (by_:Nat) (x y:Int):Bool:=decide (Ij rk x=Ij rk y) && decide (Kd rk by_ x=Kd rk by_ y)
def Fw (rk:List Int) (by_:Nat) (L:List Int):Nat->Nat
 | 0=>0
 | k+1=>Fw rk by_ L k+if Lw rk by_ (L.getD k 0) (L.getD (k+1) 0) then 0 else 1
theorem Qlz (rk:List Int) (by_:Nat) (L:List Int):∀ k,Fw rk by_ L k<=k
 | 0=>by simp [Fw]
 | k+1=>by have:=Qlz rk by_ L k;simp only [Fw];split <;> omega
theorem Qd0 (rk:List Int) (by_:Nat) (L:List Int) {p q:Nat} (h:p<=q):Fw rk by_ L p<=Fw rk by_ L q:=by
 induction q with
 | zero =>
  obtain rfl:p=0:=by omega
  exact Xf _
 | succ q ih =>
  by_cases hp:p=q+1
  ·
   rw [hp];exact Xf _
  have:=ih (by omega);simp only [Fw];omega
def Qt4 (rk:List Int) (by_:Nat) (L:List Int):Prop:=∀ p q,p<=q->q < L.length->Ok rk by_ (L.getD p 0) (L.getD q 0)
theorem QD7 {rk:List Int}{by_:Nat}{L:List Int} (hL:Qt4 rk by_ L) {p q:Nat} (h:p<=q) (hq:q < L.length):Fw rk by_ L p=Fw rk by_ L q ↔ Lw rk by_ (L.getD p 0) (L.getD q 0)=true:=by
 induction q with
 | zero =>
  obtain rfl:p=0:=by omega
  simp [Lw]
 | succ q ih =>
  by_cases hp:p=q+1
  ·
   subst hp;simp [Lw]
  have ih:=ih (by omega) (by omega);have hm:=Qd0 rk by_ L (show p<=q by omega);have h1:=hL p q (by omega) (by omega);have h2:=hL q (q+1) (by omega) hq;simp only [Fw];simp only [Lw,Xx,decide_eq_true_eq,Ok] at *;split
  ·
   rename_i h3;simp only [Up];rw [ih];omega
  rename_i h3;constructor
  ·
   intro h4;omega
  intro h4;exfalso;apply h3;omega
theorem Qrk {rk:List Int}{by_:Nat}{L:List Int} (hL:Qt4 rk by_ L) {p q:Nat} (hp:p < L.length) (hq:q < L.length):Fw rk by_ L p<=Fw rk by_ L q ↔ Ok rk by_ (L.getD p 0) (L.getD q 0):=by
 by_cases h:p<=q
 ·
  exact ⟨fun _=>hL p q h hq,fun _=>Qd0 rk by_ L h⟩
 have h1:=hL q p (by omega) hp;have h2:=Qd0 rk by_ L (show q<=p by omega);have h3:=QD7 hL (show q<=p by omega) hp;simp only [Lw,Xx,decide_eq_true_eq,Ok] at *;constructor
 ·
  intro h4;have:=h3.1 (by omega);omega
 intro h4;have:=h3.2 (by omega);omega
def F3 (n:Nat):List Int:=(Yf n).map fun i:Nat=>(i:Int)
theorem Qz9 {rk:List Int}{by_:Nat}{x y:Int} (h:ltOf (La rk by_) y x=false):Ok rk by_ x y/\(Lw rk by_ x y=true->x<=y):=by
 have h1:=Ri rk by_ y x;have h2:¬ La rk by_ y x < 0:=of_decide_eq_false h;simp only [Ok,Lw,Xx,decide_eq_true_eq];constructor
 ·
  omega
 omega
theorem Qyq {rk:List Int}{by_:Nat}{L:List Int} (h:L.Pairwise fun x y=>ltOf (La rk by_) y x=false):Qt4 rk by_ L:=by
 intro p q hpq hq;by_cases e:p=q
 ·
  subst e;right;exact ⟨rfl,Int.le_refl _⟩
 have:=(Xy.1 h) p q (by omega) hq (by omega);rw [Yb,Ya (by omega),Yb,Ya hq];exact (Qz9 this).1
theorem Ql0 {L:List Int}{n:Nat} (h:L.Perm (F3 n)) {i:Nat} (hi:i < n):∃ p,p < L.length/\L.getD p 0=i:=by
 have hm:(i:Int)∈L:=h.mem_iff.2 (by simp only [F3,Xu,Y3];exact ⟨i,hi,rfl⟩);obtain ⟨p,hp,he⟩:=X0 hm;exact ⟨p,hp,by rw [Yb,Ya hp];exact he⟩
theorem Ql1 {L:List Int}{n:Nat} (h:L.Perm (F3 n)) {p:Nat} (hp:p < L.length):0<=L.getD p 0/\L.getD p 0 < n:=by
 have hm:L.getD p 0∈L:=by rw [Yb,Ya hp];exact X8 hp
 have:=h.mem_iff.1 hm;simp only [F3,Xu,Y3] at this;obtain ⟨i,hi,he⟩:=this;omega
theorem Qpb {L:List Int}{n:Nat} (h:L.Perm (F3 n)):L.length=n:=by rw [h.length_eq];simp [F3]
theorem Qg6 {L:List Int}{n:Nat} (h:L.Perm (F3 n)):L.Nodup:=by
 rw [h.nodup_iff,F3,List.Nodup,Gb];exact (Xn (n:=n)).imp fun {a b} hab h=>hab (by omega)
theorem Qyr {L:List Int}{n:Nat} (h:L.Perm (F3 n)) {p q:Nat} (hp:p < L.length) (hq:q < L.length) (e:L.getD p 0=L.getD q 0):p=q:=by
 have hnd:=Qg6 h;rw [Yb,Ya hp,Yb,Ya hq] at e;exact (Ul hnd).1 e
theorem Qrl {s:List UInt8}{rk nx L:List Int}{by_ m:Nat} (hk:LeK s rk by_ m) (hp:L.Perm (F3 s.length)) (hs:Qt4 rk by_ L) (hl:nx.length=s.length) (hn:∀ p,p < s.length->nx.getD (L.getD p 0).toNat 0=Fw rk by_ L p):Ranks s nx m:=by
 refine ⟨hl,fun i j hi hj=>?_⟩;have hL:=Qpb hp;obtain ⟨p,hp1,hp2⟩:=Ql0 hp hi;obtain ⟨q,hq1,hq2⟩:=Ql0 hp hj;have e1:=hn p (by omega);have e2:=hn q (by omega);rw [hp2,Ym] at e1;rw [hq2,Ym] at e2;have h1:=Qrk hs hp1 hq1;rw [hp2,hq2] at h1;rw [e1,e2,<- hk.2 i j hi hj,<- h1];omega
theorem Qnk {s:List UInt8}{rk nx L:List Int}{by_:Nat} (hp:L.Perm (F3 s.length)) (hl:nx.length=s.length) (hb:s.length<=1000000000) (hn:∀ p,p < s.length->nx.getD (L.getD p 0).toNat 0=Fw rk by_ L p):O2 nx:=by
 intro r hr;obtain ⟨i,hi,rfl⟩:=X0 hr;have hL:=Qpb hp;obtain ⟨p,hp1,hp2⟩:=Ql0 hp (show i < s.length by omega);have e1:=hn p (by omega);have e2:=Qlz rk by_ L p;rw [hp2,Ym,Yb,Ya hi,Y9] at e1;omega
theorem Qnl {s:List UInt8}{rk L:List Int}{by_ m:Nat} (hk:LeK s rk by_ m) (hm:s.length<=m) (hp:L.Perm (F3 s.length)) (hs:L.Pairwise fun x y=>ltOf (La rk by_) y x=false):Ordered s (L.map Uf):=by
 constructor
 ·
  have:=hp.map Uf
  rwa [F3,Uo,show (Uf ∘ fun i:Nat=>(i:Int))=id from funext fun i=>Ym i,List.map_id] at this
 rw [Gb];refine (List.pairwise_and_iff.2 ⟨hs,Qg6 hp⟩).imp_of_mem fun {x y} hx hy h=>?_;obtain ⟨h,hne⟩:=h;have hx:=hp.mem_iff.1 hx;have hy:=hp.mem_iff.1 hy;simp only [F3,Xu,Y3] at hx hy;obtain ⟨i,hi,rfl⟩:=hx;obtain ⟨j,hj,rfl⟩:=hy;simp only [Ym];obtain ⟨h1,h2⟩:=Qz9 h;have h3:=(hk.2 i j hi hj).1 h1;constructor
 ·
  obtain ⟨c,rfl⟩:∃ c,m=s.length+c:=⟨m - s.length,by omega⟩;rw [Qfk,Qfk,Qcc _ _ (by rw [W9,W9]),Qfl s i hi,Qfl s j hj] at h3;split at h3
  ·
   rename_i e;rw [e];exact Vl _
  exact h3
 intro e;have e2:=Qrj s m i j hi hj e;have h4:=(hk.2 j i hj hi).2 (by rw [e2];exact Vl _)
 have h5:Lw rk by_ i j=true:=by
  simp only [Ok,Lw,Xx,decide_eq_true_eq] at *;omega
 have h6:=h2 h5;have h7:i≠j:=fun h=>hne (by rw [h]);omega
theorem Lf (d:Array Int) (p:Nat):d.toList.getD p 0=d[p]! := by
 simp only [Yb,getElem!_def,Array.getElem?_toList];cases d[p]? <;> rfl
theorem Oy (d:Array Int) {i:Nat} (v:Int) (j:Nat) (hi:i < d.size):(d.setIfInBounds i v)[j]! = if j=i then v else d[j]! := by
 simp only [getElem!_def,Array.getElem?_setIfInBounds];by_cases h:i=j
 ·
  subst h;simp [hi]
 simp [h,Ne.symm h]
theorem Qjr (n k:Nat):(Array.replicate n (0:Int))[k]! = 0:=by
 simp only [getElem!_def,Array.getElem?_replicate];split <;> rename_i h
 ·
  split at h <;> simp_all
 rfl
theorem Qsx {w0 w:World}{B:List Nat}{G:List Res} (hH:Heap w0 B w G) (n:Nat) (hn:n<=1000000000000):Heap w0 B (w.alloc (.cells (Yc n (Y5 .i64 0)).toArray 3)) (Aw w.heap.size n (Array.replicate n 0)::G):=by
 have h:=hH.row 3 (n:=n) (cap:=n) (sz:=1) (Yc n (.int .i64 0)) [] (by simp) (by simp) (by omega) (by omega);rw [Yu] at h;rw [Aw,Array.size_replicate,Array.toList_replicate,<- intsV_zero];exact h
abbrev Oa (g cap:Nat) (rk:List Int):Res:=Yr 3 1 (some ⟨g,0,none⟩) rk.length cap (Bb rk)
abbrev D6 (g:Nat):Value:=.pointer (some ⟨g,0,none⟩)
theorem Qrm (rk:List Int) (gr cr by_ go co gn gs:Nat) (d:Array Int) (hrk:O2 rk) (hby:by_<=10000000000) (hn:d.size<=1000000000) (hn0:0 < d.size) (hl:rk.length=d.size) (hp:d.toList.Perm (F3 d.size)) (w0 w:World) (B:List Nat) (G:List Res)
  (hL:Heap w0 B w (Aw go co d::Oa gr cr rk::Yj gn 3 [.int .i64 d.size]::Yj gs 114 [sl go co d]::G)) :
  Does Yg 135 #[Rq ⟨gr,0,none⟩ rk.length cr by_,D6 gn,D6 gs] w
   fun v w'=>∃ (gx:Nat) (nx:Array Int),nx.size=d.size/\(∀ p,p < d.size->nx[(d[p]!).toNat]! = Fw rk by_ d.toList p)/\Heap w0 B w' (Oa gx d.size nx.toList::Aw go co d::Oa gr cr rk::Yj gn 3 [.int .i64 d.size]::Yj gs 114 [sl go co d]::G)/\v=sl gx d.size nx:=by
 have hin:∀ p,p < d.size->0<=d[p]! /\ d[p]! < d.size:=fun p h=>by
  have:=Ql1 hp (p:=p) (by simpa using h)
  rwa [Lf] at this
 have hinj:∀ p q,p < d.size->q < d.size->d[p]! = d[q]! -> p=q:=fun p q h1 h2 e=>by
  refine Qyr hp (p:=p) (q:=q) (by simpa using h1) (by simpa using h2) ?_;rw [Lf,Lf,e]
 refine En [Rq ⟨gr,0,none⟩ rk.length cr by_,D6 gn,D6 gs] 69 Tryz.func135 ?_;refine VQ [1,2,3] fun K hK=>?_;refine Dx ?_;refine Qs ?_;have hH:=hL.box 196 [.slice (some ⟨gr,0,none⟩) rk.length cr,.int .i64 by_];generalize w.alloc (Yq [Xt (some ⟨gr,0,none⟩) rk.length cr,.int .i64 by_].toArray 196)=w1 at *;generalize w.heap.size=gb at *;apply hK;clear hK;refine VQ [1,2,3,5] fun K hK=>?_;refine ⟨_,Aj (hH.at 3 rfl) rfl,?_⟩;refine Ew Ye E0 ?_;refine Qs ?_;refine ⟨d.size,d.size,⟨rfl,rfl,by omega,by omega,by omega⟩,?_⟩;have hH1:=Qsx hH d.size (by omega);generalize w1.alloc (Yq (Yc d.size (Y5 .i64 0)).toArray 3)=w2 at *;generalize w1.heap.size=gx at *;apply hK;clear hK;refine VS [1,2,3,5,6] ?_;refine Ar ?_;refine Au [1,2,3,5,6] (fun m e w'=>∃ (k:Nat) (nx:Array Int),Is e [(1,D6 gn),(2,D6 gs),(3,D6 gb),(5,.slice (some ⟨gx,0,none⟩) d.size d.size),(6,.int .i64 k)]/\Heap w0 B w' (Aw gx d.size nx::Yj gb 196 [.slice (some ⟨gr,0,none⟩) rk.length cr,.int .i64 by_]::Aw go co d::Oa gr cr rk::Yj gn 3 [.int .i64 d.size]::Yj gs 114 [sl go co d]::G)/\nx.size=d.size/\1<=k/\k<=d.size/\(∀ p,p < k->nx[(d[p]!).toNat]! = Fw rk by_ d.toList p)/\m=d.size - k) (d.size - 1) ?_ ?_
 ·
  refine Qs ?_;refine ⟨1,Array.replicate d.size 0,rfl,hH1,by simp,by omega,by omega,fun p hp=>?_,rfl⟩;obtain rfl:p=0:=by omega
  rw [Qjr];rfl
 clear hH hH1;rintro m e w3 ⟨k,nx,rfl,hH,hs,hk1,hk2,hnx,hm⟩;refine VQ [1,2,3,5,6,15] fun K hK=>?_;refine ⟨_,Aj (hH.at 4 rfl) rfl,?_⟩;refine Qs ?_;apply hK;clear hK;refine VD (fun h=>?_) (fun h=>?_)
 ·
  refine Ab ?_;refine VB ?_;obtain ⟨i1,hi1⟩:∃ i1:Nat,d[k - 1]! = i1:=⟨(d[k - 1]!).toNat,by have:=hin (k - 1) (by omega);omega⟩;obtain ⟨i2,hi2⟩:∃ i2:Nat,d[k]! = i2:=⟨(d[k]!).toNat,by have:=hin k (by omega);omega⟩;have hb1:=hin (k - 1) (by omega);have hb2:=hin k (by omega);have hne:i1≠i2:=fun e=>by have:=hinj (k - 1) k (by omega) (by omega) (by rw [hi1,hi2,e]);omega
  have hrs:Fw rk by_ d.toList k=Fw rk by_ d.toList (k - 1)+if Lw rk by_ i1 i2 then 0 else 1:=by
   obtain ⟨j,rfl⟩:∃ j,k=j+1:=⟨k - 1,by omega⟩;rw [Xq] at *;rw [Fw,Lf,Lf,hi1,hi2]
  have hkeq:Lw rk by_ i1 i2=(decide (rk.getD i1 0=rk.getD i2 0) && decide (rk.getD ((i1+by_) % rk.length) 0=rk.getD ((i2+by_) % rk.length) 0)):=by
   simp only [Lw,Ij,Kd,Ym];rfl
  refine VH _ (Ext.refl _) [1,2,3,5,6,7,8] [(0,true),(1,true),(2,true),(3,true),(4,true),(5,true),(6,false),(7,true),(8,true),(9,true),(10,true),(11,true)] fun K hK=>?_;refine ⟨[.slice (some ⟨gr,0,none⟩) rk.length cr,.int .i64 by_],⟨rfl,B6 (hH.at 1 rfl)⟩,_,Aj (hH.at 5 rfl) rfl,Y4 (by omega) (by omega),?_⟩;refine Qs ?_;refine ⟨⟨by omega,by omega⟩,_,B1 (hH.at 2 rfl) (by omega),?_⟩;rw [hi1];refine Ac Um ?_;refine Qs ?_;refine Yk (Z0 rk ⟨gr,0,none⟩ cr by_ i1 (by omega) hby (by omega) w3 (Az (hH.at 3 rfl))) ?_;rintro v w4 ⟨hH2,rfl⟩;have hH3:=hH.call0 hH2;simp only [Yl] at hH3;clear hH;refine ⟨hH2.ext,?_⟩;apply hK;clear hK;simp only [Xm,Xd,Xe];clear hH2;refine VH _ (Ext.refl _) [1,2,3,5,6,7,8,9,10] [(0,true),(1,true),(2,true),(3,true),(4,true),(5,false),(6,true),(7,true),(8,true),(9,true),(10,true)] fun K hK=>?_;refine ⟨[.slice (some ⟨gr,0,none⟩) rk.length cr,.int .i64 by_],⟨rfl,B6 (hH3.at 1 rfl)⟩,_,Aj (hH3.at 5 rfl) rfl,?_⟩;refine Qs ?_;refine ⟨⟨by omega,by omega⟩,_,B1 (hH3.at 2 rfl) (by omega),?_⟩;rw [hi2];refine Ac Um ?_;refine Qs ?_;refine Yk (Z0 rk ⟨gr,0,none⟩ cr by_ i2 (by omega) hby (by omega) w4 (Az (hH3.at 3 rfl))) ?_;rintro v w5 ⟨hH4,rfl⟩;have hH:=hH3.call0 hH4;simp only [Yl] at hH;clear hH3;refine ⟨hH4.ext,?_⟩;apply hK;clear hK;simp only [Xm,Xd,Xe];clear hH4;generalize rk.getD i1 0=ka at *;generalize rk.getD i2 0=kb at *;generalize rk.getD ((i1+by_) % rk.length) 0=kc at *;generalize rk.getD ((i2+by_) % rk.length) 0=kd at *;refine VL [1,2,3,5,6,7,8,9,10] 14 fun K hK=>?_;refine ⟨_,Aj (hH.at 5 rfl) rfl,?_⟩;refine Qs ?_;refine ⟨⟨by omega,by omega⟩,_,B1 (hH.at 2 rfl) (by omega),_,Aj (hH.at 5 rfl) rfl,Y4 (by omega) (by omega),?_⟩;refine Qs ?_;refine ⟨⟨by omega,by omega⟩,_,B1 (hH.at 2 rfl) (by omega),?_⟩;rw [hi1,hi2];refine Qs ?_;refine ⟨⟨by omega,by omega⟩,_,B1 (hH.at 0 rfl) (by omega),⟨by omega,by omega⟩,?_⟩;refine Af ?_;refine Qs ?_;refine C1 hH 0 (o:=(i2)) rfl (by first | rfl | (simp;done) | (congr 1;omega)) (by first | omega | (simp;omega)) fun w6 hS1=>?_;simp only [Yd] at hS1;(try refine Qs ?_);have hr1:=hnx (k - 1) (by omega);rw [hi1,Ym] at hr1;have hr2:=Qlz rk by_ d.toList (k - 1);have hs1:(nx.setIfInBounds i2 nx[i1]!).size=d.size:=by simp [hs]
  have hnx1:∀ p,p < k->(nx.setIfInBounds i2 nx[i1]!)[(d[p]!).toNat]! = Fw rk by_ d.toList p:=fun p hp2=>by
   rw [Oy _ _ _ (by omega),if_neg,hnx p hp2];intro e;have h1:=hin p (by omega);have:=hinj p k (by omega) (by omega) (by omega);omega
  have hk0:(nx.setIfInBounds i2 nx[i1]!)[i2]! = Fw rk by_ d.toList (k - 1):=by rw [Oy _ _ _ (by omega),if_pos rfl,hr1]
  clear hnx hr1 hH hs;generalize nx.setIfInBounds i2 nx[i1]! = nx1 at *;apply hK;clear hK;refine VQ [1,2,3,5,6,58] fun K hK=>?_
  suffices hall:∀ bb:Bool,Lw rk by_ i1 i2=! bb->K [(1,D6 gn),(2,D6 gs),(3,D6 gb),(5,.slice (some ⟨gx,0,none⟩) d.size d.size),(6,.int .i64 k),(58,.bool bb)] w6 by
   refine ⟨fun h=>hall _ ?_,fun h=>hall _ ?_⟩
   ·
    rw [hkeq];simp only [Decidable.not_not] at h;simp [h]
   rw [hkeq];simp [h]
  intro bb hbb;rw [hbb] at hrs;clear hbb hkeq;apply hK;clear hK;refine Vi (fun h=>?_) (fun h=>?_)
  ·
   subst h;simp only [Bool.not_true,U7,if_false] at hrs;refine VQ [1,2,3,5,6] fun K hK=>?_;refine ⟨_,Aj (hS1.at 5 rfl) rfl,?_⟩;refine Qs ?_;refine ⟨⟨by omega,by omega⟩,_,B1 (hS1.at 2 rfl) (by omega),?_⟩;rw [hi2];refine Qs ?_;refine ⟨⟨by omega,by omega⟩,_,B1 (hS1.at 0 rfl) (by omega),?_⟩;rw [hk0];refine Qs ?_;refine ⟨Y4 (by omega) (by omega),⟨by omega,by omega⟩,?_⟩;refine Af ?_;refine Qs ?_;refine C1 hS1 0 (o:=(i2)) rfl (by first | rfl | (simp;done) | (congr 1;omega)) (by first | omega | (simp;omega)) fun w6 hS2=>?_;simp only [Yd] at hS2;(try refine Qs ?_);apply hK;clear hK;refine Ao ?_;refine VS [1,2,3,5,6] ?_;refine Ah ?_;refine Qs ?_;refine ⟨d.size - (k+1),by omega,k+1,_,rfl,hS2,by simp [hs1],by omega,by omega,fun p hp2=>?_,rfl⟩;rw [Oy _ _ _ (by omega)];by_cases hpk:p=k
   ·
    subst hpk;rw [hi2,Ym,if_pos rfl,hrs];omega
   rw [if_neg,hnx1 p (by omega)];intro e;have h1:=hin p (by omega);have:=hinj p k (by omega) (by omega) (by omega);omega
  subst h;simp only [Bool.not_false,if_true,Up] at hrs;refine Ab ?_;refine Ao ?_;refine VS [1,2,3,5,6] ?_;refine Ah ?_;refine Qs ?_;refine ⟨d.size - (k+1),by omega,k+1,nx1,rfl,hS1,hs1,by omega,by omega,fun p hp2=>?_,rfl⟩;by_cases hpk:p=k
  ·
   subst hpk;rw [hi2,Ym,hk0,hrs]
  exact hnx1 p (by omega)
 obtain rfl:k=d.size:=by omega
 refine As rfl ?_;refine VS [4] ?_;refine Ad (A0 rfl rfl ?_);refine ⟨gx,nx,hs,hnx,?_,by rw [sl,hs]⟩;have h5:Heap w0 B w3 (Aw gx d.size nx::Aw go co d::Oa gr cr rk::Yj gn 3 [.int .i64 d.size]::Yj gs 114 [sl go co d]::G):=hH.sub (by simp);rw [Aw,hs] at h5;rw [Oa,show nx.toList.length=d.size by simpa using hs];exact h5
abbrev QE4 (g n:Nat):Res:=Aw g n (Array.replicate n 0)
abbrev Ml (g n:Nat):Value:=.slice (some ⟨g,0,none⟩) n n
theorem Qtl {P:Program}{N:Nat}{ops:List Oper}{w0:World}{e:Env}{w:World}{K:Env->World->Prop}:Ap P N ops w0 [] e w K=K e w:=rfl
set_option maxHeartbeats 4000000 in
theorem Qrn (l:List UInt8) (hl:l.length<=100000000) (w:World):Does Yg 97 #[Aa l] w
  fun v w'=>∃ (go:Nat) (σ:List Nat),Ordered l σ/\Heap w [] w' [Yr 3 1 (some ⟨go,0,none⟩) l.length l.length (Bb (σ.map fun i:Nat=>(i:Int)))]/\v=.slice (some ⟨go,0,none⟩) l.length l.length:=by
 refine En [Aa l] 57 Tryz.func97 ?_;generalize hn:l.length=n at *;refine VS [0] ?_;refine VQ [0,3] fun K hK=>?_;refine A7 (.int .i64 0) (by kernel_rfl) ?_;refine Qs ?_;have hH0:=(Yz w).box 3 [.int .i64 0];generalize w.alloc (Yq [Y5 .i64 0].toArray 3)=w1 at *;generalize w.heap.size=gn at *;rw [hn];refine Af ?_;refine Qs ?_;refine Al hH0 0 (vs:=[.int .i64 n]) rfl rfl (by kernel_rfl) (by first | decide | (simp;done) | (simp;omega)) (by simp [Yo]) fun w6 hH=>?_;(try refine Qs ?_);apply hK;clear hK;clear hH0;generalize w6=w1 at *;refine V3 w1 (Ext.refl _) [0,3,4,5] (.three [(0,true),(2,true)] 1 3 4 (.two [] 3 4 (.seq [(4,false),(5,false),(6,true)]) (.two [] 3 5 (.seq [(5,false),(6,true)]) (.seq [(3,false),(6,true)]))) (.two [] 1 4 (.seq [(4,false),(5,false),(6,true)]) (.seq [(1,false),(5,false),(6,true)])) (.two [] 1 3 (.two [] 3 5 (.seq [(5,false),(6,true)]) (.seq [(3,false),(6,true)])) (.seq [(1,false),(5,false),(6,true)]))) fun K hK=>?_
 suffices out:∀ go gf gs w2,Heap w1 [] w2 [QE4 go n,QE4 gf n,Yj gs 114 [Ml go n]]->K [(0,Aa l),(3,D6 gn),(4,D6 gs),(5,Ml gf n)] w2 by
  simp only [Np,Be,List.filterMap_cons,List.filterMap_nil,List.getElem?_cons_succ,List.getElem?_cons_zero,Option.map_some];refine Qs ?_;refine ⟨_,Aj (hH.at 0 rfl) rfl,_,Aj (hH.at 0 rfl) rfl,?_⟩;have hX:=Yz w1
  repeat' (first
   | (refine Ew Ye E0 ?_;refine Qs ?_;refine ⟨n,n,⟨rfl,rfl,by omega,by omega,by omega⟩,?_⟩;have hX:=Qsx hX n (by omega);skip;refine ⟨hX.ext,?_⟩;skip)
   | (refine A7 (.slice none 0 0) (by kernel_rfl) ?_;refine Qs ?_;have hX:=hX.box 114 [.slice none 0 0];skip;refine ⟨hX.ext,?_⟩;skip)
   | (refine Af ?_;refine Qs ?_;first
     | (refine Al hX 0 (vs:=[_]) rfl rfl (by kernel_rfl) (by first | decide | (simp;done)) (by simp [Yo]) fun w6 hX=>?_;simp only [Yd,Yh] at hX;skip;refine ⟨hX.ext,?_⟩;skip)
     | (refine Al hX 1 (vs:=[_]) rfl rfl (by kernel_rfl) (by first | decide | (simp;done)) (by simp [Yo]) fun w6 hX=>?_;simp only [Yd,Yh] at hX;skip;refine ⟨hX.ext,?_⟩;skip)
     | (refine Al hX 2 (vs:=[_]) rfl rfl (by kernel_rfl) (by first | decide | (simp;done)) (by simp [Yo]) fun w6 hX=>?_;simp only [Yd,Yh] at hX;skip;refine ⟨hX.ext,?_⟩;skip))
   | (simp only [Qtl];skip)
   | refine And.intro ?_ ?_)
  all_goals first
   | exact out _ _ _ _ hX
   | exact out _ _ _ _ (hX.front 1 rfl)
   | exact out _ _ _ _ (hX.front 2 rfl)
   | exact out _ _ _ _ ((hX.front 1 rfl).front 2 rfl)
   | exact out _ _ _ _ ((hX.front 2 rfl).front 2 rfl)
   | exact out _ _ _ _ ((hX.front 2 rfl).front 1 rfl)
 intro go gf gs w2 hX;have hH2:=hH.call0 hX;simp only [Yd,Y6,Yl] at hH2;have hG:Heap w [] w2 [QE4 go n,QE4 gf n,Yj gs 114 [Ml go n],Yj gn 3 [.int .i64 n]]:=hH2;clear hX hH hH2;apply hK;clear hK;refine VQ [0,3,4,5,16,17] fun K hK=>?_;refine ⟨_,Aj (hG.at 3 rfl) rfl,?_⟩;apply hK;clear hK;refine Ar ?_;refine Au [0,3,4,5,16,17] (fun m e w'=>∃ (i:Nat) (D F:Array Int),Is e [(0,Aa l),(3,D6 gn),(4,D6 gs),(5,Ml gf n),(16,.int .i64 n),(17,.int .i64 i)]/\Heap w [] w' [Aw go n D,Aw gf n F,Yj gs 114 [Ml go n],Yj gn 3 [.int .i64 n]]/\D.size=n/\F.size=n/\i<=n/\(∀ p,p < i->D[p]! = p/\F[p]! = (l.getD p 0).toNat)/\m=n - i) n ?_ ?_
 ·
  refine Qs ?_;exact ⟨0,_,_,rfl,hG,by simp,by simp,by omega,fun p hp=>by omega,rfl⟩
 clear hG;rintro m e w3 ⟨i,D,F,rfl,hH,hD,hF,hi,hDF,hm⟩;refine VS [0,3,4,5,16,17,18] ?_;(repeat refine Ay ?_);refine VD (fun h=>?_) (fun h=>?_)
 ·
  refine Ab ?_;refine VB ?_;refine VS [0,3,4,5,6,16,17] ?_;refine Vb [0,3,4,5,16,17] [(1,0),(2,0),(3,0),(4,0),(5,0),(6,0),(7,0),(8,0),(0,1),(9,0),(10,2),(11,0),(12,2)] fun K hK=>?_;rw [hn];have hb:=(l.getD i 0).toNat_lt;refine ⟨⟨by omega,by omega⟩,Y4 (by omega) (by omega),_,Aj (hH.at 2 rfl) rfl,?_⟩;refine Qs ?_;refine Qo ?_;refine Af ?_;refine Qs ?_;refine C1 hH 0 (o:=(i)) rfl (by first | rfl | (simp;done) | (congr 1;omega)) (by first | omega | (simp;omega)) fun w6 hS1=>?_;simp only [Yd] at hS1;(try refine Qs ?_);refine Qo ?_;refine Af ?_;refine Qs ?_;refine C1 hS1 1 (o:=i) rfl rfl (by omega) fun w7 hS2=>?_;simp only [Yh,Yd] at hS2;apply hK;clear hK;refine Ao ?_;refine VS [0,3,4,5,16,17] ?_;refine Ah ?_;refine Qs ?_;refine ⟨n - (i+1),by omega,i+1,_,_,rfl,hS2,by simp [hD],by simp [hF],by omega,fun p hp=>?_,rfl⟩;rw [Oy _ _ _ (by omega),Oy _ _ _ (by omega)];by_cases hpi:p=i
  ·
   subst hpi;simp
  rw [if_neg hpi,if_neg hpi];exact hDF p (by omega)
 obtain rfl:i=n:=by omega
 refine As rfl ?_
 have hDl:D.toList=F3 i:=by
  apply Xh
  ·
   simp [F3,hD]
  intro p h1 h2;have h3:=(hDF p (by simpa [hD] using h1)).1;rw [Wt (by simpa using h1)] at h3;rw [h3];simp [F3]
 have hFl:∀ p,p < i->F.toList.getD p 0=(l.getD p 0).toNat:=fun p hp=>by rw [Lf];exact (hDF p hp).2
 have hFn:F.toList.length=l.length:=by rw [hn];simpa using hF
 clear hDF;refine VQ [3,4,5,33] fun K hK=>?_;refine ⟨_,Aj (hH.at 3 rfl) rfl,?_⟩;refine Qs ?_;apply hK;clear hK;refine VD (fun h=>?_) (fun h=>?_)
 ·
  obtain rfl:i=0:=by omega
  obtain rfl:l=[]:=Xa hn;refine VQ [2] fun K hK=>?_;refine ⟨_,Aj (hH.at 2 rfl) rfl,?_⟩;apply hK;clear hK;refine Ad (A0 rfl rfl ?_);refine ⟨go,[],⟨by simp,.nil⟩,?_,rfl⟩;have h5:Heap w [] w3 [Aw go 0 D]:=hH.sub (by simp);rw [Aw,hD,hDl] at h5;exact h5
 have hn0:0 < i:=by omega
 generalize i=n at *;refine Ab ?_;refine VS [3,4,5,7] ?_
 have hrk0:Ranks l F.toList 1:=by
  refine ⟨hFn,fun p q hp hq=>?_⟩;rw [hFl p (by omega),hFl q (by omega)];have h1:∀ r,r < l.length->pre l 1 r=[l.getD r 0]:=fun r hr=>by simp [pre,Xr,Xw hr]
  rw [h1 p hp,h1 q hq];simp only [Fh];by_cases e:l.getD p 0=l.getD q 0
  ·
   rw [if_pos e,e];simp
  rw [if_neg e,decide_eq_true_eq];have:(l.getD p 0).toNat≠(l.getD q 0).toNat:=fun h'=>e (Uc.1 h');omega
 have hok0:O2 F.toList:=by
  intro r hr;obtain ⟨p,hp,rfl⟩:=X0 hr;have h1:=hFl p (by rw [hFn,hn] at hp;exact hp);rw [Yb,Ya hp,Y9] at h1;have:=(l.getD p 0).toNat_lt;omega
 refine VQ [3,4,7,8] fun K hK=>?_;refine A7 (.agg #[.slice none 0 0,.int .i64 0]) (by kernel_rfl) ?_;refine Qs ?_;have hH1:=hH.box 196 [.slice none 0 0,.int .i64 0];generalize w3.alloc (Yq [Xt none 0 0,.int .i64 0].toArray 196)=w4 at *;generalize w3.heap.size=gr at *;refine Af ?_;refine Qs ?_;refine Al hH1 0 (vs:=[.slice (some ⟨gf,0,none⟩) n n,.int .i64 0]) rfl rfl (by kernel_rfl) (by first | decide | (simp;done) | (simp;omega)) (by simp [Yo]) fun w6 hH2=>?_;(try refine Qs ?_)
 have hH3:Heap w [] w6 (Aw go n D::Oa gf n F.toList::Yj gn 3 [.int .i64 n]::Yj gs 114 [Ml go n]::[Yj gr 196 [.slice (some ⟨gf,0,none⟩) F.toList.length n,.int .i64 (0:Nat)]]):=by
  rw [show F.toList.length=n by rw [hFn,hn]];have h7:=(((hH2.front 3 rfl).front 4 rfl).front 4 rfl).front 4 rfl;rw [Oa,show F.toList.length=n by rw [hFn,hn]];simp only [Aw,hF,List.eraseIdx_cons_succ,List.eraseIdx_cons_zero] at h7;simp only [Aw];exact h7
 clear hH hH1 hH2;apply hK;clear hK;refine VS [3,4,7,8,9] ?_;refine Ar ?_;refine Au [3,4,7,8,9] (fun m e w'=>∃ (b by_ gk ck:Nat) (rk:List Int) (D:Array Int),Is e [(3,D6 gn),(4,D6 gs),(7,.func (.func 135) #[] #[D6 gn,D6 gs]),(8,D6 gr),(9,.int .i64 b)]/\Heap w [] w' (Aw go n D::Oa gk ck rk::Yj gn 3 [.int .i64 n]::Yj gs 114 [Ml go n]::[Yj gr 196 [.slice (some ⟨gk,0,none⟩) rk.length ck,.int .i64 by_]])/\D.size=n/\D.toList.Perm (F3 n)/\LeK l rk by_ b/\O2 rk/\rk.length=n/\1<=b/\b<=2 * n/\by_<=b/\m=2 * n - b) (2 * n - 1) ?_ ?_
 ·
  refine Qs ?_;exact ⟨1,0,gf,n,F.toList,D,rfl,hH3,hD,by rw [hDl],LeK.first hrk0,hok0,by rw [hFn,hn],by omega,by omega,by omega,rfl⟩
 clear hH3 hrk0 hok0 hFl hFn hDl hD hF;rintro m e w4 ⟨b,by_,gk,ck,rk,D1,rfl,hH,hD1,hp1,hk1,hok1,hrl1,hb1,hb2,hby,hm⟩;refine VB ?_
 have hQ1:AllQ (Wq rk) D1:=fun k hk=>by
  have h1:=Ql1 hp1 (p:=k) (by simpa using hk);rw [Lf] at h1;exact ⟨h1.1,by rw [hrl1];exact h1.2⟩
 refine VQ [3,4,7,8,9] fun K hK=>?_;refine ⟨_,Aj (hH.at 3 rfl) rfl,[.slice (some ⟨gk,0,none⟩) rk.length ck,.int .i64 by_],⟨rfl,B6 (hH.at 4 rfl)⟩,?_⟩;have hc:=Qbr (Qo6 rk hok1 gk ck by_ (by omega) (by omega)) (Qo7 rk by_) go n D1 (by omega) hQ1 w w4 [] _ hH;rw [sl,hD1] at hc;refine Ac Tryz.call137 ?_;refine Qs ?_;refine Yk hc ?_;clear hc hH;rintro v w5 ⟨D2,hsrt,hD2,hQ2,hH,rfl⟩;have hp2:=hsrt.1.trans hp1;have hrow:=Qyq hsrt.2;apply hK;clear hK;refine VQ [3,4,7,8,9] fun K hK=>?_;refine ⟨[.slice (some ⟨gk,0,none⟩) rk.length ck,.int .i64 by_],⟨rfl,B6 (hH.at 4 rfl)⟩,?_⟩;have hc:=Qrm rk gk ck by_ go n gn gs D2 hok1 (by omega) (by omega) (by omega) (by omega) (by rw [hD2];exact hp2) w w5 [] _ (by rw [sl,hD2];exact hH);rw [hD2] at hc;refine Ce ?_;refine Qs ?_;refine Gi Tryz.call135 hc ?_;clear hc hH;rintro v w6 ⟨gx,nx,hnx,hrs,hH,rfl⟩
 have hrk2:Ranks l nx.toList b:=Qrl hk1 (by rw [hn];exact hp2) hrow (by rw [hn];simpa using hnx) fun p hp=>by
  rw [Lf,Lf];exact hrs p (by omega)
 have hok2:O2 nx.toList:=Qnk (s:=l) (rk:=rk) (by_:=by_) (L:=D2.toList) (by rw [hn];exact hp2) (by rw [hn];simpa using hnx) (by omega) fun p hp=>by
  rw [Lf,Lf];exact hrs p (by omega)
 have hnl:nx.toList.length=n:=by simpa using hnx
 simp only [sl,hnx,hD2] at hH ⊢;refine Qs ?_;refine Af ?_;refine Qs ?_;refine Al hH 5 (vs:=[.slice (some ⟨gx,0,none⟩) n n,.int .i64 b]) rfl rfl (by kernel_rfl) (by first | decide | (simp;done) | (simp;omega)) (by simp [Yo]) fun w6 hH2=>?_;(try refine Qs ?_);simp only [Yh,Yd] at hH2
 have hH3:Heap w [] w6 (Aw go n D2::Oa gx n nx.toList::Yj gn 3 [.int .i64 n]::Yj gs 114 [Ml go n]::[Yj gr 196 [.slice (some ⟨gx,0,none⟩) nx.toList.length n,.int .i64 b]]):=by
  rw [show nx.toList.length=n from hnl];exact (hH2.front 1 rfl).sub (by simp)
 clear hH hH2;apply hK;clear hK;have hk2:LeK l nx.toList b (b+b):=LeK.double hrk2;refine VQ [3,4,7,8,9,51] fun K hK=>?_;refine ⟨_,Aj (hH3.at 2 rfl) rfl,?_⟩;refine Qs ?_;apply hK;clear hK;refine VD (fun h=>?_) (fun h=>?_)
 ·
  have hQ3:AllQ (Wq nx.toList) D2:=fun k hk=>by
   have h1:=Ql1 hp2 (p:=k) (by simpa using hk);rw [Lf] at h1;exact ⟨h1.1,by rw [hnl];exact h1.2⟩
  refine VQ [4] fun K hK=>?_;refine ⟨_,Aj (hH3.at 3 rfl) rfl,[.slice (some ⟨gx,0,none⟩) nx.toList.length n,.int .i64 b],⟨rfl,B6 (hH3.at 4 rfl)⟩,?_⟩;have hc:=Qbr (Qo6 nx.toList hok2 gx n b (by omega) (by omega)) (Qo7 nx.toList b) go n D2 (by omega) hQ3 w w6 [] _ hH3;rw [sl,hD2] at hc;refine Ac Tryz.call137 ?_;refine Qs ?_;refine Yk hc ?_;clear hc hH3;rintro v w7 ⟨D3,hsrt3,hD3,hQ3',hH,rfl⟩;have hp3:=hsrt3.1.trans hp2;apply hK;clear hK;refine VQ [2] fun K hK=>?_;refine ⟨_,Aj (hH.at 3 rfl) rfl,?_⟩;apply hK;clear hK;refine Ad (A0 rfl rfl ?_);have ho:=Qnl hk2 (by omega) (by rw [hn];exact hp3) hsrt3.2;refine ⟨go,D3.toList.map Uf,ho,?_,rfl⟩
  have e:(D3.toList.map Uf).map (fun i:Nat=>(i:Int))=D3.toList:=by
   rw [Uo]
   conv=>rhs;rw [<- List.map_id D3.toList]
   apply Xz;intro x hx;have:=hp3.mem_iff.1 hx;simp only [F3,Xu,Y3] at this;obtain ⟨i,_,rfl⟩:=this;simp
  rw [e];have h5:Heap w [] w7 [Aw go n D3]:=hH.sub (by simp);rw [Aw,show D3.size=n by omega] at h5;exact h5
 refine Ab ?_;refine Ao ?_;refine VS [3,4,7,8,9] ?_;refine Ah ?_;refine Qs ?_;refine ⟨2 * n - (b+b),by omega,b+b,b,gx,n,nx.toList,D2,by rw [show ((b:Int) * 2)=((b+b:Nat):Int) by omega];rfl,hH3,by omega,hp2,hk2,hok2,hnl,by omega,by omega,by omega,rfl⟩
def We (l:List UInt8) (v:Value):Prop :=
 if l=[] then v=.tuple #[Aa [],.int .i64 0,.int .i64 2]
 else if 262144 < l.length then v=.tuple #[Aa [],.int .i64 0,.int .i64 3]
 else ∃ σ,Ordered l σ/\v=.tuple #[Aa (B4 l σ),.int .i64 (σ.idxOf 0:Nat),.int .i64 0]
theorem Qla (l:List UInt8) (hl:l.length<=1000000000000) (w:World):Does Yg 58 #[Aa l] w fun v w'=>Heap w [] w' []/\We l v:=by
 refine En [Aa l] 41 Tryz.func58 ?_;refine VS [0] ?_;refine VS [0,10] ?_;refine VD (fun h=>?_) (fun h=>?_)
 ·
  refine VS [2,3,4] ?_;exact Ad (Dd rfl rfl rfl rfl ⟨Yz w,by rw [We,if_pos h]⟩)
 have hne:=h;refine Ab ?_;refine VS [0,13] ?_;refine VD (fun h=>?_) (fun h=>?_)
 ·
  refine VS [2,3,4] ?_;exact Ad (Dd rfl rfl rfl rfl ⟨Yz w,by rw [We,if_neg hne,if_pos (by omega)]⟩)
 have hle:l.length<=262144:=by omega
 have hn0:0 < l.length:=Ue.2 hne;clear h;generalize hn:l.length=n at *;refine Ab ?_;refine VQ [0,5,6] fun K hK=>?_;rw [hn];refine Ew Ys Iz ?_;refine Qs ?_;refine ⟨n,n,⟨rfl,rfl,by omega,by omega,by omega⟩,?_⟩;have hH0:=(Yz w).row 5 (n:=n) (cap:=n) (sz:=1) (Yc n (.int .u8 0)) [] (by simp) (by simp) (by omega) (by omega);rw [Yu,show Yc n (Y5 .u8 0)=An (Yc n 0) by simp [An]] at hH0;rw [show Yc n (Y5 .u8 0)=An (Yc n 0) by simp [An]];generalize w.alloc (Yq (An (Yc n 0)).toArray 5)=w1 at *;generalize w.heap.size=gb at *;apply hK;clear hK;refine VQ [0,5,6,18,19,20] fun K hK=>?_;have hc:=Qrn l (by omega) w1;rw [hn] at hc;refine Ac Tryz.call97 ?_;refine Qs ?_;refine Yk hc ?_;clear hc;rintro v w2 ⟨go,σ,hσ,hX,rfl⟩;have hH1:=hH0.call0 hX;simp only [Y6,Yl] at hH1;have hσl:σ.length=n:=by rw [hσ.perm.length_eq,Yw,hn]
 have hσb:∀ p,p < n->σ.getD p 0 < n:=fun p hp=>by
  have h1:σ.getD p 0∈σ:=Dm 0 (by omega);have:=hσ.perm.mem_iff.1 h1;rw [Y3,hn] at this;exact this
 have hnd:σ.Nodup:=by rw [hσ.perm.nodup_iff];exact Xn
 have h0σ:0∈σ:=hσ.perm.mem_iff.2 (by rw [Y3];omega);have hcl:(B4 l σ).length=n:=by simp [B4,hσl]
 have hcg:∀ p,p < n->(B4 l σ).getD p 0=l.getD (D4 n (σ.getD p 0)) 0:=fun p hp=>by
  simp only [B4,Yb,Y8,hn];rw [Ya (by omega)];simp
 refine Qs ?_;apply hK;clear hK;refine Ar ?_;refine Au [0,5,6,18,19,20] (fun m e w'=>∃ (k r:Nat) (o:List UInt8),Is e [(0,Aa l),(5,.slice (some ⟨gb,0,none⟩) n n),(6,.int .i64 r),(18,.slice (some ⟨go,0,none⟩) n n),(19,.int .i64 n),(20,.int .i64 k)]/\Heap w [] w' [Yr 3 1 (some ⟨go,0,none⟩) n n (Bb (σ.map fun i:Nat=>(i:Int))),Yr 5 1 (some ⟨gb,0,none⟩) n n (An o)]/\o.length=n/\k<=n/\o.take k=(B4 l σ).take k/\(0∈σ.take k->r=σ.idxOf 0)/\m=n - k) n ?_ ?_
 ·
  refine Qs ?_;exact ⟨0,0,_,rfl,hH1,by simp,by omega,by simp,by simp,rfl⟩
 clear hH0 hX hH1;rintro m e w3 ⟨k,r,o,rfl,hH,hol,hk,ho,hr,hm⟩;refine VS [0,5,6,18,19,20,21] ?_;(repeat refine Ay ?_);refine VD (fun h=>?_) (fun h=>?_)
 ·
  have hkn:k < n:=by omega
  have hsk:=hσb k hkn
  have hgk:(σ.map fun i:Nat=>(i:Int)).getD k 0=((σ.getD k 0:Nat):Int):=by
   simp only [Yb,Y8];rw [Ya (by omega)];simp
  refine Ab ?_;refine VB ?_;refine VQ [0,5,6,7,8,18,19,20] fun K hK=>?_;refine And.intro ⟨by omega,by omega⟩ ⟨_,Cm (hH.at 0 rfl) (L1 (by simp;omega)),?_⟩;rw [hgk];apply hK;clear hK;refine VS [0,5,6,7,8,18,19,20,26] ?_
  have htk:σ.take (k+1)=σ.take k++[σ.getD k 0]:=by
   rw [Xb,Ya (by omega),Yb,Ya (by omega)];rfl
  refine C8 [0,5,6,7,8,18,19,20] (fun e w'=>∃ (r':Nat),Is e [(0,Aa l),(5,.slice (some ⟨gb,0,none⟩) n n),(6,.int .i64 r'),(7,.int .i64 k),(8,.int .i64 (D4 n (σ.getD k 0)+1:Nat)),(18,.slice (some ⟨go,0,none⟩) n n),(19,.int .i64 n),(20,.int .i64 k)]/\Is w' w3/\(0∈σ.take (k+1)->r'=σ.idxOf 0)) ?_ ?_
  ·
   refine VD (fun h=>?_) (fun h=>?_)
   ·
    have hz:σ.getD k 0=0:=by omega
    refine VS [0,5,6,7,18,19,20] ?_;refine VQ [0,5,6,7,8,18,19,20] fun K hK=>?_;rw [hn];apply hK;clear hK;refine Ah ?_;refine Qs ?_;refine ⟨k,by rw [hz,show D4 n 0+1=n by unfold D4;rw [if_pos rfl];omega];rfl,rfl,fun _=>?_⟩;have h1:=hnd.idxOf_getElem k (by omega);rw [Yb,Ya (by omega),Y9] at hz;rw [hz] at h1;exact h1.symm
   have hz:σ.getD k 0≠0:=by omega
   refine Ab ?_;refine Ah ?_;refine Qs ?_;refine ⟨r,by rw [show D4 n (σ.getD k 0)+1=σ.getD k 0 by unfold D4;rw [if_neg hz];omega];rfl,rfl,fun h2=>hr ?_⟩;rw [htk,Xs] at h2;rcases h2 with h2 | h2
   ·
    exact h2
   exact absurd (List.mem_singleton.1 h2).symm hz
  rintro e w4 ⟨r',rfl,rfl,hr'⟩;have hah:D4 n (σ.getD k 0) < n:=by unfold D4;split <;> omega
  have hcgk:=hcg k hkn;generalize D4 n (σ.getD k 0)=at_ at *;refine VQ [0,5,6,18,19,20] fun K hK=>?_;rw [hn,show ((at_+1:Nat):Int) - 1=(at_:Int) by omega];rw [Xq];refine ⟨Y4 (by omega) (by omega),⟨by omega,by omega⟩,⟨by omega,by omega⟩,?_⟩;refine Af ?_;refine Qs ?_;refine Eg hH 1 (o:=(k)) (vs:=[.int .u8 (l.getD at_ 0).toNat]) rfl (by first | exact (Bz _ _ _).symm | rfl | simp [Bz]) rfl (by kernel_rfl) (by first | omega | (simp;done) | (simp;omega) | (simp [An,Bb];omega) | (rw [natsV_len];simp;omega)) (by simp [Yo]) fun w6 hH2=>?_;(try refine Qs ?_);simp only [Yy,De (An o) _ _ (show k < (An o).length by rw [Pt];omega),Tx,Yd,Yh] at hH2;apply hK;clear hK;refine Ao ?_;refine VS [0,5,6,18,19,20] ?_;refine Ah ?_;refine Qs ?_;refine ⟨n - (k+1),by omega,k+1,r',o.set k (l.getD at_ 0),rfl,hH2,by simp [hol],by omega,?_,hr',rfl⟩
  have e1:(o.set k (l.getD at_ 0)).take (k+1)=o.take k++[l.getD at_ 0]:=by
   rw [Xb,Uq (by omega),U5 (by omega)];rfl
  have e2:(B4 l σ).take (k+1)=(B4 l σ).take k++[(B4 l σ).getD k 0]:=by
   rw [Xb,Ya (by omega),Yb,Ya (by omega)];rfl
  rw [e1,e2,ho,hcgk]
 obtain rfl:k=n:=by omega
 refine As rfl ?_;rw [Yp (by omega),Yp (by omega)] at ho;subst ho;have hr2:=hr (by rw [Yp (by omega)];exact h0σ);subst hr2;refine VQ [2,3,4] fun K hK=>?_;refine ⟨B4 l σ,Kz (by rw [<- hcl] at hH ⊢;exact Az (hH.at 1 rfl)),?_⟩;apply hK;clear hK;refine Ad (Dd rfl rfl rfl rfl ?_);refine ⟨hH.sub (by simp),?_⟩;rw [We,if_neg hne,if_neg (by omega)];exact ⟨σ,hσ,rfl⟩
def Kx (L:List UInt8) (b k:Nat):Nat:=((Yf k).filter fun i=>(L.getD i 0).toNat == b).length
def K4 (L:List UInt8):Nat->Nat
 | 0=>0
 | b+1=>K4 L b+Kx L b L.length
def M5 (L:List UInt8) (i:Nat):Nat:=K4 L (L.getD i 0).toNat+Kx L (L.getD i 0).toNat i
theorem Qjs (L:List UInt8) (b k:Nat):Kx L b (k+1)=Kx L b k+if (L.getD k 0).toNat=b then 1 else 0:=by
 unfold Kx;rw [Xr,Xj,Yi];by_cases h:(L.getD k 0).toNat=b
 ·
  rw [Y7 (by rw [beq_iff_eq];exact h),if_pos h];rfl
 rw [Xc (by rw [beq_iff_eq];exact h),if_neg h];rfl
theorem Ql2 (L:List UInt8) (b k:Nat):Kx L b k<=k:=by
 unfold Kx;exact Gd (Uy _ _) (by simp)
theorem Qpc (L:List UInt8) (b:Nat):((Yf b).flatMap fun b=>(Yf L.length).filter fun i=>(L.getD i 0).toNat == b).length=K4 L b:=by
 induction b with
 | zero=>rfl
 | succ b ih=>rw [Xr,U6,Yi,ih];simp [K4,Kx]
theorem Tm (L:List UInt8) (i:Nat) (hi:i < L.length):(C5 L)[M5 L i]? = some i:=by
 have hb:=(L.getD i 0).toNat_lt;obtain ⟨k,hk⟩:∃ k,256=(L.getD i 0).toNat+(k+1):=⟨256 - (L.getD i 0).toNat - 1,by omega⟩;obtain ⟨j,hj⟩:∃ j,L.length=i+(j+1):=⟨L.length - i - 1,by omega⟩;generalize hbb:(L.getD i 0).toNat=b at *
 have e:C5 L=((Yf b).flatMap fun b=>(Yf L.length).filter fun i=>(L.getD i 0).toNat == b)++(((Yf i).filter fun i=>(L.getD i 0).toNat == b)++(i::((((Yf j).map Ge).map (i+·)).filter fun i=>(L.getD i 0).toNat == b)))++((((Yf k).map Ge).map (b+·)).flatMap fun b=>(Yf L.length).filter fun i=>(L.getD i 0).toNat == b):=by
  have e1:Yf 256=Yf b++(b::((Yf k).map Ge).map (b+·)):=by
   rw [hk,U1,Ur];simp
  have e2:Yf L.length=Yf i++(i::((Yf j).map Ge).map (i+·)):=by
   rw [hj,U1,Ur];simp
  have e3:((Yf L.length).filter fun i=>(L.getD i 0).toNat == b)=((Yf i).filter fun i=>(L.getD i 0).toNat == b)++(i::((((Yf j).map Ge).map (i+·)).filter fun i=>(L.getD i 0).toNat == b)):=by
   rw [e2,Xj,Y7 (by rw [beq_iff_eq];exact hbb)]
  unfold C5;rw [e1,U6,X3,e3,<- Yn]
 have hp:M5 L i=K4 L b+Kx L b i:=by rw [M5,hbb]
 rw [e,hp,Yn,Y0 (by rw [Qpc];omega),Qpc,Xo,Yn,Y0 (by rw [Kx];exact Xf _)];rw [show Kx L b i - ((Yf i).filter fun i=>(L.getD i 0).toNat == b).length=0 by rw [Kx];omega];rfl
theorem Qtm (L:List UInt8) (i:Nat) (hi:i < L.length):M5 L i < L.length:=by
 have h:=Tm L i hi;have hl:(C5 L).length=L.length:=by rw [(Nu L).length_eq,Yw]
 have:=(Yv.1 h).1;omega
theorem Qys (L:List UInt8) {i j:Nat} (hi:i < L.length) (hj:j < L.length) (h:M5 L i=M5 L j):i=j:=by
 have h1:=Tm L i hi;rw [h,Tm L j hj] at h1;exact (Option.some.inj h1).symm
theorem Qvi (L:List UInt8) (P:List Nat) (hl:P.length=L.length) (h:∀ i,i < L.length->P.getD (M5 L i) 0=i):P=C5 L:=by
 have hpl:(C5 L).length=L.length:=by rw [(Nu L).length_eq,Yw]
 have hnd:(C5 L).Nodup:=by rw [(Nu L).nodup_iff];exact Xn
 apply Xh (by omega);intro p h1 h2
 have hm:(C5 L)[p] < L.length:=by
  have:=(Nu L).mem_iff.1 (X8 h2);simpa using this
 generalize hj:(C5 L)[p]=j at *;have h3:=Tm L j hm;obtain ⟨h4,h5⟩:=Yv.1 h3;have h6:M5 L j=p:=(Ul hnd).1 (by rw [h5,hj]);have h7:=h j hm;rw [h6,Yb,Ya h1,Y9] at h7;exact h7
def Pl (g:Nat) (F:Array Int):Res:=Yj g 225 (Bb F.toList)
theorem Qh4 {g:Nat}{F:Array Int}{w:World} (h:(Pl g F).holds w) {k:Nat} (hk:k < F.size):w.cell? ⟨g,k,none⟩=some (.int .i64 F[k]!):=by
 refine Aj h ?_;rw [L1 (by simpa using hk),Lf]
theorem Qcd {w0 w:World}{B:List Nat}{G:List Res} (hH:Heap w0 B w G) (i:Nat) {g o:Nat}{F:Array Int}{x:Int}{C:World->Prop} (hi:G[i]? = some (Pl g F)) (ho:o < F.size)
  (h:∀ w',Heap w0 B w' (G.set i (Pl g (F.setIfInBounds o x)))->C w'):Mu Yg 3 (.pointer (some ⟨g,o,none⟩)) (.int .i64 x) w C:=by
 refine Al hH i (o:=o) (vs:=[.int .i64 x]) hi rfl (by kernel_rfl) (by rw [T2];simp;omega) (by simp [Yo]) fun w' hw=>h w' ?_
 have e:(Bb F.toList).take o++[.int .i64 x]++(Bb F.toList).drop (o+[Y5 .i64 x].length)=Bb (F.setIfInBounds o x).toList:=by
  rw [Yy,De (Bb F.toList) _ _ (by rw [T2];simpa using ho),Qjb,Array.toList_setIfInBounds]
 rw [e] at hw;exact hw
theorem Qtn:∀ {l:List Value}{i:Nat}{v:Value}{K:Value->Prop},l[i]? = some v->Bj l i K=K v
 | [],_,_,_,h=>by simp at h
 | x::l,0,v,K,h=>by simp at h;subst h;rfl
 | x::l,i+1,v,K,h=>by rw [Bj];exact Qtn (by simpa using h)
theorem Qro (D:Array Int) (gp cp gc p:Nat) (hp:p < D.size) (hD:D.size<=1000000000000) (w0 w:World) (B:List Nat) (G:List Res) (hL:Heap w0 B w (Aw gp cp D::Yj gc 114 [sl gp cp D]::G)) :
  Does Yg 169 #[.int .i64 p,D6 gc] w fun v w'=>w'=w/\v=.int .i64 D[p]! := by
 refine En [.int .i64 p,D6 gc] 8 Tryz.func169 ?_;refine Am [0,1] fun K hK=>?_;apply hK;clear hK;refine Am [3] fun K hK=>?_;refine ⟨_,Aj (hL.at 1 rfl) rfl,?_⟩;refine Qi ?_;refine ⟨⟨by omega,by omega⟩,_,B1 (hL.at 0 rfl) hp,?_⟩;apply hK;clear hK;exact Ad (A0 rfl rfl ⟨rfl,rfl⟩)
abbrev QFd (gc:Nat):Value:=.func (.func 169) #[] #[D6 gc]
abbrev Wn (gw gc p:Nat):Res:=Yj gw 227 [QFd gc,.int .i64 p]
theorem Qvj (D:Array Int) (gp cp gc gw p q:Nat) (hp:p < D.size) (hq:D[p]! = q) (hD:D.size<=1000000000000) (w0 w:World) (B:List Nat) (G:List Res) (hL:Heap w0 B w (Aw gp cp D::Yj gc 114 [sl gp cp D]::Wn gw gc p::G)) :
  Does Yg 170 #[D6 gw] w fun v w'=>Heap w0 B w' (Aw gp cp D::Yj gc 114 [sl gp cp D]::Wn gw gc q::G)/\v=.int .i64 q:=by
 refine En [D6 gw] 19 Tryz.func170 ?_;refine Am [0] fun K hK=>?_;apply hK;clear hK;(repeat refine Ay ?_);refine Qb1 [0] [(0,0),(1,0),(2,0),(3,0),(5,0),(6,0),(7,0),(4,1),(8,1),(9,2),(10,0),(11,0),(12,2)] (by kernel_rfl) (by kernel_rfl) (by kernel_rfl) (by simp only [Be,List.map_cons,List.map_nil,beq_self_eq_true,Nat.reduceBEq,List.filterMap_cons,List.filterMap_nil,List.getElem?_cons_succ,List.getElem?_cons_zero,Option.map_some];rfl) fun K hK=>?_;refine Qi ?_;refine ⟨_,Aj (hL.at 2 rfl) rfl,_,Aj (hL.at 2 rfl) rfl,?_⟩;refine Ce ?_;refine Qi ?_;refine Gi Tryz.call169 (Qro D gp cp gc p hp hD w0 w B _ hL) ?_;rintro v w2 ⟨rfl,rfl⟩;rw [hq];refine Af ?_;refine Qi ?_;refine Al hL 2 (vs:=[.int .i64 q]) rfl rfl (by kernel_rfl) (by first | decide | (simp;done) | (simp;omega)) (by simp [Yo]) fun w6 hH2=>?_;(try refine Qi ?_);apply hK;clear hK;refine Am [2] fun K hK=>?_;refine ⟨_,Aj (hH2.at 2 rfl) rfl,?_⟩;apply hK;clear hK;exact Ad (A0 rfl rfl ⟨hH2,rfl⟩)
def Lv (L:List UInt8) (row:Int):List UInt8×Int :=
 if 262144 < L.length then ([],3) else if row < 0∨(L.length:Int)<=row then ([],50) else (Ll L (C5 L) L.length row.toNat,0)
theorem Qvk (L:List UInt8) (row:Int) (hr:I64 row) (hL:L.length<=1000000000000) (w:World):Does Yg 129 #[Aa L,.int .i64 row] w
  fun v w'=>Heap w [] w' []/\v=.tuple #[Aa (Lv L row).1,.int .i64 (Lv L row).2]:=by
 refine En [Aa L,.int .i64 row] 96 Tryz.func129 ?_;refine Am [0,1] fun K hK=>?_;apply hK;clear hK;refine Am [0,1,18] fun K hK=>?_;apply hK;clear hK;refine VD (fun h=>?_) (fun h=>?_)
 ·
  refine Am [4,5] fun K hK=>?_;apply hK;clear hK;exact Ad (A6 rfl rfl rfl ⟨Yz w,by rw [Lv,if_pos (by omega)]⟩)
 have hle:L.length<=262144:=by omega
 clear h;refine Ab ?_;refine Am [0,1,26] fun K hK=>?_
 suffices out:∀ b:Bool,(b=true ↔ (row < 0∨(L.length:Int)<=row))->K [(0,Aa L),(1,.int .i64 row),(26,.bool b)] w by (repeat' (first | exact out _ _ (by first | omega | (simp;done) | (simp;omega)) | exact out _ (by first | omega | (simp;done) | (simp;omega)) | refine ⟨fun _=>?_,fun _=>?_⟩ | refine Qo ?_))
 intro b hb;apply hK;clear hK;refine Ae rfl rfl (fun h=>?_) (fun h=>?_)
 ·
  refine Am [4,5] fun K hK=>?_;apply hK;clear hK;exact Ad (A6 rfl rfl rfl ⟨Yz w,by rw [Lv,if_neg (by omega),if_pos (hb.1 h)]⟩)
 have hb2:¬ (row < 0∨(L.length:Int)<=row):=fun h2=>by have:=hb.2 h2;simp_all
 have hbs:Lv L row=(Ll L (C5 L) L.length row.toNat,0):=by rw [Lv,if_neg (by omega),if_neg hb2]
 rw [hbs];obtain ⟨p0,rfl⟩:∃ p:Nat,row=p:=⟨row.toNat,by omega⟩;rw [Ym];have hp0:p0 < L.length:=by omega
 clear hb hb2 hbs h hr;refine Ab ?_;generalize hn:L.length=n at *;refine Am [0,1,6] fun K hK=>?_;refine A7 (.agg (Bb (Yc 256 0)).toArray) (by kernel_rfl) ?_;refine Qi ?_
 have hH0:Heap w [] (w.alloc (Yq (Bb (Yc 256 0)).toArray 225)) [Pl w.heap.size (Array.replicate 256 0)]:=by
  have h:=(Yz w).box 225 (Bb (Yc 256 0));rw [Pl,Array.toList_replicate];exact h
 generalize w.alloc (Yq (Bb (Yc 256 0)).toArray 225)=w1 at *;generalize w.heap.size=gf at *;have hb8:∀ k,(L.getD k 0).toNat < 256:=fun k=>(L.getD k 0).toNat_lt
 have hst:∀ b,K4 L b<=b * 262144:=fun b=>by
  induction b with
  | zero=>simp [K4]
  | succ b ih=>have:=Ql2 L b L.length;simp only [K4];omega
 apply hK;clear hK;refine Am [0,1,6,28,29] fun K hK=>?_;apply hK;clear hK;rw [hn];refine Ar ?_;refine Au [0,1,6,28,29] (fun m e w'=>∃ (k:Nat) (F:Array Int),Is e [(0,Aa L),(1,.int .i64 p0),(6,D6 gf),(28,.int .i64 n),(29,.int .i64 k)]/\Heap w [] w' [Pl gf F]/\F.size=256/\k<=n/\(∀ b,b < 256->F[b]! = Kx L b k)/\m=n - k) n ?_ ?_
 ·
  refine Qi ?_;exact ⟨0,_,rfl,hH0,by simp,by omega,fun b _=>by rw [Qjr];rfl,rfl⟩
 clear hH0;rintro m e w2 ⟨k,F,rfl,hH,hF,hk,hFk,hm⟩;refine Am [0,1,6,28,29,30] fun K hK=>?_;apply hK;clear hK;(repeat refine Ay ?_);refine VD (fun h=>?_) (fun h=>?_)
 ·
  refine Ab ?_
  ((repeat refine Ay ?_);refine Ar ?_)
  refine Am [0,1,6,7,28,29] fun K hK=>?_;apply hK;clear hK;have hb:=hb8 k;have hc:=hFk _ hb;have hcl:=Ql2 L (L.getD k 0).toNat k;have hcs:=fun b=>Qjs L b k;generalize hbk:(L.getD k 0).toNat=bk at *;refine Am [0,1,6,28,29] fun K hK=>?_;rw [hn,hbk];refine ⟨⟨by omega,by omega⟩,⟨by omega,by omega⟩,_,Qh4 (hH.at 0 rfl) (by omega),?_⟩;rw [hc];refine Qi ?_;refine ⟨Y4 (by omega) (by omega),⟨by omega,by omega⟩,?_⟩;refine Af ?_;refine Qi ?_;refine Qcd hH 0 (o:=bk) rfl (by omega) fun w6 hH2=>?_;simp only [Yd] at hH2;apply hK;clear hK;refine Ao ?_;refine Am [0,1,6,28,29] fun K hK=>?_;(repeat refine Qo ?_);apply hK;clear hK;refine Ah ?_;refine Qi ?_;refine ⟨n - (k+1),by omega,k+1,_,rfl,hH2,by simp [hF],by omega,fun b hb2=>?_,rfl⟩;rw [Oy _ _ _ (by omega),hcs b];by_cases e:b=bk
  ·
   subst e;simp
  rw [if_neg e,if_neg (Ne.symm e),hFk b hb2];simp
 obtain rfl:k=n:=by omega
 refine As rfl ?_;generalize k=n at *;refine Am [0,1,6,8] fun K hK=>?_;apply hK;clear hK;refine Am [0,1,6,8,40,41] fun K hK=>?_;refine ⟨Bb F.toList,⟨by rw [T2];simpa using hF,B6 (hH.at 0 rfl)⟩,?_⟩;apply hK;clear hK;refine Ar ?_;refine Au [0,1,6,8,40,41] (fun m e w'=>∃ (b:Nat) (F':Array Int),Is e [(0,Aa L),(1,.int .i64 p0),(6,D6 gf),(8,.int .i64 (K4 L b)),(40,.agg (Bb F.toList).toArray),(41,.int .i64 b)]/\Heap w [] w' [Pl gf F']/\F'.size=256/\b<=256/\(∀ c,c < b->F'[c]! = K4 L c)/\m=256 - b) 256 ?_ ?_
 ·
  refine Qi ?_;exact ⟨0,F,rfl,hH,hF,by omega,fun c hc=>by omega,rfl⟩
 clear hH;rintro m e w3 ⟨b,F1,rfl,hH,hF1,hb,hFb,hm⟩;refine Am [0,1,6,8,40,41,42] fun K hK=>?_;apply hK;clear hK;(repeat refine Ay ?_);refine VD (fun h=>?_) (fun h=>?_)
 ·
  have hc:=hFk b (by omega);have hcl:=Ql2 L b n;have hsb:=hst b;have hsb1:=hst (b+1);refine Ab ?_
  ((repeat refine Ay ?_);refine Ar ?_)
  refine Am [0,1,6,8,9,10,40,41] fun K hK=>?_
  have hvn:Bj (Bb F.toList) b=fun K=>K (.int .i64 F[b]!):=by
   funext K;exact Qtn (by rw [L1 (by simp;omega),Lf])
  rw [hvn]
  dsimp only
  rw [hc];refine ⟨⟨by omega,by omega⟩,?_⟩;apply hK;clear hK;refine Am [0,1,6,8,10,40,41] fun K hK=>?_;refine ⟨⟨by omega,by omega⟩,?_⟩;refine Af ?_;refine Qi ?_;refine Qcd hH 0 (o:=b) rfl (by omega) fun w6 hH2=>?_;simp only [Yd] at hH2;apply hK;clear hK;refine Am [0,1,6,8,40,41] fun K hK=>?_;(repeat refine Qo ?_);apply hK;clear hK;refine Ao ?_;refine Am [0,1,6,8,40,41] fun K hK=>?_;(repeat refine Qo ?_);apply hK;clear hK;refine Ah ?_;refine Qi ?_;refine ⟨256 - (b+1),by omega,b+1,_,by rw [show ((K4 L b:Int)+(Kx L b n:Nat))=((K4 L (b+1):Nat):Int) by rw [K4,hn];omega];rfl,hH2,by simp [hF1],by omega,fun c hc=>?_,rfl⟩;rw [Oy _ _ _ (by omega)];by_cases e:c=b
  ·
   subst e;simp
  rw [if_neg e];exact hFb c (by omega)
 obtain rfl:b=256:=by omega
 refine As rfl ?_;clear hFk hF;refine Am [0,1,6,11] fun K hK=>?_;rw [hn];refine Ew Ye E0 ?_;refine Qi ?_;refine ⟨n,n,⟨rfl,rfl,by omega,by omega,by omega⟩,?_⟩;have hH1:=Qsx hH n (by omega);generalize w3.alloc (Yq (Yc n (Y5 .i64 0)).toArray 3)=w4 at *;generalize w3.heap.size=gp at *;refine A7 (.slice none 0 0) (by kernel_rfl) ?_;refine Qi ?_;have hH2:=hH1.box 114 [.slice none 0 0];generalize w4.alloc (Yq [Xt none 0 0].toArray 114)=w5 at *;generalize w4.heap.size=gc at *;refine Af ?_;refine Qi ?_;refine Al hH2 0 (vs:=[.slice (some ⟨gp,0,none⟩) n n]) rfl rfl (by kernel_rfl) (by first | decide | (simp;done) | (simp;omega)) (by simp [Yo]) fun w6 hH3=>?_;(try refine Qi ?_);have hH4:Heap w [] w6 [Aw gp n (Array.replicate n 0),Yj gc 114 [Ml gp n],Pl gf F1]:=hH3.front 1 rfl;clear hH hH1 hH2 hH3;apply hK;clear hK;refine Am [0,1,6,11,56,57] fun K hK=>?_;apply hK;clear hK;rw [hn];refine Ar ?_;refine Au [0,1,6,11,56,57] (fun m e w'=>∃ (k:Nat) (F D:Array Int),Is e [(0,Aa L),(1,.int .i64 p0),(6,D6 gf),(11,D6 gc),(56,.int .i64 n),(57,.int .i64 k)]/\Heap w [] w' [Aw gp n D,Yj gc 114 [Ml gp n],Pl gf F]/\F.size=256/\D.size=n/\k<=n/\(∀ b,b < 256->F[b]! = (K4 L b+Kx L b k:Nat))/\(∀ j,j < k->D[M5 L j]! = j)/\m=n - k) n ?_ ?_
 ·
  refine Qi ?_;exact ⟨0,F1,_,rfl,hH4,hF1,by simp,by omega,fun b hb=>by rw [hFb b hb];rfl,fun j hj=>by omega,rfl⟩
 clear hH4 hF1 hFb;rintro m e w7 ⟨k,F,D,rfl,hH,hF,hD,hk,hFk,hDk,hm⟩;refine Am [0,1,6,11,56,57,58] fun K hK=>?_;apply hK;clear hK;(repeat refine Ay ?_);refine VD (fun h=>?_) (fun h=>?_)
 ·
  refine Ab ?_
  ((repeat refine Ay ?_);refine Ar ?_)
  refine Am [0,1,6,11,12,56,57] fun K hK=>?_;apply hK;clear hK;have hb:=hb8 k;have hc:=hFk _ hb;have hpl:=Qtm L k (by omega);have hcs:=fun b=>Qjs L b k;have hps:K4 L (L.getD k 0).toNat+Kx L (L.getD k 0).toNat k=M5 L k:=rfl;rw [hps] at hc;generalize hbk:(L.getD k 0).toNat=bk at *;(repeat refine Ay ?_);refine W6 [0,1,6,11,12,56,57] 8 (by kernel_rfl) (by kernel_rfl) (by kernel_rfl) rfl fun K hK=>?_;refine Qi ?_;refine ⟨_,Aj (hH.at 1 rfl) rfl,⟨by omega,by omega⟩,?_⟩;rw [hbk];refine ⟨⟨by omega,by omega⟩,_,Qh4 (hH.at 2 rfl) (by omega),?_⟩;rw [hc];refine Qi ?_;refine ⟨⟨by omega,by omega⟩,?_⟩;refine Af ?_;refine Qi ?_;refine C1 hH 0 (o:=(M5 L k)) rfl (by first | rfl | (simp;done) | (congr 1;omega)) (by first | omega | (simp;omega)) fun w6 hH1=>?_;simp only [Yd] at hH1;(try refine Qi ?_);apply hK;clear hK;refine Am [0,1,6,11,56,57] fun K hK=>?_;rw [hbk];refine ⟨⟨by omega,by omega⟩,⟨by omega,by omega⟩,_,Qh4 (hH1.at 2 rfl) (by omega),?_⟩;rw [hc];refine Qi ?_;refine ⟨Y4 (by omega) (by omega),⟨by omega,by omega⟩,?_⟩;refine Af ?_;refine Qi ?_;refine Qcd hH1 2 (o:=bk) rfl (by omega) fun w8 hH2=>?_;simp only [Yd,Yh] at hH2;apply hK;clear hK;refine Ao ?_;refine Am [0,1,6,11,56,57] fun K hK=>?_;(repeat refine Qo ?_);apply hK;clear hK;refine Ah ?_;refine Qi ?_;refine ⟨n - (k+1),by omega,k+1,_,_,rfl,hH2,by simp [hF],by simp [hD],by omega,fun c hc2=>?_,fun j hj=>?_,rfl⟩
  ·
   rw [Oy _ _ _ (by omega),hcs c];by_cases e:c=bk
   ·
    subst e;rw [if_pos rfl,if_pos rfl];omega
   rw [if_neg e,if_neg (Ne.symm e),hFk c hc2];simp
  rw [Oy _ _ _ (by omega)];by_cases e:j=k
  ·
   subst e;simp
  rw [if_neg (fun h2=>e (Qys L (by omega) (by omega) h2))];exact hDk j (by omega)
 obtain rfl:k=n:=by omega
 refine As rfl ?_;generalize k=n at *
 have hPl:D.toList.map Uf=C5 L:=Qvi L _ (by rw [hn];simpa using hD) fun i hi=>by
  have h1:=hDk i (by omega);have h2:=Qtm L i hi;rw [Wt (by omega)] at h1;rw [Yb,Y8,Ya (by simp;omega)];simp only [Option.map_some,Y9,h1,Ym]
 have hDp:∀ p,p < n->D[p]! = (((C5 L).getD p 0:Nat):Int)/\(C5 L).getD p 0 < n:=fun p hp=>by
  have hm2:(C5 L).getD p 0∈C5 L:=Dm 0 (by rw [(Nu L).length_eq,Yw];omega);have h3:=(Nu L).mem_iff.1 hm2;rw [Y3] at h3;refine ⟨?_,by omega⟩
  have h4:M5 L ((C5 L).getD p 0)=p:=by
   have hpl2:(C5 L).length=L.length:=by rw [(Nu L).length_eq,Yw]
   have hnd:(C5 L).Nodup:=by rw [(Nu L).nodup_iff];exact Xn
   obtain ⟨h5,h6⟩:=Yv.1 (Tm L _ h3);refine (Ul hnd (h₀:=h5) (h₁:=by omega)).1 ?_;rw [h6,Yb,Ya (by omega)];rfl
  have h5:=hDk ((C5 L).getD p 0) (by omega)
  rwa [h4] at h5
 clear hDk hFk hPl;generalize hP:C5 L=P at *;refine Am [0,13] fun K hK=>?_;refine A7 (.agg #[.nilFunc,.int .i64 0]) (by kernel_rfl) ?_;refine Qi ?_;have hH1:=hH.box 227 [.nilFunc,.int .i64 0];generalize w7.alloc (Yq [Value.nilFunc,.int .i64 0].toArray 227)=w8 at *;generalize w7.heap.size=gw at *;refine Af ?_;refine Qi ?_;refine Al hH1 0 (vs:=[QFd gc,.int .i64 p0]) rfl rfl (by kernel_rfl) (by first | decide | (simp;done) | (simp;omega)) (by simp [Yo]) fun w6 hH2=>?_;(try refine Qi ?_);have hH3:Heap w [] w6 [Aw gp n D,Yj gc 114 [Ml gp n],Wn gw gc p0]:=((hH2.front 1 rfl).front 2 rfl |>.front 1 rfl).sub (by simp);apply hK;clear hK;clear hH hH1 hH2;generalize w6=w9 at *;refine Am [0,13,14] fun K hK=>?_;rw [hn];refine Ew Ys Iz ?_;refine Qi ?_;refine ⟨n,n,⟨rfl,rfl,by omega,by omega,by omega⟩,?_⟩;have hH1:=hH3.row 5 (n:=n) (cap:=n) (sz:=1) (Yc n (.int .u8 0)) [] (by simp) (by simp) (by omega) (by omega);rw [Yu,show Yc n (Y5 .u8 0)=An (Yc n 0) by simp [An]] at hH1;rw [show Yc n (Y5 .u8 0)=An (Yc n 0) by simp [An]];generalize w9.alloc (Yq (An (Yc n 0)).toArray 5)=w10 at *;generalize w9.heap.size=gb at *;have hH2:Heap w [] w10 [Aw gp n D,Yj gc 114 [Ml gp n],Wn gw gc p0,Yr 5 1 (some ⟨gb,0,none⟩) n n (An (Yc n 0))]:=((hH1.front 3 rfl).front 3 rfl).front 3 rfl;clear hH1 hH3;apply hK;clear hK;refine Am [0,13,14,83,84] fun K hK=>?_;apply hK;clear hK;refine Ar ?_;refine Au [0,13,14,83,84] (fun m e w'=>∃ (k q:Nat) (o:List UInt8),Is e [(0,Aa L),(13,D6 gw),(14,.slice (some ⟨gb,0,none⟩) n n),(83,.int .i64 n),(84,.int .i64 k)]/\Heap w [] w' [Aw gp n D,Yj gc 114 [Ml gp n],Wn gw gc q,Yr 5 1 (some ⟨gb,0,none⟩) n n (An o)]/\o.length=n/\q < n/\k<=n/\o.take k++Ll L P (n - k) q=Ll L P n p0/\m=n - k) n ?_ ?_
 ·
  refine Qi ?_;exact ⟨0,p0,_,rfl,hH2,by simp,by omega,by omega,by simp,rfl⟩
 clear hH2;rintro m e w11 ⟨k,q,o,rfl,hH,hol,hq,hk,hgo,hm⟩;refine Am [0,13,14,83,84,85] fun K hK=>?_;apply hK;clear hK;(repeat refine Ay ?_);refine VD (fun h=>?_) (fun h=>?_)
 ·
  obtain ⟨h1,h2⟩:=hDp q hq;generalize hq2:P.getD q 0=q2 at *;refine Ab ?_
  ((repeat refine Ay ?_);refine Ar ?_)
  refine Am [0,13,14,15,83,84] fun K hK=>?_;apply hK;clear hK;refine Am [0,13,14,83,84] fun K hK=>?_;have hc:=Qvj D gp n gc gw q q2 (by omega) h1 (by omega) w w11 [] _ (by rw [sl,hD];exact hH);rw [sl,hD] at hc;refine Ac Tryz.call170 ?_;refine Qi ?_;refine Yk hc ?_;clear hc hH;rintro v w12 ⟨hH,rfl⟩;refine Qi ?_;rw [hn];refine ⟨⟨by omega,by omega⟩,⟨by omega,by omega⟩,?_⟩;refine Af ?_;refine Qi ?_;refine Eg hH 3 (o:=(k)) (vs:=[.int .u8 (L.getD q2 0).toNat]) rfl (by first | exact (Bz _ _ _).symm | rfl | simp [Bz]) rfl (by kernel_rfl) (by first | omega | (simp;done) | (simp;omega) | (simp [An,Bb];omega) | (rw [natsV_len];simp;omega)) (by simp [Yo]) fun w6 hH2=>?_;(try refine Qi ?_);simp only [Yy,De (An o) _ _ (show k < (An o).length by rw [Pt];omega),Tx,Yd,Yh] at hH2;apply hK;clear hK;refine Ao ?_;refine Am [0,13,14,83,84] fun K hK=>?_;(repeat refine Qo ?_);apply hK;clear hK;refine Ah ?_;refine Qi ?_;refine ⟨n - (k+1),by omega,k+1,q2,o.set k (L.getD q2 0),rfl,hH2,by simp [hol],by omega,by omega,?_,rfl⟩
  have e1:(o.set k (L.getD q2 0)).take (k+1)=o.take k++[L.getD q2 0]:=by
   rw [Xb,Uq (by omega),U5 (by omega)];rfl
  obtain ⟨j,hj⟩:∃ j,n - k=j+1:=⟨n - k - 1,by omega⟩;rw [<- hgo,e1,hj,Ll,hq2,show n - (k+1)=j by omega];simp
 obtain rfl:k=n:=by omega
 refine As rfl ?_;rw [Yp (by omega),Nat.sub_self,Ll,Yu] at hgo;rw [<- hgo];refine Am [4,5] fun K hK=>?_;refine ⟨o,Kz (by rw [<- hol] at hH ⊢;exact Az (hH.at 3 rfl)),?_⟩;apply hK;clear hK;exact Ad (A6 rfl rfl rfl ⟨hH.sub (by simp),rfl⟩)
def Tf:Nat->Nat->List Int
 | 0,_=>[]
 | _+1,0=>[]
 | f+1,k+1=>((k % 2:Nat):Int)::Tf f (k / 2)
theorem Qjt:∀ (f g k:Nat),k<=f->k<=g->Tf f k=Tf g k
 | 0,g,k,h,_=>by
  have:k=0:=by omega
  subst this;cases g <;> rfl
 | f+1,0,k,_,h=>by
  have:k=0:=by omega
  subst this;rfl
 | f+1,g+1,0,_,_=>rfl
 | f+1,g+1,k+1,h,h'=>by
  simp only [Tf];rw [Qjt f g (k / 2) (by omega) (by omega)]
def Fi (k:Nat):List Int:=Tf k k
theorem Rb:Fi 0=[]:=rfl
theorem Z2 (k:Nat):Fi (k+1)=((k % 2:Nat):Int)::Fi (k / 2):=by
 rw [Fi,Tf,Fi,Qjt k (k / 2) (k / 2) (by omega) (Xf _)]
theorem Za:∀ (f k:Nat),k<=f->(Fi k).length<=k
 | 0,k,h=>by
  have:k=0:=by omega
  subst this;simp [Rb]
 | f+1,0,_=>by simp [Rb]
 | f+1,k+1,h=>by
  have:=Za f (k / 2) (by omega);rw [Z2,Y1];omega
theorem Qnm (k:Nat) (w:World) (hk:k<=17592186044416) :
  Does Yg 100 #[.int .i64 k] w fun v w'=>∃ a cap,Heap w [] w' [Yr 3 1 a (Fi k).length cap (Bb (Fi k))]/\v=.slice a (Fi k).length cap:=by
 refine En [.int .i64 k] 16 Tryz.func100 ?_;refine VS [0] ?_;refine VS [0,3] ?_;refine VB ?_;refine Au [0,3] (fun m e w'=>∃ (j cap:Nat) (a:Option Addr) (o:List Int),Is e [(0,.int .i64 j),(3,.slice a o.length cap)]/\Heap w [] w' [Yr 3 1 a o.length cap (Bb o)]/\j<=k/\o.length+j<=k/\Fi k=o++Fi j/\m=j) k ?_ ?_
 ·
  refine Qs ?_;exact ⟨k,0,none,[],rfl,Heap.one (r:=Yr 3 1 none 0 0 []) (Qlt 3 1 w) (by intro b hb;cases hb),by omega,by simp,rfl,rfl⟩
 rintro m e w2 ⟨j,cap,a,o,rfl,hH,h1,h2,h3,rfl⟩;refine VS [0,3,5] ?_;refine Ae rfl rfl (fun hlt=>?_) (fun hge=>?_)
 ·
  simp only [decide_eq_true_eq] at hlt;refine Ab (Ar ?_);refine VS [0,3] ?_;refine VQ [0,3] fun K hK=>?_;refine ⟨⟨by omega,by omega⟩,⟨by decide,by decide⟩,?_⟩;rw [show Uf 1=1 from rfl,Nat.and_one_is_mod];refine Kk (xs:=[.tmp 10]) Ye Lb rfl rfl rfl (by omega) ?_;refine Qs ?_;refine ⟨by simp [Xg],?_⟩;refine Cd ?_;refine Qs ?_;refine Vf hH 0 rfl Ye E0 (fun h=>by simp;omega) fun a' cap' w5 hc' hH4=>?_;apply hK;clear hK;refine VS [0,3] ?_;refine Ao (Ah ?_);refine Qs ?_;obtain ⟨j,rfl⟩:∃ j,m=j+1:=⟨m - 1,by omega⟩
  have e1:(((j+1:Nat):Int) - 1) / 2 ^ Bw Xp 1=((j / 2:Nat):Int):=by
   rw [show Bw Xp 1=1 by decide,show (((j+1:Nat):Int) - 1)=(j:Int) by omega];omega
  rw [e1];rw [Z2] at h3;exact ⟨j / 2,by omega,j / 2,cap',a',o++[((j % 2:Nat):Int)],rfl,hH4,by omega,by simp;omega,by rw [h3,Yn];rfl,rfl⟩
 simp only [decide_eq_false_iff_not] at hge;refine As rfl ?_;refine VS [2] ?_;refine Ad (A0 rfl rfl ?_);have:m=0:=by omega
 subst this;rw [Rb,Yu] at h3;rw [h3];exact ⟨a,cap,hH,rfl⟩
def IntsErr (p:List Int×Int) (w:World) (v:Value) (w':World):Prop :=
 ∃ a cap,Heap w [] w' [Yr 3 1 a p.1.length cap (Bb p.1)]/\v=.tuple #[.slice a p.1.length cap,.int .i64 p.2]
theorem IntsErr.nil {w w':World} (h:Heap w [] w' []) (e:Int):IntsErr ([],e) w (.tuple #[.slice none 0 0,.int .i64 e]) w' :=
 ⟨none,0,h.call0 (Heap.one (r:=Yr 3 1 none 0 0 []) (Qlt 3 1 w') (by intro b hb;cases hb)),rfl⟩
def Ep (n:Int):List Int->Nat->List Int->List Int×Int
 | out,z,[]=>(out++Fi z++[n+1],0)
 | out,z,v::r=>if v=0 then Ep n out (z+1) r else if v < 0∨n<=v then ([],60) else Ep n (out++Fi z++[v+1]) 0 r
def Ia (n:Int) (l:List Int):List Int×Int:=if n < 1∨256 < n then ([],2) else Ep n [] 0 l
theorem Qvl (n:Int) (l:List Int) (la:Option Addr) (lc:Nat) (hn:I64 n) (w:World) (hl:RS w la l.length 1 (Bb l)) (hs:l.length<=17592186044400) (hi:∀ v∈l,I64 v) :
  Does Yg 61 #[.int .i64 n,.slice la l.length lc] w (IntsErr (Ia n l) w):=by
 refine En [.int .i64 n,.slice la l.length lc] 68 Tryz.func61 ?_;refine VS [0,1] ?_;refine VQ [0,1,14] fun K hK=>?_
 have out:(n < 1∨256 < n)->K [(0,.int .i64 n),(1,.slice la l.length lc),(14,.bool true)] w:=by
  intro h;apply hK;clear hK;refine Ae rfl rfl (fun _=>?_) (fun h=>by cases h);refine VS [4,5] ?_;refine Ad (A6 rfl rfl rfl ?_);rw [Ia,if_pos h];exact IntsErr.nil (Yz w) 2
 refine ⟨fun h1=>?_,fun h1=>out (.inl h1)⟩;by_cases h2:256 < n
 ·
  rw [decide_eq_true h2];exact out (.inr h2)
 rw [decide_eq_false h2];clear out;apply hK;clear hK;refine Ae rfl rfl (fun h=>by cases h) (fun _=>Ab ?_);rw [Ia,if_neg (by omega)];refine VS [0,1,6] ?_;refine VS [0,1,6,7] ?_;(repeat refine Ay ?_);refine C8 [0,6] (fun e w'=>∃ (cap:Nat) (a:Option Addr) (o:List Int),Is e [(0,.int .i64 n),(6,.slice a o.length cap)]/\Heap w [] w' [Yr 3 1 a o.length cap (Bb o)]/\o.length<=l.length/\Ep n [] 0 l=(o++[n+1],0)) (Ar ?_) ?_
 rotate_left
 ·
  rintro e w2 ⟨cap,a,o,rfl,hH,g1,g2⟩;refine VQ [4,5] fun K hK=>?_;(repeat first | refine Qo ?_ | refine Qp ?_);refine Kk (xs:=[.tmp 65]) Ye Lb rfl rfl rfl (by omega) ?_;refine Qs ?_;refine ⟨by simp [Xg],?_⟩;refine Cd ?_;refine Qs ?_;refine Vf hH 0 rfl Ye E0 (fun h=>by (first | omega | (simp;done) | (simp;omega))) fun a' cap' w5 hc' hH6=>?_;(try refine Qs ?_);apply hK;clear hK;refine Ad (A6 rfl rfl rfl ?_);rw [g2];exact ⟨_,_,hH6,rfl⟩
 refine Au [0,1,6,7] (fun m e w'=>∃ (i cap:Nat) (a:Option Addr) (o:List Int),Is e [(0,.int .i64 n),(1,.slice la l.length lc),(6,.slice a o.length cap),(7,.int .i64 i)]/\Heap w [] w' [Yr 3 1 a o.length cap (Bb o)]/\i<=l.length/\o.length<=i/\Ep n [] 0 l=Ep n o 0 (l.drop i)/\m=l.length - i) l.length ?_ ?_
 ·
  refine Qs ?_;exact ⟨0,0,none,[],rfl,Vh,by omega,by simp,rfl,rfl⟩
 rintro m e w2 ⟨i,cap,a,o,rfl,hH,g1,g2,g3,rfl⟩;refine VS [0,1,6,7,18] ?_;refine VD (fun h=>?_) (fun h=>?_)
 ·
  refine Ab ?_;refine Ar ?_;refine Vg ?_;refine VS [0,1,6,7,8] ?_;(repeat refine Ay ?_);refine Ve ?_;(repeat refine Ay ?_);refine C8 [0,1,6,7,8] (fun e w'=>∃ j z:Nat,Is e [(0,.int .i64 n),(1,.slice la l.length lc),(6,.slice a o.length cap),(7,.int .i64 j),(8,.int .i64 z)]/\Is w' w2/\j<=l.length/\i<=j/\z=j - i/\Ep n [] 0 l=Ep n o z (l.drop j)/\(j < l.length->l.getD j 0≠0)) ?_ ?_
  ·
   refine Ar ?_;refine Au [0,1,6,7,8] (fun m e w'=>∃ (j z:Nat),Is e [(0,.int .i64 n),(1,.slice la l.length lc),(6,.slice a o.length cap),(7,.int .i64 j),(8,.int .i64 z)]/\Is w' w2/\j<=l.length/\i<=j/\z=j - i/\Ep n [] 0 l=Ep n o z (l.drop j)/\m=l.length - j) (l.length - i) ?_ ?_
   ·
    refine Qs ?_;exact ⟨i,0,rfl,rfl,g1,by omega,by omega,g3,rfl⟩
   rintro m e w' ⟨j,z,rfl,rfl,k1,k2,k3,k4,rfl⟩;refine VS [0,1,6,7,8,22] ?_;refine VD (fun h=>?_) (fun h=>?_)
   ·
    refine Ab ?_;refine Ar ?_;obtain ⟨p,rfl⟩:=rs_pos hl (by omega);have hl2:=hH.rs' hl;refine VQ [0,1,6,7,8,27] fun K hK=>?_;refine ⟨⟨by omega,by omega⟩,_,Rl hl2 (show j < l.length by omega),?_⟩;refine Qs ?_;apply hK;clear hK;have k4':=k4;rw [drop_getD 0 (by omega),Ep] at k4;refine Vi (fun h=>?_) (fun h=>?_)
    ·
     simp only [decide_eq_true_eq] at h;refine As rfl ?_;refine Ah ?_;refine Qs ?_;exact ⟨j,z,rfl,rfl,k1,k2,k3,k4',fun _=>h⟩
    simp only [decide_eq_false_iff_not,Decidable.not_not] at h;rw [if_pos h] at k4;refine Ab ?_;refine VS [0,1,6,7,8] ?_;refine VS [0,1,6,7,8] ?_;refine Ao ?_;refine Ah ?_;refine Qs ?_;exact ⟨l.length - (j+1),by omega,j+1,z+1,rfl,rfl,by omega,by omega,by omega,k4,rfl⟩
   refine As rfl ?_;refine Ah ?_;refine Qs ?_;exact ⟨j,z,rfl,rfl,k1,k2,k3,k4,fun h'=>by omega⟩
  rintro e w' ⟨j,z,rfl,rfl,k1,k2,k3,k4,k5⟩;have hdl:=Za z z (Xf _);refine VQ [0,1,6,7] fun K hK=>?_;refine Ac Tryz.call100 ?_;refine Qs ?_;refine Yk (Qnm z w' (by omega)) ?_;rintro v w2 ⟨a2,c2,hH2,rfl⟩;have hH3:=hH.call0 hH2;refine Cd ?_;refine Qs ?_;refine Quh hH3 1 rfl Ye E0 (t:=Fi z) (by simp) (Az (hH2.at 0 rfl)) (fun h=>by (first | omega | (simp;done) | (simp;omega))) fun a' cap' w5 hc' hH4=>?_;(try refine Qs ?_);apply hK;clear hK;have hol:(o++Fi z).length<=j:=by simp;omega
  refine VS [0,1,6,7,39] ?_;refine VD (fun h=>?_) (fun h=>?_)
  ·
   refine As rfl (Ah ?_);refine Qs ?_;rw [Yt (by omega),Ep] at k4;exact ⟨_,_,_,rfl,hH4.sub (by simp),by omega,k4⟩
  refine Ab ?_;obtain ⟨p,rfl⟩:=rs_pos hl (by omega);have hl2:=hH4.rs' hl;have hc:=Rl hl2 (show j < l.length by omega);have hj:=k5 (by omega);rw [drop_getD 0 (by omega),Ep,if_neg hj] at k4;have hr:=hi _ (Dm 0 (show j < l.length by omega));generalize l.getD j 0=v at *;obtain ⟨hr1,hr2⟩:=hr;refine VQ [0,1,6,7,52] fun K hK=>?_;refine ⟨⟨by omega,by omega⟩,_,hc,?_⟩;refine Qs ?_
  have out:(v < 0∨n<=v)->K [(0,.int .i64 n),(1,.slice (some p) l.length lc),(6,.slice a' (o++Fi z).length cap'),(7,.int .i64 j),(52,.bool true)] w5:=by
   intro h;apply hK;clear hK;refine Ae rfl rfl (fun _=>?_) (fun h=>by cases h);refine VS [4,5] ?_;refine Ad (A6 rfl rfl rfl ?_);rw [k4,if_pos h];exact IntsErr.nil (hH4.sub (by simp)) 60
  refine ⟨fun f1=>⟨⟨by omega,by omega⟩,_,hc,?_⟩,fun f1=>out (.inl f1)⟩;refine Qs ?_;by_cases f2:n<=v
  ·
   rw [decide_eq_true f2];exact out (.inr f2)
  rw [decide_eq_false f2];clear out;rw [if_neg (by omega)] at k4;apply hK;clear hK;refine Ae rfl rfl (fun h=>by cases h) (fun _=>Ab ?_);refine VQ [0,1,6,7] fun K hK=>?_;refine ⟨⟨by omega,by omega⟩,_,hc,?_⟩;refine Qs ?_;(repeat first | refine Qo ?_ | refine Qp ?_);refine Kk (xs:=[.tmp 58]) Ye Lb rfl rfl rfl (by omega) ?_;refine Qs ?_;refine ⟨by simp [Xg],?_⟩;refine Cd ?_;refine Qs ?_;refine Vf hH4 1 rfl Ye E0 (fun h=>by (first | omega | (simp;done) | (simp;omega))) fun a' cap' w5 hc' hH6=>?_;(try refine Qs ?_);apply hK;clear hK;refine VS [0,1,6,7] ?_;refine Ao ?_;refine Ah ?_;refine Qs ?_;exact ⟨l.length - (j+1),by omega,j+1,_,_,_,rfl,hH6.sub (by simp),by omega,by simp at hol ⊢;omega,k4,rfl⟩
 refine As rfl (Ah ?_);refine Qs ?_;rw [Yt (by omega),Ep,Rb,Yu] at g3;exact ⟨_,_,_,rfl,hH,by omega,g3⟩
def Wo (n:Int) (out:List Int):List Int->List Int×Int
 | []=>(out,0)
 | x::_=>if x < 0∨n+1 < x then ([],60) else ([],70)
def Iw (n most:Int):List Int->Nat->List Int->List Int×Int
 | _,_,[]=>([],70)
 | out,wt,s::r=>if s < 0∨n+1 < s then ([],60)
  else if s < 2 then (if most - out.length < (s+1) * wt then ([],3) else Iw n most (out++Yc ((s+1) * wt).toNat 0) (2 * wt) r)
  else if s=n+1 then Wo n out r
  else if most<=out.length then ([],3) else Iw n most (out++[s - 1]) 1 r
def Kq (n most:Int) (l:List Int):List Int×Int:=if n < 1∨256 < n∨most < 0∨262144 < most then ([],2) else Iw n most [] 1 l
theorem Qnn (n s:Int) (hn:I64 n) (hn2:n<=256) (hs:I64 s) (w:World):Does Yg 168 #[.int .i64 n,.int .i64 s] w fun v w'=>w'=w/\v=.int .i64 (if s < 0∨n+1 < s then 60 else 70):=by
 obtain ⟨hn1,hn3⟩:=hn;refine En [.int .i64 n,.int .i64 s] 13 Tryz.func168 ?_;refine VS [0,1] ?_;by_cases hn4:n=-9223372036854775808
 all_goals
  refine VQ [12] fun K hK=>?_
  suffices out:∀ b:Bool,(b=true ↔ s < 0∨n+1 < s)->K [(12,.bool b)] w by (repeat' (first | exact out _ _ (by first | omega | (simp;done) | (simp;omega)) | exact out _ (by first | omega | (simp;done) | (simp;omega)) | refine ⟨fun _=>?_,fun _=>?_⟩ | refine Qo ?_))
  intro b hb;apply hK;clear hK;refine Vi (fun h=>?_) (fun h=>Ab ?_)
  ·
   refine VS [4] ?_;refine Ad (A0 rfl rfl ⟨rfl,?_⟩);rw [if_pos (hb.1 h)]
  refine VS [4] ?_;refine Ad (A0 rfl rfl ⟨rfl,?_⟩);rw [if_neg (fun h'=>by rw [hb.2 h'] at h;cases h)]
theorem intsV_zero (m:Nat):Yc m (Y5 .i64 0)=Bb (Yc m 0):=by simp [Bb]
def Ix (b:UInt8):List UInt8->Nat
 | []=>0
 | c::l=>if c=b then Ix b l+1 else 0
def Ca:List UInt8->Nat
 | []=>0
 | b::l=>min 255 (Ix b l+1)
def I8 (n:Nat) (l:List UInt8):List UInt8:=if n < 4 then l.take n else l.take 4++[Gj (n - 4)]
def Tg:Nat->List UInt8->List UInt8
 | 0,_=>[]
 | _,[]=>[]
 | f+1,b::l=>I8 (Ca (b::l)) (b::l)++Tg f ((b::l).drop (Ca (b::l)))
def enc (l:List UInt8):List UInt8:=Tg l.length l
theorem Qvm (b:UInt8) (l:List UInt8):∀ n,(∀ j,j < n->l[j]? = some b)->(l[n]? ≠ some b)->Ix b l=n:=by
 induction l with
 | nil =>
  intro n h1 _;cases n with
  | zero=>rfl
  | succ n=>have:=h1 0 (by omega);simp at this
 | cons c l ih =>
  intro n h1 h2;cases n with
  | zero =>
   have:¬ c=b:=by simpa using h2
   simp [Ix,this]
  | succ n =>
   have:c=b:=by simpa using h1 0 (by omega)
   simp only [Ix,this,if_true];rw [ih n (fun j hj=>by simpa using h1 (j+1) (by omega)) (by simpa using h2)]
theorem QD8 (b:UInt8) (l:List UInt8):∀ n,(∀ j,j < n->l[j]? = some b)->n<=Ix b l:=by
 induction l with
 | nil =>
  intro n h1;cases n with
  | zero=>omega
  | succ n=>have:=h1 0 (by omega);simp at this
 | cons c l ih =>
  intro n h1;cases n with
  | zero=>omega
  | succ n =>
   have:c=b:=by simpa using h1 0 (by omega)
   simp only [Ix,this,if_true];have:=ih n (fun j hj=>by simpa using h1 (j+1) (by omega));omega
theorem QD9 (b:UInt8) (l:List UInt8):Ix b l<=l.length:=by
 induction l with
 | nil=>simp [Ix]
 | cons c l ih=>simp only [Ix];split <;> simp <;> omega
theorem Qyt (b:UInt8) (l:List UInt8):l[Ix b l]? ≠ some b:=by
 induction l with
 | nil=>simp [Ix]
 | cons c l ih =>
  simp only [Ix];split
  ·
   simpa using ih
  rename_i hc;simpa using hc
def QN7 (l:List UInt8) (i n:Nat):Prop:=∀ j,j < n->l[i+j]? = l[i]?
theorem Qpd (l:List UInt8) (i n:Nat) (hi:i < l.length) (h1:1<=n) (h2:n<=255) (hs:QN7 l i n) (he:n=255∨l[i+n]? ≠ l[i]?):Ca (l.drop i)=n:=by
 have hd:l.drop i=l[i]::l.drop (i+1):=Y2 hi;rw [hd];simp only [Ca];have hg:l[i]? = some l[i]:=Ya hi
 have hj:∀ j,j < n - 1->(l.drop (i+1))[j]? = some l[i]:=fun j hj=>by
  rw [Ug,show i+1+j=i+(j+1) by omega,hs (j+1) (by omega),hg]
 rcases he with he | he
 ·
  have:=QD8 _ _ _ hj;omega
 have:=Qvm l[i] (l.drop (i+1)) (n - 1) hj (by rw [Ug,show i+1+(n - 1)=i+n by omega,<- hg];exact he);omega
theorem L2 (l:List UInt8) (h:l≠[]):1<=Ca l:=by
 cases l with
 | nil=>exact absurd rfl h
 | cons b l=>simp only [Ca];omega
theorem P0 (l:List UInt8):Ca l<=l.length/\Ca l<=255:=by
 cases l with
 | nil=>simp [Ca]
 | cons b l=>have:=QD9 b l;simp only [Ca,Y1];omega
theorem Qd1 (l:List UInt8) (h:l≠[]) (f:Nat):Tg (f+1) l=I8 (Ca l) l++Tg f (l.drop (Ca l)):=by
 cases l with
 | nil=>exact absurd rfl h
 | cons b l=>rfl
theorem Qvn:∀ (f g:Nat) (l:List UInt8),l.length<=f->l.length<=g->Tg f l=Tg g l:=by
 intro f
 induction f with
 | zero =>
  intro g l hf _;have:l=[]:=Xa (by omega);subst this;cases g <;> rfl
 | succ f ih =>
  intro g l hf hg;by_cases hl:l=[]
  ·
   subst hl;cases g <;> rfl
  cases g with
  | zero=>exact absurd (Xa (by omega)) hl
  | succ g =>
   rw [Qd1 l hl,Qd1 l hl];have:=L2 l hl;rw [ih g _ (by simp;omega) (by simp;omega)]
theorem Rc (l:List UInt8) (h:l≠[]):enc l=I8 (Ca l) l++enc (l.drop (Ca l)):=by
 have hp:0 < l.length:=Ue.2 h;have hr:=L2 l h;unfold enc;rw [show l.length=(l.length - 1)+1 by omega,Qd1 l h];rw [Qvn (l.length - 1) (l.drop (Ca l)).length _ (by simp;omega) (Xf _)]
theorem Qb:enc []=[]:=rfl
theorem Pq (n:Nat) (l:List UInt8) (h:n<=l.length):(I8 n l).length=if n < 4 then n else 5:=by
 unfold I8;split <;> simp <;> omega
theorem Qce (l:List UInt8):(enc l).length<=l.length+l.length / 4:=by
 induction hn:l.length using Nat.strongRecOn generalizing l with
 | _ n ih =>
  subst hn;by_cases hl:l=[]
  ·
   subst hl;simp [Qb]
  rw [Rc l hl];have h1:=L2 l hl;have h2:=(P0 l).1;have:=ih (l.drop (Ca l)).length (by simp;omega) _ rfl;rw [Yi,Pq _ _ h2];simp only [Xv] at this;split <;> omega
theorem Qes {l:List UInt8}{i j:Nat} (hi:i < l.length) (hj:j < l.length):(((l.getD i 0).toNat:Int)=((l.getD j 0).toNat:Int)) ↔ l[i]? = l[j]? := by
 rw [Ya hi,Ya hj,Yb,Yb,Ya hi,Ya hj];simp only [Y9,Option.some.injEq];exact ⟨fun h=>Uc.1 (by omega),fun h=>by rw [h]⟩
theorem Qpe (l:List UInt8) (i:Nat) (w:World) (hi:i < l.length) (hs:l.length<=1000000000000000000) :
  Does Yg 96 #[Aa l,.int .i64 i] w fun v w'=>w'=w/\v=.int .i64 (Ca (l.drop i)):=by
 refine En [Aa l,.int .i64 i] 30 Tryz.func96 ?_;refine VS [0,1] ?_;refine VS [0,1,5] ?_;refine VB ?_;refine Au [0,1,5] (fun m e w'=>∃ n:Nat,Is e [(0,Aa l),(1,.int .i64 i),(5,.int .i64 n)]/\Is w' w/\1<=n/\n<=255/\QN7 l i n/\m=255 - n) 254 ?_ ?_
 ·
  refine Qs ?_;exact ⟨1,rfl,rfl,by omega,by omega,fun j hj=>by rw [show j=0 by omega];rfl,rfl⟩
 rintro m e w' ⟨n,rfl,rfl,h1,h2,h3,rfl⟩;refine Vq [0,1,5,26] fun K hK=>?_
 have done:(n=255∨l[i+n]? ≠ l[i]?)->K [(0,Aa l),(1,Y5 Xp i),(5,Y5 Xp n),(26,Value.bool false)]:=by
  intro hend;apply hK;clear hK;refine Ae rfl rfl (fun h=>by cases h) (fun _=>?_);refine As rfl ?_;refine VS [4] ?_;refine Ad (A0 rfl rfl ⟨rfl,?_⟩);rw [Qpd l i n hi h1 h2 h3 hend]
 refine ⟨fun g1=>⟨Y4 (by omega) (by omega),fun g2=>⟨Y4 (by omega) (by omega),by omega,by omega,?_⟩,fun g2=>done (.inr ?_)⟩,fun g1=>done (.inl (by omega))⟩
 ·
  by_cases hc:l[i+n]? = l[i]?
  ·
   (apply hK;clear hK)
   refine Vi (fun h=>?_) (fun h=>?_)
   ·
    refine Ab (Ar ?_);refine VS [0,1,5] ?_;refine Ao (Ah ?_);refine Qs ?_;refine ⟨255 - (n+1),by omega,n+1,rfl,rfl,by omega,by omega,?_,rfl⟩;intro j hj;by_cases hjn:j=n
    ·
     rw [hjn];exact hc
    exact h3 j (by omega)
   exfalso;simp only [decide_eq_false_iff_not] at h;rw [Qes (by omega) hi] at h;exact h hc
  have e:decide ((((l.getD (i+n) 0).toNat:Nat):Int)=(((l.getD i 0).toNat:Nat):Int))=false:=by
   rw [decide_eq_false_iff_not,Qes (by omega) hi];exact hc
  rw [e];exact done (.inr hc)
 rw [Xk (by omega),Ya hi];simp
theorem Qyu (l:List UInt8) (w:World) (hs:l.length<=140737488355328) :
  Does Yg 57 #[Aa l] w fun v w'=>Heap w [] w' []/\v=Aa (enc l):=by
 refine En [Aa l] 48 Tryz.func57 ?_;refine VS [0] ?_;refine VQ [0,3] fun K hK=>?_;refine ⟨by omega,by omega,Y4 (by omega) (by omega),Y4 (by omega) (by omega),?_⟩;refine Ew Ys Iz ?_;refine Qs ?_;refine ⟨0,l.length+l.length / 4,⟨rfl,rfl,by omega,by omega,by omega⟩,?_⟩;have hH:=(Yz w).row 5 (n:=0) (cap:=l.length+l.length / 4) (sz:=1) [] (Yc (l.length+l.length / 4) (.int .u8 0)) (by simp) (by simp) (by omega) (by omega);simp only [Yl] at hH;generalize w.alloc (Yq (Yc (l.length+l.length / 4) (Y5 IntKind.u8 0)).toArray 5)=w1 at hH ⊢;generalize (some ⟨w.heap.size,0,none⟩:Option Addr)=a at hH ⊢;apply hK;clear hK;refine VS [0,3,4] ?_;refine VB ?_;refine Au [0,3,4] (fun m e w'=>∃ (i:Nat) (o:List UInt8),Is e [(0,Aa l),(3,.slice a o.length (l.length+l.length / 4)),(4,.int .i64 i)]/\Heap w [] w' [Yr 5 1 a o.length (l.length+l.length / 4) (An o)]/\i<=l.length/\enc l=o++enc (l.drop i)/\o.length<=i+i / 4/\m=l.length - i) l.length ?_ ?_
 ·
  refine Qs ?_;exact ⟨0,[],rfl,hH,by omega,rfl,by simp,rfl⟩
 rintro m e w2 ⟨i,o,rfl,hH,h1,h2,h3,rfl⟩;refine VS [0,3,4,16] ?_;refine Ae rfl rfl (fun hlt=>?_) (fun hge=>?_)
 ·
  simp only [decide_eq_true_eq] at hlt;refine Ab (Ar ?_);have hn1:1<=Ca (l.drop i):=L2 _ (by intro h;have:=congrArg Uj h;simp at this;omega);have hn2:=P0 (l.drop i);rw [Xv] at hn2;have hstep:=Rc (l.drop i) (by intro h;have:=congrArg Uj h;simp at this;omega);rw [List.drop_drop] at hstep;refine VQ [0,3,4,5] fun K hK=>?_;refine Ac Tryz.call96 ?_;refine Qs ?_;refine Yk (Qpe l i w2 (by omega) (by omega)) ?_;rintro v w' ⟨rfl,rfl⟩;apply hK;clear hK;generalize hn:Ca (l.drop i)=n at hn1 hn2 hstep ⊢;refine VS [0,3,4,5,21] ?_;refine C8 [0,3,4,5] (fun e w3=>Is e [(0,Aa l),(3,.slice a (o++I8 n (l.drop i)).length (l.length+l.length / 4)),(4,.int .i64 i),(5,.int .i64 n)]/\Heap w [] w3 [Yr 5 1 a (o++I8 n (l.drop i)).length (l.length+l.length / 4) (An (o++I8 n (l.drop i)))]) ?_ ?_
  ·
   refine Ae rfl rfl (fun hn4=>?_) (fun hn4=>?_)
   ·
    simp only [decide_eq_true_eq] at hn4;refine VQ [0,3,4,5] fun K hK=>?_;refine ⟨Y4 (by omega) (by omega),by omega,?_⟩;refine Cd ?_;refine Qs ?_
    have e:I8 n (l.drop i)=List.take (i+n - i) (List.drop i l):=by
     rw [I8,if_pos (by omega)];congr 1;omega
    rw [<- e]
    have el:(o++I8 n (l.drop i)).length<=l.length+l.length / 4:=by
     rw [Yi,Pq _ _ (by simp;omega),if_pos (by omega)];omega
    refine Qhr hH 0 rfl Ys Iz Tryz.underlying9 (fun h=>by omega) fun a' cap' w' hc hH=>?_;obtain ⟨rfl,rfl⟩:=hc el;apply hK;clear hK;refine Ah ?_;refine Qs ?_;exact ⟨rfl,hH⟩
   simp only [decide_eq_false_iff_not] at hn4
   have e:I8 n (l.drop i)=List.take (i+4 - i) (List.drop i l)++[Gj (n - 4)]:=by
    rw [I8,if_neg (by omega)];congr 2;omega
   have el:(o++I8 n (l.drop i)).length<=l.length+l.length / 4:=by
    rw [Yi,Pq _ _ (by simp;omega),if_neg (by omega)];omega
   rw [e,<- Yn] at el ⊢;generalize ht:List.take (i+4 - i) (List.drop i l)=t at el ⊢;have el2:(o++t).length<=l.length+l.length / 4:=by simp at el ⊢;omega
   refine VQ [0,3,4,5] fun K hK=>?_;refine ⟨Y4 (by omega) (by omega),by omega,?_⟩;refine Cd ?_;refine Qs ?_;rw [ht];refine Qhr hH 0 rfl Ys Iz Tryz.underlying9 (fun h=>by omega) fun a' cap' w' hc hH=>?_;obtain ⟨rfl,rfl⟩:=hc el2;apply hK;clear hK;refine VQ [0,3,4,5] fun K hK=>?_;refine ⟨Y4 (by omega) (by omega),?_⟩;refine Kk (xs:=[.tmp 40]) Ys Fg rfl rfl rfl (by omega) ?_;refine Qs ?_;refine ⟨by simp [Xg],?_⟩;refine Cd ?_;refine Qs ?_;refine Sk hH 0 (Gj (n - 4)) rfl Ys Iz (by simp;omega) (fun h=>by omega) fun a' cap' w' hc hH=>?_;obtain ⟨rfl,rfl⟩:=hc el;apply hK;clear hK;refine Ah ?_;refine Qs ?_;exact ⟨rfl,hH⟩
  rintro e w3 ⟨rfl,hH⟩;refine VS [0,3,4] ?_;refine Ao (Ah ?_);refine Qs ?_;refine ⟨l.length - (i+n),by omega,i+n,o++I8 n (l.drop i),rfl,hH,by omega,?_,?_,rfl⟩
  ·
   rw [h2,hstep,Yn]
  rw [Yi,Pq _ _ (by simp;omega)];split <;> omega
 simp only [decide_eq_false_iff_not] at hge;refine As rfl ?_;refine VQ [2] fun K hK=>?_;refine ⟨o,hH.readsBytes 0 rfl,?_⟩;apply hK;clear hK;refine Ad (A0 rfl rfl ⟨hH.sub (by simp),?_⟩);rw [h2,Yt (by omega),Qb,Yu]
def C3:List UInt8->Nat->List UInt8->List UInt8×Int
 | out,same,[]=>if same=4 then ([],30) else (out,0)
 | out,same,c::s =>
  if same=4 then (if 262144 < out.length+c.toNat then ([],3) else C3 (out++Yc c.toNat (out.getLastD 0)) 0 s)
  else if out.length=262144 then ([],3) else C3 (out++[c]) (if 0 < same/\out.getLastD 0=c then same+1 else 1) s
def Tail (out:List UInt8) (k:Nat):Prop:=k<=out.length/\∀ j,j < k->out[out.length - 1 - j]? = some (out.getLastD 0)
theorem Tail.zero (out:List UInt8):Tail out 0:=⟨Nat.zero_le _,fun j hj=>by omega⟩
theorem Tail.one (out:List UInt8) (c:UInt8):Tail (out++[c]) 1:=⟨by simp,fun j hj=>by rw [show j=0 by omega];simp [Ui]⟩
theorem Tail.succ {out:List UInt8}{k:Nat}{c:UInt8} (h:Tail out k) (hc:out.getLastD 0=c):Tail (out++[c]) (k+1):=by
 refine ⟨by have:=h.1;simp;omega,fun j hj=>?_⟩;have e:(out++[c]).getLastD 0=c:=by simp [Ui]
 rw [e];cases j with
 | zero=>simp
 | succ j =>
  have h1:=h.2 j (by omega);have hk:=h.1;rw [Xl (by simp;omega)];rw [show (out++[c]).length - 1 - (j+1)=out.length - 1 - j by simp;omega,h1,hc]
theorem Tail.drop {out:List UInt8}{k:Nat} (h:Tail out k):out.drop (out.length - k)=Yc k (out.getLastD 0):=by
 apply Ga;intro j;rw [Ug,List.getElem?_replicate];split
 ·
  rename_i hj;have:=h.2 (k - 1 - j) (by omega);have hk:=h.1;rw [show out.length - k+j=out.length - 1 - (k - 1 - j) by omega,this]
 rename_i hj;have hk:=h.1;rw [Xk (by omega)]
theorem Qvo (out:List UInt8) (same:Nat) (c:UInt8) (s:List UInt8):C3 out same (c::s) =
  if same=4 then (if 262144 < out.length+c.toNat then ([],3) else C3 (out++Yc c.toNat (out.getLastD 0)) 0 s)
  else if out.length=262144 then ([],3) else C3 (out++[c]) (if 0 < same/\out.getLastD 0=c then same+1 else 1) s:=rfl
def QAa (w:World) (l:List UInt8) (m:Nat) (e:Env) (w':World):Prop :=
 ∃ (i same cap:Nat) (a:Option Addr) (out:List UInt8),Is e [(0,Aa l),(4,.slice a out.length cap),(5,.int .i64 same),(6,.int .i64 i)]/\Heap w [] w' [Yr 5 1 a out.length cap (An out)]/\i<=l.length/\out.length<=262144/\same<=4/\Tail out same/\C3 [] 0 l=C3 out same (l.drop i)/\m=l.length - i
theorem QEa (m c k:Nat) (b:UInt8) (hk:m+k<=c) (ms:List UInt8) (hm:ms.length=c) (hp:ms.take m=Yc m b) :
  (ms.take m++Yc k b++ms.drop (m+k)).length=c/\(ms.take m++Yc k b++ms.drop (m+k)).take (m+k)=Yc (m+k) b:=by
 refine ⟨by simp;omega,?_⟩;rw [hp,X5,List.take_left' (by simp)]
theorem bytesV_take (l:List UInt8) (k:Nat):(An l).take k=An (l.take k):=by simp [An]
theorem bytesV_drop (l:List UInt8) (k:Nat):(An l).drop k=An (l.drop k):=by simp [An]
theorem bytesV_zero (n:Nat):Yc n (Y5 .u8 0)=An (Yc n 0):=by simp [An]
theorem bytesV_get {l:List UInt8}{i:Nat} (h:i < l.length):(An l)[i]? = some (.int .u8 (l.getD i 0).toNat):=by
 simp [An,Ya h,Yb]
theorem Qyv (l:List UInt8) (w:World) (hs:l.length<=140737488355328) :
  Does Yg 130 #[Aa l] w fun v w'=>Heap w [] w' []/\v=.tuple #[Aa (C3 [] 0 l).1,.int .i64 (C3 [] 0 l).2]:=by
 refine En [Aa l] 78 Tryz.func130 ?_;refine VS [0] ?_;(repeat refine Ay ?_);refine Vg ?_;refine VQ [0,4] fun K hK=>?_;refine Kk (xs:=[]) Ys Fg rfl rfl rfl (by omega) ?_;refine Qs ?_;refine ⟨by simp,?_⟩;have hH:=(Yz w).row 5 (n:=0) (cap:=0) (sz:=1) [] [] rfl rfl (by omega) (by omega);simp only [Yu] at hH;generalize w.alloc (Yq (List.toArray []) 5)=w1 at hH ⊢;generalize (some ⟨w.heap.size,0,none⟩:Option Addr)=a at hH ⊢;apply hK;clear hK;refine VS [0,4,5] ?_;refine Ay (Ve ?_);refine VS [0,4,5,6] ?_;refine VB ?_;refine Au [0,4,5,6] (QAa w l) l.length ?_ ?_
 ·
  simp only [V0,Vp,V1,Vr,↓reduceIte,reduceEqDiff];exact ⟨0,0,0,a,[],rfl,hH,by omega,by simp,by omega,Tail.zero _,rfl,rfl⟩
 clear hH;rintro m e w2 ⟨i,same,cap,a,out,rfl,hH,h1,h2,h3,h4,h5,rfl⟩;refine VS [0,4,5,6,13] ?_;refine Ae rfl rfl (fun hlt=>?_) (fun hge=>?_)
 ·
  simp only [decide_eq_true_eq] at hlt;have hlt':i < l.length:=by omega
  have hdrop:l.drop i=l.getD i 0::l.drop (i+1):=by
   rw [Y2 hlt',Yb,Ya hlt'];rfl
  rw [hdrop,Qvo] at h5;have hc255:=(l.getD i 0).toNat_lt
  have fin:∀ (same':Nat) (cap':Nat) (a':Option Addr) (out':List UInt8) (w3:World) (k:List It),Heap w [] w3 [Yr 5 1 a' out'.length cap' (An out')]->out'.length<=262144->same'<=4->Tail out' same'->C3 [] 0 l=C3 out' same' (l.drop (i+1)) ->
    D5 [0,4,5,6] [(0,Aa l),(4,.slice a' out'.length cap'),(5,.int .i64 same'),(6,.int .i64 (↑i+1))] fun e=>∃ m,m < l.length - i/\QAa w l m e w3:=by
   intro same' cap' a' out' w3 k g1 g2 g3 g4 g5;simp only [V0,Vp,V1,Vr,↓reduceIte,reduceEqDiff];exact ⟨l.length - (i+1),by omega,i+1,same',cap',a',out',rfl,g1,by omega,g2,g3,g4,g5,rfl⟩
  refine Ab ?_;refine VB ?_;by_cases hsame:same=4
  ·
   subst hsame;rw [if_pos rfl] at h5;refine VS [0,4,5,6,17] ?_;refine Ae rfl rfl (fun _=>?_) (fun h=>absurd h (by simp));refine VQ [0,4,5,6,25] fun K hK=>?_;refine ⟨by omega,Y4 (by omega) (by omega),Y4 (by omega) (by omega),?_⟩;apply hK;clear hK;generalize hc:l.getD i 0=c at h5 hc255 ⊢;by_cases hbig:262144 < out.length+c.toNat
   ·
    rw [if_pos hbig] at h5;refine Ae rfl rfl (fun _=>?_) (fun h=>?_)
    ·
     refine VS [2,3] ?_;refine Ad (A6 rfl rfl rfl ⟨hH.sub (by simp),?_⟩);rw [h5]
    simp only [decide_eq_false_iff_not] at h;omega
   rw [if_neg hbig] at h5;refine Ae rfl rfl (fun h=>?_) (fun _=>?_)
   ·
    simp only [decide_eq_true_eq] at h;omega
   refine Ab ?_;have h4':=h4.1;obtain ⟨g,rfl⟩:=Fz (hH.at 0 rfl) (by omega);refine VQ [0,4,6,7] fun K hK=>?_;rw [hc];refine ⟨by omega,Y4 (by omega) (by omega),?_⟩;refine Ew Ys Iz ?_;refine Qs ?_;refine ⟨c.toNat,c.toNat,⟨rfl,rfl,by omega,by omega,by omega⟩,?_⟩;have hH2:=hH.row 5 (n:=c.toNat) (cap:=c.toNat) (sz:=1) (Yc c.toNat (.int .u8 0)) [] (by simp) (by simp) (by omega) (by omega);rw [Yu,bytesV_zero] at hH2;rw [bytesV_zero];generalize w2.alloc (Yq (An (Yc c.toNat 0)).toArray 5)=w3 at hH2 ⊢;generalize hg2:w2.heap.size=g2 at hH2 ⊢;apply hK;clear hK;refine VS [0,4,6,7,8] ?_;generalize hb:out.getLastD 0=b at h5;(repeat refine Ay ?_);refine C8 [0,4,6,7] (fun e w'=>Is e [(0,Aa l),(4,.slice (some ⟨g,0,none⟩) out.length cap),(6,.int .i64 i),(7,.slice (some ⟨g2,0,none⟩) c.toNat c.toNat)]/\Heap w [] w' [Yr 5 1 (some ⟨g2,0,none⟩) c.toNat c.toNat (An (Yc c.toNat b)),Yr 5 1 (some ⟨g,0,none⟩) out.length cap (An out)]) ?_ ?_
   ·
    refine Ar ?_;refine Au [0,4,6,7,8] (fun m e w'=>∃ (n:Nat) (ms:List UInt8),Is e [(0,Aa l),(4,.slice (some ⟨g,0,none⟩) out.length cap),(6,.int .i64 i),(7,.slice (some ⟨g2,0,none⟩) c.toNat c.toNat),(8,.int .i64 n)]/\Heap w [] w' [Yr 5 1 (some ⟨g2,0,none⟩) c.toNat c.toNat (An ms),Yr 5 1 (some ⟨g,0,none⟩) out.length cap (An out)]/\n<=c.toNat/\ms.length=c.toNat/\ms.take n=Yc n b/\m=c.toNat - n) c.toNat ?_ ?_
    ·
     simp only [V0,Vp,V1,Vr,↓reduceIte,reduceEqDiff];exact ⟨0,Yc c.toNat 0,rfl,hH2,by omega,by simp,rfl,rfl⟩
    rintro m e w4 ⟨n,ms,rfl,hH3,k1,k2,k3,rfl⟩;refine VS [0,4,6,7,8,34] ?_;refine Ae rfl rfl (fun hn=>?_) (fun hn=>?_)
    ·
     simp only [decide_eq_true_eq] at hn;refine Ab ?_;(repeat refine Ay ?_);refine Ar (Ab (Ao ?_));have hcap:=(QBt (hH3.at 1 rfl)).1;refine VH (holes [g2] w4) (Ext.hole _ _) [0,4,6,7,8] [(0,true),(1,true),(2,true),(3,true),(4,true),(5,true),(6,true),(7,true),(8,true),(9,false),(10,false),(11,false)] fun K hK=>?_;refine ⟨by omega,Y4 (by omega) (by omega),by omega,?_⟩;refine Qdo ?_;refine Qs ?_;rw [if_neg (show ¬ c.toNat=n by omega),if_neg (show ¬ cap=out.length - 4 by omega)];simp only [Option.map_some];have hsrc:=(Az (hH3.at 1 rfl)).drop rfl (out.length - 4) (by omega);rw [Nat.mul_one,bytesV_drop,Tail.drop h4,hb,show out.length - (out.length - 4)=4 by omega] at hsrc;rw [show out.length - (out.length - 4)=4 by omega];refine T4 hH3 0 rfl Ys Fg (off:=n) rfl ⟨rfl,hsrc,5,Ys⟩ (T3 _) (by rw [Pt,k2];omega) fun w5 hu hH4=>?_;refine Qs ?_;have hkk:min 4 (c.toNat - n)<=c.toNat - n:=Nat.min_le_right _ _;have hkk0:0 < min 4 (c.toNat - n):=by omega
     have hk4:min 4 (c.toNat - n)<=4:=Nat.min_le_left _ _;generalize min 4 (c.toNat - n)=kk at hH4 hkk hkk0 hk4 ⊢;refine ⟨hu.extH,Y4 (by omega) (by omega),?_⟩;apply hK;clear hK;refine Ah ?_;simp only [V0,Vp,V1,Vr,↓reduceIte,reduceEqDiff]
     have hset:(An ms).take n++(An (Yc 4 b)).take (kk * 1)++(An ms).drop (n+kk * 1)=An (ms.take n++Yc kk b++ms.drop (n+kk)):=by
      rw [Nat.mul_one,bytesV_take,bytesV_take,bytesV_drop,List.take_replicate,Nat.min_eq_left hk4,Q1,Q1]
     rw [hset] at hH4;obtain ⟨r1,r2⟩:=QEa n c.toNat kk b (by omega) ms k2 k3;exact ⟨c.toNat - (n+kk),by omega,n+kk,_,rfl,hH4,by omega,r1,r2,rfl⟩
    simp only [decide_eq_false_iff_not] at hn;refine As rfl ?_;refine Ah ?_;refine Qs ?_;refine ⟨rfl,?_⟩
    have hms:ms=Yc c.toNat b:=by
     rw [<- Yp (show ms.length<=n by omega),k3];congr 1;omega
    rw [hms] at hH3;exact hH3
   rintro e w4 ⟨rfl,hH3⟩;refine VQ [0,4,6] fun K hK=>?_;refine Cd ?_;refine Qs ?_;refine Qqh hH3 1 rfl Ys Iz (t:=Yc c.toNat b) (by simp) (by simpa using Az (hH3.at 0 rfl)) (fun h=>by simp;omega) fun a' cap' w5 hc' hH4=>?_;apply hK;clear hK;refine VS [0,4,5,6] ?_;refine As rfl ?_;refine VS [0,4,5,6] ?_;refine Ah ?_;exact fin 0 cap' a' _ w5 [] (hH4.sub (by simp)) (by simp;omega) (by omega) (Tail.zero _) h5
  rw [if_neg hsame] at h5;generalize hsm:(if 0 < same/\out.getLastD 0=l.getD i 0 then same+1 else 1)=same' at h5
  have hsame':same'<=4/\Tail (out++[l.getD i 0]) same':=by
   rw [<- hsm];split
   ·
    rename_i h;exact ⟨by omega,Tail.succ h4 h.2⟩
   exact ⟨by omega,Tail.one _ _⟩
  refine VS [0,4,5,6,17] ?_;refine Ae rfl rfl (fun h=>absurd h (by simp;omega)) (fun _=>?_);refine Ab ?_;refine Ay (C8 [0,4,5,6] (fun e w'=>Is e [(0,Aa l),(4,.slice a out.length cap),(5,.int .i64 same'),(6,.int .i64 i)]/\Is w' w2) ?_ ?_)
  ·
   have yes:0 < same/\out.getLastD 0=l.getD i 0->VC ⟨Yg,Tryz.f130,fun v w'=>Heap w [] w' []/\v=.tuple #[Aa (C3 [] 0 l).1,.int .i64 (C3 [] 0 l).2],78⟩ [] [] w2->True:=fun _ _=>trivial;clear yes;by_cases hs0:0 < same
   ·
    have h4':=h4.1;obtain ⟨g,rfl⟩:=Fz (hH.at 0 rfl) (by omega)
    have hcell:w2.cell? ⟨g,out.length - 1,none⟩=some (.int .u8 (out.getLastD 0).toNat):=by
     refine Cm (hH.at 0 rfl) ?_;have h1':=h4.2 0 hs0;simp only [An,Y8];rw [show out.length - 1=out.length - 1 - 0 by omega,h1'];rfl
    refine Vq [0,4,5,6,62] fun K hK=>?_;refine ⟨fun _=>⟨by omega,Y4 (by omega) (by omega),by omega,_,hcell,?_⟩,fun h=>absurd (show (0:Int) < same by omega) h⟩;refine Qs ?_;apply hK;clear hK;refine VD (fun h=>?_) (fun h=>?_)
    ·
     have hl:out.getLastD 0=l.getD i 0:=(Uc.1 (by omega));rw [if_pos ⟨hs0,hl⟩] at hsm;subst hsm;refine VS [0,4,5,6] ?_;refine Ah ?_;refine Qs ?_;exact ⟨rfl,rfl⟩
    have hl:¬ out.getLastD 0=l.getD i 0:=fun h'=>h (by rw [h']);rw [if_neg (fun h=>hl h.2)] at hsm;subst hsm;refine VS [0,4,5,6] ?_;refine Ah ?_;refine Qs ?_;exact ⟨rfl,rfl⟩
   have:same=0:=by omega
   subst this;rw [if_neg (by omega)] at hsm;subst hsm;refine Vq [0,4,5,6,62] fun K hK=>?_;refine ⟨fun h=>absurd h (by omega),fun _=>?_⟩;apply hK;clear hK;refine Ae rfl rfl (fun h=>by cases h) (fun _=>?_);refine VS [0,4,5,6] ?_;refine Ah ?_;refine Qs ?_;exact ⟨rfl,rfl⟩
  rintro e w3 ⟨rfl,rfl⟩;refine VS [0,4,5,6,67] ?_;by_cases hfull:out.length=262144
  ·
   rw [if_pos hfull] at h5;refine Ae rfl rfl (fun _=>?_) (fun h=>absurd h (by simp;omega));refine VS [2,3] ?_;refine Ad (A6 rfl rfl rfl ⟨hH.sub (by simp),?_⟩);rw [h5]
  rw [if_neg hfull] at h5;refine Ae rfl rfl (fun h=>absurd h (by simp;omega)) (fun _=>?_);refine Ab ?_;refine VQ [0,4,5,6] fun K hK=>?_;refine ⟨by omega,?_⟩;refine Kk (xs:=[.tmp 71]) Ys Fg rfl rfl rfl (by omega) ?_;refine Qs ?_;refine ⟨by simp [Xg],?_⟩;refine Cd ?_;refine Qs ?_;refine Sk hH 0 (l.getD i 0) rfl Ys Iz rfl (fun h=>by simp;omega) fun a' cap' w5 hc' hH4=>?_;apply hK;clear hK;refine Ao ?_;refine VS [0,4,5,6] ?_;refine Ah ?_;exact fin same' cap' a' _ w5 [] hH4 (by simp;omega) hsame'.1 hsame'.2 h5
 simp only [decide_eq_false_iff_not] at hge;rw [Yt (by omega)] at h5;refine As rfl ?_;refine VS [4,75,5] ?_;by_cases hsame:same=4
 ·
  subst hsame;refine Ae rfl rfl (fun _=>?_) (fun h=>absurd h (by simp));refine VS [2,3] ?_;refine Ad (A6 rfl rfl rfl ⟨hH.sub (by simp),?_⟩);rw [h5];rfl
 refine Ae rfl rfl (fun h=>absurd h (by simp;omega)) (fun _=>?_);refine Ab ?_;refine VQ [2,3] fun K hK=>?_;refine ⟨out,hH.readsBytes 0 rfl,?_⟩;apply hK;clear hK;refine Ad (A6 rfl rfl rfl ⟨hH.sub (by simp),?_⟩);rw [h5];simp [C3,hsame]
def Fs (n:Nat):Nat:=if n<=3 then n else 5
def Th:Nat->List UInt8->Int->Nat
 | 0,_,_=>0
 | _+1,[],_=>0
 | f+1,x::l,left =>
  if left < (Fs (Ca (x::l)):Int) then (max 0 (min left 3)).toNat
  else Ca (x::l)+Th f ((x::l).drop (Ca (x::l))) (left - (Fs (Ca (x::l)):Int))
theorem Qvp (f:Nat):∀ (g:Nat) (l:List UInt8) (left:Int),l.length<=f->l.length<=g->Th f l left=Th g l left:=by
 induction f with
 | zero =>
  intro g l left h1 h2;have:l=[]:=Xa (by omega);subst this;cases g <;> rfl
 | succ f ih =>
  intro g l left h1 h2;cases l with
  | nil=>cases g <;> rfl
  | cons x l =>
   cases g with
   | zero=>simp at h2
   | succ g =>
    have hp:=L2 (x::l) (by simp);simp only [Th];simp only [Y1] at h1 h2;rw [ih g ((x::l).drop (Ca (x::l))) _ (by simp;omega) (by simp;omega)]
def C7 (l:List UInt8) (left:Int):Nat:=Th l.length l left
theorem Ql3 (left:Int):C7 [] left=0:=rfl
theorem Qh5 (l:List UInt8) (left:Int) (h:l≠[]) :
  C7 l left=if left < (Fs (Ca l):Int) then (max 0 (min left 3)).toNat else Ca l+C7 (l.drop (Ca l)) (left - (Fs (Ca l):Int)):=by
 cases l with
 | nil=>exact absurd rfl h
 | cons x l =>
  have hp:=L2 (x::l) (by simp);rw [C7,Y1,Th];rw [Qvp l.length ((x::l).drop (Ca (x::l))).length ((x::l).drop (Ca (x::l))) _ (by simp;omega) (Xf _)];rfl
theorem Qyw (l:List UInt8) (most:Int) (hm:I64 most) (w:World) (hs:l.length<=140737488355328) :
  Does Yg 56 #[Aa l,.int .i64 most] w fun v w'=>w'=w/\v=.int .i64 (C7 l most):=by
 refine En [Aa l,.int .i64 most] 40 Tryz.func56 ?_;have hm1:=hm.1;have hm2:=hm.2;refine VS [0,1] ?_;refine VS [0,1,5] ?_;refine VS [0,1,5,6] ?_;refine VB ?_;refine Au [0,1,5,6] (fun m e w'=>∃ (i:Nat) (used:Int),Is e [(0,Aa l),(1,.int .i64 most),(5,.int .i64 used),(6,.int .i64 i)]/\Is w' w/\i<=l.length/\0<=used/\used<=2 * i/\(used=0∨used<=most)/\C7 l most=i+C7 (l.drop i) (most - used)/\m=l.length - i) l.length ?_ ?_
 ·
  refine Qs ?_;exact ⟨0,0,rfl,rfl,by omega,by omega,by omega,.inl rfl,by simp,by omega⟩
 rintro m e w' ⟨i,used,rfl,rfl,g1,g2,g3,g4,g5,rfl⟩;refine VS [0,1,5,6,12] ?_;refine Ae rfl rfl (fun hlt=>?_) (fun hge=>?_)
 ·
  simp only [decide_eq_true_eq] at hlt;refine Ab (Ar ?_);have hne:l.drop i≠[]:=by intro h;have:=congrArg Uj h;simp at this;omega
  have hp:=L2 _ hne;have hle:=P0 (l.drop i);simp only [Xv] at hle;have hst:=Qh5 (l.drop i) (most - used) hne;generalize hn:Ca (l.drop i)=n at hp hle hst;have hc0:(Fs n:Int)<=2 * n:=by simp only [Fs];split <;> omega
  have hc1:0<=(Fs n:Int):=by omega
  refine VQ [0,1,5,6,7] fun K hK=>?_;refine Ac Tryz.call96 ?_;refine Qs ?_;refine Yk (Qpe l i w' (by omega) (by omega)) ?_;rintro v w2 ⟨rfl,rfl⟩;rw [hn];apply hK;clear hK;refine VS [0,1,5,6,7,8] ?_;refine VS [0,1,5,6,7,8,19] ?_;refine C8 [0,1,5,6,7,8] (fun e w3=>Is e [(0,Aa l),(1,.int .i64 most),(5,.int .i64 used),(6,.int .i64 i),(7,.int .i64 n),(8,.int .i64 (Fs n:Nat))]/\Is w3 w2) ?_ ?_
  ·
   refine Ae rfl rfl (fun hn4=>?_) (fun hn4=>?_)
   ·
    simp only [decide_eq_true_eq] at hn4;refine VS [0,1,5,6,7,8] ?_;refine Ah ?_;refine Qs ?_;exact ⟨by rw [Fs,if_neg (by omega)];rfl,rfl⟩
   simp only [decide_eq_false_iff_not] at hn4;refine Ab (Ah ?_);refine Qs ?_;exact ⟨by rw [Fs,if_pos (by omega),Int.min_eq_left (by omega)];rfl,rfl⟩
  rintro e w3 ⟨rfl,rfl⟩;refine VS [0,1,5,6,7,8,24] ?_;refine Ae rfl rfl (fun hc=>?_) (fun hc=>?_)
  ·
   simp only [decide_eq_true_eq] at hc;refine VS [4] ?_;refine Ad (A0 rfl rfl ⟨rfl,?_⟩);rw [g5,hst,if_pos (by omega)];have:((i+(max 0 (min (most - used) 3)).toNat:Nat):Int)=i+max 0 (min (most - used) 3):=by omega
   rw [this]
  simp only [decide_eq_false_iff_not] at hc;refine Ab ?_;refine VS [0,1,5,6,7] ?_;refine VS [0,1,5,6] ?_;refine Ao (Ah ?_);refine Qs ?_;refine ⟨l.length - (i+n),by omega,i+n,used+Fs n,rfl,rfl,by omega,by omega,by omega,.inr (by omega),?_,rfl⟩;rw [g5,hst,if_neg (by omega),List.drop_drop];have e1:most - used - (Fs n:Int)=most - (used+(Fs n:Int)):=by omega
  rw [e1];omega
 simp only [decide_eq_false_iff_not] at hge;refine As rfl ?_;refine VS [4] ?_;refine Ad (A0 rfl rfl ⟨rfl,?_⟩);have:i=l.length:=by omega
 rw [g5,this];simp [Ql3]
theorem Qyx {l:List Nat}{n i:Nat} (h:i∈F9 l n):i < l.length:=(Zw.1 h).1
theorem Qvq (l:List Nat):∀ (r:List Bool) (n code:Nat) (q:Nat×Nat),Fl l r n code=.ok q->q.1 < l.length/\n < q.2/\q.2<=n+r.length:=by
 intro r
 induction r with
 | nil=>intro n code q h;simp [Fl] at h
 | cons b r ih =>
  intro n code q h;rw [Fl] at h;split at h
  ·
   rename_i hc;cases h;refine ⟨?_,by simp,by simp⟩;have hlt:2 * code+b.toNat - Bv l (n+1) < (F9 l (n+1)).length:=by unfold B5 at hc;omega
   have:=X8 hlt;rw [Yb,Ya hlt];exact Qyx this
  split at h
  ·
   have:=ih _ _ _ h;simp only [Y1];omega
  cases h
theorem Qrp (l:List Nat):∀ (r:List Bool) (n code:Nat) (e:Int),Fl l r n code=.error e->e≠0:=by
 intro r
 induction r with
 | nil=>intro n code e h;simp [Fl] at h;omega
 | cons b r ih =>
  intro n code e h;rw [Fl] at h;split at h
  ·
   cases h
  split at h
  ·
   exact ih _ _ _ h
  cases h;decide
theorem Qvr {l:List Nat}{bits:List Bool}{at_:Nat}{q:Nat×Nat} (h:I9 l bits at_=.ok q):q.1 < l.length/\at_ < q.2/\q.2<=bits.length:=by
 unfold I9 at h;split at h
 ·
  rename_i p hp;cases h;have:=Qvq l _ _ _ _ hp;rw [Xv] at this;simp only;omega
 cases h
theorem Qrq {l:List Nat}{bits:List Bool}{at_:Nat}{e:Int} (h:I9 l bits at_=.error e):e≠0:=by
 unfold I9 at h;split at h
 ·
  cases h
 rename_i e' hp;cases h;exact Qrp l _ _ _ _ hp
theorem Qju {l:List Nat}{bits:List Bool}{fin:Nat}:∀ (n at_:Nat) (q:List Nat×Nat),at_<=bits.length->Dg l bits fin n at_=.ok q->(∀ x∈q.1,x < l.length)/\q.1.length<=n/\q.2<=bits.length/\at_<=q.2:=by
 intro n
 induction n with
 | zero=>intro at_ q ha h;rw [Dg] at h;cases h;simp [ha]
 | succ n ih =>
  intro at_ q ha h;rw [Dg] at h;cases hn:I9 l bits at_ with
  | error e=>rw [hn] at h;cases h
  | ok p =>
   rw [hn] at h;simp only at h;obtain ⟨h1,h2,h3⟩:=Qvr hn;split at h
   ·
    cases h;refine ⟨by simpa using h1,by simp,h3,by simp only;omega⟩
   cases hr:Dg l bits fin n p.2 with
   | error e=>rw [hr] at h;cases h
   | ok q' =>
    rw [hr] at h;cases h;obtain ⟨g1,g2,g3,g4⟩:=ih _ _ h3 hr;refine ⟨fun x hx=>?_,by simp only [Y1];omega,g3,by simp only;omega⟩;rcases Ua.1 hx with rfl | hx
    ·
     exact h1
    exact g1 x hx
theorem Qrr {l:List Nat}{bits:List Bool}{fin:Nat}:∀ (n at_:Nat) (e:Int),Dg l bits fin n at_=.error e->e≠0:=by
 intro n
 induction n with
 | zero=>intro at_ e h;rw [Dg] at h;cases h
 | succ n ih =>
  intro at_ e h;rw [Dg] at h;cases hn:I9 l bits at_ with
  | error e'=>rw [hn] at h;cases h;exact Qrq hn
  | ok p =>
   rw [hn] at h;simp only at h;split at h
   ·
    cases h
   cases hr:Dg l bits fin n p.2 with
   | error e'=>rw [hr] at h;cases h;exact ih _ _ hr
   | ok q'=>rw [hr] at h;cases h
theorem Qjv {T:List (List Nat)}{bits:List Bool}{fin N:Nat} (hT:∀ t,t < T.length->(T.getD t []).length=N):∀ (P:List Nat) (at_:Nat) (q:List Nat×Nat),(∀ k∈P,k < T.length)->at_<=bits.length->E5 T bits fin P at_=.ok q ->
  (∀ x∈q.1,x < N)/\q.1.length<=50 * P.length/\q.2<=bits.length:=by
 intro P
 induction P with
 | nil=>intro at_ q _ _ h;rw [E5] at h;cases h
 | cons p P ih =>
  intro at_ q hP ha h;rw [E5] at h;have hp:=hT p (hP p (by simp));cases hn:Dg (T.getD p []) bits fin 50 at_ with
  | error e=>rw [hn] at h;cases h
  | ok q1 =>
   rw [hn] at h;simp only at h;obtain ⟨h1,h2,h3,h4⟩:=Qju _ _ _ ha hn;rw [hp] at h1;split at h
   ·
    cases h;refine ⟨h1,by simp only [Y1];omega,h3⟩
   cases hr:E5 T bits fin P q1.2 with
   | error e=>rw [hr] at h;cases h
   | ok q' =>
    rw [hr] at h;cases h;obtain ⟨g1,g2,g3⟩:=ih _ _ (fun k hk=>hP k (by simp [hk])) h3 hr;refine ⟨fun x hx=>?_,by simp only [Y1,Yi];omega,g3⟩;rcases Xs.1 hx with hx | hx
    ·
     exact h1 x hx
    exact g1 x hx
theorem Qg7 {T:List (List Nat)}{bits:List Bool}{fin:Nat}:∀ (P:List Nat) (at_:Nat) (e:Int),E5 T bits fin P at_=.error e->e≠0:=by
 intro P
 induction P with
 | nil=>intro at_ e h;rw [E5] at h;cases h;decide
 | cons p P ih =>
  intro at_ e h;rw [E5] at h;cases hn:Dg (T.getD p []) bits fin 50 at_ with
  | error e'=>rw [hn] at h;cases h;exact Qrr _ _ _ hn
  | ok q1 =>
   rw [hn] at h;simp only at h;split at h
   ·
    cases h
   cases hr:E5 T bits fin P q1.2 with
   | error e'=>rw [hr] at h;cases h;exact ih _ _ hr
   | ok q'=>rw [hr] at h;cases h
theorem QEb {n most:Int} (hn:n<=256):∀ (r out:List Int) (wt:Nat),(out.length:Int)<=most->(∀ x∈out,0<=x/\x<=256)->((Iw n most out wt r).1.length:Int)<=most/\∀ x∈(Iw n most out wt r).1,0<=x/\x<=256:=by
 intro r
 induction r with
 | nil=>intro out wt h _;rw [Iw];simp;omega
 | cons s r ih =>
  intro out wt h ho;rw [Iw];split
  ·
   simp;omega
  split
  ·
   split
   ·
    simp;omega
   refine ih _ _ ?_ ?_
   ·
    rename_i h1 h2 h3;have h4:0<=(s+1) * (wt:Int):=Int.mul_nonneg (by omega) (by omega);rw [Yi,Uz];omega
   intro x hx;rcases Xs.1 hx with hx | hx
   ·
    exact ho x hx
   rw [List.mem_replicate] at hx;omega
  split
  ·
   cases r with
   | nil=>exact ⟨h,ho⟩
   | cons x r=>rw [Wo];split <;> (simp;omega)
  split
  ·
   simp;omega
  refine ih _ _ (by rw [Yi,Yy];omega) fun x hx=>?_;rcases Xs.1 hx with hx | hx
  ·
   exact ho x hx
  simp at hx;omega
theorem Qrs {n most:Int} (l:List Int):(Kq n most l).1.length<=262144/\∀ x∈(Kq n most l).1,0<=x/\x<=256:=by
 unfold Kq;split
 ·
  simp
 have:=QEb (n:=n) (most:=most) (by omega) l [] 1 (by simp;omega) (by simp);exact ⟨by omega,this.2⟩
theorem Qiw:∀ (l:List Int) (li out:List UInt8),Mp li l=some out->out.length=l.length:=by
 intro l
 induction l with
 | nil=>intro li out h;simp [Mp] at h;subst h;rfl
 | cons x l ih =>
  intro li out h;unfold Mp at h;split at h
  ·
   simp only [Option.map_eq_some_iff] at h;obtain ⟨o,ho,rfl⟩:=h;simp [ih _ _ ho]
  cases h
theorem Qlb (u:List UInt8) (l:List Int):(K0 u l).1.length<=l.length:=by
 unfold K0;split
 ·
  split
  ·
   simp
  rename_i out h;exact Nat.le_of_eq (Qiw _ _ _ h)
 simp
theorem Qrt (L:List UInt8) (P:List Nat):∀ (k row:Nat),(Ll L P k row).length=k:=by
 intro k
 induction k with
 | zero=>intro row;rfl
 | succ k ih=>intro row;simp [Ll,ih]
theorem Qyy (L:List UInt8) (row:Int):(Lv L row).1.length<=262144:=by
 unfold Lv;split
 ·
  simp
 split
 ·
  simp
 simp only [Qrt];omega
theorem QEc:∀ (l out:List UInt8) (k:Nat),out.length<=262144->(C3 out k l).1.length<=262144:=by
 intro l
 induction l with
 | nil=>intro out k h;rw [C3];split <;> simp <;> omega
 | cons c l ih =>
  intro out k h;rw [C3];split
  ·
   split
   ·
    simp
   exact ih _ _ (by simp;omega)
  split
  ·
   simp
  exact ih _ _ (by simp;omega)
theorem Qlc (i:Nat) (row:List Bool):(Pz i row).length<=16:=by
 unfold Pz;rw [Uv];have:=Uy (fun k=>row.getD k false) (Yf 16);simpa using this
theorem QEd {bits:List Bool}:∀ (r:List Bool) (i at_:Nat) (q:List UInt8×Nat),at_<=bits.length->Dt bits r i at_=.ok q->q.2<=bits.length/\q.1.length<=16 * r.length:=by
 intro r
 induction r with
 | nil=>intro i at_ q ha h;rw [Dt] at h;cases h;simp [ha]
 | cons b r ih =>
  intro i at_ q ha h;cases b with
  | false=>rw [Dt] at h;have:=ih _ _ _ ha h;simp only [Y1];omega
  | true =>
   rw [Dt] at h;split at h
   ·
    cases h
   cases hr:Dt bits r (i+1) (at_+16) with
   | error e=>rw [hr] at h;cases h
   | ok q' =>
    rw [hr] at h;cases h;have h1:=ih _ _ _ (by omega) hr;have h2:=Qlc i ((bits.drop at_).take 16);simp only [Y1,Yi];omega
theorem Qyz {bits:List Bool}:∀ (r:List Bool) (i at_:Nat) (e:Int),Dt bits r i at_=.error e->e≠0:=by
 intro r
 induction r with
 | nil=>intro i at_ e h;rw [Dt] at h;cases h
 | cons b r ih =>
  intro i at_ e h;cases b with
  | false=>rw [Dt] at h;exact ih _ _ _ h
  | true =>
   rw [Dt] at h;split at h
   ·
    cases h;decide
   cases hr:Dt bits r (i+1) (at_+16) with
   | error e'=>rw [hr] at h;cases h;exact ih _ _ _ hr
   | ok q'=>rw [hr] at h;cases h
theorem Qet {bits:List Bool}{at_:Nat}{q:List UInt8×Nat} (h:L4 bits at_=.ok q):q.2<=bits.length/\1<=q.1.length/\q.1.length<=256:=by
 unfold L4 at h;split at h
 ·
  cases h
 cases hr:Dt bits ((bits.drop at_).take 16) 0 (at_+16) with
 | error e=>rw [hr] at h;cases h
 | ok q' =>
  rw [hr] at h;simp only at h;split at h
  ·
   cases h
  rename_i hne;cases h;have h1:=QEd _ _ _ _ (by omega) hr;have h2:((bits.drop at_).take 16).length<=16:=by rw [Xi];omega
  have h3:0 < q.1.length:=by
   cases hq:q.1 with
   | nil=>exact absurd hq hne
   | cons a b=>simp
  omega
theorem Qc5 {bits:List Bool}{at_:Nat}{e:Int} (h:L4 bits at_=.error e):e≠0:=by
 unfold L4 at h;split at h
 ·
  cases h;decide
 cases hr:Dt bits ((bits.drop at_).take 16) 0 (at_+16) with
 | error e'=>rw [hr] at h;cases h;exact Qyz _ _ _ _ hr
 | ok q' =>
  rw [hr] at h;simp only at h;split at h
  ·
   cases h;decide
  cases h
theorem Qvs (n most:Int) (l:List Int) (la:Option Addr) (lc:Nat) (hn:I64 n) (hm:I64 most) (w:World) (hl:RS w la l.length 1 (Bb l)) (hs:l.length<=2147483640) (hi:∀ v∈l,I64 v) :
  Does Yg 127 #[.int .i64 n,.int .i64 most,.slice la l.length lc] w (IntsErr (Kq n most l) w):=by
 obtain ⟨hn1,hn2⟩:=hn;obtain ⟨hm1,hm2⟩:=hm;refine En [.int .i64 n,.int .i64 most,.slice la l.length lc] 98 Tryz.func127 ?_;refine Am [0,1,2] fun K hK=>?_;apply hK;clear hK;refine Am [0,1,2,26] fun K hK=>?_
 suffices out:∀ b:Bool,(b=true ↔ n < 1∨256 < n∨most < 0∨262144 < most)->K [(0,.int .i64 n),(1,.int .i64 most),(2,.slice la l.length lc),(26,.bool b)] w by (repeat' (first | exact out _ _ (by first | omega | (simp;done) | (simp;omega)) | exact out _ (by first | omega | (simp;done) | (simp;omega)) | refine ⟨fun _=>?_,fun _=>?_⟩ | refine Qo ?_))
 intro b hb;apply hK;clear hK;refine Ae rfl rfl (fun h=>?_) (fun h=>Ab ?_)
 ·
  refine Am [6,7] fun K hK=>?_;apply hK;clear hK;refine Ad (A6 rfl rfl rfl ?_);rw [Kq,if_pos (hb.1 h)];exact IntsErr.nil (Yz w) 2
 have hg:¬ (n < 1∨256 < n∨most < 0∨262144 < most):=fun h'=>by rw [hb.2 h'] at h;cases h
 clear h hb;rw [Kq,if_neg hg];refine Am [0,1,2,8] fun K hK=>?_;apply hK;clear hK;refine Am [0,1,2,8,9,10] fun K hK=>?_;apply hK;clear hK;refine Am [0,1,2,8,9,10,27,28,29] fun K hK=>?_;apply hK;clear hK
 ((repeat refine Ay ?_);refine Ar ?_)
 refine Au [0,1,2,8,9,10,27,28,29] (fun m e w'=>∃ (i run wt cap:Nat) (a:Option Addr) (o:List Int),Is e [(0,.int .i64 n),(1,.int .i64 most),(2,.slice la l.length lc),(8,.slice a o.length cap),(9,.int .i64 run),(10,.int .i64 wt),(27,.slice la l.length lc),(28,.int .i64 l.length),(29,.int .i64 i)]/\Heap w [] w' [Yr 3 1 a o.length cap (Bb o)]/\i<=l.length/\(o.length:Int)+run<=most/\wt<=2 * most+1/\1<=wt/\Iw n most [] 1 l=Iw n most (o++Yc run 0) wt (l.drop i)/\m=l.length - i) l.length ?_ ?_
 ·
  refine Qi ?_;exact ⟨0,0,1,0,none,[],rfl,Vh,by omega,by simp;omega,by omega,by omega,rfl,rfl⟩
 rintro m e w2 ⟨i,run,wt,cap,a,o,rfl,hH,g1,g2,g3,g4,g5,rfl⟩;refine Am [0,1,2,8,9,10,27,28,29,30] fun K hK=>?_;apply hK;clear hK;(repeat refine Ay ?_);refine VD (fun h=>?_) (fun h=>?_)
 ·
  refine Ab ?_
  ((repeat refine Ay ?_);refine Ar ?_)
  obtain ⟨p,rfl⟩:=rs_pos hl (by omega);have hc:=Rl (hH.rs' hl) (show i < l.length by omega);have hr:=hi _ (Dm 0 (show i < l.length by omega));have hdr:=drop_getD 0 (show i < l.length by omega);generalize l.getD i 0=s at *;obtain ⟨hr1,hr2⟩:=hr;rw [hdr] at g5;refine Am [0,1,2,8,9,10,11,12,27,28,29] fun K hK=>?_;refine ⟨⟨by omega,by omega⟩,_,hc,?_⟩;apply hK;clear hK;refine Am [0,1,2,8,9,10,11,12,27,28,29,41] fun K hK=>?_
  suffices out:∀ c:Bool,(c=true ↔ s < 0∨n+1 < s)->K [(0,.int .i64 n),(1,.int .i64 most),(2,.slice (some p) l.length lc),(8,.slice a o.length cap),(9,.int .i64 run),(10,.int .i64 wt),(11,.int .i64 i),(12,.int .i64 s),(27,.slice (some p) l.length lc),(28,.int .i64 l.length),(29,.int .i64 i),(41,.bool c)] w2 by (repeat' (first | exact out _ _ (by first | omega | (simp;done) | (simp;omega)) | exact out _ (by first | omega | (simp;done) | (simp;omega)) | refine ⟨fun _=>?_,fun _=>?_⟩ | refine Qo ?_))
  intro c hb;apply hK;clear hK;refine Ae rfl rfl (fun h=>?_) (fun h=>Ab ?_)
  ·
   refine Am [6,7] fun K hK=>?_;apply hK;clear hK;refine Ad (A6 rfl rfl rfl ?_);have hg2:=hb.1 h;rw [Iw,if_pos hg2] at g5;rw [g5];exact IntsErr.nil (hH.sub (by simp)) 60
  have hg2:¬ (s < 0∨n+1 < s):=fun h'=>by rw [hb.2 h'] at h;cases h
  clear h hb;rw [Iw,if_neg hg2] at g5;refine Am [0,1,2,8,9,10,11,12,27,28,29,43] fun K hK=>?_;apply hK;clear hK;refine VD (fun h=>?_) (fun h=>?_)
  ·
   rw [if_pos h,Yi,Uz] at g5;obtain ⟨t,rfl⟩:∃ t:Nat,s=t:=⟨s.toNat,by omega⟩;have ht:t=0∨t=1:=by omega
   have hmul:((t:Int)+1) * wt<=2 * wt/\(wt:Int)<=((t:Int)+1) * wt:=by
    rcases ht with rfl | rfl <;> simp <;> omega
   generalize hk:((t:Int)+1) * wt=k at *;refine Am [0,1,2,8,9,10,12,27,28,29,59] fun K hK=>?_;rw [hk]
   suffices out:∀ c:Bool,(c=true ↔ most - o.length - run < k)->K [(0,.int .i64 n),(1,.int .i64 most),(2,.slice (some p) l.length lc),(8,.slice a o.length cap),(9,.int .i64 run),(10,.int .i64 wt),(12,.int .i64 t),(27,.slice (some p) l.length lc),(28,.int .i64 l.length),(29,.int .i64 i),(59,.bool c)] w2 by (repeat' (first | exact out _ _ (by first | omega | (simp;done) | (simp;omega)) | exact out _ (by first | omega | (simp;done) | (simp;omega)) | refine ⟨fun _=>?_,fun _=>?_⟩ | refine Qo ?_))
   intro c hb;apply hK;clear hK;refine Ae rfl rfl (fun h=>?_) (fun h=>Ab ?_)
   ·
    refine Am [6,7] fun K hK=>?_;apply hK;clear hK;refine Ad (A6 rfl rfl rfl ?_);have:=hb.1 h;rw [if_pos (by omega)] at g5;rw [g5];exact IntsErr.nil (hH.sub (by simp)) 3
   have hg3:¬ (most - o.length - run < k):=fun h'=>by rw [hb.2 h'] at h;cases h
   clear h hb;rw [if_neg (by omega)] at g5;refine Am [0,1,2,8,9,10,27,28,29] fun K hK=>?_;rw [hk];(repeat refine Qo ?_);apply hK;clear hK;refine Am [0,1,2,8,9,10,27,28,29] fun K hK=>?_;(repeat refine Qo ?_);apply hK;clear hK;refine As rfl ?_;refine Am [0,1,2,8,9,10,27,28,29] fun K hK=>?_;(repeat refine Qo ?_);apply hK;clear hK;refine Ah ?_;refine Qi ?_;rw [Yn,X5] at g5;exact ⟨l.length - (i+1),by omega,i+1,run+k.toNat,2 * wt,_,_,_,by simp [Is];omega,hH,by omega,by omega,by omega,by omega,g5,rfl⟩
  rw [if_neg h] at g5;refine Ab ?_;refine Am [0,1,2,8,11,12,27,28,29] fun K hK=>?_;refine Cd ?_;refine Qi ?_;have el:o.length+run=(o++Yc run 0).length:=by simp
  refine Qql hH 0 rfl rfl Ye E0 Tryz.underlying3 rfl (by omega) fun a' cap' w5 hc' hH4=>?_;rw [intsV_zero,<- Qan,el] at hH4;rw [el];apply hK;clear hK;generalize ho2:o++Yc run 0=o2 at *;refine Am [0,1,2,8,9,10,11,12,27,28,29] fun K hK=>?_;apply hK;clear hK;refine Am [0,1,2,8,9,10,11,12,27,28,29,74] fun K hK=>?_;(repeat refine Qo ?_);apply hK;clear hK;refine Ae rfl rfl (fun h'=>?_) (fun h'=>?_)
  ·
   simp only [decide_eq_true_eq] at h';rw [if_pos h'] at g5;refine Am [0,2,8,11,79] fun K hK=>?_;(repeat refine Qo ?_);apply hK;clear hK;refine Ae rfl rfl (fun hx=>?_) (fun hx=>?_)
   ·
    simp only [decide_eq_true_eq] at hx;have hc2:=Rl (hH4.rs' hl) (show i+1 < l.length by omega);have hr:=hi _ (Dm 0 (show i+1 < l.length by omega));have hdr2:=drop_getD 0 (show i+1 < l.length by omega);generalize l.getD (i+1) 0=x at *;rw [hdr2,Wo] at g5;refine Am [6,7] fun K hK=>?_;refine ⟨Y4 (by omega) (by omega),⟨by omega,by omega⟩,_,hc2,?_⟩;refine Ac Tryz.call168 ?_;refine Qi ?_;refine Yk (Qnn n x ⟨hn1,hn2⟩ (by omega) hr w5) ?_;rintro v w6 ⟨rfl,rfl⟩;apply hK;clear hK;refine Ad (A6 rfl rfl rfl ?_);rw [g5];split
    ·
     exact IntsErr.nil (hH4.sub (by simp)) 60
    exact IntsErr.nil (hH4.sub (by simp)) 70
   simp only [decide_eq_false_iff_not] at hx;refine Ab ?_;refine Am [6,7] fun K hK=>?_;apply hK;clear hK;refine Ad (A6 rfl rfl rfl ?_);rw [Yt (by omega),Wo] at g5;rw [g5];exact ⟨_,_,hH4,rfl⟩
  simp only [decide_eq_false_iff_not] at h';rw [if_neg h'] at g5;refine Ab ?_;refine Am [0,1,2,8,9,10,12,27,28,29,91] fun K hK=>?_;apply hK;clear hK;refine VD (fun h=>?_) (fun h=>?_)
  ·
   refine Am [6,7] fun K hK=>?_;apply hK;clear hK;refine Ad (A6 rfl rfl rfl ?_);rw [if_pos (by omega)] at g5;rw [g5];exact IntsErr.nil (hH4.sub (by simp)) 3
  rw [if_neg (by omega)] at g5;refine Ab ?_;refine Am [0,1,2,8,9,10,27,28,29] fun K hK=>?_;(repeat first | refine Qo ?_ | refine ⟨⟨by omega,by omega⟩,?_⟩);refine Kk (xs:=[.tmp 94]) Ye Lb rfl rfl rfl (by omega) ?_;refine Qi ?_;refine ⟨by simp [Xg],?_⟩;refine Cd ?_;refine Qi ?_;refine Vf hH4 0 rfl Ye E0 (fun h=>by (first | omega | (simp;done) | (simp;omega))) fun a' cap' w5 hc' hH5=>?_;(try refine Qi ?_);apply hK;clear hK;refine Ao ?_;refine Am [0,1,2,8,9,10,27,28,29] fun K hK=>?_;(repeat refine Qo ?_);apply hK;clear hK;refine Ah ?_;refine Qi ?_;exact ⟨l.length - (i+1),by omega,i+1,0,1,_,_,_,rfl,hH5,by omega,by simp;omega,by omega,by omega,by simpa using g5,rfl⟩
 refine As rfl ?_;rw [Yt (by omega),Iw] at g5;refine Am [6,7] fun K hK=>?_;apply hK;clear hK;refine Ad (A6 rfl rfl rfl ?_);rw [g5];exact IntsErr.nil (hH.sub (by simp)) 70
def Ag (l:List Nat):List Value:=l.map fun n:Nat=>.int .i64 (n:Int)
def ni (l:List Nat):List Int:=l.map fun n:Nat=>(n:Int)
theorem Qy0 (l:List Nat):Ag l=Bb (ni l):=by simp [Ag,Bb,ni]
theorem Bi (l:List Nat):(Ag l).length=l.length:=by simp [Ag]
theorem R6 (l m:List Nat):Ag (l++m)=Ag l++Ag m:=by simp [Ag]
theorem Qru (l:List Nat) (x:Nat):Ag l++[.int .i64 (x:Int)]=Ag (l++[x]):=by simp [Ag]
theorem Fx {l:List Nat}{i:Nat} (h:i < l.length):(Ag l)[i]? = some (.int .i64 ((l.getD i 0:Nat):Int)):=by
 simp [Ag,Ya h,Yb]
theorem Ik (l:List Nat) (i v:Nat):(Ag l).set i (.int .i64 (v:Int))=Ag (l.set i v):=by simp [Ag,List.map_set]
theorem Qcf (l:List Nat) (k:Nat):(Ag l).take k=Ag (l.take k):=by simp [Ag]
theorem Qg8 (l:List Nat) (k:Nat):(Ag l).drop k=Ag (l.drop k):=by simp [Ag]
theorem Q6 (l:List Nat):∀ u∈Ag l,u.oneCell'=true:=by
 intro u hu;obtain ⟨b,_,rfl⟩:=Xu.1 hu;rfl
theorem Eh {w:World}{p:Addr}{l:List Nat}{n:Nat} (h:RS w (some p) n 1 (Ag l)) {i:Nat} (hi:i < l.length):w.cell? (p.add i)=some (.int .i64 ((l.getD i 0:Nat):Int)) :=
 h.2.2 p rfl i _ (Fx hi)
def Ft (l:List Nat):List Value:=l.map fun n:Nat=>.int .u64 (n:Int)
theorem Z3 (l:List Nat):(Ft l).length=l.length:=by simp [Ft]
theorem Qh6 {l:List Nat}{i:Nat} (h:i < l.length):(Ft l)[i]? = some (.int .u64 ((l.getD i 0:Nat):Int)):=by
 simp [Ft,Ya h,Yb]
theorem Qy1 (l:List Nat) (i v:Nat):(Ft l).set i (.int .u64 (v:Int))=Ft (l.set i v):=by simp [Ft,List.map_set]
theorem Ql4:∀ {l:List Value}{i:Nat}{v:Value}{K:Value->Prop},l[i]? = some v->Bj l i K=K v:=by
 intro l i v K h;rw [Qs7,h]
section
variable {P:Program}{w w0:World}{B:List Nat}{G:List Res}
theorem Qh7 (hH:Heap w0 B w G) (i:Nat) {T E ty:TypeId}{bytes:Nat}{z:Value}{a:Option Addr}{cap:Nat}{o:List Nat} (k:Nat) {n:Int}{C:Value->World->Prop}
  (hi:G[i]? = some (Yr E 1 a o.length cap (Ag o))) (hu:P.underlying T=some (.slice E)) (hz:(P.info? E).map (fun i=>(i.zero.map Xg,i.size,i.bytes))=some (some #[z],1,bytes)) (hn:n=k)
  (hb:cap < (o++[k]).length->(o++[k]).length * bytes<=140737488355328/\(o++[k]).length<=9223372036854775807)
  (h:∀ a' cap' w',((o++[k]).length<=cap->a'=a/\cap'=cap)->Heap w0 B w' (G.set i (Yr E 1 a' (o++[k]).length cap' (Ag (o++[k]))))->C (.slice a' (o++[k]).length cap') w') :
  Nn P #[T,T] ty [.slice a o.length cap,.slice (some ⟨w.heap.size,0,none⟩) 1 1] (w.alloc (.cells [Y5 .i64 n].toArray E)) C:=by
 subst hn;have e:o.length+1=(o++[k]).length:=by simp
 refine Qhq hH i hi hu hz rfl (by rw [e];exact hb) fun a' cap' w' hc hH'=>?_;rw [Qru,e] at hH';rw [e] at hc ⊢;exact h a' cap' w' hc hH'
end
theorem Qaw {l:List Nat}{i:Nat} (h:i < l.length):Bq (l.take (i+1))=max (Bq (l.take i)) (l.getD i 0):=by
 rw [Mo 0 h,Bq,List.foldl_append];rfl
theorem Qpf (l:List Nat) (hl:0 < l.length) (hs:l.length<=1000000000) (a:Option Addr) (lc:Nat) (w:World) (hr:RS w a l.length 1 (Ag l)) :
  Does Yg 177 #[.slice a l.length lc] w fun v w'=>w'=w/\v=.int .i64 (Bq l:Nat):=by
 obtain ⟨p,rfl⟩:=rs_pos hr (by omega);refine En [.slice (some p) l.length lc] 25 Tryz.func177 ?_;generalize hn:l.length=n at *;refine VS [0] ?_;refine VS [0,7] ?_;refine C8 [0] (fun e w'=>Is e [(0,.slice (some p) n lc)]/\Is w' w) ?_ ?_
 ·
  refine Ae rfl rfl (fun h=>by simp at h;omega) (fun h=>?_);refine Ab ?_;refine Ah ?_;refine Qs ?_;exact ⟨rfl,rfl⟩
 rintro e w' ⟨rfl,rfl⟩;have h0:=Eh hr (i:=0) (by omega);refine VQ [0,3] fun K hK=>?_;refine ⟨by omega,_,h0,?_⟩;apply hK;clear hK;refine VS [0,3,4] ?_
 have hm0:l.getD 0 0=Bq (l.take 1):=by
  cases l with
  | nil=>simp at hn;omega
  | cons x l=>simp [Bq]
 rw [hm0];refine Ar ?_;refine Au [0,3,4] (fun m e w1=>∃ (i:Nat),Is e [(0,.slice (some p) n lc),(3,.int .i64 (Bq (l.take i):Nat)),(4,.int .i64 i)]/\Is w1 w'/\1<=i/\i<=n/\m=n - i) (n - 1) ?_ ?_
 ·
  refine Qs ?_;exact ⟨1,rfl,rfl,by omega,by omega,rfl⟩
 rintro m e w2 ⟨i,rfl,rfl,h1,h2,rfl⟩;refine VS [0,3,4,15] ?_;refine VD (fun h=>?_) (fun h=>?_)
 ·
  have hi:=Eh hr (i:=i) (by omega);have hs2:=Qaw (l:=l) (i:=i) (by omega);refine Ab ?_;refine VB ?_;refine VQ [0,3,4] fun K hK=>?_;refine ⟨⟨by omega,by omega⟩,_,hi,?_⟩;refine Qs ?_;rw [show max ((Bq (l.take i):Nat):Int) ((l.getD i 0:Nat):Int)=((Bq (l.take (i+1)):Nat):Int) by rw [hs2];omega];apply hK;clear hK;refine Ao ?_;refine VS [0,3,4] ?_;refine Ah ?_;refine Qs ?_;exact ⟨n - (i+1),by omega,i+1,rfl,rfl,by omega,by omega,rfl⟩
 refine As rfl ?_;refine VS [2] ?_;refine Ad (A0 rfl rfl ⟨rfl,?_⟩);rw [Yp (by omega)]
theorem Qy2 (l:List Nat) (hl:0 < l.length) (hs:l.length<=1000000000) (a:Option Addr) (lc:Nat) (w:World) (hr:RS w a l.length 1 (Ag l)) :
  Does Yg 200 #[.slice a l.length lc] w fun v w'=>w'=w/\∃ n:Nat,v=.int .i64 n:=by
 obtain ⟨p,rfl⟩:=rs_pos hr (by omega);refine En [.slice (some p) l.length lc] 25 Tryz.func200 ?_;generalize hn:l.length=n at *;refine VS [0] ?_;refine VS [0,7] ?_;refine C8 [0] (fun e w'=>Is e [(0,.slice (some p) n lc)]/\Is w' w) ?_ ?_
 ·
  refine Ae rfl rfl (fun h=>by simp at h;omega) (fun h=>?_);refine Ab ?_;refine Ah ?_;refine Qs ?_;exact ⟨rfl,rfl⟩
 rintro e w' ⟨rfl,rfl⟩;have h0:=Eh hr (i:=0) (by omega);refine VQ [0,3] fun K hK=>?_;refine ⟨by omega,_,h0,?_⟩;apply hK;clear hK;refine VS [0,3,4] ?_;refine Ar ?_;refine Au [0,3,4] (fun m e w1=>∃ (i x:Nat),Is e [(0,.slice (some p) n lc),(3,.int .i64 x),(4,.int .i64 i)]/\Is w1 w'/\1<=i/\i<=n/\m=n - i) (n - 1) ?_ ?_
 ·
  refine Qs ?_;exact ⟨1,_,rfl,rfl,by omega,by omega,rfl⟩
 rintro m e w2 ⟨i,x,rfl,rfl,h1,h2,rfl⟩;refine VS [0,3,4,15] ?_;refine VD (fun h=>?_) (fun h=>?_)
 ·
  have hi:=Eh hr (i:=i) (by omega);refine Ab ?_;refine VB ?_;refine VQ [0,3,4] fun K hK=>?_;refine ⟨⟨by omega,by omega⟩,_,hi,?_⟩;refine Qs ?_;rw [show min ((x:Nat):Int) ((l.getD i 0:Nat):Int)=((min x (l.getD i 0):Nat):Int) by omega];apply hK;clear hK;refine Ao ?_;refine VS [0,3,4] ?_;refine Ah ?_;refine Qs ?_;exact ⟨n - (i+1),by omega,i+1,_,rfl,rfl,by omega,by omega,rfl⟩
 refine As rfl ?_;refine VS [2] ?_;exact Ad (A0 rfl rfl ⟨rfl,_,rfl⟩)
theorem Qeu (l:List Nat) (hl:2<=l.length) (hl2:l.length<=258) (hx:∀ x∈l,x<=1073741824) (a:Option Addr) (lc:Nat) (w:World) (hr:RS w a l.length 1 (Ag l)) :
  Does Yg 174 #[.slice a l.length lc] w fun v w'=>w'=w/\v=.bool true:=by
 have hmax:=(P9 (l:=l)).2 hx;have hc1:=Qy2 l (by omega) (by omega) a lc w hr;have hc2:=Qpf l (by omega) (by omega) a lc w hr;refine En [.slice a l.length lc] 21 Tryz.func174 ?_;generalize l.length=n at *;generalize Bq l=mx at *;refine VS [0] ?_;refine VQ [2] fun K hK=>?_;refine ⟨fun h1=>⟨fun h2=>?_,fun h2=>absurd h2 (by simp;omega)⟩,fun h1=>absurd h1 (by simp;omega)⟩;refine Ac Tryz.call200 ?_;refine Qs ?_;refine Yk hc1 ?_;rintro v w2 ⟨rfl,q,rfl⟩;refine Qs ?_;refine ⟨fun h3=>?_,fun h3=>absurd h3 (by simp)⟩;refine Ac Tryz.call177 ?_;refine Qs ?_;refine Yk hc2 ?_;rintro v w3 ⟨rfl,rfl⟩;refine Qs ?_;rw [decide_eq_true (show ((mx:Nat):Int)<=1073741824 by omega)];apply hK;clear hK;exact Ad (A0 rfl rfl ⟨rfl,rfl⟩)
def Rx (l:List Nat):Nat:=if l.length < 2∨258 < l.length then 0 else if l.all (fun x=>decide (1<=x) && decide (x<=20)) then C9 l else 0
theorem Qno (l:List Nat) (x:Nat):C9 (l++[x])=C9 l+2 ^ (20 - x):=by rw [Qbm];rfl
theorem Qvt (l:List Nat):C9 l<=l.length * 1048576:=by
 induction l with
 | nil=>simp [C9]
 | cons x l ih =>
  have:2 ^ (20 - x)<=2 ^ 20:=Yx (by omega) (by omega);simp only [C9,Y1,Nat.succ_mul];have e:(2:Nat) ^ 20=1048576:=by decide
  omega
theorem Qnp (l:List Nat) (a:Option Addr) (lc:Nat) (w:World) (hr:RS w a l.length 1 (Ag l)) :
  Does Yg 166 #[.slice a l.length lc] w fun v w'=>w'=w/\v=.int .i64 (Rx l:Nat):=by
 generalize hres:Rx l=res;unfold Rx at hres;refine En [.slice a l.length lc] 33 Tryz.func166 ?_;generalize hn:l.length=n at *;refine VS [0] ?_;refine VQ [0,13] fun K hK=>?_
 suffices out:∀ b:Bool,(b=true ↔ (n < 2∨258 < n))->K [(0,.slice a n lc),(13,.bool b)] w by (repeat' (first | exact out _ _ (by first | omega | (simp;done) | (simp;omega)) | exact out _ (by first | omega | (simp;done) | (simp;omega)) | refine ⟨fun _=>?_,fun _=>?_⟩ | refine Qo ?_))
 intro b hb;apply hK;clear hK;refine Vi (fun h=>?_) (fun h=>Ab ?_)
 ·
  rw [if_pos (hb.1 h)] at hres;subst hres;refine VS [2] ?_;exact Ad (A0 rfl rfl ⟨rfl,rfl⟩)
 have hg:¬ (n < 2∨258 < n):=fun h2=>by have:=hb.2 h2;simp_all
 rw [if_neg hg] at hres;clear hb h;obtain ⟨p,rfl⟩:=rs_pos hr (by omega);refine VS [0,3] ?_;refine VS [3,14,15,16] ?_;refine Ar ?_;refine Au [3,14,15,16] (fun m e w'=>∃ (i:Nat),Is e [(3,.int .i64 (C9 (l.take i):Nat)),(14,.slice (some p) n lc),(15,.int .i64 n),(16,.int .i64 i)]/\Is w' w/\i<=n/\(l.take i).all (fun x=>decide (1<=x) && decide (x<=20))=true/\m=n - i) n ?_ ?_
 ·
  refine Qs ?_;exact ⟨0,rfl,rfl,by omega,by simp,rfl⟩
 rintro m e w' ⟨i,rfl,rfl,hi,hall,rfl⟩;refine VS [3,14,15,16,17] ?_;(repeat refine Ay ?_);refine VD (fun h=>?_) (fun h=>?_)
 ·
  have hcell:=Eh hr (i:=i) (by omega);have htk:=Mo 0 (l:=l) (i:=i) (by omega);have hks:=Qno (l.take i) (l.getD i 0);rw [<- htk] at hks;have hmem:=Dm 0 (l:=l) (i:=i) (by omega);have hkl:=Qvt (l.take i);have hlt:(l.take i).length<=258:=by rw [Xi];omega
  generalize hx:l.getD i 0=x at *;refine Ab ?_;refine VB ?_;refine VQ [3,5,14,15,16] fun K hK=>?_;refine ⟨⟨by omega,by omega⟩,_,hcell,?_⟩;apply hK;clear hK;refine VQ [3,5,14,15,16,25] fun K hK=>?_
  suffices out:∀ b:Bool,(b=true ↔ (x < 1∨20 < x))->K [(3,.int .i64 (C9 (l.take i):Nat)),(5,.int .i64 x),(14,.slice (some p) n lc),(15,.int .i64 n),(16,.int .i64 i),(25,.bool b)] w' by (repeat' (first | exact out _ _ (by first | omega | (simp;done) | (simp;omega)) | exact out _ (by first | omega | (simp;done) | (simp;omega)) | refine ⟨fun _=>?_,fun _=>?_⟩ | refine Qo ?_))
  intro b hb;apply hK;clear hK;refine Vi (fun h=>?_) (fun h=>Ab ?_)
  ·
   have hb1:=hb.1 h
   have:l.all (fun x=>decide (1<=x) && decide (x<=20))=false:=by
    rw [List.all_eq_false];exact ⟨x,hmem,by simp;omega⟩
   rw [this,if_neg (by simp)] at hres;subst hres;refine VS [2] ?_;exact Ad (A0 rfl rfl ⟨rfl,rfl⟩)
  have hg2:¬ (x < 1∨20 < x):=fun h2=>by have:=hb.2 h2;simp_all
  clear hb h;have hsh:Bw Xp (20 - (x:Int))=20 - x:=S0 (by omega) (by simp [IntKind.bits];omega);have hp2:2 ^ (20 - x)<=2 ^ 20:=Yx (by omega) (by omega);have hp3:2 ^ (20 - x)<=1048576:=hp2;have hp:(1:Int) * 2 ^ (20 - x)=((2 ^ (20 - x):Nat):Int):=by push_cast;exact Int.one_mul _
  refine VQ [3,14,15,16] fun K hK=>?_;rw [hsh,hp];clear hp hp2 hsh;generalize 2 ^ (20 - x)=pw at *;(repeat first | refine Qo ?_ | refine Qp ?_);rw [show ((C9 (l.take i):Nat):Int)+pw=((C9 (l.take (i+1)):Nat):Int) by rw [hks];omega];apply hK;clear hK;refine Ao ?_;refine VS [3,14,15,16] ?_;refine Ah ?_;refine Qs ?_;refine ⟨n - (i+1),by omega,i+1,rfl,rfl,by omega,?_,rfl⟩;rw [htk,List.all_append,hall];simp;omega
 obtain rfl:i=n:=by omega
 rw [Yp (by omega)] at hall ⊢;rw [if_pos hall] at hres;refine As rfl ?_;refine VS [2] ?_;exact Ad (A0 rfl rfl ⟨rfl,by rw [hres]⟩)
theorem QEe (l:List Nat):Og l=true ↔ ¬ (Rx l=0∨1048576 < Rx l):=by
 unfold Rx Og;by_cases h1:l.length < 2∨258 < l.length
 ·
  rw [if_pos h1];simp;omega
 rw [if_neg h1];cases h2:l.all (fun x=>decide (1<=x) && decide (x<=20)) with
 | false=>simp
 | true =>
  have hpos:0 < C9 l:=by
   cases l with
   | nil=>simp at h1
   | cons x l=>have:=Nat.two_pow_pos (20 - x);simp only [C9];omega
  simp;omega
theorem Qak (l:List Nat) (a:Option Addr) (lc:Nat) (w:World) (hr:RS w a l.length 1 (Ag l)) :
  Does Yg 125 #[.slice a l.length lc] w fun v w'=>w'=w/\v=.int .i64 (if Og l=true then 0 else 80):=by
 have hc:=Qnp l a lc w hr;have hs:=QEe l;refine En [.slice a l.length lc] 12 Tryz.func125 ?_;generalize Rx l=n at *;refine VS [0] ?_;refine VQ [3] fun K hK=>?_;refine Ac Tryz.call166 ?_;refine Qs ?_;refine Yk hc ?_;rintro v w2 ⟨rfl,rfl⟩;apply hK;clear hK;refine VQ [11] fun K hK=>?_
 suffices out:∀ b:Bool,(b=true ↔ (n=0∨1048576 < n))->K [(11,.bool b)] w2 by (repeat' (first | exact out _ _ (by first | omega | (simp;done) | (simp;omega)) | exact out _ (by first | omega | (simp;done) | (simp;omega)) | refine ⟨fun _=>?_,fun _=>?_⟩ | refine Qo ?_))
 intro b hb;apply hK;clear hK;refine Vi (fun h=>?_) (fun h=>Ab ?_)
 ·
  have h2:=hb.1 h;refine VS [2] ?_;exact Ad (A0 rfl rfl ⟨rfl,by rw [if_neg (fun h3=>hs.1 h3 h2)]⟩)
 have hg:¬ (n=0∨1048576 < n):=fun h2=>by have:=hb.2 h2;simp_all
 refine VS [2] ?_;exact Ad (A0 rfl rfl ⟨rfl,by rw [if_pos (hs.2 hg)]⟩)
theorem Qy3 {P:Program}{w:World}{a:Option Addr}{n c:Nat}{l:List Nat}{T E:TypeId} (h:RS w a n 1 (Ag l)) (hu:P.underlying T=some (.slice E)):Src P w (.slice a n c) T 1 n (Ag l):=⟨rfl,h,E,hu⟩
theorem QEf {w:World}{KV:Value->Prop} (a:Option Addr) (n c n' c':Nat) (xo yo:Operand):A5 Yg .eql 114 xo yo (.slice a n c) (.slice none n' c') w KV=KV (.bool a.isNone):=Qhs Ye a n c n' c' xo yo
attribute [go_sem] QEf
theorem Qrv (l:List Nat) (hl:0 < l.length) (hs:l.length<=1000000000) (a:Option Addr) (lc:Nat) (w:World) (hr:RS w a l.length 1 (Ag l)) :
  Does Yg 175 #[.slice a l.length lc] w fun v w'=>∃ a' cap,Heap w [] w' [Yr 3 1 a' l.length cap (Ag l)]/\v=.slice a' l.length cap:=by
 obtain ⟨p,rfl⟩:=rs_pos hr (by omega);refine En [.slice (some p) l.length lc] 8 Tryz.func175 ?_;refine VS [0] ?_;refine VS [0,4] ?_;refine Ae rfl rfl (fun h=>by simp at h) (fun h=>Ab ?_);refine VQ [2] fun K hK=>?_;have hS:=Yz w;refine E9 hS (Ag []) (xs:=[]) Ye Lb rfl rfl rfl (by omega) ?_;refine Qs ?_;refine ⟨rfl,by simp [Xg],fun g w4 hH2=>?_⟩;(try refine Qs ?_);refine Cd ?_;refine Qs ?_;refine D9 hH2 0 rfl Ye E0 rfl (Qy3 (hH2.rs' hr) Ye) (Q6 _) (fun h=>by omega) fun a' cap' w5 hc' hH4=>?_;refine Qs ?_;apply hK;clear hK;exact Ad (A0 rfl rfl ⟨a',cap',by simpa [Ag] using hH4,by simp⟩)
def By (l:List Nat):Nat->List Nat
 | 0=>[]
 | n+1=>By l n++F9 l (n+1)
def Du (l:List Nat) (n:Nat):Nat:=(By l (n - 1)).length
theorem Ql5 (l:List Nat):∀ (n k:Nat),k < (By l n).length->(By l n).getD k 0 < l.length/\1<=l.getD ((By l n).getD k 0) 0/\k=Du l (l.getD ((By l n).getD k 0) 0)+(Ck l (l.getD ((By l n).getD k 0) 0) ((By l n).getD k 0)).length
 | 0,k,h=>by simp [By] at h
 | n+1,k,h=>by
  rw [By] at h ⊢;rcases Us k (By l n).length with h1 | h1
  ·
   rw [Qy h1];exact Ql5 l n k h1
  have h2:(By l n++F9 l (n+1)).getD k 0=(F9 l (n+1)).getD (k - (By l n).length) 0:=by
   rw [Yb,Y0 h1,Yb]
  rw [h2];have h3:k - (By l n).length < (F9 l (n+1)).length:=by rw [Yi] at h;omega
  obtain ⟨a,b,c⟩:=Qtg l (n+1) l.length _ h3;change (F9 l (n+1)).getD (k - (By l n).length) 0 < l.length at a;change l.getD ((F9 l (n+1)).getD (k - (By l n).length) 0) 0=n+1 at b;change (Ck l (n+1) ((F9 l (n+1)).getD (k - (By l n).length) 0)).length=_ at c;rw [b,c,Du,Xq];exact ⟨a,by omega,by omega⟩
theorem Qpg {l:List Nat}{i:Nat} (hi:i < l.length) (h1:1<=l.getD i 0):∀ n,l.getD i 0<=n->i∈By l n
 | 0,h=>by omega
 | n+1,h=>by
  rw [By,Xs];rcases Us n (l.getD i 0) with h2 | h2
  ·
   right;rw [show n+1=l.getD i 0 by omega];exact Zw.2 ⟨hi,rfl⟩
  exact .inl (Qpg hi h1 n h2)
theorem Qvu {l:List Nat}{n i k:Nat} (h:k < (By l n).length) (hk:(By l n).getD k 0=i):Dq l i+Du l (l.getD i 0)=Bv l (l.getD i 0)+k:=by
 have:=(Ql5 l n k h).2.2;rw [hk] at this;unfold Dq;omega
theorem Qnq (l:List Nat) {m n:Nat} (h:m<=n):∃ r,By l n=By l m++r:=by
 induction n with
 | zero=>exact ⟨[],by rw [show m=0 by omega];simp⟩
 | succ n ih =>
  rcases Us m (n+1) with h1 | h1
  ·
   obtain ⟨r,hr⟩:=ih (by omega);exact ⟨_,by rw [By,hr,Yn]⟩
  exact ⟨[],by rw [show m=n+1 by omega];simp⟩
theorem Qy4 (l:List Nat) {n L j:Nat} (hn:1<=n) (hL:n<=L) (hj:j < B5 l n):Du l n+j < (By l L).length/\(By l L).getD (Du l n+j) 0=(F9 l n).getD j 0:=by
 obtain ⟨r,hr⟩:=Qnq l hL;obtain ⟨m,rfl⟩:∃ m,n=m+1:=⟨n - 1,by omega⟩;have hb:Du l (m+1)=(By l m).length:=by rw [Du,Xq]
 have hj':j < (F9 l (m+1)).length:=hj;rw [hr,By,hb];constructor
 ·
  simp only [Yi];omega
 rw [Yn,Yb,Y0 (by omega),Xo,Xl hj',Yb]
theorem Qy5 {l:List Nat}{n:Nat} (h:Bq l < n):B5 l n=0:=by
 rw [B5,List.length_eq_zero_iff,List.eq_nil_iff_forall_not_mem];intro i hi;obtain ⟨h1,h2⟩:=Zw.1 hi;have:=P9.1 (Xf (Bq l)) _ (Dm 0 h1);omega
theorem Z4 (l:List Nat) (n:Nat):(By l n).length<=n * l.length:=by
 induction n with
 | zero=>simp [By]
 | succ n ih =>
  have:=Qoz l (n+1) l.length;rw [By,Yi,Nat.succ_mul];unfold F9;omega
def Ey (sv ov:Value) (F Bg C:List Nat):List Value:=sv::ov::(Ag F++(Ag Bg++Ag C))
section
variable {sv ov:Value}{F Bg C:List Nat}
theorem Qy6 (hF:F.length=22) {n:Nat} (hn:n < 22):(Ey sv ov F Bg C)[2+n]? = some (.int .i64 (F.getD n 0:Nat)):=by
 rw [Ey,Nat.add_comm,List.getElem?_cons_succ,List.getElem?_cons_succ,Xl (by rw [Bi];omega),Fx (by omega)]
theorem Qy7 (hF:F.length=22) (hB:Bg.length=22) {n:Nat} (hn:n < 22):(Ey sv ov F Bg C)[24+n]? = some (.int .i64 (Bg.getD n 0:Nat)):=by
 rw [Ey,show 24+n=(22+n+1)+1 by omega,List.getElem?_cons_succ,List.getElem?_cons_succ,Y0 (by rw [Bi];omega),Bi,hF,Xo,Xl (by rw [Bi];omega),Fx (by omega)]
theorem Qph (hF:F.length=22) (hB:Bg.length=22) (hC:C.length=22) {n:Nat} (hn:n < 22):(Ey sv ov F Bg C)[46+n]? = some (.int .i64 (C.getD n 0:Nat)):=by
 rw [Ey,show 46+n=(44+n+1)+1 by omega,List.getElem?_cons_succ,List.getElem?_cons_succ,Y0 (by rw [Bi];omega),Bi,hF,Y0 (by rw [Bi];omega),Bi,hB,show 44+n - 22 - 22=n by omega,Fx (by omega)]
theorem Rm (hF:F.length=22) (hB:Bg.length=22) (hC:C.length=22):(Ey sv ov F Bg C).length=68:=by simp [Ey,Bi,hF,hB,hC]
theorem QEg (hF:F.length=22) {n x:Nat} (hn:n < 22):(Ey sv ov F Bg C).set (2+n) (.int .i64 (x:Nat))=Ey sv ov (F.set n x) Bg C:=by
 rw [Ey,Nat.add_comm,Yh,Yh,U2 _ _ (by rw [Bi];omega),Ik];rfl
theorem QEh (hF:F.length=22) (hB:Bg.length=22) {n x:Nat} (hn:n < 22):(Ey sv ov F Bg C).set (24+n) (.int .i64 (x:Nat))=Ey sv ov F (Bg.set n x) C:=by
 rw [Ey,show 24+n=(22+n+1)+1 by omega,Yh,Yh,X6 _ _ (by rw [Bi];omega),Bi,hF,Xo,U2 _ _ (by rw [Bi];omega),Ik];rfl
theorem QEi (hF:F.length=22) (hB:Bg.length=22) (hC:C.length=22) {n x:Nat} (hn:n < 22):(Ey sv ov F Bg C).set (46+n) (.int .i64 (x:Nat))=Ey sv ov F Bg (C.set n x):=by
 rw [Ey,show 46+n=(44+n+1)+1 by omega,Yh,Yh,X6 _ _ (by rw [Bi];omega),Bi,hF,X6 _ _ (by rw [Bi];omega),Bi,hB,show 44+n - 22 - 22=n by omega,Ik];rfl
end
theorem Qvv {α:Type} (f:Nat->α) (n:Nat) (d:α) (i:Nat) (h:i < n):((Yf n).map f).getD i d=f i:=by
 rw [Yb,Y8,List.getElem?_range h];rfl
def Di (f:Nat->Nat) (n:Nat):List Nat:=(Yf 22).map fun j=>if j < n then f j else 0
theorem P3 (f:Nat->Nat) (n:Nat):(Di f n).length=22:=by simp [Di]
theorem Qpi (f:Nat->Nat) {n j:Nat} (hj:j < 22):(Di f n).getD j 0=if j < n then f j else 0:=Qvv _ _ _ _ hj
theorem Qh8 (f:Nat->Nat) (n:Nat) (hn:n < 22):(Di f n).set n (f n)=Di f (n+1):=by
 apply Xh
 ·
  simp [Di]
 intro j h1 h2;have hj:j < 22:=by simpa [Di] using h2
 rw [List.getElem_set];simp only [Di,X9,X2];by_cases e:n=j
 ·
  subst e;rw [if_pos rfl,if_pos (by omega)]
 rw [if_neg e];by_cases h3:j < n
 ·
  rw [if_pos h3,if_pos (by omega)]
 rw [if_neg h3,if_neg (by omega)]
theorem Qc6 (l:List Nat) (hs:l.length<=1000000000) (a:Option Addr) (lc:Nat) (w:World) (hr:RS w a l.length 1 (Ag l)) :
  Does Yg 180 #[.agg #[.slice a l.length lc]] w fun v w'=>Heap w [] w' []/\v=.int .i64 (Bq l:Nat):=by
 have hen:#[Value.agg #[Xt a l.length lc]]=[Value.agg [Xt a l.length lc].toArray].toArray:=rfl;rw [hen];refine Ps 18 Tryz.func180 rfl rfl (of_decide_eq_true rfl) ?_;simp only [Env.ofArgs];generalize hn:l.length=n at *;refine VQ [1] fun K hK=>?_;refine Dx ?_;refine Qs ?_;have hH:=(Yz w).box 239 [.slice a n lc];generalize w.alloc (Yq [Xt a n lc].toArray 239)=w1 at *;generalize w.heap.size=gz at *;apply hK;clear hK;refine VS [1,3] ?_;refine VQ [3,7,8,9] fun K hK=>?_;refine ⟨_,Aj (hH.at 0 rfl) rfl,?_⟩;refine Qs ?_;apply hK;clear hK;refine Ar ?_;refine Au [3,7,8,9] (fun m e w'=>∃ (i:Nat),Is e [(3,.int .i64 (Bq (l.take i):Nat)),(7,.slice a n lc),(8,.int .i64 n),(9,.int .i64 i)]/\Is w' w1/\i<=n/\m=n - i) n ?_ ?_
 ·
  refine Qs ?_;exact ⟨0,rfl,rfl,by omega,rfl⟩
 rintro m e w' ⟨i,rfl,rfl,hi,rfl⟩;refine VS [3,7,8,9,10] ?_;(repeat refine Ay ?_);refine VD (fun h=>?_) (fun h=>?_)
 ·
  obtain ⟨p,rfl⟩:=rs_pos hr (by omega);have hcell:=Eh (hH.rs' hr) (i:=i) (by omega);have hs2:=Qaw (l:=l) (i:=i) (by omega);refine Ab ?_;refine VB ?_;refine VQ [3,5,7,8,9] fun K hK=>?_;refine ⟨⟨by omega,by omega⟩,_,hcell,?_⟩;apply hK;clear hK;refine VQ [3,7,8,9] fun K hK=>?_;rw [show max ((Bq (l.take i):Nat):Int) ((l.getD i 0:Nat):Int)=((Bq (l.take (i+1)):Nat):Int) by rw [hs2];omega];apply hK;clear hK;refine Ao ?_;refine VS [3,7,8,9] ?_;refine Ah ?_;refine Qs ?_;exact ⟨n - (i+1),by omega,i+1,rfl,rfl,by omega,rfl⟩
 refine As rfl ?_;refine VS [2] ?_;refine Ad (A0 rfl rfl ⟨hH.sub (by simp),?_⟩);rw [Yp (by omega)]
def M6 (g:Nat) (sv:Value) (ao:Option Addr) (co no:Nat) (F Bg C:List Nat):Res:=Yj g 242 (Ey sv (.slice ao no co) F Bg C)
def Mg (g:Nat) (sv:Value) (ao:Option Addr) (co:Nat) (l:List Nat):Res:=M6 g sv ao co (By l (Bq l)).length (Di (Bv l) (Bq l+1)) (Di (Du l) (Bq l+1)) (Di (B5 l) (Bq l+1))
def Oh (ao:Option Addr) (co:Nat) (l:List Nat):Res:=Yr 3 1 ao (By l (Bq l)).length co (Ag (By l (Bq l)))
theorem Z5 {l:List Nat} (h:E8 l):1<=Bq l/\Bq l<=20:=by
 refine ⟨?_,P9.2 fun x hx=>(h.2.2.1 x hx).2⟩;obtain ⟨h1,_,h3,_⟩:=h;cases l with
 | nil=>simp at h1
 | cons x l=>exact Gd (h3 x (by simp)).1 (P9.1 (Xf _) x (by simp))
theorem Qh9 {f:Nat->Nat} (h:f 0=0):Di f 1=Yc 22 0:=by
 apply Xh
 ·
  simp [Di]
 intro j h1 h2;simp only [Di,X9,X2,List.getElem_replicate];split
 ·
  rw [show j=0 by omega,h]
 rfl
section
variable {w0 w:World}{B:List Nat}{G:List Res}{g:Nat}{sv:Value}{ao:Option Addr}{co no:Nat}{F Bg C:List Nat}{D:World->Prop}
theorem Qnr (hH:Heap w0 B w G) (i:Nat) {n x:Nat} (hi:G[i]? = some (M6 g sv ao co no F Bg C)) (lF:F.length=22) (lB:Bg.length=22) (lC:C.length=22) (hn:n < 22)
  (h:∀ w',Heap w0 B w' (G.set i (M6 g sv ao co no (F.set n x) Bg C))->D w'):Mu Yg 3 (.pointer (some ⟨g,2+n,none⟩)) (.int .i64 (x:Nat)) w D:=by
 refine Al hH i (o:=2+n) (vs:=[.int .i64 (x:Nat)]) hi rfl (by kernel_rfl) (by rw [Rm lF lB lC];simp;omega) (by simp [Yo]) fun w' hH2=>h w' ?_;rw [Yy,De _ _ _ (by rw [Rm lF lB lC];omega),QEg lF hn] at hH2;exact hH2
theorem Qns (hH:Heap w0 B w G) (i:Nat) {n x:Nat} (hi:G[i]? = some (M6 g sv ao co no F Bg C)) (lF:F.length=22) (lB:Bg.length=22) (lC:C.length=22) (hn:n < 22)
  (h:∀ w',Heap w0 B w' (G.set i (M6 g sv ao co no F (Bg.set n x) C))->D w'):Mu Yg 3 (.pointer (some ⟨g,24+n,none⟩)) (.int .i64 (x:Nat)) w D:=by
 refine Al hH i (o:=24+n) (vs:=[.int .i64 (x:Nat)]) hi rfl (by kernel_rfl) (by rw [Rm lF lB lC];simp;omega) (by simp [Yo]) fun w' hH2=>h w' ?_;rw [Yy,De _ _ _ (by rw [Rm lF lB lC];omega),QEh lF lB hn] at hH2;exact hH2
theorem Qnt (hH:Heap w0 B w G) (i:Nat) {n x:Nat} (hi:G[i]? = some (M6 g sv ao co no F Bg C)) (lF:F.length=22) (lB:Bg.length=22) (lC:C.length=22) (hn:n < 22)
  (h:∀ w',Heap w0 B w' (G.set i (M6 g sv ao co no F Bg (C.set n x)))->D w'):Mu Yg 3 (.pointer (some ⟨g,46+n,none⟩)) (.int .i64 (x:Nat)) w D:=by
 refine Al hH i (o:=46+n) (vs:=[.int .i64 (x:Nat)]) hi rfl (by kernel_rfl) (by rw [Rm lF lB lC];simp;omega) (by simp [Yo]) fun w' hH2=>h w' ?_;rw [Yy,De _ _ _ (by rw [Rm lF lB lC];omega),QEi lF lB lC hn] at hH2;exact hH2
theorem Qnu (hH:Heap w0 B w G) (i:Nat) {ao':Option Addr}{co' no':Nat} (hi:G[i]? = some (M6 g sv ao co no F Bg C)) (lF:F.length=22) (lB:Bg.length=22) (lC:C.length=22)
  (h:∀ w',Heap w0 B w' (G.set i (M6 g sv ao' co' no' F Bg C))->D w'):Mu Yg 114 (.pointer (some ⟨g,1,none⟩)) (.slice ao' no' co') w D:=by
 refine Al hH i (o:=1) (vs:=[.slice ao' no' co']) hi rfl (by kernel_rfl) (by rw [Rm lF lB lC];simp) (by simp [Yo]) fun w' hH2=>h w' ?_;exact hH2
end
theorem Qjw (l:List Nat) (hok:E8 l) (a:Option Addr) (lc:Nat) (w:World) (hr:RS w a l.length 1 (Ag l)) :
  Does Yg 145 #[.slice a l.length lc] w fun v w'=>∃ g ao co,Heap w [] w' [Mg g (.slice a l.length lc) ao co l,Oh ao co l]/\v=.tuple #[.pointer (some ⟨g,0,none⟩),.int .i64 0]:=by
 have hc1:=Qak l a lc w hr;rw [if_pos (Zy.2 hok)] at hc1;obtain ⟨hL1,hL20⟩:=Z5 hok;have hfl:=fun n hn=>Vk hok (n:=n) hn;have hc0:B5 l 0=0:=Qdv fun x hx=>(hok.2.2.1 x hx).1;obtain ⟨hl2,hl258,_,_⟩:=hok;have hcl:=Qc6 l (by omega) a lc;refine En [.slice a l.length lc] 84 Tryz.func145 ?_;unfold Mg Oh M6;generalize hLL:Bq l=L at *;generalize hn:l.length=n at *;obtain ⟨p,rfl⟩:=rs_pos hr (by omega);refine Am [0] fun K hK=>?_;apply hK;clear hK;refine Am [0,4] fun K hK=>?_;refine Ac Tryz.call125 ?_;refine Qi ?_;refine Yk hc1 ?_;rintro v w2 ⟨rfl,rfl⟩;apply hK;clear hK;refine Am [0,4,13] fun K hK=>?_;apply hK;clear hK;refine Ae rfl rfl (fun h=>by simp at h) (fun h=>Ab ?_);clear h hc1;refine Am [5] fun K hK=>?_;refine Dx ?_;refine Qi ?_
 suffices hsuf:K [(5,.pointer (some ⟨w2.heap.size,0,none⟩))] (w2.alloc (Yq (Ey (.slice (some p) n lc) (.slice none 0 0) (Yc 22 0) (Yc 22 0) (Yc 22 0)).toArray 242)) from hsuf
 have hH:=((Yz w2).box 242 (Ey (.slice (some p) n lc) (.slice none 0 0) (Yc 22 0) (Yc 22 0) (Yc 22 0))).nilRow 3 1;generalize w2.alloc (Yq (Ey (.slice (some p) n lc) (.slice none 0 0) (Yc 22 0) (Yc 22 0) (Yc 22 0)).toArray 242)=w3 at *;generalize w2.heap.size=g at *;apply hK;clear hK;refine Am [5,6] fun K hK=>?_;apply hK;clear hK;refine Am [5,6,7] fun K hK=>?_;apply hK;clear hK;refine Ar ?_;refine Au [5,6,7] (fun m e w'=>∃ (j:Nat) (ao:Option Addr) (co:Nat),Is e [(5,.pointer (some ⟨g,0,none⟩)),(6,.int .i64 (Bv l j+B5 l j:Nat)),(7,.int .i64 (j+1:Nat))]/\Heap w2 [] w' [Yr 3 1 ao (By l j).length co (Ag (By l j)),M6 g (.slice (some p) n lc) ao co (By l j).length (Di (Bv l) (j+1)) (Di (Du l) (j+1)) (Di (B5 l) (j+1))]/\j<=L/\m=L - j) L ?_ ?_
 ·
  refine Qi ?_;refine ⟨0,none,0,?_,?_,by omega,rfl⟩
  ·
   rw [hc0];rfl
  rw [Qh9 rfl,Qh9 rfl,Qh9 hc0];exact hH
 clear hH;rintro m e w4 ⟨j,ao,co,rfl,hH,hj,rfl⟩;have hcz:(Ey (.slice (some p) n lc) (.slice ao (By l j).length co) (Di (Bv l) (j+1)) (Di (Du l) (j+1)) (Di (B5 l) (j+1)))[0]? = some (.slice (some p) n lc):=rfl
 have hsv:Reads w4 ⟨g,0,none⟩ [.slice (some p) n lc]:=by
  intro q u hu;cases q with
  | zero =>
   simp at hu;subst hu;exact Aj (hH.at 1 rfl) hcz
  | succ q=>simp at hu
 have hol:=Z4 l j;rw [hn] at hol;have hol2:(By l j).length<=20 * 258:=Gd hol (X4 (by omega) hl258);have hf1:=hfl j (by omega);have hp2:2 ^ j<=2 ^ 20:=Yx (by omega) (by omega);have hp3:2 ^ j<=1048576:=hp2;refine Am [5,6,7,25] fun K hK=>?_;refine ⟨_,⟨rfl,hsv⟩,?_⟩;refine Ac Tryz.call180 ?_;refine Qi ?_;refine Yk (hcl w4 (hH.rs' hr)) ?_;rintro v w5 ⟨hHl,rfl⟩;have hH2:=hH.call0 hHl;simp only [Yl] at hH2;clear hH hHl hsv;refine Qi ?_;apply hK;clear hK;refine VD (fun h=>?_) (fun h=>?_)
 ·
  have hj2:j+1<=L:=by omega
  have hf2:=hfl (j+1) (by omega);have hp4:2 ^ (j+1)<=2 ^ 20:=Yx (by omega) (by omega);have hp5:2 ^ (j+1)<=1048576:=hp4;have hfs:Bv l (j+1)=(Bv l j+B5 l j) * 2:=by rw [Bv,Gf]
  have hbs:Du l (j+1)=(By l j).length:=by rw [Du,Xq]
  have hsF:=Qh8 (Bv l) (j+1) (by omega);have hsB:=Qh8 (Du l) (j+1) (by omega);have hsC:=Qh8 (B5 l) (j+1) (by omega);have lF:=P3 (Bv l) (j+1);have lB:=P3 (Du l) (j+1);have lC:=P3 (B5 l) (j+1);have lF2:=P3 (Bv l) (j+1+1);have lB2:=P3 (Du l) (j+1+1);have hcnt:(Ck l (j+1) n).length=B5 l (j+1):=by rw [B5,F9,hn]
  have hoS:By l (j+1)=By l j++Ck l (j+1) n:=by rw [By,F9,hn]
  generalize hFF:Di (Bv l) (j+1)=F at *;generalize hBB:Di (Du l) (j+1)=Bg at *;generalize hCC:Di (B5 l) (j+1)=C at *;generalize hO:By l j=O at *;refine Ab ?_
  ((repeat refine Ay ?_);refine Ar ?_)
  refine Am [5,6,7] fun K hK=>?_;rw [show Bw Xp 1=1 from rfl,show (((Bv l j+B5 l j:Nat):Int) * 2 ^ 1)=((Bv l (j+1):Nat):Int) by rw [hfs];push_cast;rfl];(repeat first | refine Qo ?_ | refine ⟨⟨by omega,by omega⟩,?_⟩);apply hK;clear hK;(repeat refine Ay ?_);refine Qb1 [5,6,7] [(0,0),(1,0),(2,0),(3,0),(4,0),(5,0),(6,0),(7,0),(10,0),(11,0),(14,0),(15,0),(8,1),(9,0),(12,0),(13,2),(16,0),(17,2)] (by kernel_rfl) (by kernel_rfl) (by kernel_rfl) (by simp only [Be,List.map_cons,List.map_nil,beq_self_eq_true,Nat.reduceBEq,List.filterMap_cons,List.filterMap_nil,List.getElem?_cons_succ,List.getElem?_cons_zero,Option.map_some];rfl) fun K hK=>?_;refine Qi ?_;refine ⟨_,Aj (hH2.at 1 rfl) (show (Ey (.slice (some p) n lc) (.slice ao O.length co) F Bg C)[1]? = some _ from rfl),?_⟩;refine Qi ?_;refine ⟨⟨by omega,by omega⟩,?_⟩;refine Af ?_;refine Qi ?_;refine Qnr hH2 1 (n:=j+1) rfl lF lB lC (by omega) fun w6 hH3=>?_;simp only [Yh,Yd,hsF] at hH3;refine ⟨⟨by omega,by omega⟩,?_⟩;refine Af ?_;refine Qi ?_;rw [<- hbs];refine Qns hH3 1 (n:=j+1) rfl lF2 lB lC (by omega) fun w7 hH4=>?_;simp only [Yh,Yd,hsB] at hH4;clear hH2 hH3;apply hK;clear hK;refine Am [5,6,7,50,51,52] fun K hK=>?_;refine ⟨_,Aj (hH4.at 1 rfl) (show (Ey (.slice (some p) n lc) (.slice ao (Du l (j+1)) co) (Di (Bv l) (j+1+1)) (Di (Du l) (j+1+1)) C)[0]? = some _ from rfl),?_⟩;refine Qi ?_;apply hK;clear hK;refine Ar ?_;refine Au [5,6,7,50,51,52] (fun m e w'=>∃ (i:Nat) (ao:Option Addr) (co:Nat),Is e [(5,.pointer (some ⟨g,0,none⟩)),(6,.int .i64 (Bv l (j+1)+(Ck l (j+1) i).length:Nat)),(7,.int .i64 (j+1:Nat)),(50,.slice (some p) n lc),(51,.int .i64 n),(52,.int .i64 i)]/\Heap w2 [] w' [Yr 3 1 ao (O++Ck l (j+1) i).length co (Ag (O++Ck l (j+1) i)),M6 g (.slice (some p) n lc) ao co (O++Ck l (j+1) i).length (Di (Bv l) (j+1+1)) (Di (Du l) (j+1+1)) (C.set (j+1) (Ck l (j+1) i).length)]/\i<=n/\m=n - i) n ?_ ?_
  ·
   refine Qi ?_;have e0:Ck l (j+1) 0=[]:=rfl;refine ⟨0,ao,co,rfl,?_,by omega,rfl⟩
   have hcs:C.set (j+1) (Ck l (j+1) 0).length=C:=by
    rw [e0,Uw];apply Xh
    ·
     simp
    intro q h1 h2;rw [List.getElem_set];split
    ·
     rename_i e;subst e;have:=Qpi (B5 l) (n:=j+1) (j:=j+1) (by omega);rw [hCC,if_neg (by omega),Yb,Ya h2] at this;exact this.symm
    rfl
   rw [hcs,e0,Yu];exact hH4
  clear hH4;rintro m e w8 ⟨i,ao,co,rfl,hH,hi,rfl⟩;refine Am [5,6,7,50,51,52,53] fun K hK=>?_;apply hK;clear hK;(repeat refine Ay ?_);refine VD (fun h=>?_) (fun h=>?_)
  ·
   have hcell:=Eh (hH.rs' hr) (i:=i) (by omega);have hix:=Va l (j+1) i;have hil:=Qoz l (j+1) i;have hlC:(C.set (j+1) (Ck l (j+1) i).length).length=22:=by rw [Ud];exact lC
   have hgC:(C.set (j+1) (Ck l (j+1) i).length).getD (j+1) 0=(Ck l (j+1) i).length:=Pp (by omega);have hset:∀ x,(C.set (j+1) (Ck l (j+1) i).length).set (j+1) x=C.set (j+1) x:=fun x=>List.set_set _;generalize hx:l.getD i 0=x at *;generalize hI:Ck l (j+1) i=I at *;refine Ab ?_
   ((repeat refine Ay ?_);refine Ar ?_)
   refine Am [5,6,7,8,9,50,51,52] fun K hK=>?_;refine ⟨⟨by omega,by omega⟩,_,hcell,?_⟩;apply hK;clear hK;refine Am [5,6,7,8,50,51,52,59] fun K hK=>?_;apply hK;clear hK;refine VD (fun h=>?_) (fun h=>?_)
   ·
    rw [if_pos (by omega)] at hix;refine Am [5,6,7,50,51,52] fun K hK=>?_;refine ⟨_,Aj (hH.at 1 rfl) (show (Ey (.slice (some p) n lc) (.slice ao (O++I).length co) (Di (Bv l) (j+1+1)) (Di (Du l) (j+1+1)) (C.set (j+1) I.length))[1]? = some _ from rfl),?_⟩;refine Kk (xs:=[.tmp 65]) Ye Lb rfl rfl rfl (by omega) ?_;refine Qi ?_;refine ⟨by simp [Xg],?_⟩;refine Cd ?_;refine Qi ?_;refine Qh7 hH 0 (i) rfl Ye E0 (by first | rfl | (simp;done) | omega | (simp;omega)) (fun h=>by (first | omega | (simp;done) | (simp;omega))) fun a' cap' w5 hc' hH5=>?_;(try refine Qi ?_);simp only [Yd] at hH5;rw [Yn,<- hix] at hH5 ⊢;refine Af ?_;refine Qi ?_;refine Qnu hH5 1 rfl lF2 lB2 hlC fun w9 hH6=>?_;simp only [Yh,Yd] at hH6;clear hH5;apply hK;clear hK;have hcc:=Qph (sv:=.slice (some p) n lc) (ov:=.slice a' (O++Ck l (j+1) (i+1)).length cap') lF2 lB2 hlC (n:=j+1) (by omega);rw [hgC] at hcc;(repeat refine Ay ?_);refine W6 [5,6,7,50,51,52] 10 (by kernel_rfl) (by kernel_rfl) (by kernel_rfl) rfl fun K hK=>?_;refine Qi ?_;refine ⟨⟨by omega,by omega⟩,_,Aj (hH6.at 1 rfl) hcc,?_⟩;refine Qi ?_;refine ⟨Y4 (by omega) (by omega),⟨by omega,by omega⟩,?_⟩;refine Af ?_;refine Qi ?_;refine Qnt hH6 1 (n:=j+1) (x:=I.length+1) rfl lF2 lB2 hlC (by omega) fun w10 hH7=>?_;simp only [Yh,Yd,hset] at hH7;apply hK;clear hK;refine Am [5,6,7,50,51,52] fun K hK=>?_;(repeat refine Qo ?_);apply hK;clear hK;refine Ao ?_;refine Am [5,6,7,50,51,52] fun K hK=>?_;(repeat refine Qo ?_);apply hK;clear hK;refine Ah ?_;refine Qi ?_;have hil2:(Ck l (j+1) (i+1)).length=I.length+1:=by rw [hix];simp
    refine ⟨n - (i+1),by omega,i+1,a',cap',?_,?_,by omega,rfl⟩
    ·
     rw [hil2];rfl
    rw [hil2];exact hH7
   rw [if_neg (by omega),Yu] at hix;refine Ab ?_;refine Ao ?_;refine Am [5,6,7,50,51,52] fun K hK=>?_;(repeat refine Qo ?_);apply hK;clear hK;refine Ah ?_;refine Qi ?_;exact ⟨n - (i+1),by omega,i+1,ao,co,by rw [hix];rfl,by rw [hix];exact hH,by omega,rfl⟩
  obtain rfl:i=n:=by omega
  rw [hcnt,hsC,<- hoS] at hH;refine As rfl ?_;refine Ao ?_;rw [hcnt];refine Am [5,6,7] fun K hK=>?_;(repeat refine Qo ?_);apply hK;clear hK;refine Ah ?_;refine Qi ?_;exact ⟨L - (j+1),by omega,j+1,ao,co,rfl,hH,by omega,rfl⟩
 obtain rfl:j=L:=by omega
 refine As rfl ?_;refine Am [2,3] fun K hK=>?_;apply hK;clear hK;exact Ad (A6 rfl rfl rfl ⟨g,ao,co,hH2.perm (List.Perm.swap _ _ _),rfl⟩)
theorem Qto (d:Nat) (b:Bool):(Yc (d+1) [true,b]).flatten=(Yc d [true,b]).flatten++[true,b]:=by
 rw [List.replicate_succ',List.flatten_append];simp
def N5:Nat->List Nat->Nat
 | p,[]=>p
 | _,y::l=>N5 y l
theorem Qc7:∀ (l:List Nat) (p x:Nat),Eb p (l++[x])=Eb p l++(Ox (N5 p l) x++[false])
 | [],p,x=>by simp [Eb,N5]
 | y::l,p,x=>by
  rw [Y6,Eb,Qc7 l y x,Eb,N5];simp
theorem Qev:∀ (l:List Nat) (p x:Nat),N5 p (l++[x])=x
 | [],p,x=>rfl
 | y::l,p,x=>by rw [Y6,N5,Qev l y x]
theorem Qjx {lo hi:Nat}:∀ (l:List Nat) (p:Nat),(lo<=p/\p<=hi)->(∀ x∈l,lo<=x/\x<=hi)->lo<=N5 p l/\N5 p l<=hi
 | [],p,hp,_=>hp
 | y::l,p,hp,h=>Qjx l y (h y (by simp)) fun x hx=>h x (by simp [hx])
theorem Qrw (p x:Nat):Ox p x=(Yc (x - p) [true,false]).flatten++(Yc (p - x) [true,true]).flatten:=by
 unfold Ox;split
 ·
  rw [show p - x=0 by omega];simp
 rw [show x - p=0 by omega];simp
theorem W2:∀ (l:List Nat) (p:Nat),(p<=20)->(∀ x∈l,x<=20)->(Eb p l).length<=41 * l.length
 | [],p,_,_=>by simp [Eb]
 | x::l,p,hp,hx=>by
  have h1:=hx x (by simp);have h2:=W2 l x h1 fun y hy=>hx y (by simp [hy]);have h3:=Qa7 p x;simp only [Eb,Yi,Y1];omega
theorem Qf1 (l:List Nat) (hl:2<=l.length) (hl2:l.length<=258) (hx:∀ x∈l,1<=x/\x<=20) (a:Option Addr) (lc:Nat) (w:World) (hr:RS w a l.length 1 (Ag l)) :
  Does Yg 107 #[.slice a l.length lc] w fun v w'=>Heap w [] w' []/\v=.tuple #[Ln (Da l),.int .i64 0]:=by
 obtain ⟨p,rfl⟩:=rs_pos hr (by omega);have hget:∀ i,i < l.length->1<=l.getD i 0/\l.getD i 0<=20:=fun i hi=>hx _ (Dm 0 hi);refine En [.slice (some p) l.length lc] 71 Tryz.func107 ?_;generalize hn:l.length=n at *;refine VQ [0,2] fun K hK=>?_;refine A7 (.agg #[.string ⟨#[]⟩,.int .i64 0]) (by kernel_rfl) ?_;refine Qs ?_;have hH:=(Yz w).box 70 [.string ⟨#[]⟩,.int .i64 0];generalize w.alloc (Yq [Value.string ⟨#[]⟩,.int .i64 0].toArray 70)=w1 at *;generalize w.heap.size=gr at *;apply hK;clear hK;refine VQ [0,2,17] fun K hK=>?_
 suffices out:∀ b:Bool,(b=true ↔ False)->K [(0,.slice (some p) n lc),(2,.pointer (some ⟨gr,0,none⟩)),(17,.bool b)] w1 by (repeat' (first | exact out _ _ (by first | omega | (simp;done) | (simp;omega)) | exact out _ (by first | omega | (simp;done) | (simp;omega)) | refine ⟨fun _=>?_,fun _=>?_⟩ | refine Qo ?_))
 intro b hb;apply hK;clear hK;refine Ae rfl rfl (fun h=>(hb.1 h).elim) (fun h=>Ab ?_);clear hb h;refine VS [0,2,19,20,21] ?_;refine Ar ?_;refine Au [0,2,19,20,21] (fun m e w'=>∃ (i:Nat),Is e [(0,.slice (some p) n lc),(2,.pointer (some ⟨gr,0,none⟩)),(19,.slice (some p) n lc),(20,.int .i64 n),(21,.int .i64 i)]/\Is w' w1/\i<=n/\m=n - i) n ?_ ?_
 ·
  refine Qs ?_;exact ⟨0,rfl,rfl,by omega,rfl⟩
 rintro m e w2 ⟨i,rfl,rfl,hi,rfl⟩;refine VS [0,2,19,20,21,22] ?_;(repeat refine Ay ?_);refine VD (fun h=>?_) (fun h=>?_)
 ·
  have hcell:=Eh (hH.rs' hr) (i:=i) (by omega);have hg:=hget i (by omega);generalize l.getD i 0=x at *;refine Ab ?_;refine VB ?_;refine VQ [0,2,5,19,20,21] fun K hK=>?_;refine ⟨⟨by omega,by omega⟩,_,hcell,?_⟩;apply hK;clear hK;refine VQ [0,2,19,20,21,30] fun K hK=>?_
  suffices out:∀ b:Bool,(b=true ↔ False)->K [(0,.slice (some p) n lc),(2,.pointer (some ⟨gr,0,none⟩)),(19,.slice (some p) n lc),(20,.int .i64 n),(21,.int .i64 i),(30,.bool b)] w2 by (repeat' (first | exact out _ _ (by first | omega | (simp;done) | (simp;omega)) | exact out _ (by first | omega | (simp;done) | (simp;omega)) | refine ⟨fun _=>?_,fun _=>?_⟩ | refine Qo ?_))
  intro b hb;apply hK;clear hK;refine Ae rfl rfl (fun h=>(hb.1 h).elim) (fun h=>Ab ?_);refine Ao ?_;refine VS [0,2,19,20,21] ?_;refine Ah ?_;refine Qs ?_;exact ⟨n - (i+1),by omega,i+1,rfl,rfl,by omega,rfl⟩
 obtain rfl:i=n:=by omega
 refine As rfl ?_;refine VQ [0,2,6] fun K hK=>?_;refine Ac Tryz.call32 ?_;refine Qs ?_;refine Yk (Qz w2) ?_;rintro v w5 ⟨gw,hH2,rfl⟩;have hH3:=hH.call0 hH2;clear hH hH2 hi h;apply hK;clear hK;have h0:=hget 0 (by omega);have hc0:=Eh (hH3.rs' hr) (i:=0) (by omega);have hdS:Da l=A1 5 (l.getD 0 0)++Eb (l.getD 0 0) l:=rfl;rw [hdS];generalize hx0:l.getD 0 0=x0 at *;refine VQ [0,2,6] fun K hK=>?_;refine ⟨by omega,_,hc0,?_⟩;refine Qs ?_;rw [show ((x0:Int) % 18446744073709551616)=x0 by omega];refine Ac U3 ?_;refine Qs ?_;refine Yk (Il gw none 0 [] x0 5 w5 (by omega) (by omega) (by simp) (hH3.focus 0 rfl)) ?_;rintro v w7 ⟨a2,c2,hHw,rfl⟩;rw [Yl] at hHw;have hH4:=hH3.call1 0 rfl hHw;simp only [Yd,Yl] at hH4;clear hH3 hHw hc0;have hc0:=Eh (hH4.rs' hr) (i:=0) (by omega);rw [hx0] at hc0;apply hK;clear hK;refine VQ [0,2,6,7] fun K hK=>?_;refine ⟨by omega,_,hc0,?_⟩;apply hK;clear hK;refine VS [2,6,7,43,44,45] ?_;refine Ar ?_;refine Au [2,6,7,43,44,45] (fun m e w'=>∃ (k:Nat) (a:Option Addr) (c:Nat),Is e [(2,.pointer (some ⟨gr,0,none⟩)),(6,.pointer (some ⟨gw,0,none⟩)),(7,.int .i64 (N5 x0 (l.take k):Nat)),(43,.slice (some p) i lc),(44,.int .i64 i),(45,.int .i64 k)]/\Heap w [] w' [wr gw a c (A1 5 x0++Eb x0 (l.take k)),Yj gr 70 [.string ⟨#[]⟩,.int .i64 0]]/\k<=i/\m=i - k) i ?_ ?_
 ·
  refine Qs ?_;exact ⟨0,a2,c2,rfl,by simpa [Eb] using hH4,by omega,rfl⟩
 clear hH4 hc0 hdS;rintro m e w8 ⟨k,a3,c3,rfl,hH,hk,rfl⟩;refine VS [2,6,7,43,44,45,46] ?_;(repeat refine Ay ?_);refine VD (fun h=>?_) (fun h=>?_)
 ·
  have hcell:=Eh (hH.rs' hr) (i:=k) (by omega);have hg:=hget k (by omega);have htk:=Mo 0 (l:=l) (i:=k) (by omega);have hlo:=Qjx (l.take k) x0 h0 fun x hx'=>hx x (Ub hx');have hdl:=W2 (l.take k) x0 h0.2 fun x hx'=>(hx x (Ub hx')).2;have hdl2:(l.take k).length<=258:=by rw [Xi];omega
  have hsn:=Qc7 (l.take k) x0 (l.getD k 0);have hls:=Qev (l.take k) x0 (l.getD k 0);rw [<- htk] at hsn hls;rw [Qrw] at hsn;have hbl:=Ct 5 x0;generalize l.getD k 0=x at *;generalize N5 x0 (l.take k)=p0 at *;generalize hB:A1 5 x0++Eb x0 (l.take k)=Bt at *;have hBl:Bt.length<=11000:=by rw [<- hB,Yi];omega
  refine Ab ?_;refine VB ?_;refine VQ [2,6,7,9,43,44,45] fun K hK=>?_;refine ⟨⟨by omega,by omega⟩,_,hcell,?_⟩;apply hK;clear hK;refine VB ?_;refine Au [2,6,7,9,43,44,45] (fun m e w'=>∃ (d:Nat) (a:Option Addr) (c:Nat),Is e [(2,.pointer (some ⟨gr,0,none⟩)),(6,.pointer (some ⟨gw,0,none⟩)),(7,.int .i64 (p0+d:Nat)),(9,.int .i64 x),(43,.slice (some p) i lc),(44,.int .i64 i),(45,.int .i64 k)]/\Heap w [] w' [wr gw a c (Bt++(Yc d [true,false]).flatten),Yj gr 70 [.string ⟨#[]⟩,.int .i64 0]]/\d<=x - p0/\m=x - p0 - d) (x - p0) ?_ ?_
  ·
   refine Qs ?_;exact ⟨0,a3,c3,rfl,by simpa using hH,by omega,rfl⟩
  clear hH hcell;rintro m e w9 ⟨d,a4,c4,rfl,hH,hd,rfl⟩;refine VS [2,6,7,9,43,44,45,51] ?_;refine VD (fun h=>?_) (fun h=>?_)
  ·
   refine Ab ?_;refine VB ?_;refine VQ [2,6,7,9,43,44,45] fun K hK=>?_;refine Ac U3 ?_;refine Qs ?_;refine Yk (Il gw a4 c4 _ 2 2 w9 (by omega) (by omega) (by rw [Yi,Vc];omega) (hH.focus 0 rfl)) ?_;rintro v w10 ⟨a5,c5,hHw,rfl⟩;have e2:A1 2 2=[true,false]:=rfl;rw [e2,Yn,<- Qto] at hHw;have hH2:=hH.call1 0 rfl hHw;simp only [Yd,Yl] at hH2;apply hK;clear hK;refine Ao ?_;refine VS [2,6,7,9,43,44,45] ?_;refine Ah ?_;refine Qs ?_;exact ⟨x - p0 - (d+1),by omega,d+1,a5,c5,rfl,hH2,by omega,rfl⟩
  obtain rfl:d=x - p0:=by omega
  refine As rfl ?_;generalize hB2:Bt++(Yc (x - p0) [true,false]).flatten=Bt2 at *;have hBl2:Bt2.length<=11100:=by rw [<- hB2,Yi,Vc];omega
  refine VB ?_;refine Au [2,6,7,9,43,44,45] (fun m e w'=>∃ (d:Nat) (a:Option Addr) (c:Nat),Is e [(2,.pointer (some ⟨gr,0,none⟩)),(6,.pointer (some ⟨gw,0,none⟩)),(7,.int .i64 ((p0+(x - p0) - d:Nat):Int)),(9,.int .i64 x),(43,.slice (some p) i lc),(44,.int .i64 i),(45,.int .i64 k)]/\Heap w [] w' [wr gw a c (Bt2++(Yc d [true,true]).flatten),Yj gr 70 [.string ⟨#[]⟩,.int .i64 0]]/\d<=p0 - x/\m=p0 - x - d) (p0 - x) ?_ ?_
  ·
   refine Qs ?_;exact ⟨0,a4,c4,rfl,by simpa using hH,by omega,rfl⟩
  clear hH;rintro m e w10 ⟨d,a5,c5,rfl,hH,hd,rfl⟩;refine VS [2,6,7,9,43,44,45,58] ?_;refine VD (fun h=>?_) (fun h=>?_)
  ·
   refine Ab ?_;refine VB ?_;refine VQ [2,6,7,9,43,44,45] fun K hK=>?_;refine Ac U3 ?_;refine Qs ?_;refine Yk (Il gw a5 c5 _ 3 2 w10 (by omega) (by omega) (by rw [Yi,Vc];omega) (hH.focus 0 rfl)) ?_;rintro v w11 ⟨a6,c6,hHw,rfl⟩;have e2:A1 2 3=[true,true]:=rfl;rw [e2,Yn,<- Qto] at hHw;have hH2:=hH.call1 0 rfl hHw;simp only [Yd,Yl] at hH2;apply hK;clear hK;refine Ao ?_;refine VS [2,6,7,9,43,44,45] ?_;refine Ah ?_;refine Qs ?_;refine ⟨p0 - x - (d+1),by omega,d+1,a6,c6,?_,hH2,by omega,rfl⟩;rw [show ((p0+(x - p0) - d:Nat):Int) - 1=((p0+(x - p0) - (d+1):Nat):Int) by omega];rfl
  obtain rfl:d=p0 - x:=by omega
  refine As rfl ?_;refine VQ [2,6,7,43,44,45] fun K hK=>?_;refine Ac U3 ?_;refine Qs ?_;refine Yk (Il gw a5 c5 _ 0 1 w10 (by omega) (by omega) (by rw [Yi,Vc];omega) (hH.focus 0 rfl)) ?_;rintro v w11 ⟨a6,c6,hHw,rfl⟩;have e2:A1 1 0=[false]:=rfl;rw [e2] at hHw;have hH2:=hH.call1 0 rfl hHw;simp only [Yd,Yl] at hH2;apply hK;clear hK;refine Ao ?_;refine VS [2,6,7,43,44,45] ?_;refine Ah ?_;refine Qs ?_;refine ⟨i - (k+1),by omega,k+1,a6,c6,?_,?_,by omega,rfl⟩
  ·
   rw [hls,show p0+(x - p0) - (p0 - x)=x by omega];rfl
  rw [hsn,<- Yn,hB,<- Yn,<- Yn,hB2];exact hH2
 obtain rfl:k=i:=by omega
 rw [Yp (by omega)] at hH;refine As rfl ?_;refine VQ [2,3] fun K hK=>?_;refine Ac Tryz.call36 ?_;refine Qs ?_;refine Yk (Px gw a3 c3 _ w8 (hH.at 0 rfl)) ?_;rintro v w9 ⟨rfl,rfl⟩;refine Ac Tryz.call37 ?_;refine Qs ?_;refine Yk (Ov gw a3 c3 _ w9 (hH.at 0 rfl)) ?_;rintro v w10 ⟨rfl,rfl⟩;refine Qs ?_;generalize A1 5 x0++Eb x0 l=R at *;refine Af ?_;refine Qs ?_;refine Al hH 1 (vs:=Ax R) rfl rfl (by kernel_rfl) (by simp [Ax]) (by simp [Ax,Yo]) fun w11 hH2=>?_;have hH2:Heap w [] w11 [wr gw a3 c3 R,Yj gr 70 (Ax R)]:=hH2;apply hK;clear hK;refine Ad (I1 rfl rfl rfl (Cv (hH2.at 1 rfl) (by kernel_rfl) (by kernel_rfl) rfl ?_));exact ⟨hH2.sub (by simp),rfl⟩
def Qsy (r:Except Int (List Nat×Nat)) (w:World) (v:Value) (w':World):Prop:=match r with
 | .ok q=>∃ a cap,Heap w [] w' [Yr 3 1 a q.1.length cap (Ag q.1)]/\v=.tuple #[.slice a q.1.length cap,.int .i64 q.2,.int .i64 0]
 | .error e=>Heap w [] w' []/\v=.tuple #[.slice none 0 0,.int .i64 0,.int .i64 e]
theorem QEj (r:List Bool) (now at_:Nat):B9 r now 0 at_=.ok ([],at_):=by
 match r with
 | []=>simp [B9]
 | false::r=>simp [B9]
 | [true]=>simp [B9]
 | true::d::r=>simp [B9]
theorem QI7 (r:List Bool) {now k:Nat} (at_:Nat) (hk:k≠0) (h:now < 1∨20 < now):B9 r now k at_=.error 80:=by
 match r with
 | []=>simp only [B9,if_neg hk,if_pos h]
 | false::r=>simp only [B9,if_neg hk,if_pos h]
 | [true]=>simp only [B9,if_neg hk,if_pos h]
 | true::d::r=>simp only [B9,if_neg hk,if_pos h]
theorem Qbd (s:List UInt8) (g9 gr gs p n:Nat) (hn:n<=60) (hp:p<=8 * s.length) (hs:s.length<=100000000000000) (w0 w:World) (B:List Nat) (G:List Res) (hL:Heap w0 B w (rd gr gs s p::Yj g9 130 [.pointer (some ⟨gr,0,none⟩)]::G)) :
  Does Yg 165 #[.int .i64 n,.pointer (some ⟨g9,0,none⟩)] w fun x w' =>
   (8 * s.length < p+n/\w'=w/\x=.tuple #[.int .i64 0,.int .i64 10])∨(p+n<=8 * s.length/\Heap w0 B w' (rd gr gs s (p+n)::Yj g9 130 [.pointer (some ⟨gr,0,none⟩)]::G)/\x=.tuple #[.int .i64 (Bc (((At s).drop p).take n):Nat),.int .i64 0]):=by
 refine En [.int .i64 n,.pointer (some ⟨g9,0,none⟩)] 16 Tryz.func165 ?_;refine VS [0,1] ?_;refine VQ [5,6] fun K hK=>?_;refine ⟨_,Aj (hL.at 1 rfl) rfl,?_⟩;refine Ac Tryz.call69 ?_;refine Qs ?_;refine Yk (Ot gr gs s p n w (by omega) (by omega) (by omega) (hL.focus 0 rfl)) ?_;rintro v w3 (⟨h1,rfl,rfl⟩ | ⟨h1,hH2,rfl⟩)
 ·
  skip
  apply hK;clear hK;refine VS [3,4] ?_;exact Ad (A6 rfl rfl rfl (.inl ⟨h1,rfl,rfl⟩))
 have hH3:=hL.call1 0 rfl hH2;simp only [Yd,Yl] at hH3;have hlt:=K2 (((At s).drop p).take n);have hlen:(((At s).drop p).take n).length<=60:=by rw [Xi];omega
 have hlt2:=Yx (n:=2) (by omega) hlen;generalize Bc (((At s).drop p).take n)=q at *;apply hK;clear hK;refine VS [3,4] ?_;exact Ad (A6 rfl rfl rfl (.inr ⟨h1,hH3,rfl⟩))
theorem Qf2 (s:List UInt8) (at_ n:Nat) (ha:at_<=8 * s.length) (hs:s.length<=100000000000000) (hn:2<=n/\n<=258) (w:World) :
  Does Yg 124 #[Aa s,.int .i64 at_,.int .i64 n] w (Qsy (Lz (At s) at_ n) w):=by
 have hbl:=D8 s;generalize hbits:At s=bits at *;generalize hres:Lz bits at_ n=res;unfold Lz at hres;refine En [Aa s,.int .i64 at_,.int .i64 n] 79 Tryz.func124 ?_;refine VS [0,1,2] ?_;(repeat refine Ay ?_);refine Vg ?_;refine VQ [2,9] fun K hK=>?_;refine Ac Tryz.call68 ?_;refine Qs ?_;refine Yk (Q0 s at_ w (Y4 (by omega) (by omega)) (by omega)) ?_;rintro v w2 (⟨hbad,_⟩ | ⟨_,gr,gs,hH,rfl⟩)
 ·
  omega
 rw [Ym] at hH;refine A7 (.pointer none) (by kernel_rfl) ?_;refine Qs ?_;have hH1:=hH.box 130 [.pointer none];generalize w2.alloc (Yq [Value.pointer none].toArray 130)=w3 at *;generalize w2.heap.size=g9 at *;refine Af ?_;refine Qs ?_;refine Al hH1 0 (vs:=[.pointer (some ⟨gr,0,none⟩)]) rfl rfl (by kernel_rfl) (by simp) (by simp [Yo]) fun w4 hH2=>?_;have hH3:Heap w [] w4 [rd gr gs s at_,Yj g9 130 [.pointer (some ⟨gr,0,none⟩)]]:=hH2.perm (List.Perm.swap _ _ _);clear hH hH1 hH2;apply hK;clear hK;refine VQ [2,9,29] fun K hK=>?_
 suffices out:∀ b:Bool,(b=true ↔ False)->K [(2,.int .i64 n),(9,.pointer (some ⟨g9,0,none⟩)),(29,.bool b)] w4 by
  refine ⟨_,Aj (hH3.at 1 rfl) rfl,?_⟩;refine Qs ?_;(repeat' (first | exact out _ _ (by first | omega | (simp;done) | (simp;omega)) | exact out _ (by first | omega | (simp;done) | (simp;omega)) | refine ⟨fun _=>?_,fun _=>?_⟩ | refine Qo ?_))
 intro b hb;apply hK;clear hK;refine Ae rfl rfl (fun h=>(hb.1 h).elim) (fun h=>Ab ?_);clear hb h;refine VS [2,9,10] ?_;refine VQ [2,9,10,11,12] fun K hK=>?_;refine Ce ?_;refine Qs ?_;refine Gi Gg (Qbd s g9 gr gs at_ 5 (by omega) ha hs w w4 [] [] hH3) ?_;have hts:E3 bits at_ 5=if bits.length < at_+5 then (0,10) else (Bc ((bits.drop at_).take 5),0):=rfl
 rintro v w5 (⟨h1,rfl,rfl⟩ | ⟨h1,hH4,rfl⟩)
 ·
  rw [if_pos (by omega)] at hts;rw [hts,if_pos (by simp)] at hres;subst hres;apply hK;clear hK;refine VS [2,9,10,11,12,37] ?_;refine Ae rfl rfl (fun h=>?_) (fun h=>by cases h);refine VS [6,7,8] ?_;exact Ad (Dd rfl rfl rfl rfl ⟨hH3.sub (by simp),rfl⟩)
 rw [if_neg (by omega)] at hts;rw [hts,if_neg (by simp)] at hres;rw [hbits];have hlt:=K2 ((bits.drop at_).take 5);have hlen:((bits.drop at_).take 5).length<=5:=by rw [Xi];omega
 have hlt2:=Yx (n:=2) (by omega) hlen;clear hH3 hts;simp only at hres;generalize Bc ((bits.drop at_).take 5)=now0 at *;apply hK;clear hK;refine VS [2,9,10,11,12,37] ?_;refine Ae rfl rfl (fun h=>by cases h) (fun h=>Ab ?_);clear h;refine VS [2,9,10,11,13] ?_;(repeat refine Ay ?_);refine Ve ?_;refine VB ?_;refine Au [2,9,10,11,13] (fun m e w'=>∃ (p now cap:Nat) (a:Option Addr) (out:List Nat),Is e [(2,.int .i64 n),(9,.pointer (some ⟨g9,0,none⟩)),(10,.func (.func 165) #[] #[.pointer (some ⟨g9,0,none⟩)]),(11,.int .i64 now),(13,.slice a out.length cap)]/\Heap w [] w' [rd gr gs s p,Yj g9 130 [.pointer (some ⟨gr,0,none⟩)],Yr 3 1 a out.length cap (Ag out)]/\p<=8 * s.length/\now<=100/\out.length<=n/\(match B9 (bits.drop p) now (n - out.length) p with | .error e=>.error e | .ok q=>.ok (out++q.1,q.2))=res/\m=8 * s.length - p) (8 * s.length - (at_+5)) ?_ ?_
 ·
  refine Qs ?_;have hH5:=(hH4.nilRow 3 1).perm (G':=[rd gr gs s (at_+5),Yj g9 130 [.pointer (some ⟨gr,0,none⟩)],Yr 3 1 none 0 0 []]) (by exact (X7 (l₁:=[Yr 3 1 none 0 0 []])));exact ⟨at_+5,now0,0,none,[],rfl,hH5,by omega,by omega,by simp,by rw [<- hres];simp only [Uw,Nat.sub_zero,Yl];cases B9 (bits.drop (at_+5)) now0 n (at_+5) <;> rfl,rfl⟩
 clear hH4 hres;rintro m e w6 ⟨p,now,cap,a,out,rfl,hH,hp,hnow,hol,hres,rfl⟩;refine VS [2,9,10,11,13,42] ?_;refine VD (fun h=>?_) (fun h=>?_)
 ·
  have hol2:out.length < n:=by omega
  obtain ⟨p0,hp0⟩:∃ q,q=p:=⟨p,rfl⟩;refine Ab ?_;refine Ar ?_;refine Ar ?_;refine Au [2,9,10,11,13] (fun m e w'=>∃ (p now:Nat),Is e [(2,.int .i64 n),(9,.pointer (some ⟨g9,0,none⟩)),(10,.func (.func 165) #[] #[.pointer (some ⟨g9,0,none⟩)]),(11,.int .i64 now),(13,.slice a out.length cap)]/\Heap w [] w' [rd gr gs s p,Yj g9 130 [.pointer (some ⟨gr,0,none⟩)],Yr 3 1 a out.length cap (Ag out)]/\p0<=p/\p<=8 * s.length/\now<=100/\(match B9 (bits.drop p) now (n - out.length) p with | .error e=>.error e | .ok q=>.ok (out++q.1,q.2))=res/\m=8 * s.length - p) (8 * s.length - p) ?_ ?_
  ·
   refine Qs ?_;exact ⟨p,now,rfl,hH,by omega,hp,hnow,hres,rfl⟩
  clear hH hres hp hnow;rintro m e w7 ⟨p,now,rfl,hH,hpp,hp,hnow,hres,rfl⟩;refine Ar ?_;refine VQ [2,9,10,11,13,48] fun K hK=>?_
  suffices out:∀ b:Bool,(b=true ↔ (now < 1∨20 < now))->K [(2,.int .i64 n),(9,.pointer (some ⟨g9,0,none⟩)),(10,.func (.func 165) #[] #[.pointer (some ⟨g9,0,none⟩)]),(11,.int .i64 now),(13,.slice a out.length cap),(48,.bool b)] w7 by (repeat' (first | exact out _ _ (by first | omega | (simp;done) | (simp;omega)) | exact out _ (by first | omega | (simp;done) | (simp;omega)) | refine ⟨fun _=>?_,fun _=>?_⟩ | refine Qo ?_))
  intro b hb;apply hK;clear hK;refine Vi (fun h=>?_) (fun h=>Ab ?_)
  ·
   rw [QI7 _ _ (by omega) (hb.1 h)] at hres;subst hres;refine VS [6,7,8] ?_;exact Ad (Dd rfl rfl rfl rfl ⟨hH.sub (by simp),rfl⟩)
  have hg:¬ (now < 1∨20 < now):=fun h2=>by have:=hb.2 h2;simp_all
  clear hb h;refine VQ [2,9,10,11,13,14,15] fun K hK=>?_;refine Ce ?_;refine Qs ?_;refine Gi Gg (Qbd s g9 gr gs p 1 (by omega) hp hs w w7 [] _ hH) ?_;rintro v w8 (⟨h1,rfl,rfl⟩ | ⟨h1,hH4,rfl⟩)
  ·
   rw [Yt (by omega),B9,if_neg (by omega),if_neg hg] at hres;subst hres;apply hK;clear hK;refine VS [2,9,10,11,13,14,15,55] ?_;refine Ae rfl rfl (fun h=>?_) (fun h=>by cases h);refine VS [6,7,8] ?_;exact Ad (Dd rfl rfl rfl rfl ⟨hH.sub (by simp),rfl⟩)
  have hdp:bits.drop p=bits.getD p false::bits.drop (p+1):=drop_getD false (by omega);have hnum:Bc ((bits.drop p).take 1)=(bits.getD p false).toNat:=by rw [hdp];cases bits.getD p false <;> rfl
  rw [hbits,hnum];rw [hdp] at hres;apply hK;clear hK;refine VS [2,9,10,11,13,14,15,55] ?_;refine Ae rfl rfl (fun h=>by cases h) (fun h=>Ab ?_);clear h hH;refine VS [2,9,10,11,13,58] ?_;generalize bits.getD p false=b at *;cases b with
  | false =>
   rw [B9,if_neg (by omega),if_neg hg] at hres;refine Ae rfl rfl (fun h=>?_) (fun h=>by simp at h);refine VQ [2,9,10,11,13] fun K hK=>?_;refine Kk (xs:=[.tmp 60]) Ye Lb rfl rfl rfl (by omega) ?_;refine Qs ?_;refine ⟨by simp [Xg],?_⟩;refine Cd ?_;refine Qs ?_;refine Qh7 hH4 2 (now) rfl Ye E0 (by first | rfl | (simp;done) | omega | (simp;omega)) (fun h=>by (first | omega | (simp;done) | (simp;omega))) fun a' cap' w5 hc' hH5=>?_;(try refine Qs ?_);simp only [Yh,Yd] at hH5;apply hK;clear hK;refine As rfl ?_;refine Ah ?_;refine Qs ?_;refine ⟨8 * s.length - (p+1),by omega,p+1,now,cap',a',out++[now],rfl,hH5,by omega,hnow,by simp;omega,?_,rfl⟩;rw [<- hres,show n - (out++[now]).length=n - out.length - 1 by simp;omega];cases B9 (bits.drop (p+1)) now (n - out.length - 1) (p+1) with
   | error e=>rfl
   | ok q=>simp
  | true =>
   refine Ae rfl rfl (fun h=>by simp at h) (fun h=>Ab ?_);clear h;refine VQ [2,9,10,11,13,15,16] fun K hK=>?_;refine Ce ?_;refine Qs ?_;refine Gi Gg (Qbd s g9 gr gs (p+1) 1 (by omega) h1 hs w w8 [] _ hH4) ?_;rintro v w9 (⟨h2,rfl,rfl⟩ | ⟨h2,hH6,rfl⟩)
   ·
    rw [Yt (by omega),B9,if_neg (by omega),if_neg hg] at hres;subst hres;apply hK;clear hK;refine VS [2,9,10,11,13,15,16,69] ?_;refine Ae rfl rfl (fun h=>?_) (fun h=>by cases h);refine VS [6,7,8] ?_;exact Ad (Dd rfl rfl rfl rfl ⟨hH4.sub (by simp),rfl⟩)
   have hdp2:bits.drop (p+1)=bits.getD (p+1) false::bits.drop (p+1+1):=drop_getD false (by omega);have hnum2:Bc ((bits.drop (p+1)).take 1)=(bits.getD (p+1) false).toNat:=by rw [hdp2];cases bits.getD (p+1) false <;> rfl
   rw [hbits,hnum2];rw [hdp2,B9,if_neg (by omega),if_neg hg] at hres;generalize bits.getD (p+1) false=d at *;have hd1:d.toNat<=1:=by cases d <;> simp
   apply hK;clear hK;refine VS [2,9,10,11,13,15,16,69] ?_;refine Ae rfl rfl (fun h=>by cases h) (fun h=>Ab ?_);clear h;refine VS [2,9,10,11,13] ?_;refine Ao ?_;refine Ah ?_;refine Qs ?_;refine ⟨8 * s.length - (p+1+1),by omega,p+1+1,(if d=true then now - 1 else now+1),?_,hH6,by omega,by omega,by split <;> omega,hres,rfl⟩;cases d with
   | true=>rw [if_pos rfl,show ((now:Int)+(1 - 2 * ((true.toNat:Nat):Int)))=((now - 1:Nat):Int) by simp;omega];rfl
   | false=>rw [if_neg (by simp),show ((now:Int)+(1 - 2 * ((false.toNat:Nat):Int)))=((now+1:Nat):Int) by simp];rfl
 rw [show n - out.length=0 by omega,QEj] at hres;simp only [Yu] at hres;subst hres;refine As rfl ?_;refine VQ [6,7,8] fun K hK=>?_;refine ⟨_,Aj (hH.at 1 rfl) rfl,?_⟩;refine Ac Tryz.call122 ?_;refine Qs ?_;refine Yk (Vs gr gs p s w6 (hH.at 0 rfl)) ?_;rintro v w7 ⟨rfl,rfl⟩;apply hK;clear hK;exact Ad (Dd rfl rfl rfl rfl ⟨a,cap,hH.sub (by simp),rfl⟩)
def Dp (l:List Nat):List Nat:=(Yf l.length).map (Dq l)
theorem Qcg (l:List Nat):(Dp l).length=l.length:=by simp [Dp]
theorem Qsz {g n lc:Nat}{p:Addr}{ao:Option Addr}{co:Nat}{l:List Nat}{w:World} (h:(Mg g (.slice (some p) n lc) ao co l).holds w) {k:Nat} (hk:k<=Bq l) (hL:Bq l<=20) :
  w.cell? ⟨g,2+k,none⟩=some (.int .i64 (Bv l k:Nat))/\w.cell? ⟨g,24+k,none⟩=some (.int .i64 (Du l k:Nat))/\w.cell? ⟨g,46+k,none⟩=some (.int .i64 (B5 l k:Nat)):=by
 have lF:=P3 (Bv l) (Bq l+1);have lB:=P3 (Du l) (Bq l+1);have lC:=P3 (B5 l) (Bq l+1);have h1:=Qy6 (sv:=.slice (some p) n lc) (ov:=.slice ao (By l (Bq l)).length co) (Bg:=Di (Du l) (Bq l+1)) (C:=Di (B5 l) (Bq l+1)) lF (n:=k) (by omega);have h2:=Qy7 (sv:=.slice (some p) n lc) (ov:=.slice ao (By l (Bq l)).length co) (C:=Di (B5 l) (Bq l+1)) lF lB (n:=k) (by omega);have h3:=Qph (sv:=.slice (some p) n lc) (ov:=.slice ao (By l (Bq l)).length co) lF lB lC (n:=k) (by omega);rw [Qpi _ (by omega),if_pos (by omega)] at h1 h2 h3;exact ⟨Aj h h1,Aj h h2,Aj h h3⟩
theorem V8 {g n lc:Nat}{p:Addr}{ao:Option Addr}{co:Nat}{l:List Nat}{w:World} (h:(Mg g (.slice (some p) n lc) ao co l).holds w):w.cell? ⟨g,0,none⟩=some (.slice (some p) n lc)/\w.cell? ⟨g,1,none⟩=some (.slice ao (By l (Bq l)).length co)/\Reads w ⟨g,0,none⟩ [.slice (some p) n lc]:=by
 have h0:w.cell? ⟨g,0,none⟩=some (.slice (some p) n lc):=Aj h (k:=0) rfl;refine ⟨h0,Aj h (k:=1) rfl,fun q u hu=>?_⟩;cases q with
 | zero=>simp at hu;subst hu;exact h0
 | succ q=>simp at hu
theorem Qld (l:List Nat) (hok:E8 l) (g:Nat) (p:Addr) (lc:Nat) (ao:Option Addr) (co:Nat) (w0 w:World) (G:List Res) (hr:RS w0 (some p) l.length 1 (Ag l)) (hL:Heap w0 [] w (Mg g (.slice (some p) l.length lc) ao co l::Oh ao co l::G)) :
  Does Yg 146 #[.pointer (some ⟨g,0,none⟩)] w fun v w'=>∃ a cap,Heap w0 [] w' (Yr 3 1 a (Dp l).length cap (Ag (Dp l))::Mg g (.slice (some p) l.length lc) ao co l::Oh ao co l::G)/\v=.slice a (Dp l).length cap:=by
 obtain ⟨hL1,hL20⟩:=Z5 hok;have hat:=fun i hi=>V7 hok (i:=i) hi;have hfl:=fun n hn=>Vk hok (n:=n) hn
 have hbl:∀ n,n<=20->Du l n<=5160:=fun n hn=>by
  have:=Z4 l (n - 1);have h2:=X4 (show n - 1<=20 by omega) hok.2.1;unfold Du;omega
 obtain ⟨hl2,hl258,hin,_⟩:=id hok;refine En [.pointer (some ⟨g,0,none⟩)] 52 Tryz.func146 ?_;have hcl:=Qcg l;generalize hn:l.length=n at *;refine VS [0] ?_;refine VQ [0,3] fun K hK=>?_;refine ⟨_,(V8 (hL.at 0 rfl)).1,?_⟩;refine Qs ?_;refine Ew Ye E0 ?_;refine Qs ?_;refine ⟨n,n,⟨rfl,rfl,by omega,by omega,by omega⟩,?_⟩;have hH:=hL.row 3 (n:=n) (cap:=n) (sz:=1) (Ag (Yc n 0)) [] (by simp [Bi]) (by simp [Bi]) (by omega) (by omega);have er:Ag (Yc n 0)=Yc n (.int .i64 0):=by simp [Ag]
 rw [Yu,er] at hH;generalize w.alloc (Yq (Yc n (Y5 Xp 0)).toArray 3)=w1 at *;generalize w.heap.size=gu at *;rw [<- er] at hH;clear hL;apply hK;clear hK;refine VQ [0,3,17,18,19] fun K hK=>?_;refine ⟨_,(V8 (hH.at 1 rfl)).2.1,?_⟩;refine Qs ?_;apply hK;clear hK;have hol:=Z4 l (Bq l)
 have hol2:(By l (Bq l)).length<=5160:=by
  have h2:=X4 hL20 hl258;rw [hn] at hol;omega
 generalize hoL:(By l (Bq l)).length=oL at *;refine Ar ?_;refine Au [0,3,17,18,19] (fun m e w'=>∃ (k:Nat) (O:List Nat),Is e [(0,.pointer (some ⟨g,0,none⟩)),(3,.slice (some ⟨gu,0,none⟩) n n),(17,.slice ao oL co),(18,.int .i64 oL),(19,.int .i64 k)]/\Heap w0 [] w' (Yr 3 1 (some ⟨gu,0,none⟩) n n (Ag O)::Mg g (.slice (some p) n lc) ao co l::Oh ao co l::G)/\O.length=n/\(∀ j,j < k->O.getD ((By l (Bq l)).getD j 0) 0=Dq l ((By l (Bq l)).getD j 0))/\k<=oL/\m=oL - k) oL ?_ ?_
 ·
  refine Qs ?_;exact ⟨0,_,rfl,hH,by simp,fun j hj=>by omega,by omega,rfl⟩
 clear hH;rintro m e w2 ⟨k,O,rfl,hH,hOl,hO,hk,rfl⟩;refine VS [0,3,17,18,19,20] ?_;(repeat refine Ay ?_);refine VD (fun h=>?_) (fun h=>?_)
 ·
  have hkL:k < (By l (Bq l)).length:=by omega
  obtain ⟨go,rfl⟩:=Fz (hH.at 2 rfl) (by omega);have hcell:=Cm (hH.at 2 rfl) (Fx hkL);obtain ⟨h1,h2,h3⟩:=Ql5 l (Bq l) k hkL;have hcode:=Qvu hkL rfl;rw [hn] at h1;have hti:=hat _ (by rw [hn] at *;exact h1);have hco:=(Zx hok (by rw [hn] at *;exact h1)).2.2;generalize hi:(By l (Bq l)).getD k 0=i at *;have hle:l.getD i 0<=Bq l:=P9.1 (Xf _) _ (Dm 0 (by omega));obtain ⟨c1,c2,c3⟩:=Qsz (hH.at 1 rfl) hle hL20;have csv:=V8 (hH.at 1 rfl);have hcx:=Eh (hH.rs' hr) (i:=i) (by omega);have hff:=hfl (l.getD i 0) hti.2;have hbb:=hbl (l.getD i 0) hti.2;have hp2:2 ^ (l.getD i 0)<=2 ^ 20:=Yx (by omega) hti.2;have hp3:2 ^ (l.getD i 0)<=1048576:=hp2;generalize hx:l.getD i 0=x at *;refine Ab ?_;refine VB ?_;refine VQ [0,3,4,5,17,18,19] fun K hK=>?_;refine ⟨⟨by omega,by omega⟩,_,hcell,?_⟩;apply hK;clear hK;refine VQ [0,3,4,5,6,17,18,19] fun K hK=>?_;refine ⟨_,csv.1,?_⟩;refine Qs ?_;refine ⟨⟨by omega,by omega⟩,_,hcx,?_⟩;apply hK;clear hK;refine VL [0,3,17,18,19] 18 fun K hK=>?_;refine ⟨⟨by omega,by omega⟩,_,c1,?_⟩;refine Qs ?_;refine ⟨Y4 (by omega) (by omega),⟨by omega,by omega⟩,_,c2,?_⟩;refine Qs ?_;refine ⟨Y4 (by omega) (by omega),⟨by omega,by omega⟩,?_⟩;rw [show ((Bv l x:Nat):Int)+k - (Du l x:Nat)=((Dq l i:Nat):Int) by omega];refine Af ?_;refine Qs ?_;refine Eg hH 0 (o:=(i)) (vs:=[.int .i64 (Dq l i:Nat)]) rfl (by first | exact (Bz _ _ _).symm | rfl | simp [Bz]) rfl (by kernel_rfl) (by first | omega | (simp;done) | (simp;omega) | (simp [An,Bb];omega) | (rw [Bi];simp;omega)) (by simp [Yo]) fun w6 hH2=>?_;(try refine Qs ?_);simp only [Yy,De (Ag O) _ _ (show i < (Ag O).length by rw [Bi,hOl];omega),Ik,Yd] at hH2;apply hK;clear hK;refine Ao ?_;refine VS [0,3,17,18,19] ?_;refine Ah ?_;refine Qs ?_;refine ⟨oL - (k+1),by omega,k+1,_,rfl,hH2,by simp [hOl],fun j hj=>?_,by omega,rfl⟩;by_cases e:(By l (Bq l)).getD j 0=i
  ·
   rw [e,Pp (by omega)]
  rw [Po (fun e2=>e e2.symm)];have:j≠k:=fun e2=>e (by rw [e2];exact hi);exact hO j (by omega)
 have hfin:O=Dp l:=by
  apply Xh
  ·
   rw [hOl,hcl]
  intro i h1 h2;have hi:i < l.length:=by omega
  have hm:=Qpg hi (hat i (by omega)).1 (Bq l) (P9.1 (Xf _) _ (Dm 0 hi));obtain ⟨j,hj,e⟩:=X0 hm;have e2:(By l (Bq l)).getD j 0=i:=by rw [Yb,Ya hj];exact e
  have:=hO j (by omega);rw [e2,Yb,Ya h1] at this;simp only [Dp,X9,X2];exact this
 refine As rfl ?_;refine VS [2] ?_;refine Ad (A0 rfl rfl ⟨some ⟨gu,0,none⟩,n,?_,by rw [hcl]⟩);rw [hcl,<- hfin];exact hH
theorem Qdm (l:List Nat) (hok:E8 l) (a:Option Addr) (lc:Nat) (w:World) (hr:RS w a l.length 1 (Ag l)) :
  Does Yg 109 #[.slice a l.length lc] w fun v w'=>∃ a' cap,Heap w [] w' [Yr 3 1 a' (Dp l).length cap (Ag (Dp l))]/\v=.tuple #[.slice a' (Dp l).length cap,.int .i64 0]:=by
 have hl2:=hok.1;obtain ⟨p,rfl⟩:=rs_pos hr (by omega);refine En [.slice (some p) l.length lc] 16 Tryz.func109 ?_;refine VS [0] ?_;refine VQ [4,5] fun K hK=>?_;refine Ac Tryz.call145 ?_;refine Qs ?_;refine Yk (Qjw l hok (some p) lc w hr) ?_;rintro v w2 ⟨g,ao,co,hH,rfl⟩;apply hK;clear hK;refine VS [4,5,12] ?_;refine Ae rfl rfl (fun h=>by simp at h) (fun h=>Ab ?_);refine VQ [2,3] fun K hK=>?_;refine Ac Tryz.call146 ?_;refine Qs ?_;refine Yk (Qld l hok g p lc ao co w w2 [] hr hH) ?_;rintro v w3 ⟨a',cap,hH2,rfl⟩;apply hK;clear hK;exact Ad (A6 rfl rfl rfl ⟨a',cap,hH2.sub (by simp),rfl⟩)
def Wp (l:List Nat) (c k m:Nat):Bool:=decide (k < m) && decide (0 < B5 l m) && decide (c * 2 ^ (m - k) < Bv l m+B5 l m)
theorem Qtp {l:List Nat}{c k:Nat} (hL:Bq l<=20):Qq l c k=true ↔ ∃ m,k < m/\m<=Bq l/\Wp l c k m=true:=by
 unfold Qq;rw [List.any_eq_true];constructor
 ·
  rintro ⟨m,hm,h⟩;refine ⟨m,?_,?_,h⟩
  ·
   simp only [Xx,decide_eq_true_eq] at h;exact h.1.1
  rcases Us (Bq l) m with h2 | h2
  ·
   have:=Qy5 h2;simp [this] at h
  exact h2
 rintro ⟨m,h1,h2,h3⟩;exact ⟨m,Y3.2 (by omega),h3⟩
theorem Qnv (l:List Nat) (hok:E8 l) (c k:Nat) (hc:c<=2097152) (hk:k<=20) (g:Nat) (p:Addr) (lc:Nat) (ao:Option Addr) (co i:Nat) (w0 w:World) (G:List Res) (hr:RS w0 (some p) l.length 1 (Ag l)) (hL:Heap w0 [] w G) (hi:G[i]? = some (Mg g (.slice (some p) l.length lc) ao co l)) :
  Does Yg 187 #[.pointer (some ⟨g,0,none⟩),.int .i64 c,.int .i64 k] w fun v w'=>Heap w0 [] w' G/\v=.bool (Qq l c k):=by
 obtain ⟨hL1,hL20⟩:=Z5 hok;have hfl:=fun n hn=>Vk hok (n:=n) hn;have hbp:=Qtp (l:=l) (c:=c) (k:=k) hL20;obtain ⟨hl2,hl258,hin,_⟩:=hok;have hcl:=Qc6 l (by omega) (some p) lc;refine En [.pointer (some ⟨g,0,none⟩),.int .i64 c,.int .i64 k] 47 Tryz.func187 ?_;generalize hres:Qq l c k=res at *;generalize hn:l.length=n at *;refine VS [0,1,2] ?_;refine VS [0,1,2,7] ?_;refine Ar ?_;refine Au [0,1,2,7] (fun m e w'=>∃ (j:Nat),Is e [(0,.pointer (some ⟨g,0,none⟩)),(1,.int .i64 c),(2,.int .i64 k),(7,.int .i64 (j+1:Nat))]/\Heap w0 [] w' G/\k<=j/\j<=20/\(∀ m',k < m'->m'<=j->Wp l c k m'=false)/\m=21 - j) (21 - k) ?_ ?_
 ·
  refine Qs ?_;exact ⟨k,rfl,hL,by omega,by omega,fun m' h1 h2=>by omega,rfl⟩
 clear hL;rintro m e w1 ⟨j,rfl,hH,hkj,hj20,hno,rfl⟩;have hsv:=V8 (hH.at i hi);refine VQ [0,1,2,7,16] fun K hK=>?_;refine ⟨_,⟨rfl,hsv.2.2⟩,?_⟩;refine Ac Tryz.call180 ?_;refine Qs ?_;refine Yk (hcl w1 (hH.rs' hr)) ?_;rintro v w2 ⟨hHl,rfl⟩;have hH2:=hH.call0 hHl;simp only [Yl] at hH2;clear hH hHl hsv;refine Qs ?_;apply hK;clear hK;refine VD (fun h=>?_) (fun h=>?_)
 ·
  have hj2:j+1<=Bq l:=by omega
  obtain ⟨c1,c2,c3⟩:=Qsz (hH2.at i hi) hj2 hL20;have hff:=hfl (j+1) (by omega);have hp2:2 ^ (j+1)<=2 ^ 20:=Yx (by omega) (by omega);have hp3:2 ^ (j+1)<=1048576:=hp2;have hp4:2 ^ (j+1 - k)<=2 ^ 20:=Yx (by omega) (by omega);have hp5:2 ^ (j+1 - k)<=1048576:=hp4;have hmul:c * 2 ^ (j+1 - k)<=2097152 * 1048576:=X4 hc hp5;have hsh:Bw Xp ((j+1:Nat) - (k:Int))=j+1 - k:=S0 (by omega) (by simp [IntKind.bits];omega);have hbc:Wp l c k (j+1)=(decide (k < j+1) && decide (0 < B5 l (j+1)) && decide (c * 2 ^ (j+1 - k) < Bv l (j+1)+B5 l (j+1))):=rfl;rw [decide_eq_true (show k < j+1 by omega),Bool.true_and] at hbc;have hsc:=Zm c (j+1 - k);refine Ab ?_;refine VB ?_;refine Vq [0,1,2,7,46] fun K hK=>?_;refine ⟨⟨by omega,by omega⟩,_,c3,?_⟩;refine Qs ?_;rw [hsh,hsc];clear hsc hsh hp2 hp4;generalize c * 2 ^ (j+1 - k)=q at *
  suffices out:K [(0,.pointer (some ⟨g,0,none⟩)),(1,.int .i64 c),(2,.int .i64 k),(7,.int .i64 (j+1:Nat)),(46,.bool (Wp l c k (j+1)))] by
   refine ⟨fun h2=>?_,fun h2=>?_⟩
   ·
    rw [decide_eq_true (show 0 < B5 l (j+1) by omega),Bool.true_and] at hbc;refine ⟨Y4 (by omega) (by omega),by omega,Y4 (by omega) (by omega),⟨by omega,by omega⟩,_,c1,?_⟩;refine ⟨⟨by omega,by omega⟩,_,c3,?_⟩;refine Qs ?_;refine ⟨Y4 (by omega) (by omega),?_⟩;rw [show decide (((q:Nat):Int) < ((Bv l (j+1):Nat):Int)+((B5 l (j+1):Nat):Int))=Wp l c k (j+1) by rw [hbc];exact decide_eq_decide.2 (by omega)];exact out
   rw [decide_eq_false (show ¬ 0 < B5 l (j+1) by omega),Bool.false_and] at hbc;rw [hbc] at out;exact out
  apply hK;clear hK;refine Vi (fun h=>?_) (fun h=>Ab ?_)
  ·
   have:res=true:=hbp.2 ⟨j+1,by omega,hj2,h⟩;subst this;refine VS [6] ?_;exact Ad (A0 rfl rfl ⟨hH2,rfl⟩)
  refine Ao ?_;refine VS [0,1,2,7] ?_;refine Ah ?_;refine Qs ?_;refine ⟨21 - (j+1),by omega,j+1,rfl,hH2,by omega,by omega,fun m' h1 h2=>?_,rfl⟩;by_cases e:m'=j+1
  ·
   rw [e];exact h
  exact hno m' h1 (by omega)
 have:res=false:=by
  rw [Bool.eq_false_iff];intro h2;obtain ⟨m',h3,h4,h5⟩:=hbp.1 h2;have:=hno m' h3 (by omega);rw [this] at h5;cases h5
 subst this;refine As rfl ?_;refine VS [6] ?_;exact Ad (A0 rfl rfl ⟨hH2,rfl⟩)
theorem Qvw (l:List Nat) (hok:E8 l) (s:List UInt8) (gr gs at_:Nat) (hat:at_<=8 * s.length) (hs:s.length<=100000000000000) (g:Nat) (p:Addr) (lc:Nat) (ao:Option Addr) (co:Nat) (w0 w:World) (G:List Res) (hr:RS w0 (some p) l.length 1 (Ag l)) (hL:Heap w0 [] w (rd gr gs s at_::Mg g (.slice (some p) l.length lc) ao co l::Oh ao co l::G)) :
  Does Yg 167 #[.pointer (some ⟨g,0,none⟩),.pointer (some ⟨gr,0,none⟩)] w fun v w'=>match I9 l (At s) at_ with
   | .ok q=>Heap w0 [] w' (rd gr gs s q.2::Mg g (.slice (some p) l.length lc) ao co l::Oh ao co l::G)/\q.2<=8 * s.length/\at_ < q.2/\v=.tuple #[.int .i64 q.1,.int .i64 0]
   | .error e=>Heap w0 [] w' []/\e≠0/\v=.tuple #[.int .i64 0,.int .i64 e]:=by
 obtain ⟨hL1,hL20⟩:=Z5 hok;have hfl:=fun n hn=>Vk hok (n:=n) hn;have hbp:=fun c k=>Qtp (l:=l) (c:=c) (k:=k) hL20;have hbl:=D8 s;refine En [.pointer (some ⟨g,0,none⟩),.pointer (some ⟨gr,0,none⟩)] 74 Tryz.func167 ?_;generalize hres:I9 l (At s) at_=res;generalize hbits:At s=bits at *;unfold I9 at hres;refine VS [0,1] ?_;refine VS [0,1,6] ?_;refine VS [0,1,6,7] ?_;refine Ar ?_;refine Au [0,1,6,7] (fun m e w'=>∃ (j c:Nat),Is e [(0,.pointer (some ⟨g,0,none⟩)),(1,.pointer (some ⟨gr,0,none⟩)),(6,.int .i64 c),(7,.int .i64 (j+1:Nat))]/\Heap w0 [] w' (rd gr gs s (at_+j)::Mg g (.slice (some p) l.length lc) ao co l::Oh ao co l::G)/\at_+j<=8 * s.length/\j+1<=Bq l/\c < 2 ^ j/\Bv l j+B5 l j<=c/\(match Fl l (bits.drop (at_+j)) j c with | .ok q=>.ok (q.1,at_+q.2) | .error e=>.error e)=res/\m=21 - j) 21 ?_ ?_
 ·
  refine Qs ?_;have hc0:B5 l 0=0:=Qdv fun x hx=>(hok.2.2.1 x hx).1;refine ⟨0,0,rfl,hL,by omega,by omega,by simp,by rw [hc0];simp [Bv],?_,rfl⟩;rw [<- hres,Up];cases Fl l (bits.drop at_) 0 0 <;> rfl
 clear hL hres;rintro m e w1 ⟨j,c,rfl,hH,hp,hj,hc,hfc,hres,rfl⟩;refine VB ?_;refine VQ [0,1,6,7,8,9] fun K hK=>?_;refine Ac Tryz.call69 ?_;refine Qs ?_;refine Yk (Ot gr gs s (at_+j) 1 w1 (by omega) hp (by omega) (hH.focus 0 rfl)) ?_;rintro v w2 (⟨h1,rfl,rfl⟩ | ⟨h1,hH2,rfl⟩)
 ·
  rw [Yt (by omega),Fl] at hres;subst hres;apply hK;clear hK;refine VS [0,1,6,7,8,9,19] ?_;refine Ae rfl rfl (fun h=>?_) (fun h=>by cases h);refine VS [4,5] ?_;exact Ad (A6 rfl rfl rfl ⟨hH.sub (by simp),by decide,rfl⟩)
 have hH3:=hH.call1 0 rfl hH2;simp only [Yd,Yl] at hH3;clear hH hH2;have hdp:bits.drop (at_+j)=bits.getD (at_+j) false::bits.drop (at_+j+1):=drop_getD false (by omega);have hnum:Bc ((bits.drop (at_+j)).take 1)=(bits.getD (at_+j) false).toNat:=by rw [hdp];cases bits.getD (at_+j) false <;> rfl
 rw [hbits,hnum];rw [hdp,Fl] at hres;generalize bits.getD (at_+j) false=b at *;have hb1:b.toNat<=1:=by cases b <;> simp
 apply hK;clear hK;refine VS [0,1,6,7,8,9,19] ?_;refine Ae rfl rfl (fun h=>by cases h) (fun h=>Ab ?_);clear h;have hj20:j+1<=20:=by omega
 have hpj:2 ^ j<=2 ^ 19:=Yx (by omega) (by omega);have hpj2:2 ^ j<=524288:=hpj;have hps:2 ^ (j+1)=2 * 2 ^ j:=by rw [Nat.pow_succ,Gf]
 have hor:(c * 2) ||| b.toNat=2 * c+b.toNat:=by
  have h3:(2 ^ 1 * c) ||| b.toNat=2 ^ 1 * c+b.toNat:=(Nat.two_pow_add_eq_or_of_lt (i:=1) (by omega) c).symm
  rw [Gf c 2];exact h3
 have hfs:Bv l (j+1)=2 * (Bv l j+B5 l j):=rfl;have hffl:=hfl (j+1) hj20;refine VQ [0,1,6,7] fun K hK=>?_;rw [show Bw Xp 1=1 from rfl,show ((c:Int) * 2 ^ 1)=((c * 2:Nat):Int) by push_cast;rfl];(repeat first | refine Qo ?_ | refine Qp ?_);rw [Ym,hor];generalize hc2:2 * c+b.toNat=c2 at *;apply hK;clear hK;obtain ⟨c1,c2',c3⟩:=Qsz (hH3.at 1 rfl) hj hL20;have csv:=V8 (hH3.at 1 rfl);refine VQ [0,1,6,7,10] fun K hK=>?_;refine ⟨⟨by omega,by omega⟩,_,c1,?_⟩;refine Qs ?_;refine ⟨Y4 (by omega) (by omega),?_⟩;apply hK;clear hK;refine VQ [0,1,6,7,10,54] fun K hK=>?_
 suffices out:∀ bb:Bool,(bb=true ↔ (Bv l (j+1)<=c2/\c2 < Bv l (j+1)+B5 l (j+1)))->K [(0,.pointer (some ⟨g,0,none⟩)),(1,.pointer (some ⟨gr,0,none⟩)),(6,.int .i64 c2),(7,.int .i64 (j+1:Nat)),(10,.int .i64 (((c2:Nat):Int) - (Bv l (j+1):Nat))),(54,.bool bb)] w2 by
  refine ⟨⟨by omega,by omega⟩,_,c3,?_⟩;refine Qs ?_;refine ⟨fun h1=>⟨fun h2=>⟨⟨by omega,by omega⟩,_,c3,?_⟩,fun h2=>out false (by simp;omega)⟩,fun h1=>out false (by simp;omega)⟩;refine Qs ?_;exact out _ (by simp;omega)
 intro bb hbb;apply hK;clear hK;refine Vi (fun h=>?_) (fun h=>Ab ?_)
 ·
  have hb2:=hbb.1 h;rw [if_pos hb2] at hres;subst hres;obtain ⟨s1,s2⟩:=Qy4 l (n:=j+1) (L:=Bq l) (j:=c2 - Bv l (j+1)) (by omega) hj (by omega);obtain ⟨go,rfl⟩:=Fz (hH3.at 2 rfl) (by omega);have hcell:=Cm (hH3.at 2 rfl) (Fx s1);rw [s2] at hcell
  have hbl2:Du l (j+1)<=5160:=by
   have h5:=Z4 l (j+1 - 1);have h6:=X4 (show j+1 - 1<=20 by omega) hok.2.1;unfold Du;omega
  refine Vq [4,5] fun K hK=>?_;refine ⟨_,csv.2.1,?_⟩;refine ⟨⟨by omega,by omega⟩,_,c2',?_⟩;refine Qs ?_;refine ⟨Y4 (by omega) (by omega),⟨by omega,by omega⟩,?_⟩;rw [show (((Du l (j+1):Nat):Int)+(((c2:Nat):Int) - (Bv l (j+1):Nat))).toNat=Du l (j+1)+(c2 - Bv l (j+1)) by omega];refine ⟨_,hcell,?_⟩;apply hK;clear hK;exact Ad (A6 rfl rfl rfl ⟨by rw [<- Uk];exact hH3,by simp only;omega,by simp only;omega,rfl⟩)
 have hnb:¬ (Bv l (j+1)<=c2/\c2 < Bv l (j+1)+B5 l (j+1)):=fun h2=>by have:=hbb.2 h2;simp_all
 rw [if_neg hnb] at hres;clear hbb h;refine VQ [0,1,6,7,73] fun K hK=>?_;refine Ac Tryz.call187 ?_;refine Qs ?_;refine Yk (Qnv l hok c2 (j+1) (by omega) hj20 g p lc ao co 1 w0 w2 _ hr hH3 rfl) ?_;rintro v w3 ⟨hH4,rfl⟩;refine Qs ?_;apply hK;clear hK;refine Vi (fun h=>?_) (fun h=>Ab ?_)
 ·
  have h2:Qq l c2 (j+1)=false:=by simpa using h
  rw [h2,if_neg (by simp)] at hres;subst hres;refine VS [4,5] ?_;exact Ad (A6 rfl rfl rfl ⟨hH4.sub (by simp),by decide,rfl⟩)
 have h2:Qq l c2 (j+1)=true:=by simpa using h
 rw [if_pos h2] at hres;obtain ⟨m',h3,h4,h5⟩:=(hbp c2 (j+1)).1 h2;refine Ao ?_;refine VS [0,1,6,7] ?_;refine Ah ?_;refine Qs ?_;exact ⟨21 - (j+1),by omega,j+1,c2,rfl,by rw [<- Uk];exact hH4,by omega,by omega,by omega,by omega,by rw [<- hres,<- Uk],rfl⟩
theorem Qy8 (l:List Nat) (hok:E8 l) (s:List UInt8) (at_ n fin:Nat) (hat:at_<=8 * s.length) (hs:s.length<=100000000000000) (hn:n<=100000) (hfin:fin<=100000) (a:Option Addr) (lc:Nat) (w:World) (hr:RS w a l.length 1 (Ag l)) :
  Does Yg 126 #[.slice a l.length lc,Aa s,.int .i64 at_,.int .i64 n,.int .i64 fin] w (Qsy (Dg l (At s) fin n at_) w):=by
 have hl2:=hok.1;obtain ⟨p,rfl⟩:=rs_pos hr (by omega);refine En [.slice (some p) l.length lc,Aa s,.int .i64 at_,.int .i64 n,.int .i64 fin] 59 Tryz.func126 ?_;generalize hres:Dg l (At s) fin n at_=res;refine VS [0,1,2,3,4] ?_;refine VQ [1,2,3,4,13,14] fun K hK=>?_;refine Ac Tryz.call145 ?_;refine Qs ?_;refine Yk (Qjw l hok (some p) lc w hr) ?_;rintro v w2 ⟨g,ao,co,hH,rfl⟩;apply hK;clear hK;refine VS [1,2,3,4,13,14,25] ?_;refine Ae rfl rfl (fun h=>by simp at h) (fun h=>Ab ?_);clear h;refine VQ [3,4,13,15] fun K hK=>?_;refine Ac Tryz.call68 ?_;refine Qs ?_;refine Yk (Q0 s at_ w2 (Y4 (by omega) (by omega)) (by omega)) ?_;rintro v w3 (⟨hbad,_⟩ | ⟨_,gr,gs,hHr,rfl⟩)
 ·
  omega
 rw [Ym] at hHr;have hH2:=hH.call0 hHr;simp only [List.singleton_append] at hH2;clear hH hHr;apply hK;clear hK;refine VQ [3,4,13,15,35] fun K hK=>?_
 suffices out:∀ b:Bool,(b=true ↔ False)->K [(3,.int .i64 n),(4,.int .i64 fin),(13,.pointer (some ⟨g,0,none⟩)),(15,.pointer (some ⟨gr,0,none⟩)),(35,.bool b)] w3 by (repeat' (first | exact out _ _ (by first | omega | (simp;done) | (simp;omega)) | exact out _ (by first | omega | (simp;done) | (simp;omega)) | refine ⟨fun _=>?_,fun _=>?_⟩ | refine Qo ?_))
 intro b hb;apply hK;clear hK;refine Ae rfl rfl (fun h=>(hb.1 h).elim) (fun h=>Ab ?_);clear hb h;refine VS [3,4,13,15,16] ?_;(repeat refine Ay ?_);refine C8 [15,16] (fun e w'=>∃ (q:List Nat) (tz cap:Nat) (a':Option Addr),Is e [(15,.pointer (some ⟨gr,0,none⟩)),(16,.slice a' q.length cap)]/\Heap w [] w' [rd gr gs s tz,Yr 3 1 a' q.length cap (Ag q)]/\tz<=8 * s.length/\res=.ok (q,tz)) ?_ ?_
 ·
  refine Ar ?_;refine Au [3,4,13,15,16] (fun m e w'=>∃ (q:List Nat) (tz cap:Nat) (a':Option Addr),Is e [(3,.int .i64 n),(4,.int .i64 fin),(13,.pointer (some ⟨g,0,none⟩)),(15,.pointer (some ⟨gr,0,none⟩)),(16,.slice a' q.length cap)]/\Heap w [] w' [rd gr gs s tz,Mg g (.slice (some p) l.length lc) ao co l,Oh ao co l,Yr 3 1 a' q.length cap (Ag q)]/\tz<=8 * s.length/\q.length<=n/\(match Dg l (At s) fin (n - q.length) tz with | .error e=>.error e | .ok x=>.ok (q++x.1,x.2))=res/\m=n - q.length) n ?_ ?_
  ·
   refine Qs ?_;have hH3:=(hH2.nilRow 3 1).perm (G':=[rd gr gs s at_,Mg g (.slice (some p) l.length lc) ao co l,Oh ao co l,Yr 3 1 none 0 0 []]) (by exact (X7 (l₁:=[Yr 3 1 none 0 0 []])));refine ⟨[],at_,0,none,rfl,hH3,hat,by simp,?_,rfl⟩;rw [<- hres,Uw,Nat.sub_zero];cases Dg l (At s) fin n at_ <;> rfl
  clear hH2 hres;rintro m e w4 ⟨q,tz,cap,a',rfl,hH,hto,hq,hres,rfl⟩;refine VS [3,4,13,15,16,39] ?_;refine VD (fun h=>?_) (fun h=>?_)
  ·
   rw [show n - q.length=(n - (q.length+1))+1 by omega,Dg] at hres;refine Ab ?_;refine Ar ?_;refine VQ [3,4,13,15,16,17,18] fun K hK=>?_;refine Ac Tryz.call167 ?_;refine Qs ?_;refine Yk (Qvw l hok s gr gs tz hto hs g p lc ao co w w4 _ hr hH) ?_;intro v w5 hnx;generalize I9 l (At s) tz=r at *;cases r with
   | error e =>
    obtain ⟨hH3,hne,rfl⟩:=hnx;subst hres;apply hK;clear hK;refine VS [3,4,13,15,16,17,18,47] ?_;refine Vi (fun h=>?_) (fun h=>?_)
    ·
     refine VS [10,11,12] ?_;exact Ad (Dd rfl rfl rfl rfl ⟨hH3,rfl⟩)
    simp at h;exact absurd h hne
   | ok x =>
    obtain ⟨hH3,hx1,hx2,rfl⟩:=hnx;simp only at hres;apply hK;clear hK;refine VS [3,4,13,15,16,17,18,47] ?_;refine Ae rfl rfl (fun h=>by cases h) (fun h=>Ab ?_);clear h;refine VQ [3,4,13,15,16,17] fun K hK=>?_;refine Kk (xs:=[.tmp 50]) Ye Lb rfl rfl rfl (by omega) ?_;refine Qs ?_;refine ⟨by simp [Xg],?_⟩;refine Cd ?_;refine Qs ?_;refine Qh7 hH3 3 (x.1) rfl Ye E0 (by first | rfl | (simp;done) | omega | (simp;omega)) (fun h=>by (first | omega | (simp;done) | (simp;omega))) fun a' cap' w5 hc' hH4=>?_;(try refine Qs ?_);simp only [Yh,Yd] at hH4;apply hK;clear hK;refine VS [3,4,13,15,16,55] ?_;refine VD (fun h=>?_) (fun h=>Ab ?_)
    ·
     rw [if_pos (by omega)] at hres;refine As rfl ?_;refine Ah ?_;refine Qs ?_;exact ⟨q++[x.1],x.2,cap',a',rfl,hH4.sub (.cons_cons _ (.cons _ (.cons _ (.refl _)))),hx1,hres.symm⟩
    rw [if_neg (by omega)] at hres;refine Ao ?_;refine Ah ?_;refine Qs ?_;refine ⟨n - (q++[x.1]).length,by simp;omega,q++[x.1],x.2,cap',a',rfl,hH4,hx1,by simp;omega,?_,rfl⟩;rw [<- hres,show n - (q++[x.1]).length=n - (q.length+1) by simp];cases Dg l (At s) fin (n - (q.length+1)) x.2 with
    | error e=>rfl
    | ok y=>simp
  rw [show n - q.length=0 by omega,Dg] at hres;simp only [Yu] at hres;refine As rfl ?_;refine Ah ?_;refine Qs ?_;exact ⟨q,tz,cap,a',rfl,hH.sub (.cons_cons _ (.cons _ (.cons _ (.refl _)))),hto,hres.symm⟩
 rintro e w' ⟨q,tz,cap,a',rfl,hH,hto,rfl⟩;refine VQ [10,11,12] fun K hK=>?_;refine Ac Tryz.call122 ?_;refine Qs ?_;refine Yk (Vs gr gs tz s w' (hH.at 0 rfl)) ?_;rintro v w7 ⟨rfl,rfl⟩;apply hK;clear hK;exact Ad (Dd rfl rfl rfl rfl ⟨a',cap,hH.sub (by simp),rfl⟩)
abbrev Tr:=Int×Nat
def A3 (t:Tr):List Value:=[.int .i64 t.1,.int .i64 t.2]
theorem Ou (t:Tr):(A3 t).length=2:=rfl
theorem L3 (t:Tr):∀ v∈A3 t,v.oneCell'=true:=by
 intro v hv;simp [A3] at hv;rcases hv with rfl | rfl <;> rfl
def F4 (l:List Tr):List Value:=B8 A3 l
def Dv (a b:Tr):Int:=if a.1=b.1 then (a.2:Int) - b.2 else a.1 - b.1
theorem Ql6 (a b:Tr) (xo yo:Operand) (w:World) (KV:Value->Prop):A5 Yg .eql 235 xo yo (.agg (A3 a).toArray) (.agg (A3 b).toArray) w KV=KV (.bool (decide (a=b))):=by
 refine N2 fun w'=>?_;have hS:Yg.underlying 235=some (.struct (Yg.fieldsOf 235)):=by kernel_rfl
 have hp:Yg.stoodInHeld 235=false:=by kernel_rfl
 have hg:Yg.eqGuardType Yg.depth 235=false:=by kernel_rfl
 simp only [Sem.run_bind];rw [run_eqGuard_agg _ _ _ _ _ _ _ hg];simp only [Result.andThen_ok];rw [run_eql_struct,show (10000:Nat)=9999+1 from rfl,run_equalIn_agg w' 9999 235 _ _ hS hp];simp only [Program.fieldsOf,Tryz.underlying235];have u3:=Tryz.underlying3;have a3:=Tryz.isAgg3;have z3:=Tryz.sizeOf3;simp only [A3]
 go_simp
 obtain ⟨a1,a2⟩:=a;obtain ⟨b1,b2⟩:=b;simp only [Prod.mk.injEq];by_cases h1:a1=b1
 ·
  by_cases h2:a2=b2
  ·
   subst h1 h2;simp
  have h3:¬ ((a2:Int)=b2):=by omega
  simp [h1,h2,h3]
 simp [h1]
theorem Qch (a b:Tr):a=b ↔ a.1=b.1/\a.2=b.2:=by
 obtain ⟨a1,a2⟩:=a;obtain ⟨b1,b2⟩:=b;simp
def Iy (t:Tr):Prop:=-1099511627776<=t.1/\t.1<=1099511627776/\t.2<=1000000
theorem Qf3 (a b:Tr) (ha:Iy a) (hb:Iy b) (w:World):Does Yg 179 #[.agg (A3 a).toArray,.agg (A3 b).toArray] w fun v w'=>Heap w [] w' []/\v=.int .i64 (Dv a b):=by
 obtain ⟨ha1,ha2,ha3⟩:=ha;obtain ⟨hb1,hb2,hb3⟩:=hb;refine En [.agg (A3 a).toArray,.agg (A3 b).toArray] 23 Tryz.func179 ?_;refine VQ [2,3] fun K hK=>?_;refine Dx ?_;refine Qs ?_;have hH:=(Yz w).box 235 (A3 a);have e1:w.alloc (Yq (A3 a).toArray 235)=w.alloc (Yq (A3 a).toArray 235):=rfl;generalize w.alloc (Yq (A3 a).toArray 235)=w1 at *;generalize w.heap.size=ga at *;refine Dx ?_;refine Qs ?_;have hH2:=hH.box 235 (A3 b);generalize w1.alloc (Yq (A3 b).toArray 235)=w2 at *;generalize w1.heap.size=gb at *;clear hH e1;apply hK;clear hK;refine VQ [2,3,7] fun K hK=>?_;refine ⟨A3 a,⟨rfl,B6 (hH2.at 1 rfl)⟩,?_⟩;refine ⟨A3 b,⟨rfl,B6 (hH2.at 0 rfl)⟩,?_⟩;rw [Ql6];apply hK;clear hK;refine Vi (fun h=>?_) (fun h=>Ab ?_)
 ·
  simp only [decide_eq_true_eq] at h;subst h;refine VS [4] ?_;exact Ad (A0 rfl rfl ⟨hH2.sub (by simp),by simp [Dv]⟩)
 clear h;have c1:w2.cell? ⟨ga,0,none⟩=some (.int .i64 a.1):=Aj (hH2.at 1 rfl) rfl;have c2:w2.cell? ⟨ga,1,none⟩=some (.int .i64 a.2):=Aj (hH2.at 1 rfl) rfl;have c3:w2.cell? ⟨gb,0,none⟩=some (.int .i64 b.1):=Aj (hH2.at 0 rfl) rfl;have c4:w2.cell? ⟨gb,1,none⟩=some (.int .i64 b.2):=Aj (hH2.at 0 rfl) rfl;refine VQ [2,3,12] fun K hK=>?_;refine ⟨_,c1,_,c3,?_⟩;refine Qs ?_;apply hK;clear hK;refine Vi (fun h=>?_) (fun h=>Ab ?_)
 ·
  simp only [decide_eq_true_eq] at h;refine VQ [4] fun K hK=>?_;refine ⟨_,c1,_,c3,?_⟩;refine Qs ?_;refine ⟨Y4 (by omega) (by omega),?_⟩;apply hK;clear hK;exact Ad (A0 rfl rfl ⟨hH2.sub (by simp),by rw [Dv,if_neg h]⟩)
 simp only [decide_eq_false_iff_not,Decidable.not_not] at h;refine VQ [4] fun K hK=>?_;refine ⟨_,c2,_,c4,?_⟩;refine Qs ?_;refine ⟨Y4 (by omega) (by omega),?_⟩;apply hK;clear hK;exact Ad (A0 rfl rfl ⟨hH2.sub (by simp),by rw [Dv,if_pos h]⟩)
theorem Zb (l:List Tr):(F4 l).length=l.length * 2:=Qjd Ou l
def E7:Tr->List Tr->Tr
 | m,[]=>m
 | m,t::l=>E7 (if Dv t m < 0 then t else m) l
theorem Qjy:∀ (l:List Tr) (m t:Tr),E7 m (l++[t])=if Dv t (E7 m l) < 0 then t else E7 m l
 | [],m,t=>rfl
 | x::l,m,t=>by rw [Y6,E7,Qjy l _ t,E7]
theorem Qia:∀ (l:List Tr) (m:Tr),E7 m l=m∨E7 m l∈l
 | [],m=>.inl rfl
 | x::l,m=>by
  rw [E7];rcases Qia l (if Dv x m < 0 then x else m) with h | h
  ·
   rw [h];split
   ·
    simp
   simp
  simp [h]
theorem Qg9 {a b c:Tr} (h1:¬ Dv b a < 0) (h2:¬ Dv c b < 0):¬ Dv c a < 0:=by
 unfold Dv at *;(repeat' split at *) <;> omega
theorem Qtq:∀ (l:List Tr) (m:Tr),¬ Dv m (E7 m l) < 0/\∀ t∈l,¬ Dv t (E7 m l) < 0
 | [],m=>⟨by simp [E7,Dv],by simp⟩
 | x::l,m=>by
  rw [E7];obtain ⟨h1,h2⟩:=Qtq l (if Dv x m < 0 then x else m);by_cases hx:Dv x m < 0
  ·
   rw [if_pos hx] at h1 h2 ⊢;refine ⟨Qg9 h1 (by unfold Dv at hx ⊢;(repeat' split at *) <;> omega),fun t ht=>?_⟩;rcases Ua.1 ht with rfl | ht
   ·
    exact h1
   exact h2 t ht
  rw [if_neg hx] at h1 h2 ⊢;refine ⟨h1,fun t ht=>?_⟩;rcases Ua.1 ht with rfl | ht
  ·
   exact Qg9 h1 hx
  exact h2 t ht
abbrev V9:Value:=.func (.func 179) #[] #[]
def Dw (g cap:Nat) (l:List Tr):Res:=Yr 235 2 (some ⟨g,0,none⟩) l.length cap (F4 l)
theorem Qle (t0:Tr) (l:List Tr) (hl:l.length<=1000000) (hok:∀ t∈t0::l,Iy t) (g cap:Nat) (w:World) (hL:(Dw g cap (t0::l)).holds w) :
  Does Yg 202 #[.slice (some ⟨g,0,none⟩) (t0::l).length cap,V9] w fun v w'=>Heap w [] w' []/\v=.agg (A3 (E7 t0 l)).toArray:=by
 have hrs:RS w (some ⟨g,0,none⟩) (t0::l).length 2 (F4 (t0::l)):=Az hL
 have hget:∀ (w':World) (i:Nat) (x:Tr),RS w' (some ⟨g,0,none⟩) (t0::l).length 2 (F4 (t0::l))->(t0::l)[i]? = some x->Reads w' ⟨g,i * 2,none⟩ (A3 x):=fun w' i x h hi=>by
  have:=Q4 Ou h rfl hi
  rwa [Bz,Ut] at this
 refine En [.slice (some ⟨g,0,none⟩) (t0::l).length cap,V9] 33 Tryz.func202 ?_;generalize hn:(t0::l).length=n at *;have hn1:l.length+1=n:=by rw [<- hn];simp
 refine VQ [0,1,4] fun K hK=>?_;refine A7 (.agg #[.int .i64 0,.int .i64 0]) (by kernel_rfl) ?_;refine Qs ?_;have hH:=(Yz w).box 235 [.int .i64 0,.int .i64 0];generalize w.alloc (Yq [Y5 .i64 0,.int .i64 0].toArray 235)=w1 at *;generalize w.heap.size=gr at *;apply hK;clear hK;refine VS [0,1,4,9] ?_;refine C8 [0,1,4] (fun e w'=>Is e [(0,.slice (some ⟨g,0,none⟩) n cap),(1,V9),(4,.pointer (some ⟨gr,0,none⟩))]/\Is w' w1) ?_ ?_
 ·
  refine Ae rfl rfl (fun h=>by simp at h;omega) (fun h=>Ab ?_);refine Ah ?_;refine Qs ?_;exact ⟨rfl,rfl⟩
 rintro e w' ⟨rfl,rfl⟩;have h0:=hget w' 0 t0 (hH.rs' hrs) rfl;refine VQ [0,1,4,5] fun K hK=>?_;refine ⟨by omega,A3 t0,⟨rfl,h0⟩,?_⟩;refine A7 (.agg #[.int .i64 0,.int .i64 0]) (by kernel_rfl) ?_;refine Qs ?_;have hH1:=hH.box 235 [.int .i64 0,.int .i64 0];generalize w'.alloc (Yq [Y5 .i64 0,.int .i64 0].toArray 235)=w2 at *;generalize w'.heap.size=gm at *;refine Af ?_;refine Qs ?_;refine Al hH1 0 (vs:=A3 t0) rfl rfl (by kernel_rfl) (by simp [A3]) (L3 _) fun w3 hH2=>?_;have hH2:Heap w [] w3 [Yj gm 235 (A3 t0),Yj gr 235 [.int .i64 0,.int .i64 0]]:=hH2;clear hH hH1 h0;apply hK;clear hK;refine VS [0,1,4,5,6] ?_;refine Ar ?_;refine Au [0,1,4,5,6] (fun m e w'=>∃ (i:Nat),Is e [(0,.slice (some ⟨g,0,none⟩) n cap),(1,V9),(4,.pointer (some ⟨gr,0,none⟩)),(5,.pointer (some ⟨gm,0,none⟩)),(6,.int .i64 (i+1:Nat))]/\Heap w [] w' [Yj gm 235 (A3 (E7 t0 (l.take i))),Yj gr 235 [.int .i64 0,.int .i64 0]]/\i+1<=n/\m=n - i) n ?_ ?_
 ·
  refine Qs ?_;exact ⟨0,rfl,hH2,by omega,rfl⟩
 clear hH2;rintro m e w4 ⟨i,rfl,hH,hi,rfl⟩;refine VS [0,1,4,5,6,17] ?_;refine VD (fun h=>?_) (fun h=>?_)
 ·
  have hil:i < l.length:=by omega
  have hgi:(t0::l)[i+1]? = some l[i]:=by simp [Ya hil]
  have hrd:=hget w4 (i+1) l[i] (hH.rs' hrs) hgi;have htk:l.take (i+1)=l.take i++[l[i]]:=by rw [Xb,Ya hil];rfl
  have hmn:=Qjy (l.take i) t0 l[i];rw [<- htk] at hmn;have hokx:Iy l[i]:=hok _ (by simp)
  have hokm:Iy (E7 t0 (l.take i)):=hok _ (by
   rcases Qia (l.take i) t0 with h | h
   ·
    rw [h];simp
   exact U4 _ (Ub h))
  generalize l[i]=x at *;generalize E7 t0 (l.take i)=mt at *;refine Ab ?_;refine VB ?_;refine VL [0,1,4,5,6,27] 6 fun K hK=>?_;refine ⟨⟨by omega,by omega⟩,A3 x,⟨rfl,hrd⟩,?_⟩;refine ⟨A3 mt,⟨rfl,B6 (hH.at 0 rfl)⟩,?_⟩;refine Ce ?_;refine Qs ?_;refine Gi Tryz.call179 (Qf3 x mt hokx hokm w4) ?_;rintro v w5 ⟨hHc,rfl⟩;have hH2:=hH.call0 hHc;simp only [Yl] at hH2;refine Qs ?_;apply hK;clear hK;have hrd5:=hget w5 (i+1) x (hH2.rs' hrs) hgi;clear hH hHc;refine VD (fun h=>?_) (fun h=>?_)
  ·
   rw [if_pos h] at hmn;refine VQ [0,1,4,5,6] fun K hK=>?_;refine ⟨⟨by omega,by omega⟩,A3 x,⟨rfl,hrd5⟩,?_⟩;refine Af ?_;refine Qs ?_;refine Al hH2 0 (vs:=A3 x) rfl rfl (by kernel_rfl) (by simp [A3]) (L3 _) fun w6 hH3=>?_;have hH3:Heap w [] w6 [Yj gm 235 (A3 x),Yj gr 235 [.int .i64 0,.int .i64 0]]:=hH3;apply hK;clear hK;refine Ao ?_;refine VS [0,1,4,5,6] ?_;refine Ah ?_;refine Qs ?_;exact ⟨n - (i+1),by omega,i+1,rfl,by rw [hmn];exact hH3,by omega,rfl⟩
  rw [if_neg h] at hmn;refine Ab ?_;refine Ao ?_;refine VS [0,1,4,5,6] ?_;refine Ah ?_;refine Qs ?_;exact ⟨n - (i+1),by omega,i+1,rfl,by rw [hmn];exact hH2,by omega,rfl⟩
 refine As rfl ?_;rw [Yp (by omega)] at hH;refine VQ [4] fun K hK=>?_;refine ⟨A3 (E7 t0 l),⟨rfl,B6 (hH.at 0 rfl)⟩,?_⟩;refine Af ?_;refine Qs ?_;refine Al hH 1 (vs:=A3 (E7 t0 l)) rfl rfl (by kernel_rfl) (by simp [A3]) (L3 _) fun w6 hH3=>?_;have hH3:Heap w [] w6 [Yj gm 235 (A3 (E7 t0 l)),Yj gr 235 (A3 (E7 t0 l))]:=hH3;apply hK;clear hK;refine Ad (Vj rfl rfl (Cv (hH3.at 1 rfl) (by kernel_rfl) (by kernel_rfl) rfl ?_));exact ⟨hH3.sub (by simp),rfl⟩
theorem Qnw (x:Tr) (l:List Tr) (hl:l.length<=1000000) (hx:x∈l) (g cap:Nat) (w:World) (hL:(Dw g cap l).holds w) :
  Does Yg 203 #[.slice (some ⟨g,0,none⟩) l.length cap,.agg (A3 x).toArray] w fun v w'=>Heap w [] w' []/\∃ i:Nat,l[i]? = some x/\v=.int .i64 i:=by
 have hrs:RS w (some ⟨g,0,none⟩) l.length 2 (F4 l):=Az hL
 have hget:∀ (w':World) (i:Nat) (y:Tr),RS w' (some ⟨g,0,none⟩) l.length 2 (F4 l)->l[i]? = some y->Reads w' ⟨g,i * 2,none⟩ (A3 y):=fun w' i y h hi=>by
  have:=Q4 Ou h rfl hi
  rwa [Bz,Ut] at this
 refine En [.slice (some ⟨g,0,none⟩) l.length cap,.agg (A3 x).toArray] 19 Tryz.func203 ?_;generalize hn:l.length=n at *;refine VQ [0,3] fun K hK=>?_;refine Dx ?_;refine Qs ?_;have hH:=(Yz w).box 235 (A3 x);generalize w.alloc (Yq (A3 x).toArray 235)=w1 at *;generalize w.heap.size=gx at *;apply hK;clear hK;refine VS [0,3,7,8] ?_;refine Ar ?_;refine Au [0,3,7,8] (fun m e w'=>∃ (i:Nat),Is e [(0,.slice (some ⟨g,0,none⟩) n cap),(3,.pointer (some ⟨gx,0,none⟩)),(7,.int .i64 n),(8,.int .i64 i)]/\Is w' w1/\i<=n/\x ∉ l.take i/\m=n - i) n ?_ ?_
 ·
  refine Qs ?_;exact ⟨0,rfl,rfl,by omega,by simp,rfl⟩
 rintro m e w' ⟨i,rfl,rfl,hi,hnot,rfl⟩;refine VS [0,3,7,8,9] ?_;(repeat refine Ay ?_);refine VD (fun h=>?_) (fun h=>?_)
 ·
  have hil:i < l.length:=by omega
  have hgi:l[i]? = some l[i]:=Ya hil;have hrd:=hget w' i l[i] (hH.rs' hrs) hgi;have htk:l.take (i+1)=l.take i++[l[i]]:=by rw [Xb,hgi];rfl
  generalize l[i]=y at *;refine Ab ?_;refine VB ?_;refine VS [0,3,5,7,8] ?_;refine Vq [0,3,5,7,8,16] fun K hK=>?_;refine ⟨A3 x,⟨rfl,B6 (hH.at 0 rfl)⟩,?_⟩;refine ⟨⟨by omega,by omega⟩,A3 y,⟨rfl,hrd⟩,?_⟩;rw [Ql6];apply hK;clear hK;refine VD (fun h=>?_) (fun h=>Ab ?_)
  ·
   subst h;refine VS [4] ?_;exact Ad (A0 rfl rfl ⟨hH.sub (by simp),i,hgi,rfl⟩)
  refine Ao ?_;refine VS [0,3,7,8] ?_;refine Ah ?_;refine Qs ?_;refine ⟨n - (i+1),by omega,i+1,rfl,rfl,by omega,?_,rfl⟩;rw [htk,Xs];rintro (h2 | h2)
  ·
   exact hnot h2
  simp at h2;exact h h2
 rw [Yp (by omega)] at hnot;exact absurd hx hnot
def F5 (ws ov:List Nat):List Tr:=((Yf ws.length).filter fun i=>ov.getD i 0 == 0).map fun i=>((ws.getD i 0:Nat),i)
theorem Qd2 {ws ov:List Nat}{t:Tr}:t∈F5 ws ov ↔ t.2 < ws.length/\ov.getD t.2 0=0/\t.1=(ws.getD t.2 0:Nat):=by
 unfold F5;rw [Xu];constructor
 ·
  rintro ⟨i,hi,rfl⟩;rw [X1,Y3,beq_iff_eq] at hi;exact ⟨hi.1,hi.2,rfl⟩
 rintro ⟨h1,h2,h3⟩;refine ⟨t.2,?_,?_⟩
 ·
  rw [X1,Y3,beq_iff_eq];exact ⟨h1,h2⟩
 rw [Qch];exact ⟨h3.symm,rfl⟩
theorem Qew {ws ov:List Nat}{t:Tr} (ht:t∈F5 ws ov) (hm:∀ x∈F5 ws ov,¬ Dv x t < 0):IsLeast ws ov t.2/\t.1=(ws.getD t.2 0:Nat):=by
 obtain ⟨h1,h2,h3⟩:=Qd2.1 ht;refine ⟨⟨h1,h2,fun i hi hf=>?_⟩,h3⟩;have:=hm (((ws.getD i 0:Nat):Int),i) (Qd2.2 ⟨hi,hf,rfl⟩);unfold Dv at this;simp only at this;split at this <;> omega
theorem Qlf {p q:Nat->Bool}{a n:Nat} (ha:a < n) (hpa:p a=true) (hqa:q a=false) (h:∀ i,i≠a->q i=p i):((Yf n).filter p).Perm (a::(Yf n).filter q):=by
 induction n with
 | zero=>omega
 | succ n ih =>
  rw [Xr,Xj,Xj];by_cases e:a=n
  ·
   subst e
   have e1:(Yf a).filter p=(Yf a).filter q:=Gh fun i hi=>by
    have:i < a:=by simpa using hi
    exact (h i (by omega)).symm
   rw [Y7 hpa,Xc (by simp [hqa]),Ux,Ux,Yu,e1];exact Uh _ _
  have e1:[n].filter p=[n].filter q:=by
   have:=h n (fun x=>e x.symm);cases hp:p n <;> simp [hp,this]
  rw [e1,<- Y6];exact (ih (by omega)).append_right _
theorem Qjz {ws ov:List Nat}{a v:Nat} (ha:a < ws.length) (hl:ov.length=ws.length) (h0:ov.getD a 0=0) (hv:v≠0):(F5 ws ov).Perm (((ws.getD a 0:Nat),a)::F5 ws (ov.set a v)):=by
 unfold F5;have:=Qlf (p:=fun i=>ov.getD i 0 == 0) (q:=fun i=>(ov.set a v).getD i 0 == 0) ha (by simp only [beq_iff_eq];exact h0) (by rw [Pp (by omega)];simp [hv]) (fun i hi=>by rw [Po (fun x=>hi x.symm)]);have h2:=this.map fun i=>(((ws.getD i 0:Nat):Int),i);rw [List.map_cons] at h2;exact h2
theorem Qrx {ws ov:List Nat} (x:Nat) (hl:ov.length=ws.length):F5 (ws++[x]) (ov++[0])=F5 ws ov++[(((x:Nat):Int),ws.length)]:=by
 unfold F5;rw [Yi,Yy,Xr,Xj,List.map_append]
 congr 1
 ·
  have e:(Yf ws.length).filter (fun i=>(ov++[0]).getD i 0 == 0)=(Yf ws.length).filter fun i=>ov.getD i 0 == 0:=Gh fun i hi=>by
   rw [Qy (by rw [hl];simpa using hi)]
  rw [e];refine Xz fun i hi=>?_;rw [X1,Y3] at hi;rw [Qy hi.1]
 have e1:(ov++[0]).getD ws.length 0=0:=by rw [<- hl];exact T9
 rw [Y7 (by rw [beq_iff_eq];exact e1),Ux,List.map_cons,List.map_nil,T9]
theorem Qvx (ws ov:List Nat):(F5 ws ov).length=Bd (fun i=>if ov.getD i 0=0 then 1 else 0) ws.length:=by
 unfold F5;rw [Uv];generalize ws.length=n
 induction n with
 | zero=>rfl
 | succ n ih =>
  rw [Xr,Xj,Yi,ih,Bd];by_cases h:ov.getD n 0=0
  ·
   rw [Y7 (by rw [beq_iff_eq];exact h),if_pos h];rfl
  rw [Xc (by rw [beq_iff_eq];exact h),if_neg h];rfl
theorem Qnx (w:List Nat):F5 w (Yc w.length 0)=(Yf w.length).map fun i=>(((w.getD i 0:Nat):Int),i):=by
 unfold F5;rw [List.filter_eq_self.2 fun i hi=>by rw [R3];rfl]
theorem Qy9 {α:Type} (l:List α) (i:Nat) (x z:α) (hx:l[i]? = some x) (hz:l[l.length - 1]? = some z):l.Perm (x::(l.set i z).take (l.length - 1)):=by
 have hi:=(Yv.1 hx).1;have hxe:l[i]=x:=(Yv.1 hx).2
 have h1:l=l.take (l.length - 1)++[z]:=by
  have h2:l.drop (l.length - 1)=[z]:=by
   have h3:=(Yv.1 hz);rw [Y2 h3.1,h3.2,Yt (by omega)]
  rw [<- h2,U0]
 rw [List.take_set];generalize hin:l.take (l.length - 1)=t at *;have htl:t.length=l.length - 1:=by rw [<- hin,Xi];omega
 by_cases e:i=l.length - 1
 ·
  have:x=z:=by rw [e,hz] at hx;exact (Option.some.inj hx).symm
  subst this;rw [List.set_eq_of_length_le (by omega),h1];exact Uh _ _
 have hit:i < t.length:=by omega
 have hti:t[i]? = some x:=by
  rw [<- hin,List.getElem?_take,if_pos (by omega)];exact hx
 have ht:t=t.take i++x::t.drop (i+1):=by
  have h4:=Yv.1 hti;have h5:=Y2 h4.1;rw [h4.2] at h5;rw [<- h5,U0]
 rw [List.set_eq_take_append_cons_drop,if_pos hit];generalize t.take i=a at *;generalize t.drop (i+1)=b at *;rw [h1,ht,Yn];have p1:(a++(x::b++[z])).Perm (x::(a++(b++[z]))):=by simp
 refine p1.trans (List.Perm.cons x ?_);exact (X7 (l₁:=b) (l₂:=[z])).append_left a
def Mh (gT g cap:Nat) (l:List Tr):Res:=Yj gT 233 [.slice (some ⟨g,0,none⟩) l.length cap]
theorem Qha (trees:List Tr) (hl:trees.length<=1000000) (hne:0 < trees.length) (hok:∀ t∈trees,Iy t) (gT g cap:Nat) (w0 w:World) (B:List Nat) (G:List Res) (hL:Heap w0 B w (Dw g cap trees::Mh gT g cap trees::G)) :
  Does Yg 201 #[.pointer (some ⟨gT,0,none⟩)] w fun v w'=>∃ (t:Tr) (trees':List Tr),trees.Perm (t::trees')/\(∀ x∈trees,¬ Dv x t < 0)/\Heap w0 B w' (Dw g cap trees'::Mh gT g cap trees'::G)/\v=.agg (A3 t).toArray:=by
 obtain ⟨t0,l0,rfl⟩:∃ t0 l0,trees=t0::l0:=by
  cases trees with
  | nil=>simp at hne
  | cons t l=>exact ⟨t,l,rfl⟩
 have hmin:=Qtq l0 t0
 have hmem:E7 t0 l0∈t0::l0:=by
  rcases Qia l0 t0 with h | h
  ·
   rw [h];simp
  exact U4 _ h
 have hall:∀ x∈t0::l0,¬ Dv x (E7 t0 l0) < 0:=fun x hx=>by
  rcases Ua.1 hx with rfl | hx
  ·
   exact hmin.1
  exact hmin.2 x hx
 clear hmin;refine En [.pointer (some ⟨gT,0,none⟩)] 24 Tryz.func201 ?_;refine VQ [0,1] fun K hK=>?_;refine A7 (.agg #[.int .i64 0,.int .i64 0]) (by kernel_rfl) ?_;refine Qs ?_;have hH:=hL.box 235 [.int .i64 0,.int .i64 0];generalize w.alloc (Yq [Y5 .i64 0,.int .i64 0].toArray 235)=w1 at *;generalize w.heap.size=gr at *;clear hL;apply hK;clear hK;refine VQ [0,1,2] fun K hK=>?_;refine ⟨_,Aj (hH.at 2 rfl) rfl,?_⟩;refine Ac Tryz.call202 ?_;refine Qs ?_;refine Yk (Qle t0 l0 (by simp at hl;omega) hok g cap w1 (hH.at 1 rfl)) ?_;rintro v w2 ⟨hHm,rfl⟩;have hH2:=hH.call0 hHm;simp only [Yl] at hH2;clear hH hHm;generalize E7 t0 l0=t at *;generalize hT:t0::l0=trees at *;refine A7 (.agg #[.int .i64 0,.int .i64 0]) (by kernel_rfl) ?_;refine Qs ?_;have hH3:=hH2.box 235 [.int .i64 0,.int .i64 0];generalize w2.alloc (Yq [Y5 .i64 0,.int .i64 0].toArray 235)=w3 at *;generalize w2.heap.size=gt at *;refine Af ?_;refine Qs ?_;refine Al hH3 0 (vs:=A3 t) rfl rfl (by kernel_rfl) (by simp [A3]) (L3 _) fun w4 hH4=>?_;have hH4:Heap w0 B w4 (Yj gt 235 (A3 t)::Yj gr 235 [.int .i64 0,.int .i64 0]::Dw g cap trees::Mh gT g cap trees::G):=hH4;clear hH2 hH3;apply hK;clear hK;refine VQ [0,1,2,3] fun K hK=>?_;refine ⟨_,Aj (hH4.at 3 rfl) rfl,?_⟩;refine ⟨A3 t,⟨rfl,B6 (hH4.at 0 rfl)⟩,?_⟩;refine Ac Tryz.call203 ?_;refine Qs ?_;refine Yk (Qnw t trees hl hmem g cap w4 (hH4.at 2 rfl)) ?_;rintro v w5 ⟨hHi,i,hi,rfl⟩;have hH5:=hH4.call0 hHi;simp only [Yl] at hH5;clear hH4 hHi;apply hK;clear hK;have hil:i < trees.length:=(Yv.1 hi).1;have hlast:trees[trees.length - 1]? = some trees[trees.length - 1]:=Ya (by omega);have hout:=Qy9 trees i t _ hi hlast;generalize trees[trees.length - 1]=z at *;have hrs:=Az (hH5.at 2 rfl);have hrd:=Q4 Ou hrs rfl hlast;rw [Bz,Ut] at hrd;obtain ⟨hx1,hx2,hx3,hx4⟩:=hH5.at 2 rfl;clear hx1 hx4;refine VL [0,1,2] 9 fun K hK=>?_;refine ⟨_,Aj (hH5.at 3 rfl) rfl,_,Aj (hH5.at 3 rfl) rfl,_,Aj (hH5.at 3 rfl) rfl,?_⟩;refine Qs ?_;refine ⟨Y4 (by omega) (by omega),⟨by omega,by omega⟩,?_⟩;refine ⟨A3 z,⟨rfl,hrd⟩,?_⟩;refine Qp ?_;refine Af ?_;refine Qs ?_;refine Eg hH5 2 (o:=i * 2) (vs:=A3 z) rfl (by rw [Bz,Ut]) rfl (by kernel_rfl) (by rw [Zb];simp [A3];omega) (L3 z) fun w6 hH6=>?_;have e6:=Qje Ou trees i z hil;simp only [Yh,Yd] at hH6;rw [Ou] at hH6
 have hH7:Heap w0 B w6 (Yj gt 235 (A3 t)::Yj gr 235 [.int .i64 0,.int .i64 0]::Dw g cap (trees.set i z)::Mh gT g cap trees::G):=by
  have e7:Dw g cap (trees.set i z)=Yr 235 2 (some ⟨g,0,none⟩) trees.length cap ((F4 trees).take (i * 2)++A3 z++(F4 trees).drop (i * 2+2)):=by
   rw [Dw,Ud];exact congrArg _ e6.symm
  rw [e7];exact hH6
 clear hH6 hH5 e6 hrd hrs;have hlen2:((trees.set i z).take (trees.length - 1)).length=trees.length - 1:=by rw [Xi,Ud];omega
 have hsh:(Dw g cap (trees.set i z)).holds w6->(Dw g cap ((trees.set i z).take (trees.length - 1))).holds w6:=fun h=>by
  have h1:=Qqq (m:=trees.length - 1) h (by rw [Ud];omega);have h2:=Qgj Ou (trees.set i z) (trees.length - 1);rw [show F4 (trees.set i z)=B8 A3 (trees.set i z) from rfl,h2] at h1;rw [Dw,hlen2];exact h1
 have hH8:=hH7.view 2 rfl hsh (fun b hb=>hb);simp only [Yh,Yd] at hH8;clear hH7 hsh;generalize (trees.set i z).take (trees.length - 1)=trees' at *;apply hK;clear hK;refine VQ [1,2] fun K hK=>?_;refine ⟨_,Aj (hH8.at 3 rfl) rfl,_,Aj (hH8.at 3 rfl) rfl,?_⟩;refine Qs ?_;refine ⟨Y4 (by omega) (by omega),⟨by omega,by omega⟩,?_⟩;refine Af ?_;refine Qs ?_;refine Al hH8 3 (vs:=[.slice (some ⟨g,0,none⟩) trees'.length cap]) rfl (by rw [hlen2];rfl) (by kernel_rfl) (by simp) (by simp [Yo]) fun w7 hH9=>?_;have hH9:Heap w0 B w7 (Yj gt 235 (A3 t)::Yj gr 235 [.int .i64 0,.int .i64 0]::Dw g cap trees'::Mh gT g cap trees'::G):=hH9;apply hK;clear hK;refine VQ [1] fun K hK=>?_;refine ⟨A3 t,⟨rfl,B6 (hH9.at 0 rfl)⟩,?_⟩;refine Af ?_;refine Qs ?_;refine Al hH9 1 (vs:=A3 t) rfl rfl (by kernel_rfl) (by simp [A3]) (L3 _) fun w8 hH10=>?_;have hH10:Heap w0 B w8 (Yj gt 235 (A3 t)::Yj gr 235 (A3 t)::Dw g cap trees'::Mh gT g cap trees'::G):=hH10;apply hK;clear hK;refine Ad (Vj rfl rfl (Cv (hH10.at 1 rfl) (by kernel_rfl) (by kernel_rfl) rfl ?_));exact ⟨t,trees',hout,hall,hH10.sub ((Uu _ _).trans (Uu _ _)),rfl⟩
end Go.Proofs.YtncpabbjpdogjaaGreatDoor
