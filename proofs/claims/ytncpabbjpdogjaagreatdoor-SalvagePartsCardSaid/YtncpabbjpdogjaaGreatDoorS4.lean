/- A program logic over the model, and what this program's functions do by it: part 4. No conditions: a library of lemmas. -/
import Derived.Test.YtncpabbjpdogjaaGreatDoorS3
import Derived.Laws.StructEq
import Derived.Sort.AssemblyPlain
open Nat (reduceEqDiff)
set_option linter.unusedSimpArgs false
set_option linter.unusedVariables false
set_option maxRecDepth 100000
open List renaming getElem?_eq_getElem->Ya,getD_eq_getElem?_getD->Yb,replicate->Yc,set_cons_zero->Yd,range->Yf,set_cons_succ->Yh,length_append->Yi,nil_append->Yl,append_assoc->Yn,take_of_length_le->Yp,drop_of_length_le->Yt,append_nil->Yu,getElem?_eq_some_iff->Yv,length_range->Yw,length_singleton->Yy,getElem?_append_right->Y0,length_cons->Y1,drop_eq_getElem_cons->Y2,mem_range->Y3,cons_append->Y6,filter_cons_of_pos->Y7,getElem?_map->Y8,eq_nil_of_length_eq_zero->Xa,take_add_one->Xb,filter_cons_of_neg->Xc,getElem_cons_zero->Xd,getElem_cons_succ->Xe,ext_getElem->Xh,length_take->Xi,filter_append->Xj,getElem?_eq_none->Xk,getElem?_append_left->Xl,getElem_toArray->Xm,nodup_range->Xn,range_succ->Xr,mem_append->Xs,mem_map->Xu,length_drop->Xv,pairwise_iff_getElem->Xy,map_congr_left->Xz,getElem_of_mem->X0,mem_filter->X1,getElem_range->X2,flatMap_cons->X3,replicate_append_replicate->X5,set_append_right->X6,perm_append_comm->X7,getElem_mem->X8,getElem_map->X9,mem_cons->Ua,mem_of_mem_take->Ub,length_set->Ud,length_pos_iff->Ue,getElem?_drop->Ug,perm_append_singleton->Uh,getLastD_eq_getLast?->Ui,length->Uj,getElem_inj->Ul,pairwise_lt_range->Un,map_map->Uo,getElem?_set_self->Uq,range_succ_eq_map->Ur,sublist_cons_self->Uu,length_map->Uv,length_nil->Uw,filter_nil->Ux,length_filter_le->Uy,length_replicate->Uz,take_append_drop->U0,range_add->U1,set_append_left->U2,mem_cons_of_mem->U4,take_set_of_le->U5,flatMap_append->U6,ext_getElem?->Ga,pairwise_map->Gb,filter_congr->Gh
open Go.Proofs.Tryz renaming underlying114->Ye,prog->Yg,underlying37->Ys,call136->Um,call33->U3,call173->U9,call165->Gg
open Go.Eng.Res renaming blk->Yj,row->Yr
open Go.Eng.CallK renaming mk->Yk
open Int renaming toNat_natCast->Ym,toNat->Uf
open Go.Value renaming oneCell'->Yo,int->Y5,cells->Xg,slice->Xt
open Go.Obj renaming cells->Yq
open Nat renaming pow_le_pow_right->Yx,le_refl->Xf,add_sub_cancel_left->Xo,add_sub_cancel->Xq,mod_eq_of_lt->Xw,mul_le_mul->X4,add_assoc->Uk,add_zero->Up,lt_or_ge->Us,zero_add->Ut,mod_lt->U8,le_trans->Gd,succ->Ge,mul_comm->Gf
open Go.Eng.Heap renaming start->Yz
open Go.Eng.I64 renaming mk->Y4
open Option renaming getD_some->Y9
open Go.IntKind renaming i64->Xp
open Bool renaming and_eq_true->Xx,false_eq_true->U7
open UInt8 renaming toNat_inj->Uc,ofNat->Gj
open Go.Eng.FnK renaming mk->Gi
namespace Go.Proofs.YtncpabbjpdogjaaGreatDoor
open Go Go.Eng
open Go.Sort (swp insertionSort heapSort breakPatterns choosePivot Hint reverseRange partialInsertionSort partitionEqual partition pdq bitsLen)
def QJy (lt:Int->Int->Bool) (d3:Array Int) (a b limit:Nat) (wb wp:Bool) (pivot:Nat):Array Int :=
 if a > 0 && ! lt d3[a - 1]! d3[pivot]! then
  match partitionEqual lt d3 a b pivot with
  | (mid,d4)=>if _h:a < mid/\mid<=b then pdq lt d4 mid b limit wb wp else d4
 else
  match partition lt d3 a b pivot with
  | (mid,al,d4) =>
   if _h:a<=mid/\mid < b then
    if mid - a < b - mid then pdq lt (pdq lt d4 a mid limit true true) (mid+1) b limit (decide (mid - a ≥ (b - a) / 8)) al
    else pdq lt (pdq lt d4 (mid+1) b limit true true) a mid limit (decide (b - mid ≥ (b - a) / 8)) al
   else d4
def QJz (lt:Int->Int->Bool) (d2:Array Int) (a b limit:Nat) (wb wp:Bool) (pivot:Nat) (hint:Hint):Array Int :=
 if (if wb && wp && hint=.increasing then partialInsertionSort lt d2 a b else (d2,false)).2 then (if wb && wp && hint=.increasing then partialInsertionSort lt d2 a b else (d2,false)).1
 else QJy lt (if wb && wp && hint=.increasing then partialInsertionSort lt d2 a b else (d2,false)).1 a b limit wb wp pivot
def QJ0 (lt:Int->Int->Bool) (d1:Array Int) (a b limit:Nat) (wb wp:Bool) (c:Nat×Hint):Array Int :=
 QJz lt (if c.2=.decreasing then reverseRange d1 a b else d1) a b limit wb wp (if c.2=.decreasing then (b - 1) - (c.1 - a) else c.1) (if c.2=.decreasing then Hint.increasing else c.2)
theorem QEb {lt:Int->Int->Bool}{d:Array Int}{a b limit:Nat}{wb wp:Bool} (h:b - a<=12):pdq lt d a b limit wb wp=insertionSort lt d a b:=by rw [pdq,if_pos h]
theorem Qyy {lt:Int->Int->Bool}{d:Array Int}{a b limit:Nat}{wb wp:Bool} (h:¬ b - a<=12) (hl:limit=0):pdq lt d a b limit wb wp=heapSort lt d a b:=by rw [pdq,if_neg h,if_pos hl]
theorem Qyz {lt:Int->Int->Bool}{d:Array Int}{a b limit:Nat}{wb wp:Bool} (h:¬ b - a<=12) (hl:¬ limit=0) :
  pdq lt d a b limit wb wp=QJ0 lt (if ! wb then breakPatterns d a b else d) a b (if ! wb then limit - 1 else limit) wb wp (choosePivot lt (if ! wb then breakPatterns d a b else d) a b):=by
 conv=>lhs;rw [pdq]
 rw [if_neg h,if_neg hl];rfl
set_option maxHeartbeats 4000000 in
theorem Qk8 {cmp:Value}{cf:Int->Int->Int}{Q:Int->Prop}{R:Res} (hC:Cmp cmp cf Q R) (g cap:Nat):∀ (n a b limit:Nat) (d:Array Int) (hn:b - a < n) (hab:a<=b) (hb:b<=d.size) (hl:limit<=100) (hd:d.size<=100000000000) (hQ:AllQ Q d) (w0 w:World) (B:List Nat) (G:List Res)
  (hL:Heap w0 B w (Aw g cap d::R::G)),Does Yg 173 #[sl g cap d,.int .i64 a,.int .i64 b,.int .i64 limit,cmp] w
   fun v w'=>∃ d',d'=pdq (ltOf cf) d a b limit true true/\d'.size=d.size/\AllQ Q d'/\Heap w0 B w' (Aw g cap d'::R::G)/\v=.tuple #[]:=by
 intro n
 induction n with
 | zero=>intro a b limit d hn;omega
 | succ n ih =>
 intro a b limit d hn hab hb hl hd hQ w0 w B G hL;refine En [sl g cap d,.int .i64 a,.int .i64 b,.int .i64 limit,cmp] 148 Tryz.func173 ?_;refine Am [0,1,2,3,4,10] fun K hK=>?_;apply hK;clear hK;refine Am [0,1,2,3,4,10,11] fun K hK=>?_;apply hK;clear hK;refine Ar ?_;refine Au [0,1,2,3,4,10,11] (fun m e w'=>∃ (x y l:Nat) (wb wp:Bool) (d':Array Int),Is e [(0,sl g cap d),(1,.int .i64 x),(2,.int .i64 y),(3,.int .i64 l),(4,cmp),(10,.bool wb),(11,.bool wp)]/\Heap w0 B w' (Aw g cap d'::R::G)/\d'.size=d.size/\AllQ Q d'/\a<=x/\x<=y/\y<=b/\l<=100/\pdq (ltOf cf) d' x y l wb wp=pdq (ltOf cf) d a b limit true true/\m=y - x) (b - a) ?_ ?_
 ·
  refine Qi ?_;exact ⟨a,b,limit,true,true,d,rfl,hL,rfl,hQ,by omega,by omega,by omega,by omega,rfl,rfl⟩
 rintro m e w1 ⟨x,y,l,wb,wp,d1,rfl,hH,hs1,hQ1,hx,hxy,hy,hl1,hp,hm⟩;refine Ar ?_;refine Am [0,1,2,3,4,10,11,12] fun K hK=>?_;(repeat refine Qo ?_);apply hK;clear hK;rw [show ((y:Int) - x)=((y - x:Nat):Int) by omega];refine Am [0,1,2,3,4,10,11,12,25] fun K hK=>?_;apply hK;clear hK;refine VD (fun h=>?_) (fun h=>?_)
 ·
  rw [QEb (by omega)] at hp;refine Am [] fun K hK=>?_;have hc:=Qb0 hC g cap x y d1 (by omega) (by omega) (by omega) hQ1 w0 w1 B G hH;rw [sl,hs1] at hc;refine Ac Tryz.call192 ?_;refine Qi ?_;refine Yk hc ?_;rintro v w2 ⟨d2,hd2,hs2,hQ2,hH2,rfl⟩;apply hK;clear hK;refine Ad (I8 rfl ?_);exact ⟨d2,by rw [hd2,hp],by omega,hQ2,hH2,rfl⟩
 have h12:¬ y - x<=12:=by omega
 refine Ab ?_;refine Am [0,1,2,3,4,10,11,12,32] fun K hK=>?_;apply hK;clear hK;refine VD (fun h=>?_) (fun h=>?_)
 ·
  rw [Qyy (by omega) (by omega)] at hp;refine Am [] fun K hK=>?_;have hc:=Qin hC g cap x y d1 (by omega) (by omega) (by omega) hQ1 w0 w1 B G hH;rw [sl,hs1] at hc;refine Ac Tryz.call193 ?_;refine Qi ?_;refine Yk hc ?_;rintro v w2 ⟨d2,hd2,hs2,hQ2,hH2,rfl⟩;apply hK;clear hK;refine Ad (I8 rfl ?_);exact ⟨d2,by rw [hd2,hp],by omega,hQ2,hH2,rfl⟩
 have hl0:¬ l=0:=by omega
 rw [Qyz h12 hl0] at hp;clear h;refine Ab ?_;refine Am [0,1,2,3,4,10,11,12,39] fun K hK=>?_;apply hK;clear hK;refine Dk [0,1,2,3,4,10,11,12] (fun e w'=>∃ (l':Nat) (d':Array Int),Is e [(0,sl g cap d),(1,.int .i64 x),(2,.int .i64 y),(3,.int .i64 l'),(4,cmp),(10,.bool wb),(11,.bool wp),(12,.int .i64 (y - x:Nat))]/\Heap w0 B w' (Aw g cap d'::R::G)/\d'.size=d.size/\AllQ Q d'/\l'<=100/\QJ0 (ltOf cf) d' x y l' wb wp (choosePivot (ltOf cf) d' x y)=pdq (ltOf cf) d a b limit true true) ?_ ?_
 ·
  refine Ae rfl rfl (fun h=>?_) (fun h=>?_)
  ·
   simp at h;subst h;refine Am [0,1,2,3,4,10,11,12] fun K hK=>?_;have hc:=Qb1 (cmp:=cmp) (R:=R) (Q:=Q) g cap x y d1 (by omega) (by omega) (by omega) hQ1 w0 w1 B G hH;rw [sl,hs1] at hc;refine Ac Tryz.call194 ?_;refine Qi ?_;refine Yk hc ?_;rintro v w2 ⟨d2,hd2,hs2,hQ2,hH2,rfl⟩;apply hK;clear hK;refine Am [0,1,2,3,4,10,11,12] fun K hK=>?_;(repeat refine Qo ?_);apply hK;clear hK;refine Ah ?_;refine Qi ?_;refine ⟨l - 1,d2,by rw [show ((l:Int) - 1)=((l - 1:Nat):Int) by omega];rfl,hH2,by omega,hQ2,by omega,?_⟩;rw [<- hp,hd2];rfl
  simp at h;subst h;refine Ab ?_;refine Ah ?_;refine Qi ?_;exact ⟨l,d1,rfl,hH,hs1,hQ1,hl1,hp⟩
 clear hp hH hQ1 hs1 hl0 hl1;rintro e w2 ⟨l1,d2,rfl,hH,hs1,hQ1,hl1,hp⟩;refine Am [0,1,2,3,4,10,11,12,13,14] fun K hK=>?_;have hc:=Qdj hC g cap x y d2 (by omega) (by omega) (by omega) hQ1 w0 w2 B G hH;rw [sl,hs1] at hc;refine Ac Tryz.call195 ?_;refine Qi ?_;refine Yk hc ?_;rintro v w3 ⟨p,hint,hch,hpr,hH3,rfl⟩;clear hH hc;rw [<- hch,QJ0] at hp;clear hch
 dsimp only at hp
 apply hK;clear hK;simp only [Xm,Xd,Xe];refine Am [0,1,2,3,4,10,11,12,13,14,56] fun K hK=>?_;apply hK;clear hK;refine Dk [0,1,2,3,4,10,11,12,13,14] (fun e w'=>∃ (p':Nat) (h':Hint) (d':Array Int),Is e [(0,sl g cap d),(1,.int .i64 x),(2,.int .i64 y),(3,.int .i64 l1),(4,cmp),(10,.bool wb),(11,.bool wp),(12,.int .i64 (y - x:Nat)),(13,.int .i64 p'),(14,.int .i64 (Wa h'))]/\Heap w0 B w' (Aw g cap d'::R::G)/\d'.size=d.size/\AllQ Q d'/\(x<=p'/\p' < y)/\QJz (ltOf cf) d' x y l1 wb wp p' h'=pdq (ltOf cf) d a b limit true true) ?_ ?_
 ·
  refine Ae rfl rfl (fun h=>?_) (fun h=>?_)
  ·
   have hh:hint=.decreasing:=by cases hint <;> simp [Wa] at h ⊢
   subst hh;simp only [if_true] at hp;refine Am [0,1,2,3,4,10,11,12,13] fun K hK=>?_;have hc:=Qcu (cmp:=cmp) (R:=R) (Q:=Q) g cap x y d2 (by omega) (by omega) (by omega) hQ1 w0 w3 B G hH3;rw [sl,hs1] at hc;refine Ac Tryz.call196 ?_;refine Qi ?_;refine Yk hc ?_;rintro v w4 ⟨d3,hd3,hs3,hQ3,hH4,rfl⟩;apply hK;clear hK;refine Am [0,1,2,3,4,10,11,12,13] fun K hK=>?_;(repeat refine Qo ?_);apply hK;clear hK;refine Am [0,1,2,3,4,10,11,12,13,14] fun K hK=>?_;apply hK;clear hK;refine Ah ?_;refine Qi ?_;exact ⟨y - 1 - (p - x),.increasing,d3,by rw [show ((y:Int) - 1 - (p - x))=((y - 1 - (p - x):Nat):Int) by omega];rfl,hH4,by omega,hQ3,by omega,by rw [hd3];exact hp⟩
  have hh:hint≠.decreasing:=by rintro rfl;simp [Wa] at h
  simp only [if_neg hh] at hp;refine Ab ?_;refine Ah ?_;refine Qi ?_;exact ⟨p,hint,d2,rfl,hH3,hs1,hQ1,hpr,hp⟩
 clear hp hH3 hQ1 hs1 hpr;rintro e w4 ⟨p,hint,d2,rfl,hH,hs1,hQ1,hpr,hp⟩;refine Am [0,1,2,3,4,10,11,12,13,75] fun K hK=>?_
 suffices hall:∀ bb:Bool,bb=(wb && wp && decide (hint=.increasing))->K [(0,sl g cap d),(1,.int .i64 x),(2,.int .i64 y),(3,.int .i64 l1),(4,cmp),(10,.bool wb),(11,.bool wp),(12,.int .i64 (y - x:Nat)),(13,.int .i64 p),(75,.bool bb)] w4 by
  have hd:decide (Wa hint=1)=decide (hint=.increasing):=by cases hint <;> rfl
  rw [hd]
  revert hall
  clear hK hp;cases wb <;> cases wp <;> intro hall <;> simpa [gB] using hall _ rfl
 intro bb hbb;apply hK;clear hK;rw [QJz,show (wb && wp && decide (hint=.increasing))=bb from hbb.symm] at hp;clear hbb;refine Dk [0,1,2,3,4,10,11,12,13] (fun e w'=>∃ (d':Array Int),Is e [(0,sl g cap d),(1,.int .i64 x),(2,.int .i64 y),(3,.int .i64 l1),(4,cmp),(10,.bool wb),(11,.bool wp),(12,.int .i64 (y - x:Nat)),(13,.int .i64 p)]/\Heap w0 B w' (Aw g cap d'::R::G)/\d'.size=d.size/\AllQ Q d'/\QJy (ltOf cf) d' x y l1 wb wp p=pdq (ltOf cf) d a b limit true true) ?_ ?_
 ·
  refine Ae rfl rfl (fun h=>?_) (fun h=>?_)
  ·
   subst h;simp only [if_true] at hp;refine Am [0,1,2,3,4,10,11,12,13,80] fun K hK=>?_;have hc:=Qae hC g cap x y d2 (by omega) (by omega) (by omega) hQ1 w0 w4 B G hH;rw [sl,hs1] at hc;refine Ac Tryz.call197 ?_;refine Qi ?_;refine Yk hc ?_;rintro v w5 ⟨d3,ok,hd3,hs3,hQ3,hH5,rfl⟩;rw [<- hd3] at hp
   dsimp only at hp
   apply hK;clear hK;refine Ae rfl rfl (fun h=>?_) (fun h=>?_)
   ·
    subst h;rw [if_pos rfl] at hp;exact Ad (I8 rfl ⟨d3,hp,by omega,hQ3,hH5,rfl⟩)
   subst h;rw [if_neg (by simp)] at hp;refine Ab ?_;refine Ah ?_;refine Qi ?_;exact ⟨d3,rfl,hH5,by omega,hQ3,hp⟩
  subst h;simp only [U7,if_false] at hp;refine Ab ?_;refine Ah ?_;refine Qi ?_;exact ⟨d2,rfl,hH,hs1,hQ1,hp⟩
 clear hp hH hQ1 hs1;rintro e w5 ⟨d3,rfl,hH,hs1,hQ1,hp⟩;rw [QJy] at hp;(repeat refine Ax ?_);refine W2 [0,1,2,3,4,10,11,12,13,97] 13 (by kernel_rfl) (by kernel_rfl) (by kernel_rfl) rfl fun K hK=>?_;refine Qi ?_
 have hall:∀ bb:Bool,∀ w4,bb=(decide (x > 0) && ! ltOf cf d3[x - 1]! d3[p]!)->Heap w0 B w4 (Aw g cap d3::R::G)->K [(0,sl g cap d),(1,.int .i64 x),(2,.int .i64 y),(3,.int .i64 l1),(4,cmp),(10,.bool wb),(11,.bool wp),(12,.int .i64 (y - x:Nat)),(13,.int .i64 p),(97,.bool bb)] w4:=by
  clear hH;intro bb w4 hbb hH;rw [<- hbb] at hp;apply hK;clear hK;refine Ae rfl rfl (fun h=>?_) (fun h=>?_)
  ·
   subst h;rw [if_pos rfl] at hp;refine Am [0,2,3,4,10,11,15] fun K hK=>?_;have hc:=Qbm hC g cap x y p d3 (by omega) (by omega) hpr (by omega) hQ1 w0 w4 B G hH;rw [sl,hs1] at hc;refine Ac Tryz.call198 ?_;refine Qi ?_;refine Yk hc ?_;rintro v w5 ⟨mid,d4,hd4,hmid,hs4,hQ4,hH5,rfl⟩;rw [<- hd4] at hp
   dsimp only at hp
   rw [dif_pos hmid] at hp;apply hK;clear hK;refine Am [0,1,2,3,4,10,11] fun K hK=>?_;apply hK;clear hK;refine As rfl ?_;refine Ah ?_;refine Qi ?_;exact ⟨y - mid,by omega,mid,y,l1,wb,wp,d4,rfl,hH5,by omega,hQ4,by omega,by omega,by omega,hl1,hp,rfl⟩
  subst h;rw [if_neg (by simp)] at hp;refine Ab ?_;refine Am [0,1,2,3,4,12,16,17] fun K hK=>?_;have hc:=Qft hC g cap x y p d3 (by omega) (by omega) hpr (by omega) hQ1 w0 w4 B G hH;rw [sl,hs1] at hc;refine Ac Tryz.call199 ?_;refine Qi ?_;refine Yk hc ?_;rintro v w5 ⟨mid,al,d4,hd4,hmid,hs4,hQ4,hH5,rfl⟩;rw [<- hd4] at hp
  dsimp only at hp
  rw [dif_pos hmid] at hp;apply hK;clear hK;simp only [Xm,Xd,Xe];refine Am [0,1,2,3,4,11,12,16] fun K hK=>?_;apply hK;clear hK;refine Am [0,1,2,3,4,11,12,16,18,19] fun K hK=>?_;(repeat refine Qo ?_);apply hK;clear hK;rw [show ((mid:Int) - x)=((mid - x:Nat):Int) by omega,show ((y:Int) - mid)=((y - mid:Nat):Int) by omega];refine Am [0,1,2,3,4,11,16,18,19,20] fun K hK=>?_;(repeat refine Qo ?_);apply hK;clear hK;refine Am [0,1,2,3,4,11,16,18,19,20,125] fun K hK=>?_;apply hK;clear hK;refine VD (fun h=>?_) (fun h=>?_)
  ·
   rw [if_pos (by omega)] at hp;refine Am [0,1,2,3,4,10,11,16] fun K hK=>?_;apply hK;clear hK;refine Am [0,2,3,4,10,11,16] fun K hK=>?_;have hc:=ih x mid l1 d4 (by omega) (by omega) (by omega) hl1 (by omega) hQ4 w0 w5 B G hH5;rw [sl,show d4.size=d.size by omega] at hc;refine Ac U9 ?_;refine Qi ?_;refine Yk hc ?_;rintro v w6 ⟨d5,hd5,hs5,hQ5,hH6,rfl⟩;rw [<- hd5] at hp;apply hK;clear hK;refine Am [0,1,2,3,4,10,11] fun K hK=>?_;(repeat refine Qo ?_);apply hK;clear hK;refine Ao ?_;refine Ah ?_;refine Qi ?_;refine ⟨y - (mid+1),by omega,mid+1,y,l1,decide (mid - x ≥ (y - x) / 8),al,d5,?_,hH6,by omega,hQ5,by omega,by omega,by omega,hl1,hp,rfl⟩;rw [show decide (mid - x ≥ (y - x) / 8)=decide (((y - x:Nat):Int) / 8<=((mid - x:Nat):Int)) from decide_eq_decide.2 (by omega)];rfl
  rw [if_neg (by omega)] at hp;refine Am [0,1,2,3,4,10,11,16] fun K hK=>?_;apply hK;clear hK;refine Am [0,1,3,4,10,11,16] fun K hK=>?_;refine And.intro (Y4 (by omega) (by omega)) ?_;have hc:=ih (mid+1) y l1 d4 (by omega) (by omega) (by omega) hl1 (by omega) hQ4 w0 w5 B G hH5;rw [sl,show d4.size=d.size by omega,show ((mid+1:Nat):Int)=(mid:Int)+1 by omega] at hc;refine Ac U9 ?_;refine Qi ?_;refine Yk hc ?_;rintro v w6 ⟨d5,hd5,hs5,hQ5,hH6,rfl⟩;rw [<- hd5] at hp;apply hK;clear hK;refine Am [0,1,2,3,4,10,11] fun K hK=>?_;apply hK;clear hK;refine Ao ?_;refine Ah ?_;refine Qi ?_;refine ⟨mid - x,by omega,x,mid,l1,decide (y - mid ≥ (y - x) / 8),al,d5,?_,hH6,by omega,hQ5,by omega,by omega,by omega,hl1,hp,rfl⟩;rw [show decide (y - mid ≥ (y - x) / 8)=decide (((y - x:Nat):Int) / 8<=((y - mid:Nat):Int)) from decide_eq_decide.2 (by omega)];rfl
 refine ⟨fun hg=>?_,fun hg=>?_⟩
 ·
  (repeat (first | (refine ⟨_,B2 (hH.at 0 rfl) (by omega),?_⟩;(try refine Qi ?_)) | refine Qo ?_ | refine ⟨⟨by omega,by omega⟩,?_⟩));refine Cc ?_;refine Qi ?_;refine FnK.to (Cmp.look hC hH (hQ1 _ (by omega)) (hQ1 _ (by omega))) ?_;rintro v w4 ⟨hH2,rfl⟩;(try refine Qi ?_);refine hall _ _ ?_ hH2;simp [ltOf,show 0 < x by omega]
 refine hall _ _ ?_ hH;simp [show ¬ 0 < x by omega]
open Go Go.Eng
open Go.Sort (pdq bitsLen SWO)
def QAi (lt:Int->Int->Bool) (l l':List Int):Prop:=l'.Perm l/\l'.Pairwise fun x y=>lt y x=false
theorem Wp {d:Array Int}{i:Nat} (h:i < d.size):d[i]! = d.toList[i]'(by simpa using h):=by
 simp [getElem!_def,h]
theorem QEc {lt:Int->Int->Bool} (hS:SWO lt) (d:Array Int) (limit:Nat):QAi lt d.toList (pdq lt d 0 d.size limit true true).toList:=by
 obtain ⟨⟨h1,h2,h3⟩,h4⟩:=Sort.pdq_sorts lt hS d 0 d.size limit true true (by omega) (by omega) (.inl rfl);generalize pdq lt d 0 d.size limit true true=d' at *;refine ⟨?_,?_⟩
 ·
  have e1:d'.extract 0 d.size=d':=by rw [<- h1];simp
  have e2:d.extract 0 d.size=d:=by simp
  rw [e1,e2] at h3;exact h3
 rw [Xy];intro i j hi hj hij;have:=h4 i j (by omega) hij (by simpa [h1] using hj)
 rwa [Wp (by simpa using hj),Wp (by simpa using hi)] at this
theorem Qbv {cmp:Value}{cf:Int->Int->Int}{Q:Int->Prop}{R:Res} (hC:Cmp cmp cf Q R) (hS:SWO (ltOf cf)) (g cap:Nat) (d:Array Int) (hd:d.size<=100000000000) (hQ:AllQ Q d) (w0 w:World) (B:List Nat) (G:List Res)
  (hL:Heap w0 B w (Aw g cap d::R::G)):Does Yg 137 #[sl g cap d,cmp] w
   fun v w'=>∃ d',QAi (ltOf cf) d.toList d'.toList/\d'.size=d.size/\AllQ Q d'/\Heap w0 B w' (Aw g cap d'::R::G)/\v=.tuple #[]:=by
 refine En [sl g cap d,cmp] 14 Tryz.func137 ?_;refine VS [0,1,4] ?_;refine VQ [] fun K hK=>?_;rw [Int.emod_eq_of_lt (by omega) (by omega)];refine Ac Tryz.call116 ?_;refine Qs ?_;refine Yk (Qgz d.size (by omega) w) ?_;rintro v w2 ⟨rfl,rfl⟩;have hb40:bitsLen d.size<=40:=Sj (by omega);refine Ac U9 ?_;refine Qs ?_;refine Yk (Qk8 hC g cap (d.size+1) 0 d.size (bitsLen d.size) d (by omega) (by omega) (by omega) (by omega) hd hQ w0 w2 B G hL) ?_;rintro v w3 ⟨d',hd',hs,hQ',hH,rfl⟩;apply hK;clear hK;exact Qe (I8 rfl ⟨d',by rw [hd'];exact QEc hS d _,hs,hQ',hH,rfl⟩)
open Go Go.Eng
abbrev Rt (a:Addr) (n cap:Nat) (by_:Nat):Value:=.agg #[.slice (some a) n cap,.int .i64 by_]
theorem Z0 (rk:List Int) (a:Addr) (cap by_ i:Nat) (hn:rk.length<=1000000000) (hby:by_<=10000000000) (hi:i < rk.length) (w:World) (hr:RS w (some a) rk.length 1 (Bb rk)) :
  Does Yg 136 #[Rt a rk.length cap by_,.int .i64 i] w fun v w'=>Heap w [] w' []/\v=.tuple #[.int .i64 (rk.getD i 0),.int .i64 (rk.getD ((i+by_) % rk.length) 0)]:=by
 refine En [Rt a rk.length cap by_,.int .i64 i] 23 Tryz.func136 ?_;refine VQ [1,2] fun K hK=>?_;refine Eb ?_;refine Qs ?_;have hH:=(Yz w).box 196 [.slice (some a) rk.length cap,.int .i64 by_];generalize w.alloc (Yq [Xt (some a) rk.length cap,.int .i64 by_].toArray 196)=w1 at *;generalize w.heap.size=g at *;have hr1:=hH.rs' hr;apply hK;clear hK;refine Vq [4,5] fun K hK=>?_;(repeat first | refine Qo ?_ | refine Qp ?_ | (refine Gc hH ?_;(try refine Qs ?_)));refine ⟨_,Rn hr1 hi,?_⟩;(repeat first | refine Qo ?_ | refine Qp ?_ | (refine Gc hH ?_;(try refine Qs ?_)));have hm:(i+by_) % rk.length < rk.length:=U8 _ (by omega);rw [show ((i:Int)+by_) % rk.length=(((i+by_) % rk.length:Nat):Int) by push_cast;rfl];generalize (i+by_) % rk.length=j at *;refine And.intro (by omega) ⟨_,Rn hr1 (i:=j) hm,?_⟩;apply hK;clear hK;refine Ad (A7 rfl rfl rfl ?_);exact ⟨hH.sub (by simp),rfl⟩
def Im (rk:List Int) (x:Int):Int:=rk.getD x.toNat 0
def Ki (rk:List Int) (by_:Nat) (x:Int):Int:=rk.getD ((x.toNat+by_) % rk.length) 0
def Li (rk:List Int) (by_:Nat) (x y:Int):Int :=
 if Im rk x≠Im rk y then Im rk x - Im rk y else if Ki rk by_ x≠Ki rk by_ y then Ki rk by_ x - Ki rk by_ y else x - y
def Wm (rk:List Int) (x:Int):Prop:=0<=x/\x < rk.length
def O4 (rk:List Int):Prop:=∀ r∈rk,0<=r/\r<=1000000000
theorem Qc {rk:List Int} (h:O4 rk) (i:Nat):0<=rk.getD i 0/\rk.getD i 0<=1000000000:=by
 by_cases hi:i < rk.length
 ·
  rw [Yb,Ya hi];exact h _ (X8 hi)
 rw [Yb,Xk (by omega)];simp
theorem Qy0 {rk:List Int} (h:O4 rk) (hn:rk.length<=1000000000) (by_:Nat) (x y:Int) (hx:Wm rk x) (hy:Wm rk y):-1000000000<=Li rk by_ x y/\Li rk by_ x y<=1000000000:=by
 obtain ⟨h1,h2⟩:=hx;obtain ⟨h3,h4⟩:=hy;unfold Li Im Ki;have a1:=Qc h x.toNat;have a2:=Qc h y.toNat;have a3:=Qc h ((x.toNat+by_) % rk.length);have a4:=Qc h ((y.toNat+by_) % rk.length);split
 ·
  omega
 split <;> omega
theorem Qk9 (rk:List Int) (hrk:O4 rk) (a:Addr) (cap by_ i j:Nat) (hn:rk.length<=1000000000) (hby:by_<=10000000000) (hi:i < rk.length) (hj:j < rk.length) (w:World) (hr:RS w (some a) rk.length 1 (Bb rk)) :
  Does Yg 138 #[Rt a rk.length cap by_,.int .i64 i,.int .i64 j] w fun v w'=>Heap w [] w' []/\v=.int .i64 (Li rk by_ i j):=by
 have a1:=Qc hrk i;have a2:=Qc hrk j;have a3:=Qc hrk ((i+by_) % rk.length);have a4:=Qc hrk ((j+by_) % rk.length)
 have hcm:Li rk by_ i j=if rk.getD i 0≠rk.getD j 0 then rk.getD i 0 - rk.getD j 0 else if rk.getD ((i+by_) % rk.length) 0≠rk.getD ((j+by_) % rk.length) 0 then rk.getD ((i+by_) % rk.length) 0 - rk.getD ((j+by_) % rk.length) 0 else (i:Int) - j:=by
  simp only [Li,Im,Ki,Ym];rfl
 have hk1:=fun w hr=>Z0 rk a cap by_ i hn hby hi w hr;have hk2:=fun w hr=>Z0 rk a cap by_ j hn hby hj w hr;generalize rk.getD i 0=ka at *;generalize rk.getD j 0=kb at *;generalize rk.getD ((i+by_) % rk.length) 0=kc at *;generalize rk.getD ((j+by_) % rk.length) 0=kd at *;rw [hcm];clear hcm;refine En [Rt a rk.length cap by_,.int .i64 i,.int .i64 j] 40 Tryz.func138 ?_;refine VQ [1,2,3] fun K hK=>?_;refine Eb ?_;refine Qs ?_;have hH:=(Yz w).box 196 [.slice (some a) rk.length cap,.int .i64 by_];generalize w.alloc (Yq [Xt (some a) rk.length cap,.int .i64 by_].toArray 196)=w1 at *;generalize w.heap.size=g at *;have hr1:=hH.rs' hr;apply hK;clear hK;refine VQ [1,2,3,7,8] fun K hK=>?_;refine ⟨[.slice (some a) rk.length cap,.int .i64 by_],⟨rfl,Ca (hH.at 0 rfl)⟩,?_⟩;refine Ac Um ?_;refine Qs ?_;refine Yk (hk1 w1 hr1) ?_;rintro v w2 ⟨hH2,rfl⟩;have hH3:=hH.call0 hH2;simp only [Yl] at hH3;have hr2:=hH3.rs' hr;apply hK;clear hK;refine VQ [1,2,7,8,9,10] fun K hK=>?_;refine ⟨[.slice (some a) rk.length cap,.int .i64 by_],⟨rfl,Ca (hH3.at 0 rfl)⟩,?_⟩;refine Ac Um ?_;refine Qs ?_;refine Yk (hk2 w2 hr2) ?_;rintro v w3 ⟨hH4,rfl⟩;have hH5:=hH3.call0 hH4;simp only [Yl] at hH5;have hH6:Heap w [] w3 []:=hH5.sub (by simp);apply hK;clear hK;refine VB ?_
 try simp only [Xm,Xd,Xe]
 refine VS [1,2,7,8,9,10,23] ?_;refine VD (fun h=>?_) (fun h=>?_)
 ·
  refine VS [6] ?_;exact Ad (A2 rfl rfl ⟨hH6,by rw [if_pos h]⟩)
 rw [if_neg h];refine VS [1,2,8,10,30] ?_;refine VD (fun h=>?_) (fun h=>?_)
 ·
  refine VS [6] ?_;exact Ad (A2 rfl rfl ⟨hH6,by rw [if_pos h]⟩)
 rw [if_neg h];refine Ab ?_;refine Ao ?_;refine VS [6] ?_;exact Ad (A2 rfl rfl ⟨hH6,rfl⟩)
theorem Qo6 (rk:List Int) (hrk:O4 rk) (gr:Nat) (cap by_:Nat) (hn:rk.length<=1000000000) (hby:by_<=10000000000) :
  Cmp (.func (.func 138) #[Rt ⟨gr,0,none⟩ rk.length cap by_] #[]) (Li rk by_) (Wm rk) (Yr 3 1 (some ⟨gr,0,none⟩) rk.length cap (Bb rk)) where
 i64:=fun x y hx hy=>by have:=Qy0 hrk hn by_ x y hx hy;omega
 run:=fun w x y hR hx hy=>by
  obtain ⟨i,rfl⟩:∃ i:Nat,x=i:=⟨x.toNat,by have:=hx.1;omega⟩;obtain ⟨j,rfl⟩:∃ j:Nat,y=j:=⟨y.toNat,by have:=hy.1;omega⟩;exact Gi Tryz.call138 (Qk9 rk hrk ⟨gr,0,none⟩ cap by_ i j hn hby (by have:=hx.2;omega) (by have:=hy.2;omega) w (Az hR)) fun v w' h=>h
theorem Rk (rk:List Int) (by_:Nat) (x y:Int):Li rk by_ x y < 0 ↔ Im rk x < Im rk y∨(Im rk x=Im rk y/\(Ki rk by_ x < Ki rk by_ y∨(Ki rk by_ x=Ki rk by_ y/\x < y))):=by
 unfold Li;split
 ·
  omega
 split <;> omega
theorem Qo7 (rk:List Int) (by_:Nat):Sort.SWO (ltOf (Li rk by_)):=by
 constructor
 ·
  intro x;simp [ltOf,Li]
 ·
  intro x y z h1 h2;have h3:=Rk rk by_ x y;have h4:=Rk rk by_ y z;have h5:=Rk rk by_ x z;simp only [ltOf] at *;have h1:=of_decide_eq_true h1;have h2:=of_decide_eq_true h2;exact decide_eq_true (by omega)
 intro x y z h1 h2;have h3:=Rk rk by_ x y;have h4:=Rk rk by_ y z;have h5:=Rk rk by_ x z;simp only [ltOf] at *;have h1:=of_decide_eq_false h1;have h2:=of_decide_eq_false h2;exact decide_eq_false (by omega)
def Fk:List UInt8->List UInt8->Bool
 | [],_=>true
 | _::_,[]=>false
 | a::l,b::m=>if a=b then Fk l m else decide (a.toNat < b.toNat)
theorem Vh:∀ l,Fk l l=true
 | []=>rfl
 | a::l=>by simp [Fk,Vh l]
theorem Z1:∀ l m,Fk l m=true->Fk m l=true->l=m
 | [],[],_,_=>rfl
 | [],_::_,_,h=>by simp [Fk] at h
 | _::_,[],h,_=>by simp [Fk] at h
 | a::l,b::m,h1,h2=>by
  simp only [Fk] at h1 h2;by_cases h:a=b
  ·
   subst h;simp at h1 h2;rw [Z1 l m h1 h2]
  simp [h,Ne.symm h] at h1 h2;omega
theorem Qo8:∀ (l m:List UInt8) (c:UInt8),l.length=m.length->Fk (l++[c]) (m++[c])=true->Fk l m=true
 | [],_,_,_,_=>rfl
 | _::_,[],_,h,_=>by simp at h
 | a::l,b::m,c,hl,h=>by
  simp only [Y6,Fk] at h ⊢;by_cases hab:a=b
  ·
   subst hab;simp at h ⊢;exact Qo8 l m c (by simpa using hl) h
  simp [hab] at h ⊢;exact h
def Cp (s:List UInt8) (i:Nat):List UInt8:=s.drop i++s.take i
theorem Qrk (s:List UInt8) (i:Nat):(Cp s i).length=s.length:=by simp [Cp];omega
theorem Qy1 (s:List UInt8):Cp s 0=s:=by simp [Cp]
def Wi:List UInt8->List UInt8
 | []=>[]
 | a::l=>l++[a]
theorem Qht (s:List UInt8) (i:Nat) (h:i < s.length):Cp s (i+1)=Wi (Cp s i):=by
 have e:s.drop i=s[i]::s.drop (i+1):=Y2 h;rw [Cp,Cp,e,Y6,Wi,Yn]
 congr 1
 rw [Xb,Ya h];rfl
theorem Qy2 (s:List UInt8):Cp s s.length=s:=by simp [Cp]
theorem Qo9 (s:List UInt8) (i:Nat) (h:i < s.length):(Cp s i).head? = some (s.getD i 0):=by
 rw [Cp,Y2 h,Yb,Ya h];rfl
structure Ordered (s:List UInt8) (σ:List Nat):Prop where
 perm:σ.Perm (Yf s.length)
 sorted:σ.Pairwise fun i j=>Fk (Cp s i) (Cp s j)=true/\(Cp s i=Cp s j->i < j)
theorem Ordered.unique {s:List UInt8}{σ τ:List Nat} (h:Ordered s σ) (k:Ordered s τ):σ=τ:=by
 refine List.Perm.eq_of_pairwise (le:=fun i j=>Fk (Cp s i) (Cp s j)=true/\(Cp s i=Cp s j->i < j)) (fun a b _ _ h1 h2=>?_) h.sorted k.sorted (h.perm.trans k.perm.symm);have e:=Z1 _ _ h1.1 h2.1;have:=h1.2 e;have:=h2.2 e.symm;omega
def D8 (n i:Nat):Nat:=if i=0 then n - 1 else i - 1
theorem Qvr (s:List UInt8) (i:Nat) (h:i < s.length):Cp s i=Wi (Cp s (D8 s.length i)):=by
 unfold D8;by_cases h0:i=0
 ·
  subst h0;rw [if_pos rfl,<- Qht s (s.length - 1) (by omega),show s.length - 1+1=s.length by omega,Qy2,Qy1]
 rw [if_neg h0,<- Qht s (i - 1) (by omega),show i - 1+1=i by omega]
def B5 (s:List UInt8) (σ:List Nat):List UInt8:=σ.map fun i=>s.getD (D8 s.length i) 0
def C8 (L:List UInt8):List Nat:=(Yf 256).flatMap fun b=>(Yf L.length).filter fun i=>(L.getD i 0).toNat == b
theorem Nt (L:List UInt8):(C8 L).Perm (Yf L.length):=by
 unfold C8;generalize hn:Yf L.length=xs;clear hn
 induction xs with
 | nil=>simp
 | cons x xs ih =>
  have h1:∀ (bs:List Nat),bs.Nodup->(L.getD x 0).toNat∈bs ->
    (bs.flatMap fun b=>(x::xs).filter fun i=>(L.getD i 0).toNat == b).Perm (x::bs.flatMap fun b=>xs.filter fun i=>(L.getD i 0).toNat == b):=by
   intro bs
   induction bs with
   | nil=>intro _ h;simp at h
   | cons b bs ihb =>
    intro hnd hm;rw [List.nodup_cons] at hnd;simp only [X3];by_cases hb:(L.getD x 0).toNat=b
    ·
     have hno:∀ b'∈bs,((x::xs).filter fun i=>(L.getD i 0).toNat == b')=xs.filter fun i=>(L.getD i 0).toNat == b':=by
      intro b' hb';rw [Xc];simp only [beq_iff_eq];intro h;exact hnd.1 (by rw [<- hb,h];exact hb')
     rw [Y7 (by simpa using hb)]
     have e:(bs.flatMap fun b'=>(x::xs).filter fun i=>(L.getD i 0).toNat == b')=bs.flatMap fun b'=>xs.filter fun i=>(L.getD i 0).toNat == b':=by
      have:∀ (l:List Nat),(∀ b'∈l,((x::xs).filter fun i=>(L.getD i 0).toNat == b')=xs.filter fun i=>(L.getD i 0).toNat == b')->(l.flatMap fun b'=>(x::xs).filter fun i=>(L.getD i 0).toNat == b')=l.flatMap fun b'=>xs.filter fun i=>(L.getD i 0).toNat == b':=by
       intro l
       induction l with
       | nil=>intro _;rfl
       | cons c l ihl=>intro h;rw [X3,X3,h c (by simp),ihl fun b' hb'=>h b' (by simp [hb'])]
      exact this bs hno
     rw [e];exact List.Perm.refl _
    rw [Xc (by simpa using hb)]
    have hm':(L.getD x 0).toNat∈bs:=by
     rcases Ua.1 hm with h | h
     ·
      exact absurd h hb
     exact h
    refine (List.Perm.append_left _ (ihb hnd.2 hm')).trans ?_;exact List.perm_middle
  refine (h1 _ Xn (Y3.2 (UInt8.toNat_lt _))).trans (ih.cons x)
theorem Qe6 (L:List UInt8):(C8 L).Pairwise fun i j=>(L.getD i 0).toNat < (L.getD j 0).toNat∨((L.getD i 0).toNat=(L.getD j 0).toNat/\i < j):=by
 unfold C8;rw [List.pairwise_flatMap];refine ⟨fun b _=>?_,?_⟩
 ·
  have hr:(Yf L.length).Pairwise (· < ·):=Un;have:=hr.filter fun i=>(L.getD i 0).toNat == b;refine this.imp_of_mem fun {i j} hi hj h=>?_;rw [X1] at hi hj;simp only [beq_iff_eq] at hi hj;exact .inr ⟨by rw [hi.2,hj.2],h⟩
 refine (Un (n:=256)).imp fun {b c} h i hi j hj=>?_;rw [X1] at hi hj;simp only [beq_iff_eq] at hi hj;exact .inl (by rw [hi.2,hj.2];exact h)
def Ls (L:List UInt8) (pl:List Nat):Nat->Nat->List UInt8
 | 0,_=>[]
 | n+1,p=>L.getD (pl.getD p 0) 0::Ls L pl n (pl.getD p 0)
theorem QEd (a:UInt8) (l:List UInt8):Wi (a::l)=l++[a]:=rfl
section
variable {s:List UInt8}{σ:List Nat}
theorem QEe (h:Ordered s σ) {j:Nat} (hj:j < s.length):(B5 s σ).getD j 0=s.getD (D8 s.length (σ.getD j 0)) 0:=by
 have hl:σ.length=s.length:=by rw [h.perm.length_eq,Yw]
 simp only [B5,Yb,Y8];rw [Ya (by omega)];simp
theorem QJh (h:Ordered s σ) {j:Nat} (hj:j < s.length):σ.getD j 0 < s.length:=by
 have hl:σ.length=s.length:=by rw [h.perm.length_eq,Yw]
 have:σ.getD j 0∈σ:=by
  rw [Yb,Ya (by omega)];simp
 have:=(h.perm.mem_iff).1 this;simpa using this
theorem Qpa {n i:Nat} (h:i < n):D8 n i < n:=by unfold D8;split <;> omega
theorem Qhu (h:Ordered s σ) {j:Nat} (hj:j < s.length):∃ l,Cp s (σ.getD j 0)=l++[(B5 s σ).getD j 0]/\Cp s (D8 s.length (σ.getD j 0))=(B5 s σ).getD j 0::l:=by
 have h1:=QJh h hj;have h2:=Qvr s _ h1;have h3:=Qo9 s _ (Qpa h1);cases hr:Cp s (D8 s.length (σ.getD j 0)) with
 | nil=>rw [hr] at h3;simp at h3
 | cons a l =>
  rw [hr] at h2 h3;simp only [List.head?_cons,Option.some.injEq] at h3;rw [QEe h hj,<- h3];exact ⟨l,h2,rfl⟩
theorem Qrl (n:Nat):((Yf n).map (D8 n)).Perm (Yf n):=by
 refine (List.perm_ext_iff_of_nodup ?_ Xn).2 fun a=>?_
 ·
  refine List.Pairwise.map _ ?_ (List.pairwise_lt_range.imp_of_mem (S:=fun a b=>a < b/\b < n) fun {a b} ha hb h=>⟨h,by simpa using hb⟩);intro a b h;unfold D8;split <;> split <;> omega
 simp only [Xu,Y3];constructor
 ·
  rintro ⟨i,hi,rfl⟩;exact Qpa hi
 intro ha;by_cases h:a=n - 1
 ·
  exact ⟨0,by omega,by unfold D8;rw [if_pos rfl];omega⟩
 exact ⟨a+1,by omega,by unfold D8;rw [if_neg (by omega)];omega⟩
theorem Qy3 (σ:List Nat):(Yf σ.length).map (fun j=>σ.getD j 0)=σ:=by
 apply Ga;intro j;rw [Y8];by_cases h:j < σ.length
 ·
  rw [Ya (by simpa using h)];simp [Yb,h]
 rw [Xk (by simpa using h),Xk (by omega)];rfl
theorem Qvs (h:Ordered s σ):σ.map (Cp s)=(C8 (B5 s σ)).map fun j=>Cp s (D8 s.length (σ.getD j 0)):=by
 have hl:σ.length=s.length:=by rw [h.perm.length_eq,Yw]
 have hcl:(B5 s σ).length=s.length:=by simp [B5,hl]
 have hpp:=Nt (B5 s σ);rw [hcl] at hpp;have hmem:∀ j∈C8 (B5 s σ),j < s.length:=fun j hj=>by simpa using (hpp.mem_iff).1 hj
 refine List.Perm.eq_of_pairwise (le:=fun l m=>Fk l m=true) (fun a b _ _ h1 h2=>Z1 a b h1 h2) ?_ ?_ ?_
 ·
  exact List.Pairwise.map _ (fun a b h=>h) (h.sorted.imp fun h=>h.1)
 ·
  refine List.Pairwise.map _ ?_ ((Qe6 (B5 s σ)).imp_of_mem (S:=fun i j=>((((B5 s σ).getD i 0).toNat < ((B5 s σ).getD j 0).toNat∨(((B5 s σ).getD i 0).toNat=((B5 s σ).getD j 0).toNat/\i < j))/\i < s.length)/\j < s.length) fun hi hj h=>⟨⟨h,hmem _ hi⟩,hmem _ hj⟩);rintro i j ⟨⟨hij,hi⟩,hj⟩;obtain ⟨l,e1,e2⟩:=Qhu h hi;obtain ⟨m,f1,f2⟩:=Qhu h hj;rw [e2,f2];simp only [Fk];rcases hij with hlt | ⟨he,hlt⟩
  ·
   have:(B5 s σ).getD i 0≠(B5 s σ).getD j 0:=fun h'=>by rw [h'] at hlt;omega
   simp only [this,if_false];simpa using hlt
  have he':(B5 s σ).getD i 0=(B5 s σ).getD j 0:=Uc.1 he;rw [if_pos he'];have hs:=Xy.1 h.sorted i j (by omega) (by omega) hlt;have g1:σ[i]'(by omega)=σ.getD i 0:=by rw [Yb,Ya (by omega)];rfl
  have g2:σ[j]'(by omega)=σ.getD j 0:=by rw [Yb,Ya (by omega)];rfl
  rw [g1,g2,e1,f1,he'] at hs;refine Qo8 l m _ ?_ hs.1;have a1:=congrArg Uj e1;have a2:=congrArg Uj f1;simp [Qrk] at a1 a2;omega
 have p1:(σ.map (Cp s)).Perm ((Yf s.length).map (Cp s)):=h.perm.map _;have p2:((C8 (B5 s σ)).map fun j=>Cp s (D8 s.length (σ.getD j 0))).Perm ((Yf s.length).map fun j=>Cp s (D8 s.length (σ.getD j 0))):=hpp.map _;refine p1.trans (List.Perm.trans ?_ p2.symm)
 have e1:((Yf s.length).map fun j=>Cp s (D8 s.length (σ.getD j 0)))=(σ.map (D8 s.length)).map (Cp s):=by
  rw [<- hl]
  conv=>rhs;rw [<- Qy3 σ]
  simp [Uo,Function.comp_def,hl]
 rw [e1];exact (((h.perm.map (D8 s.length)).trans (Qrl s.length)).symm).map _
theorem Qtr (h:Ordered s σ):∀ (n p i:Nat),p < s.length->i < s.length->Cp s (σ.getD p 0)=Cp s i->i+n<=s.length ->
  Ls (B5 s σ) (C8 (B5 s σ)) n p=(s.drop i).take n
 | 0,_,_,_,_,_,_=>by simp [Ls]
 | n+1,p,i,hp,hi,hr,hn=>by
  have hl:σ.length=s.length:=by rw [h.perm.length_eq,Yw]
  have hcl:(B5 s σ).length=s.length:=by simp [B5,hl]
  have hpp:=Nt (B5 s σ);rw [hcl] at hpp;have hpl:(C8 (B5 s σ)).length=s.length:=by rw [hpp.length_eq,Yw]
  generalize hq:(C8 (B5 s σ)).getD p 0=q
  have hqlt:q < s.length:=by
   have:q∈C8 (B5 s σ):=by
    rw [<- hq,Yb,Ya (by omega)];simp
   simpa using (hpp.mem_iff).1 this
  have hb:=congrArg (fun l=>l[p]?) (Qvs h);simp only [Y8] at hb;rw [Ya (by omega),Ya (by omega)] at hb;simp only [Option.map_some,Option.some.injEq] at hb;have g1:σ[p]'(by omega)=σ.getD p 0:=by rw [Yb,Ya (by omega)];rfl
  have g2:(C8 (B5 s σ))[p]'(by omega)=q:=by rw [<- hq,Yb,Ya (by omega)];rfl
  rw [g1,g2,hr] at hb;obtain ⟨l,e1,e2⟩:=Qhu h hqlt;rw [e2] at hb;have hd:=Qo9 s i hi;rw [hb] at hd;simp only [List.head?_cons,Option.some.injEq] at hd;have hnext:Cp s (σ.getD q 0)=Wi (Cp s i):=by rw [hb,QEd,e1]
  rw [Ls,hq,hd,Y2 hi,List.take_succ_cons];have e3:s.getD i 0=s[i]:=by rw [Yb,Ya hi];rfl
  rw [e3]
  congr 1
  by_cases hlast:i+1=s.length
  ·
   have:n=0:=by omega
   subst this;simp [Ls]
  exact Qtr h n q (i+1) hqlt (by omega) (by rw [hnext,Qht s i hi]) (by omega)
theorem Qy4 (h:Ordered s σ) (hs:s≠[]):Ls (B5 s σ) (C8 (B5 s σ)) s.length (σ.idxOf 0)=s:=by
 have hl:σ.length=s.length:=by rw [h.perm.length_eq,Yw]
 have hn:0 < s.length:=Ue.2 hs;have hm:0∈σ:=(h.perm.mem_iff).2 (by simpa using hn);have hr:σ.idxOf 0 < σ.length:=List.idxOf_lt_length_iff.2 hm
 have hg:σ.getD (σ.idxOf 0) 0=0:=by
  rw [Yb,Ya hr];simp
 have:=Qtr h s.length (σ.idxOf 0) 0 (by omega) hn (by rw [hg]) (by omega);simpa using this
end
def pre (s:List UInt8) (m i:Nat):List UInt8:=(Yf m).map fun t=>s.getD ((i+t) % s.length) 0
theorem W6 (s:List UInt8) (m i:Nat):(pre s m i).length=m:=by simp [pre]
theorem Qfd (s:List UInt8) (a b i:Nat):pre s (a+b) i=pre s a i++pre s b ((i+a) % s.length):=by
 simp only [pre,U1,List.map_append,Uo]
 congr 1
 apply Xz;intro t _;simp only [Function.comp]
 congr 1
 rw [Nat.mod_add_mod,Uk]
theorem Qcg:∀ {a c:List UInt8} (b d:List UInt8),a.length=c.length->Fk (a++b) (c++d)=if a=c then Fk b d else Fk a c
 | [],[],_,_,_=>by simp
 | [],_::_,_,_,h=>by simp at h
 | _::_,[],_,_,h=>by simp at h
 | x::a,y::c,b,d,h=>by
  have ih:=Qcg (a:=a) (c:=c) b d (by simpa using h);by_cases hxy:x=y
  ·
   subst hxy;simp only [Y6,Fk,if_true,ih,List.cons.injEq,true_and]
  simp [Fk,hxy]
theorem Qfe (s:List UInt8) (i:Nat) (hi:i < s.length):pre s s.length i=Cp s i:=by
 apply Xh
 ·
  simp [pre,Cp];omega
 intro t h1 h2;simp only [pre,Uv,Yw] at h1;simp only [pre,Cp,X9,X2,List.getElem_append,Xv,List.getElem_drop,List.getElem_take];split
 ·
  rename_i h;rw [Xw (by omega),Yb,Ya (by omega),Y9]
 rename_i h
 have e:(i+t) % s.length=t - (s.length - i):=by
  rw [Nat.mod_eq_sub_mod (by omega),Xw (by omega)];omega
 rw [e,Yb,Ya (by omega),Y9]
theorem Qrm (s:List UInt8) (m i j:Nat) (hi:i < s.length) (hj:j < s.length) (h:Cp s i=Cp s j):pre s m i=pre s m j:=by
 rw [<- Qfe s i hi,<- Qfe s j hj] at h;unfold pre at h ⊢;apply Xz;intro t _;have ht:t % s.length < s.length:=U8 _ (by omega);have h1:=(List.map_inj_left.1 h) (t % s.length) (by simpa using ht)
 rwa [Nat.add_mod_mod,Nat.add_mod_mod] at h1
def Ranks (s:List UInt8) (rk:List Int) (m:Nat):Prop:=rk.length=s.length/\∀ i j,i < s.length->j < s.length->(rk.getD i 0<=rk.getD j 0 ↔ Fk (pre s m i) (pre s m j)=true)
def Ok (rk:List Int) (by_:Nat) (x y:Int):Prop:=Im rk x < Im rk y∨(Im rk x=Im rk y/\Ki rk by_ x<=Ki rk by_ y)
def LeK (s:List UInt8) (rk:List Int) (by_ m:Nat):Prop:=rk.length=s.length/\∀ i j:Nat,i < s.length->j < s.length->(Ok rk by_ i j ↔ Fk (pre s m i) (pre s m j)=true)
theorem Ranks.eq {s:List UInt8}{rk:List Int}{m:Nat} (h:Ranks s rk m) {i j:Nat} (hi:i < s.length) (hj:j < s.length):rk.getD i 0=rk.getD j 0 ↔ pre s m i=pre s m j:=by
 constructor
 ·
  intro e;exact Z1 _ _ ((h.2 i j hi hj).1 (by omega)) ((h.2 j i hj hi).1 (by omega))
 intro e;have h1:=(h.2 i j hi hj).2 (by rw [e];exact Vh _);have h2:=(h.2 j i hj hi).2 (by rw [e];exact Vh _);omega
theorem LeK.first {s:List UInt8}{rk:List Int} (h:Ranks s rk 1):LeK s rk 0 1:=by
 refine ⟨h.1,fun i j hi hj=>?_⟩;have hn:=h.1;rw [<- h.2 i j hi hj];simp only [Ok,Im,Ki,Ym,Up,hn,Xw hi,Xw hj];omega
theorem LeK.double {s:List UInt8}{rk:List Int}{c:Nat} (h:Ranks s rk c):LeK s rk c (c+c):=by
 refine ⟨h.1,fun i j hi hj=>?_⟩;have hn:=h.1;have h0:0 < s.length:=by omega
 rw [Qfd,Qfd,Qcg _ _ (by rw [W6,W6])];have hi2:(i+c) % s.length < s.length:=U8 _ h0;have hj2:(j+c) % s.length < s.length:=U8 _ h0;have e1:=h.eq hi hj;have e2:=h.2 i j hi hj;have e3:=h.2 _ _ hi2 hj2;simp only [Ok,Im,Ki,Ym,hn];split
 ·
  rename_i hp;rw [<- e3];have:=e1.2 hp;omega
 rename_i hp;rw [<- e2];have:¬ rk.getD i 0=rk.getD j 0:=fun h'=>hp (e1.1 h');omega
def L1 (rk:List Int) (by_:Nat) (x y:Int):Bool:=decide (Im rk x=Im rk y) && decide (Ki rk by_ x=Ki rk by_ y)
def Fz (rk:List Int) (by_:Nat) (L:List Int):Nat->Nat
 | 0=>0
 | k+1=>Fz rk by_ L k+if L1 rk by_ (L.getD k 0) (L.getD (k+1) 0) then 0 else 1
theorem Ql2 (rk:List Int) (by_:Nat) (L:List Int):∀ k,Fz rk by_ L k<=k
 | 0=>by simp [Fz]
 | k+1=>by have:=Ql2 rk by_ L k;simp only [Fz];split <;> omega
theorem Qdx (rk:List Int) (by_:Nat) (L:List Int) {p q:Nat} (h:p<=q):Fz rk by_ L p<=Fz rk by_ L q:=by
 induction q with
 | zero =>
  obtain rfl:p=0:=by omega
  exact Xf _
 | succ q ih =>
  by_cases hp:p=q+1
  ·
   rw [hp];exact Xf _
  have:=ih (by omega);simp only [Fz];omega
def Quf (rk:List Int) (by_:Nat) (L:List Int):Prop:=∀ p q,p<=q->q < L.length->Ok rk by_ (L.getD p 0) (L.getD q 0)
theorem QEf {rk:List Int}{by_:Nat}{L:List Int} (hL:Quf rk by_ L) {p q:Nat} (h:p<=q) (hq:q < L.length):Fz rk by_ L p=Fz rk by_ L q ↔ L1 rk by_ (L.getD p 0) (L.getD q 0)=true:=by
 induction q with
 | zero =>
  obtain rfl:p=0:=by omega
  simp [L1]
 | succ q ih =>
  by_cases hp:p=q+1
  ·
   subst hp;simp [L1]
  have ih:=ih (by omega) (by omega);have hm:=Qdx rk by_ L (show p<=q by omega);have h1:=hL p q (by omega) (by omega);have h2:=hL q (q+1) (by omega) hq;simp only [Fz];simp only [L1,Xx,decide_eq_true_eq,Ok] at *;split
  ·
   rename_i h3;simp only [Up];rw [ih];omega
  rename_i h3;constructor
  ·
   intro h4;omega
  intro h4;exfalso;apply h3;omega
theorem Qrn {rk:List Int}{by_:Nat}{L:List Int} (hL:Quf rk by_ L) {p q:Nat} (hp:p < L.length) (hq:q < L.length):Fz rk by_ L p<=Fz rk by_ L q ↔ Ok rk by_ (L.getD p 0) (L.getD q 0):=by
 by_cases h:p<=q
 ·
  exact ⟨fun _=>hL p q h hq,fun _=>Qdx rk by_ L h⟩
 have h1:=hL q p (by omega) hp;have h2:=Qdx rk by_ L (show q<=p by omega);have h3:=QEf hL (show q<=p by omega) hp;simp only [L1,Xx,decide_eq_true_eq,Ok] at *;constructor
 ·
  intro h4;have:=h3.1 (by omega);omega
 intro h4;have:=h3.2 (by omega);omega
def F6 (n:Nat):List Int:=(Yf n).map fun i:Nat=>(i:Int)
theorem QAj {rk:List Int}{by_:Nat}{x y:Int} (h:ltOf (Li rk by_) y x=false):Ok rk by_ x y/\(L1 rk by_ x y=true->x<=y):=by
 have h1:=Rk rk by_ y x;have h2:¬ Li rk by_ y x < 0:=of_decide_eq_false h;simp only [Ok,L1,Xx,decide_eq_true_eq];constructor
 ·
  omega
 omega
theorem Qy5 {rk:List Int}{by_:Nat}{L:List Int} (h:L.Pairwise fun x y=>ltOf (Li rk by_) y x=false):Quf rk by_ L:=by
 intro p q hpq hq;by_cases e:p=q
 ·
  subst e;right;exact ⟨rfl,Int.le_refl _⟩
 have:=(Xy.1 h) p q (by omega) hq (by omega);rw [Yb,Ya (by omega),Yb,Ya hq];exact (QAj this).1
theorem Ql3 {L:List Int}{n:Nat} (h:L.Perm (F6 n)) {i:Nat} (hi:i < n):∃ p,p < L.length/\L.getD p 0=i:=by
 have hm:(i:Int)∈L:=h.mem_iff.2 (by simp only [F6,Xu,Y3];exact ⟨i,hi,rfl⟩);obtain ⟨p,hp,he⟩:=X0 hm;exact ⟨p,hp,by rw [Yb,Ya hp];exact he⟩
theorem Ql4 {L:List Int}{n:Nat} (h:L.Perm (F6 n)) {p:Nat} (hp:p < L.length):0<=L.getD p 0/\L.getD p 0 < n:=by
 have hm:L.getD p 0∈L:=by rw [Yb,Ya hp];exact X8 hp
 have:=h.mem_iff.1 hm;simp only [F6,Xu,Y3] at this;obtain ⟨i,hi,he⟩:=this;omega
theorem Qpb {L:List Int}{n:Nat} (h:L.Perm (F6 n)):L.length=n:=by rw [h.length_eq];simp [F6]
theorem Qg0 {L:List Int}{n:Nat} (h:L.Perm (F6 n)):L.Nodup:=by
 rw [h.nodup_iff,F6,List.Nodup,Gb];exact (Xn (n:=n)).imp fun {a b} hab h=>hab (by omega)
theorem Qy6 {L:List Int}{n:Nat} (h:L.Perm (F6 n)) {p q:Nat} (hp:p < L.length) (hq:q < L.length) (e:L.getD p 0=L.getD q 0):p=q:=by
 have hnd:=Qg0 h;rw [Yb,Ya hp,Yb,Ya hq] at e;exact (Ul hnd).1 e
theorem Qro {s:List UInt8}{rk nx L:List Int}{by_ m:Nat} (hk:LeK s rk by_ m) (hp:L.Perm (F6 s.length)) (hs:Quf rk by_ L) (hl:nx.length=s.length) (hn:∀ p,p < s.length->nx.getD (L.getD p 0).toNat 0=Fz rk by_ L p):Ranks s nx m:=by
 refine ⟨hl,fun i j hi hj=>?_⟩;have hL:=Qpb hp;obtain ⟨p,hp1,hp2⟩:=Ql3 hp hi;obtain ⟨q,hq1,hq2⟩:=Ql3 hp hj;have e1:=hn p (by omega);have e2:=hn q (by omega);rw [hp2,Ym] at e1;rw [hq2,Ym] at e2;have h1:=Qrn hs hp1 hq1;rw [hp2,hq2] at h1;rw [e1,e2,<- hk.2 i j hi hj,<- h1];omega
theorem Qnl {s:List UInt8}{rk nx L:List Int}{by_:Nat} (hp:L.Perm (F6 s.length)) (hl:nx.length=s.length) (hb:s.length<=1000000000) (hn:∀ p,p < s.length->nx.getD (L.getD p 0).toNat 0=Fz rk by_ L p):O4 nx:=by
 intro r hr;obtain ⟨i,hi,rfl⟩:=X0 hr;have hL:=Qpb hp;obtain ⟨p,hp1,hp2⟩:=Ql3 hp (show i < s.length by omega);have e1:=hn p (by omega);have e2:=Ql2 rk by_ L p;rw [hp2,Ym,Yb,Ya hi,Y9] at e1;omega
theorem Qnm {s:List UInt8}{rk L:List Int}{by_ m:Nat} (hk:LeK s rk by_ m) (hm:s.length<=m) (hp:L.Perm (F6 s.length)) (hs:L.Pairwise fun x y=>ltOf (Li rk by_) y x=false):Ordered s (L.map Uf):=by
 constructor
 ·
  have:=hp.map Uf
  rwa [F6,Uo,show (Uf ∘ fun i:Nat=>(i:Int))=id from funext fun i=>Ym i,List.map_id] at this
 rw [Gb];refine (List.pairwise_and_iff.2 ⟨hs,Qg0 hp⟩).imp_of_mem fun {x y} hx hy h=>?_;obtain ⟨h,hne⟩:=h;have hx:=hp.mem_iff.1 hx;have hy:=hp.mem_iff.1 hy;simp only [F6,Xu,Y3] at hx hy;obtain ⟨i,hi,rfl⟩:=hx;obtain ⟨j,hj,rfl⟩:=hy;simp only [Ym];obtain ⟨h1,h2⟩:=QAj h;have h3:=(hk.2 i j hi hj).1 h1;constructor
 ·
  obtain ⟨c,rfl⟩:∃ c,m=s.length+c:=⟨m - s.length,by omega⟩;rw [Qfd,Qfd,Qcg _ _ (by rw [W6,W6]),Qfe s i hi,Qfe s j hj] at h3;split at h3
  ·
   rename_i e;rw [e];exact Vh _
  exact h3
 intro e;have e2:=Qrm s m i j hi hj e;have h4:=(hk.2 j i hj hi).2 (by rw [e2];exact Vh _)
 have h5:L1 rk by_ i j=true:=by
  simp only [Ok,L1,Xx,decide_eq_true_eq] at *;omega
 have h6:=h2 h5;have h7:i≠j:=fun h=>hne (by rw [h]);omega
theorem Lm (d:Array Int) (p:Nat):d.toList.getD p 0=d[p]! := by
 simp only [Yb,getElem!_def,Array.getElem?_toList];cases d[p]? <;> rfl
theorem O1 (d:Array Int) {i:Nat} (v:Int) (j:Nat) (hi:i < d.size):(d.setIfInBounds i v)[j]! = if j=i then v else d[j]! := by
 simp only [getElem!_def,Array.getElem?_setIfInBounds];by_cases h:i=j
 ·
  subst h;simp [hi]
 simp [h,Ne.symm h]
theorem Qjm (n k:Nat):(Array.replicate n (0:Int))[k]! = 0:=by
 simp only [getElem!_def,Array.getElem?_replicate];split <;> rename_i h
 ·
  split at h <;> simp_all
 rfl
theorem Qs2 {w0 w:World}{B:List Nat}{G:List Res} (hH:Heap w0 B w G) (n:Nat) (hn:n<=1000000000000):Heap w0 B (w.alloc (.cells (Yc n (Y5 .i64 0)).toArray 3)) (Aw w.heap.size n (Array.replicate n 0)::G):=by
 have h:=hH.row 3 (n:=n) (cap:=n) (sz:=1) (Yc n (.int .i64 0)) [] (by simp) (by simp) (by omega) (by omega);rw [Yu] at h;rw [Aw,Array.size_replicate,Array.toList_replicate,<- intsV_zero];exact h
abbrev N9 (g cap:Nat) (rk:List Int):Res:=Yr 3 1 (some ⟨g,0,none⟩) rk.length cap (Bb rk)
abbrev Ea (g:Nat):Value:=.pointer (some ⟨g,0,none⟩)
theorem Qrp (rk:List Int) (gr cr by_ go co gn gs:Nat) (d:Array Int) (hrk:O4 rk) (hby:by_<=10000000000) (hn:d.size<=1000000000) (hn0:0 < d.size) (hl:rk.length=d.size) (hp:d.toList.Perm (F6 d.size)) (w0 w:World) (B:List Nat) (G:List Res)
  (hL:Heap w0 B w (Aw go co d::N9 gr cr rk::Yj gn 3 [.int .i64 d.size]::Yj gs 114 [sl go co d]::G)) :
  Does Yg 135 #[Rt ⟨gr,0,none⟩ rk.length cr by_,Ea gn,Ea gs] w
   fun v w'=>∃ (gx:Nat) (nx:Array Int),nx.size=d.size/\(∀ p,p < d.size->nx[(d[p]!).toNat]! = Fz rk by_ d.toList p)/\Heap w0 B w' (N9 gx d.size nx.toList::Aw go co d::N9 gr cr rk::Yj gn 3 [.int .i64 d.size]::Yj gs 114 [sl go co d]::G)/\v=sl gx d.size nx:=by
 have hin:∀ p,p < d.size->0<=d[p]! /\ d[p]! < d.size:=fun p h=>by
  have:=Ql4 hp (p:=p) (by simpa using h)
  rwa [Lm] at this
 have hinj:∀ p q,p < d.size->q < d.size->d[p]! = d[q]! -> p=q:=fun p q h1 h2 e=>by
  refine Qy6 hp (p:=p) (q:=q) (by simpa using h1) (by simpa using h2) ?_;rw [Lm,Lm,e]
 refine En [Rt ⟨gr,0,none⟩ rk.length cr by_,Ea gn,Ea gs] 69 Tryz.func135 ?_;refine VQ [1,2,3] fun K hK=>?_;refine Eb ?_;refine Qs ?_;have hH:=hL.box 196 [.slice (some ⟨gr,0,none⟩) rk.length cr,.int .i64 by_];generalize w.alloc (Yq [Xt (some ⟨gr,0,none⟩) rk.length cr,.int .i64 by_].toArray 196)=w1 at *;generalize w.heap.size=gb at *;apply hK;clear hK;refine VQ [1,2,3,5] fun K hK=>?_;refine ⟨_,Aj (hH.at 3 rfl) rfl,?_⟩;refine Ev Ye E2 ?_;refine Qs ?_;refine ⟨d.size,d.size,⟨rfl,rfl,by omega,by omega,by omega⟩,?_⟩;have hH1:=Qs2 hH d.size (by omega);generalize w1.alloc (Yq (Yc d.size (Y5 .i64 0)).toArray 3)=w2 at *;generalize w1.heap.size=gx at *;apply hK;clear hK;refine VS [1,2,3,5,6] ?_;refine Ar ?_;refine Au [1,2,3,5,6] (fun m e w'=>∃ (k:Nat) (nx:Array Int),Is e [(1,Ea gn),(2,Ea gs),(3,Ea gb),(5,.slice (some ⟨gx,0,none⟩) d.size d.size),(6,.int .i64 k)]/\Heap w0 B w' (Aw gx d.size nx::Yj gb 196 [.slice (some ⟨gr,0,none⟩) rk.length cr,.int .i64 by_]::Aw go co d::N9 gr cr rk::Yj gn 3 [.int .i64 d.size]::Yj gs 114 [sl go co d]::G)/\nx.size=d.size/\1<=k/\k<=d.size/\(∀ p,p < k->nx[(d[p]!).toNat]! = Fz rk by_ d.toList p)/\m=d.size - k) (d.size - 1) ?_ ?_
 ·
  refine Qs ?_;refine ⟨1,Array.replicate d.size 0,rfl,hH1,by simp,by omega,by omega,fun p hp=>?_,rfl⟩;obtain rfl:p=0:=by omega
  rw [Qjm];rfl
 clear hH hH1;rintro m e w3 ⟨k,nx,rfl,hH,hs,hk1,hk2,hnx,hm⟩;refine VQ [1,2,3,5,6,15] fun K hK=>?_;refine ⟨_,Aj (hH.at 4 rfl) rfl,?_⟩;refine Qs ?_;apply hK;clear hK;refine VD (fun h=>?_) (fun h=>?_)
 ·
  refine Ab ?_;refine VB ?_;obtain ⟨i1,hi1⟩:∃ i1:Nat,d[k - 1]! = i1:=⟨(d[k - 1]!).toNat,by have:=hin (k - 1) (by omega);omega⟩;obtain ⟨i2,hi2⟩:∃ i2:Nat,d[k]! = i2:=⟨(d[k]!).toNat,by have:=hin k (by omega);omega⟩;have hb1:=hin (k - 1) (by omega);have hb2:=hin k (by omega);have hne:i1≠i2:=fun e=>by have:=hinj (k - 1) k (by omega) (by omega) (by rw [hi1,hi2,e]);omega
  have hrs:Fz rk by_ d.toList k=Fz rk by_ d.toList (k - 1)+if L1 rk by_ i1 i2 then 0 else 1:=by
   obtain ⟨j,rfl⟩:∃ j,k=j+1:=⟨k - 1,by omega⟩;rw [Xq] at *;rw [Fz,Lm,Lm,hi1,hi2]
  have hkeq:L1 rk by_ i1 i2=(decide (rk.getD i1 0=rk.getD i2 0) && decide (rk.getD ((i1+by_) % rk.length) 0=rk.getD ((i2+by_) % rk.length) 0)):=by
   simp only [L1,Im,Ki,Ym];rfl
  refine VH _ (Ext.refl _) [1,2,3,5,6,7,8] [(0,true),(1,true),(2,true),(3,true),(4,true),(5,true),(6,false),(7,true),(8,true),(9,true),(10,true),(11,true)] fun K hK=>?_;refine ⟨[.slice (some ⟨gr,0,none⟩) rk.length cr,.int .i64 by_],⟨rfl,Ca (hH.at 1 rfl)⟩,_,Aj (hH.at 5 rfl) rfl,Y4 (by omega) (by omega),?_⟩;refine Qs ?_;refine ⟨⟨by omega,by omega⟩,_,B2 (hH.at 2 rfl) (by omega),?_⟩;rw [hi1];refine Ac Um ?_;refine Qs ?_;refine Yk (Z0 rk ⟨gr,0,none⟩ cr by_ i1 (by omega) hby (by omega) w3 (Az (hH.at 3 rfl))) ?_;rintro v w4 ⟨hH2,rfl⟩;have hH3:=hH.call0 hH2;simp only [Yl] at hH3;clear hH;refine ⟨hH2.ext,?_⟩;apply hK;clear hK;simp only [Xm,Xd,Xe];clear hH2;refine VH _ (Ext.refl _) [1,2,3,5,6,7,8,9,10] [(0,true),(1,true),(2,true),(3,true),(4,true),(5,false),(6,true),(7,true),(8,true),(9,true),(10,true)] fun K hK=>?_;refine ⟨[.slice (some ⟨gr,0,none⟩) rk.length cr,.int .i64 by_],⟨rfl,Ca (hH3.at 1 rfl)⟩,_,Aj (hH3.at 5 rfl) rfl,?_⟩;refine Qs ?_;refine ⟨⟨by omega,by omega⟩,_,B2 (hH3.at 2 rfl) (by omega),?_⟩;rw [hi2];refine Ac Um ?_;refine Qs ?_;refine Yk (Z0 rk ⟨gr,0,none⟩ cr by_ i2 (by omega) hby (by omega) w4 (Az (hH3.at 3 rfl))) ?_;rintro v w5 ⟨hH4,rfl⟩;have hH:=hH3.call0 hH4;simp only [Yl] at hH;clear hH3;refine ⟨hH4.ext,?_⟩;apply hK;clear hK;simp only [Xm,Xd,Xe];clear hH4;generalize rk.getD i1 0=ka at *;generalize rk.getD i2 0=kb at *;generalize rk.getD ((i1+by_) % rk.length) 0=kc at *;generalize rk.getD ((i2+by_) % rk.length) 0=kd at *;refine VL [1,2,3,5,6,7,8,9,10] 14 fun K hK=>?_;refine ⟨_,Aj (hH.at 5 rfl) rfl,?_⟩;refine Qs ?_;refine ⟨⟨by omega,by omega⟩,_,B2 (hH.at 2 rfl) (by omega),_,Aj (hH.at 5 rfl) rfl,Y4 (by omega) (by omega),?_⟩;refine Qs ?_;refine ⟨⟨by omega,by omega⟩,_,B2 (hH.at 2 rfl) (by omega),?_⟩;rw [hi1,hi2];refine Qs ?_;refine ⟨⟨by omega,by omega⟩,_,B2 (hH.at 0 rfl) (by omega),⟨by omega,by omega⟩,?_⟩;refine Af ?_;refine Qs ?_;refine C3 hH 0 (o:=(i2)) rfl (by first | rfl | (simp;done) | (congr 1;omega)) (by first | omega | (simp;omega)) fun w6 hS1=>?_;simp only [Yd] at hS1;(try refine Qs ?_);have hr1:=hnx (k - 1) (by omega);rw [hi1,Ym] at hr1;have hr2:=Ql2 rk by_ d.toList (k - 1);have hs1:(nx.setIfInBounds i2 nx[i1]!).size=d.size:=by simp [hs]
  have hnx1:∀ p,p < k->(nx.setIfInBounds i2 nx[i1]!)[(d[p]!).toNat]! = Fz rk by_ d.toList p:=fun p hp2=>by
   rw [O1 _ _ _ (by omega),if_neg,hnx p hp2];intro e;have h1:=hin p (by omega);have:=hinj p k (by omega) (by omega) (by omega);omega
  have hk0:(nx.setIfInBounds i2 nx[i1]!)[i2]! = Fz rk by_ d.toList (k - 1):=by rw [O1 _ _ _ (by omega),if_pos rfl,hr1]
  clear hnx hr1 hH hs;generalize nx.setIfInBounds i2 nx[i1]! = nx1 at *;apply hK;clear hK;refine VQ [1,2,3,5,6,58] fun K hK=>?_
  suffices hall:∀ bb:Bool,L1 rk by_ i1 i2=! bb->K [(1,Ea gn),(2,Ea gs),(3,Ea gb),(5,.slice (some ⟨gx,0,none⟩) d.size d.size),(6,.int .i64 k),(58,.bool bb)] w6 by
   refine ⟨fun h=>hall _ ?_,fun h=>hall _ ?_⟩
   ·
    rw [hkeq];simp only [Decidable.not_not] at h;simp [h]
   rw [hkeq];simp [h]
  intro bb hbb;rw [hbb] at hrs;clear hbb hkeq;apply hK;clear hK;refine Vi (fun h=>?_) (fun h=>?_)
  ·
   subst h;simp only [Bool.not_true,U7,if_false] at hrs;refine VQ [1,2,3,5,6] fun K hK=>?_;refine ⟨_,Aj (hS1.at 5 rfl) rfl,?_⟩;refine Qs ?_;refine ⟨⟨by omega,by omega⟩,_,B2 (hS1.at 2 rfl) (by omega),?_⟩;rw [hi2];refine Qs ?_;refine ⟨⟨by omega,by omega⟩,_,B2 (hS1.at 0 rfl) (by omega),?_⟩;rw [hk0];refine Qs ?_;refine ⟨Y4 (by omega) (by omega),⟨by omega,by omega⟩,?_⟩;refine Af ?_;refine Qs ?_;refine C3 hS1 0 (o:=(i2)) rfl (by first | rfl | (simp;done) | (congr 1;omega)) (by first | omega | (simp;omega)) fun w6 hS2=>?_;simp only [Yd] at hS2;(try refine Qs ?_);apply hK;clear hK;refine Ao ?_;refine VS [1,2,3,5,6] ?_;refine Ah ?_;refine Qs ?_;refine ⟨d.size - (k+1),by omega,k+1,_,rfl,hS2,by simp [hs1],by omega,by omega,fun p hp2=>?_,rfl⟩;rw [O1 _ _ _ (by omega)];by_cases hpk:p=k
   ·
    subst hpk;rw [hi2,Ym,if_pos rfl,hrs];omega
   rw [if_neg,hnx1 p (by omega)];intro e;have h1:=hin p (by omega);have:=hinj p k (by omega) (by omega) (by omega);omega
  subst h;simp only [Bool.not_false,if_true,Up] at hrs;refine Ab ?_;refine Ao ?_;refine VS [1,2,3,5,6] ?_;refine Ah ?_;refine Qs ?_;refine ⟨d.size - (k+1),by omega,k+1,nx1,rfl,hS1,hs1,by omega,by omega,fun p hp2=>?_,rfl⟩;by_cases hpk:p=k
  ·
   subst hpk;rw [hi2,Ym,hk0,hrs]
  exact hnx1 p (by omega)
 obtain rfl:k=d.size:=by omega
 refine As rfl ?_;refine VS [4] ?_;refine Ad (A2 rfl rfl ?_);refine ⟨gx,nx,hs,hnx,?_,by rw [sl,hs]⟩;have h5:Heap w0 B w3 (Aw gx d.size nx::Aw go co d::N9 gr cr rk::Yj gn 3 [.int .i64 d.size]::Yj gs 114 [sl go co d]::G):=hH.sub (by simp);rw [Aw,hs] at h5;rw [N9,show nx.toList.length=d.size by simpa using hs];exact h5
abbrev QFc (g n:Nat):Res:=Aw g n (Array.replicate n 0)
abbrev Mn (g n:Nat):Value:=.slice (some ⟨g,0,none⟩) n n
theorem Qts {P:Program}{N:Nat}{ops:List Oper}{w0:World}{e:Env}{w:World}{K:Env->World->Prop}:Ap P N ops w0 [] e w K=K e w:=rfl
set_option maxHeartbeats 4000000 in
theorem Qrq (l:List UInt8) (hl:l.length<=100000000) (w:World):Does Yg 97 #[Aa l] w
  fun v w'=>∃ (go:Nat) (σ:List Nat),Ordered l σ/\Heap w [] w' [Yr 3 1 (some ⟨go,0,none⟩) l.length l.length (Bb (σ.map fun i:Nat=>(i:Int)))]/\v=.slice (some ⟨go,0,none⟩) l.length l.length:=by
 refine En [Aa l] 57 Tryz.func97 ?_;generalize hn:l.length=n at *;refine VS [0] ?_;refine VQ [0,3] fun K hK=>?_;refine A6 (.int .i64 0) (by kernel_rfl) ?_;refine Qs ?_;have hH0:=(Yz w).box 3 [.int .i64 0];generalize w.alloc (Yq [Y5 .i64 0].toArray 3)=w1 at *;generalize w.heap.size=gn at *;rw [hn];refine Af ?_;refine Qs ?_;refine Al hH0 0 (vs:=[.int .i64 n]) rfl rfl (by kernel_rfl) (by first | decide | (simp;done) | (simp;omega)) (by simp [Yo]) fun w6 hH=>?_;(try refine Qs ?_);apply hK;clear hK;clear hH0;generalize w6=w1 at *;refine V3 w1 (Ext.refl _) [0,3,4,5] (.three [(0,true),(2,true)] 1 3 4 (.two [] 3 4 (.seq [(4,false),(5,false),(6,true)]) (.two [] 3 5 (.seq [(5,false),(6,true)]) (.seq [(3,false),(6,true)]))) (.two [] 1 4 (.seq [(4,false),(5,false),(6,true)]) (.seq [(1,false),(5,false),(6,true)])) (.two [] 1 3 (.two [] 3 5 (.seq [(5,false),(6,true)]) (.seq [(3,false),(6,true)])) (.seq [(1,false),(5,false),(6,true)]))) fun K hK=>?_
 suffices out:∀ go gf gs w2,Heap w1 [] w2 [QFc go n,QFc gf n,Yj gs 114 [Mn go n]]->K [(0,Aa l),(3,Ea gn),(4,Ea gs),(5,Mn gf n)] w2 by
  simp only [Nq,Bd,List.filterMap_cons,List.filterMap_nil,List.getElem?_cons_succ,List.getElem?_cons_zero,Option.map_some];refine Qs ?_;refine ⟨_,Aj (hH.at 0 rfl) rfl,_,Aj (hH.at 0 rfl) rfl,?_⟩;have hX:=Yz w1
  repeat' (first
   | (refine Ev Ye E2 ?_;refine Qs ?_;refine ⟨n,n,⟨rfl,rfl,by omega,by omega,by omega⟩,?_⟩;have hX:=Qs2 hX n (by omega);skip;refine ⟨hX.ext,?_⟩;skip)
   | (refine A6 (.slice none 0 0) (by kernel_rfl) ?_;refine Qs ?_;have hX:=hX.box 114 [.slice none 0 0];skip;refine ⟨hX.ext,?_⟩;skip)
   | (refine Af ?_;refine Qs ?_;first
     | (refine Al hX 0 (vs:=[_]) rfl rfl (by kernel_rfl) (by first | decide | (simp;done)) (by simp [Yo]) fun w6 hX=>?_;simp only [Yd,Yh] at hX;skip;refine ⟨hX.ext,?_⟩;skip)
     | (refine Al hX 1 (vs:=[_]) rfl rfl (by kernel_rfl) (by first | decide | (simp;done)) (by simp [Yo]) fun w6 hX=>?_;simp only [Yd,Yh] at hX;skip;refine ⟨hX.ext,?_⟩;skip)
     | (refine Al hX 2 (vs:=[_]) rfl rfl (by kernel_rfl) (by first | decide | (simp;done)) (by simp [Yo]) fun w6 hX=>?_;simp only [Yd,Yh] at hX;skip;refine ⟨hX.ext,?_⟩;skip))
   | (simp only [Qts];skip)
   | refine And.intro ?_ ?_)
  all_goals first
   | exact out _ _ _ _ hX
   | exact out _ _ _ _ (hX.front 1 rfl)
   | exact out _ _ _ _ (hX.front 2 rfl)
   | exact out _ _ _ _ ((hX.front 1 rfl).front 2 rfl)
   | exact out _ _ _ _ ((hX.front 2 rfl).front 2 rfl)
   | exact out _ _ _ _ ((hX.front 2 rfl).front 1 rfl)
 intro go gf gs w2 hX;have hH2:=hH.call0 hX;simp only [Yd,Y6,Yl] at hH2;have hG:Heap w [] w2 [QFc go n,QFc gf n,Yj gs 114 [Mn go n],Yj gn 3 [.int .i64 n]]:=hH2;clear hX hH hH2;apply hK;clear hK;refine VQ [0,3,4,5,16,17] fun K hK=>?_;refine ⟨_,Aj (hG.at 3 rfl) rfl,?_⟩;apply hK;clear hK;refine Ar ?_;refine Au [0,3,4,5,16,17] (fun m e w'=>∃ (i:Nat) (D F:Array Int),Is e [(0,Aa l),(3,Ea gn),(4,Ea gs),(5,Mn gf n),(16,.int .i64 n),(17,.int .i64 i)]/\Heap w [] w' [Aw go n D,Aw gf n F,Yj gs 114 [Mn go n],Yj gn 3 [.int .i64 n]]/\D.size=n/\F.size=n/\i<=n/\(∀ p,p < i->D[p]! = p/\F[p]! = (l.getD p 0).toNat)/\m=n - i) n ?_ ?_
 ·
  refine Qs ?_;exact ⟨0,_,_,rfl,hG,by simp,by simp,by omega,fun p hp=>by omega,rfl⟩
 clear hG;rintro m e w3 ⟨i,D,F,rfl,hH,hD,hF,hi,hDF,hm⟩;refine VS [0,3,4,5,16,17,18] ?_;(repeat refine Ax ?_);refine VD (fun h=>?_) (fun h=>?_)
 ·
  refine Ab ?_;refine VB ?_;refine VS [0,3,4,5,6,16,17] ?_;refine Vb [0,3,4,5,16,17] [(1,0),(2,0),(3,0),(4,0),(5,0),(6,0),(7,0),(8,0),(0,1),(9,0),(10,2),(11,0),(12,2)] fun K hK=>?_;rw [hn];have hb:=(l.getD i 0).toNat_lt;refine ⟨⟨by omega,by omega⟩,Y4 (by omega) (by omega),_,Aj (hH.at 2 rfl) rfl,?_⟩;refine Qs ?_;refine Qo ?_;refine Af ?_;refine Qs ?_;refine C3 hH 0 (o:=(i)) rfl (by first | rfl | (simp;done) | (congr 1;omega)) (by first | omega | (simp;omega)) fun w6 hS1=>?_;simp only [Yd] at hS1;(try refine Qs ?_);refine Qo ?_;refine Af ?_;refine Qs ?_;refine C3 hS1 1 (o:=i) rfl rfl (by omega) fun w7 hS2=>?_;simp only [Yh,Yd] at hS2;apply hK;clear hK;refine Ao ?_;refine VS [0,3,4,5,16,17] ?_;refine Ah ?_;refine Qs ?_;refine ⟨n - (i+1),by omega,i+1,_,_,rfl,hS2,by simp [hD],by simp [hF],by omega,fun p hp=>?_,rfl⟩;rw [O1 _ _ _ (by omega),O1 _ _ _ (by omega)];by_cases hpi:p=i
  ·
   subst hpi;simp
  rw [if_neg hpi,if_neg hpi];exact hDF p (by omega)
 obtain rfl:i=n:=by omega
 refine As rfl ?_
 have hDl:D.toList=F6 i:=by
  apply Xh
  ·
   simp [F6,hD]
  intro p h1 h2;have h3:=(hDF p (by simpa [hD] using h1)).1;rw [Wp (by simpa using h1)] at h3;rw [h3];simp [F6]
 have hFl:∀ p,p < i->F.toList.getD p 0=(l.getD p 0).toNat:=fun p hp=>by rw [Lm];exact (hDF p hp).2
 have hFn:F.toList.length=l.length:=by rw [hn];simpa using hF
 clear hDF;refine VQ [3,4,5,33] fun K hK=>?_;refine ⟨_,Aj (hH.at 3 rfl) rfl,?_⟩;refine Qs ?_;apply hK;clear hK;refine VD (fun h=>?_) (fun h=>?_)
 ·
  obtain rfl:i=0:=by omega
  obtain rfl:l=[]:=Xa hn;refine VQ [2] fun K hK=>?_;refine ⟨_,Aj (hH.at 2 rfl) rfl,?_⟩;apply hK;clear hK;refine Ad (A2 rfl rfl ?_);refine ⟨go,[],⟨by simp,.nil⟩,?_,rfl⟩;have h5:Heap w [] w3 [Aw go 0 D]:=hH.sub (by simp);rw [Aw,hD,hDl] at h5;exact h5
 have hn0:0 < i:=by omega
 generalize i=n at *;refine Ab ?_;refine VS [3,4,5,7] ?_
 have hrk0:Ranks l F.toList 1:=by
  refine ⟨hFn,fun p q hp hq=>?_⟩;rw [hFl p (by omega),hFl q (by omega)];have h1:∀ r,r < l.length->pre l 1 r=[l.getD r 0]:=fun r hr=>by simp [pre,Xr,Xw hr]
  rw [h1 p hp,h1 q hq];simp only [Fk];by_cases e:l.getD p 0=l.getD q 0
  ·
   rw [if_pos e,e];simp
  rw [if_neg e,decide_eq_true_eq];have:(l.getD p 0).toNat≠(l.getD q 0).toNat:=fun h'=>e (Uc.1 h');omega
 have hok0:O4 F.toList:=by
  intro r hr;obtain ⟨p,hp,rfl⟩:=X0 hr;have h1:=hFl p (by rw [hFn,hn] at hp;exact hp);rw [Yb,Ya hp,Y9] at h1;have:=(l.getD p 0).toNat_lt;omega
 refine VQ [3,4,7,8] fun K hK=>?_;refine A6 (.agg #[.slice none 0 0,.int .i64 0]) (by kernel_rfl) ?_;refine Qs ?_;have hH1:=hH.box 196 [.slice none 0 0,.int .i64 0];generalize w3.alloc (Yq [Xt none 0 0,.int .i64 0].toArray 196)=w4 at *;generalize w3.heap.size=gr at *;refine Af ?_;refine Qs ?_;refine Al hH1 0 (vs:=[.slice (some ⟨gf,0,none⟩) n n,.int .i64 0]) rfl rfl (by kernel_rfl) (by first | decide | (simp;done) | (simp;omega)) (by simp [Yo]) fun w6 hH2=>?_;(try refine Qs ?_)
 have hH3:Heap w [] w6 (Aw go n D::N9 gf n F.toList::Yj gn 3 [.int .i64 n]::Yj gs 114 [Mn go n]::[Yj gr 196 [.slice (some ⟨gf,0,none⟩) F.toList.length n,.int .i64 (0:Nat)]]):=by
  rw [show F.toList.length=n by rw [hFn,hn]];have h7:=(((hH2.front 3 rfl).front 4 rfl).front 4 rfl).front 4 rfl;rw [N9,show F.toList.length=n by rw [hFn,hn]];simp only [Aw,hF,List.eraseIdx_cons_succ,List.eraseIdx_cons_zero] at h7;simp only [Aw];exact h7
 clear hH hH1 hH2;apply hK;clear hK;refine VS [3,4,7,8,9] ?_;refine Ar ?_;refine Au [3,4,7,8,9] (fun m e w'=>∃ (b by_ gk ck:Nat) (rk:List Int) (D:Array Int),Is e [(3,Ea gn),(4,Ea gs),(7,.func (.func 135) #[] #[Ea gn,Ea gs]),(8,Ea gr),(9,.int .i64 b)]/\Heap w [] w' (Aw go n D::N9 gk ck rk::Yj gn 3 [.int .i64 n]::Yj gs 114 [Mn go n]::[Yj gr 196 [.slice (some ⟨gk,0,none⟩) rk.length ck,.int .i64 by_]])/\D.size=n/\D.toList.Perm (F6 n)/\LeK l rk by_ b/\O4 rk/\rk.length=n/\1<=b/\b<=2 * n/\by_<=b/\m=2 * n - b) (2 * n - 1) ?_ ?_
 ·
  refine Qs ?_;exact ⟨1,0,gf,n,F.toList,D,rfl,hH3,hD,by rw [hDl],LeK.first hrk0,hok0,by rw [hFn,hn],by omega,by omega,by omega,rfl⟩
 clear hH3 hrk0 hok0 hFl hFn hDl hD hF;rintro m e w4 ⟨b,by_,gk,ck,rk,D1,rfl,hH,hD1,hp1,hk1,hok1,hrl1,hb1,hb2,hby,hm⟩;refine VB ?_
 have hQ1:AllQ (Wm rk) D1:=fun k hk=>by
  have h1:=Ql4 hp1 (p:=k) (by simpa using hk);rw [Lm] at h1;exact ⟨h1.1,by rw [hrl1];exact h1.2⟩
 refine VQ [3,4,7,8,9] fun K hK=>?_;refine ⟨_,Aj (hH.at 3 rfl) rfl,[.slice (some ⟨gk,0,none⟩) rk.length ck,.int .i64 by_],⟨rfl,Ca (hH.at 4 rfl)⟩,?_⟩;have hc:=Qbv (Qo6 rk hok1 gk ck by_ (by omega) (by omega)) (Qo7 rk by_) go n D1 (by omega) hQ1 w w4 [] _ hH;rw [sl,hD1] at hc;refine Ac Tryz.call137 ?_;refine Qs ?_;refine Yk hc ?_;clear hc hH;rintro v w5 ⟨D2,hsrt,hD2,hQ2,hH,rfl⟩;have hp2:=hsrt.1.trans hp1;have hrow:=Qy5 hsrt.2;apply hK;clear hK;refine VQ [3,4,7,8,9] fun K hK=>?_;refine ⟨[.slice (some ⟨gk,0,none⟩) rk.length ck,.int .i64 by_],⟨rfl,Ca (hH.at 4 rfl)⟩,?_⟩;have hc:=Qrp rk gk ck by_ go n gn gs D2 hok1 (by omega) (by omega) (by omega) (by omega) (by rw [hD2];exact hp2) w w5 [] _ (by rw [sl,hD2];exact hH);rw [hD2] at hc;refine Cc ?_;refine Qs ?_;refine Gi Tryz.call135 hc ?_;clear hc hH;rintro v w6 ⟨gx,nx,hnx,hrs,hH,rfl⟩
 have hrk2:Ranks l nx.toList b:=Qro hk1 (by rw [hn];exact hp2) hrow (by rw [hn];simpa using hnx) fun p hp=>by
  rw [Lm,Lm];exact hrs p (by omega)
 have hok2:O4 nx.toList:=Qnl (s:=l) (rk:=rk) (by_:=by_) (L:=D2.toList) (by rw [hn];exact hp2) (by rw [hn];simpa using hnx) (by omega) fun p hp=>by
  rw [Lm,Lm];exact hrs p (by omega)
 have hnl:nx.toList.length=n:=by simpa using hnx
 simp only [sl,hnx,hD2] at hH ⊢;refine Qs ?_;refine Af ?_;refine Qs ?_;refine Al hH 5 (vs:=[.slice (some ⟨gx,0,none⟩) n n,.int .i64 b]) rfl rfl (by kernel_rfl) (by first | decide | (simp;done) | (simp;omega)) (by simp [Yo]) fun w6 hH2=>?_;(try refine Qs ?_);simp only [Yh,Yd] at hH2
 have hH3:Heap w [] w6 (Aw go n D2::N9 gx n nx.toList::Yj gn 3 [.int .i64 n]::Yj gs 114 [Mn go n]::[Yj gr 196 [.slice (some ⟨gx,0,none⟩) nx.toList.length n,.int .i64 b]]):=by
  rw [show nx.toList.length=n from hnl];exact (hH2.front 1 rfl).sub (by simp)
 clear hH hH2;apply hK;clear hK;have hk2:LeK l nx.toList b (b+b):=LeK.double hrk2;refine VQ [3,4,7,8,9,51] fun K hK=>?_;refine ⟨_,Aj (hH3.at 2 rfl) rfl,?_⟩;refine Qs ?_;apply hK;clear hK;refine VD (fun h=>?_) (fun h=>?_)
 ·
  have hQ3:AllQ (Wm nx.toList) D2:=fun k hk=>by
   have h1:=Ql4 hp2 (p:=k) (by simpa using hk);rw [Lm] at h1;exact ⟨h1.1,by rw [hnl];exact h1.2⟩
  refine VQ [4] fun K hK=>?_;refine ⟨_,Aj (hH3.at 3 rfl) rfl,[.slice (some ⟨gx,0,none⟩) nx.toList.length n,.int .i64 b],⟨rfl,Ca (hH3.at 4 rfl)⟩,?_⟩;have hc:=Qbv (Qo6 nx.toList hok2 gx n b (by omega) (by omega)) (Qo7 nx.toList b) go n D2 (by omega) hQ3 w w6 [] _ hH3;rw [sl,hD2] at hc;refine Ac Tryz.call137 ?_;refine Qs ?_;refine Yk hc ?_;clear hc hH3;rintro v w7 ⟨D3,hsrt3,hD3,hQ3',hH,rfl⟩;have hp3:=hsrt3.1.trans hp2;apply hK;clear hK;refine VQ [2] fun K hK=>?_;refine ⟨_,Aj (hH.at 3 rfl) rfl,?_⟩;apply hK;clear hK;refine Ad (A2 rfl rfl ?_);have ho:=Qnm hk2 (by omega) (by rw [hn];exact hp3) hsrt3.2;refine ⟨go,D3.toList.map Uf,ho,?_,rfl⟩
  have e:(D3.toList.map Uf).map (fun i:Nat=>(i:Int))=D3.toList:=by
   rw [Uo]
   conv=>rhs;rw [<- List.map_id D3.toList]
   apply Xz;intro x hx;have:=hp3.mem_iff.1 hx;simp only [F6,Xu,Y3] at this;obtain ⟨i,_,rfl⟩:=this;simp
  rw [e];have h5:Heap w [] w7 [Aw go n D3]:=hH.sub (by simp);rw [Aw,show D3.size=n by omega] at h5;exact h5
 refine Ab ?_;refine Ao ?_;refine VS [3,4,7,8,9] ?_;refine Ah ?_;refine Qs ?_;refine ⟨2 * n - (b+b),by omega,b+b,b,gx,n,nx.toList,D2,by rw [show ((b:Int) * 2)=((b+b:Nat):Int) by omega];rfl,hH3,by omega,hp2,hk2,hok2,hnl,by omega,by omega,by omega,rfl⟩
def Wb (l:List UInt8) (v:Value):Prop :=
 if l=[] then v=.tuple #[Aa [],.int .i64 0,.int .i64 2]
 else if 262144 < l.length then v=.tuple #[Aa [],.int .i64 0,.int .i64 3]
 else ∃ σ,Ordered l σ/\v=.tuple #[Aa (B5 l σ),.int .i64 (σ.idxOf 0:Nat),.int .i64 0]
theorem Qla (l:List UInt8) (hl:l.length<=1000000000000) (w:World):Does Yg 58 #[Aa l] w fun v w'=>Heap w [] w' []/\Wb l v:=by
 refine En [Aa l] 41 Tryz.func58 ?_;refine VS [0] ?_;refine VS [0,10] ?_;refine VD (fun h=>?_) (fun h=>?_)
 ·
  refine VS [2,3,4] ?_;exact Ad (Dh rfl rfl rfl rfl ⟨Yz w,by rw [Wb,if_pos h]⟩)
 have hne:=h;refine Ab ?_;refine VS [0,13] ?_;refine VD (fun h=>?_) (fun h=>?_)
 ·
  refine VS [2,3,4] ?_;exact Ad (Dh rfl rfl rfl rfl ⟨Yz w,by rw [Wb,if_neg hne,if_pos (by omega)]⟩)
 have hle:l.length<=262144:=by omega
 have hn0:0 < l.length:=Ue.2 hne;clear h;generalize hn:l.length=n at *;refine Ab ?_;refine VQ [0,5,6] fun K hK=>?_;rw [hn];refine Ev Ys Io ?_;refine Qs ?_;refine ⟨n,n,⟨rfl,rfl,by omega,by omega,by omega⟩,?_⟩;have hH0:=(Yz w).row 5 (n:=n) (cap:=n) (sz:=1) (Yc n (.int .u8 0)) [] (by simp) (by simp) (by omega) (by omega);rw [Yu,show Yc n (Y5 .u8 0)=An (Yc n 0) by simp [An]] at hH0;rw [show Yc n (Y5 .u8 0)=An (Yc n 0) by simp [An]];generalize w.alloc (Yq (An (Yc n 0)).toArray 5)=w1 at *;generalize w.heap.size=gb at *;apply hK;clear hK;refine VQ [0,5,6,18,19,20] fun K hK=>?_;have hc:=Qrq l (by omega) w1;rw [hn] at hc;refine Ac Tryz.call97 ?_;refine Qs ?_;refine Yk hc ?_;clear hc;rintro v w2 ⟨go,σ,hσ,hX,rfl⟩;have hH1:=hH0.call0 hX;simp only [Y6,Yl] at hH1;have hσl:σ.length=n:=by rw [hσ.perm.length_eq,Yw,hn]
 have hσb:∀ p,p < n->σ.getD p 0 < n:=fun p hp=>by
  have h1:σ.getD p 0∈σ:=Dr 0 (by omega);have:=hσ.perm.mem_iff.1 h1;rw [Y3,hn] at this;exact this
 have hnd:σ.Nodup:=by rw [hσ.perm.nodup_iff];exact Xn
 have h0σ:0∈σ:=hσ.perm.mem_iff.2 (by rw [Y3];omega);have hcl:(B5 l σ).length=n:=by simp [B5,hσl]
 have hcg:∀ p,p < n->(B5 l σ).getD p 0=l.getD (D8 n (σ.getD p 0)) 0:=fun p hp=>by
  simp only [B5,Yb,Y8,hn];rw [Ya (by omega)];simp
 refine Qs ?_;apply hK;clear hK;refine Ar ?_;refine Au [0,5,6,18,19,20] (fun m e w'=>∃ (k r:Nat) (o:List UInt8),Is e [(0,Aa l),(5,.slice (some ⟨gb,0,none⟩) n n),(6,.int .i64 r),(18,.slice (some ⟨go,0,none⟩) n n),(19,.int .i64 n),(20,.int .i64 k)]/\Heap w [] w' [Yr 3 1 (some ⟨go,0,none⟩) n n (Bb (σ.map fun i:Nat=>(i:Int))),Yr 5 1 (some ⟨gb,0,none⟩) n n (An o)]/\o.length=n/\k<=n/\o.take k=(B5 l σ).take k/\(0∈σ.take k->r=σ.idxOf 0)/\m=n - k) n ?_ ?_
 ·
  refine Qs ?_;exact ⟨0,0,_,rfl,hH1,by simp,by omega,by simp,by simp,rfl⟩
 clear hH0 hX hH1;rintro m e w3 ⟨k,r,o,rfl,hH,hol,hk,ho,hr,hm⟩;refine VS [0,5,6,18,19,20,21] ?_;(repeat refine Ax ?_);refine VD (fun h=>?_) (fun h=>?_)
 ·
  have hkn:k < n:=by omega
  have hsk:=hσb k hkn
  have hgk:(σ.map fun i:Nat=>(i:Int)).getD k 0=((σ.getD k 0:Nat):Int):=by
   simp only [Yb,Y8];rw [Ya (by omega)];simp
  refine Ab ?_;refine VB ?_;refine VQ [0,5,6,7,8,18,19,20] fun K hK=>?_;refine And.intro ⟨by omega,by omega⟩ ⟨_,Cn (hH.at 0 rfl) (L6 (by simp;omega)),?_⟩;rw [hgk];apply hK;clear hK;refine VS [0,5,6,7,8,18,19,20,26] ?_
  have htk:σ.take (k+1)=σ.take k++[σ.getD k 0]:=by
   rw [Xb,Ya (by omega),Yb,Ya (by omega)];rfl
  refine Dk [0,5,6,7,8,18,19,20] (fun e w'=>∃ (r':Nat),Is e [(0,Aa l),(5,.slice (some ⟨gb,0,none⟩) n n),(6,.int .i64 r'),(7,.int .i64 k),(8,.int .i64 (D8 n (σ.getD k 0)+1:Nat)),(18,.slice (some ⟨go,0,none⟩) n n),(19,.int .i64 n),(20,.int .i64 k)]/\Is w' w3/\(0∈σ.take (k+1)->r'=σ.idxOf 0)) ?_ ?_
  ·
   refine VD (fun h=>?_) (fun h=>?_)
   ·
    have hz:σ.getD k 0=0:=by omega
    refine VS [0,5,6,7,18,19,20] ?_;refine VQ [0,5,6,7,8,18,19,20] fun K hK=>?_;rw [hn];apply hK;clear hK;refine Ah ?_;refine Qs ?_;refine ⟨k,by rw [hz,show D8 n 0+1=n by unfold D8;rw [if_pos rfl];omega];rfl,rfl,fun _=>?_⟩;have h1:=hnd.idxOf_getElem k (by omega);rw [Yb,Ya (by omega),Y9] at hz;rw [hz] at h1;exact h1.symm
   have hz:σ.getD k 0≠0:=by omega
   refine Ab ?_;refine Ah ?_;refine Qs ?_;refine ⟨r,by rw [show D8 n (σ.getD k 0)+1=σ.getD k 0 by unfold D8;rw [if_neg hz];omega];rfl,rfl,fun h2=>hr ?_⟩;rw [htk,Xs] at h2;rcases h2 with h2 | h2
   ·
    exact h2
   exact absurd (List.mem_singleton.1 h2).symm hz
  rintro e w4 ⟨r',rfl,rfl,hr'⟩;have hah:D8 n (σ.getD k 0) < n:=by unfold D8;split <;> omega
  have hcgk:=hcg k hkn;generalize D8 n (σ.getD k 0)=at_ at *;refine VQ [0,5,6,18,19,20] fun K hK=>?_;rw [hn,show ((at_+1:Nat):Int) - 1=(at_:Int) by omega];rw [Xq];refine ⟨Y4 (by omega) (by omega),⟨by omega,by omega⟩,⟨by omega,by omega⟩,?_⟩;refine Af ?_;refine Qs ?_;refine Ej hH 1 (o:=(k)) (vs:=[.int .u8 (l.getD at_ 0).toNat]) rfl (by first | exact (B0 _ _ _).symm | rfl | simp [B0]) rfl (by kernel_rfl) (by first | omega | (simp;done) | (simp;omega) | (simp [An,Bb];omega) | (rw [natsV_len];simp;omega)) (by simp [Yo]) fun w6 hH2=>?_;(try refine Qs ?_);simp only [Yy,Di (An o) _ _ (show k < (An o).length by rw [Pw];omega),Tt,Yd,Yh] at hH2;apply hK;clear hK;refine Ao ?_;refine VS [0,5,6,18,19,20] ?_;refine Ah ?_;refine Qs ?_;refine ⟨n - (k+1),by omega,k+1,r',o.set k (l.getD at_ 0),rfl,hH2,by simp [hol],by omega,?_,hr',rfl⟩
  have e1:(o.set k (l.getD at_ 0)).take (k+1)=o.take k++[l.getD at_ 0]:=by
   rw [Xb,Uq (by omega),U5 (by omega)];rfl
  have e2:(B5 l σ).take (k+1)=(B5 l σ).take k++[(B5 l σ).getD k 0]:=by
   rw [Xb,Ya (by omega),Yb,Ya (by omega)];rfl
  rw [e1,e2,ho,hcgk]
 obtain rfl:k=n:=by omega
 refine As rfl ?_;rw [Yp (by omega),Yp (by omega)] at ho;subst ho;have hr2:=hr (by rw [Yp (by omega)];exact h0σ);subst hr2;refine VQ [2,3,4] fun K hK=>?_;refine ⟨B5 l σ,K4 (by rw [<- hcl] at hH ⊢;exact Az (hH.at 1 rfl)),?_⟩;apply hK;clear hK;refine Ad (Dh rfl rfl rfl rfl ?_);refine ⟨hH.sub (by simp),?_⟩;rw [Wb,if_neg hne,if_neg (by omega)];exact ⟨σ,hσ,rfl⟩
def K2 (L:List UInt8) (b k:Nat):Nat:=((Yf k).filter fun i=>(L.getD i 0).toNat == b).length
def Lb (L:List UInt8):Nat->Nat
 | 0=>0
 | b+1=>Lb L b+K2 L b L.length
def M6 (L:List UInt8) (i:Nat):Nat:=Lb L (L.getD i 0).toNat+K2 L (L.getD i 0).toNat i
theorem Qjn (L:List UInt8) (b k:Nat):K2 L b (k+1)=K2 L b k+if (L.getD k 0).toNat=b then 1 else 0:=by
 unfold K2;rw [Xr,Xj,Yi];by_cases h:(L.getD k 0).toNat=b
 ·
  rw [Y7 (by rw [beq_iff_eq];exact h),if_pos h];rfl
 rw [Xc (by rw [beq_iff_eq];exact h),if_neg h];rfl
theorem Ql5 (L:List UInt8) (b k:Nat):K2 L b k<=k:=by
 unfold K2;exact Gd (Uy _ _) (by simp)
theorem Qpc (L:List UInt8) (b:Nat):((Yf b).flatMap fun b=>(Yf L.length).filter fun i=>(L.getD i 0).toNat == b).length=Lb L b:=by
 induction b with
 | zero=>rfl
 | succ b ih=>rw [Xr,U6,Yi,ih];simp [Lb,K2]
theorem Tj (L:List UInt8) (i:Nat) (hi:i < L.length):(C8 L)[M6 L i]? = some i:=by
 have hb:=(L.getD i 0).toNat_lt;obtain ⟨k,hk⟩:∃ k,256=(L.getD i 0).toNat+(k+1):=⟨256 - (L.getD i 0).toNat - 1,by omega⟩;obtain ⟨j,hj⟩:∃ j,L.length=i+(j+1):=⟨L.length - i - 1,by omega⟩;generalize hbb:(L.getD i 0).toNat=b at *
 have e:C8 L=((Yf b).flatMap fun b=>(Yf L.length).filter fun i=>(L.getD i 0).toNat == b)++(((Yf i).filter fun i=>(L.getD i 0).toNat == b)++(i::((((Yf j).map Ge).map (i+·)).filter fun i=>(L.getD i 0).toNat == b)))++((((Yf k).map Ge).map (b+·)).flatMap fun b=>(Yf L.length).filter fun i=>(L.getD i 0).toNat == b):=by
  have e1:Yf 256=Yf b++(b::((Yf k).map Ge).map (b+·)):=by
   rw [hk,U1,Ur];simp
  have e2:Yf L.length=Yf i++(i::((Yf j).map Ge).map (i+·)):=by
   rw [hj,U1,Ur];simp
  have e3:((Yf L.length).filter fun i=>(L.getD i 0).toNat == b)=((Yf i).filter fun i=>(L.getD i 0).toNat == b)++(i::((((Yf j).map Ge).map (i+·)).filter fun i=>(L.getD i 0).toNat == b)):=by
   rw [e2,Xj,Y7 (by rw [beq_iff_eq];exact hbb)]
  unfold C8;rw [e1,U6,X3,e3,<- Yn]
 have hp:M6 L i=Lb L b+K2 L b i:=by rw [M6,hbb]
 rw [e,hp,Yn,Y0 (by rw [Qpc];omega),Qpc,Xo,Yn,Y0 (by rw [K2];exact Xf _)];rw [show K2 L b i - ((Yf i).filter fun i=>(L.getD i 0).toNat == b).length=0 by rw [K2];omega];rfl
theorem Qtt (L:List UInt8) (i:Nat) (hi:i < L.length):M6 L i < L.length:=by
 have h:=Tj L i hi;have hl:(C8 L).length=L.length:=by rw [(Nt L).length_eq,Yw]
 have:=(Yv.1 h).1;omega
theorem Qy7 (L:List UInt8) {i j:Nat} (hi:i < L.length) (hj:j < L.length) (h:M6 L i=M6 L j):i=j:=by
 have h1:=Tj L i hi;rw [h,Tj L j hj] at h1;exact (Option.some.inj h1).symm
theorem Qvt (L:List UInt8) (P:List Nat) (hl:P.length=L.length) (h:∀ i,i < L.length->P.getD (M6 L i) 0=i):P=C8 L:=by
 have hpl:(C8 L).length=L.length:=by rw [(Nt L).length_eq,Yw]
 have hnd:(C8 L).Nodup:=by rw [(Nt L).nodup_iff];exact Xn
 apply Xh (by omega);intro p h1 h2
 have hm:(C8 L)[p] < L.length:=by
  have:=(Nt L).mem_iff.1 (X8 h2);simpa using this
 generalize hj:(C8 L)[p]=j at *;have h3:=Tj L j hm;obtain ⟨h4,h5⟩:=Yv.1 h3;have h6:M6 L j=p:=(Ul hnd).1 (by rw [h5,hj]);have h7:=h j hm;rw [h6,Yb,Ya h1,Y9] at h7;exact h7
def Po (g:Nat) (F:Array Int):Res:=Yj g 225 (Bb F.toList)
theorem Qhv {g:Nat}{F:Array Int}{w:World} (h:(Po g F).holds w) {k:Nat} (hk:k < F.size):w.cell? ⟨g,k,none⟩=some (.int .i64 F[k]!):=by
 refine Aj h ?_;rw [L6 (by simpa using hk),Lm]
theorem Qch {w0 w:World}{B:List Nat}{G:List Res} (hH:Heap w0 B w G) (i:Nat) {g o:Nat}{F:Array Int}{x:Int}{C:World->Prop} (hi:G[i]? = some (Po g F)) (ho:o < F.size)
  (h:∀ w',Heap w0 B w' (G.set i (Po g (F.setIfInBounds o x)))->C w'):Mw Yg 3 (.pointer (some ⟨g,o,none⟩)) (.int .i64 x) w C:=by
 refine Al hH i (o:=o) (vs:=[.int .i64 x]) hi rfl (by kernel_rfl) (by rw [Tx];simp;omega) (by simp [Yo]) fun w' hw=>h w' ?_
 have e:(Bb F.toList).take o++[.int .i64 x]++(Bb F.toList).drop (o+[Y5 .i64 x].length)=Bb (F.setIfInBounds o x).toList:=by
  rw [Yy,Di (Bb F.toList) _ _ (by rw [Tx];simpa using ho),Qi4,Array.toList_setIfInBounds]
 rw [e] at hw;exact hw
theorem Qtu:∀ {l:List Value}{i:Nat}{v:Value}{K:Value->Prop},l[i]? = some v->Bk l i K=K v
 | [],_,_,_,h=>by simp at h
 | x::l,0,v,K,h=>by simp at h;subst h;rfl
 | x::l,i+1,v,K,h=>by rw [Bk];exact Qtu (by simpa using h)
theorem Qrr (D:Array Int) (gp cp gc p:Nat) (hp:p < D.size) (hD:D.size<=1000000000000) (w0 w:World) (B:List Nat) (G:List Res) (hL:Heap w0 B w (Aw gp cp D::Yj gc 114 [sl gp cp D]::G)) :
  Does Yg 169 #[.int .i64 p,Ea gc] w fun v w'=>w'=w/\v=.int .i64 D[p]! := by
 refine En [.int .i64 p,Ea gc] 8 Tryz.func169 ?_;refine Am [0,1] fun K hK=>?_;apply hK;clear hK;refine Am [3] fun K hK=>?_;refine ⟨_,Aj (hL.at 1 rfl) rfl,?_⟩;refine Qi ?_;refine ⟨⟨by omega,by omega⟩,_,B2 (hL.at 0 rfl) hp,?_⟩;apply hK;clear hK;exact Ad (A2 rfl rfl ⟨rfl,rfl⟩)
abbrev QFn (gc:Nat):Value:=.func (.func 169) #[] #[Ea gc]
abbrev Wj (gw gc p:Nat):Res:=Yj gw 227 [QFn gc,.int .i64 p]
theorem Qvu (D:Array Int) (gp cp gc gw p q:Nat) (hp:p < D.size) (hq:D[p]! = q) (hD:D.size<=1000000000000) (w0 w:World) (B:List Nat) (G:List Res) (hL:Heap w0 B w (Aw gp cp D::Yj gc 114 [sl gp cp D]::Wj gw gc p::G)) :
  Does Yg 170 #[Ea gw] w fun v w'=>Heap w0 B w' (Aw gp cp D::Yj gc 114 [sl gp cp D]::Wj gw gc q::G)/\v=.int .i64 q:=by
 refine En [Ea gw] 19 Tryz.func170 ?_;refine Am [0] fun K hK=>?_;apply hK;clear hK;(repeat refine Ax ?_);refine Qb6 [0] [(0,0),(1,0),(2,0),(3,0),(5,0),(6,0),(7,0),(4,1),(8,1),(9,2),(10,0),(11,0),(12,2)] (by kernel_rfl) (by kernel_rfl) (by kernel_rfl) (by simp only [Bd,List.map_cons,List.map_nil,beq_self_eq_true,Nat.reduceBEq,List.filterMap_cons,List.filterMap_nil,List.getElem?_cons_succ,List.getElem?_cons_zero,Option.map_some];rfl) fun K hK=>?_;refine Qi ?_;refine ⟨_,Aj (hL.at 2 rfl) rfl,_,Aj (hL.at 2 rfl) rfl,?_⟩;refine Cc ?_;refine Qi ?_;refine Gi Tryz.call169 (Qrr D gp cp gc p hp hD w0 w B _ hL) ?_;rintro v w2 ⟨rfl,rfl⟩;rw [hq];refine Af ?_;refine Qi ?_;refine Al hL 2 (vs:=[.int .i64 q]) rfl rfl (by kernel_rfl) (by first | decide | (simp;done) | (simp;omega)) (by simp [Yo]) fun w6 hH2=>?_;(try refine Qi ?_);apply hK;clear hK;refine Am [2] fun K hK=>?_;refine ⟨_,Aj (hH2.at 2 rfl) rfl,?_⟩;apply hK;clear hK;exact Ad (A2 rfl rfl ⟨hH2,rfl⟩)
def L0 (L:List UInt8) (row:Int):List UInt8×Int :=
 if 262144 < L.length then ([],3) else if row < 0∨(L.length:Int)<=row then ([],50) else (Ls L (C8 L) L.length row.toNat,0)
theorem Qvv (L:List UInt8) (row:Int) (hr:I64 row) (hL:L.length<=1000000000000) (w:World):Does Yg 129 #[Aa L,.int .i64 row] w
  fun v w'=>Heap w [] w' []/\v=.tuple #[Aa (L0 L row).1,.int .i64 (L0 L row).2]:=by
 refine En [Aa L,.int .i64 row] 96 Tryz.func129 ?_;refine Am [0,1] fun K hK=>?_;apply hK;clear hK;refine Am [0,1,18] fun K hK=>?_;apply hK;clear hK;refine VD (fun h=>?_) (fun h=>?_)
 ·
  refine Am [4,5] fun K hK=>?_;apply hK;clear hK;exact Ad (A7 rfl rfl rfl ⟨Yz w,by rw [L0,if_pos (by omega)]⟩)
 have hle:L.length<=262144:=by omega
 clear h;refine Ab ?_;refine Am [0,1,26] fun K hK=>?_
 suffices out:∀ b:Bool,(b=true ↔ (row < 0∨(L.length:Int)<=row))->K [(0,Aa L),(1,.int .i64 row),(26,.bool b)] w by (repeat' (first | exact out _ _ (by first | omega | (simp;done) | (simp;omega)) | exact out _ (by first | omega | (simp;done) | (simp;omega)) | refine ⟨fun _=>?_,fun _=>?_⟩ | refine Qo ?_))
 intro b hb;apply hK;clear hK;refine Ae rfl rfl (fun h=>?_) (fun h=>?_)
 ·
  refine Am [4,5] fun K hK=>?_;apply hK;clear hK;exact Ad (A7 rfl rfl rfl ⟨Yz w,by rw [L0,if_neg (by omega),if_pos (hb.1 h)]⟩)
 have hb2:¬ (row < 0∨(L.length:Int)<=row):=fun h2=>by have:=hb.2 h2;simp_all
 have hbs:L0 L row=(Ls L (C8 L) L.length row.toNat,0):=by rw [L0,if_neg (by omega),if_neg hb2]
 rw [hbs];obtain ⟨p0,rfl⟩:∃ p:Nat,row=p:=⟨row.toNat,by omega⟩;rw [Ym];have hp0:p0 < L.length:=by omega
 clear hb hb2 hbs h hr;refine Ab ?_;generalize hn:L.length=n at *;refine Am [0,1,6] fun K hK=>?_;refine A6 (.agg (Bb (Yc 256 0)).toArray) (by kernel_rfl) ?_;refine Qi ?_
 have hH0:Heap w [] (w.alloc (Yq (Bb (Yc 256 0)).toArray 225)) [Po w.heap.size (Array.replicate 256 0)]:=by
  have h:=(Yz w).box 225 (Bb (Yc 256 0));rw [Po,Array.toList_replicate];exact h
 generalize w.alloc (Yq (Bb (Yc 256 0)).toArray 225)=w1 at *;generalize w.heap.size=gf at *;have hb8:∀ k,(L.getD k 0).toNat < 256:=fun k=>(L.getD k 0).toNat_lt
 have hst:∀ b,Lb L b<=b * 262144:=fun b=>by
  induction b with
  | zero=>simp [Lb]
  | succ b ih=>have:=Ql5 L b L.length;simp only [Lb];omega
 apply hK;clear hK;refine Am [0,1,6,28,29] fun K hK=>?_;apply hK;clear hK;rw [hn];refine Ar ?_;refine Au [0,1,6,28,29] (fun m e w'=>∃ (k:Nat) (F:Array Int),Is e [(0,Aa L),(1,.int .i64 p0),(6,Ea gf),(28,.int .i64 n),(29,.int .i64 k)]/\Heap w [] w' [Po gf F]/\F.size=256/\k<=n/\(∀ b,b < 256->F[b]! = K2 L b k)/\m=n - k) n ?_ ?_
 ·
  refine Qi ?_;exact ⟨0,_,rfl,hH0,by simp,by omega,fun b _=>by rw [Qjm];rfl,rfl⟩
 clear hH0;rintro m e w2 ⟨k,F,rfl,hH,hF,hk,hFk,hm⟩;refine Am [0,1,6,28,29,30] fun K hK=>?_;apply hK;clear hK;(repeat refine Ax ?_);refine VD (fun h=>?_) (fun h=>?_)
 ·
  refine Ab ?_
  ((repeat refine Ax ?_);refine Ar ?_)
  refine Am [0,1,6,7,28,29] fun K hK=>?_;apply hK;clear hK;have hb:=hb8 k;have hc:=hFk _ hb;have hcl:=Ql5 L (L.getD k 0).toNat k;have hcs:=fun b=>Qjn L b k;generalize hbk:(L.getD k 0).toNat=bk at *;refine Am [0,1,6,28,29] fun K hK=>?_;rw [hn,hbk];refine ⟨⟨by omega,by omega⟩,⟨by omega,by omega⟩,_,Qhv (hH.at 0 rfl) (by omega),?_⟩;rw [hc];refine Qi ?_;refine ⟨Y4 (by omega) (by omega),⟨by omega,by omega⟩,?_⟩;refine Af ?_;refine Qi ?_;refine Qch hH 0 (o:=bk) rfl (by omega) fun w6 hH2=>?_;simp only [Yd] at hH2;apply hK;clear hK;refine Ao ?_;refine Am [0,1,6,28,29] fun K hK=>?_;(repeat refine Qo ?_);apply hK;clear hK;refine Ah ?_;refine Qi ?_;refine ⟨n - (k+1),by omega,k+1,_,rfl,hH2,by simp [hF],by omega,fun b hb2=>?_,rfl⟩;rw [O1 _ _ _ (by omega),hcs b];by_cases e:b=bk
  ·
   subst e;simp
  rw [if_neg e,if_neg (Ne.symm e),hFk b hb2];simp
 obtain rfl:k=n:=by omega
 refine As rfl ?_;generalize k=n at *;refine Am [0,1,6,8] fun K hK=>?_;apply hK;clear hK;refine Am [0,1,6,8,40,41] fun K hK=>?_;refine ⟨Bb F.toList,⟨by rw [Tx];simpa using hF,Ca (hH.at 0 rfl)⟩,?_⟩;apply hK;clear hK;refine Ar ?_;refine Au [0,1,6,8,40,41] (fun m e w'=>∃ (b:Nat) (F':Array Int),Is e [(0,Aa L),(1,.int .i64 p0),(6,Ea gf),(8,.int .i64 (Lb L b)),(40,.agg (Bb F.toList).toArray),(41,.int .i64 b)]/\Heap w [] w' [Po gf F']/\F'.size=256/\b<=256/\(∀ c,c < b->F'[c]! = Lb L c)/\m=256 - b) 256 ?_ ?_
 ·
  refine Qi ?_;exact ⟨0,F,rfl,hH,hF,by omega,fun c hc=>by omega,rfl⟩
 clear hH;rintro m e w3 ⟨b,F1,rfl,hH,hF1,hb,hFb,hm⟩;refine Am [0,1,6,8,40,41,42] fun K hK=>?_;apply hK;clear hK;(repeat refine Ax ?_);refine VD (fun h=>?_) (fun h=>?_)
 ·
  have hc:=hFk b (by omega);have hcl:=Ql5 L b n;have hsb:=hst b;have hsb1:=hst (b+1);refine Ab ?_
  ((repeat refine Ax ?_);refine Ar ?_)
  refine Am [0,1,6,8,9,10,40,41] fun K hK=>?_
  have hvn:Bk (Bb F.toList) b=fun K=>K (.int .i64 F[b]!):=by
   funext K;exact Qtu (by rw [L6 (by simp;omega),Lm])
  rw [hvn]
  dsimp only
  rw [hc];refine ⟨⟨by omega,by omega⟩,?_⟩;apply hK;clear hK;refine Am [0,1,6,8,10,40,41] fun K hK=>?_;refine ⟨⟨by omega,by omega⟩,?_⟩;refine Af ?_;refine Qi ?_;refine Qch hH 0 (o:=b) rfl (by omega) fun w6 hH2=>?_;simp only [Yd] at hH2;apply hK;clear hK;refine Am [0,1,6,8,40,41] fun K hK=>?_;(repeat refine Qo ?_);apply hK;clear hK;refine Ao ?_;refine Am [0,1,6,8,40,41] fun K hK=>?_;(repeat refine Qo ?_);apply hK;clear hK;refine Ah ?_;refine Qi ?_;refine ⟨256 - (b+1),by omega,b+1,_,by rw [show ((Lb L b:Int)+(K2 L b n:Nat))=((Lb L (b+1):Nat):Int) by rw [Lb,hn];omega];rfl,hH2,by simp [hF1],by omega,fun c hc=>?_,rfl⟩;rw [O1 _ _ _ (by omega)];by_cases e:c=b
  ·
   subst e;simp
  rw [if_neg e];exact hFb c (by omega)
 obtain rfl:b=256:=by omega
 refine As rfl ?_;clear hFk hF;refine Am [0,1,6,11] fun K hK=>?_;rw [hn];refine Ev Ye E2 ?_;refine Qi ?_;refine ⟨n,n,⟨rfl,rfl,by omega,by omega,by omega⟩,?_⟩;have hH1:=Qs2 hH n (by omega);generalize w3.alloc (Yq (Yc n (Y5 .i64 0)).toArray 3)=w4 at *;generalize w3.heap.size=gp at *;refine A6 (.slice none 0 0) (by kernel_rfl) ?_;refine Qi ?_;have hH2:=hH1.box 114 [.slice none 0 0];generalize w4.alloc (Yq [Xt none 0 0].toArray 114)=w5 at *;generalize w4.heap.size=gc at *;refine Af ?_;refine Qi ?_;refine Al hH2 0 (vs:=[.slice (some ⟨gp,0,none⟩) n n]) rfl rfl (by kernel_rfl) (by first | decide | (simp;done) | (simp;omega)) (by simp [Yo]) fun w6 hH3=>?_;(try refine Qi ?_);have hH4:Heap w [] w6 [Aw gp n (Array.replicate n 0),Yj gc 114 [Mn gp n],Po gf F1]:=hH3.front 1 rfl;clear hH hH1 hH2 hH3;apply hK;clear hK;refine Am [0,1,6,11,56,57] fun K hK=>?_;apply hK;clear hK;rw [hn];refine Ar ?_;refine Au [0,1,6,11,56,57] (fun m e w'=>∃ (k:Nat) (F D:Array Int),Is e [(0,Aa L),(1,.int .i64 p0),(6,Ea gf),(11,Ea gc),(56,.int .i64 n),(57,.int .i64 k)]/\Heap w [] w' [Aw gp n D,Yj gc 114 [Mn gp n],Po gf F]/\F.size=256/\D.size=n/\k<=n/\(∀ b,b < 256->F[b]! = (Lb L b+K2 L b k:Nat))/\(∀ j,j < k->D[M6 L j]! = j)/\m=n - k) n ?_ ?_
 ·
  refine Qi ?_;exact ⟨0,F1,_,rfl,hH4,hF1,by simp,by omega,fun b hb=>by rw [hFb b hb];rfl,fun j hj=>by omega,rfl⟩
 clear hH4 hF1 hFb;rintro m e w7 ⟨k,F,D,rfl,hH,hF,hD,hk,hFk,hDk,hm⟩;refine Am [0,1,6,11,56,57,58] fun K hK=>?_;apply hK;clear hK;(repeat refine Ax ?_);refine VD (fun h=>?_) (fun h=>?_)
 ·
  refine Ab ?_
  ((repeat refine Ax ?_);refine Ar ?_)
  refine Am [0,1,6,11,12,56,57] fun K hK=>?_;apply hK;clear hK;have hb:=hb8 k;have hc:=hFk _ hb;have hpl:=Qtt L k (by omega);have hcs:=fun b=>Qjn L b k;have hps:Lb L (L.getD k 0).toNat+K2 L (L.getD k 0).toNat k=M6 L k:=rfl;rw [hps] at hc;generalize hbk:(L.getD k 0).toNat=bk at *;(repeat refine Ax ?_);refine W2 [0,1,6,11,12,56,57] 8 (by kernel_rfl) (by kernel_rfl) (by kernel_rfl) rfl fun K hK=>?_;refine Qi ?_;refine ⟨_,Aj (hH.at 1 rfl) rfl,⟨by omega,by omega⟩,?_⟩;rw [hbk];refine ⟨⟨by omega,by omega⟩,_,Qhv (hH.at 2 rfl) (by omega),?_⟩;rw [hc];refine Qi ?_;refine ⟨⟨by omega,by omega⟩,?_⟩;refine Af ?_;refine Qi ?_;refine C3 hH 0 (o:=(M6 L k)) rfl (by first | rfl | (simp;done) | (congr 1;omega)) (by first | omega | (simp;omega)) fun w6 hH1=>?_;simp only [Yd] at hH1;(try refine Qi ?_);apply hK;clear hK;refine Am [0,1,6,11,56,57] fun K hK=>?_;rw [hbk];refine ⟨⟨by omega,by omega⟩,⟨by omega,by omega⟩,_,Qhv (hH1.at 2 rfl) (by omega),?_⟩;rw [hc];refine Qi ?_;refine ⟨Y4 (by omega) (by omega),⟨by omega,by omega⟩,?_⟩;refine Af ?_;refine Qi ?_;refine Qch hH1 2 (o:=bk) rfl (by omega) fun w8 hH2=>?_;simp only [Yd,Yh] at hH2;apply hK;clear hK;refine Ao ?_;refine Am [0,1,6,11,56,57] fun K hK=>?_;(repeat refine Qo ?_);apply hK;clear hK;refine Ah ?_;refine Qi ?_;refine ⟨n - (k+1),by omega,k+1,_,_,rfl,hH2,by simp [hF],by simp [hD],by omega,fun c hc2=>?_,fun j hj=>?_,rfl⟩
  ·
   rw [O1 _ _ _ (by omega),hcs c];by_cases e:c=bk
   ·
    subst e;rw [if_pos rfl,if_pos rfl];omega
   rw [if_neg e,if_neg (Ne.symm e),hFk c hc2];simp
  rw [O1 _ _ _ (by omega)];by_cases e:j=k
  ·
   subst e;simp
  rw [if_neg (fun h2=>e (Qy7 L (by omega) (by omega) h2))];exact hDk j (by omega)
 obtain rfl:k=n:=by omega
 refine As rfl ?_;generalize k=n at *
 have hPl:D.toList.map Uf=C8 L:=Qvt L _ (by rw [hn];simpa using hD) fun i hi=>by
  have h1:=hDk i (by omega);have h2:=Qtt L i hi;rw [Wp (by omega)] at h1;rw [Yb,Y8,Ya (by simp;omega)];simp only [Option.map_some,Y9,h1,Ym]
 have hDp:∀ p,p < n->D[p]! = (((C8 L).getD p 0:Nat):Int)/\(C8 L).getD p 0 < n:=fun p hp=>by
  have hm2:(C8 L).getD p 0∈C8 L:=Dr 0 (by rw [(Nt L).length_eq,Yw];omega);have h3:=(Nt L).mem_iff.1 hm2;rw [Y3] at h3;refine ⟨?_,by omega⟩
  have h4:M6 L ((C8 L).getD p 0)=p:=by
   have hpl2:(C8 L).length=L.length:=by rw [(Nt L).length_eq,Yw]
   have hnd:(C8 L).Nodup:=by rw [(Nt L).nodup_iff];exact Xn
   obtain ⟨h5,h6⟩:=Yv.1 (Tj L _ h3);refine (Ul hnd (h₀:=h5) (h₁:=by omega)).1 ?_;rw [h6,Yb,Ya (by omega)];rfl
  have h5:=hDk ((C8 L).getD p 0) (by omega)
  rwa [h4] at h5
 clear hDk hFk hPl;generalize hP:C8 L=P at *;refine Am [0,13] fun K hK=>?_;refine A6 (.agg #[.nilFunc,.int .i64 0]) (by kernel_rfl) ?_;refine Qi ?_;have hH1:=hH.box 227 [.nilFunc,.int .i64 0];generalize w7.alloc (Yq [Value.nilFunc,.int .i64 0].toArray 227)=w8 at *;generalize w7.heap.size=gw at *;refine Af ?_;refine Qi ?_;refine Al hH1 0 (vs:=[QFn gc,.int .i64 p0]) rfl rfl (by kernel_rfl) (by first | decide | (simp;done) | (simp;omega)) (by simp [Yo]) fun w6 hH2=>?_;(try refine Qi ?_);have hH3:Heap w [] w6 [Aw gp n D,Yj gc 114 [Mn gp n],Wj gw gc p0]:=((hH2.front 1 rfl).front 2 rfl |>.front 1 rfl).sub (by simp);apply hK;clear hK;clear hH hH1 hH2;generalize w6=w9 at *;refine Am [0,13,14] fun K hK=>?_;rw [hn];refine Ev Ys Io ?_;refine Qi ?_;refine ⟨n,n,⟨rfl,rfl,by omega,by omega,by omega⟩,?_⟩;have hH1:=hH3.row 5 (n:=n) (cap:=n) (sz:=1) (Yc n (.int .u8 0)) [] (by simp) (by simp) (by omega) (by omega);rw [Yu,show Yc n (Y5 .u8 0)=An (Yc n 0) by simp [An]] at hH1;rw [show Yc n (Y5 .u8 0)=An (Yc n 0) by simp [An]];generalize w9.alloc (Yq (An (Yc n 0)).toArray 5)=w10 at *;generalize w9.heap.size=gb at *;have hH2:Heap w [] w10 [Aw gp n D,Yj gc 114 [Mn gp n],Wj gw gc p0,Yr 5 1 (some ⟨gb,0,none⟩) n n (An (Yc n 0))]:=((hH1.front 3 rfl).front 3 rfl).front 3 rfl;clear hH1 hH3;apply hK;clear hK;refine Am [0,13,14,83,84] fun K hK=>?_;apply hK;clear hK;refine Ar ?_;refine Au [0,13,14,83,84] (fun m e w'=>∃ (k q:Nat) (o:List UInt8),Is e [(0,Aa L),(13,Ea gw),(14,.slice (some ⟨gb,0,none⟩) n n),(83,.int .i64 n),(84,.int .i64 k)]/\Heap w [] w' [Aw gp n D,Yj gc 114 [Mn gp n],Wj gw gc q,Yr 5 1 (some ⟨gb,0,none⟩) n n (An o)]/\o.length=n/\q < n/\k<=n/\o.take k++Ls L P (n - k) q=Ls L P n p0/\m=n - k) n ?_ ?_
 ·
  refine Qi ?_;exact ⟨0,p0,_,rfl,hH2,by simp,by omega,by omega,by simp,rfl⟩
 clear hH2;rintro m e w11 ⟨k,q,o,rfl,hH,hol,hq,hk,hgo,hm⟩;refine Am [0,13,14,83,84,85] fun K hK=>?_;apply hK;clear hK;(repeat refine Ax ?_);refine VD (fun h=>?_) (fun h=>?_)
 ·
  obtain ⟨h1,h2⟩:=hDp q hq;generalize hq2:P.getD q 0=q2 at *;refine Ab ?_
  ((repeat refine Ax ?_);refine Ar ?_)
  refine Am [0,13,14,15,83,84] fun K hK=>?_;apply hK;clear hK;refine Am [0,13,14,83,84] fun K hK=>?_;have hc:=Qvu D gp n gc gw q q2 (by omega) h1 (by omega) w w11 [] _ (by rw [sl,hD];exact hH);rw [sl,hD] at hc;refine Ac Tryz.call170 ?_;refine Qi ?_;refine Yk hc ?_;clear hc hH;rintro v w12 ⟨hH,rfl⟩;refine Qi ?_;rw [hn];refine ⟨⟨by omega,by omega⟩,⟨by omega,by omega⟩,?_⟩;refine Af ?_;refine Qi ?_;refine Ej hH 3 (o:=(k)) (vs:=[.int .u8 (L.getD q2 0).toNat]) rfl (by first | exact (B0 _ _ _).symm | rfl | simp [B0]) rfl (by kernel_rfl) (by first | omega | (simp;done) | (simp;omega) | (simp [An,Bb];omega) | (rw [natsV_len];simp;omega)) (by simp [Yo]) fun w6 hH2=>?_;(try refine Qi ?_);simp only [Yy,Di (An o) _ _ (show k < (An o).length by rw [Pw];omega),Tt,Yd,Yh] at hH2;apply hK;clear hK;refine Ao ?_;refine Am [0,13,14,83,84] fun K hK=>?_;(repeat refine Qo ?_);apply hK;clear hK;refine Ah ?_;refine Qi ?_;refine ⟨n - (k+1),by omega,k+1,q2,o.set k (L.getD q2 0),rfl,hH2,by simp [hol],by omega,by omega,?_,rfl⟩
  have e1:(o.set k (L.getD q2 0)).take (k+1)=o.take k++[L.getD q2 0]:=by
   rw [Xb,Uq (by omega),U5 (by omega)];rfl
  obtain ⟨j,hj⟩:∃ j,n - k=j+1:=⟨n - k - 1,by omega⟩;rw [<- hgo,e1,hj,Ls,hq2,show n - (k+1)=j by omega];simp
 obtain rfl:k=n:=by omega
 refine As rfl ?_;rw [Yp (by omega),Nat.sub_self,Ls,Yu] at hgo;rw [<- hgo];refine Am [4,5] fun K hK=>?_;refine ⟨o,K4 (by rw [<- hol] at hH ⊢;exact Az (hH.at 3 rfl)),?_⟩;apply hK;clear hK;exact Ad (A7 rfl rfl rfl ⟨hH.sub (by simp),rfl⟩)
def Te:Nat->Nat->List Int
 | 0,_=>[]
 | _+1,0=>[]
 | f+1,k+1=>((k % 2:Nat):Int)::Te f (k / 2)
theorem Qjo:∀ (f g k:Nat),k<=f->k<=g->Te f k=Te g k
 | 0,g,k,h,_=>by
  have:k=0:=by omega
  subst this;cases g <;> rfl
 | f+1,0,k,_,h=>by
  have:k=0:=by omega
  subst this;rfl
 | f+1,g+1,0,_,_=>rfl
 | f+1,g+1,k+1,h,h'=>by
  simp only [Te];rw [Qjo f g (k / 2) (by omega) (by omega)]
def Fl (k:Nat):List Int:=Te k k
theorem Rd:Fl 0=[]:=rfl
theorem Z2 (k:Nat):Fl (k+1)=((k % 2:Nat):Int)::Fl (k / 2):=by
 rw [Fl,Te,Fl,Qjo k (k / 2) (k / 2) (by omega) (Xf _)]
theorem W7:∀ (f k:Nat),k<=f->(Fl k).length<=k
 | 0,k,h=>by
  have:k=0:=by omega
  subst this;simp [Rd]
 | f+1,0,_=>by simp [Rd]
 | f+1,k+1,h=>by
  have:=W7 f (k / 2) (by omega);rw [Z2,Y1];omega
theorem Qnn (k:Nat) (w:World) (hk:k<=17592186044416) :
  Does Yg 100 #[.int .i64 k] w fun v w'=>∃ a cap,Heap w [] w' [Yr 3 1 a (Fl k).length cap (Bb (Fl k))]/\v=.slice a (Fl k).length cap:=by
 refine En [.int .i64 k] 16 Tryz.func100 ?_;refine VS [0] ?_;refine VS [0,3] ?_;refine VB ?_;refine Au [0,3] (fun m e w'=>∃ (j cap:Nat) (a:Option Addr) (o:List Int),Is e [(0,.int .i64 j),(3,.slice a o.length cap)]/\Heap w [] w' [Yr 3 1 a o.length cap (Bb o)]/\j<=k/\o.length+j<=k/\Fl k=o++Fl j/\m=j) k ?_ ?_
 ·
  refine Qs ?_;exact ⟨k,0,none,[],rfl,Heap.one (r:=Yr 3 1 none 0 0 []) (Qlw 3 1 w) (by intro b hb;cases hb),by omega,by simp,rfl,rfl⟩
 rintro m e w2 ⟨j,cap,a,o,rfl,hH,h1,h2,h3,rfl⟩;refine VS [0,3,5] ?_;refine Ae rfl rfl (fun hlt=>?_) (fun hge=>?_)
 ·
  simp only [decide_eq_true_eq] at hlt;refine Ab (Ar ?_);refine VS [0,3] ?_;refine VQ [0,3] fun K hK=>?_;refine ⟨⟨by omega,by omega⟩,⟨by decide,by decide⟩,?_⟩;rw [show Uf 1=1 from rfl,Nat.and_one_is_mod];refine Kp (xs:=[.tmp 10]) Ye Lj rfl rfl rfl (by omega) ?_;refine Qs ?_;refine ⟨by simp [Xg],?_⟩;refine Cl ?_;refine Qs ?_;refine Vc hH 0 rfl Ye E2 (fun h=>by simp;omega) fun a' cap' w5 hc' hH4=>?_;apply hK;clear hK;refine VS [0,3] ?_;refine Ao (Ah ?_);refine Qs ?_;obtain ⟨j,rfl⟩:∃ j,m=j+1:=⟨m - 1,by omega⟩
  have e1:(((j+1:Nat):Int) - 1) / 2 ^ Bx Xp 1=((j / 2:Nat):Int):=by
   rw [show Bx Xp 1=1 by decide,show (((j+1:Nat):Int) - 1)=(j:Int) by omega];omega
  rw [e1];rw [Z2] at h3;exact ⟨j / 2,by omega,j / 2,cap',a',o++[((j % 2:Nat):Int)],rfl,hH4,by omega,by simp;omega,by rw [h3,Yn];rfl,rfl⟩
 simp only [decide_eq_false_iff_not] at hge;refine As rfl ?_;refine VS [2] ?_;refine Ad (A2 rfl rfl ?_);have:m=0:=by omega
 subst this;rw [Rd,Yu] at h3;rw [h3];exact ⟨a,cap,hH,rfl⟩
def IntsErr (p:List Int×Int) (w:World) (v:Value) (w':World):Prop :=
 ∃ a cap,Heap w [] w' [Yr 3 1 a p.1.length cap (Bb p.1)]/\v=.tuple #[.slice a p.1.length cap,.int .i64 p.2]
theorem IntsErr.nil {w w':World} (h:Heap w [] w' []) (e:Int):IntsErr ([],e) w (.tuple #[.slice none 0 0,.int .i64 e]) w' :=
 ⟨none,0,h.call0 (Heap.one (r:=Yr 3 1 none 0 0 []) (Qlw 3 1 w') (by intro b hb;cases hb)),rfl⟩
def Et (n:Int):List Int->Nat->List Int->List Int×Int
 | out,z,[]=>(out++Fl z++[n+1],0)
 | out,z,v::r=>if v=0 then Et n out (z+1) r else if v < 0∨n<=v then ([],60) else Et n (out++Fl z++[v+1]) 0 r
def Ig (n:Int) (l:List Int):List Int×Int:=if n < 1∨256 < n then ([],2) else Et n [] 0 l
theorem Qvw (n:Int) (l:List Int) (la:Option Addr) (lc:Nat) (hn:I64 n) (w:World) (hl:RS w la l.length 1 (Bb l)) (hs:l.length<=17592186044400) (hi:∀ v∈l,I64 v) :
  Does Yg 61 #[.int .i64 n,.slice la l.length lc] w (IntsErr (Ig n l) w):=by
 refine En [.int .i64 n,.slice la l.length lc] 68 Tryz.func61 ?_;refine VS [0,1] ?_;refine VQ [0,1,14] fun K hK=>?_
 have out:(n < 1∨256 < n)->K [(0,.int .i64 n),(1,.slice la l.length lc),(14,.bool true)] w:=by
  intro h;apply hK;clear hK;refine Ae rfl rfl (fun _=>?_) (fun h=>by cases h);refine VS [4,5] ?_;refine Ad (A7 rfl rfl rfl ?_);rw [Ig,if_pos h];exact IntsErr.nil (Yz w) 2
 refine ⟨fun h1=>?_,fun h1=>out (.inl h1)⟩;by_cases h2:256 < n
 ·
  rw [decide_eq_true h2];exact out (.inr h2)
 rw [decide_eq_false h2];clear out;apply hK;clear hK;refine Ae rfl rfl (fun h=>by cases h) (fun _=>Ab ?_);rw [Ig,if_neg (by omega)];refine VS [0,1,6] ?_;refine VS [0,1,6,7] ?_;(repeat refine Ax ?_);refine Dk [0,6] (fun e w'=>∃ (cap:Nat) (a:Option Addr) (o:List Int),Is e [(0,.int .i64 n),(6,.slice a o.length cap)]/\Heap w [] w' [Yr 3 1 a o.length cap (Bb o)]/\o.length<=l.length/\Et n [] 0 l=(o++[n+1],0)) (Ar ?_) ?_
 rotate_left
 ·
  rintro e w2 ⟨cap,a,o,rfl,hH,g1,g2⟩;refine VQ [4,5] fun K hK=>?_;(repeat first | refine Qo ?_ | refine Qp ?_);refine Kp (xs:=[.tmp 65]) Ye Lj rfl rfl rfl (by omega) ?_;refine Qs ?_;refine ⟨by simp [Xg],?_⟩;refine Cl ?_;refine Qs ?_;refine Vc hH 0 rfl Ye E2 (fun h=>by (first | omega | (simp;done) | (simp;omega))) fun a' cap' w5 hc' hH6=>?_;(try refine Qs ?_);apply hK;clear hK;refine Ad (A7 rfl rfl rfl ?_);rw [g2];exact ⟨_,_,hH6,rfl⟩
 refine Au [0,1,6,7] (fun m e w'=>∃ (i cap:Nat) (a:Option Addr) (o:List Int),Is e [(0,.int .i64 n),(1,.slice la l.length lc),(6,.slice a o.length cap),(7,.int .i64 i)]/\Heap w [] w' [Yr 3 1 a o.length cap (Bb o)]/\i<=l.length/\o.length<=i/\Et n [] 0 l=Et n o 0 (l.drop i)/\m=l.length - i) l.length ?_ ?_
 ·
  refine Qs ?_;exact ⟨0,0,none,[],rfl,Zl,by omega,by simp,rfl,rfl⟩
 rintro m e w2 ⟨i,cap,a,o,rfl,hH,g1,g2,g3,rfl⟩;refine VS [0,1,6,7,18] ?_;refine VD (fun h=>?_) (fun h=>?_)
 ·
  refine Ab ?_;refine Ar ?_;refine Vd ?_;refine VS [0,1,6,7,8] ?_;(repeat refine Ax ?_);refine Va ?_;(repeat refine Ax ?_);refine Dk [0,1,6,7,8] (fun e w'=>∃ j z:Nat,Is e [(0,.int .i64 n),(1,.slice la l.length lc),(6,.slice a o.length cap),(7,.int .i64 j),(8,.int .i64 z)]/\Is w' w2/\j<=l.length/\i<=j/\z=j - i/\Et n [] 0 l=Et n o z (l.drop j)/\(j < l.length->l.getD j 0≠0)) ?_ ?_
  ·
   refine Ar ?_;refine Au [0,1,6,7,8] (fun m e w'=>∃ (j z:Nat),Is e [(0,.int .i64 n),(1,.slice la l.length lc),(6,.slice a o.length cap),(7,.int .i64 j),(8,.int .i64 z)]/\Is w' w2/\j<=l.length/\i<=j/\z=j - i/\Et n [] 0 l=Et n o z (l.drop j)/\m=l.length - j) (l.length - i) ?_ ?_
   ·
    refine Qs ?_;exact ⟨i,0,rfl,rfl,g1,by omega,by omega,g3,rfl⟩
   rintro m e w' ⟨j,z,rfl,rfl,k1,k2,k3,k4,rfl⟩;refine VS [0,1,6,7,8,22] ?_;refine VD (fun h=>?_) (fun h=>?_)
   ·
    refine Ab ?_;refine Ar ?_;obtain ⟨p,rfl⟩:=Dt hl (by omega);have hl2:=hH.rs' hl;refine VQ [0,1,6,7,8,27] fun K hK=>?_;refine ⟨⟨by omega,by omega⟩,_,Rn hl2 (show j < l.length by omega),?_⟩;refine Qs ?_;apply hK;clear hK;have k4':=k4;rw [drop_getD 0 (by omega),Et] at k4;refine Vi (fun h=>?_) (fun h=>?_)
    ·
     simp only [decide_eq_true_eq] at h;refine As rfl ?_;refine Ah ?_;refine Qs ?_;exact ⟨j,z,rfl,rfl,k1,k2,k3,k4',fun _=>h⟩
    simp only [decide_eq_false_iff_not,Decidable.not_not] at h;rw [if_pos h] at k4;refine Ab ?_;refine VS [0,1,6,7,8] ?_;refine VS [0,1,6,7,8] ?_;refine Ao ?_;refine Ah ?_;refine Qs ?_;exact ⟨l.length - (j+1),by omega,j+1,z+1,rfl,rfl,by omega,by omega,by omega,k4,rfl⟩
   refine As rfl ?_;refine Ah ?_;refine Qs ?_;exact ⟨j,z,rfl,rfl,k1,k2,k3,k4,fun h'=>by omega⟩
  rintro e w' ⟨j,z,rfl,rfl,k1,k2,k3,k4,k5⟩;have hdl:=W7 z z (Xf _);refine VQ [0,1,6,7] fun K hK=>?_;refine Ac Tryz.call100 ?_;refine Qs ?_;refine Yk (Qnn z w' (by omega)) ?_;rintro v w2 ⟨a2,c2,hH2,rfl⟩;have hH3:=hH.call0 hH2;refine Cl ?_;refine Qs ?_;refine Qus hH3 1 rfl Ye E2 (t:=Fl z) (by simp) (Az (hH2.at 0 rfl)) (fun h=>by (first | omega | (simp;done) | (simp;omega))) fun a' cap' w5 hc' hH4=>?_;(try refine Qs ?_);apply hK;clear hK;have hol:(o++Fl z).length<=j:=by simp;omega
  refine VS [0,1,6,7,39] ?_;refine VD (fun h=>?_) (fun h=>?_)
  ·
   refine As rfl (Ah ?_);refine Qs ?_;rw [Yt (by omega),Et] at k4;exact ⟨_,_,_,rfl,hH4.sub (by simp),by omega,k4⟩
  refine Ab ?_;obtain ⟨p,rfl⟩:=Dt hl (by omega);have hl2:=hH4.rs' hl;have hc:=Rn hl2 (show j < l.length by omega);have hj:=k5 (by omega);rw [drop_getD 0 (by omega),Et,if_neg hj] at k4;have hr:=hi _ (Dr 0 (show j < l.length by omega));generalize l.getD j 0=v at *;obtain ⟨hr1,hr2⟩:=hr;refine VQ [0,1,6,7,52] fun K hK=>?_;refine ⟨⟨by omega,by omega⟩,_,hc,?_⟩;refine Qs ?_
  have out:(v < 0∨n<=v)->K [(0,.int .i64 n),(1,.slice (some p) l.length lc),(6,.slice a' (o++Fl z).length cap'),(7,.int .i64 j),(52,.bool true)] w5:=by
   intro h;apply hK;clear hK;refine Ae rfl rfl (fun _=>?_) (fun h=>by cases h);refine VS [4,5] ?_;refine Ad (A7 rfl rfl rfl ?_);rw [k4,if_pos h];exact IntsErr.nil (hH4.sub (by simp)) 60
  refine ⟨fun f1=>⟨⟨by omega,by omega⟩,_,hc,?_⟩,fun f1=>out (.inl f1)⟩;refine Qs ?_;by_cases f2:n<=v
  ·
   rw [decide_eq_true f2];exact out (.inr f2)
  rw [decide_eq_false f2];clear out;rw [if_neg (by omega)] at k4;apply hK;clear hK;refine Ae rfl rfl (fun h=>by cases h) (fun _=>Ab ?_);refine VQ [0,1,6,7] fun K hK=>?_;refine ⟨⟨by omega,by omega⟩,_,hc,?_⟩;refine Qs ?_;(repeat first | refine Qo ?_ | refine Qp ?_);refine Kp (xs:=[.tmp 58]) Ye Lj rfl rfl rfl (by omega) ?_;refine Qs ?_;refine ⟨by simp [Xg],?_⟩;refine Cl ?_;refine Qs ?_;refine Vc hH4 1 rfl Ye E2 (fun h=>by (first | omega | (simp;done) | (simp;omega))) fun a' cap' w5 hc' hH6=>?_;(try refine Qs ?_);apply hK;clear hK;refine VS [0,1,6,7] ?_;refine Ao ?_;refine Ah ?_;refine Qs ?_;exact ⟨l.length - (j+1),by omega,j+1,_,_,_,rfl,hH6.sub (by simp),by omega,by simp at hol ⊢;omega,k4,rfl⟩
 refine As rfl (Ah ?_);refine Qs ?_;rw [Yt (by omega),Et,Rd,Yu] at g3;exact ⟨_,_,_,rfl,hH,by omega,g3⟩
def Wk (n:Int) (out:List Int):List Int->List Int×Int
 | []=>(out,0)
 | x::_=>if x < 0∨n+1 < x then ([],60) else ([],70)
def I1 (n most:Int):List Int->Nat->List Int->List Int×Int
 | _,_,[]=>([],70)
 | out,wt,s::r=>if s < 0∨n+1 < s then ([],60)
  else if s < 2 then (if most - out.length < (s+1) * wt then ([],3) else I1 n most (out++Yc ((s+1) * wt).toNat 0) (2 * wt) r)
  else if s=n+1 then Wk n out r
  else if most<=out.length then ([],3) else I1 n most (out++[s - 1]) 1 r
def Kv (n most:Int) (l:List Int):List Int×Int:=if n < 1∨256 < n∨most < 0∨262144 < most then ([],2) else I1 n most [] 1 l
theorem Qno (n s:Int) (hn:I64 n) (hn2:n<=256) (hs:I64 s) (w:World):Does Yg 168 #[.int .i64 n,.int .i64 s] w fun v w'=>w'=w/\v=.int .i64 (if s < 0∨n+1 < s then 60 else 70):=by
 obtain ⟨hn1,hn3⟩:=hn;refine En [.int .i64 n,.int .i64 s] 13 Tryz.func168 ?_;refine VS [0,1] ?_;by_cases hn4:n=-9223372036854775808
 all_goals
  refine VQ [12] fun K hK=>?_
  suffices out:∀ b:Bool,(b=true ↔ s < 0∨n+1 < s)->K [(12,.bool b)] w by (repeat' (first | exact out _ _ (by first | omega | (simp;done) | (simp;omega)) | exact out _ (by first | omega | (simp;done) | (simp;omega)) | refine ⟨fun _=>?_,fun _=>?_⟩ | refine Qo ?_))
  intro b hb;apply hK;clear hK;refine Vi (fun h=>?_) (fun h=>Ab ?_)
  ·
   refine VS [4] ?_;refine Ad (A2 rfl rfl ⟨rfl,?_⟩);rw [if_pos (hb.1 h)]
  refine VS [4] ?_;refine Ad (A2 rfl rfl ⟨rfl,?_⟩);rw [if_neg (fun h'=>by rw [hb.2 h'] at h;cases h)]
theorem intsV_zero (m:Nat):Yc m (Y5 .i64 0)=Bb (Yc m 0):=by simp [Bb]
def I2 (b:UInt8):List UInt8->Nat
 | []=>0
 | c::l=>if c=b then I2 b l+1 else 0
def B8:List UInt8->Nat
 | []=>0
 | b::l=>min 255 (I2 b l+1)
def Kd (n:Nat) (l:List UInt8):List UInt8:=if n < 4 then l.take n else l.take 4++[Gj (n - 4)]
def Tf:Nat->List UInt8->List UInt8
 | 0,_=>[]
 | _,[]=>[]
 | f+1,b::l=>Kd (B8 (b::l)) (b::l)++Tf f ((b::l).drop (B8 (b::l)))
def enc (l:List UInt8):List UInt8:=Tf l.length l
theorem Qvx (b:UInt8) (l:List UInt8):∀ n,(∀ j,j < n->l[j]? = some b)->(l[n]? ≠ some b)->I2 b l=n:=by
 induction l with
 | nil =>
  intro n h1 _;cases n with
  | zero=>rfl
  | succ n=>have:=h1 0 (by omega);simp at this
 | cons c l ih =>
  intro n h1 h2;cases n with
  | zero =>
   have:¬ c=b:=by simpa using h2
   simp [I2,this]
  | succ n =>
   have:c=b:=by simpa using h1 0 (by omega)
   simp only [I2,this,if_true];rw [ih n (fun j hj=>by simpa using h1 (j+1) (by omega)) (by simpa using h2)]
theorem QEg (b:UInt8) (l:List UInt8):∀ n,(∀ j,j < n->l[j]? = some b)->n<=I2 b l:=by
 induction l with
 | nil =>
  intro n h1;cases n with
  | zero=>omega
  | succ n=>have:=h1 0 (by omega);simp at this
 | cons c l ih =>
  intro n h1;cases n with
  | zero=>omega
  | succ n =>
   have:c=b:=by simpa using h1 0 (by omega)
   simp only [I2,this,if_true];have:=ih n (fun j hj=>by simpa using h1 (j+1) (by omega));omega
theorem QEh (b:UInt8) (l:List UInt8):I2 b l<=l.length:=by
 induction l with
 | nil=>simp [I2]
 | cons c l ih=>simp only [I2];split <;> simp <;> omega
theorem Qy8 (b:UInt8) (l:List UInt8):l[I2 b l]? ≠ some b:=by
 induction l with
 | nil=>simp [I2]
 | cons c l ih =>
  simp only [I2];split
  ·
   simpa using ih
  rename_i hc;simpa using hc
def QOi (l:List UInt8) (i n:Nat):Prop:=∀ j,j < n->l[i+j]? = l[i]?
theorem Qpd (l:List UInt8) (i n:Nat) (hi:i < l.length) (h1:1<=n) (h2:n<=255) (hs:QOi l i n) (he:n=255∨l[i+n]? ≠ l[i]?):B8 (l.drop i)=n:=by
 have hd:l.drop i=l[i]::l.drop (i+1):=Y2 hi;rw [hd];simp only [B8];have hg:l[i]? = some l[i]:=Ya hi
 have hj:∀ j,j < n - 1->(l.drop (i+1))[j]? = some l[i]:=fun j hj=>by
  rw [Ug,show i+1+j=i+(j+1) by omega,hs (j+1) (by omega),hg]
 rcases he with he | he
 ·
  have:=QEg _ _ _ hj;omega
 have:=Qvx l[i] (l.drop (i+1)) (n - 1) hj (by rw [Ug,show i+1+(n - 1)=i+n by omega,<- hg];exact he);omega
theorem L7 (l:List UInt8) (h:l≠[]):1<=B8 l:=by
 cases l with
 | nil=>exact absurd rfl h
 | cons b l=>simp only [B8];omega
theorem P3 (l:List UInt8):B8 l<=l.length/\B8 l<=255:=by
 cases l with
 | nil=>simp [B8]
 | cons b l=>have:=QEh b l;simp only [B8,Y1];omega
theorem Qdy (l:List UInt8) (h:l≠[]) (f:Nat):Tf (f+1) l=Kd (B8 l) l++Tf f (l.drop (B8 l)):=by
 cases l with
 | nil=>exact absurd rfl h
 | cons b l=>rfl
theorem Qvy:∀ (f g:Nat) (l:List UInt8),l.length<=f->l.length<=g->Tf f l=Tf g l:=by
 intro f
 induction f with
 | zero =>
  intro g l hf _;have:l=[]:=Xa (by omega);subst this;cases g <;> rfl
 | succ f ih =>
  intro g l hf hg;by_cases hl:l=[]
  ·
   subst hl;cases g <;> rfl
  cases g with
  | zero=>exact absurd (Xa (by omega)) hl
  | succ g =>
   rw [Qdy l hl,Qdy l hl];have:=L7 l hl;rw [ih g _ (by simp;omega) (by simp;omega)]
theorem Re (l:List UInt8) (h:l≠[]):enc l=Kd (B8 l) l++enc (l.drop (B8 l)):=by
 have hp:0 < l.length:=Ue.2 h;have hr:=L7 l h;unfold enc;rw [show l.length=(l.length - 1)+1 by omega,Qdy l h];rw [Qvy (l.length - 1) (l.drop (B8 l)).length _ (by simp;omega) (Xf _)]
theorem Qd:enc []=[]:=rfl
theorem Ps (n:Nat) (l:List UInt8) (h:n<=l.length):(Kd n l).length=if n < 4 then n else 5:=by
 unfold Kd;split <;> simp <;> omega
theorem Qci (l:List UInt8):(enc l).length<=l.length+l.length / 4:=by
 induction hn:l.length using Nat.strongRecOn generalizing l with
 | _ n ih =>
  subst hn;by_cases hl:l=[]
  ·
   subst hl;simp [Qd]
  rw [Re l hl];have h1:=L7 l hl;have h2:=(P3 l).1;have:=ih (l.drop (B8 l)).length (by simp;omega) _ rfl;rw [Yi,Ps _ _ h2];simp only [Xv] at this;split <;> omega
theorem Qeo {l:List UInt8}{i j:Nat} (hi:i < l.length) (hj:j < l.length):(((l.getD i 0).toNat:Int)=((l.getD j 0).toNat:Int)) ↔ l[i]? = l[j]? := by
 rw [Ya hi,Ya hj,Yb,Yb,Ya hi,Ya hj];simp only [Y9,Option.some.injEq];exact ⟨fun h=>Uc.1 (by omega),fun h=>by rw [h]⟩
theorem Qpe (l:List UInt8) (i:Nat) (w:World) (hi:i < l.length) (hs:l.length<=1000000000000000000) :
  Does Yg 96 #[Aa l,.int .i64 i] w fun v w'=>w'=w/\v=.int .i64 (B8 (l.drop i)):=by
 refine En [Aa l,.int .i64 i] 30 Tryz.func96 ?_;refine VS [0,1] ?_;refine VS [0,1,5] ?_;refine VB ?_;refine Au [0,1,5] (fun m e w'=>∃ n:Nat,Is e [(0,Aa l),(1,.int .i64 i),(5,.int .i64 n)]/\Is w' w/\1<=n/\n<=255/\QOi l i n/\m=255 - n) 254 ?_ ?_
 ·
  refine Qs ?_;exact ⟨1,rfl,rfl,by omega,by omega,fun j hj=>by rw [show j=0 by omega];rfl,rfl⟩
 rintro m e w' ⟨n,rfl,rfl,h1,h2,h3,rfl⟩;refine Vq [0,1,5,26] fun K hK=>?_
 have done:(n=255∨l[i+n]? ≠ l[i]?)->K [(0,Aa l),(1,Y5 Xp i),(5,Y5 Xp n),(26,Value.bool false)]:=by
  intro hend;apply hK;clear hK;refine Ae rfl rfl (fun h=>by cases h) (fun _=>?_);refine As rfl ?_;refine VS [4] ?_;refine Ad (A2 rfl rfl ⟨rfl,?_⟩);rw [Qpd l i n hi h1 h2 h3 hend]
 refine ⟨fun g1=>⟨Y4 (by omega) (by omega),fun g2=>⟨Y4 (by omega) (by omega),by omega,by omega,?_⟩,fun g2=>done (.inr ?_)⟩,fun g1=>done (.inl (by omega))⟩
 ·
  by_cases hc:l[i+n]? = l[i]?
  ·
   (apply hK;clear hK)
   refine Vi (fun h=>?_) (fun h=>?_)
   ·
    refine Ab (Ar ?_);refine VS [0,1,5] ?_;refine Ao (Ah ?_);refine Qs ?_;refine ⟨255 - (n+1),by omega,n+1,rfl,rfl,by omega,by omega,?_,rfl⟩;intro j hj;by_cases hjn:j=n
    ·
     rw [hjn];exact hc
    exact h3 j (by omega)
   exfalso;simp only [decide_eq_false_iff_not] at h;rw [Qeo (by omega) hi] at h;exact h hc
  have e:decide ((((l.getD (i+n) 0).toNat:Nat):Int)=(((l.getD i 0).toNat:Nat):Int))=false:=by
   rw [decide_eq_false_iff_not,Qeo (by omega) hi];exact hc
  rw [e];exact done (.inr hc)
 rw [Xk (by omega),Ya hi];simp
theorem Qy9 (l:List UInt8) (w:World) (hs:l.length<=140737488355328) :
  Does Yg 57 #[Aa l] w fun v w'=>Heap w [] w' []/\v=Aa (enc l):=by
 refine En [Aa l] 48 Tryz.func57 ?_;refine VS [0] ?_;refine VQ [0,3] fun K hK=>?_;refine ⟨by omega,by omega,Y4 (by omega) (by omega),Y4 (by omega) (by omega),?_⟩;refine Ev Ys Io ?_;refine Qs ?_;refine ⟨0,l.length+l.length / 4,⟨rfl,rfl,by omega,by omega,by omega⟩,?_⟩;have hH:=(Yz w).row 5 (n:=0) (cap:=l.length+l.length / 4) (sz:=1) [] (Yc (l.length+l.length / 4) (.int .u8 0)) (by simp) (by simp) (by omega) (by omega);simp only [Yl] at hH;generalize w.alloc (Yq (Yc (l.length+l.length / 4) (Y5 IntKind.u8 0)).toArray 5)=w1 at hH ⊢;generalize (some ⟨w.heap.size,0,none⟩:Option Addr)=a at hH ⊢;apply hK;clear hK;refine VS [0,3,4] ?_;refine VB ?_;refine Au [0,3,4] (fun m e w'=>∃ (i:Nat) (o:List UInt8),Is e [(0,Aa l),(3,.slice a o.length (l.length+l.length / 4)),(4,.int .i64 i)]/\Heap w [] w' [Yr 5 1 a o.length (l.length+l.length / 4) (An o)]/\i<=l.length/\enc l=o++enc (l.drop i)/\o.length<=i+i / 4/\m=l.length - i) l.length ?_ ?_
 ·
  refine Qs ?_;exact ⟨0,[],rfl,hH,by omega,rfl,by simp,rfl⟩
 rintro m e w2 ⟨i,o,rfl,hH,h1,h2,h3,rfl⟩;refine VS [0,3,4,16] ?_;refine Ae rfl rfl (fun hlt=>?_) (fun hge=>?_)
 ·
  simp only [decide_eq_true_eq] at hlt;refine Ab (Ar ?_);have hn1:1<=B8 (l.drop i):=L7 _ (by intro h;have:=congrArg Uj h;simp at this;omega);have hn2:=P3 (l.drop i);rw [Xv] at hn2;have hstep:=Re (l.drop i) (by intro h;have:=congrArg Uj h;simp at this;omega);rw [List.drop_drop] at hstep;refine VQ [0,3,4,5] fun K hK=>?_;refine Ac Tryz.call96 ?_;refine Qs ?_;refine Yk (Qpe l i w2 (by omega) (by omega)) ?_;rintro v w' ⟨rfl,rfl⟩;apply hK;clear hK;generalize hn:B8 (l.drop i)=n at hn1 hn2 hstep ⊢;refine VS [0,3,4,5,21] ?_;refine Dk [0,3,4,5] (fun e w3=>Is e [(0,Aa l),(3,.slice a (o++Kd n (l.drop i)).length (l.length+l.length / 4)),(4,.int .i64 i),(5,.int .i64 n)]/\Heap w [] w3 [Yr 5 1 a (o++Kd n (l.drop i)).length (l.length+l.length / 4) (An (o++Kd n (l.drop i)))]) ?_ ?_
  ·
   refine Ae rfl rfl (fun hn4=>?_) (fun hn4=>?_)
   ·
    simp only [decide_eq_true_eq] at hn4;refine VQ [0,3,4,5] fun K hK=>?_;refine ⟨Y4 (by omega) (by omega),by omega,?_⟩;refine Cl ?_;refine Qs ?_
    have e:Kd n (l.drop i)=List.take (i+n - i) (List.drop i l):=by
     rw [Kd,if_pos (by omega)];congr 1;omega
    rw [<- e]
    have el:(o++Kd n (l.drop i)).length<=l.length+l.length / 4:=by
     rw [Yi,Ps _ _ (by simp;omega),if_pos (by omega)];omega
    refine Qhk hH 0 rfl Ys Io Tryz.underlying9 (fun h=>by omega) fun a' cap' w' hc hH=>?_;obtain ⟨rfl,rfl⟩:=hc el;apply hK;clear hK;refine Ah ?_;refine Qs ?_;exact ⟨rfl,hH⟩
   simp only [decide_eq_false_iff_not] at hn4
   have e:Kd n (l.drop i)=List.take (i+4 - i) (List.drop i l)++[Gj (n - 4)]:=by
    rw [Kd,if_neg (by omega)];congr 2;omega
   have el:(o++Kd n (l.drop i)).length<=l.length+l.length / 4:=by
    rw [Yi,Ps _ _ (by simp;omega),if_neg (by omega)];omega
   rw [e,<- Yn] at el ⊢;generalize ht:List.take (i+4 - i) (List.drop i l)=t at el ⊢;have el2:(o++t).length<=l.length+l.length / 4:=by simp at el ⊢;omega
   refine VQ [0,3,4,5] fun K hK=>?_;refine ⟨Y4 (by omega) (by omega),by omega,?_⟩;refine Cl ?_;refine Qs ?_;rw [ht];refine Qhk hH 0 rfl Ys Io Tryz.underlying9 (fun h=>by omega) fun a' cap' w' hc hH=>?_;obtain ⟨rfl,rfl⟩:=hc el2;apply hK;clear hK;refine VQ [0,3,4,5] fun K hK=>?_;refine ⟨Y4 (by omega) (by omega),?_⟩;refine Kp (xs:=[.tmp 40]) Ys Fj rfl rfl rfl (by omega) ?_;refine Qs ?_;refine ⟨by simp [Xg],?_⟩;refine Cl ?_;refine Qs ?_;refine Sn hH 0 (Gj (n - 4)) rfl Ys Io (by simp;omega) (fun h=>by omega) fun a' cap' w' hc hH=>?_;obtain ⟨rfl,rfl⟩:=hc el;apply hK;clear hK;refine Ah ?_;refine Qs ?_;exact ⟨rfl,hH⟩
  rintro e w3 ⟨rfl,hH⟩;refine VS [0,3,4] ?_;refine Ao (Ah ?_);refine Qs ?_;refine ⟨l.length - (i+n),by omega,i+n,o++Kd n (l.drop i),rfl,hH,by omega,?_,?_,rfl⟩
  ·
   rw [h2,hstep,Yn]
  rw [Yi,Ps _ _ (by simp;omega)];split <;> omega
 simp only [decide_eq_false_iff_not] at hge;refine As rfl ?_;refine VQ [2] fun K hK=>?_;refine ⟨o,hH.readsBytes 0 rfl,?_⟩;apply hK;clear hK;refine Ad (A2 rfl rfl ⟨hH.sub (by simp),?_⟩);rw [h2,Yt (by omega),Qd,Yu]
def C6:List UInt8->Nat->List UInt8->List UInt8×Int
 | out,same,[]=>if same=4 then ([],30) else (out,0)
 | out,same,c::s =>
  if same=4 then (if 262144 < out.length+c.toNat then ([],3) else C6 (out++Yc c.toNat (out.getLastD 0)) 0 s)
  else if out.length=262144 then ([],3) else C6 (out++[c]) (if 0 < same/\out.getLastD 0=c then same+1 else 1) s
def Tail (out:List UInt8) (k:Nat):Prop:=k<=out.length/\∀ j,j < k->out[out.length - 1 - j]? = some (out.getLastD 0)
theorem Tail.zero (out:List UInt8):Tail out 0:=⟨Nat.zero_le _,fun j hj=>by omega⟩
theorem Tail.one (out:List UInt8) (c:UInt8):Tail (out++[c]) 1:=⟨by simp,fun j hj=>by rw [show j=0 by omega];simp [Ui]⟩
theorem Tail.succ {out:List UInt8}{k:Nat}{c:UInt8} (h:Tail out k) (hc:out.getLastD 0=c):Tail (out++[c]) (k+1):=by
 refine ⟨by have:=h.1;simp;omega,fun j hj=>?_⟩;have e:(out++[c]).getLastD 0=c:=by simp [Ui]
 rw [e];cases j with
 | zero=>simp
 | succ j =>
  have h1:=h.2 j (by omega);have hk:=h.1;rw [Xl (by simp;omega)];rw [show (out++[c]).length - 1 - (j+1)=out.length - 1 - j by simp;omega,h1,hc]
theorem Tail.drop {out:List UInt8}{k:Nat} (h:Tail out k):out.drop (out.length - k)=Yc k (out.getLastD 0):=by
 apply Ga;intro j;rw [Ug,List.getElem?_replicate];split
 ·
  rename_i hj;have:=h.2 (k - 1 - j) (by omega);have hk:=h.1;rw [show out.length - k+j=out.length - 1 - (k - 1 - j) by omega,this]
 rename_i hj;have hk:=h.1;rw [Xk (by omega)]
theorem Qvz (out:List UInt8) (same:Nat) (c:UInt8) (s:List UInt8):C6 out same (c::s) =
  if same=4 then (if 262144 < out.length+c.toNat then ([],3) else C6 (out++Yc c.toNat (out.getLastD 0)) 0 s)
  else if out.length=262144 then ([],3) else C6 (out++[c]) (if 0 < same/\out.getLastD 0=c then same+1 else 1) s:=rfl
def QAk (w:World) (l:List UInt8) (m:Nat) (e:Env) (w':World):Prop :=
 ∃ (i same cap:Nat) (a:Option Addr) (out:List UInt8),Is e [(0,Aa l),(4,.slice a out.length cap),(5,.int .i64 same),(6,.int .i64 i)]/\Heap w [] w' [Yr 5 1 a out.length cap (An out)]/\i<=l.length/\out.length<=262144/\same<=4/\Tail out same/\C6 [] 0 l=C6 out same (l.drop i)/\m=l.length - i
theorem QEi (m c k:Nat) (b:UInt8) (hk:m+k<=c) (ms:List UInt8) (hm:ms.length=c) (hp:ms.take m=Yc m b) :
  (ms.take m++Yc k b++ms.drop (m+k)).length=c/\(ms.take m++Yc k b++ms.drop (m+k)).take (m+k)=Yc (m+k) b:=by
 refine ⟨by simp;omega,?_⟩;rw [hp,X5,List.take_left' (by simp)]
theorem bytesV_take (l:List UInt8) (k:Nat):(An l).take k=An (l.take k):=by simp [An]
theorem bytesV_drop (l:List UInt8) (k:Nat):(An l).drop k=An (l.drop k):=by simp [An]
theorem bytesV_zero (n:Nat):Yc n (Y5 .u8 0)=An (Yc n 0):=by simp [An]
theorem bytesV_get {l:List UInt8}{i:Nat} (h:i < l.length):(An l)[i]? = some (.int .u8 (l.getD i 0).toNat):=by
 simp [An,Ya h,Yb]
theorem Qza (l:List UInt8) (w:World) (hs:l.length<=140737488355328) :
  Does Yg 130 #[Aa l] w fun v w'=>Heap w [] w' []/\v=.tuple #[Aa (C6 [] 0 l).1,.int .i64 (C6 [] 0 l).2]:=by
 refine En [Aa l] 78 Tryz.func130 ?_;refine VS [0] ?_;(repeat refine Ax ?_);refine Vd ?_;refine VQ [0,4] fun K hK=>?_;refine Kp (xs:=[]) Ys Fj rfl rfl rfl (by omega) ?_;refine Qs ?_;refine ⟨by simp,?_⟩;have hH:=(Yz w).row 5 (n:=0) (cap:=0) (sz:=1) [] [] rfl rfl (by omega) (by omega);simp only [Yu] at hH;generalize w.alloc (Yq (List.toArray []) 5)=w1 at hH ⊢;generalize (some ⟨w.heap.size,0,none⟩:Option Addr)=a at hH ⊢;apply hK;clear hK;refine VS [0,4,5] ?_;refine Ax (Va ?_);refine VS [0,4,5,6] ?_;refine VB ?_;refine Au [0,4,5,6] (QAk w l) l.length ?_ ?_
 ·
  simp only [Vx,Vn,Vy,Vo,↓reduceIte,reduceEqDiff];exact ⟨0,0,0,a,[],rfl,hH,by omega,by simp,by omega,Tail.zero _,rfl,rfl⟩
 clear hH;rintro m e w2 ⟨i,same,cap,a,out,rfl,hH,h1,h2,h3,h4,h5,rfl⟩;refine VS [0,4,5,6,13] ?_;refine Ae rfl rfl (fun hlt=>?_) (fun hge=>?_)
 ·
  simp only [decide_eq_true_eq] at hlt;have hlt':i < l.length:=by omega
  have hdrop:l.drop i=l.getD i 0::l.drop (i+1):=by
   rw [Y2 hlt',Yb,Ya hlt'];rfl
  rw [hdrop,Qvz] at h5;have hc255:=(l.getD i 0).toNat_lt
  have fin:∀ (same':Nat) (cap':Nat) (a':Option Addr) (out':List UInt8) (w3:World) (k:List It),Heap w [] w3 [Yr 5 1 a' out'.length cap' (An out')]->out'.length<=262144->same'<=4->Tail out' same'->C6 [] 0 l=C6 out' same' (l.drop (i+1)) ->
    D9 [0,4,5,6] [(0,Aa l),(4,.slice a' out'.length cap'),(5,.int .i64 same'),(6,.int .i64 (↑i+1))] fun e=>∃ m,m < l.length - i/\QAk w l m e w3:=by
   intro same' cap' a' out' w3 k g1 g2 g3 g4 g5;simp only [Vx,Vn,Vy,Vo,↓reduceIte,reduceEqDiff];exact ⟨l.length - (i+1),by omega,i+1,same',cap',a',out',rfl,g1,by omega,g2,g3,g4,g5,rfl⟩
  refine Ab ?_;refine VB ?_;by_cases hsame:same=4
  ·
   subst hsame;rw [if_pos rfl] at h5;refine VS [0,4,5,6,17] ?_;refine Ae rfl rfl (fun _=>?_) (fun h=>absurd h (by simp));refine VQ [0,4,5,6,25] fun K hK=>?_;refine ⟨by omega,Y4 (by omega) (by omega),Y4 (by omega) (by omega),?_⟩;apply hK;clear hK;generalize hc:l.getD i 0=c at h5 hc255 ⊢;by_cases hbig:262144 < out.length+c.toNat
   ·
    rw [if_pos hbig] at h5;refine Ae rfl rfl (fun _=>?_) (fun h=>?_)
    ·
     refine VS [2,3] ?_;refine Ad (A7 rfl rfl rfl ⟨hH.sub (by simp),?_⟩);rw [h5]
    simp only [decide_eq_false_iff_not] at h;omega
   rw [if_neg hbig] at h5;refine Ae rfl rfl (fun h=>?_) (fun _=>?_)
   ·
    simp only [decide_eq_true_eq] at h;omega
   refine Ab ?_;have h4':=h4.1;obtain ⟨g,rfl⟩:=Ir (hH.at 0 rfl) (by omega);refine VQ [0,4,6,7] fun K hK=>?_;rw [hc];refine ⟨by omega,Y4 (by omega) (by omega),?_⟩;refine Ev Ys Io ?_;refine Qs ?_;refine ⟨c.toNat,c.toNat,⟨rfl,rfl,by omega,by omega,by omega⟩,?_⟩;have hH2:=hH.row 5 (n:=c.toNat) (cap:=c.toNat) (sz:=1) (Yc c.toNat (.int .u8 0)) [] (by simp) (by simp) (by omega) (by omega);rw [Yu,bytesV_zero] at hH2;rw [bytesV_zero];generalize w2.alloc (Yq (An (Yc c.toNat 0)).toArray 5)=w3 at hH2 ⊢;generalize hg2:w2.heap.size=g2 at hH2 ⊢;apply hK;clear hK;refine VS [0,4,6,7,8] ?_;generalize hb:out.getLastD 0=b at h5;(repeat refine Ax ?_);refine Dk [0,4,6,7] (fun e w'=>Is e [(0,Aa l),(4,.slice (some ⟨g,0,none⟩) out.length cap),(6,.int .i64 i),(7,.slice (some ⟨g2,0,none⟩) c.toNat c.toNat)]/\Heap w [] w' [Yr 5 1 (some ⟨g2,0,none⟩) c.toNat c.toNat (An (Yc c.toNat b)),Yr 5 1 (some ⟨g,0,none⟩) out.length cap (An out)]) ?_ ?_
   ·
    refine Ar ?_;refine Au [0,4,6,7,8] (fun m e w'=>∃ (n:Nat) (ms:List UInt8),Is e [(0,Aa l),(4,.slice (some ⟨g,0,none⟩) out.length cap),(6,.int .i64 i),(7,.slice (some ⟨g2,0,none⟩) c.toNat c.toNat),(8,.int .i64 n)]/\Heap w [] w' [Yr 5 1 (some ⟨g2,0,none⟩) c.toNat c.toNat (An ms),Yr 5 1 (some ⟨g,0,none⟩) out.length cap (An out)]/\n<=c.toNat/\ms.length=c.toNat/\ms.take n=Yc n b/\m=c.toNat - n) c.toNat ?_ ?_
    ·
     simp only [Vx,Vn,Vy,Vo,↓reduceIte,reduceEqDiff];exact ⟨0,Yc c.toNat 0,rfl,hH2,by omega,by simp,rfl,rfl⟩
    rintro m e w4 ⟨n,ms,rfl,hH3,k1,k2,k3,rfl⟩;refine VS [0,4,6,7,8,34] ?_;refine Ae rfl rfl (fun hn=>?_) (fun hn=>?_)
    ·
     simp only [decide_eq_true_eq] at hn;refine Ab ?_;(repeat refine Ax ?_);refine Ar (Ab (Ao ?_));have hcap:=(QB1 (hH3.at 1 rfl)).1;refine VH (holes [g2] w4) (Ext.hole _ _) [0,4,6,7,8] [(0,true),(1,true),(2,true),(3,true),(4,true),(5,true),(6,true),(7,true),(8,true),(9,false),(10,false),(11,false)] fun K hK=>?_;refine ⟨by omega,Y4 (by omega) (by omega),by omega,?_⟩;refine Qdn ?_;refine Qs ?_;rw [if_neg (show ¬ c.toNat=n by omega),if_neg (show ¬ cap=out.length - 4 by omega)];simp only [Option.map_some];have hsrc:=(Az (hH3.at 1 rfl)).drop rfl (out.length - 4) (by omega);rw [Nat.mul_one,bytesV_drop,Tail.drop h4,hb,show out.length - (out.length - 4)=4 by omega] at hsrc;rw [show out.length - (out.length - 4)=4 by omega];refine Tz hH3 0 rfl Ys Fj (off:=n) rfl ⟨rfl,hsrc,5,Ys⟩ (Ty _) (by rw [Pw,k2];omega) fun w5 hu hH4=>?_;refine Qs ?_;have hkk:min 4 (c.toNat - n)<=c.toNat - n:=Nat.min_le_right _ _;have hkk0:0 < min 4 (c.toNat - n):=by omega
     have hk4:min 4 (c.toNat - n)<=4:=Nat.min_le_left _ _;generalize min 4 (c.toNat - n)=kk at hH4 hkk hkk0 hk4 ⊢;refine ⟨hu.extH,Y4 (by omega) (by omega),?_⟩;apply hK;clear hK;refine Ah ?_;simp only [Vx,Vn,Vy,Vo,↓reduceIte,reduceEqDiff]
     have hset:(An ms).take n++(An (Yc 4 b)).take (kk * 1)++(An ms).drop (n+kk * 1)=An (ms.take n++Yc kk b++ms.drop (n+kk)):=by
      rw [Nat.mul_one,bytesV_take,bytesV_take,bytesV_drop,List.take_replicate,Nat.min_eq_left hk4,Q4,Q4]
     rw [hset] at hH4;obtain ⟨r1,r2⟩:=QEi n c.toNat kk b (by omega) ms k2 k3;exact ⟨c.toNat - (n+kk),by omega,n+kk,_,rfl,hH4,by omega,r1,r2,rfl⟩
    simp only [decide_eq_false_iff_not] at hn;refine As rfl ?_;refine Ah ?_;refine Qs ?_;refine ⟨rfl,?_⟩
    have hms:ms=Yc c.toNat b:=by
     rw [<- Yp (show ms.length<=n by omega),k3];congr 1;omega
    rw [hms] at hH3;exact hH3
   rintro e w4 ⟨rfl,hH3⟩;refine VQ [0,4,6] fun K hK=>?_;refine Cl ?_;refine Qs ?_;refine Qqk hH3 1 rfl Ys Io (t:=Yc c.toNat b) (by simp) (by simpa using Az (hH3.at 0 rfl)) (fun h=>by simp;omega) fun a' cap' w5 hc' hH4=>?_;apply hK;clear hK;refine VS [0,4,5,6] ?_;refine As rfl ?_;refine VS [0,4,5,6] ?_;refine Ah ?_;exact fin 0 cap' a' _ w5 [] (hH4.sub (by simp)) (by simp;omega) (by omega) (Tail.zero _) h5
  rw [if_neg hsame] at h5;generalize hsm:(if 0 < same/\out.getLastD 0=l.getD i 0 then same+1 else 1)=same' at h5
  have hsame':same'<=4/\Tail (out++[l.getD i 0]) same':=by
   rw [<- hsm];split
   ·
    rename_i h;exact ⟨by omega,Tail.succ h4 h.2⟩
   exact ⟨by omega,Tail.one _ _⟩
  refine VS [0,4,5,6,17] ?_;refine Ae rfl rfl (fun h=>absurd h (by simp;omega)) (fun _=>?_);refine Ab ?_;refine Ax (Dk [0,4,5,6] (fun e w'=>Is e [(0,Aa l),(4,.slice a out.length cap),(5,.int .i64 same'),(6,.int .i64 i)]/\Is w' w2) ?_ ?_)
  ·
   have yes:0 < same/\out.getLastD 0=l.getD i 0->VC ⟨Yg,Tryz.f130,fun v w'=>Heap w [] w' []/\v=.tuple #[Aa (C6 [] 0 l).1,.int .i64 (C6 [] 0 l).2],78⟩ [] [] w2->True:=fun _ _=>trivial;clear yes;by_cases hs0:0 < same
   ·
    have h4':=h4.1;obtain ⟨g,rfl⟩:=Ir (hH.at 0 rfl) (by omega)
    have hcell:w2.cell? ⟨g,out.length - 1,none⟩=some (.int .u8 (out.getLastD 0).toNat):=by
     refine Cn (hH.at 0 rfl) ?_;have h1':=h4.2 0 hs0;simp only [An,Y8];rw [show out.length - 1=out.length - 1 - 0 by omega,h1'];rfl
    refine Vq [0,4,5,6,62] fun K hK=>?_;refine ⟨fun _=>⟨by omega,Y4 (by omega) (by omega),by omega,_,hcell,?_⟩,fun h=>absurd (show (0:Int) < same by omega) h⟩;refine Qs ?_;apply hK;clear hK;refine VD (fun h=>?_) (fun h=>?_)
    ·
     have hl:out.getLastD 0=l.getD i 0:=(Uc.1 (by omega));rw [if_pos ⟨hs0,hl⟩] at hsm;subst hsm;refine VS [0,4,5,6] ?_;refine Ah ?_;refine Qs ?_;exact ⟨rfl,rfl⟩
    have hl:¬ out.getLastD 0=l.getD i 0:=fun h'=>h (by rw [h']);rw [if_neg (fun h=>hl h.2)] at hsm;subst hsm;refine VS [0,4,5,6] ?_;refine Ah ?_;refine Qs ?_;exact ⟨rfl,rfl⟩
   have:same=0:=by omega
   subst this;rw [if_neg (by omega)] at hsm;subst hsm;refine Vq [0,4,5,6,62] fun K hK=>?_;refine ⟨fun h=>absurd h (by omega),fun _=>?_⟩;apply hK;clear hK;refine Ae rfl rfl (fun h=>by cases h) (fun _=>?_);refine VS [0,4,5,6] ?_;refine Ah ?_;refine Qs ?_;exact ⟨rfl,rfl⟩
  rintro e w3 ⟨rfl,rfl⟩;refine VS [0,4,5,6,67] ?_;by_cases hfull:out.length=262144
  ·
   rw [if_pos hfull] at h5;refine Ae rfl rfl (fun _=>?_) (fun h=>absurd h (by simp;omega));refine VS [2,3] ?_;refine Ad (A7 rfl rfl rfl ⟨hH.sub (by simp),?_⟩);rw [h5]
  rw [if_neg hfull] at h5;refine Ae rfl rfl (fun h=>absurd h (by simp;omega)) (fun _=>?_);refine Ab ?_;refine VQ [0,4,5,6] fun K hK=>?_;refine ⟨by omega,?_⟩;refine Kp (xs:=[.tmp 71]) Ys Fj rfl rfl rfl (by omega) ?_;refine Qs ?_;refine ⟨by simp [Xg],?_⟩;refine Cl ?_;refine Qs ?_;refine Sn hH 0 (l.getD i 0) rfl Ys Io rfl (fun h=>by simp;omega) fun a' cap' w5 hc' hH4=>?_;apply hK;clear hK;refine Ao ?_;refine VS [0,4,5,6] ?_;refine Ah ?_;exact fin same' cap' a' _ w5 [] hH4 (by simp;omega) hsame'.1 hsame'.2 h5
 simp only [decide_eq_false_iff_not] at hge;rw [Yt (by omega)] at h5;refine As rfl ?_;refine VS [4,75,5] ?_;by_cases hsame:same=4
 ·
  subst hsame;refine Ae rfl rfl (fun _=>?_) (fun h=>absurd h (by simp));refine VS [2,3] ?_;refine Ad (A7 rfl rfl rfl ⟨hH.sub (by simp),?_⟩);rw [h5];rfl
 refine Ae rfl rfl (fun h=>absurd h (by simp;omega)) (fun _=>?_);refine Ab ?_;refine VQ [2,3] fun K hK=>?_;refine ⟨out,hH.readsBytes 0 rfl,?_⟩;apply hK;clear hK;refine Ad (A7 rfl rfl rfl ⟨hH.sub (by simp),?_⟩);rw [h5];simp [C6,hsame]
def Fu (n:Nat):Nat:=if n<=3 then n else 5
def Tg:Nat->List UInt8->Int->Nat
 | 0,_,_=>0
 | _+1,[],_=>0
 | f+1,x::l,left =>
  if left < (Fu (B8 (x::l)):Int) then (max 0 (min left 3)).toNat
  else B8 (x::l)+Tg f ((x::l).drop (B8 (x::l))) (left - (Fu (B8 (x::l)):Int))
theorem Qv0 (f:Nat):∀ (g:Nat) (l:List UInt8) (left:Int),l.length<=f->l.length<=g->Tg f l left=Tg g l left:=by
 induction f with
 | zero =>
  intro g l left h1 h2;have:l=[]:=Xa (by omega);subst this;cases g <;> rfl
 | succ f ih =>
  intro g l left h1 h2;cases l with
  | nil=>cases g <;> rfl
  | cons x l =>
   cases g with
   | zero=>simp at h2
   | succ g =>
    have hp:=L7 (x::l) (by simp);simp only [Tg];simp only [Y1] at h1 h2;rw [ih g ((x::l).drop (B8 (x::l))) _ (by simp;omega) (by simp;omega)]
def Db (l:List UInt8) (left:Int):Nat:=Tg l.length l left
theorem Ql6 (left:Int):Db [] left=0:=rfl
theorem Qhw (l:List UInt8) (left:Int) (h:l≠[]) :
  Db l left=if left < (Fu (B8 l):Int) then (max 0 (min left 3)).toNat else B8 l+Db (l.drop (B8 l)) (left - (Fu (B8 l):Int)):=by
 cases l with
 | nil=>exact absurd rfl h
 | cons x l =>
  have hp:=L7 (x::l) (by simp);rw [Db,Y1,Tg];rw [Qv0 l.length ((x::l).drop (B8 (x::l))).length ((x::l).drop (B8 (x::l))) _ (by simp;omega) (Xf _)];rfl
theorem Qzb (l:List UInt8) (most:Int) (hm:I64 most) (w:World) (hs:l.length<=140737488355328) :
  Does Yg 56 #[Aa l,.int .i64 most] w fun v w'=>w'=w/\v=.int .i64 (Db l most):=by
 refine En [Aa l,.int .i64 most] 40 Tryz.func56 ?_;have hm1:=hm.1;have hm2:=hm.2;refine VS [0,1] ?_;refine VS [0,1,5] ?_;refine VS [0,1,5,6] ?_;refine VB ?_;refine Au [0,1,5,6] (fun m e w'=>∃ (i:Nat) (used:Int),Is e [(0,Aa l),(1,.int .i64 most),(5,.int .i64 used),(6,.int .i64 i)]/\Is w' w/\i<=l.length/\0<=used/\used<=2 * i/\(used=0∨used<=most)/\Db l most=i+Db (l.drop i) (most - used)/\m=l.length - i) l.length ?_ ?_
 ·
  refine Qs ?_;exact ⟨0,0,rfl,rfl,by omega,by omega,by omega,.inl rfl,by simp,by omega⟩
 rintro m e w' ⟨i,used,rfl,rfl,g1,g2,g3,g4,g5,rfl⟩;refine VS [0,1,5,6,12] ?_;refine Ae rfl rfl (fun hlt=>?_) (fun hge=>?_)
 ·
  simp only [decide_eq_true_eq] at hlt;refine Ab (Ar ?_);have hne:l.drop i≠[]:=by intro h;have:=congrArg Uj h;simp at this;omega
  have hp:=L7 _ hne;have hle:=P3 (l.drop i);simp only [Xv] at hle;have hst:=Qhw (l.drop i) (most - used) hne;generalize hn:B8 (l.drop i)=n at hp hle hst;have hc0:(Fu n:Int)<=2 * n:=by simp only [Fu];split <;> omega
  have hc1:0<=(Fu n:Int):=by omega
  refine VQ [0,1,5,6,7] fun K hK=>?_;refine Ac Tryz.call96 ?_;refine Qs ?_;refine Yk (Qpe l i w' (by omega) (by omega)) ?_;rintro v w2 ⟨rfl,rfl⟩;rw [hn];apply hK;clear hK;refine VS [0,1,5,6,7,8] ?_;refine VS [0,1,5,6,7,8,19] ?_;refine Dk [0,1,5,6,7,8] (fun e w3=>Is e [(0,Aa l),(1,.int .i64 most),(5,.int .i64 used),(6,.int .i64 i),(7,.int .i64 n),(8,.int .i64 (Fu n:Nat))]/\Is w3 w2) ?_ ?_
  ·
   refine Ae rfl rfl (fun hn4=>?_) (fun hn4=>?_)
   ·
    simp only [decide_eq_true_eq] at hn4;refine VS [0,1,5,6,7,8] ?_;refine Ah ?_;refine Qs ?_;exact ⟨by rw [Fu,if_neg (by omega)];rfl,rfl⟩
   simp only [decide_eq_false_iff_not] at hn4;refine Ab (Ah ?_);refine Qs ?_;exact ⟨by rw [Fu,if_pos (by omega),Int.min_eq_left (by omega)];rfl,rfl⟩
  rintro e w3 ⟨rfl,rfl⟩;refine VS [0,1,5,6,7,8,24] ?_;refine Ae rfl rfl (fun hc=>?_) (fun hc=>?_)
  ·
   simp only [decide_eq_true_eq] at hc;refine VS [4] ?_;refine Ad (A2 rfl rfl ⟨rfl,?_⟩);rw [g5,hst,if_pos (by omega)];have:((i+(max 0 (min (most - used) 3)).toNat:Nat):Int)=i+max 0 (min (most - used) 3):=by omega
   rw [this]
  simp only [decide_eq_false_iff_not] at hc;refine Ab ?_;refine VS [0,1,5,6,7] ?_;refine VS [0,1,5,6] ?_;refine Ao (Ah ?_);refine Qs ?_;refine ⟨l.length - (i+n),by omega,i+n,used+Fu n,rfl,rfl,by omega,by omega,by omega,.inr (by omega),?_,rfl⟩;rw [g5,hst,if_neg (by omega),List.drop_drop];have e1:most - used - (Fu n:Int)=most - (used+(Fu n:Int)):=by omega
  rw [e1];omega
 simp only [decide_eq_false_iff_not] at hge;refine As rfl ?_;refine VS [4] ?_;refine Ad (A2 rfl rfl ⟨rfl,?_⟩);have:i=l.length:=by omega
 rw [g5,this];simp [Ql6]
theorem Qzc {l:List Nat}{n i:Nat} (h:i∈If l n):i < l.length:=(Zw.1 h).1
theorem Qv1 (l:List Nat):∀ (r:List Bool) (n code:Nat) (q:Nat×Nat),Eo l r n code=.ok q->q.1 < l.length/\n < q.2/\q.2<=n+r.length:=by
 intro r
 induction r with
 | nil=>intro n code q h;simp [Eo] at h
 | cons b r ih =>
  intro n code q h;rw [Eo] at h;split at h
  ·
   rename_i hc;cases h;refine ⟨?_,by simp,by simp⟩;have hlt:2 * code+b.toNat - Bw l (n+1) < (If l (n+1)).length:=by unfold B6 at hc;omega
   have:=X8 hlt;rw [Yb,Ya hlt];exact Qzc this
  split at h
  ·
   have:=ih _ _ _ h;simp only [Y1];omega
  cases h
theorem Qrs (l:List Nat):∀ (r:List Bool) (n code:Nat) (e:Int),Eo l r n code=.error e->e≠0:=by
 intro r
 induction r with
 | nil=>intro n code e h;simp [Eo] at h;omega
 | cons b r ih =>
  intro n code e h;rw [Eo] at h;split at h
  ·
   cases h
  split at h
  ·
   exact ih _ _ _ h
  cases h;decide
theorem Qjp {l:List Nat}{bits:List Bool}{at_:Nat}{q:Nat×Nat} (h:F9 l bits at_=.ok q):q.1 < l.length/\at_ < q.2/\q.2<=bits.length:=by
 unfold F9 at h;split at h
 ·
  rename_i p hp;cases h;have:=Qv1 l _ _ _ _ hp;rw [Xv] at this;simp only;omega
 cases h
theorem Qrt {l:List Nat}{bits:List Bool}{at_:Nat}{e:Int} (h:F9 l bits at_=.error e):e≠0:=by
 unfold F9 at h;split at h
 ·
  cases h
 rename_i e' hp;cases h;exact Qrs l _ _ _ _ hp
theorem Qdz {l:List Nat}{bits:List Bool}{fin:Nat}:∀ (n at_:Nat) (q:List Nat×Nat),at_<=bits.length->C5 l bits fin n at_=.ok q->(∀ x∈q.1,x < l.length)/\q.1.length<=n/\q.2<=bits.length/\at_<=q.2:=by
 intro n
 induction n with
 | zero=>intro at_ q ha h;rw [C5] at h;cases h;simp [ha]
 | succ n ih =>
  intro at_ q ha h;rw [C5] at h;cases hn:F9 l bits at_ with
  | error e=>rw [hn] at h;cases h
  | ok p =>
   rw [hn] at h;simp only at h;obtain ⟨h1,h2,h3⟩:=Qjp hn;split at h
   ·
    cases h;refine ⟨by simpa using h1,by simp,h3,by simp only;omega⟩
   cases hr:C5 l bits fin n p.2 with
   | error e=>rw [hr] at h;cases h
   | ok q' =>
    rw [hr] at h;cases h;obtain ⟨g1,g2,g3,g4⟩:=ih _ _ h3 hr;refine ⟨fun x hx=>?_,by simp only [Y1];omega,g3,by simp only;omega⟩;rcases Ua.1 hx with rfl | hx
    ·
     exact h1
    exact g1 x hx
theorem Qru {l:List Nat}{bits:List Bool}{fin:Nat}:∀ (n at_:Nat) (e:Int),C5 l bits fin n at_=.error e->e≠0:=by
 intro n
 induction n with
 | zero=>intro at_ e h;rw [C5] at h;cases h
 | succ n ih =>
  intro at_ e h;rw [C5] at h;cases hn:F9 l bits at_ with
  | error e'=>rw [hn] at h;cases h;exact Qrt hn
  | ok p =>
   rw [hn] at h;simp only at h;split at h
   ·
    cases h
   cases hr:C5 l bits fin n p.2 with
   | error e'=>rw [hr] at h;cases h;exact ih _ _ hr
   | ok q'=>rw [hr] at h;cases h
theorem Qjq {T:List (List Nat)}{bits:List Bool}{fin N:Nat} (hT:∀ t,t < T.length->(T.getD t []).length=N):∀ (P:List Nat) (at_:Nat) (q:List Nat×Nat),(∀ k∈P,k < T.length)->at_<=bits.length->Ef T bits fin P at_=.ok q ->
  (∀ x∈q.1,x < N)/\q.1.length<=50 * P.length/\q.2<=bits.length:=by
 intro P
 induction P with
 | nil=>intro at_ q _ _ h;rw [Ef] at h;cases h
 | cons p P ih =>
  intro at_ q hP ha h;rw [Ef] at h;have hp:=hT p (hP p (by simp));cases hn:C5 (T.getD p []) bits fin 50 at_ with
  | error e=>rw [hn] at h;cases h
  | ok q1 =>
   rw [hn] at h;simp only at h;obtain ⟨h1,h2,h3,h4⟩:=Qdz _ _ _ ha hn;rw [hp] at h1;split at h
   ·
    cases h;refine ⟨h1,by simp only [Y1];omega,h3⟩
   cases hr:Ef T bits fin P q1.2 with
   | error e=>rw [hr] at h;cases h
   | ok q' =>
    rw [hr] at h;cases h;obtain ⟨g1,g2,g3⟩:=ih _ _ (fun k hk=>hP k (by simp [hk])) h3 hr;refine ⟨fun x hx=>?_,by simp only [Y1,Yi];omega,g3⟩;rcases Xs.1 hx with hx | hx
    ·
     exact h1 x hx
    exact g1 x hx
theorem Qg1 {T:List (List Nat)}{bits:List Bool}{fin:Nat}:∀ (P:List Nat) (at_:Nat) (e:Int),Ef T bits fin P at_=.error e->e≠0:=by
 intro P
 induction P with
 | nil=>intro at_ e h;rw [Ef] at h;cases h;decide
 | cons p P ih =>
  intro at_ e h;rw [Ef] at h;cases hn:C5 (T.getD p []) bits fin 50 at_ with
  | error e'=>rw [hn] at h;cases h;exact Qru _ _ _ hn
  | ok q1 =>
   rw [hn] at h;simp only at h;split at h
   ·
    cases h
   cases hr:Ef T bits fin P q1.2 with
   | error e'=>rw [hr] at h;cases h;exact ih _ _ hr
   | ok q'=>rw [hr] at h;cases h
theorem QEj {n most:Int} (hn:n<=256):∀ (r out:List Int) (wt:Nat),(out.length:Int)<=most->(∀ x∈out,0<=x/\x<=256)->((I1 n most out wt r).1.length:Int)<=most/\∀ x∈(I1 n most out wt r).1,0<=x/\x<=256:=by
 intro r
 induction r with
 | nil=>intro out wt h _;rw [I1];simp;omega
 | cons s r ih =>
  intro out wt h ho;rw [I1];split
  ·
   simp;omega
  split
  ·
   split
   ·
    simp;omega
   refine ih _ _ ?_ ?_
   ·
    rename_i h1 h2 h3;have h4:0<=(s+1) * (wt:Int):=Int.mul_nonneg (by omega) (by omega);rw [Yi,Uz];omega
   intro x hx;rcases Xs.1 hx with hx | hx
   ·
    exact ho x hx
   rw [List.mem_replicate] at hx;omega
  split
  ·
   cases r with
   | nil=>exact ⟨h,ho⟩
   | cons x r=>rw [Wk];split <;> (simp;omega)
  split
  ·
   simp;omega
  refine ih _ _ (by rw [Yi,Yy];omega) fun x hx=>?_;rcases Xs.1 hx with hx | hx
  ·
   exact ho x hx
  simp at hx;omega
theorem Qrv {n most:Int} (l:List Int):(Kv n most l).1.length<=262144/\∀ x∈(Kv n most l).1,0<=x/\x<=256:=by
 unfold Kv;split
 ·
  simp
 have:=QEj (n:=n) (most:=most) (by omega) l [] 1 (by simp;omega) (by simp);exact ⟨by omega,this.2⟩
theorem Qip:∀ (l:List Int) (li out:List UInt8),Mr li l=some out->out.length=l.length:=by
 intro l
 induction l with
 | nil=>intro li out h;simp [Mr] at h;subst h;rfl
 | cons x l ih =>
  intro li out h;unfold Mr at h;split at h
  ·
   simp only [Option.map_eq_some_iff] at h;obtain ⟨o,ho,rfl⟩:=h;simp [ih _ _ ho]
  cases h
theorem Qlb (u:List UInt8) (l:List Int):(K6 u l).1.length<=l.length:=by
 unfold K6;split
 ·
  split
  ·
   simp
  rename_i out h;exact Nat.le_of_eq (Qip _ _ _ h)
 simp
theorem Qrw (L:List UInt8) (P:List Nat):∀ (k row:Nat),(Ls L P k row).length=k:=by
 intro k
 induction k with
 | zero=>intro row;rfl
 | succ k ih=>intro row;simp [Ls,ih]
theorem Qzd (L:List UInt8) (row:Int):(L0 L row).1.length<=262144:=by
 unfold L0;split
 ·
  simp
 split
 ·
  simp
 simp only [Qrw];omega
theorem QEk:∀ (l out:List UInt8) (k:Nat),out.length<=262144->(C6 out k l).1.length<=262144:=by
 intro l
 induction l with
 | nil=>intro out k h;rw [C6];split <;> simp <;> omega
 | cons c l ih =>
  intro out k h;rw [C6];split
  ·
   split
   ·
    simp
   exact ih _ _ (by simp;omega)
  split
  ·
   simp
  exact ih _ _ (by simp;omega)
theorem Qlc (i:Nat) (row:List Bool):(P0 i row).length<=16:=by
 unfold P0;rw [Uv];have:=Uy (fun k=>row.getD k false) (Yf 16);simpa using this
theorem QEl {bits:List Bool}:∀ (r:List Bool) (i at_:Nat) (q:List UInt8×Nat),at_<=bits.length->C9 bits r i at_=.ok q->q.2<=bits.length/\q.1.length<=16 * r.length:=by
 intro r
 induction r with
 | nil=>intro i at_ q ha h;rw [C9] at h;cases h;simp [ha]
 | cons b r ih =>
  intro i at_ q ha h;cases b with
  | false=>rw [C9] at h;have:=ih _ _ _ ha h;simp only [Y1];omega
  | true =>
   rw [C9] at h;split at h
   ·
    cases h
   cases hr:C9 bits r (i+1) (at_+16) with
   | error e=>rw [hr] at h;cases h
   | ok q' =>
    rw [hr] at h;cases h;have h1:=ih _ _ _ (by omega) hr;have h2:=Qlc i ((bits.drop at_).take 16);simp only [Y1,Yi];omega
theorem Qze {bits:List Bool}:∀ (r:List Bool) (i at_:Nat) (e:Int),C9 bits r i at_=.error e->e≠0:=by
 intro r
 induction r with
 | nil=>intro i at_ e h;rw [C9] at h;cases h
 | cons b r ih =>
  intro i at_ e h;cases b with
  | false=>rw [C9] at h;exact ih _ _ _ h
  | true =>
   rw [C9] at h;split at h
   ·
    cases h;decide
   cases hr:C9 bits r (i+1) (at_+16) with
   | error e'=>rw [hr] at h;cases h;exact ih _ _ _ hr
   | ok q'=>rw [hr] at h;cases h
theorem Qbg {bits:List Bool}{at_:Nat}{q:List UInt8×Nat} (h:Kq bits at_=.ok q):q.2<=bits.length/\1<=q.1.length/\q.1.length<=256:=by
 unfold Kq at h;split at h
 ·
  cases h
 cases hr:C9 bits ((bits.drop at_).take 16) 0 (at_+16) with
 | error e=>rw [hr] at h;cases h
 | ok q' =>
  rw [hr] at h;simp only at h;split at h
  ·
   cases h
  rename_i hne;cases h;have h1:=QEl _ _ _ _ (by omega) hr;have h2:((bits.drop at_).take 16).length<=16:=by rw [Xi];omega
  have h3:0 < q.1.length:=by
   cases hq:q.1 with
   | nil=>exact absurd hq hne
   | cons a b=>simp
  omega
theorem Qc6 {bits:List Bool}{at_:Nat}{e:Int} (h:Kq bits at_=.error e):e≠0:=by
 unfold Kq at h;split at h
 ·
  cases h;decide
 cases hr:C9 bits ((bits.drop at_).take 16) 0 (at_+16) with
 | error e'=>rw [hr] at h;cases h;exact Qze _ _ _ _ hr
 | ok q' =>
  rw [hr] at h;simp only at h;split at h
  ·
   cases h;decide
  cases h
theorem Qv2 (n most:Int) (l:List Int) (la:Option Addr) (lc:Nat) (hn:I64 n) (hm:I64 most) (w:World) (hl:RS w la l.length 1 (Bb l)) (hs:l.length<=2147483640) (hi:∀ v∈l,I64 v) :
  Does Yg 127 #[.int .i64 n,.int .i64 most,.slice la l.length lc] w (IntsErr (Kv n most l) w):=by
 obtain ⟨hn1,hn2⟩:=hn;obtain ⟨hm1,hm2⟩:=hm;refine En [.int .i64 n,.int .i64 most,.slice la l.length lc] 98 Tryz.func127 ?_;refine Am [0,1,2] fun K hK=>?_;apply hK;clear hK;refine Am [0,1,2,26] fun K hK=>?_
 suffices out:∀ b:Bool,(b=true ↔ n < 1∨256 < n∨most < 0∨262144 < most)->K [(0,.int .i64 n),(1,.int .i64 most),(2,.slice la l.length lc),(26,.bool b)] w by (repeat' (first | exact out _ _ (by first | omega | (simp;done) | (simp;omega)) | exact out _ (by first | omega | (simp;done) | (simp;omega)) | refine ⟨fun _=>?_,fun _=>?_⟩ | refine Qo ?_))
 intro b hb;apply hK;clear hK;refine Ae rfl rfl (fun h=>?_) (fun h=>Ab ?_)
 ·
  refine Am [6,7] fun K hK=>?_;apply hK;clear hK;refine Ad (A7 rfl rfl rfl ?_);rw [Kv,if_pos (hb.1 h)];exact IntsErr.nil (Yz w) 2
 have hg:¬ (n < 1∨256 < n∨most < 0∨262144 < most):=fun h'=>by rw [hb.2 h'] at h;cases h
 clear h hb;rw [Kv,if_neg hg];refine Am [0,1,2,8] fun K hK=>?_;apply hK;clear hK;refine Am [0,1,2,8,9,10] fun K hK=>?_;apply hK;clear hK;refine Am [0,1,2,8,9,10,27,28,29] fun K hK=>?_;apply hK;clear hK
 ((repeat refine Ax ?_);refine Ar ?_)
 refine Au [0,1,2,8,9,10,27,28,29] (fun m e w'=>∃ (i run wt cap:Nat) (a:Option Addr) (o:List Int),Is e [(0,.int .i64 n),(1,.int .i64 most),(2,.slice la l.length lc),(8,.slice a o.length cap),(9,.int .i64 run),(10,.int .i64 wt),(27,.slice la l.length lc),(28,.int .i64 l.length),(29,.int .i64 i)]/\Heap w [] w' [Yr 3 1 a o.length cap (Bb o)]/\i<=l.length/\(o.length:Int)+run<=most/\wt<=2 * most+1/\1<=wt/\I1 n most [] 1 l=I1 n most (o++Yc run 0) wt (l.drop i)/\m=l.length - i) l.length ?_ ?_
 ·
  refine Qi ?_;exact ⟨0,0,1,0,none,[],rfl,Zl,by omega,by simp;omega,by omega,by omega,rfl,rfl⟩
 rintro m e w2 ⟨i,run,wt,cap,a,o,rfl,hH,g1,g2,g3,g4,g5,rfl⟩;refine Am [0,1,2,8,9,10,27,28,29,30] fun K hK=>?_;apply hK;clear hK;(repeat refine Ax ?_);refine VD (fun h=>?_) (fun h=>?_)
 ·
  refine Ab ?_
  ((repeat refine Ax ?_);refine Ar ?_)
  obtain ⟨p,rfl⟩:=Dt hl (by omega);have hc:=Rn (hH.rs' hl) (show i < l.length by omega);have hr:=hi _ (Dr 0 (show i < l.length by omega));have hdr:=drop_getD 0 (show i < l.length by omega);generalize l.getD i 0=s at *;obtain ⟨hr1,hr2⟩:=hr;rw [hdr] at g5;refine Am [0,1,2,8,9,10,11,12,27,28,29] fun K hK=>?_;refine ⟨⟨by omega,by omega⟩,_,hc,?_⟩;apply hK;clear hK;refine Am [0,1,2,8,9,10,11,12,27,28,29,41] fun K hK=>?_
  suffices out:∀ c:Bool,(c=true ↔ s < 0∨n+1 < s)->K [(0,.int .i64 n),(1,.int .i64 most),(2,.slice (some p) l.length lc),(8,.slice a o.length cap),(9,.int .i64 run),(10,.int .i64 wt),(11,.int .i64 i),(12,.int .i64 s),(27,.slice (some p) l.length lc),(28,.int .i64 l.length),(29,.int .i64 i),(41,.bool c)] w2 by (repeat' (first | exact out _ _ (by first | omega | (simp;done) | (simp;omega)) | exact out _ (by first | omega | (simp;done) | (simp;omega)) | refine ⟨fun _=>?_,fun _=>?_⟩ | refine Qo ?_))
  intro c hb;apply hK;clear hK;refine Ae rfl rfl (fun h=>?_) (fun h=>Ab ?_)
  ·
   refine Am [6,7] fun K hK=>?_;apply hK;clear hK;refine Ad (A7 rfl rfl rfl ?_);have hg2:=hb.1 h;rw [I1,if_pos hg2] at g5;rw [g5];exact IntsErr.nil (hH.sub (by simp)) 60
  have hg2:¬ (s < 0∨n+1 < s):=fun h'=>by rw [hb.2 h'] at h;cases h
  clear h hb;rw [I1,if_neg hg2] at g5;refine Am [0,1,2,8,9,10,11,12,27,28,29,43] fun K hK=>?_;apply hK;clear hK;refine VD (fun h=>?_) (fun h=>?_)
  ·
   rw [if_pos h,Yi,Uz] at g5;obtain ⟨t,rfl⟩:∃ t:Nat,s=t:=⟨s.toNat,by omega⟩;have ht:t=0∨t=1:=by omega
   have hmul:((t:Int)+1) * wt<=2 * wt/\(wt:Int)<=((t:Int)+1) * wt:=by
    rcases ht with rfl | rfl <;> simp <;> omega
   generalize hk:((t:Int)+1) * wt=k at *;refine Am [0,1,2,8,9,10,12,27,28,29,59] fun K hK=>?_;rw [hk]
   suffices out:∀ c:Bool,(c=true ↔ most - o.length - run < k)->K [(0,.int .i64 n),(1,.int .i64 most),(2,.slice (some p) l.length lc),(8,.slice a o.length cap),(9,.int .i64 run),(10,.int .i64 wt),(12,.int .i64 t),(27,.slice (some p) l.length lc),(28,.int .i64 l.length),(29,.int .i64 i),(59,.bool c)] w2 by (repeat' (first | exact out _ _ (by first | omega | (simp;done) | (simp;omega)) | exact out _ (by first | omega | (simp;done) | (simp;omega)) | refine ⟨fun _=>?_,fun _=>?_⟩ | refine Qo ?_))
   intro c hb;apply hK;clear hK;refine Ae rfl rfl (fun h=>?_) (fun h=>Ab ?_)
   ·
    refine Am [6,7] fun K hK=>?_;apply hK;clear hK;refine Ad (A7 rfl rfl rfl ?_);have:=hb.1 h;rw [if_pos (by omega)] at g5;rw [g5];exact IntsErr.nil (hH.sub (by simp)) 3
   have hg3:¬ (most - o.length - run < k):=fun h'=>by rw [hb.2 h'] at h;cases h
   clear h hb;rw [if_neg (by omega)] at g5;refine Am [0,1,2,8,9,10,27,28,29] fun K hK=>?_;rw [hk];(repeat refine Qo ?_);apply hK;clear hK;refine Am [0,1,2,8,9,10,27,28,29] fun K hK=>?_;(repeat refine Qo ?_);apply hK;clear hK;refine As rfl ?_;refine Am [0,1,2,8,9,10,27,28,29] fun K hK=>?_;(repeat refine Qo ?_);apply hK;clear hK;refine Ah ?_;refine Qi ?_;rw [Yn,X5] at g5;exact ⟨l.length - (i+1),by omega,i+1,run+k.toNat,2 * wt,_,_,_,by simp [Is];omega,hH,by omega,by omega,by omega,by omega,g5,rfl⟩
  rw [if_neg h] at g5;refine Ab ?_;refine Am [0,1,2,8,11,12,27,28,29] fun K hK=>?_;refine Cl ?_;refine Qi ?_;have el:o.length+run=(o++Yc run 0).length:=by simp
  refine Qqo hH 0 rfl rfl Ye E2 Tryz.underlying3 rfl (by omega) fun a' cap' w5 hc' hH4=>?_;rw [intsV_zero,<- Qan,el] at hH4;rw [el];apply hK;clear hK;generalize ho2:o++Yc run 0=o2 at *;refine Am [0,1,2,8,9,10,11,12,27,28,29] fun K hK=>?_;apply hK;clear hK;refine Am [0,1,2,8,9,10,11,12,27,28,29,74] fun K hK=>?_;(repeat refine Qo ?_);apply hK;clear hK;refine Ae rfl rfl (fun h'=>?_) (fun h'=>?_)
  ·
   simp only [decide_eq_true_eq] at h';rw [if_pos h'] at g5;refine Am [0,2,8,11,79] fun K hK=>?_;(repeat refine Qo ?_);apply hK;clear hK;refine Ae rfl rfl (fun hx=>?_) (fun hx=>?_)
   ·
    simp only [decide_eq_true_eq] at hx;have hc2:=Rn (hH4.rs' hl) (show i+1 < l.length by omega);have hr:=hi _ (Dr 0 (show i+1 < l.length by omega));have hdr2:=drop_getD 0 (show i+1 < l.length by omega);generalize l.getD (i+1) 0=x at *;rw [hdr2,Wk] at g5;refine Am [6,7] fun K hK=>?_;refine ⟨Y4 (by omega) (by omega),⟨by omega,by omega⟩,_,hc2,?_⟩;refine Ac Tryz.call168 ?_;refine Qi ?_;refine Yk (Qno n x ⟨hn1,hn2⟩ (by omega) hr w5) ?_;rintro v w6 ⟨rfl,rfl⟩;apply hK;clear hK;refine Ad (A7 rfl rfl rfl ?_);rw [g5];split
    ·
     exact IntsErr.nil (hH4.sub (by simp)) 60
    exact IntsErr.nil (hH4.sub (by simp)) 70
   simp only [decide_eq_false_iff_not] at hx;refine Ab ?_;refine Am [6,7] fun K hK=>?_;apply hK;clear hK;refine Ad (A7 rfl rfl rfl ?_);rw [Yt (by omega),Wk] at g5;rw [g5];exact ⟨_,_,hH4,rfl⟩
  simp only [decide_eq_false_iff_not] at h';rw [if_neg h'] at g5;refine Ab ?_;refine Am [0,1,2,8,9,10,12,27,28,29,91] fun K hK=>?_;apply hK;clear hK;refine VD (fun h=>?_) (fun h=>?_)
  ·
   refine Am [6,7] fun K hK=>?_;apply hK;clear hK;refine Ad (A7 rfl rfl rfl ?_);rw [if_pos (by omega)] at g5;rw [g5];exact IntsErr.nil (hH4.sub (by simp)) 3
  rw [if_neg (by omega)] at g5;refine Ab ?_;refine Am [0,1,2,8,9,10,27,28,29] fun K hK=>?_;(repeat first | refine Qo ?_ | refine ⟨⟨by omega,by omega⟩,?_⟩);refine Kp (xs:=[.tmp 94]) Ye Lj rfl rfl rfl (by omega) ?_;refine Qi ?_;refine ⟨by simp [Xg],?_⟩;refine Cl ?_;refine Qi ?_;refine Vc hH4 0 rfl Ye E2 (fun h=>by (first | omega | (simp;done) | (simp;omega))) fun a' cap' w5 hc' hH5=>?_;(try refine Qi ?_);apply hK;clear hK;refine Ao ?_;refine Am [0,1,2,8,9,10,27,28,29] fun K hK=>?_;(repeat refine Qo ?_);apply hK;clear hK;refine Ah ?_;refine Qi ?_;exact ⟨l.length - (i+1),by omega,i+1,0,1,_,_,_,rfl,hH5,by omega,by simp;omega,by omega,by omega,by simpa using g5,rfl⟩
 refine As rfl ?_;rw [Yt (by omega),I1] at g5;refine Am [6,7] fun K hK=>?_;apply hK;clear hK;refine Ad (A7 rfl rfl rfl ?_);rw [g5];exact IntsErr.nil (hH.sub (by simp)) 70
def Ag (l:List Nat):List Value:=l.map fun n:Nat=>.int .i64 (n:Int)
def ni (l:List Nat):List Int:=l.map fun n:Nat=>(n:Int)
theorem Qzf (l:List Nat):Ag l=Bb (ni l):=by simp [Ag,Bb,ni]
theorem Bj (l:List Nat):(Ag l).length=l.length:=by simp [Ag]
theorem R7 (l m:List Nat):Ag (l++m)=Ag l++Ag m:=by simp [Ag]
theorem Qrx (l:List Nat) (x:Nat):Ag l++[.int .i64 (x:Int)]=Ag (l++[x]):=by simp [Ag]
theorem F3 {l:List Nat}{i:Nat} (h:i < l.length):(Ag l)[i]? = some (.int .i64 ((l.getD i 0:Nat):Int)):=by
 simp [Ag,Ya h,Yb]
theorem Ip (l:List Nat) (i v:Nat):(Ag l).set i (.int .i64 (v:Int))=Ag (l.set i v):=by simp [Ag,List.map_set]
theorem Qcj (l:List Nat) (k:Nat):(Ag l).take k=Ag (l.take k):=by simp [Ag]
theorem Qg2 (l:List Nat) (k:Nat):(Ag l).drop k=Ag (l.drop k):=by simp [Ag]
theorem Q8 (l:List Nat):∀ u∈Ag l,u.oneCell'=true:=by
 intro u hu;obtain ⟨b,_,rfl⟩:=Xu.1 hu;rfl
theorem Ek {w:World}{p:Addr}{l:List Nat}{n:Nat} (h:RS w (some p) n 1 (Ag l)) {i:Nat} (hi:i < l.length):w.cell? (p.add i)=some (.int .i64 ((l.getD i 0:Nat):Int)) :=
 h.2.2 p rfl i _ (F3 hi)
def Fv (l:List Nat):List Value:=l.map fun n:Nat=>.int .u64 (n:Int)
theorem Z3 (l:List Nat):(Fv l).length=l.length:=by simp [Fv]
theorem Qhx {l:List Nat}{i:Nat} (h:i < l.length):(Fv l)[i]? = some (.int .u64 ((l.getD i 0:Nat):Int)):=by
 simp [Fv,Ya h,Yb]
theorem Qzg (l:List Nat) (i v:Nat):(Fv l).set i (.int .u64 (v:Int))=Fv (l.set i v):=by simp [Fv,List.map_set]
theorem Ql7:∀ {l:List Value}{i:Nat}{v:Value}{K:Value->Prop},l[i]? = some v->Bk l i K=K v:=by
 intro l i v K h;rw [Qte,h]
section
variable {P:Program}{w w0:World}{B:List Nat}{G:List Res}
theorem Qhy (hH:Heap w0 B w G) (i:Nat) {T E ty:TypeId}{bytes:Nat}{z:Value}{a:Option Addr}{cap:Nat}{o:List Nat} (k:Nat) {n:Int}{C:Value->World->Prop}
  (hi:G[i]? = some (Yr E 1 a o.length cap (Ag o))) (hu:P.underlying T=some (.slice E)) (hz:(P.info? E).map (fun i=>(i.zero.map Xg,i.size,i.bytes))=some (some #[z],1,bytes)) (hn:n=k)
  (hb:cap < (o++[k]).length->(o++[k]).length * bytes<=140737488355328/\(o++[k]).length<=9223372036854775807)
  (h:∀ a' cap' w',((o++[k]).length<=cap->a'=a/\cap'=cap)->Heap w0 B w' (G.set i (Yr E 1 a' (o++[k]).length cap' (Ag (o++[k]))))->C (.slice a' (o++[k]).length cap') w') :
  Np P #[T,T] ty [.slice a o.length cap,.slice (some ⟨w.heap.size,0,none⟩) 1 1] (w.alloc (.cells [Y5 .i64 n].toArray E)) C:=by
 subst hn;have e:o.length+1=(o++[k]).length:=by simp
 refine Qhj hH i hi hu hz rfl (by rw [e];exact hb) fun a' cap' w' hc hH'=>?_;rw [Qrx,e] at hH';rw [e] at hc ⊢;exact h a' cap' w' hc hH'
end
theorem Qay {l:List Nat}{i:Nat} (h:i < l.length):Bq (l.take (i+1))=max (Bq (l.take i)) (l.getD i 0):=by
 rw [Mq 0 h,Bq,List.foldl_append];rfl
theorem Qpf (l:List Nat) (hl:0 < l.length) (hs:l.length<=1000000000) (a:Option Addr) (lc:Nat) (w:World) (hr:RS w a l.length 1 (Ag l)) :
  Does Yg 177 #[.slice a l.length lc] w fun v w'=>w'=w/\v=.int .i64 (Bq l:Nat):=by
 obtain ⟨p,rfl⟩:=Dt hr (by omega);refine En [.slice (some p) l.length lc] 25 Tryz.func177 ?_;generalize hn:l.length=n at *;refine VS [0] ?_;refine VS [0,7] ?_;refine Dk [0] (fun e w'=>Is e [(0,.slice (some p) n lc)]/\Is w' w) ?_ ?_
 ·
  refine Ae rfl rfl (fun h=>by simp at h;omega) (fun h=>?_);refine Ab ?_;refine Ah ?_;refine Qs ?_;exact ⟨rfl,rfl⟩
 rintro e w' ⟨rfl,rfl⟩;have h0:=Ek hr (i:=0) (by omega);refine VQ [0,3] fun K hK=>?_;refine ⟨by omega,_,h0,?_⟩;apply hK;clear hK;refine VS [0,3,4] ?_
 have hm0:l.getD 0 0=Bq (l.take 1):=by
  cases l with
  | nil=>simp at hn;omega
  | cons x l=>simp [Bq]
 rw [hm0];refine Ar ?_;refine Au [0,3,4] (fun m e w1=>∃ (i:Nat),Is e [(0,.slice (some p) n lc),(3,.int .i64 (Bq (l.take i):Nat)),(4,.int .i64 i)]/\Is w1 w'/\1<=i/\i<=n/\m=n - i) (n - 1) ?_ ?_
 ·
  refine Qs ?_;exact ⟨1,rfl,rfl,by omega,by omega,rfl⟩
 rintro m e w2 ⟨i,rfl,rfl,h1,h2,rfl⟩;refine VS [0,3,4,15] ?_;refine VD (fun h=>?_) (fun h=>?_)
 ·
  have hi:=Ek hr (i:=i) (by omega);have hs2:=Qay (l:=l) (i:=i) (by omega);refine Ab ?_;refine VB ?_;refine VQ [0,3,4] fun K hK=>?_;refine ⟨⟨by omega,by omega⟩,_,hi,?_⟩;refine Qs ?_;rw [show max ((Bq (l.take i):Nat):Int) ((l.getD i 0:Nat):Int)=((Bq (l.take (i+1)):Nat):Int) by rw [hs2];omega];apply hK;clear hK;refine Ao ?_;refine VS [0,3,4] ?_;refine Ah ?_;refine Qs ?_;exact ⟨n - (i+1),by omega,i+1,rfl,rfl,by omega,by omega,rfl⟩
 refine As rfl ?_;refine VS [2] ?_;refine Ad (A2 rfl rfl ⟨rfl,?_⟩);rw [Yp (by omega)]
theorem Qzh (l:List Nat) (hl:0 < l.length) (hs:l.length<=1000000000) (a:Option Addr) (lc:Nat) (w:World) (hr:RS w a l.length 1 (Ag l)) :
  Does Yg 200 #[.slice a l.length lc] w fun v w'=>w'=w/\∃ n:Nat,v=.int .i64 n:=by
 obtain ⟨p,rfl⟩:=Dt hr (by omega);refine En [.slice (some p) l.length lc] 25 Tryz.func200 ?_;generalize hn:l.length=n at *;refine VS [0] ?_;refine VS [0,7] ?_;refine Dk [0] (fun e w'=>Is e [(0,.slice (some p) n lc)]/\Is w' w) ?_ ?_
 ·
  refine Ae rfl rfl (fun h=>by simp at h;omega) (fun h=>?_);refine Ab ?_;refine Ah ?_;refine Qs ?_;exact ⟨rfl,rfl⟩
 rintro e w' ⟨rfl,rfl⟩;have h0:=Ek hr (i:=0) (by omega);refine VQ [0,3] fun K hK=>?_;refine ⟨by omega,_,h0,?_⟩;apply hK;clear hK;refine VS [0,3,4] ?_;refine Ar ?_;refine Au [0,3,4] (fun m e w1=>∃ (i x:Nat),Is e [(0,.slice (some p) n lc),(3,.int .i64 x),(4,.int .i64 i)]/\Is w1 w'/\1<=i/\i<=n/\m=n - i) (n - 1) ?_ ?_
 ·
  refine Qs ?_;exact ⟨1,_,rfl,rfl,by omega,by omega,rfl⟩
 rintro m e w2 ⟨i,x,rfl,rfl,h1,h2,rfl⟩;refine VS [0,3,4,15] ?_;refine VD (fun h=>?_) (fun h=>?_)
 ·
  have hi:=Ek hr (i:=i) (by omega);refine Ab ?_;refine VB ?_;refine VQ [0,3,4] fun K hK=>?_;refine ⟨⟨by omega,by omega⟩,_,hi,?_⟩;refine Qs ?_;rw [show min ((x:Nat):Int) ((l.getD i 0:Nat):Int)=((min x (l.getD i 0):Nat):Int) by omega];apply hK;clear hK;refine Ao ?_;refine VS [0,3,4] ?_;refine Ah ?_;refine Qs ?_;exact ⟨n - (i+1),by omega,i+1,_,rfl,rfl,by omega,by omega,rfl⟩
 refine As rfl ?_;refine VS [2] ?_;exact Ad (A2 rfl rfl ⟨rfl,_,rfl⟩)
theorem Qep (l:List Nat) (hl:2<=l.length) (hl2:l.length<=258) (hx:∀ x∈l,x<=1073741824) (a:Option Addr) (lc:Nat) (w:World) (hr:RS w a l.length 1 (Ag l)) :
  Does Yg 174 #[.slice a l.length lc] w fun v w'=>w'=w/\v=.bool true:=by
 have hmax:=(Qb (l:=l)).2 hx;have hc1:=Qzh l (by omega) (by omega) a lc w hr;have hc2:=Qpf l (by omega) (by omega) a lc w hr;refine En [.slice a l.length lc] 21 Tryz.func174 ?_;generalize l.length=n at *;generalize Bq l=mx at *;refine VS [0] ?_;refine VQ [2] fun K hK=>?_;refine ⟨fun h1=>⟨fun h2=>?_,fun h2=>absurd h2 (by simp;omega)⟩,fun h1=>absurd h1 (by simp;omega)⟩;refine Ac Tryz.call200 ?_;refine Qs ?_;refine Yk hc1 ?_;rintro v w2 ⟨rfl,q,rfl⟩;refine Qs ?_;refine ⟨fun h3=>?_,fun h3=>absurd h3 (by simp)⟩;refine Ac Tryz.call177 ?_;refine Qs ?_;refine Yk hc2 ?_;rintro v w3 ⟨rfl,rfl⟩;refine Qs ?_;rw [decide_eq_true (show ((mx:Nat):Int)<=1073741824 by omega)];apply hK;clear hK;exact Ad (A2 rfl rfl ⟨rfl,rfl⟩)
def Ry (l:List Nat):Nat:=if l.length < 2∨258 < l.length then 0 else if l.all (fun x=>decide (1<=x) && decide (x<=20)) then Dd l else 0
theorem Qnp (l:List Nat) (x:Nat):Dd (l++[x])=Dd l+2 ^ (20 - x):=by rw [Qbq];rfl
theorem Qv3 (l:List Nat):Dd l<=l.length * 1048576:=by
 induction l with
 | nil=>simp [Dd]
 | cons x l ih =>
  have:2 ^ (20 - x)<=2 ^ 20:=Yx (by omega) (by omega);simp only [Dd,Y1,Nat.succ_mul];have e:(2:Nat) ^ 20=1048576:=by decide
  omega
theorem Qnq (l:List Nat) (a:Option Addr) (lc:Nat) (w:World) (hr:RS w a l.length 1 (Ag l)) :
  Does Yg 166 #[.slice a l.length lc] w fun v w'=>w'=w/\v=.int .i64 (Ry l:Nat):=by
 generalize hres:Ry l=res;unfold Ry at hres;refine En [.slice a l.length lc] 33 Tryz.func166 ?_;generalize hn:l.length=n at *;refine VS [0] ?_;refine VQ [0,13] fun K hK=>?_
 suffices out:∀ b:Bool,(b=true ↔ (n < 2∨258 < n))->K [(0,.slice a n lc),(13,.bool b)] w by (repeat' (first | exact out _ _ (by first | omega | (simp;done) | (simp;omega)) | exact out _ (by first | omega | (simp;done) | (simp;omega)) | refine ⟨fun _=>?_,fun _=>?_⟩ | refine Qo ?_))
 intro b hb;apply hK;clear hK;refine Vi (fun h=>?_) (fun h=>Ab ?_)
 ·
  rw [if_pos (hb.1 h)] at hres;subst hres;refine VS [2] ?_;exact Ad (A2 rfl rfl ⟨rfl,rfl⟩)
 have hg:¬ (n < 2∨258 < n):=fun h2=>by have:=hb.2 h2;simp_all
 rw [if_neg hg] at hres;clear hb h;obtain ⟨p,rfl⟩:=Dt hr (by omega);refine VS [0,3] ?_;refine VS [3,14,15,16] ?_;refine Ar ?_;refine Au [3,14,15,16] (fun m e w'=>∃ (i:Nat),Is e [(3,.int .i64 (Dd (l.take i):Nat)),(14,.slice (some p) n lc),(15,.int .i64 n),(16,.int .i64 i)]/\Is w' w/\i<=n/\(l.take i).all (fun x=>decide (1<=x) && decide (x<=20))=true/\m=n - i) n ?_ ?_
 ·
  refine Qs ?_;exact ⟨0,rfl,rfl,by omega,by simp,rfl⟩
 rintro m e w' ⟨i,rfl,rfl,hi,hall,rfl⟩;refine VS [3,14,15,16,17] ?_;(repeat refine Ax ?_);refine VD (fun h=>?_) (fun h=>?_)
 ·
  have hcell:=Ek hr (i:=i) (by omega);have htk:=Mq 0 (l:=l) (i:=i) (by omega);have hks:=Qnp (l.take i) (l.getD i 0);rw [<- htk] at hks;have hmem:=Dr 0 (l:=l) (i:=i) (by omega);have hkl:=Qv3 (l.take i);have hlt:(l.take i).length<=258:=by rw [Xi];omega
  generalize hx:l.getD i 0=x at *;refine Ab ?_;refine VB ?_;refine VQ [3,5,14,15,16] fun K hK=>?_;refine ⟨⟨by omega,by omega⟩,_,hcell,?_⟩;apply hK;clear hK;refine VQ [3,5,14,15,16,25] fun K hK=>?_
  suffices out:∀ b:Bool,(b=true ↔ (x < 1∨20 < x))->K [(3,.int .i64 (Dd (l.take i):Nat)),(5,.int .i64 x),(14,.slice (some p) n lc),(15,.int .i64 n),(16,.int .i64 i),(25,.bool b)] w' by (repeat' (first | exact out _ _ (by first | omega | (simp;done) | (simp;omega)) | exact out _ (by first | omega | (simp;done) | (simp;omega)) | refine ⟨fun _=>?_,fun _=>?_⟩ | refine Qo ?_))
  intro b hb;apply hK;clear hK;refine Vi (fun h=>?_) (fun h=>Ab ?_)
  ·
   have hb1:=hb.1 h
   have:l.all (fun x=>decide (1<=x) && decide (x<=20))=false:=by
    rw [List.all_eq_false];exact ⟨x,hmem,by simp;omega⟩
   rw [this,if_neg (by simp)] at hres;subst hres;refine VS [2] ?_;exact Ad (A2 rfl rfl ⟨rfl,rfl⟩)
  have hg2:¬ (x < 1∨20 < x):=fun h2=>by have:=hb.2 h2;simp_all
  clear hb h;have hsh:Bx Xp (20 - (x:Int))=20 - x:=S1 (by omega) (by simp [IntKind.bits];omega);have hp2:2 ^ (20 - x)<=2 ^ 20:=Yx (by omega) (by omega);have hp3:2 ^ (20 - x)<=1048576:=hp2;have hp:(1:Int) * 2 ^ (20 - x)=((2 ^ (20 - x):Nat):Int):=by push_cast;exact Int.one_mul _
  refine VQ [3,14,15,16] fun K hK=>?_;rw [hsh,hp];clear hp hp2 hsh;generalize 2 ^ (20 - x)=pw at *;(repeat first | refine Qo ?_ | refine Qp ?_);rw [show ((Dd (l.take i):Nat):Int)+pw=((Dd (l.take (i+1)):Nat):Int) by rw [hks];omega];apply hK;clear hK;refine Ao ?_;refine VS [3,14,15,16] ?_;refine Ah ?_;refine Qs ?_;refine ⟨n - (i+1),by omega,i+1,rfl,rfl,by omega,?_,rfl⟩;rw [htk,List.all_append,hall];simp;omega
 obtain rfl:i=n:=by omega
 rw [Yp (by omega)] at hall ⊢;rw [if_pos hall] at hres;refine As rfl ?_;refine VS [2] ?_;exact Ad (A2 rfl rfl ⟨rfl,by rw [hres]⟩)
theorem QEm (l:List Nat):Og l=true ↔ ¬ (Ry l=0∨1048576 < Ry l):=by
 unfold Ry Og;by_cases h1:l.length < 2∨258 < l.length
 ·
  rw [if_pos h1];simp;omega
 rw [if_neg h1];cases h2:l.all (fun x=>decide (1<=x) && decide (x<=20)) with
 | false=>simp
 | true =>
  have hpos:0 < Dd l:=by
   cases l with
   | nil=>simp at h1
   | cons x l=>have:=Nat.two_pow_pos (20 - x);simp only [Dd];omega
  simp;omega
theorem Qak (l:List Nat) (a:Option Addr) (lc:Nat) (w:World) (hr:RS w a l.length 1 (Ag l)) :
  Does Yg 125 #[.slice a l.length lc] w fun v w'=>w'=w/\v=.int .i64 (if Og l=true then 0 else 80):=by
 have hc:=Qnq l a lc w hr;have hs:=QEm l;refine En [.slice a l.length lc] 12 Tryz.func125 ?_;generalize Ry l=n at *;refine VS [0] ?_;refine VQ [3] fun K hK=>?_;refine Ac Tryz.call166 ?_;refine Qs ?_;refine Yk hc ?_;rintro v w2 ⟨rfl,rfl⟩;apply hK;clear hK;refine VQ [11] fun K hK=>?_
 suffices out:∀ b:Bool,(b=true ↔ (n=0∨1048576 < n))->K [(11,.bool b)] w2 by (repeat' (first | exact out _ _ (by first | omega | (simp;done) | (simp;omega)) | exact out _ (by first | omega | (simp;done) | (simp;omega)) | refine ⟨fun _=>?_,fun _=>?_⟩ | refine Qo ?_))
 intro b hb;apply hK;clear hK;refine Vi (fun h=>?_) (fun h=>Ab ?_)
 ·
  have h2:=hb.1 h;refine VS [2] ?_;exact Ad (A2 rfl rfl ⟨rfl,by rw [if_neg (fun h3=>hs.1 h3 h2)]⟩)
 have hg:¬ (n=0∨1048576 < n):=fun h2=>by have:=hb.2 h2;simp_all
 refine VS [2] ?_;exact Ad (A2 rfl rfl ⟨rfl,by rw [if_pos (hs.2 hg)]⟩)
theorem Qzi {P:Program}{w:World}{a:Option Addr}{n c:Nat}{l:List Nat}{T E:TypeId} (h:RS w a n 1 (Ag l)) (hu:P.underlying T=some (.slice E)):Src P w (.slice a n c) T 1 n (Ag l):=⟨rfl,h,E,hu⟩
theorem QEn {w:World}{KV:Value->Prop} (a:Option Addr) (n c n' c':Nat) (xo yo:Operand):A8 Yg .eql 114 xo yo (.slice a n c) (.slice none n' c') w KV=KV (.bool a.isNone):=Qyf Ye a n c n' c' xo yo
attribute [go_sem] QEn
theorem Qry (l:List Nat) (hl:0 < l.length) (hs:l.length<=1000000000) (a:Option Addr) (lc:Nat) (w:World) (hr:RS w a l.length 1 (Ag l)) :
  Does Yg 175 #[.slice a l.length lc] w fun v w'=>∃ a' cap,Heap w [] w' [Yr 3 1 a' l.length cap (Ag l)]/\v=.slice a' l.length cap:=by
 obtain ⟨p,rfl⟩:=Dt hr (by omega);refine En [.slice (some p) l.length lc] 8 Tryz.func175 ?_;refine VS [0] ?_;refine VS [0,4] ?_;refine Ae rfl rfl (fun h=>by simp at h) (fun h=>Ab ?_);refine VQ [2] fun K hK=>?_;have hS:=Yz w;refine Fb hS (Ag []) (xs:=[]) Ye Lj rfl rfl rfl (by omega) ?_;refine Qs ?_;refine ⟨rfl,by simp [Xg],fun g w4 hH2=>?_⟩;(try refine Qs ?_);refine Cl ?_;refine Qs ?_;refine Ew hH2 0 rfl Ye E2 rfl (Qzi (hH2.rs' hr) Ye) (Q8 _) (fun h=>by omega) fun a' cap' w5 hc' hH4=>?_;refine Qs ?_;apply hK;clear hK;exact Ad (A2 rfl rfl ⟨a',cap',by simpa [Ag] using hH4,by simp⟩)
def Bz (l:List Nat):Nat->List Nat
 | 0=>[]
 | n+1=>Bz l n++If l (n+1)
def Dx (l:List Nat) (n:Nat):Nat:=(Bz l (n - 1)).length
theorem Ql8 (l:List Nat):∀ (n k:Nat),k < (Bz l n).length->(Bz l n).getD k 0 < l.length/\1<=l.getD ((Bz l n).getD k 0) 0/\k=Dx l (l.getD ((Bz l n).getD k 0) 0)+(Cj l (l.getD ((Bz l n).getD k 0) 0) ((Bz l n).getD k 0)).length
 | 0,k,h=>by simp [Bz] at h
 | n+1,k,h=>by
  rw [Bz] at h ⊢;rcases Us k (Bz l n).length with h1 | h1
  ·
   rw [Q1 h1];exact Ql8 l n k h1
  have h2:(Bz l n++If l (n+1)).getD k 0=(If l (n+1)).getD (k - (Bz l n).length) 0:=by
   rw [Yb,Y0 h1,Yb]
  rw [h2];have h3:k - (Bz l n).length < (If l (n+1)).length:=by rw [Yi] at h;omega
  obtain ⟨a,b,c⟩:=Qtn l (n+1) l.length _ h3;change (If l (n+1)).getD (k - (Bz l n).length) 0 < l.length at a;change l.getD ((If l (n+1)).getD (k - (Bz l n).length) 0) 0=n+1 at b;change (Cj l (n+1) ((If l (n+1)).getD (k - (Bz l n).length) 0)).length=_ at c;rw [b,c,Dx,Xq];exact ⟨a,by omega,by omega⟩
theorem Qpg {l:List Nat}{i:Nat} (hi:i < l.length) (h1:1<=l.getD i 0):∀ n,l.getD i 0<=n->i∈Bz l n
 | 0,h=>by omega
 | n+1,h=>by
  rw [Bz,Xs];rcases Us n (l.getD i 0) with h2 | h2
  ·
   right;rw [show n+1=l.getD i 0 by omega];exact Zw.2 ⟨hi,rfl⟩
  exact .inl (Qpg hi h1 n h2)
theorem Qv4 {l:List Nat}{n i k:Nat} (h:k < (Bz l n).length) (hk:(Bz l n).getD k 0=i):Dv l i+Dx l (l.getD i 0)=Bw l (l.getD i 0)+k:=by
 have:=(Ql8 l n k h).2.2;rw [hk] at this;unfold Dv;omega
theorem Qnr (l:List Nat) {m n:Nat} (h:m<=n):∃ r,Bz l n=Bz l m++r:=by
 induction n with
 | zero=>exact ⟨[],by rw [show m=0 by omega];simp⟩
 | succ n ih =>
  rcases Us m (n+1) with h1 | h1
  ·
   obtain ⟨r,hr⟩:=ih (by omega);exact ⟨_,by rw [Bz,hr,Yn]⟩
  exact ⟨[],by rw [show m=n+1 by omega];simp⟩
theorem Qzj (l:List Nat) {n L j:Nat} (hn:1<=n) (hL:n<=L) (hj:j < B6 l n):Dx l n+j < (Bz l L).length/\(Bz l L).getD (Dx l n+j) 0=(If l n).getD j 0:=by
 obtain ⟨r,hr⟩:=Qnr l hL;obtain ⟨m,rfl⟩:∃ m,n=m+1:=⟨n - 1,by omega⟩;have hb:Dx l (m+1)=(Bz l m).length:=by rw [Dx,Xq]
 have hj':j < (If l (m+1)).length:=hj;rw [hr,Bz,hb];constructor
 ·
  simp only [Yi];omega
 rw [Yn,Yb,Y0 (by omega),Xo,Xl hj',Yb]
theorem Qzk {l:List Nat}{n:Nat} (h:Bq l < n):B6 l n=0:=by
 rw [B6,List.length_eq_zero_iff,List.eq_nil_iff_forall_not_mem];intro i hi;obtain ⟨h1,h2⟩:=Zw.1 hi;have:=Qb.1 (Xf (Bq l)) _ (Dr 0 h1);omega
theorem Z4 (l:List Nat) (n:Nat):(Bz l n).length<=n * l.length:=by
 induction n with
 | zero=>simp [Bz]
 | succ n ih =>
  have:=Qoz l (n+1) l.length;rw [Bz,Yi,Nat.succ_mul];unfold If;omega
def E0 (sv ov:Value) (F Bg C:List Nat):List Value:=sv::ov::(Ag F++(Ag Bg++Ag C))
section
variable {sv ov:Value}{F Bg C:List Nat}
theorem Qzl (hF:F.length=22) {n:Nat} (hn:n < 22):(E0 sv ov F Bg C)[2+n]? = some (.int .i64 (F.getD n 0:Nat)):=by
 rw [E0,Nat.add_comm,List.getElem?_cons_succ,List.getElem?_cons_succ,Xl (by rw [Bj];omega),F3 (by omega)]
theorem Qzm (hF:F.length=22) (hB:Bg.length=22) {n:Nat} (hn:n < 22):(E0 sv ov F Bg C)[24+n]? = some (.int .i64 (Bg.getD n 0:Nat)):=by
 rw [E0,show 24+n=(22+n+1)+1 by omega,List.getElem?_cons_succ,List.getElem?_cons_succ,Y0 (by rw [Bj];omega),Bj,hF,Xo,Xl (by rw [Bj];omega),F3 (by omega)]
theorem Qph (hF:F.length=22) (hB:Bg.length=22) (hC:C.length=22) {n:Nat} (hn:n < 22):(E0 sv ov F Bg C)[46+n]? = some (.int .i64 (C.getD n 0:Nat)):=by
 rw [E0,show 46+n=(44+n+1)+1 by omega,List.getElem?_cons_succ,List.getElem?_cons_succ,Y0 (by rw [Bj];omega),Bj,hF,Y0 (by rw [Bj];omega),Bj,hB,show 44+n - 22 - 22=n by omega,F3 (by omega)]
theorem Rp (hF:F.length=22) (hB:Bg.length=22) (hC:C.length=22):(E0 sv ov F Bg C).length=68:=by simp [E0,Bj,hF,hB,hC]
theorem QEo (hF:F.length=22) {n x:Nat} (hn:n < 22):(E0 sv ov F Bg C).set (2+n) (.int .i64 (x:Nat))=E0 sv ov (F.set n x) Bg C:=by
 rw [E0,Nat.add_comm,Yh,Yh,U2 _ _ (by rw [Bj];omega),Ip];rfl
theorem QEp (hF:F.length=22) (hB:Bg.length=22) {n x:Nat} (hn:n < 22):(E0 sv ov F Bg C).set (24+n) (.int .i64 (x:Nat))=E0 sv ov F (Bg.set n x) C:=by
 rw [E0,show 24+n=(22+n+1)+1 by omega,Yh,Yh,X6 _ _ (by rw [Bj];omega),Bj,hF,Xo,U2 _ _ (by rw [Bj];omega),Ip];rfl
theorem QEq (hF:F.length=22) (hB:Bg.length=22) (hC:C.length=22) {n x:Nat} (hn:n < 22):(E0 sv ov F Bg C).set (46+n) (.int .i64 (x:Nat))=E0 sv ov F Bg (C.set n x):=by
 rw [E0,show 46+n=(44+n+1)+1 by omega,Yh,Yh,X6 _ _ (by rw [Bj];omega),Bj,hF,X6 _ _ (by rw [Bj];omega),Bj,hB,show 44+n - 22 - 22=n by omega,Ip];rfl
end
theorem Qv5 {α:Type} (f:Nat->α) (n:Nat) (d:α) (i:Nat) (h:i < n):((Yf n).map f).getD i d=f i:=by
 rw [Yb,Y8,List.getElem?_range h];rfl
def Do (f:Nat->Nat) (n:Nat):List Nat:=(Yf 22).map fun j=>if j < n then f j else 0
theorem P4 (f:Nat->Nat) (n:Nat):(Do f n).length=22:=by simp [Do]
theorem Qpi (f:Nat->Nat) {n j:Nat} (hj:j < 22):(Do f n).getD j 0=if j < n then f j else 0:=Qv5 _ _ _ _ hj
theorem Qhz (f:Nat->Nat) (n:Nat) (hn:n < 22):(Do f n).set n (f n)=Do f (n+1):=by
 apply Xh
 ·
  simp [Do]
 intro j h1 h2;have hj:j < 22:=by simpa [Do] using h2
 rw [List.getElem_set];simp only [Do,X9,X2];by_cases e:n=j
 ·
  subst e;rw [if_pos rfl,if_pos (by omega)]
 rw [if_neg e];by_cases h3:j < n
 ·
  rw [if_pos h3,if_pos (by omega)]
 rw [if_neg h3,if_neg (by omega)]
theorem Qc7 (l:List Nat) (hs:l.length<=1000000000) (a:Option Addr) (lc:Nat) (w:World) (hr:RS w a l.length 1 (Ag l)) :
  Does Yg 180 #[.agg #[.slice a l.length lc]] w fun v w'=>Heap w [] w' []/\v=.int .i64 (Bq l:Nat):=by
 have hen:#[Value.agg #[Xt a l.length lc]]=[Value.agg [Xt a l.length lc].toArray].toArray:=rfl;rw [hen];refine Pv 18 Tryz.func180 rfl rfl (of_decide_eq_true rfl) ?_;simp only [Env.ofArgs];generalize hn:l.length=n at *;refine VQ [1] fun K hK=>?_;refine Eb ?_;refine Qs ?_;have hH:=(Yz w).box 239 [.slice a n lc];generalize w.alloc (Yq [Xt a n lc].toArray 239)=w1 at *;generalize w.heap.size=gz at *;apply hK;clear hK;refine VS [1,3] ?_;refine VQ [3,7,8,9] fun K hK=>?_;refine ⟨_,Aj (hH.at 0 rfl) rfl,?_⟩;refine Qs ?_;apply hK;clear hK;refine Ar ?_;refine Au [3,7,8,9] (fun m e w'=>∃ (i:Nat),Is e [(3,.int .i64 (Bq (l.take i):Nat)),(7,.slice a n lc),(8,.int .i64 n),(9,.int .i64 i)]/\Is w' w1/\i<=n/\m=n - i) n ?_ ?_
 ·
  refine Qs ?_;exact ⟨0,rfl,rfl,by omega,rfl⟩
 rintro m e w' ⟨i,rfl,rfl,hi,rfl⟩;refine VS [3,7,8,9,10] ?_;(repeat refine Ax ?_);refine VD (fun h=>?_) (fun h=>?_)
 ·
  obtain ⟨p,rfl⟩:=Dt hr (by omega);have hcell:=Ek (hH.rs' hr) (i:=i) (by omega);have hs2:=Qay (l:=l) (i:=i) (by omega);refine Ab ?_;refine VB ?_;refine VQ [3,5,7,8,9] fun K hK=>?_;refine ⟨⟨by omega,by omega⟩,_,hcell,?_⟩;apply hK;clear hK;refine VQ [3,7,8,9] fun K hK=>?_;rw [show max ((Bq (l.take i):Nat):Int) ((l.getD i 0:Nat):Int)=((Bq (l.take (i+1)):Nat):Int) by rw [hs2];omega];apply hK;clear hK;refine Ao ?_;refine VS [3,7,8,9] ?_;refine Ah ?_;refine Qs ?_;exact ⟨n - (i+1),by omega,i+1,rfl,rfl,by omega,rfl⟩
 refine As rfl ?_;refine VS [2] ?_;refine Ad (A2 rfl rfl ⟨hH.sub (by simp),?_⟩);rw [Yp (by omega)]
def M7 (g:Nat) (sv:Value) (ao:Option Addr) (co no:Nat) (F Bg C:List Nat):Res:=Yj g 242 (E0 sv (.slice ao no co) F Bg C)
def Mj (g:Nat) (sv:Value) (ao:Option Addr) (co:Nat) (l:List Nat):Res:=M7 g sv ao co (Bz l (Bq l)).length (Do (Bw l) (Bq l+1)) (Do (Dx l) (Bq l+1)) (Do (B6 l) (Bq l+1))
def Oh (ao:Option Addr) (co:Nat) (l:List Nat):Res:=Yr 3 1 ao (Bz l (Bq l)).length co (Ag (Bz l (Bq l)))
theorem Z5 {l:List Nat} (h:Fa l):1<=Bq l/\Bq l<=20:=by
 refine ⟨?_,Qb.2 fun x hx=>(h.2.2.1 x hx).2⟩;obtain ⟨h1,_,h3,_⟩:=h;cases l with
 | nil=>simp at h1
 | cons x l=>exact Gd (h3 x (by simp)).1 (Qb.1 (Xf _) x (by simp))
theorem Qh0 {f:Nat->Nat} (h:f 0=0):Do f 1=Yc 22 0:=by
 apply Xh
 ·
  simp [Do]
 intro j h1 h2;simp only [Do,X9,X2,List.getElem_replicate];split
 ·
  rw [show j=0 by omega,h]
 rfl
section
variable {w0 w:World}{B:List Nat}{G:List Res}{g:Nat}{sv:Value}{ao:Option Addr}{co no:Nat}{F Bg C:List Nat}{D:World->Prop}
theorem Qns (hH:Heap w0 B w G) (i:Nat) {n x:Nat} (hi:G[i]? = some (M7 g sv ao co no F Bg C)) (lF:F.length=22) (lB:Bg.length=22) (lC:C.length=22) (hn:n < 22)
  (h:∀ w',Heap w0 B w' (G.set i (M7 g sv ao co no (F.set n x) Bg C))->D w'):Mw Yg 3 (.pointer (some ⟨g,2+n,none⟩)) (.int .i64 (x:Nat)) w D:=by
 refine Al hH i (o:=2+n) (vs:=[.int .i64 (x:Nat)]) hi rfl (by kernel_rfl) (by rw [Rp lF lB lC];simp;omega) (by simp [Yo]) fun w' hH2=>h w' ?_;rw [Yy,Di _ _ _ (by rw [Rp lF lB lC];omega),QEo lF hn] at hH2;exact hH2
theorem Qnt (hH:Heap w0 B w G) (i:Nat) {n x:Nat} (hi:G[i]? = some (M7 g sv ao co no F Bg C)) (lF:F.length=22) (lB:Bg.length=22) (lC:C.length=22) (hn:n < 22)
  (h:∀ w',Heap w0 B w' (G.set i (M7 g sv ao co no F (Bg.set n x) C))->D w'):Mw Yg 3 (.pointer (some ⟨g,24+n,none⟩)) (.int .i64 (x:Nat)) w D:=by
 refine Al hH i (o:=24+n) (vs:=[.int .i64 (x:Nat)]) hi rfl (by kernel_rfl) (by rw [Rp lF lB lC];simp;omega) (by simp [Yo]) fun w' hH2=>h w' ?_;rw [Yy,Di _ _ _ (by rw [Rp lF lB lC];omega),QEp lF lB hn] at hH2;exact hH2
theorem Qnu (hH:Heap w0 B w G) (i:Nat) {n x:Nat} (hi:G[i]? = some (M7 g sv ao co no F Bg C)) (lF:F.length=22) (lB:Bg.length=22) (lC:C.length=22) (hn:n < 22)
  (h:∀ w',Heap w0 B w' (G.set i (M7 g sv ao co no F Bg (C.set n x)))->D w'):Mw Yg 3 (.pointer (some ⟨g,46+n,none⟩)) (.int .i64 (x:Nat)) w D:=by
 refine Al hH i (o:=46+n) (vs:=[.int .i64 (x:Nat)]) hi rfl (by kernel_rfl) (by rw [Rp lF lB lC];simp;omega) (by simp [Yo]) fun w' hH2=>h w' ?_;rw [Yy,Di _ _ _ (by rw [Rp lF lB lC];omega),QEq lF lB lC hn] at hH2;exact hH2
theorem Qnv (hH:Heap w0 B w G) (i:Nat) {ao':Option Addr}{co' no':Nat} (hi:G[i]? = some (M7 g sv ao co no F Bg C)) (lF:F.length=22) (lB:Bg.length=22) (lC:C.length=22)
  (h:∀ w',Heap w0 B w' (G.set i (M7 g sv ao' co' no' F Bg C))->D w'):Mw Yg 114 (.pointer (some ⟨g,1,none⟩)) (.slice ao' no' co') w D:=by
 refine Al hH i (o:=1) (vs:=[.slice ao' no' co']) hi rfl (by kernel_rfl) (by rw [Rp lF lB lC];simp) (by simp [Yo]) fun w' hH2=>h w' ?_;exact hH2
end
theorem Qjr (l:List Nat) (hok:Fa l) (a:Option Addr) (lc:Nat) (w:World) (hr:RS w a l.length 1 (Ag l)) :
  Does Yg 145 #[.slice a l.length lc] w fun v w'=>∃ g ao co,Heap w [] w' [Mj g (.slice a l.length lc) ao co l,Oh ao co l]/\v=.tuple #[.pointer (some ⟨g,0,none⟩),.int .i64 0]:=by
 have hc1:=Qak l a lc w hr;rw [if_pos (Zy.2 hok)] at hc1;obtain ⟨hL1,hL20⟩:=Z5 hok;have hfl:=fun n hn=>Vg hok (n:=n) hn;have hc0:B6 l 0=0:=Qds fun x hx=>(hok.2.2.1 x hx).1;obtain ⟨hl2,hl258,_,_⟩:=hok;have hcl:=Qc7 l (by omega) a lc;refine En [.slice a l.length lc] 84 Tryz.func145 ?_;unfold Mj Oh M7;generalize hLL:Bq l=L at *;generalize hn:l.length=n at *;obtain ⟨p,rfl⟩:=Dt hr (by omega);refine Am [0] fun K hK=>?_;apply hK;clear hK;refine Am [0,4] fun K hK=>?_;refine Ac Tryz.call125 ?_;refine Qi ?_;refine Yk hc1 ?_;rintro v w2 ⟨rfl,rfl⟩;apply hK;clear hK;refine Am [0,4,13] fun K hK=>?_;apply hK;clear hK;refine Ae rfl rfl (fun h=>by simp at h) (fun h=>Ab ?_);clear h hc1;refine Am [5] fun K hK=>?_;refine Eb ?_;refine Qi ?_
 suffices hsuf:K [(5,.pointer (some ⟨w2.heap.size,0,none⟩))] (w2.alloc (Yq (E0 (.slice (some p) n lc) (.slice none 0 0) (Yc 22 0) (Yc 22 0) (Yc 22 0)).toArray 242)) from hsuf
 have hH:=((Yz w2).box 242 (E0 (.slice (some p) n lc) (.slice none 0 0) (Yc 22 0) (Yc 22 0) (Yc 22 0))).nilRow 3 1;generalize w2.alloc (Yq (E0 (.slice (some p) n lc) (.slice none 0 0) (Yc 22 0) (Yc 22 0) (Yc 22 0)).toArray 242)=w3 at *;generalize w2.heap.size=g at *;apply hK;clear hK;refine Am [5,6] fun K hK=>?_;apply hK;clear hK;refine Am [5,6,7] fun K hK=>?_;apply hK;clear hK;refine Ar ?_;refine Au [5,6,7] (fun m e w'=>∃ (j:Nat) (ao:Option Addr) (co:Nat),Is e [(5,.pointer (some ⟨g,0,none⟩)),(6,.int .i64 (Bw l j+B6 l j:Nat)),(7,.int .i64 (j+1:Nat))]/\Heap w2 [] w' [Yr 3 1 ao (Bz l j).length co (Ag (Bz l j)),M7 g (.slice (some p) n lc) ao co (Bz l j).length (Do (Bw l) (j+1)) (Do (Dx l) (j+1)) (Do (B6 l) (j+1))]/\j<=L/\m=L - j) L ?_ ?_
 ·
  refine Qi ?_;refine ⟨0,none,0,?_,?_,by omega,rfl⟩
  ·
   rw [hc0];rfl
  rw [Qh0 rfl,Qh0 rfl,Qh0 hc0];exact hH
 clear hH;rintro m e w4 ⟨j,ao,co,rfl,hH,hj,rfl⟩;have hcz:(E0 (.slice (some p) n lc) (.slice ao (Bz l j).length co) (Do (Bw l) (j+1)) (Do (Dx l) (j+1)) (Do (B6 l) (j+1)))[0]? = some (.slice (some p) n lc):=rfl
 have hsv:Reads w4 ⟨g,0,none⟩ [.slice (some p) n lc]:=by
  intro q u hu;cases q with
  | zero =>
   simp at hu;subst hu;exact Aj (hH.at 1 rfl) hcz
  | succ q=>simp at hu
 have hol:=Z4 l j;rw [hn] at hol;have hol2:(Bz l j).length<=20 * 258:=Gd hol (X4 (by omega) hl258);have hf1:=hfl j (by omega);have hp2:2 ^ j<=2 ^ 20:=Yx (by omega) (by omega);have hp3:2 ^ j<=1048576:=hp2;refine Am [5,6,7,25] fun K hK=>?_;refine ⟨_,⟨rfl,hsv⟩,?_⟩;refine Ac Tryz.call180 ?_;refine Qi ?_;refine Yk (hcl w4 (hH.rs' hr)) ?_;rintro v w5 ⟨hHl,rfl⟩;have hH2:=hH.call0 hHl;simp only [Yl] at hH2;clear hH hHl hsv;refine Qi ?_;apply hK;clear hK;refine VD (fun h=>?_) (fun h=>?_)
 ·
  have hj2:j+1<=L:=by omega
  have hf2:=hfl (j+1) (by omega);have hp4:2 ^ (j+1)<=2 ^ 20:=Yx (by omega) (by omega);have hp5:2 ^ (j+1)<=1048576:=hp4;have hfs:Bw l (j+1)=(Bw l j+B6 l j) * 2:=by rw [Bw,Gf]
  have hbs:Dx l (j+1)=(Bz l j).length:=by rw [Dx,Xq]
  have hsF:=Qhz (Bw l) (j+1) (by omega);have hsB:=Qhz (Dx l) (j+1) (by omega);have hsC:=Qhz (B6 l) (j+1) (by omega);have lF:=P4 (Bw l) (j+1);have lB:=P4 (Dx l) (j+1);have lC:=P4 (B6 l) (j+1);have lF2:=P4 (Bw l) (j+1+1);have lB2:=P4 (Dx l) (j+1+1);have hcnt:(Cj l (j+1) n).length=B6 l (j+1):=by rw [B6,If,hn]
  have hoS:Bz l (j+1)=Bz l j++Cj l (j+1) n:=by rw [Bz,If,hn]
  generalize hFF:Do (Bw l) (j+1)=F at *;generalize hBB:Do (Dx l) (j+1)=Bg at *;generalize hCC:Do (B6 l) (j+1)=C at *;generalize hO:Bz l j=O at *;refine Ab ?_
  ((repeat refine Ax ?_);refine Ar ?_)
  refine Am [5,6,7] fun K hK=>?_;rw [show Bx Xp 1=1 from rfl,show (((Bw l j+B6 l j:Nat):Int) * 2 ^ 1)=((Bw l (j+1):Nat):Int) by rw [hfs];push_cast;rfl];(repeat first | refine Qo ?_ | refine ⟨⟨by omega,by omega⟩,?_⟩);apply hK;clear hK;(repeat refine Ax ?_);refine Qb6 [5,6,7] [(0,0),(1,0),(2,0),(3,0),(4,0),(5,0),(6,0),(7,0),(10,0),(11,0),(14,0),(15,0),(8,1),(9,0),(12,0),(13,2),(16,0),(17,2)] (by kernel_rfl) (by kernel_rfl) (by kernel_rfl) (by simp only [Bd,List.map_cons,List.map_nil,beq_self_eq_true,Nat.reduceBEq,List.filterMap_cons,List.filterMap_nil,List.getElem?_cons_succ,List.getElem?_cons_zero,Option.map_some];rfl) fun K hK=>?_;refine Qi ?_;refine ⟨_,Aj (hH2.at 1 rfl) (show (E0 (.slice (some p) n lc) (.slice ao O.length co) F Bg C)[1]? = some _ from rfl),?_⟩;refine Qi ?_;refine ⟨⟨by omega,by omega⟩,?_⟩;refine Af ?_;refine Qi ?_;refine Qns hH2 1 (n:=j+1) rfl lF lB lC (by omega) fun w6 hH3=>?_;simp only [Yh,Yd,hsF] at hH3;refine ⟨⟨by omega,by omega⟩,?_⟩;refine Af ?_;refine Qi ?_;rw [<- hbs];refine Qnt hH3 1 (n:=j+1) rfl lF2 lB lC (by omega) fun w7 hH4=>?_;simp only [Yh,Yd,hsB] at hH4;clear hH2 hH3;apply hK;clear hK;refine Am [5,6,7,50,51,52] fun K hK=>?_;refine ⟨_,Aj (hH4.at 1 rfl) (show (E0 (.slice (some p) n lc) (.slice ao (Dx l (j+1)) co) (Do (Bw l) (j+1+1)) (Do (Dx l) (j+1+1)) C)[0]? = some _ from rfl),?_⟩;refine Qi ?_;apply hK;clear hK;refine Ar ?_;refine Au [5,6,7,50,51,52] (fun m e w'=>∃ (i:Nat) (ao:Option Addr) (co:Nat),Is e [(5,.pointer (some ⟨g,0,none⟩)),(6,.int .i64 (Bw l (j+1)+(Cj l (j+1) i).length:Nat)),(7,.int .i64 (j+1:Nat)),(50,.slice (some p) n lc),(51,.int .i64 n),(52,.int .i64 i)]/\Heap w2 [] w' [Yr 3 1 ao (O++Cj l (j+1) i).length co (Ag (O++Cj l (j+1) i)),M7 g (.slice (some p) n lc) ao co (O++Cj l (j+1) i).length (Do (Bw l) (j+1+1)) (Do (Dx l) (j+1+1)) (C.set (j+1) (Cj l (j+1) i).length)]/\i<=n/\m=n - i) n ?_ ?_
  ·
   refine Qi ?_;have e0:Cj l (j+1) 0=[]:=rfl;refine ⟨0,ao,co,rfl,?_,by omega,rfl⟩
   have hcs:C.set (j+1) (Cj l (j+1) 0).length=C:=by
    rw [e0,Uw];apply Xh
    ·
     simp
    intro q h1 h2;rw [List.getElem_set];split
    ·
     rename_i e;subst e;have:=Qpi (B6 l) (n:=j+1) (j:=j+1) (by omega);rw [hCC,if_neg (by omega),Yb,Ya h2] at this;exact this.symm
    rfl
   rw [hcs,e0,Yu];exact hH4
  clear hH4;rintro m e w8 ⟨i,ao,co,rfl,hH,hi,rfl⟩;refine Am [5,6,7,50,51,52,53] fun K hK=>?_;apply hK;clear hK;(repeat refine Ax ?_);refine VD (fun h=>?_) (fun h=>?_)
  ·
   have hcell:=Ek (hH.rs' hr) (i:=i) (by omega);have hix:=T6 l (j+1) i;have hil:=Qoz l (j+1) i;have hlC:(C.set (j+1) (Cj l (j+1) i).length).length=22:=by rw [Ud];exact lC
   have hgC:(C.set (j+1) (Cj l (j+1) i).length).getD (j+1) 0=(Cj l (j+1) i).length:=Pr (by omega);have hset:∀ x,(C.set (j+1) (Cj l (j+1) i).length).set (j+1) x=C.set (j+1) x:=fun x=>List.set_set _;generalize hx:l.getD i 0=x at *;generalize hI:Cj l (j+1) i=I at *;refine Ab ?_
   ((repeat refine Ax ?_);refine Ar ?_)
   refine Am [5,6,7,8,9,50,51,52] fun K hK=>?_;refine ⟨⟨by omega,by omega⟩,_,hcell,?_⟩;apply hK;clear hK;refine Am [5,6,7,8,50,51,52,59] fun K hK=>?_;apply hK;clear hK;refine VD (fun h=>?_) (fun h=>?_)
   ·
    rw [if_pos (by omega)] at hix;refine Am [5,6,7,50,51,52] fun K hK=>?_;refine ⟨_,Aj (hH.at 1 rfl) (show (E0 (.slice (some p) n lc) (.slice ao (O++I).length co) (Do (Bw l) (j+1+1)) (Do (Dx l) (j+1+1)) (C.set (j+1) I.length))[1]? = some _ from rfl),?_⟩;refine Kp (xs:=[.tmp 65]) Ye Lj rfl rfl rfl (by omega) ?_;refine Qi ?_;refine ⟨by simp [Xg],?_⟩;refine Cl ?_;refine Qi ?_;refine Qhy hH 0 (i) rfl Ye E2 (by first | rfl | (simp;done) | omega | (simp;omega)) (fun h=>by (first | omega | (simp;done) | (simp;omega))) fun a' cap' w5 hc' hH5=>?_;(try refine Qi ?_);simp only [Yd] at hH5;rw [Yn,<- hix] at hH5 ⊢;refine Af ?_;refine Qi ?_;refine Qnv hH5 1 rfl lF2 lB2 hlC fun w9 hH6=>?_;simp only [Yh,Yd] at hH6;clear hH5;apply hK;clear hK;have hcc:=Qph (sv:=.slice (some p) n lc) (ov:=.slice a' (O++Cj l (j+1) (i+1)).length cap') lF2 lB2 hlC (n:=j+1) (by omega);rw [hgC] at hcc;(repeat refine Ax ?_);refine W2 [5,6,7,50,51,52] 10 (by kernel_rfl) (by kernel_rfl) (by kernel_rfl) rfl fun K hK=>?_;refine Qi ?_;refine ⟨⟨by omega,by omega⟩,_,Aj (hH6.at 1 rfl) hcc,?_⟩;refine Qi ?_;refine ⟨Y4 (by omega) (by omega),⟨by omega,by omega⟩,?_⟩;refine Af ?_;refine Qi ?_;refine Qnu hH6 1 (n:=j+1) (x:=I.length+1) rfl lF2 lB2 hlC (by omega) fun w10 hH7=>?_;simp only [Yh,Yd,hset] at hH7;apply hK;clear hK;refine Am [5,6,7,50,51,52] fun K hK=>?_;(repeat refine Qo ?_);apply hK;clear hK;refine Ao ?_;refine Am [5,6,7,50,51,52] fun K hK=>?_;(repeat refine Qo ?_);apply hK;clear hK;refine Ah ?_;refine Qi ?_;have hil2:(Cj l (j+1) (i+1)).length=I.length+1:=by rw [hix];simp
    refine ⟨n - (i+1),by omega,i+1,a',cap',?_,?_,by omega,rfl⟩
    ·
     rw [hil2];rfl
    rw [hil2];exact hH7
   rw [if_neg (by omega),Yu] at hix;refine Ab ?_;refine Ao ?_;refine Am [5,6,7,50,51,52] fun K hK=>?_;(repeat refine Qo ?_);apply hK;clear hK;refine Ah ?_;refine Qi ?_;exact ⟨n - (i+1),by omega,i+1,ao,co,by rw [hix];rfl,by rw [hix];exact hH,by omega,rfl⟩
  obtain rfl:i=n:=by omega
  rw [hcnt,hsC,<- hoS] at hH;refine As rfl ?_;refine Ao ?_;rw [hcnt];refine Am [5,6,7] fun K hK=>?_;(repeat refine Qo ?_);apply hK;clear hK;refine Ah ?_;refine Qi ?_;exact ⟨L - (j+1),by omega,j+1,ao,co,rfl,hH,by omega,rfl⟩
 obtain rfl:j=L:=by omega
 refine As rfl ?_;refine Am [2,3] fun K hK=>?_;apply hK;clear hK;exact Ad (A7 rfl rfl rfl ⟨g,ao,co,hH2.perm (List.Perm.swap _ _ _),rfl⟩)
theorem Qtv (d:Nat) (b:Bool):(Yc (d+1) [true,b]).flatten=(Yc d [true,b]).flatten++[true,b]:=by
 rw [List.replicate_succ',List.flatten_append];simp
def N3:Nat->List Nat->Nat
 | p,[]=>p
 | _,y::l=>N3 y l
theorem Qc8:∀ (l:List Nat) (p x:Nat),Ec p (l++[x])=Ec p l++(O0 (N3 p l) x++[false])
 | [],p,x=>by simp [Ec,N3]
 | y::l,p,x=>by
  rw [Y6,Ec,Qc8 l y x,Ec,N3];simp
theorem Qeq:∀ (l:List Nat) (p x:Nat),N3 p (l++[x])=x
 | [],p,x=>rfl
 | y::l,p,x=>by rw [Y6,N3,Qeq l y x]
theorem Qjs {lo hi:Nat}:∀ (l:List Nat) (p:Nat),(lo<=p/\p<=hi)->(∀ x∈l,lo<=x/\x<=hi)->lo<=N3 p l/\N3 p l<=hi
 | [],p,hp,_=>hp
 | y::l,p,hp,h=>Qjs l y (h y (by simp)) fun x hx=>h x (by simp [hx])
theorem Qrz (p x:Nat):O0 p x=(Yc (x - p) [true,false]).flatten++(Yc (p - x) [true,true]).flatten:=by
 unfold O0;split
 ·
  rw [show p - x=0 by omega];simp
 rw [show x - p=0 by omega];simp
theorem Wy:∀ (l:List Nat) (p:Nat),(p<=20)->(∀ x∈l,x<=20)->(Ec p l).length<=41 * l.length
 | [],p,_,_=>by simp [Ec]
 | x::l,p,hp,hx=>by
  have h1:=hx x (by simp);have h2:=Wy l x h1 fun y hy=>hx y (by simp [hy]);have h3:=Qa9 p x;simp only [Ec,Yi,Y1];omega
theorem Qfv (l:List Nat) (hl:2<=l.length) (hl2:l.length<=258) (hx:∀ x∈l,1<=x/\x<=20) (a:Option Addr) (lc:Nat) (w:World) (hr:RS w a l.length 1 (Ag l)) :
  Does Yg 107 #[.slice a l.length lc] w fun v w'=>Heap w [] w' []/\v=.tuple #[Lu (De l),.int .i64 0]:=by
 obtain ⟨p,rfl⟩:=Dt hr (by omega);have hget:∀ i,i < l.length->1<=l.getD i 0/\l.getD i 0<=20:=fun i hi=>hx _ (Dr 0 hi);refine En [.slice (some p) l.length lc] 71 Tryz.func107 ?_;generalize hn:l.length=n at *;refine VQ [0,2] fun K hK=>?_;refine A6 (.agg #[.string ⟨#[]⟩,.int .i64 0]) (by kernel_rfl) ?_;refine Qs ?_;have hH:=(Yz w).box 70 [.string ⟨#[]⟩,.int .i64 0];generalize w.alloc (Yq [Value.string ⟨#[]⟩,.int .i64 0].toArray 70)=w1 at *;generalize w.heap.size=gr at *;apply hK;clear hK;refine VQ [0,2,17] fun K hK=>?_
 suffices out:∀ b:Bool,(b=true ↔ False)->K [(0,.slice (some p) n lc),(2,.pointer (some ⟨gr,0,none⟩)),(17,.bool b)] w1 by (repeat' (first | exact out _ _ (by first | omega | (simp;done) | (simp;omega)) | exact out _ (by first | omega | (simp;done) | (simp;omega)) | refine ⟨fun _=>?_,fun _=>?_⟩ | refine Qo ?_))
 intro b hb;apply hK;clear hK;refine Ae rfl rfl (fun h=>(hb.1 h).elim) (fun h=>Ab ?_);clear hb h;refine VS [0,2,19,20,21] ?_;refine Ar ?_;refine Au [0,2,19,20,21] (fun m e w'=>∃ (i:Nat),Is e [(0,.slice (some p) n lc),(2,.pointer (some ⟨gr,0,none⟩)),(19,.slice (some p) n lc),(20,.int .i64 n),(21,.int .i64 i)]/\Is w' w1/\i<=n/\m=n - i) n ?_ ?_
 ·
  refine Qs ?_;exact ⟨0,rfl,rfl,by omega,rfl⟩
 rintro m e w2 ⟨i,rfl,rfl,hi,rfl⟩;refine VS [0,2,19,20,21,22] ?_;(repeat refine Ax ?_);refine VD (fun h=>?_) (fun h=>?_)
 ·
  have hcell:=Ek (hH.rs' hr) (i:=i) (by omega);have hg:=hget i (by omega);generalize l.getD i 0=x at *;refine Ab ?_;refine VB ?_;refine VQ [0,2,5,19,20,21] fun K hK=>?_;refine ⟨⟨by omega,by omega⟩,_,hcell,?_⟩;apply hK;clear hK;refine VQ [0,2,19,20,21,30] fun K hK=>?_
  suffices out:∀ b:Bool,(b=true ↔ False)->K [(0,.slice (some p) n lc),(2,.pointer (some ⟨gr,0,none⟩)),(19,.slice (some p) n lc),(20,.int .i64 n),(21,.int .i64 i),(30,.bool b)] w2 by (repeat' (first | exact out _ _ (by first | omega | (simp;done) | (simp;omega)) | exact out _ (by first | omega | (simp;done) | (simp;omega)) | refine ⟨fun _=>?_,fun _=>?_⟩ | refine Qo ?_))
  intro b hb;apply hK;clear hK;refine Ae rfl rfl (fun h=>(hb.1 h).elim) (fun h=>Ab ?_);refine Ao ?_;refine VS [0,2,19,20,21] ?_;refine Ah ?_;refine Qs ?_;exact ⟨n - (i+1),by omega,i+1,rfl,rfl,by omega,rfl⟩
 obtain rfl:i=n:=by omega
 refine As rfl ?_;refine VQ [0,2,6] fun K hK=>?_;refine Ac Tryz.call32 ?_;refine Qs ?_;refine Yk (Q2 w2) ?_;rintro v w5 ⟨gw,hH2,rfl⟩;have hH3:=hH.call0 hH2;clear hH hH2 hi h;apply hK;clear hK;have h0:=hget 0 (by omega);have hc0:=Ek (hH3.rs' hr) (i:=0) (by omega);have hdS:De l=A0 5 (l.getD 0 0)++Ec (l.getD 0 0) l:=rfl;rw [hdS];generalize hx0:l.getD 0 0=x0 at *;refine VQ [0,2,6] fun K hK=>?_;refine ⟨by omega,_,hc0,?_⟩;refine Qs ?_;rw [show ((x0:Int) % 18446744073709551616)=x0 by omega];refine Ac U3 ?_;refine Qs ?_;refine Yk (Iq gw none 0 [] x0 5 w5 (by omega) (by omega) (by simp) (hH3.focus 0 rfl)) ?_;rintro v w7 ⟨a2,c2,hHw,rfl⟩;rw [Yl] at hHw;have hH4:=hH3.call1 0 rfl hHw;simp only [Yd,Yl] at hH4;clear hH3 hHw hc0;have hc0:=Ek (hH4.rs' hr) (i:=0) (by omega);rw [hx0] at hc0;apply hK;clear hK;refine VQ [0,2,6,7] fun K hK=>?_;refine ⟨by omega,_,hc0,?_⟩;apply hK;clear hK;refine VS [2,6,7,43,44,45] ?_;refine Ar ?_;refine Au [2,6,7,43,44,45] (fun m e w'=>∃ (k:Nat) (a:Option Addr) (c:Nat),Is e [(2,.pointer (some ⟨gr,0,none⟩)),(6,.pointer (some ⟨gw,0,none⟩)),(7,.int .i64 (N3 x0 (l.take k):Nat)),(43,.slice (some p) i lc),(44,.int .i64 i),(45,.int .i64 k)]/\Heap w [] w' [wr gw a c (A0 5 x0++Ec x0 (l.take k)),Yj gr 70 [.string ⟨#[]⟩,.int .i64 0]]/\k<=i/\m=i - k) i ?_ ?_
 ·
  refine Qs ?_;exact ⟨0,a2,c2,rfl,by simpa [Ec] using hH4,by omega,rfl⟩
 clear hH4 hc0 hdS;rintro m e w8 ⟨k,a3,c3,rfl,hH,hk,rfl⟩;refine VS [2,6,7,43,44,45,46] ?_;(repeat refine Ax ?_);refine VD (fun h=>?_) (fun h=>?_)
 ·
  have hcell:=Ek (hH.rs' hr) (i:=k) (by omega);have hg:=hget k (by omega);have htk:=Mq 0 (l:=l) (i:=k) (by omega);have hlo:=Qjs (l.take k) x0 h0 fun x hx'=>hx x (Ub hx');have hdl:=Wy (l.take k) x0 h0.2 fun x hx'=>(hx x (Ub hx')).2;have hdl2:(l.take k).length<=258:=by rw [Xi];omega
  have hsn:=Qc8 (l.take k) x0 (l.getD k 0);have hls:=Qeq (l.take k) x0 (l.getD k 0);rw [<- htk] at hsn hls;rw [Qrz] at hsn;have hbl:=Ct 5 x0;generalize l.getD k 0=x at *;generalize N3 x0 (l.take k)=p0 at *;generalize hB:A0 5 x0++Ec x0 (l.take k)=Bt at *;have hBl:Bt.length<=11000:=by rw [<- hB,Yi];omega
  refine Ab ?_;refine VB ?_;refine VQ [2,6,7,9,43,44,45] fun K hK=>?_;refine ⟨⟨by omega,by omega⟩,_,hcell,?_⟩;apply hK;clear hK;refine VB ?_;refine Au [2,6,7,9,43,44,45] (fun m e w'=>∃ (d:Nat) (a:Option Addr) (c:Nat),Is e [(2,.pointer (some ⟨gr,0,none⟩)),(6,.pointer (some ⟨gw,0,none⟩)),(7,.int .i64 (p0+d:Nat)),(9,.int .i64 x),(43,.slice (some p) i lc),(44,.int .i64 i),(45,.int .i64 k)]/\Heap w [] w' [wr gw a c (Bt++(Yc d [true,false]).flatten),Yj gr 70 [.string ⟨#[]⟩,.int .i64 0]]/\d<=x - p0/\m=x - p0 - d) (x - p0) ?_ ?_
  ·
   refine Qs ?_;exact ⟨0,a3,c3,rfl,by simpa using hH,by omega,rfl⟩
  clear hH hcell;rintro m e w9 ⟨d,a4,c4,rfl,hH,hd,rfl⟩;refine VS [2,6,7,9,43,44,45,51] ?_;refine VD (fun h=>?_) (fun h=>?_)
  ·
   refine Ab ?_;refine VB ?_;refine VQ [2,6,7,9,43,44,45] fun K hK=>?_;refine Ac U3 ?_;refine Qs ?_;refine Yk (Iq gw a4 c4 _ 2 2 w9 (by omega) (by omega) (by rw [Yi,T7];omega) (hH.focus 0 rfl)) ?_;rintro v w10 ⟨a5,c5,hHw,rfl⟩;have e2:A0 2 2=[true,false]:=rfl;rw [e2,Yn,<- Qtv] at hHw;have hH2:=hH.call1 0 rfl hHw;simp only [Yd,Yl] at hH2;apply hK;clear hK;refine Ao ?_;refine VS [2,6,7,9,43,44,45] ?_;refine Ah ?_;refine Qs ?_;exact ⟨x - p0 - (d+1),by omega,d+1,a5,c5,rfl,hH2,by omega,rfl⟩
  obtain rfl:d=x - p0:=by omega
  refine As rfl ?_;generalize hB2:Bt++(Yc (x - p0) [true,false]).flatten=Bt2 at *;have hBl2:Bt2.length<=11100:=by rw [<- hB2,Yi,T7];omega
  refine VB ?_;refine Au [2,6,7,9,43,44,45] (fun m e w'=>∃ (d:Nat) (a:Option Addr) (c:Nat),Is e [(2,.pointer (some ⟨gr,0,none⟩)),(6,.pointer (some ⟨gw,0,none⟩)),(7,.int .i64 ((p0+(x - p0) - d:Nat):Int)),(9,.int .i64 x),(43,.slice (some p) i lc),(44,.int .i64 i),(45,.int .i64 k)]/\Heap w [] w' [wr gw a c (Bt2++(Yc d [true,true]).flatten),Yj gr 70 [.string ⟨#[]⟩,.int .i64 0]]/\d<=p0 - x/\m=p0 - x - d) (p0 - x) ?_ ?_
  ·
   refine Qs ?_;exact ⟨0,a4,c4,rfl,by simpa using hH,by omega,rfl⟩
  clear hH;rintro m e w10 ⟨d,a5,c5,rfl,hH,hd,rfl⟩;refine VS [2,6,7,9,43,44,45,58] ?_;refine VD (fun h=>?_) (fun h=>?_)
  ·
   refine Ab ?_;refine VB ?_;refine VQ [2,6,7,9,43,44,45] fun K hK=>?_;refine Ac U3 ?_;refine Qs ?_;refine Yk (Iq gw a5 c5 _ 3 2 w10 (by omega) (by omega) (by rw [Yi,T7];omega) (hH.focus 0 rfl)) ?_;rintro v w11 ⟨a6,c6,hHw,rfl⟩;have e2:A0 2 3=[true,true]:=rfl;rw [e2,Yn,<- Qtv] at hHw;have hH2:=hH.call1 0 rfl hHw;simp only [Yd,Yl] at hH2;apply hK;clear hK;refine Ao ?_;refine VS [2,6,7,9,43,44,45] ?_;refine Ah ?_;refine Qs ?_;refine ⟨p0 - x - (d+1),by omega,d+1,a6,c6,?_,hH2,by omega,rfl⟩;rw [show ((p0+(x - p0) - d:Nat):Int) - 1=((p0+(x - p0) - (d+1):Nat):Int) by omega];rfl
  obtain rfl:d=p0 - x:=by omega
  refine As rfl ?_;refine VQ [2,6,7,43,44,45] fun K hK=>?_;refine Ac U3 ?_;refine Qs ?_;refine Yk (Iq gw a5 c5 _ 0 1 w10 (by omega) (by omega) (by rw [Yi,T7];omega) (hH.focus 0 rfl)) ?_;rintro v w11 ⟨a6,c6,hHw,rfl⟩;have e2:A0 1 0=[false]:=rfl;rw [e2] at hHw;have hH2:=hH.call1 0 rfl hHw;simp only [Yd,Yl] at hH2;apply hK;clear hK;refine Ao ?_;refine VS [2,6,7,43,44,45] ?_;refine Ah ?_;refine Qs ?_;refine ⟨i - (k+1),by omega,k+1,a6,c6,?_,?_,by omega,rfl⟩
  ·
   rw [hls,show p0+(x - p0) - (p0 - x)=x by omega];rfl
  rw [hsn,<- Yn,hB,<- Yn,<- Yn,hB2];exact hH2
 obtain rfl:k=i:=by omega
 rw [Yp (by omega)] at hH;refine As rfl ?_;refine VQ [2,3] fun K hK=>?_;refine Ac Tryz.call36 ?_;refine Qs ?_;refine Yk (Py gw a3 c3 _ w8 (hH.at 0 rfl)) ?_;rintro v w9 ⟨rfl,rfl⟩;refine Ac Tryz.call37 ?_;refine Qs ?_;refine Yk (Oy gw a3 c3 _ w9 (hH.at 0 rfl)) ?_;rintro v w10 ⟨rfl,rfl⟩;refine Qs ?_;generalize A0 5 x0++Ec x0 l=R at *;refine Af ?_;refine Qs ?_;refine Al hH 1 (vs:=Ay R) rfl rfl (by kernel_rfl) (by simp [Ay]) (by simp [Ay,Yo]) fun w11 hH2=>?_;have hH2:Heap w [] w11 [wr gw a3 c3 R,Yj gr 70 (Ay R)]:=hH2;apply hK;clear hK;refine Ad (I4 rfl rfl rfl (Cv (hH2.at 1 rfl) (by kernel_rfl) (by kernel_rfl) rfl ?_));exact ⟨hH2.sub (by simp),rfl⟩
def Qs3 (r:Except Int (List Nat×Nat)) (w:World) (v:Value) (w':World):Prop:=match r with
 | .ok q=>∃ a cap,Heap w [] w' [Yr 3 1 a q.1.length cap (Ag q.1)]/\v=.tuple #[.slice a q.1.length cap,.int .i64 q.2,.int .i64 0]
 | .error e=>Heap w [] w' []/\v=.tuple #[.slice none 0 0,.int .i64 0,.int .i64 e]
theorem QEr (r:List Bool) (now at_:Nat):Bv r now 0 at_=.ok ([],at_):=by
 match r with
 | []=>simp [Bv]
 | false::r=>simp [Bv]
 | [true]=>simp [Bv]
 | true::d::r=>simp [Bv]
theorem QJi (r:List Bool) {now k:Nat} (at_:Nat) (hk:k≠0) (h:now < 1∨20 < now):Bv r now k at_=.error 80:=by
 match r with
 | []=>simp only [Bv,if_neg hk,if_pos h]
 | false::r=>simp only [Bv,if_neg hk,if_pos h]
 | [true]=>simp only [Bv,if_neg hk,if_pos h]
 | true::d::r=>simp only [Bv,if_neg hk,if_pos h]
theorem Qbh (s:List UInt8) (g9 gr gs p n:Nat) (hn:n<=60) (hp:p<=8 * s.length) (hs:s.length<=100000000000000) (w0 w:World) (B:List Nat) (G:List Res) (hL:Heap w0 B w (rd gr gs s p::Yj g9 130 [.pointer (some ⟨gr,0,none⟩)]::G)) :
  Does Yg 165 #[.int .i64 n,.pointer (some ⟨g9,0,none⟩)] w fun x w' =>
   (8 * s.length < p+n/\w'=w/\x=.tuple #[.int .i64 0,.int .i64 10])∨(p+n<=8 * s.length/\Heap w0 B w' (rd gr gs s (p+n)::Yj g9 130 [.pointer (some ⟨gr,0,none⟩)]::G)/\x=.tuple #[.int .i64 (Bc (((At s).drop p).take n):Nat),.int .i64 0]):=by
 refine En [.int .i64 n,.pointer (some ⟨g9,0,none⟩)] 16 Tryz.func165 ?_;refine VS [0,1] ?_;refine VQ [5,6] fun K hK=>?_;refine ⟨_,Aj (hL.at 1 rfl) rfl,?_⟩;refine Ac Tryz.call69 ?_;refine Qs ?_;refine Yk (Ot gr gs s p n w (by omega) (by omega) (by omega) (hL.focus 0 rfl)) ?_;rintro v w3 (⟨h1,rfl,rfl⟩ | ⟨h1,hH2,rfl⟩)
 ·
  skip
  apply hK;clear hK;refine VS [3,4] ?_;exact Ad (A7 rfl rfl rfl (.inl ⟨h1,rfl,rfl⟩))
 have hH3:=hL.call1 0 rfl hH2;simp only [Yd,Yl] at hH3;have hlt:=K8 (((At s).drop p).take n);have hlen:(((At s).drop p).take n).length<=60:=by rw [Xi];omega
 have hlt2:=Yx (n:=2) (by omega) hlen;generalize Bc (((At s).drop p).take n)=q at *;apply hK;clear hK;refine VS [3,4] ?_;exact Ad (A7 rfl rfl rfl (.inr ⟨h1,hH3,rfl⟩))
theorem Qfw (s:List UInt8) (at_ n:Nat) (ha:at_<=8 * s.length) (hs:s.length<=100000000000000) (hn:2<=n/\n<=258) (w:World) :
  Does Yg 124 #[Aa s,.int .i64 at_,.int .i64 n] w (Qs3 (Kn (At s) at_ n) w):=by
 have hbl:=D0 s;generalize hbits:At s=bits at *;generalize hres:Kn bits at_ n=res;unfold Kn at hres;refine En [Aa s,.int .i64 at_,.int .i64 n] 79 Tryz.func124 ?_;refine VS [0,1,2] ?_;(repeat refine Ax ?_);refine Vd ?_;refine VQ [2,9] fun K hK=>?_;refine Ac Tryz.call68 ?_;refine Qs ?_;refine Yk (Q3 s at_ w (Y4 (by omega) (by omega)) (by omega)) ?_;rintro v w2 (⟨hbad,_⟩ | ⟨_,gr,gs,hH,rfl⟩)
 ·
  omega
 rw [Ym] at hH;refine A6 (.pointer none) (by kernel_rfl) ?_;refine Qs ?_;have hH1:=hH.box 130 [.pointer none];generalize w2.alloc (Yq [Value.pointer none].toArray 130)=w3 at *;generalize w2.heap.size=g9 at *;refine Af ?_;refine Qs ?_;refine Al hH1 0 (vs:=[.pointer (some ⟨gr,0,none⟩)]) rfl rfl (by kernel_rfl) (by simp) (by simp [Yo]) fun w4 hH2=>?_;have hH3:Heap w [] w4 [rd gr gs s at_,Yj g9 130 [.pointer (some ⟨gr,0,none⟩)]]:=hH2.perm (List.Perm.swap _ _ _);clear hH hH1 hH2;apply hK;clear hK;refine VQ [2,9,29] fun K hK=>?_
 suffices out:∀ b:Bool,(b=true ↔ False)->K [(2,.int .i64 n),(9,.pointer (some ⟨g9,0,none⟩)),(29,.bool b)] w4 by
  refine ⟨_,Aj (hH3.at 1 rfl) rfl,?_⟩;refine Qs ?_;(repeat' (first | exact out _ _ (by first | omega | (simp;done) | (simp;omega)) | exact out _ (by first | omega | (simp;done) | (simp;omega)) | refine ⟨fun _=>?_,fun _=>?_⟩ | refine Qo ?_))
 intro b hb;apply hK;clear hK;refine Ae rfl rfl (fun h=>(hb.1 h).elim) (fun h=>Ab ?_);clear hb h;refine VS [2,9,10] ?_;refine VQ [2,9,10,11,12] fun K hK=>?_;refine Cc ?_;refine Qs ?_;refine Gi Gg (Qbh s g9 gr gs at_ 5 (by omega) ha hs w w4 [] [] hH3) ?_;have hts:Dq bits at_ 5=if bits.length < at_+5 then (0,10) else (Bc ((bits.drop at_).take 5),0):=rfl
 rintro v w5 (⟨h1,rfl,rfl⟩ | ⟨h1,hH4,rfl⟩)
 ·
  rw [if_pos (by omega)] at hts;rw [hts,if_pos (by simp)] at hres;subst hres;apply hK;clear hK;refine VS [2,9,10,11,12,37] ?_;refine Ae rfl rfl (fun h=>?_) (fun h=>by cases h);refine VS [6,7,8] ?_;exact Ad (Dh rfl rfl rfl rfl ⟨hH3.sub (by simp),rfl⟩)
 rw [if_neg (by omega)] at hts;rw [hts,if_neg (by simp)] at hres;rw [hbits];have hlt:=K8 ((bits.drop at_).take 5);have hlen:((bits.drop at_).take 5).length<=5:=by rw [Xi];omega
 have hlt2:=Yx (n:=2) (by omega) hlen;clear hH3 hts;simp only at hres;generalize Bc ((bits.drop at_).take 5)=now0 at *;apply hK;clear hK;refine VS [2,9,10,11,12,37] ?_;refine Ae rfl rfl (fun h=>by cases h) (fun h=>Ab ?_);clear h;refine VS [2,9,10,11,13] ?_;(repeat refine Ax ?_);refine Va ?_;refine VB ?_;refine Au [2,9,10,11,13] (fun m e w'=>∃ (p now cap:Nat) (a:Option Addr) (out:List Nat),Is e [(2,.int .i64 n),(9,.pointer (some ⟨g9,0,none⟩)),(10,.func (.func 165) #[] #[.pointer (some ⟨g9,0,none⟩)]),(11,.int .i64 now),(13,.slice a out.length cap)]/\Heap w [] w' [rd gr gs s p,Yj g9 130 [.pointer (some ⟨gr,0,none⟩)],Yr 3 1 a out.length cap (Ag out)]/\p<=8 * s.length/\now<=100/\out.length<=n/\(match Bv (bits.drop p) now (n - out.length) p with | .error e=>.error e | .ok q=>.ok (out++q.1,q.2))=res/\m=8 * s.length - p) (8 * s.length - (at_+5)) ?_ ?_
 ·
  refine Qs ?_;have hH5:=(hH4.nilRow 3 1).perm (G':=[rd gr gs s (at_+5),Yj g9 130 [.pointer (some ⟨gr,0,none⟩)],Yr 3 1 none 0 0 []]) (by exact (X7 (l₁:=[Yr 3 1 none 0 0 []])));exact ⟨at_+5,now0,0,none,[],rfl,hH5,by omega,by omega,by simp,by rw [<- hres];simp only [Uw,Nat.sub_zero,Yl];cases Bv (bits.drop (at_+5)) now0 n (at_+5) <;> rfl,rfl⟩
 clear hH4 hres;rintro m e w6 ⟨p,now,cap,a,out,rfl,hH,hp,hnow,hol,hres,rfl⟩;refine VS [2,9,10,11,13,42] ?_;refine VD (fun h=>?_) (fun h=>?_)
 ·
  have hol2:out.length < n:=by omega
  obtain ⟨p0,hp0⟩:∃ q,q=p:=⟨p,rfl⟩;refine Ab ?_;refine Ar ?_;refine Ar ?_;refine Au [2,9,10,11,13] (fun m e w'=>∃ (p now:Nat),Is e [(2,.int .i64 n),(9,.pointer (some ⟨g9,0,none⟩)),(10,.func (.func 165) #[] #[.pointer (some ⟨g9,0,none⟩)]),(11,.int .i64 now),(13,.slice a out.length cap)]/\Heap w [] w' [rd gr gs s p,Yj g9 130 [.pointer (some ⟨gr,0,none⟩)],Yr 3 1 a out.length cap (Ag out)]/\p0<=p/\p<=8 * s.length/\now<=100/\(match Bv (bits.drop p) now (n - out.length) p with | .error e=>.error e | .ok q=>.ok (out++q.1,q.2))=res/\m=8 * s.length - p) (8 * s.length - p) ?_ ?_
  ·
   refine Qs ?_;exact ⟨p,now,rfl,hH,by omega,hp,hnow,hres,rfl⟩
  clear hH hres hp hnow;rintro m e w7 ⟨p,now,rfl,hH,hpp,hp,hnow,hres,rfl⟩;refine Ar ?_;refine VQ [2,9,10,11,13,48] fun K hK=>?_
  suffices out:∀ b:Bool,(b=true ↔ (now < 1∨20 < now))->K [(2,.int .i64 n),(9,.pointer (some ⟨g9,0,none⟩)),(10,.func (.func 165) #[] #[.pointer (some ⟨g9,0,none⟩)]),(11,.int .i64 now),(13,.slice a out.length cap),(48,.bool b)] w7 by (repeat' (first | exact out _ _ (by first | omega | (simp;done) | (simp;omega)) | exact out _ (by first | omega | (simp;done) | (simp;omega)) | refine ⟨fun _=>?_,fun _=>?_⟩ | refine Qo ?_))
  intro b hb;apply hK;clear hK;refine Vi (fun h=>?_) (fun h=>Ab ?_)
  ·
   rw [QJi _ _ (by omega) (hb.1 h)] at hres;subst hres;refine VS [6,7,8] ?_;exact Ad (Dh rfl rfl rfl rfl ⟨hH.sub (by simp),rfl⟩)
  have hg:¬ (now < 1∨20 < now):=fun h2=>by have:=hb.2 h2;simp_all
  clear hb h;refine VQ [2,9,10,11,13,14,15] fun K hK=>?_;refine Cc ?_;refine Qs ?_;refine Gi Gg (Qbh s g9 gr gs p 1 (by omega) hp hs w w7 [] _ hH) ?_;rintro v w8 (⟨h1,rfl,rfl⟩ | ⟨h1,hH4,rfl⟩)
  ·
   rw [Yt (by omega),Bv,if_neg (by omega),if_neg hg] at hres;subst hres;apply hK;clear hK;refine VS [2,9,10,11,13,14,15,55] ?_;refine Ae rfl rfl (fun h=>?_) (fun h=>by cases h);refine VS [6,7,8] ?_;exact Ad (Dh rfl rfl rfl rfl ⟨hH.sub (by simp),rfl⟩)
  have hdp:bits.drop p=bits.getD p false::bits.drop (p+1):=drop_getD false (by omega);have hnum:Bc ((bits.drop p).take 1)=(bits.getD p false).toNat:=by rw [hdp];cases bits.getD p false <;> rfl
  rw [hbits,hnum];rw [hdp] at hres;apply hK;clear hK;refine VS [2,9,10,11,13,14,15,55] ?_;refine Ae rfl rfl (fun h=>by cases h) (fun h=>Ab ?_);clear h hH;refine VS [2,9,10,11,13,58] ?_;generalize bits.getD p false=b at *;cases b with
  | false =>
   rw [Bv,if_neg (by omega),if_neg hg] at hres;refine Ae rfl rfl (fun h=>?_) (fun h=>by simp at h);refine VQ [2,9,10,11,13] fun K hK=>?_;refine Kp (xs:=[.tmp 60]) Ye Lj rfl rfl rfl (by omega) ?_;refine Qs ?_;refine ⟨by simp [Xg],?_⟩;refine Cl ?_;refine Qs ?_;refine Qhy hH4 2 (now) rfl Ye E2 (by first | rfl | (simp;done) | omega | (simp;omega)) (fun h=>by (first | omega | (simp;done) | (simp;omega))) fun a' cap' w5 hc' hH5=>?_;(try refine Qs ?_);simp only [Yh,Yd] at hH5;apply hK;clear hK;refine As rfl ?_;refine Ah ?_;refine Qs ?_;refine ⟨8 * s.length - (p+1),by omega,p+1,now,cap',a',out++[now],rfl,hH5,by omega,hnow,by simp;omega,?_,rfl⟩;rw [<- hres,show n - (out++[now]).length=n - out.length - 1 by simp;omega];cases Bv (bits.drop (p+1)) now (n - out.length - 1) (p+1) with
   | error e=>rfl
   | ok q=>simp
  | true =>
   refine Ae rfl rfl (fun h=>by simp at h) (fun h=>Ab ?_);clear h;refine VQ [2,9,10,11,13,15,16] fun K hK=>?_;refine Cc ?_;refine Qs ?_;refine Gi Gg (Qbh s g9 gr gs (p+1) 1 (by omega) h1 hs w w8 [] _ hH4) ?_;rintro v w9 (⟨h2,rfl,rfl⟩ | ⟨h2,hH6,rfl⟩)
   ·
    rw [Yt (by omega),Bv,if_neg (by omega),if_neg hg] at hres;subst hres;apply hK;clear hK;refine VS [2,9,10,11,13,15,16,69] ?_;refine Ae rfl rfl (fun h=>?_) (fun h=>by cases h);refine VS [6,7,8] ?_;exact Ad (Dh rfl rfl rfl rfl ⟨hH4.sub (by simp),rfl⟩)
   have hdp2:bits.drop (p+1)=bits.getD (p+1) false::bits.drop (p+1+1):=drop_getD false (by omega);have hnum2:Bc ((bits.drop (p+1)).take 1)=(bits.getD (p+1) false).toNat:=by rw [hdp2];cases bits.getD (p+1) false <;> rfl
   rw [hbits,hnum2];rw [hdp2,Bv,if_neg (by omega),if_neg hg] at hres;generalize bits.getD (p+1) false=d at *;have hd1:d.toNat<=1:=by cases d <;> simp
   apply hK;clear hK;refine VS [2,9,10,11,13,15,16,69] ?_;refine Ae rfl rfl (fun h=>by cases h) (fun h=>Ab ?_);clear h;refine VS [2,9,10,11,13] ?_;refine Ao ?_;refine Ah ?_;refine Qs ?_;refine ⟨8 * s.length - (p+1+1),by omega,p+1+1,(if d=true then now - 1 else now+1),?_,hH6,by omega,by omega,by split <;> omega,hres,rfl⟩;cases d with
   | true=>rw [if_pos rfl,show ((now:Int)+(1 - 2 * ((true.toNat:Nat):Int)))=((now - 1:Nat):Int) by simp;omega];rfl
   | false=>rw [if_neg (by simp),show ((now:Int)+(1 - 2 * ((false.toNat:Nat):Int)))=((now+1:Nat):Int) by simp];rfl
 rw [show n - out.length=0 by omega,QEr] at hres;simp only [Yu] at hres;subst hres;refine As rfl ?_;refine VQ [6,7,8] fun K hK=>?_;refine ⟨_,Aj (hH.at 1 rfl) rfl,?_⟩;refine Ac Tryz.call122 ?_;refine Qs ?_;refine Yk (Vp gr gs p s w6 (hH.at 0 rfl)) ?_;rintro v w7 ⟨rfl,rfl⟩;apply hK;clear hK;exact Ad (Dh rfl rfl rfl rfl ⟨a,cap,hH.sub (by simp),rfl⟩)
def Du (l:List Nat):List Nat:=(Yf l.length).map (Dv l)
theorem Qck (l:List Nat):(Du l).length=l.length:=by simp [Du]
theorem Qs4 {g n lc:Nat}{p:Addr}{ao:Option Addr}{co:Nat}{l:List Nat}{w:World} (h:(Mj g (.slice (some p) n lc) ao co l).holds w) {k:Nat} (hk:k<=Bq l) (hL:Bq l<=20) :
  w.cell? ⟨g,2+k,none⟩=some (.int .i64 (Bw l k:Nat))/\w.cell? ⟨g,24+k,none⟩=some (.int .i64 (Dx l k:Nat))/\w.cell? ⟨g,46+k,none⟩=some (.int .i64 (B6 l k:Nat)):=by
 have lF:=P4 (Bw l) (Bq l+1);have lB:=P4 (Dx l) (Bq l+1);have lC:=P4 (B6 l) (Bq l+1);have h1:=Qzl (sv:=.slice (some p) n lc) (ov:=.slice ao (Bz l (Bq l)).length co) (Bg:=Do (Dx l) (Bq l+1)) (C:=Do (B6 l) (Bq l+1)) lF (n:=k) (by omega);have h2:=Qzm (sv:=.slice (some p) n lc) (ov:=.slice ao (Bz l (Bq l)).length co) (C:=Do (B6 l) (Bq l+1)) lF lB (n:=k) (by omega);have h3:=Qph (sv:=.slice (some p) n lc) (ov:=.slice ao (Bz l (Bq l)).length co) lF lB lC (n:=k) (by omega);rw [Qpi _ (by omega),if_pos (by omega)] at h1 h2 h3;exact ⟨Aj h h1,Aj h h2,Aj h h3⟩
theorem V5 {g n lc:Nat}{p:Addr}{ao:Option Addr}{co:Nat}{l:List Nat}{w:World} (h:(Mj g (.slice (some p) n lc) ao co l).holds w):w.cell? ⟨g,0,none⟩=some (.slice (some p) n lc)/\w.cell? ⟨g,1,none⟩=some (.slice ao (Bz l (Bq l)).length co)/\Reads w ⟨g,0,none⟩ [.slice (some p) n lc]:=by
 have h0:w.cell? ⟨g,0,none⟩=some (.slice (some p) n lc):=Aj h (k:=0) rfl;refine ⟨h0,Aj h (k:=1) rfl,fun q u hu=>?_⟩;cases q with
 | zero=>simp at hu;subst hu;exact h0
 | succ q=>simp at hu
theorem Qld (l:List Nat) (hok:Fa l) (g:Nat) (p:Addr) (lc:Nat) (ao:Option Addr) (co:Nat) (w0 w:World) (G:List Res) (hr:RS w0 (some p) l.length 1 (Ag l)) (hL:Heap w0 [] w (Mj g (.slice (some p) l.length lc) ao co l::Oh ao co l::G)) :
  Does Yg 146 #[.pointer (some ⟨g,0,none⟩)] w fun v w'=>∃ a cap,Heap w0 [] w' (Yr 3 1 a (Du l).length cap (Ag (Du l))::Mj g (.slice (some p) l.length lc) ao co l::Oh ao co l::G)/\v=.slice a (Du l).length cap:=by
 obtain ⟨hL1,hL20⟩:=Z5 hok;have hat:=fun i hi=>V4 hok (i:=i) hi;have hfl:=fun n hn=>Vg hok (n:=n) hn
 have hbl:∀ n,n<=20->Dx l n<=5160:=fun n hn=>by
  have:=Z4 l (n - 1);have h2:=X4 (show n - 1<=20 by omega) hok.2.1;unfold Dx;omega
 obtain ⟨hl2,hl258,hin,_⟩:=id hok;refine En [.pointer (some ⟨g,0,none⟩)] 52 Tryz.func146 ?_;have hcl:=Qck l;generalize hn:l.length=n at *;refine VS [0] ?_;refine VQ [0,3] fun K hK=>?_;refine ⟨_,(V5 (hL.at 0 rfl)).1,?_⟩;refine Qs ?_;refine Ev Ye E2 ?_;refine Qs ?_;refine ⟨n,n,⟨rfl,rfl,by omega,by omega,by omega⟩,?_⟩;have hH:=hL.row 3 (n:=n) (cap:=n) (sz:=1) (Ag (Yc n 0)) [] (by simp [Bj]) (by simp [Bj]) (by omega) (by omega);have er:Ag (Yc n 0)=Yc n (.int .i64 0):=by simp [Ag]
 rw [Yu,er] at hH;generalize w.alloc (Yq (Yc n (Y5 Xp 0)).toArray 3)=w1 at *;generalize w.heap.size=gu at *;rw [<- er] at hH;clear hL;apply hK;clear hK;refine VQ [0,3,17,18,19] fun K hK=>?_;refine ⟨_,(V5 (hH.at 1 rfl)).2.1,?_⟩;refine Qs ?_;apply hK;clear hK;have hol:=Z4 l (Bq l)
 have hol2:(Bz l (Bq l)).length<=5160:=by
  have h2:=X4 hL20 hl258;rw [hn] at hol;omega
 generalize hoL:(Bz l (Bq l)).length=oL at *;refine Ar ?_;refine Au [0,3,17,18,19] (fun m e w'=>∃ (k:Nat) (O:List Nat),Is e [(0,.pointer (some ⟨g,0,none⟩)),(3,.slice (some ⟨gu,0,none⟩) n n),(17,.slice ao oL co),(18,.int .i64 oL),(19,.int .i64 k)]/\Heap w0 [] w' (Yr 3 1 (some ⟨gu,0,none⟩) n n (Ag O)::Mj g (.slice (some p) n lc) ao co l::Oh ao co l::G)/\O.length=n/\(∀ j,j < k->O.getD ((Bz l (Bq l)).getD j 0) 0=Dv l ((Bz l (Bq l)).getD j 0))/\k<=oL/\m=oL - k) oL ?_ ?_
 ·
  refine Qs ?_;exact ⟨0,_,rfl,hH,by simp,fun j hj=>by omega,by omega,rfl⟩
 clear hH;rintro m e w2 ⟨k,O,rfl,hH,hOl,hO,hk,rfl⟩;refine VS [0,3,17,18,19,20] ?_;(repeat refine Ax ?_);refine VD (fun h=>?_) (fun h=>?_)
 ·
  have hkL:k < (Bz l (Bq l)).length:=by omega
  obtain ⟨go,rfl⟩:=Ir (hH.at 2 rfl) (by omega);have hcell:=Cn (hH.at 2 rfl) (F3 hkL);obtain ⟨h1,h2,h3⟩:=Ql8 l (Bq l) k hkL;have hcode:=Qv4 hkL rfl;rw [hn] at h1;have hti:=hat _ (by rw [hn] at *;exact h1);have hco:=(Zx hok (by rw [hn] at *;exact h1)).2.2;generalize hi:(Bz l (Bq l)).getD k 0=i at *;have hle:l.getD i 0<=Bq l:=Qb.1 (Xf _) _ (Dr 0 (by omega));obtain ⟨c1,c2,c3⟩:=Qs4 (hH.at 1 rfl) hle hL20;have csv:=V5 (hH.at 1 rfl);have hcx:=Ek (hH.rs' hr) (i:=i) (by omega);have hff:=hfl (l.getD i 0) hti.2;have hbb:=hbl (l.getD i 0) hti.2;have hp2:2 ^ (l.getD i 0)<=2 ^ 20:=Yx (by omega) hti.2;have hp3:2 ^ (l.getD i 0)<=1048576:=hp2;generalize hx:l.getD i 0=x at *;refine Ab ?_;refine VB ?_;refine VQ [0,3,4,5,17,18,19] fun K hK=>?_;refine ⟨⟨by omega,by omega⟩,_,hcell,?_⟩;apply hK;clear hK;refine VQ [0,3,4,5,6,17,18,19] fun K hK=>?_;refine ⟨_,csv.1,?_⟩;refine Qs ?_;refine ⟨⟨by omega,by omega⟩,_,hcx,?_⟩;apply hK;clear hK;refine VL [0,3,17,18,19] 18 fun K hK=>?_;refine ⟨⟨by omega,by omega⟩,_,c1,?_⟩;refine Qs ?_;refine ⟨Y4 (by omega) (by omega),⟨by omega,by omega⟩,_,c2,?_⟩;refine Qs ?_;refine ⟨Y4 (by omega) (by omega),⟨by omega,by omega⟩,?_⟩;rw [show ((Bw l x:Nat):Int)+k - (Dx l x:Nat)=((Dv l i:Nat):Int) by omega];refine Af ?_;refine Qs ?_;refine Ej hH 0 (o:=(i)) (vs:=[.int .i64 (Dv l i:Nat)]) rfl (by first | exact (B0 _ _ _).symm | rfl | simp [B0]) rfl (by kernel_rfl) (by first | omega | (simp;done) | (simp;omega) | (simp [An,Bb];omega) | (rw [Bj];simp;omega)) (by simp [Yo]) fun w6 hH2=>?_;(try refine Qs ?_);simp only [Yy,Di (Ag O) _ _ (show i < (Ag O).length by rw [Bj,hOl];omega),Ip,Yd] at hH2;apply hK;clear hK;refine Ao ?_;refine VS [0,3,17,18,19] ?_;refine Ah ?_;refine Qs ?_;refine ⟨oL - (k+1),by omega,k+1,_,rfl,hH2,by simp [hOl],fun j hj=>?_,by omega,rfl⟩;by_cases e:(Bz l (Bq l)).getD j 0=i
  ·
   rw [e,Pr (by omega)]
  rw [Pq (fun e2=>e e2.symm)];have:j≠k:=fun e2=>e (by rw [e2];exact hi);exact hO j (by omega)
 have hfin:O=Du l:=by
  apply Xh
  ·
   rw [hOl,hcl]
  intro i h1 h2;have hi:i < l.length:=by omega
  have hm:=Qpg hi (hat i (by omega)).1 (Bq l) (Qb.1 (Xf _) _ (Dr 0 hi));obtain ⟨j,hj,e⟩:=X0 hm;have e2:(Bz l (Bq l)).getD j 0=i:=by rw [Yb,Ya hj];exact e
  have:=hO j (by omega);rw [e2,Yb,Ya h1] at this;simp only [Du,X9,X2];exact this
 refine As rfl ?_;refine VS [2] ?_;refine Ad (A2 rfl rfl ⟨some ⟨gu,0,none⟩,n,?_,by rw [hcl]⟩);rw [hcl,<- hfin];exact hH
theorem Qdl (l:List Nat) (hok:Fa l) (a:Option Addr) (lc:Nat) (w:World) (hr:RS w a l.length 1 (Ag l)) :
  Does Yg 109 #[.slice a l.length lc] w fun v w'=>∃ a' cap,Heap w [] w' [Yr 3 1 a' (Du l).length cap (Ag (Du l))]/\v=.tuple #[.slice a' (Du l).length cap,.int .i64 0]:=by
 have hl2:=hok.1;obtain ⟨p,rfl⟩:=Dt hr (by omega);refine En [.slice (some p) l.length lc] 16 Tryz.func109 ?_;refine VS [0] ?_;refine VQ [4,5] fun K hK=>?_;refine Ac Tryz.call145 ?_;refine Qs ?_;refine Yk (Qjr l hok (some p) lc w hr) ?_;rintro v w2 ⟨g,ao,co,hH,rfl⟩;apply hK;clear hK;refine VS [4,5,12] ?_;refine Ae rfl rfl (fun h=>by simp at h) (fun h=>Ab ?_);refine VQ [2,3] fun K hK=>?_;refine Ac Tryz.call146 ?_;refine Qs ?_;refine Yk (Qld l hok g p lc ao co w w2 [] hr hH) ?_;rintro v w3 ⟨a',cap,hH2,rfl⟩;apply hK;clear hK;exact Ad (A7 rfl rfl rfl ⟨a',cap,hH2.sub (by simp),rfl⟩)
def Wl (l:List Nat) (c k m:Nat):Bool:=decide (k < m) && decide (0 < B6 l m) && decide (c * 2 ^ (m - k) < Bw l m+B6 l m)
theorem Qtw {l:List Nat}{c k:Nat} (hL:Bq l<=20):Qw l c k=true ↔ ∃ m,k < m/\m<=Bq l/\Wl l c k m=true:=by
 unfold Qw;rw [List.any_eq_true];constructor
 ·
  rintro ⟨m,hm,h⟩;refine ⟨m,?_,?_,h⟩
  ·
   simp only [Xx,decide_eq_true_eq] at h;exact h.1.1
  rcases Us (Bq l) m with h2 | h2
  ·
   have:=Qzk h2;simp [this] at h
  exact h2
 rintro ⟨m,h1,h2,h3⟩;exact ⟨m,Y3.2 (by omega),h3⟩
theorem Qnw (l:List Nat) (hok:Fa l) (c k:Nat) (hc:c<=2097152) (hk:k<=20) (g:Nat) (p:Addr) (lc:Nat) (ao:Option Addr) (co i:Nat) (w0 w:World) (G:List Res) (hr:RS w0 (some p) l.length 1 (Ag l)) (hL:Heap w0 [] w G) (hi:G[i]? = some (Mj g (.slice (some p) l.length lc) ao co l)) :
  Does Yg 187 #[.pointer (some ⟨g,0,none⟩),.int .i64 c,.int .i64 k] w fun v w'=>Heap w0 [] w' G/\v=.bool (Qw l c k):=by
 obtain ⟨hL1,hL20⟩:=Z5 hok;have hfl:=fun n hn=>Vg hok (n:=n) hn;have hbp:=Qtw (l:=l) (c:=c) (k:=k) hL20;obtain ⟨hl2,hl258,hin,_⟩:=hok;have hcl:=Qc7 l (by omega) (some p) lc;refine En [.pointer (some ⟨g,0,none⟩),.int .i64 c,.int .i64 k] 47 Tryz.func187 ?_;generalize hres:Qw l c k=res at *;generalize hn:l.length=n at *;refine VS [0,1,2] ?_;refine VS [0,1,2,7] ?_;refine Ar ?_;refine Au [0,1,2,7] (fun m e w'=>∃ (j:Nat),Is e [(0,.pointer (some ⟨g,0,none⟩)),(1,.int .i64 c),(2,.int .i64 k),(7,.int .i64 (j+1:Nat))]/\Heap w0 [] w' G/\k<=j/\j<=20/\(∀ m',k < m'->m'<=j->Wl l c k m'=false)/\m=21 - j) (21 - k) ?_ ?_
 ·
  refine Qs ?_;exact ⟨k,rfl,hL,by omega,by omega,fun m' h1 h2=>by omega,rfl⟩
 clear hL;rintro m e w1 ⟨j,rfl,hH,hkj,hj20,hno,rfl⟩;have hsv:=V5 (hH.at i hi);refine VQ [0,1,2,7,16] fun K hK=>?_;refine ⟨_,⟨rfl,hsv.2.2⟩,?_⟩;refine Ac Tryz.call180 ?_;refine Qs ?_;refine Yk (hcl w1 (hH.rs' hr)) ?_;rintro v w2 ⟨hHl,rfl⟩;have hH2:=hH.call0 hHl;simp only [Yl] at hH2;clear hH hHl hsv;refine Qs ?_;apply hK;clear hK;refine VD (fun h=>?_) (fun h=>?_)
 ·
  have hj2:j+1<=Bq l:=by omega
  obtain ⟨c1,c2,c3⟩:=Qs4 (hH2.at i hi) hj2 hL20;have hff:=hfl (j+1) (by omega);have hp2:2 ^ (j+1)<=2 ^ 20:=Yx (by omega) (by omega);have hp3:2 ^ (j+1)<=1048576:=hp2;have hp4:2 ^ (j+1 - k)<=2 ^ 20:=Yx (by omega) (by omega);have hp5:2 ^ (j+1 - k)<=1048576:=hp4;have hmul:c * 2 ^ (j+1 - k)<=2097152 * 1048576:=X4 hc hp5;have hsh:Bx Xp ((j+1:Nat) - (k:Int))=j+1 - k:=S1 (by omega) (by simp [IntKind.bits];omega);have hbc:Wl l c k (j+1)=(decide (k < j+1) && decide (0 < B6 l (j+1)) && decide (c * 2 ^ (j+1 - k) < Bw l (j+1)+B6 l (j+1))):=rfl;rw [decide_eq_true (show k < j+1 by omega),Bool.true_and] at hbc;have hsc:=Zm c (j+1 - k);refine Ab ?_;refine VB ?_;refine Vq [0,1,2,7,46] fun K hK=>?_;refine ⟨⟨by omega,by omega⟩,_,c3,?_⟩;refine Qs ?_;rw [hsh,hsc];clear hsc hsh hp2 hp4;generalize c * 2 ^ (j+1 - k)=q at *
  suffices out:K [(0,.pointer (some ⟨g,0,none⟩)),(1,.int .i64 c),(2,.int .i64 k),(7,.int .i64 (j+1:Nat)),(46,.bool (Wl l c k (j+1)))] by
   refine ⟨fun h2=>?_,fun h2=>?_⟩
   ·
    rw [decide_eq_true (show 0 < B6 l (j+1) by omega),Bool.true_and] at hbc;refine ⟨Y4 (by omega) (by omega),by omega,Y4 (by omega) (by omega),⟨by omega,by omega⟩,_,c1,?_⟩;refine ⟨⟨by omega,by omega⟩,_,c3,?_⟩;refine Qs ?_;refine ⟨Y4 (by omega) (by omega),?_⟩;rw [show decide (((q:Nat):Int) < ((Bw l (j+1):Nat):Int)+((B6 l (j+1):Nat):Int))=Wl l c k (j+1) by rw [hbc];exact decide_eq_decide.2 (by omega)];exact out
   rw [decide_eq_false (show ¬ 0 < B6 l (j+1) by omega),Bool.false_and] at hbc;rw [hbc] at out;exact out
  apply hK;clear hK;refine Vi (fun h=>?_) (fun h=>Ab ?_)
  ·
   have:res=true:=hbp.2 ⟨j+1,by omega,hj2,h⟩;subst this;refine VS [6] ?_;exact Ad (A2 rfl rfl ⟨hH2,rfl⟩)
  refine Ao ?_;refine VS [0,1,2,7] ?_;refine Ah ?_;refine Qs ?_;refine ⟨21 - (j+1),by omega,j+1,rfl,hH2,by omega,by omega,fun m' h1 h2=>?_,rfl⟩;by_cases e:m'=j+1
  ·
   rw [e];exact h
  exact hno m' h1 (by omega)
 have:res=false:=by
  rw [Bool.eq_false_iff];intro h2;obtain ⟨m',h3,h4,h5⟩:=hbp.1 h2;have:=hno m' h3 (by omega);rw [this] at h5;cases h5
 subst this;refine As rfl ?_;refine VS [6] ?_;exact Ad (A2 rfl rfl ⟨hH2,rfl⟩)
theorem Qv6 (l:List Nat) (hok:Fa l) (s:List UInt8) (gr gs at_:Nat) (hat:at_<=8 * s.length) (hs:s.length<=100000000000000) (g:Nat) (p:Addr) (lc:Nat) (ao:Option Addr) (co:Nat) (w0 w:World) (G:List Res) (hr:RS w0 (some p) l.length 1 (Ag l)) (hL:Heap w0 [] w (rd gr gs s at_::Mj g (.slice (some p) l.length lc) ao co l::Oh ao co l::G)) :
  Does Yg 167 #[.pointer (some ⟨g,0,none⟩),.pointer (some ⟨gr,0,none⟩)] w fun v w'=>match F9 l (At s) at_ with
   | .ok q=>Heap w0 [] w' (rd gr gs s q.2::Mj g (.slice (some p) l.length lc) ao co l::Oh ao co l::G)/\q.2<=8 * s.length/\at_ < q.2/\v=.tuple #[.int .i64 q.1,.int .i64 0]
   | .error e=>Heap w0 [] w' []/\e≠0/\v=.tuple #[.int .i64 0,.int .i64 e]:=by
 obtain ⟨hL1,hL20⟩:=Z5 hok;have hfl:=fun n hn=>Vg hok (n:=n) hn;have hbp:=fun c k=>Qtw (l:=l) (c:=c) (k:=k) hL20;have hbl:=D0 s;refine En [.pointer (some ⟨g,0,none⟩),.pointer (some ⟨gr,0,none⟩)] 74 Tryz.func167 ?_;generalize hres:F9 l (At s) at_=res;generalize hbits:At s=bits at *;unfold F9 at hres;refine VS [0,1] ?_;refine VS [0,1,6] ?_;refine VS [0,1,6,7] ?_;refine Ar ?_;refine Au [0,1,6,7] (fun m e w'=>∃ (j c:Nat),Is e [(0,.pointer (some ⟨g,0,none⟩)),(1,.pointer (some ⟨gr,0,none⟩)),(6,.int .i64 c),(7,.int .i64 (j+1:Nat))]/\Heap w0 [] w' (rd gr gs s (at_+j)::Mj g (.slice (some p) l.length lc) ao co l::Oh ao co l::G)/\at_+j<=8 * s.length/\j+1<=Bq l/\c < 2 ^ j/\Bw l j+B6 l j<=c/\(match Eo l (bits.drop (at_+j)) j c with | .ok q=>.ok (q.1,at_+q.2) | .error e=>.error e)=res/\m=21 - j) 21 ?_ ?_
 ·
  refine Qs ?_;have hc0:B6 l 0=0:=Qds fun x hx=>(hok.2.2.1 x hx).1;refine ⟨0,0,rfl,hL,by omega,by omega,by simp,by rw [hc0];simp [Bw],?_,rfl⟩;rw [<- hres,Up];cases Eo l (bits.drop at_) 0 0 <;> rfl
 clear hL hres;rintro m e w1 ⟨j,c,rfl,hH,hp,hj,hc,hfc,hres,rfl⟩;refine VB ?_;refine VQ [0,1,6,7,8,9] fun K hK=>?_;refine Ac Tryz.call69 ?_;refine Qs ?_;refine Yk (Ot gr gs s (at_+j) 1 w1 (by omega) hp (by omega) (hH.focus 0 rfl)) ?_;rintro v w2 (⟨h1,rfl,rfl⟩ | ⟨h1,hH2,rfl⟩)
 ·
  rw [Yt (by omega),Eo] at hres;subst hres;apply hK;clear hK;refine VS [0,1,6,7,8,9,19] ?_;refine Ae rfl rfl (fun h=>?_) (fun h=>by cases h);refine VS [4,5] ?_;exact Ad (A7 rfl rfl rfl ⟨hH.sub (by simp),by decide,rfl⟩)
 have hH3:=hH.call1 0 rfl hH2;simp only [Yd,Yl] at hH3;clear hH hH2;have hdp:bits.drop (at_+j)=bits.getD (at_+j) false::bits.drop (at_+j+1):=drop_getD false (by omega);have hnum:Bc ((bits.drop (at_+j)).take 1)=(bits.getD (at_+j) false).toNat:=by rw [hdp];cases bits.getD (at_+j) false <;> rfl
 rw [hbits,hnum];rw [hdp,Eo] at hres;generalize bits.getD (at_+j) false=b at *;have hb1:b.toNat<=1:=by cases b <;> simp
 apply hK;clear hK;refine VS [0,1,6,7,8,9,19] ?_;refine Ae rfl rfl (fun h=>by cases h) (fun h=>Ab ?_);clear h;have hj20:j+1<=20:=by omega
 have hpj:2 ^ j<=2 ^ 19:=Yx (by omega) (by omega);have hpj2:2 ^ j<=524288:=hpj;have hps:2 ^ (j+1)=2 * 2 ^ j:=by rw [Nat.pow_succ,Gf]
 have hor:(c * 2) ||| b.toNat=2 * c+b.toNat:=by
  have h3:(2 ^ 1 * c) ||| b.toNat=2 ^ 1 * c+b.toNat:=(Nat.two_pow_add_eq_or_of_lt (i:=1) (by omega) c).symm
  rw [Gf c 2];exact h3
 have hfs:Bw l (j+1)=2 * (Bw l j+B6 l j):=rfl;have hffl:=hfl (j+1) hj20;refine VQ [0,1,6,7] fun K hK=>?_;rw [show Bx Xp 1=1 from rfl,show ((c:Int) * 2 ^ 1)=((c * 2:Nat):Int) by push_cast;rfl];(repeat first | refine Qo ?_ | refine Qp ?_);rw [Ym,hor];generalize hc2:2 * c+b.toNat=c2 at *;apply hK;clear hK;obtain ⟨c1,c2',c3⟩:=Qs4 (hH3.at 1 rfl) hj hL20;have csv:=V5 (hH3.at 1 rfl);refine VQ [0,1,6,7,10] fun K hK=>?_;refine ⟨⟨by omega,by omega⟩,_,c1,?_⟩;refine Qs ?_;refine ⟨Y4 (by omega) (by omega),?_⟩;apply hK;clear hK;refine VQ [0,1,6,7,10,54] fun K hK=>?_
 suffices out:∀ bb:Bool,(bb=true ↔ (Bw l (j+1)<=c2/\c2 < Bw l (j+1)+B6 l (j+1)))->K [(0,.pointer (some ⟨g,0,none⟩)),(1,.pointer (some ⟨gr,0,none⟩)),(6,.int .i64 c2),(7,.int .i64 (j+1:Nat)),(10,.int .i64 (((c2:Nat):Int) - (Bw l (j+1):Nat))),(54,.bool bb)] w2 by
  refine ⟨⟨by omega,by omega⟩,_,c3,?_⟩;refine Qs ?_;refine ⟨fun h1=>⟨fun h2=>⟨⟨by omega,by omega⟩,_,c3,?_⟩,fun h2=>out false (by simp;omega)⟩,fun h1=>out false (by simp;omega)⟩;refine Qs ?_;exact out _ (by simp;omega)
 intro bb hbb;apply hK;clear hK;refine Vi (fun h=>?_) (fun h=>Ab ?_)
 ·
  have hb2:=hbb.1 h;rw [if_pos hb2] at hres;subst hres;obtain ⟨s1,s2⟩:=Qzj l (n:=j+1) (L:=Bq l) (j:=c2 - Bw l (j+1)) (by omega) hj (by omega);obtain ⟨go,rfl⟩:=Ir (hH3.at 2 rfl) (by omega);have hcell:=Cn (hH3.at 2 rfl) (F3 s1);rw [s2] at hcell
  have hbl2:Dx l (j+1)<=5160:=by
   have h5:=Z4 l (j+1 - 1);have h6:=X4 (show j+1 - 1<=20 by omega) hok.2.1;unfold Dx;omega
  refine Vq [4,5] fun K hK=>?_;refine ⟨_,csv.2.1,?_⟩;refine ⟨⟨by omega,by omega⟩,_,c2',?_⟩;refine Qs ?_;refine ⟨Y4 (by omega) (by omega),⟨by omega,by omega⟩,?_⟩;rw [show (((Dx l (j+1):Nat):Int)+(((c2:Nat):Int) - (Bw l (j+1):Nat))).toNat=Dx l (j+1)+(c2 - Bw l (j+1)) by omega];refine ⟨_,hcell,?_⟩;apply hK;clear hK;exact Ad (A7 rfl rfl rfl ⟨by rw [<- Uk];exact hH3,by simp only;omega,by simp only;omega,rfl⟩)
 have hnb:¬ (Bw l (j+1)<=c2/\c2 < Bw l (j+1)+B6 l (j+1)):=fun h2=>by have:=hbb.2 h2;simp_all
 rw [if_neg hnb] at hres;clear hbb h;refine VQ [0,1,6,7,73] fun K hK=>?_;refine Ac Tryz.call187 ?_;refine Qs ?_;refine Yk (Qnw l hok c2 (j+1) (by omega) hj20 g p lc ao co 1 w0 w2 _ hr hH3 rfl) ?_;rintro v w3 ⟨hH4,rfl⟩;refine Qs ?_;apply hK;clear hK;refine Vi (fun h=>?_) (fun h=>Ab ?_)
 ·
  have h2:Qw l c2 (j+1)=false:=by simpa using h
  rw [h2,if_neg (by simp)] at hres;subst hres;refine VS [4,5] ?_;exact Ad (A7 rfl rfl rfl ⟨hH4.sub (by simp),by decide,rfl⟩)
 have h2:Qw l c2 (j+1)=true:=by simpa using h
 rw [if_pos h2] at hres;obtain ⟨m',h3,h4,h5⟩:=(hbp c2 (j+1)).1 h2;refine Ao ?_;refine VS [0,1,6,7] ?_;refine Ah ?_;refine Qs ?_;exact ⟨21 - (j+1),by omega,j+1,c2,rfl,by rw [<- Uk];exact hH4,by omega,by omega,by omega,by omega,by rw [<- hres,<- Uk],rfl⟩
theorem Qzn (l:List Nat) (hok:Fa l) (s:List UInt8) (at_ n fin:Nat) (hat:at_<=8 * s.length) (hs:s.length<=100000000000000) (hn:n<=100000) (hfin:fin<=100000) (a:Option Addr) (lc:Nat) (w:World) (hr:RS w a l.length 1 (Ag l)) :
  Does Yg 126 #[.slice a l.length lc,Aa s,.int .i64 at_,.int .i64 n,.int .i64 fin] w (Qs3 (C5 l (At s) fin n at_) w):=by
 have hl2:=hok.1;obtain ⟨p,rfl⟩:=Dt hr (by omega);refine En [.slice (some p) l.length lc,Aa s,.int .i64 at_,.int .i64 n,.int .i64 fin] 59 Tryz.func126 ?_;generalize hres:C5 l (At s) fin n at_=res;refine VS [0,1,2,3,4] ?_;refine VQ [1,2,3,4,13,14] fun K hK=>?_;refine Ac Tryz.call145 ?_;refine Qs ?_;refine Yk (Qjr l hok (some p) lc w hr) ?_;rintro v w2 ⟨g,ao,co,hH,rfl⟩;apply hK;clear hK;refine VS [1,2,3,4,13,14,25] ?_;refine Ae rfl rfl (fun h=>by simp at h) (fun h=>Ab ?_);clear h;refine VQ [3,4,13,15] fun K hK=>?_;refine Ac Tryz.call68 ?_;refine Qs ?_;refine Yk (Q3 s at_ w2 (Y4 (by omega) (by omega)) (by omega)) ?_;rintro v w3 (⟨hbad,_⟩ | ⟨_,gr,gs,hHr,rfl⟩)
 ·
  omega
 rw [Ym] at hHr;have hH2:=hH.call0 hHr;simp only [List.singleton_append] at hH2;clear hH hHr;apply hK;clear hK;refine VQ [3,4,13,15,35] fun K hK=>?_
 suffices out:∀ b:Bool,(b=true ↔ False)->K [(3,.int .i64 n),(4,.int .i64 fin),(13,.pointer (some ⟨g,0,none⟩)),(15,.pointer (some ⟨gr,0,none⟩)),(35,.bool b)] w3 by (repeat' (first | exact out _ _ (by first | omega | (simp;done) | (simp;omega)) | exact out _ (by first | omega | (simp;done) | (simp;omega)) | refine ⟨fun _=>?_,fun _=>?_⟩ | refine Qo ?_))
 intro b hb;apply hK;clear hK;refine Ae rfl rfl (fun h=>(hb.1 h).elim) (fun h=>Ab ?_);clear hb h;refine VS [3,4,13,15,16] ?_;(repeat refine Ax ?_);refine Dk [15,16] (fun e w'=>∃ (q:List Nat) (tz cap:Nat) (a':Option Addr),Is e [(15,.pointer (some ⟨gr,0,none⟩)),(16,.slice a' q.length cap)]/\Heap w [] w' [rd gr gs s tz,Yr 3 1 a' q.length cap (Ag q)]/\tz<=8 * s.length/\res=.ok (q,tz)) ?_ ?_
 ·
  refine Ar ?_;refine Au [3,4,13,15,16] (fun m e w'=>∃ (q:List Nat) (tz cap:Nat) (a':Option Addr),Is e [(3,.int .i64 n),(4,.int .i64 fin),(13,.pointer (some ⟨g,0,none⟩)),(15,.pointer (some ⟨gr,0,none⟩)),(16,.slice a' q.length cap)]/\Heap w [] w' [rd gr gs s tz,Mj g (.slice (some p) l.length lc) ao co l,Oh ao co l,Yr 3 1 a' q.length cap (Ag q)]/\tz<=8 * s.length/\q.length<=n/\(match C5 l (At s) fin (n - q.length) tz with | .error e=>.error e | .ok x=>.ok (q++x.1,x.2))=res/\m=n - q.length) n ?_ ?_
  ·
   refine Qs ?_;have hH3:=(hH2.nilRow 3 1).perm (G':=[rd gr gs s at_,Mj g (.slice (some p) l.length lc) ao co l,Oh ao co l,Yr 3 1 none 0 0 []]) (by exact (X7 (l₁:=[Yr 3 1 none 0 0 []])));refine ⟨[],at_,0,none,rfl,hH3,hat,by simp,?_,rfl⟩;rw [<- hres,Uw,Nat.sub_zero];cases C5 l (At s) fin n at_ <;> rfl
  clear hH2 hres;rintro m e w4 ⟨q,tz,cap,a',rfl,hH,hto,hq,hres,rfl⟩;refine VS [3,4,13,15,16,39] ?_;refine VD (fun h=>?_) (fun h=>?_)
  ·
   rw [show n - q.length=(n - (q.length+1))+1 by omega,C5] at hres;refine Ab ?_;refine Ar ?_;refine VQ [3,4,13,15,16,17,18] fun K hK=>?_;refine Ac Tryz.call167 ?_;refine Qs ?_;refine Yk (Qv6 l hok s gr gs tz hto hs g p lc ao co w w4 _ hr hH) ?_;intro v w5 hnx;generalize F9 l (At s) tz=r at *;cases r with
   | error e =>
    obtain ⟨hH3,hne,rfl⟩:=hnx;subst hres;apply hK;clear hK;refine VS [3,4,13,15,16,17,18,47] ?_;refine Vi (fun h=>?_) (fun h=>?_)
    ·
     refine VS [10,11,12] ?_;exact Ad (Dh rfl rfl rfl rfl ⟨hH3,rfl⟩)
    simp at h;exact absurd h hne
   | ok x =>
    obtain ⟨hH3,hx1,hx2,rfl⟩:=hnx;simp only at hres;apply hK;clear hK;refine VS [3,4,13,15,16,17,18,47] ?_;refine Ae rfl rfl (fun h=>by cases h) (fun h=>Ab ?_);clear h;refine VQ [3,4,13,15,16,17] fun K hK=>?_;refine Kp (xs:=[.tmp 50]) Ye Lj rfl rfl rfl (by omega) ?_;refine Qs ?_;refine ⟨by simp [Xg],?_⟩;refine Cl ?_;refine Qs ?_;refine Qhy hH3 3 (x.1) rfl Ye E2 (by first | rfl | (simp;done) | omega | (simp;omega)) (fun h=>by (first | omega | (simp;done) | (simp;omega))) fun a' cap' w5 hc' hH4=>?_;(try refine Qs ?_);simp only [Yh,Yd] at hH4;apply hK;clear hK;refine VS [3,4,13,15,16,55] ?_;refine VD (fun h=>?_) (fun h=>Ab ?_)
    ·
     rw [if_pos (by omega)] at hres;refine As rfl ?_;refine Ah ?_;refine Qs ?_;exact ⟨q++[x.1],x.2,cap',a',rfl,hH4.sub (.cons_cons _ (.cons _ (.cons _ (.refl _)))),hx1,hres.symm⟩
    rw [if_neg (by omega)] at hres;refine Ao ?_;refine Ah ?_;refine Qs ?_;refine ⟨n - (q++[x.1]).length,by simp;omega,q++[x.1],x.2,cap',a',rfl,hH4,hx1,by simp;omega,?_,rfl⟩;rw [<- hres,show n - (q++[x.1]).length=n - (q.length+1) by simp];cases C5 l (At s) fin (n - (q.length+1)) x.2 with
    | error e=>rfl
    | ok y=>simp
  rw [show n - q.length=0 by omega,C5] at hres;simp only [Yu] at hres;refine As rfl ?_;refine Ah ?_;refine Qs ?_;exact ⟨q,tz,cap,a',rfl,hH.sub (.cons_cons _ (.cons _ (.cons _ (.refl _)))),hto,hres.symm⟩
 rintro e w' ⟨q,tz,cap,a',rfl,hH,hto,rfl⟩;refine VQ [10,11,12] fun K hK=>?_;refine Ac Tryz.call122 ?_;refine Qs ?_;refine Yk (Vp gr gs tz s w' (hH.at 0 rfl)) ?_;rintro v w7 ⟨rfl,rfl⟩;apply hK;clear hK;exact Ad (Dh rfl rfl rfl rfl ⟨a',cap,hH.sub (by simp),rfl⟩)
abbrev Tr:=Int×Nat
def A3 (t:Tr):List Value:=[.int .i64 t.1,.int .i64 t.2]
theorem Ov (t:Tr):(A3 t).length=2:=rfl
theorem L8 (t:Tr):∀ v∈A3 t,v.oneCell'=true:=by
 intro v hv;simp [A3] at hv;rcases hv with rfl | rfl <;> rfl
def F7 (l:List Tr):List Value:=Cf A3 l
def Dy (a b:Tr):Int:=if a.1=b.1 then (a.2:Int) - b.2 else a.1 - b.1
theorem Ql9 (a b:Tr) (xo yo:Operand) (w:World) (KV:Value->Prop):A8 Yg .eql 235 xo yo (.agg (A3 a).toArray) (.agg (A3 b).toArray) w KV=KV (.bool (decide (a=b))):=by
 refine Qg fun w'=>?_;have hS:Yg.underlying 235=some (.struct (Yg.fieldsOf 235)):=by kernel_rfl
 have hp:Yg.stoodInHeld 235=false:=by kernel_rfl
 have hg:Yg.eqGuardType Yg.depth 235=false:=by kernel_rfl
 simp only [Sem.run_bind];rw [run_eqGuard_agg _ _ _ _ _ _ _ hg];simp only [Result.andThen_ok];rw [run_eql_struct,show (10000:Nat)=9999+1 from rfl,run_equalIn_agg w' 9999 235 _ _ hS hp];simp only [Program.fieldsOf,Tryz.underlying235];have u3:=Tryz.underlying3;have a3:=Tryz.isAgg3;have z3:=Tryz.sizeOf3;simp only [A3]
 go_simp
 obtain ⟨a1,a2⟩:=a;obtain ⟨b1,b2⟩:=b;simp only [Prod.mk.injEq];by_cases h1:a1=b1
 ·
  by_cases h2:a2=b2
  ·
   subst h1 h2;simp
  have h3:¬ ((a2:Int)=b2):=by omega
  simp [h1,h2,h3]
 simp [h1]
theorem Qcl (a b:Tr):a=b ↔ a.1=b.1/\a.2=b.2:=by
 obtain ⟨a1,a2⟩:=a;obtain ⟨b1,b2⟩:=b;simp
def I3 (t:Tr):Prop:=-1099511627776<=t.1/\t.1<=1099511627776/\t.2<=1000000
theorem Qfx (a b:Tr) (ha:I3 a) (hb:I3 b) (w:World):Does Yg 179 #[.agg (A3 a).toArray,.agg (A3 b).toArray] w fun v w'=>Heap w [] w' []/\v=.int .i64 (Dy a b):=by
 obtain ⟨ha1,ha2,ha3⟩:=ha;obtain ⟨hb1,hb2,hb3⟩:=hb;refine En [.agg (A3 a).toArray,.agg (A3 b).toArray] 23 Tryz.func179 ?_;refine VQ [2,3] fun K hK=>?_;refine Eb ?_;refine Qs ?_;have hH:=(Yz w).box 235 (A3 a);have e1:w.alloc (Yq (A3 a).toArray 235)=w.alloc (Yq (A3 a).toArray 235):=rfl;generalize w.alloc (Yq (A3 a).toArray 235)=w1 at *;generalize w.heap.size=ga at *;refine Eb ?_;refine Qs ?_;have hH2:=hH.box 235 (A3 b);generalize w1.alloc (Yq (A3 b).toArray 235)=w2 at *;generalize w1.heap.size=gb at *;clear hH e1;apply hK;clear hK;refine VQ [2,3,7] fun K hK=>?_;refine ⟨A3 a,⟨rfl,Ca (hH2.at 1 rfl)⟩,?_⟩;refine ⟨A3 b,⟨rfl,Ca (hH2.at 0 rfl)⟩,?_⟩;rw [Ql9];apply hK;clear hK;refine Vi (fun h=>?_) (fun h=>Ab ?_)
 ·
  simp only [decide_eq_true_eq] at h;subst h;refine VS [4] ?_;exact Ad (A2 rfl rfl ⟨hH2.sub (by simp),by simp [Dy]⟩)
 clear h;have c1:w2.cell? ⟨ga,0,none⟩=some (.int .i64 a.1):=Aj (hH2.at 1 rfl) rfl;have c2:w2.cell? ⟨ga,1,none⟩=some (.int .i64 a.2):=Aj (hH2.at 1 rfl) rfl;have c3:w2.cell? ⟨gb,0,none⟩=some (.int .i64 b.1):=Aj (hH2.at 0 rfl) rfl;have c4:w2.cell? ⟨gb,1,none⟩=some (.int .i64 b.2):=Aj (hH2.at 0 rfl) rfl;refine VQ [2,3,12] fun K hK=>?_;refine ⟨_,c1,_,c3,?_⟩;refine Qs ?_;apply hK;clear hK;refine Vi (fun h=>?_) (fun h=>Ab ?_)
 ·
  simp only [decide_eq_true_eq] at h;refine VQ [4] fun K hK=>?_;refine ⟨_,c1,_,c3,?_⟩;refine Qs ?_;refine ⟨Y4 (by omega) (by omega),?_⟩;apply hK;clear hK;exact Ad (A2 rfl rfl ⟨hH2.sub (by simp),by rw [Dy,if_neg h]⟩)
 simp only [decide_eq_false_iff_not,Decidable.not_not] at h;refine VQ [4] fun K hK=>?_;refine ⟨_,c2,_,c4,?_⟩;refine Qs ?_;refine ⟨Y4 (by omega) (by omega),?_⟩;apply hK;clear hK;exact Ad (A2 rfl rfl ⟨hH2.sub (by simp),by rw [Dy,if_pos h]⟩)
theorem W8 (l:List Tr):(F7 l).length=l.length * 2:=Qi6 Ov l
def E9:Tr->List Tr->Tr
 | m,[]=>m
 | m,t::l=>E9 (if Dy t m < 0 then t else m) l
theorem Qjt:∀ (l:List Tr) (m t:Tr),E9 m (l++[t])=if Dy t (E9 m l) < 0 then t else E9 m l
 | [],m,t=>rfl
 | x::l,m,t=>by rw [Y6,E9,Qjt l _ t,E9]
theorem Qh1:∀ (l:List Tr) (m:Tr),E9 m l=m∨E9 m l∈l
 | [],m=>.inl rfl
 | x::l,m=>by
  rw [E9];rcases Qh1 l (if Dy x m < 0 then x else m) with h | h
  ·
   rw [h];split
   ·
    simp
   simp
  simp [h]
theorem Qg3 {a b c:Tr} (h1:¬ Dy b a < 0) (h2:¬ Dy c b < 0):¬ Dy c a < 0:=by
 unfold Dy at *;(repeat' split at *) <;> omega
theorem Qtx:∀ (l:List Tr) (m:Tr),¬ Dy m (E9 m l) < 0/\∀ t∈l,¬ Dy t (E9 m l) < 0
 | [],m=>⟨by simp [E9,Dy],by simp⟩
 | x::l,m=>by
  rw [E9];obtain ⟨h1,h2⟩:=Qtx l (if Dy x m < 0 then x else m);by_cases hx:Dy x m < 0
  ·
   rw [if_pos hx] at h1 h2 ⊢;refine ⟨Qg3 h1 (by unfold Dy at hx ⊢;(repeat' split at *) <;> omega),fun t ht=>?_⟩;rcases Ua.1 ht with rfl | ht
   ·
    exact h1
   exact h2 t ht
  rw [if_neg hx] at h1 h2 ⊢;refine ⟨h1,fun t ht=>?_⟩;rcases Ua.1 ht with rfl | ht
  ·
   exact Qg3 h1 hx
  exact h2 t ht
abbrev V6:Value:=.func (.func 179) #[] #[]
def Dz (g cap:Nat) (l:List Tr):Res:=Yr 235 2 (some ⟨g,0,none⟩) l.length cap (F7 l)
theorem Qle (t0:Tr) (l:List Tr) (hl:l.length<=1000000) (hok:∀ t∈t0::l,I3 t) (g cap:Nat) (w:World) (hL:(Dz g cap (t0::l)).holds w) :
  Does Yg 202 #[.slice (some ⟨g,0,none⟩) (t0::l).length cap,V6] w fun v w'=>Heap w [] w' []/\v=.agg (A3 (E9 t0 l)).toArray:=by
 have hrs:RS w (some ⟨g,0,none⟩) (t0::l).length 2 (F7 (t0::l)):=Az hL
 have hget:∀ (w':World) (i:Nat) (x:Tr),RS w' (some ⟨g,0,none⟩) (t0::l).length 2 (F7 (t0::l))->(t0::l)[i]? = some x->Reads w' ⟨g,i * 2,none⟩ (A3 x):=fun w' i x h hi=>by
  have:=Sa Ov h rfl hi
  rwa [B0,Ut] at this
 refine En [.slice (some ⟨g,0,none⟩) (t0::l).length cap,V6] 33 Tryz.func202 ?_;generalize hn:(t0::l).length=n at *;have hn1:l.length+1=n:=by rw [<- hn];simp
 refine VQ [0,1,4] fun K hK=>?_;refine A6 (.agg #[.int .i64 0,.int .i64 0]) (by kernel_rfl) ?_;refine Qs ?_;have hH:=(Yz w).box 235 [.int .i64 0,.int .i64 0];generalize w.alloc (Yq [Y5 .i64 0,.int .i64 0].toArray 235)=w1 at *;generalize w.heap.size=gr at *;apply hK;clear hK;refine VS [0,1,4,9] ?_;refine Dk [0,1,4] (fun e w'=>Is e [(0,.slice (some ⟨g,0,none⟩) n cap),(1,V6),(4,.pointer (some ⟨gr,0,none⟩))]/\Is w' w1) ?_ ?_
 ·
  refine Ae rfl rfl (fun h=>by simp at h;omega) (fun h=>Ab ?_);refine Ah ?_;refine Qs ?_;exact ⟨rfl,rfl⟩
 rintro e w' ⟨rfl,rfl⟩;have h0:=hget w' 0 t0 (hH.rs' hrs) rfl;refine VQ [0,1,4,5] fun K hK=>?_;refine ⟨by omega,A3 t0,⟨rfl,h0⟩,?_⟩;refine A6 (.agg #[.int .i64 0,.int .i64 0]) (by kernel_rfl) ?_;refine Qs ?_;have hH1:=hH.box 235 [.int .i64 0,.int .i64 0];generalize w'.alloc (Yq [Y5 .i64 0,.int .i64 0].toArray 235)=w2 at *;generalize w'.heap.size=gm at *;refine Af ?_;refine Qs ?_;refine Al hH1 0 (vs:=A3 t0) rfl rfl (by kernel_rfl) (by simp [A3]) (L8 _) fun w3 hH2=>?_;have hH2:Heap w [] w3 [Yj gm 235 (A3 t0),Yj gr 235 [.int .i64 0,.int .i64 0]]:=hH2;clear hH hH1 h0;apply hK;clear hK;refine VS [0,1,4,5,6] ?_;refine Ar ?_;refine Au [0,1,4,5,6] (fun m e w'=>∃ (i:Nat),Is e [(0,.slice (some ⟨g,0,none⟩) n cap),(1,V6),(4,.pointer (some ⟨gr,0,none⟩)),(5,.pointer (some ⟨gm,0,none⟩)),(6,.int .i64 (i+1:Nat))]/\Heap w [] w' [Yj gm 235 (A3 (E9 t0 (l.take i))),Yj gr 235 [.int .i64 0,.int .i64 0]]/\i+1<=n/\m=n - i) n ?_ ?_
 ·
  refine Qs ?_;exact ⟨0,rfl,hH2,by omega,rfl⟩
 clear hH2;rintro m e w4 ⟨i,rfl,hH,hi,rfl⟩;refine VS [0,1,4,5,6,17] ?_;refine VD (fun h=>?_) (fun h=>?_)
 ·
  have hil:i < l.length:=by omega
  have hgi:(t0::l)[i+1]? = some l[i]:=by simp [Ya hil]
  have hrd:=hget w4 (i+1) l[i] (hH.rs' hrs) hgi;have htk:l.take (i+1)=l.take i++[l[i]]:=by rw [Xb,Ya hil];rfl
  have hmn:=Qjt (l.take i) t0 l[i];rw [<- htk] at hmn;have hokx:I3 l[i]:=hok _ (by simp)
  have hokm:I3 (E9 t0 (l.take i)):=hok _ (by
   rcases Qh1 (l.take i) t0 with h | h
   ·
    rw [h];simp
   exact U4 _ (Ub h))
  generalize l[i]=x at *;generalize E9 t0 (l.take i)=mt at *;refine Ab ?_;refine VB ?_;refine VL [0,1,4,5,6,27] 6 fun K hK=>?_;refine ⟨⟨by omega,by omega⟩,A3 x,⟨rfl,hrd⟩,?_⟩;refine ⟨A3 mt,⟨rfl,Ca (hH.at 0 rfl)⟩,?_⟩;refine Cc ?_;refine Qs ?_;refine Gi Tryz.call179 (Qfx x mt hokx hokm w4) ?_;rintro v w5 ⟨hHc,rfl⟩;have hH2:=hH.call0 hHc;simp only [Yl] at hH2;refine Qs ?_;apply hK;clear hK;have hrd5:=hget w5 (i+1) x (hH2.rs' hrs) hgi;clear hH hHc;refine VD (fun h=>?_) (fun h=>?_)
  ·
   rw [if_pos h] at hmn;refine VQ [0,1,4,5,6] fun K hK=>?_;refine ⟨⟨by omega,by omega⟩,A3 x,⟨rfl,hrd5⟩,?_⟩;refine Af ?_;refine Qs ?_;refine Al hH2 0 (vs:=A3 x) rfl rfl (by kernel_rfl) (by simp [A3]) (L8 _) fun w6 hH3=>?_;have hH3:Heap w [] w6 [Yj gm 235 (A3 x),Yj gr 235 [.int .i64 0,.int .i64 0]]:=hH3;apply hK;clear hK;refine Ao ?_;refine VS [0,1,4,5,6] ?_;refine Ah ?_;refine Qs ?_;exact ⟨n - (i+1),by omega,i+1,rfl,by rw [hmn];exact hH3,by omega,rfl⟩
  rw [if_neg h] at hmn;refine Ab ?_;refine Ao ?_;refine VS [0,1,4,5,6] ?_;refine Ah ?_;refine Qs ?_;exact ⟨n - (i+1),by omega,i+1,rfl,by rw [hmn];exact hH2,by omega,rfl⟩
 refine As rfl ?_;rw [Yp (by omega)] at hH;refine VQ [4] fun K hK=>?_;refine ⟨A3 (E9 t0 l),⟨rfl,Ca (hH.at 0 rfl)⟩,?_⟩;refine Af ?_;refine Qs ?_;refine Al hH 1 (vs:=A3 (E9 t0 l)) rfl rfl (by kernel_rfl) (by simp [A3]) (L8 _) fun w6 hH3=>?_;have hH3:Heap w [] w6 [Yj gm 235 (A3 (E9 t0 l)),Yj gr 235 (A3 (E9 t0 l))]:=hH3;apply hK;clear hK;refine Ad (Ve rfl rfl (Cv (hH3.at 1 rfl) (by kernel_rfl) (by kernel_rfl) rfl ?_));exact ⟨hH3.sub (by simp),rfl⟩
theorem Qnx (x:Tr) (l:List Tr) (hl:l.length<=1000000) (hx:x∈l) (g cap:Nat) (w:World) (hL:(Dz g cap l).holds w) :
  Does Yg 203 #[.slice (some ⟨g,0,none⟩) l.length cap,.agg (A3 x).toArray] w fun v w'=>Heap w [] w' []/\∃ i:Nat,l[i]? = some x/\v=.int .i64 i:=by
 have hrs:RS w (some ⟨g,0,none⟩) l.length 2 (F7 l):=Az hL
 have hget:∀ (w':World) (i:Nat) (y:Tr),RS w' (some ⟨g,0,none⟩) l.length 2 (F7 l)->l[i]? = some y->Reads w' ⟨g,i * 2,none⟩ (A3 y):=fun w' i y h hi=>by
  have:=Sa Ov h rfl hi
  rwa [B0,Ut] at this
 refine En [.slice (some ⟨g,0,none⟩) l.length cap,.agg (A3 x).toArray] 19 Tryz.func203 ?_;generalize hn:l.length=n at *;refine VQ [0,3] fun K hK=>?_;refine Eb ?_;refine Qs ?_;have hH:=(Yz w).box 235 (A3 x);generalize w.alloc (Yq (A3 x).toArray 235)=w1 at *;generalize w.heap.size=gx at *;apply hK;clear hK;refine VS [0,3,7,8] ?_;refine Ar ?_;refine Au [0,3,7,8] (fun m e w'=>∃ (i:Nat),Is e [(0,.slice (some ⟨g,0,none⟩) n cap),(3,.pointer (some ⟨gx,0,none⟩)),(7,.int .i64 n),(8,.int .i64 i)]/\Is w' w1/\i<=n/\x ∉ l.take i/\m=n - i) n ?_ ?_
 ·
  refine Qs ?_;exact ⟨0,rfl,rfl,by omega,by simp,rfl⟩
 rintro m e w' ⟨i,rfl,rfl,hi,hnot,rfl⟩;refine VS [0,3,7,8,9] ?_;(repeat refine Ax ?_);refine VD (fun h=>?_) (fun h=>?_)
 ·
  have hil:i < l.length:=by omega
  have hgi:l[i]? = some l[i]:=Ya hil;have hrd:=hget w' i l[i] (hH.rs' hrs) hgi;have htk:l.take (i+1)=l.take i++[l[i]]:=by rw [Xb,hgi];rfl
  generalize l[i]=y at *;refine Ab ?_;refine VB ?_;refine VS [0,3,5,7,8] ?_;refine Vq [0,3,5,7,8,16] fun K hK=>?_;refine ⟨A3 x,⟨rfl,Ca (hH.at 0 rfl)⟩,?_⟩;refine ⟨⟨by omega,by omega⟩,A3 y,⟨rfl,hrd⟩,?_⟩;rw [Ql9];apply hK;clear hK;refine VD (fun h=>?_) (fun h=>Ab ?_)
  ·
   subst h;refine VS [4] ?_;exact Ad (A2 rfl rfl ⟨hH.sub (by simp),i,hgi,rfl⟩)
  refine Ao ?_;refine VS [0,3,7,8] ?_;refine Ah ?_;refine Qs ?_;refine ⟨n - (i+1),by omega,i+1,rfl,rfl,by omega,?_,rfl⟩;rw [htk,Xs];rintro (h2 | h2)
  ·
   exact hnot h2
  simp at h2;exact h h2
 rw [Yp (by omega)] at hnot;exact absurd hx hnot
def F8 (ws ov:List Nat):List Tr:=((Yf ws.length).filter fun i=>ov.getD i 0 == 0).map fun i=>((ws.getD i 0:Nat),i)
theorem Qd0 {ws ov:List Nat}{t:Tr}:t∈F8 ws ov ↔ t.2 < ws.length/\ov.getD t.2 0=0/\t.1=(ws.getD t.2 0:Nat):=by
 unfold F8;rw [Xu];constructor
 ·
  rintro ⟨i,hi,rfl⟩;rw [X1,Y3,beq_iff_eq] at hi;exact ⟨hi.1,hi.2,rfl⟩
 rintro ⟨h1,h2,h3⟩;refine ⟨t.2,?_,?_⟩
 ·
  rw [X1,Y3,beq_iff_eq];exact ⟨h1,h2⟩
 rw [Qcl];exact ⟨h3.symm,rfl⟩
theorem Qer {ws ov:List Nat}{t:Tr} (ht:t∈F8 ws ov) (hm:∀ x∈F8 ws ov,¬ Dy x t < 0):IsLeast ws ov t.2/\t.1=(ws.getD t.2 0:Nat):=by
 obtain ⟨h1,h2,h3⟩:=Qd0.1 ht;refine ⟨⟨h1,h2,fun i hi hf=>?_⟩,h3⟩;have:=hm (((ws.getD i 0:Nat):Int),i) (Qd0.2 ⟨hi,hf,rfl⟩);unfold Dy at this;simp only at this;split at this <;> omega
theorem Qlf {p q:Nat->Bool}{a n:Nat} (ha:a < n) (hpa:p a=true) (hqa:q a=false) (h:∀ i,i≠a->q i=p i):((Yf n).filter p).Perm (a::(Yf n).filter q):=by
 induction n with
 | zero=>omega
 | succ n ih =>
  rw [Xr,Xj,Xj];by_cases e:a=n
  ·
   subst e
   have e1:(Yf a).filter p=(Yf a).filter q:=Gh fun i hi=>by
    have:i < a:=by simpa using hi
    exact (h i (by omega)).symm
   rw [Y7 hpa,Xc (by simp [hqa]),Ux,Ux,Yu,e1];exact Uh _ _
  have e1:[n].filter p=[n].filter q:=by
   have:=h n (fun x=>e x.symm);cases hp:p n <;> simp [hp,this]
  rw [e1,<- Y6];exact (ih (by omega)).append_right _
theorem Qju {ws ov:List Nat}{a v:Nat} (ha:a < ws.length) (hl:ov.length=ws.length) (h0:ov.getD a 0=0) (hv:v≠0):(F8 ws ov).Perm (((ws.getD a 0:Nat),a)::F8 ws (ov.set a v)):=by
 unfold F8;have:=Qlf (p:=fun i=>ov.getD i 0 == 0) (q:=fun i=>(ov.set a v).getD i 0 == 0) ha (by simp only [beq_iff_eq];exact h0) (by rw [Pr (by omega)];simp [hv]) (fun i hi=>by rw [Pq (fun x=>hi x.symm)]);have h2:=this.map fun i=>(((ws.getD i 0:Nat):Int),i);rw [List.map_cons] at h2;exact h2
theorem Qr0 {ws ov:List Nat} (x:Nat) (hl:ov.length=ws.length):F8 (ws++[x]) (ov++[0])=F8 ws ov++[(((x:Nat):Int),ws.length)]:=by
 unfold F8;rw [Yi,Yy,Xr,Xj,List.map_append]
 congr 1
 ·
  have e:(Yf ws.length).filter (fun i=>(ov++[0]).getD i 0 == 0)=(Yf ws.length).filter fun i=>ov.getD i 0 == 0:=Gh fun i hi=>by
   rw [Q1 (by rw [hl];simpa using hi)]
  rw [e];refine Xz fun i hi=>?_;rw [X1,Y3] at hi;rw [Q1 hi.1]
 have e1:(ov++[0]).getD ws.length 0=0:=by rw [<- hl];exact T5
 rw [Y7 (by rw [beq_iff_eq];exact e1),Ux,List.map_cons,List.map_nil,T5]
theorem Qv7 (ws ov:List Nat):(F8 ws ov).length=Be (fun i=>if ov.getD i 0=0 then 1 else 0) ws.length:=by
 unfold F8;rw [Uv];generalize ws.length=n
 induction n with
 | zero=>rfl
 | succ n ih =>
  rw [Xr,Xj,Yi,ih,Be];by_cases h:ov.getD n 0=0
  ·
   rw [Y7 (by rw [beq_iff_eq];exact h),if_pos h];rfl
  rw [Xc (by rw [beq_iff_eq];exact h),if_neg h];rfl
theorem Qny (w:List Nat):F8 w (Yc w.length 0)=(Yf w.length).map fun i=>(((w.getD i 0:Nat):Int),i):=by
 unfold F8;rw [List.filter_eq_self.2 fun i hi=>by rw [R3];rfl]
theorem Qzo {α:Type} (l:List α) (i:Nat) (x z:α) (hx:l[i]? = some x) (hz:l[l.length - 1]? = some z):l.Perm (x::(l.set i z).take (l.length - 1)):=by
 have hi:=(Yv.1 hx).1;have hxe:l[i]=x:=(Yv.1 hx).2
 have h1:l=l.take (l.length - 1)++[z]:=by
  have h2:l.drop (l.length - 1)=[z]:=by
   have h3:=(Yv.1 hz);rw [Y2 h3.1,h3.2,Yt (by omega)]
  rw [<- h2,U0]
 rw [List.take_set];generalize hin:l.take (l.length - 1)=t at *;have htl:t.length=l.length - 1:=by rw [<- hin,Xi];omega
 by_cases e:i=l.length - 1
 ·
  have:x=z:=by rw [e,hz] at hx;exact (Option.some.inj hx).symm
  subst this;rw [List.set_eq_of_length_le (by omega),h1];exact Uh _ _
 have hit:i < t.length:=by omega
 have hti:t[i]? = some x:=by
  rw [<- hin,List.getElem?_take,if_pos (by omega)];exact hx
 have ht:t=t.take i++x::t.drop (i+1):=by
  have h4:=Yv.1 hti;have h5:=Y2 h4.1;rw [h4.2] at h5;rw [<- h5,U0]
 rw [List.set_eq_take_append_cons_drop,if_pos hit];generalize t.take i=a at *;generalize t.drop (i+1)=b at *;rw [h1,ht,Yn];have p1:(a++(x::b++[z])).Perm (x::(a++(b++[z]))):=by simp
 refine p1.trans (List.Perm.cons x ?_);exact (X7 (l₁:=b) (l₂:=[z])).append_left a
def Mk (gT g cap:Nat) (l:List Tr):Res:=Yj gT 233 [.slice (some ⟨g,0,none⟩) l.length cap]
theorem Qg4 (trees:List Tr) (hl:trees.length<=1000000) (hne:0 < trees.length) (hok:∀ t∈trees,I3 t) (gT g cap:Nat) (w0 w:World) (B:List Nat) (G:List Res) (hL:Heap w0 B w (Dz g cap trees::Mk gT g cap trees::G)) :
  Does Yg 201 #[.pointer (some ⟨gT,0,none⟩)] w fun v w'=>∃ (t:Tr) (trees':List Tr),trees.Perm (t::trees')/\(∀ x∈trees,¬ Dy x t < 0)/\Heap w0 B w' (Dz g cap trees'::Mk gT g cap trees'::G)/\v=.agg (A3 t).toArray:=by
 obtain ⟨t0,l0,rfl⟩:∃ t0 l0,trees=t0::l0:=by
  cases trees with
  | nil=>simp at hne
  | cons t l=>exact ⟨t,l,rfl⟩
 have hmin:=Qtx l0 t0
 have hmem:E9 t0 l0∈t0::l0:=by
  rcases Qh1 l0 t0 with h | h
  ·
   rw [h];simp
  exact U4 _ h
 have hall:∀ x∈t0::l0,¬ Dy x (E9 t0 l0) < 0:=fun x hx=>by
  rcases Ua.1 hx with rfl | hx
  ·
   exact hmin.1
  exact hmin.2 x hx
 clear hmin;refine En [.pointer (some ⟨gT,0,none⟩)] 24 Tryz.func201 ?_;refine VQ [0,1] fun K hK=>?_;refine A6 (.agg #[.int .i64 0,.int .i64 0]) (by kernel_rfl) ?_;refine Qs ?_;have hH:=hL.box 235 [.int .i64 0,.int .i64 0];generalize w.alloc (Yq [Y5 .i64 0,.int .i64 0].toArray 235)=w1 at *;generalize w.heap.size=gr at *;clear hL;apply hK;clear hK;refine VQ [0,1,2] fun K hK=>?_;refine ⟨_,Aj (hH.at 2 rfl) rfl,?_⟩;refine Ac Tryz.call202 ?_;refine Qs ?_;refine Yk (Qle t0 l0 (by simp at hl;omega) hok g cap w1 (hH.at 1 rfl)) ?_;rintro v w2 ⟨hHm,rfl⟩;have hH2:=hH.call0 hHm;simp only [Yl] at hH2;clear hH hHm;generalize E9 t0 l0=t at *;generalize hT:t0::l0=trees at *;refine A6 (.agg #[.int .i64 0,.int .i64 0]) (by kernel_rfl) ?_;refine Qs ?_;have hH3:=hH2.box 235 [.int .i64 0,.int .i64 0];generalize w2.alloc (Yq [Y5 .i64 0,.int .i64 0].toArray 235)=w3 at *;generalize w2.heap.size=gt at *;refine Af ?_;refine Qs ?_;refine Al hH3 0 (vs:=A3 t) rfl rfl (by kernel_rfl) (by simp [A3]) (L8 _) fun w4 hH4=>?_;have hH4:Heap w0 B w4 (Yj gt 235 (A3 t)::Yj gr 235 [.int .i64 0,.int .i64 0]::Dz g cap trees::Mk gT g cap trees::G):=hH4;clear hH2 hH3;apply hK;clear hK;refine VQ [0,1,2,3] fun K hK=>?_;refine ⟨_,Aj (hH4.at 3 rfl) rfl,?_⟩;refine ⟨A3 t,⟨rfl,Ca (hH4.at 0 rfl)⟩,?_⟩;refine Ac Tryz.call203 ?_;refine Qs ?_;refine Yk (Qnx t trees hl hmem g cap w4 (hH4.at 2 rfl)) ?_;rintro v w5 ⟨hHi,i,hi,rfl⟩;have hH5:=hH4.call0 hHi;simp only [Yl] at hH5;clear hH4 hHi;apply hK;clear hK;have hil:i < trees.length:=(Yv.1 hi).1;have hlast:trees[trees.length - 1]? = some trees[trees.length - 1]:=Ya (by omega);have hout:=Qzo trees i t _ hi hlast;generalize trees[trees.length - 1]=z at *;have hrs:=Az (hH5.at 2 rfl);have hrd:=Sa Ov hrs rfl hlast;rw [B0,Ut] at hrd;obtain ⟨hx1,hx2,hx3,hx4⟩:=hH5.at 2 rfl;clear hx1 hx4;refine VL [0,1,2] 9 fun K hK=>?_;refine ⟨_,Aj (hH5.at 3 rfl) rfl,_,Aj (hH5.at 3 rfl) rfl,_,Aj (hH5.at 3 rfl) rfl,?_⟩;refine Qs ?_;refine ⟨Y4 (by omega) (by omega),⟨by omega,by omega⟩,?_⟩;refine ⟨A3 z,⟨rfl,hrd⟩,?_⟩;refine Qp ?_;refine Af ?_;refine Qs ?_;refine Ej hH5 2 (o:=i * 2) (vs:=A3 z) rfl (by rw [B0,Ut]) rfl (by kernel_rfl) (by rw [W8];simp [A3];omega) (L8 z) fun w6 hH6=>?_;have e6:=Qi9 Ov trees i z hil;simp only [Yh,Yd] at hH6;rw [Ov] at hH6
 have hH7:Heap w0 B w6 (Yj gt 235 (A3 t)::Yj gr 235 [.int .i64 0,.int .i64 0]::Dz g cap (trees.set i z)::Mk gT g cap trees::G):=by
  have e7:Dz g cap (trees.set i z)=Yr 235 2 (some ⟨g,0,none⟩) trees.length cap ((F7 trees).take (i * 2)++A3 z++(F7 trees).drop (i * 2+2)):=by
   rw [Dz,Ud];exact congrArg _ e6.symm
  rw [e7];exact hH6
 clear hH6 hH5 e6 hrd hrs;have hlen2:((trees.set i z).take (trees.length - 1)).length=trees.length - 1:=by rw [Xi,Ud];omega
 have hsh:(Dz g cap (trees.set i z)).holds w6->(Dz g cap ((trees.set i z).take (trees.length - 1))).holds w6:=fun h=>by
  have h1:=Qqt (m:=trees.length - 1) h (by rw [Ud];omega);have h2:=Qgd Ov (trees.set i z) (trees.length - 1);rw [show F7 (trees.set i z)=Cf A3 (trees.set i z) from rfl,h2] at h1;rw [Dz,hlen2];exact h1
 have hH8:=hH7.view 2 rfl hsh (fun b hb=>hb);simp only [Yh,Yd] at hH8;clear hH7 hsh;generalize (trees.set i z).take (trees.length - 1)=trees' at *;apply hK;clear hK;refine VQ [1,2] fun K hK=>?_;refine ⟨_,Aj (hH8.at 3 rfl) rfl,_,Aj (hH8.at 3 rfl) rfl,?_⟩;refine Qs ?_;refine ⟨Y4 (by omega) (by omega),⟨by omega,by omega⟩,?_⟩;refine Af ?_;refine Qs ?_;refine Al hH8 3 (vs:=[.slice (some ⟨g,0,none⟩) trees'.length cap]) rfl (by rw [hlen2];rfl) (by kernel_rfl) (by simp) (by simp [Yo]) fun w7 hH9=>?_;have hH9:Heap w0 B w7 (Yj gt 235 (A3 t)::Yj gr 235 [.int .i64 0,.int .i64 0]::Dz g cap trees'::Mk gT g cap trees'::G):=hH9;apply hK;clear hK;refine VQ [1] fun K hK=>?_;refine ⟨A3 t,⟨rfl,Ca (hH9.at 0 rfl)⟩,?_⟩;refine Af ?_;refine Qs ?_;refine Al hH9 1 (vs:=A3 t) rfl rfl (by kernel_rfl) (by simp [A3]) (L8 _) fun w8 hH10=>?_;have hH10:Heap w0 B w8 (Yj gt 235 (A3 t)::Yj gr 235 (A3 t)::Dz g cap trees'::Mk gT g cap trees'::G):=hH10;apply hK;clear hK;refine Ad (Ve rfl rfl (Cv (hH10.at 1 rfl) (by kernel_rfl) (by kernel_rfl) rfl ?_));exact ⟨t,trees',hout,hall,hH10.sub ((Uu _ _).trans (Uu _ _)),rfl⟩
end Go.Proofs.YtncpabbjpdogjaaGreatDoor
