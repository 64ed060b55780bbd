/- A program logic over the model, and what this program's functions do by it: part 5. No conditions: a library of lemmas. -/
import Derived.Test.YthcdlcdnchaoiaaGreatW4
import Derived.Shelf.SlSortCmp.WholeK
import Derived.Test.YthcdlcdnchaoiaaGreatChecked
open Nat (reduceEqDiff)
set_option linter.unusedSimpArgs false
set_option linter.unusedVariables false
set_option maxRecDepth 100000
open List renaming replicate->Ya,set_cons_zero->Yb,getElem?_eq_getElem->Ye,range->Yf,set_cons_succ->Yg,append_nil->Yh,getD_eq_getElem?_getD->Yi,length_singleton->Yj,length_append->Yk,mem_of_getElem?->Ym,sublist_cons_self->Yn,take_of_length_le->Yo,singleton_append->Yp,getElem?_eq_none->Ys,getElem?_range->Yu,append_assoc->Yv,getElem?_map->Yw,nil_append->Yx,getElem?_append_right->Yz,getElem?_append_left->Y0,length_take->Y1,replicate_zero->Y3,drop_of_length_le->Y4,getElem?_eq_some_iff->Y8,length_cons->Y9,ext_getElem?->Xa,length_set->Xc,mem_map->Xg,cons_append->Xh,length_range->Xi,length_replicate->Xj,flatten_cons->Xl,getElem?_set->Xm,getElem?_replicate->Xn,sublist_append_right->Xq,range_succ->Xr,mem_of_mem_take->Xt,mem_cons_of_mem->Xu,replicate_succ->Xv,drop_zero->Xw,take_zero->Xx,getElem?_zipWith->Xz,perm_append_comm->X0,perm_append_singleton->X1,getElem_mem->X3,pairwise_iff_getElem->X4,idxOf_lt_length_iff->X5,map_append->X6,mem_cons_self->X7,set_append_right->X9,countP_le_length->Ua,flatten_nil->Ub,any_eq_true->Uc,length->Ud,count_le_length->Uf,length_map->Uh,map_congr_left->Ui,mem_singleton->Uj,mem_range->Uk,pairwise_map->Uo,take_add_one->Up,sublist_append_left->Uq,length_drop->Ur,nodup_range->Us,set_set->Uu,mem_of_mem_drop->Uw,replicate_succ'->Ux,length_pos_iff->Uy,countP_append->U2,getElem?_drop->U3,count_append->U5,take_sublist->U6,nodup_append->U8,flatMap_cons->U9
open Go.Proofs.Tryz renaming underlying51->Yc,prog->Yq,underlying68->Y5,f60->Xk,underlying122->Um,underlying31->Un,underlying165->U0,call23->Gd,call83->Ge
open Go.Eng.Res renaming row->Yd,blk->Yl
open Go.Eng.CallK renaming mk->Yr
open Go.Value renaming oneCell'->Yt,cells->Y2,slice->Y6,int->Xe,agg->Xy,string->U7
open Go.Obj renaming cells->Yy
open Go.Eng.Heap renaming start->Y7
open Nat renaming sub_self->Xb,zero_add->Xo,add_sub_cancel->Xp,pow_le_pow_right->Xs,lt_or_ge->X8,mul_le_mul_right->Ue,le_refl->Ug,mul_le_mul->Ul,add_sub_cancel_left->Ut,le_trans->Uv,eq_zero_or_pos->Uz,succ_mul->Ga
open Go.IntKind renaming i64->Xd,bits->U4
open Go.Eng.I64 renaming mk->Xf
open Int renaming one_mul->Gb
namespace Go.Proofs.YthcdlcdnchaoiaaGreat
open Go Go.Eng
set_option maxHeartbeats 4000000
theorem QSr {s:List UInt8}{room:Int}:∀ (f bit:Nat) (out:List UInt8) (sums:List Nat) (r:List UInt8×Nat),out.length<=262144->goT s room f bit out sums=.ok r ->
  bit+80<=8 * r.2/\r.2<=s.length/\r.1.length<=262144:=by
 intro f
 induction f with
 | zero=>intro bit out sums r _ h;cases h
 | succ f ih =>
  intro bit out sums r ho h;rw [goT] at h;split at h
  ·
   cases h
  split at h
  ·
   split at h
   ·
    cases h
   split at h
   ·
    cases h
   cases h;refine ⟨?_,?_,ho⟩ <;> simp only <;> omega
  split at h
  ·
   split at h
   ·
    cases h
   rename_i r' hr;split at h
   ·
    cases h
   have:=QCc hr;have:=ih _ _ _ _ (by simp;omega) h;omega
  cases h
theorem QPm {s:List UInt8}{room:Int}:∀ (f bit:Nat) (out:List UInt8) (sums:List Nat) (e:Int),goT s room f bit out sums=.error e->e≠0:=by
 intro f
 induction f with
 | zero=>intro bit out sums e h;cases h;decide
 | succ f ih =>
  intro bit out sums e h;rw [goT] at h;split at h
  ·
   cases h;decide
  split at h
  ·
   split at h
   ·
    cases h;decide
   split at h
   ·
    cases h;decide
   cases h
  split at h
  ·
   split at h
   ·
    rename_i hr;cases h;exact Qxz hr
   split at h
   ·
    cases h;decide
   exact ih _ _ _ _ h
  cases h;decide
theorem QK6 {s:List UInt8}{a:Nat}{r:List UInt8×Nat} (h:Qob s a=.ok r):a+14<=r.2/\r.2<=s.length/\r.1.length<=262144:=by
 unfold Qob at h;split at h
 ·
  cases h
 split at h
 ·
  cases h
 have:=QSr _ _ _ _ _ (by simp) h;rw [Int.toNat_natCast] at this;omega
theorem QH0 {s:List UInt8}{a e:Int} (h:Qob s a=.error e):e≠0:=by
 unfold Qob at h;split at h
 ·
  cases h;decide
 split at h
 ·
  rename_i h0;cases h;exact_mod_cast h0
 exact QPm _ _ _ _ _ h
def goU (s:List UInt8):Nat->Nat->List UInt8->Except Int (List UInt8)
 | 0,_,_=>.error 10
 | f+1,a,out=>match Qob s a with
  | .error e=>.error e
  | .ok r=>if 262144 < out.length+r.1.length then .error 3 else if r.2=s.length then .ok (out++r.1) else goU s f r.2 (out++r.1)
def Qnc (s:List UInt8):Except Int (List UInt8):=goU s (s.length+1) 0 []
def Qux (r:Except Int (List UInt8)):Value:=match r with
 | .ok r=>.tuple #[Str r,.int .i64 0]
 | .error e=>.tuple #[Str [],.int .i64 e]
theorem Qj0 (s:List UInt8) (w:World) (hs:s.length<=1000000000000) :
  Does Yq 7 #[Str s] w fun v w'=>Heap w [] w' []/\v=Qux (Qnc s):=by
 generalize hres:Qnc s=res;unfold Qnc at hres;refine En [Str s] 39 Tryz.func7 ?_;refine VS [0] ?_;refine VS [0,4] ?_;refine VS [0,4,5] ?_;refine VB ?_;refine Qad [0,4,5] (fun m e w'=>∃ (a f c:Nat) (out:List UInt8) (a1:Option Addr),Is e [(0,Str s),(4,.slice a1 out.length c),(5,.int .i64 a)]/\Heap w [] w' [Yd 5 1 a1 out.length c (Qar out)]/\goU s f a out=res/\a<=s.length/\s.length+1<=f+a/\out.length<=262144/\m=s.length - a) s.length ?_ ?_
 ·
  refine Qs ?_;exact ⟨0,_,0,[],none,rfl,(Y7 w).nilRow 5 1,hres,by omega,by omega,by simp,rfl⟩
 clear hres;rintro m e w' ⟨a,f,c,out,a1,rfl,hH,hres,ha,hf,ho,rfl⟩;obtain ⟨f,rfl⟩:∃ k,f=k+1:=⟨f - 1,by omega⟩;rw [goU] at hres;refine Qac ?_;generalize htk:Qob s a=tk at *;refine VQ [0,4,6,7,8] fun K hK=>?_;refine MemK_call Tryz.call26 ?_;refine Qs ?_;refine Yr (Qqd s a w' (Xf (by omega) (by omega)) hs) ?_;rintro v w2 ⟨hHt,rfl⟩;have hH2:=hH.call0 hHt;simp only [Yx] at hH2;clear hH hHt;rw [htk];cases tk with
 | error e =>
  have he:=QH0 htk;simp only at hres;subst hres;unfold QCb;(try refine Qs ?_);apply hK;clear hK;refine VQ [0,4,6,7,8,25] fun K hK=>?_
  suffices out:K [(0,Str s),(4,.slice a1 out.length c),(6,Str []),(7,.int .i64 0),(8,.int .i64 e),(25,.bool false)] w2 by
   refine ⟨fun h=>by omega,fun _=>out⟩
  apply hK;clear hK;refine Qaf rfl rfl (fun h=>by cases h) (fun h=>VC_skip ?_);refine VS [0,4,6,7,8,27] ?_;refine Qaf rfl rfl (fun h=>?_) (fun h=>by simp at h;omega);refine VS [2,3] ?_;exact VC_ret (Qav rfl rfl rfl ⟨hH2.sub (by simp),rfl⟩)
 | ok r =>
  obtain ⟨t,to⟩:=r;obtain ⟨k1,k2,k3⟩:=QK6 htk;simp only at hres k1 k2 k3;unfold QCb;(try refine Qs ?_);apply hK;clear hK;refine VQ [0,4,6,7,8,25] fun K hK=>?_
  suffices out:∀ b:Bool,(b=true ↔ 262144 < out.length+t.length)->K [(0,Str s),(4,.slice a1 out.length c),(6,Str t),(7,.int .i64 to),(8,.int .i64 0),(25,.bool b)] w2 by
   refine ⟨fun _=>?_,fun h=>by simp at h⟩;refine ⟨Xf (by omega) (by omega),?_⟩;exact out _ (by simp;omega)
  intro b hb;apply hK;clear hK;by_cases hbig:262144 < out.length+t.length
  ·
   rw [if_pos hbig] at hres;subst hres;refine Qaf rfl rfl (fun h=>?_) (fun h=>by rw [hb.2 hbig] at h;cases h);refine VS [0,4,6,7,8] ?_;refine VS [0,4,6,7,8,27] ?_;refine Qaf rfl rfl (fun h=>?_) (fun h=>by simp at h);refine VS [2,3] ?_;exact VC_ret (Qav rfl rfl rfl ⟨hH2.sub (by simp),rfl⟩)
  rw [if_neg hbig] at hres;refine Qaf rfl rfl (fun h=>absurd (hb.1 h) hbig) (fun h=>VC_skip ?_);clear hb h;refine VS [0,4,6,7,8,27] ?_;refine Qaf rfl rfl (fun h=>by simp at h) (fun h=>VC_skip ?_);clear h;refine VQ [0,4,7] fun K hK=>?_;refine Qai ?_;refine Qs ?_;refine Qod hH2 0 rfl Un zi5 Tryz.underlying9 (fun h=>by simp;omega) fun a' cap' w5 hc' hH3=>?_;simp only [Yb] at hH3;(try refine Qs ?_);apply hK;clear hK;refine VS [0,4,5] ?_;refine VS [0,4,5,36] ?_;refine VD (fun h=>?_) (fun h=>VC_skip ?_)
  ·
   rw [if_pos (by omega)] at hres;subst hres;refine VQ [2,3] fun K hK=>?_;refine ⟨out++t,hH3.readsBytes 0 rfl,?_⟩;(try refine Qs ?_);(repeat refine Qo ?_);apply hK;clear hK;exact VC_ret (Qav rfl rfl rfl ⟨hH3.sub (by simp),rfl⟩)
  rw [if_neg (by omega)] at hres;refine Qaj ?_;refine Qab ?_;refine Qs ?_;exact ⟨s.length - to,by omega,to,f,cap',out++t,a',rfl,hH3,hres,by omega,by omega,by simp;omega,rfl⟩
set_option maxHeartbeats 4000000
theorem Qx0 (n:Int) (w:World) (hn:0<=n/\n<=9):Does Yq 18 #[.int .i64 n] w fun v w'=>w'=w/\v=.int .i64 (min (n * 100000) 262144):=by
 refine En [.int .i64 n] 8 Tryz.func18 ?_;refine VS [0] ?_;refine VS [0,5] ?_;refine VD (fun h=>?_) (fun h=>VC_skip ?_)
 ·
  refine VS [2] ?_;refine VC_ret (VX_ret1 rfl rfl ⟨rfl,?_⟩);rw [Int.min_eq_right (by omega)]
 refine VS [2] ?_;refine VC_ret (VX_ret1 rfl rfl ⟨rfl,?_⟩);rw [Int.min_eq_left (by omega)]
theorem QLu {T n cap:Nat}{a:Option Addr}{xs:List Value}{w:World} (h:(Yd T 1 a n cap xs).holds w):SL w a n cap xs:=by
 refine ⟨Qaq h,(Qth h).1,fun ad e=>?_⟩;obtain ⟨_,_,_,h4⟩:=h;rcases h4 with ⟨h5,_,_⟩ | ⟨g,_,_,h5,_⟩
 ·
  rw [h5] at e;cases e
 rw [h5] at e;cases e;rfl
set_option maxHeartbeats 4000000
theorem SL.drop {w:World}{a:Option Addr}{n c:Nat}{xs:List Value} (h:SL w a n c xs) (k:Nat) (hk:k<=n):SL w (if c=k then a else a.map fun x=>x.add k) (n - k) (c - k) (xs.drop k):=by
 have h1:=h.cut k (n - k) (by omega);have hl:xs.length=n:=by have:=h.1.1;omega
 rw [Yo (by rw [Ur];omega)] at h1;refine ⟨h1,by have:=h.2.1;omega,fun ad e=>?_⟩;split at e
 ·
  exact h.2.2 ad e
 cases a with
 | none=>cases e
 | some x =>
  have h3:=h.2.2 x rfl;obtain ⟨b,o,s⟩:=x;simp only at h3;subst h3;cases e;simp [Qbg]
theorem QEp (s:List UInt8) (a:List Nat):Qer s a []=a:=by
 cases a with
 | nil=>rw [Qer]
 | cons x a=>rw [Qer]
theorem Qx1 (l:List UInt8) (a b:List Nat) (hl:l.length<=1000000000000) (ha:∀ x∈a,x < l.length) (hb:∀ x∈b,x < l.length) (hal:a.length<=1000000000) (hbl:b.length<=1000000000) (pa pb:Option Addr) (ca cb:Nat) (w:World) (hsa:SL w pa a.length ca (Qak a)) (hsb:SL w pb b.length cb (Qak b)) :
  Does Yq 105 #[Str l,.slice pa a.length ca,.slice pb b.length cb] w fun v w'=>∃ ao co,Heap w [] w' [Yd 3 1 ao (Qer l a b).length co (Qak (Qer l a b))]/\v=.slice ao (Qer l a b).length co:=by
 have hml:(Qer l a b).length=a.length+b.length:=by rw [(Qff l a b).length_eq,Yk]
 generalize hM:Qer l a b=M at *;refine En [Str l,.slice pa a.length ca,.slice pb b.length cb] 45 Tryz.func105 ?_;refine VS [0,1,2] ?_;refine VS [0,1,2,7] ?_;have hN0:=(Y7 w).nilRow 3 1;refine VB ?_;refine Qad [0,1,2,7] (fun m e w'=>∃ (x y o:List Nat) (px py po:Option Addr) (cx cy co:Nat),Is e [(0,Str l),(1,.slice px x.length cx),(2,.slice py y.length cy),(7,.slice po o.length co)]/\Heap w [] w' [Yd 3 1 po o.length co (Qak o)]/\SL w px x.length cx (Qak x)/\SL w py y.length cy (Qak y)/\(∀ z∈x,z < l.length)/\(∀ z∈y,z < l.length)/\o++Qer l x y=M/\m=x.length+y.length) (a.length+b.length) ?_ ?_
 ·
  refine Qs ?_;exact ⟨a,b,[],pa,pb,none,ca,cb,0,rfl,hN0,hsa,hsb,ha,hb,hM,rfl⟩
 clear hN0 hsa hsb ha hb hM;rintro m e w' ⟨x,y,o,px,py,po,cx,cy,co,rfl,hH,hsx,hsy,hx,hy,hM,rfl⟩
 have hol:o.length<=2000000000:=by
  have:=congrArg Ud hM;rw [Yk] at this;omega
 have hMl:o.length+(x.length+y.length)<=2000000000:=by
  have:=congrArg Ud hM;rw [Yk,(Qff l x y).length_eq,Yk] at this;omega
 refine VQ [0,1,2,7,15] fun K hK=>?_
 suffices out:∀ b:Bool,(b=true ↔ 0 < x.length/\0 < y.length)->K [(0,Str l),(1,.slice px x.length cx),(2,.slice py y.length cy),(7,.slice po o.length co),(15,.bool b)] w' by (repeat' (first | exact out _ _ (by first | omega | (simp;done) | (simp;omega)) | exact out _ (by first | omega | (simp;done) | (simp;omega)) | refine ⟨fun _=>?_,fun _=>?_⟩ | refine Qo ?_))
 intro b hb;apply hK;clear hK;refine Vi (fun h=>?_) (fun h=>?_)
 ·
  obtain ⟨g1,g2⟩:=hb.1 h;clear hb h;cases x with
  | nil=>simp at g1
  | cons u x =>
  cases y with
  | nil=>simp at g2
  | cons v y =>
  have hu:=hx u (by simp);have hv:=hy v (by simp);obtain ⟨qx,rfl⟩:=Qbj hsx.1 (by simp);obtain ⟨qy,rfl⟩:=Qbj hsy.1 (by simp);have c1:=Qbr (hH.rs' hsx.1) (i:=0) (by simp);have c2:=Qbr (hH.rs' hsy.1) (i:=0) (by simp);have e1:(u::x).getD 0 0=u:=rfl;have e2:(v::y).getD 0 0=v:=rfl;rw [e1] at c1;rw [e2] at c2;have hah:=Qzn l u v hl hu hv w';rw [Qer] at hM;have hdx:=hsx.drop 1 (by simp);have hdy:=hsy.drop 1 (by simp);have hxc:=hsx.2.1;have hyc:=hsy.2.1;simp only [Y9,Xp,Qak,List.map_cons,List.drop_succ_cons,Xw] at hdx hdy hxc hyc g1 g2 hMl;generalize Qlt l u v=bb at *;refine VC_skip ?_;refine Qac ?_;refine VL [0,1,2,7,23] 7 fun K hK=>?_;refine ⟨by simp,_,c1,by simp,_,c2,?_⟩;(try refine Qs ?_);refine MemK_call Tryz.call136 ?_;refine Qs ?_;refine Yr hah ?_;rintro v' w2 ⟨rfl,rfl⟩;(try refine Qs ?_);apply hK;clear hK;cases bb with
  | true =>
   refine Qaf rfl rfl (fun h=>?_) (fun h=>by simp at h);rw [if_pos rfl] at hM;refine VQ [0,1,2,7] fun K hK=>?_;refine ⟨by simp,_,c1,?_⟩;(try refine Qs ?_);refine Qcd (xs:=[.tmp 27]) Yc sz3 rfl rfl rfl (by omega) ?_;refine Qs ?_;refine ⟨by simp [Y2],?_⟩;refine Qai ?_;refine Qs ?_;refine Qiv hH 0 (u) rfl Yc zi3 (by first | rfl | (simp;done) | omega | (simp;omega)) (fun h=>by (first | omega | (simp;done) | (simp;omega))) fun a' cap' w5 hc' hH2=>?_;(try refine Qs ?_);simp only [Yb] at hH2;apply hK;clear hK;refine VQ [0,1,2,7] fun K hK=>?_;refine ⟨⟨by omega,by simp only [Y9];omega,by simp only [Y9];omega⟩,?_⟩;apply hK;clear hK;refine Qaj ?_;refine Qab ?_;refine Qs ?_;exact ⟨x.length+(v::y).length,by simp,x,v::y,o++[u],_,_,a',_,_,cap',rfl,hH2,hdx,hsy,fun z hz=>hx z (by simp [hz]),hy,by rw [<- hM];simp,rfl⟩
  | false =>
   refine Qaf rfl rfl (fun h=>by simp at h) (fun h=>?_);rw [if_neg (by simp)] at hM;refine VQ [0,1,2,7] fun K hK=>?_;refine ⟨by simp,_,c2,?_⟩;(try refine Qs ?_);refine Qcd (xs:=[.tmp 35]) Yc sz3 rfl rfl rfl (by omega) ?_;refine Qs ?_;refine ⟨by simp [Y2],?_⟩;refine Qai ?_;refine Qs ?_;refine Qiv hH 0 (v) rfl Yc zi3 (by first | rfl | (simp;done) | omega | (simp;omega)) (fun h=>by (first | omega | (simp;done) | (simp;omega))) fun a' cap' w5 hc' hH2=>?_;(try refine Qs ?_);simp only [Yb] at hH2;apply hK;clear hK;refine VQ [0,1,2,7] fun K hK=>?_;refine ⟨⟨by omega,by simp only [Y9];omega,by simp only [Y9];omega⟩,?_⟩;apply hK;clear hK;refine Qaj ?_;refine Qab ?_;refine Qs ?_;exact ⟨(u::x).length+y.length,by simp,u::x,y,o++[v],_,_,a',_,_,cap',rfl,hH2,hsx,hdy,hx,fun z hz=>hy z (by simp [hz]),by rw [<- hM];simp,rfl⟩
 have hn:¬ (0 < x.length/\0 < y.length):=fun hh=>by rw [hb.2 hh] at h;cases h
 have hfin:(o++x)++y=M:=by
  rw [<- hM,Yv]
  congr 1
  cases x with
  | nil=>rw [Qer];rfl
  | cons u x =>
   cases y with
   | nil=>rw [QEp,Yh]
   | cons v y=>simp at hn
 clear hb h hn hM;refine Qag rfl ?_;refine VQ [6] fun K hK=>?_;refine Qai ?_;refine Qs ?_;refine Qbn (zs:=#[.int .i64 0]) (bytes:=8) hH 0 rfl Yc (by kernel_rfl) rfl (Qkd (hH.rs' hsx.1) Yc) (Qdc _) (fun h=>by omega) fun a1 c1 w5 hc' hH2=>?_;simp only [Yb] at hH2;rw [<- Qcy] at hH2;(try refine Qs ?_);refine Qai ?_;refine Qs ?_;refine Qbn (zs:=#[.int .i64 0]) (bytes:=8) hH2 0 rfl Yc (by kernel_rfl) rfl (Qkd (hH2.rs' hsy.1) Yc) (Qdc _) (fun h=>by omega) fun a2 c2 w6 hc' hH3=>?_;simp only [Yb] at hH3;rw [<- Qcy,hfin] at hH3;have hle:o.length+x.length+y.length=M.length:=by rw [<- hfin,Yk,Yk]
 rw [hle] at hH3 ⊢;(try refine Qs ?_);apply hK;clear hK;exact VC_ret (VX_ret1 rfl rfl ⟨a2,c2,hH3,rfl⟩)
open Go Go.Eng Go.Shelf Go.Sort
section
variable {α:Type} [Inhabited α] {enc:α->List Value}{k:Nat}
theorem Qx2 (hk:∀ x,(enc x).length=k) (d:Array α) (j:Nat) (hj:j < d.size * k):(Qd3 enc d.toList)[j]? = some (flatK enc k d)[j]! := by
 have hk0:0 < k:=by
  rcases Uz k with h | h
  ·
   subst h;simp at hj
  exact h
 have h1:j / k < d.size:=(Nat.div_lt_iff_lt_mul hk0).2 hj;have h2:j % k < k:=Nat.mod_lt _ hk0
 have h3:d.toList[j / k]? = some d[j / k]! := by
  rw [Ye (by simpa using h1),getElem!_pos d _ h1];simp
 have h4:(enc d[j / k]!)[j % k]? = some (enc d[j / k]!)[j % k]! := by
  rw [Ye (by rw [hk];exact h2),getElem!_pos (enc d[j / k]!) (j % k) (by rw [hk];exact h2)]
 have h5:=Qv1 hk d.toList (j / k) _ h3 (j % k) _ h4;rw [Nat.mul_comm,Nat.div_add_mod] at h5;rw [h5,get_flatK enc k d j hj]
theorem Quy (hk:∀ x,(enc x).length=k) {T g cap:Nat}{d:Array α}{w:World} (h:(Yd T k (some ⟨g,0,none⟩) d.size cap (Qd3 enc d.toList)).holds w):HoldsK enc k w g 0 d:=by
 intro j hj;rw [size_flatK] at hj;have hc:=Qa1 h (Qx2 hk d j hj);refine ⟨by rw [Xo];exact hc,?_⟩;obtain ⟨h1,h2,h3,h4⟩:=h;rcases h4 with ⟨h5,_⟩ | ⟨g',rest,fz,h5,hg,hl,hf⟩
 ·
  cases h5
 cases h5;have hn:=Ue k h2;have:=hf j (by omega);obtain ⟨lo,hi⟩:=fz;simp only [World.frozen?,hg,Xo];simpa using this
theorem QAn (hk:∀ x,(enc x).length=k) {T g cap:Nat}{d d':Array α}{w:World} (h:(Yd T k (some ⟨g,0,none⟩) d.size cap (Qd3 enc d.toList)).holds w) (hs:d'.size=d.size) (n m:Nat) (os:Array Obj) :
  ∃ w1,sortWorldK enc k (w.drewN n) g 0 m d' os=(w1.drewN n).drewN m/\Heap w [g] w1 [Yd T k (some ⟨g,0,none⟩) d'.size cap (Qd3 enc d'.toList)]:=by
 obtain ⟨h1,h2,h3,h4⟩:=h;rcases h4 with ⟨h5,_⟩ | ⟨g',rest,fz,h5,hg,hl,hf⟩
 ·
  cases h5
 cases h5;refine ⟨Sort.grow (putRowK enc k w g 0 d') os,rfl,?_⟩;have hlt:g < w.heap.size:=(Array.getElem?_eq_some_iff.1 hg).1;have hsz:(putRowK enc k w g 0 d').heap.size=w.heap.size:=by simp [putRowK,Sort.putRow,Sort.mapBlock]
 have hne:∀ i,i < w.heap.size->i≠g->(Sort.grow (putRowK enc k w g 0 d') os).heap[i]? = w.heap[i]? := fun i hi hi2=>by
  rw [Sort.heap_grow_old _ _ (by omega)];simp only [putRowK,Sort.putRow,Sort.mapBlock,Array.getElem?_modify];rw [if_neg (fun e=>hi2 e.symm)]
 have hcs:(Qd3 enc d'.toList).length=d'.size * k:=by rw [Qvz hk];simp
 have hold:(Qd3 enc d.toList).length=d.size * k:=h1;have hdk:d'.size * k=d.size * k:=by rw [hs]
 have hat:(Sort.grow (putRowK enc k w g 0 d') os).heap[g]? = some (.cells (Qd3 enc d'.toList++rest).toArray T fz):=by
  rw [Sort.heap_grow_old _ _ (by omega)];simp only [putRowK,Sort.putRow,Sort.mapBlock,Array.getElem?_modify,if_true,hg,Option.map_some,Sort.onCells]
  congr 2
  apply Array.ext_getElem?;intro j;simp only [Sort.putCells,Array.getElem?_mapIdx,List.getElem?_toArray,size_flatK,Nat.zero_le,true_and,Xo,Nat.sub_zero,id];by_cases hj:j < d'.size * k
  ·
   have e1:=Qx2 hk d' j hj;rw [Y0 (by omega),Y0 (by omega),e1];rw [Ye (by rw [hold,<- hs];exact hj),Option.map_some,if_pos hj]
  rw [Yz (by omega),Yz (by omega),hcs,hold,hs];cases rest[j - d.size * k]? with
  | none=>rfl
  | some x=>simp only [Option.map_some];rw [if_neg (by omega)]
 refine ⟨⟨rfl,rfl,rfl,by rw [Sort.grow];simp [hsz],fun i hi hi2=>hne i hi (by simpa using hi2)⟩,?_,?_,by simp⟩
 ·
  intro r hr;rw [Uj.1 hr];refine ⟨hcs,by omega,h3,.inr ⟨g,rest,fz,rfl,hat,?_,hf⟩⟩;rw [Yk] at hl ⊢;rw [hcs,hs,<- hold];exact hl
 intro r hr b hb;rw [Uj.1 hr] at hb;simp [Yd] at hb;subst hb;exact ⟨.inl (by simp),by rw [Sort.grow];simp [hsz];omega⟩
end
open Go.Shelf
def Qx3:Go.Shelf.Ren:=⟨fun | 6=>132 | 15=>127 | 14=>160 | 28=>154 | 29=>155 | 20=>168 | 21=>169 | 22=>170 | 23=>171 | 24=>172 | 25=>173 | 26=>174 | 27=>175 | 46=>177 | 47=>164 | 48=>165 | 49=>178 | 50=>179 | 57=>180 | n=>n,fun | 22=>165 | 24=>167 | 25=>169 | 3=>3 | 39=>78 | 0=>0 | 53=>41 | 55=>46 | 4=>4 | 46=>182 | 45=>181 | 50=>186 | 5=>5 | 9=>9 | 66=>197 | 70=>201 | 76=>208 | 77=>116 | n=>n,fun | n=>n⟩
theorem QK7:Go.Proofs.SlLaysF0.n6 Yq Qx3:={
 mixed:=by kernel_rfl
 f6:=⟨Tryz.f132.name,by decide,Tryz.func132.trans (congrArg some (by kernel_rfl))⟩
 f14:=⟨Tryz.f160.name,by decide,Tryz.func160.trans (congrArg some (by kernel_rfl))⟩
 f15:=Tryz.func127.trans (congrArg some (by kernel_rfl))
 f20:=⟨Tryz.f168.name,by decide,Tryz.func168.trans (congrArg some (by kernel_rfl))⟩
 f21:=⟨Tryz.f169.name,by decide,Tryz.func169.trans (congrArg some (by kernel_rfl))⟩
 f22:=⟨Tryz.f170.name,by decide,Tryz.func170.trans (congrArg some (by kernel_rfl))⟩
 f23:=⟨Tryz.f171.name,by decide,Tryz.func171.trans (congrArg some (by kernel_rfl))⟩
 f24:=⟨Tryz.f172.name,by decide,Tryz.func172.trans (congrArg some (by kernel_rfl))⟩
 f25:=⟨Tryz.f173.name,by decide,Tryz.func173.trans (congrArg some (by kernel_rfl))⟩
 f26:=⟨Tryz.f174.name,by decide,Tryz.func174.trans (congrArg some (by kernel_rfl))⟩
 f27:=⟨Tryz.f175.name,by decide,Tryz.func175.trans (congrArg some (by kernel_rfl))⟩
 f28:=Tryz.func154.trans (congrArg some (by kernel_rfl))
 f29:=Tryz.func155.trans (congrArg some (by kernel_rfl))
 f46:=⟨Tryz.f177.name,by decide,Tryz.func177.trans (congrArg some (by kernel_rfl))⟩
 f47:=Tryz.func164.trans (congrArg some (by kernel_rfl))
 f48:=Tryz.func165.trans (congrArg some (by kernel_rfl))
 f49:=⟨Tryz.f178.name,by decide,Tryz.func178.trans (congrArg some (by kernel_rfl))⟩
 f50:=⟨Tryz.f179.name,by decide,Tryz.func179.trans (congrArg some (by kernel_rfl))⟩
 f57:=⟨Tryz.f180.name,by decide,Tryz.func180.trans (congrArg some (by kernel_rfl))⟩
 t0:=Tryz.underlying0
 a0:=Tryz.isAgg0
 z0:=Tryz.sizeOf0
 v0:=Tryz.zeroValue0
 t3:=Tryz.underlying3
 a3:=Tryz.isAgg3
 z3:=Tryz.sizeOf3
 v3:=Tryz.zeroValue3
 t4:=Tryz.underlying4
 a4:=Tryz.isAgg4
 z4:=Tryz.sizeOf4
 v4:=Tryz.zeroValue4
 t5:=Tryz.underlying5
 a5:=Tryz.isAgg5
 z5:=Tryz.sizeOf5
 v5:=Tryz.zeroValue5
 t9:=Tryz.underlying9
 a9:=Tryz.isAgg9
 z9:=Tryz.sizeOf9
 v9:=Tryz.zeroValue9
 t22:=U0
 a22:=Tryz.isAgg165
 z22:=Tryz.sizeOf165
 v22:=Tryz.zeroValue165
 t25:=Tryz.underlying169
 a25:=Tryz.isAgg169
 z25:=Tryz.sizeOf169
 v25:=Tryz.zeroValue169
 t39:=Tryz.underlying78
 a39:=Tryz.isAgg78
 z39:=Tryz.sizeOf78
 v39:=Tryz.zeroValue78
 t45:=Tryz.underlying181
 a45:=Tryz.isAgg181
 z45:=Tryz.sizeOf181
 v45:=Tryz.zeroValue181
 t46:=Tryz.underlying182
 a46:=Tryz.isAgg182
 z46:=Tryz.sizeOf182
 v46:=Tryz.zeroValue182
 t50:=Tryz.underlying186
 a50:=Tryz.isAgg186
 z50:=Tryz.sizeOf186
 v50:=Tryz.zeroValue186
 t53:=Tryz.underlying41
 a53:=Tryz.isAgg41
 z53:=Tryz.sizeOf41
 v53:=Tryz.zeroValue41
 t55:=Tryz.underlying46
 a55:=Tryz.isAgg46
 z55:=Tryz.sizeOf46
 v55:=Tryz.zeroValue46
 t66:=Tryz.underlying197
 a66:=Tryz.isAgg197
 z66:=Tryz.sizeOf197
 v66:=Tryz.zeroValue197
 t70:=Tryz.underlying201
 a70:=Tryz.isAgg201
 z70:=Tryz.sizeOf201
 v70:=Tryz.zeroValue201
 t76:=Tryz.underlying208
 a76:=Tryz.isAgg208
 z76:=Tryz.sizeOf208
 v76:=Tryz.zeroValue208
 t77:=Tryz.underlying116
 a77:=Tryz.isAgg116
 z77:=Tryz.sizeOf116
 v77:=Tryz.zeroValue116 }
open Go Go.Eng
theorem Qqe (a b:Tr) (ha:TrOk a) (hb:TrOk b) (w:World):Does Yq 133 #[.agg (Qbm a).toArray,.agg (Qbm b).toArray] w fun v w'=>v=.int .i64 (cmpT a b)/\w'=(w.alloc (Yy (Qbm a).toArray 167)).alloc (Yy (Qbm b).toArray 167):=by
 obtain ⟨ha1,ha2,ha3⟩:=ha;obtain ⟨hb1,hb2,hb3⟩:=hb;refine En [.agg (Qbm a).toArray,.agg (Qbm b).toArray] 23 Tryz.func133 ?_;refine VQ [2,3] fun K hK=>?_;refine Qch ?_;refine Qs ?_;have hH:=(Y7 w).box 167 (Qbm a);generalize w.alloc (Yy (Qbm a).toArray 167)=w1 at *;generalize w.heap.size=ga at *;refine Qch ?_;refine Qs ?_;have hH2:=hH.box 167 (Qbm b);generalize w1.alloc (Yy (Qbm b).toArray 167)=w2 at *;generalize w1.heap.size=gb at *;clear hH;apply hK;clear hK;refine VQ [2,3,7] fun K hK=>?_;refine ⟨Qbm a,⟨rfl,Qay (hH2.at 1 rfl)⟩,?_⟩;refine ⟨Qbm b,⟨rfl,Qay (hH2.at 0 rfl)⟩,?_⟩;rw [Qz6];apply hK;clear hK;refine Vi (fun h=>?_) (fun h=>VC_skip ?_)
 ·
  simp only [decide_eq_true_eq] at h;subst h;refine VS [4] ?_;exact VC_ret (VX_ret1 rfl rfl ⟨by simp [cmpT],rfl⟩)
 clear h;have c1:w2.cell? ⟨ga,0,none⟩=some (.int .i64 a.1):=Qah (hH2.at 1 rfl) rfl;have c2:w2.cell? ⟨ga,1,none⟩=some (.int .i64 a.2):=Qah (hH2.at 1 rfl) rfl;have c3:w2.cell? ⟨gb,0,none⟩=some (.int .i64 b.1):=Qah (hH2.at 0 rfl) rfl;have c4:w2.cell? ⟨gb,1,none⟩=some (.int .i64 b.2):=Qah (hH2.at 0 rfl) rfl;refine VQ [2,3,12] fun K hK=>?_;refine ⟨_,c1,_,c3,?_⟩;refine Qs ?_;apply hK;clear hK;refine Vi (fun h=>?_) (fun h=>VC_skip ?_)
 ·
  simp only [decide_eq_true_eq] at h;refine VQ [4] fun K hK=>?_;refine ⟨_,c1,_,c3,?_⟩;refine Qs ?_;refine ⟨Xf (by omega) (by omega),?_⟩;apply hK;clear hK;exact VC_ret (VX_ret1 rfl rfl ⟨by rw [cmpT,if_neg h],rfl⟩)
 simp only [decide_eq_false_iff_not,Decidable.not_not] at h;refine VQ [4] fun K hK=>?_;refine ⟨_,c2,_,c4,?_⟩;refine Qs ?_;refine ⟨Xf (by omega) (by omega),?_⟩;apply hK;clear hK;exact VC_ret (VX_ret1 rfl rfl ⟨by rw [cmpT,if_pos h],rfl⟩)
abbrev TrS:={ t:Tr // TrOk t }
instance:Inhabited TrS:=⟨⟨(0,0),by unfold TrOk;omega⟩⟩
def encS (x:TrS):List Value:=Qbm x.1
def cmpS (x y:TrS):Int:=cmpT x.1 y.1
theorem QAo (x y:Tr):cmpT x y < 0 ↔ (x.1 < y.1∨(x.1=y.1/\x.2 < y.2)):=by
 unfold cmpT;split <;> omega
theorem swoT:Sort.SWO (Go.Proofs.ltOf cmpS) where
 irrefl x:=by simp [Go.Proofs.ltOf,cmpS,cmpT]
 trans x y z h1 h2:=by
  simp only [Go.Proofs.ltOf,cmpS,decide_eq_true_eq,QAo] at *;omega
 ntrans x y z h1 h2:=by
  simp only [Go.Proofs.ltOf,cmpS,decide_eq_false_iff_not,QAo] at *;omega
theorem QEq (T:List Tr) (hT:T.length<=1000000) (hok:∀ t∈T,TrOk t) (g cap:Nat) (w0 w:World) (B:List Nat) (G:List Res) (hL:Heap w0 B w (trow g cap T::G)) :
  Does Yq 132 #[.slice (some ⟨g,0,none⟩) T.length cap,Qw7] w fun v w'=>∃ T':List Tr,T'.Perm T/\(T'.Pairwise fun a b=>¬ cmpT b a < 0)/\Heap w0 B w' (trow g cap T'::G):=by
 intro n
 obtain ⟨d,hd⟩:∃ d:Array TrS,d.toList.map (·.1)=T:=by
  refine ⟨(T.pmap (fun t h=>(⟨t,h⟩:TrS)) hok).toArray,?_⟩;rw [List.toList_toArray,List.map_pmap];simp
 have hdl:d.size=T.length:=by rw [<- hd];simp
 have henc:∀ d:Array TrS,Qd3 encS d.toList=Qfl (d.toList.map (·.1)):=fun d=>by
  unfold Qfl Qd3;rw [List.flatMap_map];rfl
 have hrow:(Yd 167 2 (some ⟨g,0,none⟩) d.size cap (Qd3 encS d.toList)).holds w:=by
  rw [henc d,hd,hdl];exact hL.at 0 rfl
 have hlt:g < w.heap.size:=(hL.foot (trow g cap T) (by simp) g (by simp [trow,Yd])).2
 have hcmp:Go.Proofs.CmpLays Yq 133 #[] encS 2 cmpS g 0 d.size (w.drewN n):=by
  intro m os dk hdk x y;rw [Array.append_empty];have h:=Qqe x.1 y.1 x.2 y.2 (Go.Proofs.sortWorldK encS 2 (w.drewN n) g 0 m dk os) 0;rw [QPr] at h;refine Calls.mono h ?_;rintro e w' ⟨v,w1,q,rfl,rfl,rfl,rfl⟩;refine ⟨rfl,q,#[Yy (Qbm x.1).toArray 167,Yy (Qbm y.1).toArray 167],?_⟩;rw [Sort.alloc_eq_grow,Sort.alloc_eq_grow,Sort.grow_grow];rfl
 have hcon:=AnyQ.slices_SortFunc QK7 2 Tryz.isAgg167 Tryz.sizeOf167 encS (fun _=>rfl) (fun x=>Qd2 x.1) cmpS swoT 133 #[] g 0 cap d (w.drewN n) Tryz.call133 hcmp (Quy (enc:=encS) (k:=2) (fun _=>rfl) hrow) hlt (by omega);change Calls Yq 132 _ _ _ at hcon;rw [hdl] at hcon;refine hcon.mono ?_;rintro e w' ⟨rfl,d',m,os,⟨hp1,hp2,hp3⟩,hs,rfl⟩;obtain ⟨w1,e1,hH⟩:=QAn (enc:=encS) (k:=2) (fun _=>rfl) hrow hp1 n m os;have e2:(w1.drewN n).drewN m=w1.drewN (n+m):=by simp [World.drewN,Nat.add_assoc]
 have hH2:=hL.call1 0 rfl hH;simp only [Yb,Yx] at hH2;have hlen:(d'.toList.map (·.1)).length=d'.size:=by simp
 have e3:Yd 167 2 (some ⟨g,0,none⟩) d'.size cap (Qd3 encS d'.toList)=trow g cap (d'.toList.map (·.1)):=by
  rw [trow,hlen,<- henc d']
 rw [e3] at hH2;have hfull:∀ x:Array TrS,(x.extract 0 x.size).toList=x.toList:=fun x=>by simp
 refine ⟨_,w1,n+m,rfl,by rw [e1,e2],d'.toList.map (·.1),?_,?_,hH2⟩
 ·
  rw [<- hd];have h1:=hp3;rw [<- hdl,hfull d,<- hp1,hfull d'] at h1;exact h1.map _
 rw [Uo,X4];intro i j hi hj hij;have h1:=hs i j (by omega) hij (by rw [<- hdl,<- hp1];simpa using hj);have h1:=of_decide_eq_false h1;simp only [cmpS] at h1;have hi':i < d'.size:=by simpa using hi
 have hj':j < d'.size:=by simpa using hj
 rw [getElem!_pos d' i hi',getElem!_pos d' j hj'] at h1;simpa using h1
theorem QK8 {n k:Nat} (hn:2<=n) (h1:2 ^ k<=n) (h2:n < 2 ^ (k+1)):Qfp n=k:=(Nat.log2_eq_iff (by omega)).2 ⟨h1,h2⟩
def negT (l:List Nat) (i:Nat):Tr:=(-((max (l.getD i 0) 1:Nat):Int),i)
theorem QH1 (l:List Nat) (hl:2<=l.length) (hl2:l.length<=258) (hx:∀ x∈l,x<=1073741824) (pa:Option Addr) (lc:Nat) (w:World) (hr:RS w pa l.length 1 (Qak l)) :
  Does Yq 101 #[.slice pa l.length lc] w fun v w'=>∃ a cap,Heap w [] w' [Yd 3 1 a (Qdr l).length cap (Qak (Qdr l))]/\v=.tuple #[.slice a (Qdr l).length cap,.int .i64 0]:=by
 have hc1:=Qpo l hl hl2 hx pa lc w hr;obtain ⟨p,rfl⟩:=Qbj hr (by omega);have hget:∀ i,i < l.length->l.getD i 0<=1073741824:=fun i hi=>hx _ (Qa3 0 hi);refine En [.slice (some p) l.length lc] 73 Tryz.func101 ?_;generalize hn:l.length=n at *;refine VS [0] ?_;refine VQ [0,14] fun K hK=>?_;refine MemK_call Tryz.call128 ?_;refine Qs ?_;refine Yr hc1 ?_;rintro v w2 ⟨rfl,rfl⟩;refine Qs ?_;apply hK;clear hK;refine Qaf rfl rfl (fun h=>by simp at h) (fun h=>VC_skip ?_);clear h hc1;refine VS [0,4,5] ?_;refine VB ?_;refine Qad [0,4,5] (fun m e w'=>∃ (k:Nat),Is e [(0,.slice (some p) n lc),(4,.int .i64 n),(5,.int .i64 k)]/\Is w' w2/\1<=k/\k<=8/\2 ^ k<=n/\m=9 - k) 8 ?_ ?_
 ·
  refine Qs ?_;exact ⟨1,rfl,rfl,by omega,by omega,by omega,rfl⟩
 rintro m e w' ⟨k,rfl,rfl,hk1,hk8,hkn,rfl⟩;have hp2:2 ^ (k+1)<=2 ^ 9:=Xs (by omega) (by omega);have hp3:2 ^ (k+1)<=512:=hp2;have hsh:shN Xd ((k:Int)+1)=k+1:=Qr2 (by omega) (by simp [U4];omega);have hp:(1:Int) * 2 ^ (k+1)=((2 ^ (k+1):Nat):Int):=by push_cast;exact Gb _
 refine VQ [0,4,5,21] fun K hK=>?_;rw [hsh,hp];clear hp hp2 hsh;generalize hP2:2 ^ (k+1)=P2 at *;refine ⟨Xf (by omega) (by omega),by omega,Xf (by omega) (by omega),?_⟩;apply hK;clear hK;refine VD (fun h=>?_) (fun h=>?_)
 ·
  have hk9:k+1<=8:=by
   rcases X8 8 (k+1) with h3 | h3
   ·
    have:2 ^ 9<=2 ^ (k+1):=Xs (by omega) (by omega);rw [hP2] at this;have e:(2:Nat) ^ 9=512:=by decide
    omega
   exact h3
  refine VC_skip ?_;refine Qac ?_;refine VS [0,4,5] ?_;refine Qaj ?_;refine Qab ?_;refine Qs ?_;exact ⟨9 - (k+1),by omega,k+1,rfl,rfl,by omega,hk9,by rw [hP2];omega,rfl⟩
 have hK:=QK8 (n:=n) (k:=k) (by omega) hkn (by rw [hP2];omega);refine Qag rfl ?_;refine VQ [0,4,5,6] fun K hK=>?_;refine QDh (zs:=[.int .i64 0,.int .i64 0]) (k:=2) (bytes:=16) U0 (by kernel_rfl) rfl (by omega) ?_;refine Qs ?_;refine ⟨n,n,⟨rfl,rfl,by omega,by omega,by omega⟩,?_⟩
 have ez:∀ c,(Ya c [Xe .i64 0,Xe .i64 0]).flatten=Qfl (Ya c (0,0)):=fun c=>by
  induction c with
  | zero=>rfl
  | succ c ih=>rw [Xv,Xl,ih,Xv];rfl
 have hH0:=(Y7 w').row 167 (n:=n) (cap:=n) (sz:=2) (Qfl (Ya n (0,0))) [] (by rw [Qkf];simp) (by rw [Yh,Qkf];simp) (by omega) (by omega);rw [Yh,<- ez] at hH0;generalize w'.alloc (Yy (Ya n [Xe Xd 0,Xe Xd 0]).flatten.toArray 167)=w3 at *;generalize w'.heap.size=go at *;rw [ez] at hH0;apply hK;clear hK;refine VS [4,5,6,26,27,28] ?_;refine Qac ?_;refine Qad [4,5,6,26,27,28] (fun m e w1=>∃ (i:Nat),Is e [(4,.int .i64 n),(5,.int .i64 k),(6,.slice (some ⟨go,0,none⟩) n n),(26,.slice (some p) n lc),(27,.int .i64 n),(28,.int .i64 i)]/\Heap w' [] w1 [Yd 167 2 (some ⟨go,0,none⟩) n n (Qfl ((Yf i).map (negT l)++Ya (n - i) (0,0)))]/\i<=n/\m=n - i) n ?_ ?_
 ·
  refine Qs ?_;exact ⟨0,rfl,by simpa using hH0,by omega,rfl⟩
 clear hH0;rintro m e w4 ⟨i,rfl,hH,hi,rfl⟩;refine VS [4,5,6,26,27,28,29] ?_;(repeat refine Qax ?_);refine VD (fun h=>?_) (fun h=>?_)
 ·
  have hcell:=Qbr (hH.rs' hr) (i:=i) (by omega);have hgi:=hget i (by omega);have hsn:(Yf (i+1)).map (negT l)=(Yf i).map (negT l)++[negT l i]:=by rw [Xr,X6];rfl
  have hml:((Yf i).map (negT l)).length=i:=by simp
  have hnt:negT l i=(-((max (l.getD i 0) 1:Nat):Int),i):=rfl;generalize (Yf i).map (negT l)=L at *;generalize l.getD i 0=x at *;generalize negT l i=y at *
  have hset:(L++Ya (n - i) (0,0)).set i y=(L++[y])++Ya (n - (i+1)) (0,0):=by
   obtain ⟨q,hq⟩:∃ q,n - i=q+1:=⟨n - i - 1,by omega⟩;rw [hq,Xv,X9 _ _ (by omega),hml,Xb,Yb,Yv,show n - (i+1)=q by omega];rfl
  have hlen:(L++Ya (n - i) ((0:Int),(0:Nat))).length=n:=by simp;omega
  refine VC_skip ?_;refine VB ?_;refine VQ [4,5,6,7,8,26,27,28] fun K hK=>?_;refine ⟨⟨by omega,by omega⟩,_,hcell,?_⟩;apply hK;clear hK;refine VQ [4,5,6,26,27,28] fun K hK=>?_;refine ⟨Xf (by omega) (by omega),⟨by omega,by omega⟩,?_⟩;rw [show -(max ((x:Nat):Int) 1)=y.1 by rw [hnt];simp only;omega,show ((i:Nat):Int)=(y.2:Int) by rw [hnt]];refine Qaa ?_;refine Qs ?_;refine Qaz hH 0 (o:=i * 2) (vs:=Qbm y) rfl (by first | exact (Qbg _ _ _).symm | rw [Qbg,Xo] | (rw [Qbg];simp;omega)) rfl (by kernel_rfl) (by rw [Qkf,hlen];simp [Qbm];omega) (Qd2 y) fun w6 hH6=>?_;have e6:=Qv2 Qfx (L++Ya (n - i) (0,0)) i y (by omega);rw [hset] at e6
  have hH7:Heap w' [] w6 [Yd 167 2 (some ⟨go,0,none⟩) n n (Qfl ((L++[y])++Ya (n - (i+1)) (0,0)))]:=by
   rw [show Qfl ((L++[y])++Ya (n - (i+1)) (0,0))=Qd3 Qbm ((L++[y])++Ya (n - (i+1)) (0,0)) from rfl,<- e6];exact hH6
  clear hH6 e6 hH hcell;have hi2:((y.2:Nat):Int)=i:=by rw [hnt]
  apply hK;clear hK;rw [hi2];refine Qaj ?_;refine VS [4,5,6,26,27,28] ?_;refine Qab ?_;refine Qs ?_;exact ⟨n - (i+1),by omega,i+1,rfl,by rw [hsn];exact hH7,by omega,rfl⟩
 obtain rfl:i=n:=by omega
 rw [Xb,Y3,Yh] at hH;have hTl:((Yf i).map (negT l)).length=i:=by simp
 have hTok:∀ t∈(Yf i).map (negT l),TrOk t:=fun t ht=>by
  obtain ⟨j,hj,rfl⟩:=Xg.1 ht;have hj:j < i:=by simpa using hj
  have:=hget j hj;unfold TrOk negT;simp only;omega
 have hH1:Heap w' [] w4 [trow go i ((Yf i).map (negT l))]:=by
  unfold trow;rw [hTl];exact hH
 clear hH;refine Qag rfl ?_;have hcs:=QEq _ (by omega) hTok go i w' w4 [] [] hH1;rw [hTl] at hcs;refine VQ [4,5,6] fun K hK=>?_;refine MemK_call Tryz.call132 ?_;refine Qs ?_;refine Yr hcs ?_;rintro v w5 ⟨T,hTp,hTs,hH2⟩;have hTlen:T.length=i:=by rw [hTp.length_eq,hTl]
 have hTmem:∀ t∈T,t=negT l t.2/\t.2 < i:=fun t ht=>by
  obtain ⟨j,hj,rfl⟩:=Xg.1 (hTp.mem_iff.1 ht);exact ⟨rfl,by simpa [negT] using hj⟩
 have hσp:(T.map (·.2)).Perm (Yf l.length):=by
  have:=hTp.map (·.2);rw [List.map_map] at this;rw [hn];refine this.trans ?_
  have e:((Yf i).map ((fun t:Tr=>t.2) ∘ negT l))=Yf i:=by
   conv=>rhs;rw [<- List.map_id (Yf i)]
   exact Ui fun j _=>rfl
  rw [e]
 have hσs:(T.map (·.2)).Pairwise fun a b=>Qdu l a b=true:=by
  have hnd:(T.map (·.2)).Nodup:=hσp.nodup_iff.2 Us;rw [Uo];have h2:=hTs.and (Uo.1 hnd);have h3:T.Pairwise fun a b=>(a=negT l a.2)/\(b=negT l b.2):=X4.2 fun i j hi hj _=>⟨(hTmem _ (X3 hi)).1,(hTmem _ (X3 hj)).1⟩;refine (h2.and h3).imp ?_;rintro a b ⟨⟨h4,h5⟩,h6,h7⟩;rw [QAo] at h4;have e1:a.1=-((max (l.getD a.2 0) 1:Nat):Int):=congrArg Prod.fst h6;have e2:b.1=-((max (l.getD b.2 0) 1:Nat):Int):=congrArg Prod.fst h7;rw [Qf9];omega
 have hfr:∀ q t,T[q]? = some t->Qkp l t.2=q:=fun q t ht=>by
  obtain ⟨hq,e⟩:=Y8.1 ht;have:=Qpm hσp hσs (p:=q) (by simpa using hq);rw [List.getElem_map,e] at this;exact this
 clear hcs hH1 hTs hTok hTl;apply hK;clear hK;refine VQ [4,5,6,9] fun K hK=>?_;refine Qbi Yc zi3 ?_;refine Qs ?_;refine ⟨i,i,⟨rfl,rfl,by omega,by omega,by omega⟩,?_⟩;have hH3:=hH2.row 3 (n:=i) (cap:=i) (sz:=1) (Qak (Ya i 0)) [] (by simp [Qal]) (by simp [Qal]) (by omega) (by omega);rw [Yh,Qbs] at hH3;generalize w5.alloc (Yy (Ya i (Xe Xd 0)).toArray 3)=w6 at *;generalize w5.heap.size=gu at *;rw [<- Qbs] at hH3;clear hH2;apply hK;clear hK;refine VS [4,5,9,46,47,48] ?_;refine Qac ?_;refine Qad [4,5,9,46,47,48] (fun m e w1=>∃ (q:Nat) (O:List Nat),Is e [(4,.int .i64 i),(5,.int .i64 k),(9,.slice (some ⟨gu,0,none⟩) i i),(46,.slice (some ⟨go,0,none⟩) i i),(47,.int .i64 i),(48,.int .i64 q)]/\Heap w' [] w1 [Yd 3 1 (some ⟨gu,0,none⟩) i i (Qak O),trow go i T]/\O.length=i/\(∀ j t,j < q->T[j]? = some t->O.getD t.2 0=Qk6 i j)/\q<=i/\m=i - q) i ?_ ?_
 ·
  refine Qs ?_;exact ⟨0,_,rfl,hH3,by simp,fun j t hj _=>by omega,by omega,rfl⟩
 clear hH3;rintro m e w7 ⟨q,O,rfl,hH,hOl,hO,hq,rfl⟩;refine VS [4,5,9,46,47,48,49] ?_;(repeat refine Qax ?_);refine VD (fun h=>?_) (fun h=>?_)
 ·
  have hqT:T[q]? = some T[q]:=Ye (by omega);have htm:=hTmem T[q] (X3 _);have hfq:=hfr q _ hqT;have hrd:=Qik Qfx (Qaq (hH.at 1 rfl)) rfl hqT;rw [Qbg,Xo] at hrd;have hfl:Qk6 i q=if P2 - i<=q then k+1 else k:=by rw [Qk6,hK,hP2]
  generalize T[q]=t at *;refine VC_skip ?_;refine VB ?_;refine VQ [4,5,9,10,11,46,47,48] fun K hK=>?_;refine ⟨⟨by omega,by omega⟩,Qbm t,⟨rfl,hrd⟩,?_⟩;refine Qao (.agg #[.int .i64 0,.int .i64 0]) (by kernel_rfl) ?_;refine Qs ?_;have hH4:=hH.box 167 [.int .i64 0,.int .i64 0];generalize w7.alloc (Yy [Xe .i64 0,.int .i64 0].toArray 167)=w8 at *;generalize w7.heap.size=gt at *;refine Qaa ?_;refine Qs ?_;refine Qae hH4 0 (vs:=Qbm t) rfl rfl (by kernel_rfl) (by simp [Qbm]) (Qd2 _) fun w9 hH5=>?_;have hH5:Heap w' [] w9 [Yl gt 167 (Qbm t),Yd 3 1 (some ⟨gu,0,none⟩) i i (Qak O),trow go i T]:=hH5;apply hK;clear hK;clear hH hH4 hrd;have ct:(Qbm t)[1]? = some (.int .i64 (t.2:Nat)):=rfl
  have hO2:∀ x,∀ j t',j < q+1->T[j]? = some t'->(O.set t.2 x).getD t'.2 0=if j=q then x else Qk6 i j:=fun x j t' hj ht'=>by
   have h8:=hfr j t' ht';by_cases e:j=q
   ·
    subst e;have e2:t'=t:=by rw [hqT] at ht';exact (Option.some.inj ht').symm
    rw [if_pos rfl,e2,Qc8 (by omega)]
   rw [if_neg e,Qda (fun e2=>e (by rw [<- h8,<- e2,hfq])),hO j t' (by omega) ht']
  refine VQ [4,5,9,10,11,46,47,48] fun K hK=>?_;refine ⟨_,Qah (hH5.at 0 rfl) ct,?_⟩;refine Qs ?_;refine Qp ?_;refine Qaa ?_;refine Qs ?_;refine Qaz hH5 1 (o:=(t.2)) (vs:=[.int .i64 (k:Nat)]) rfl (by first | exact (Qbg _ _ _).symm | rfl | simp [Qbg]) rfl (by kernel_rfl) (by first | omega | (simp;done) | (simp;omega) | (simp [Qar,Qat];omega) | (rw [Qal];simp;omega)) (by simp [Yt]) fun w6 hH6=>?_;(try refine Qs ?_);simp only [Yj,Qcb (Qak O) _ _ (show t.2 < (Qak O).length by rw [Qal,hOl];omega),Qck,Yb,Yg] at hH6;apply hK;clear hK;refine VQ [4,5,9,11,46,47,48,64] fun K hK=>?_;rw [Qr2 (i:=(k:Int)+1) (n:=k+1) (by omega) (by simp [U4];omega),show (1:Int) * 2 ^ (k+1)=((2 ^ (k+1):Nat):Int) by push_cast;exact Gb _,hP2];(repeat first | refine Qo ?_ | refine Qp ?_);apply hK;clear hK;refine VD (fun h=>?_) (fun h=>VC_skip ?_)
  ·
   rw [if_pos (by omega)] at hfl;refine VQ [4,5,9,46,47,48] fun K hK=>?_;refine ⟨_,Qah (hH6.at 0 rfl) ct,?_⟩;refine Qs ?_;refine ⟨Xf (by omega) (by omega),⟨by omega,by omega⟩,?_⟩;refine Qaa ?_;refine Qs ?_;refine Qaz hH6 1 (o:=(t.2)) (vs:=[.int .i64 (k+1:Nat)]) rfl (by first | exact (Qbg _ _ _).symm | rfl | simp [Qbg]) rfl (by kernel_rfl) (by first | omega | (simp;done) | (simp;omega) | (simp [Qar,Qat];omega) | (rw [Qal];simp;omega)) (by simp [Yt]) fun w6 hH7=>?_;(try refine Qs ?_);simp only [Yj,Qcb (Qak (O.set t.2 k)) _ _ (show t.2 < (Qak (O.set t.2 k)).length by rw [Qal,Xc,hOl];omega),Qck,Yb,Yg,Uu] at hH7;apply hK;clear hK;refine Qaj ?_;refine VS [4,5,9,46,47,48] ?_;refine Qab ?_;refine Qs ?_;refine ⟨i - (q+1),by omega,q+1,_,rfl,hH7.sub (Yn _ _),by simp [hOl],fun j t' hj ht'=>?_,by omega,rfl⟩;rw [hO2 (k+1) j t' hj ht'];split
   ·
    rename_i e;rw [e,hfl]
   rfl
  rw [if_neg (by omega)] at hfl;refine Qaj ?_;refine VS [4,5,9,46,47,48] ?_;refine Qab ?_;refine Qs ?_;refine ⟨i - (q+1),by omega,q+1,_,rfl,hH6.sub (Yn _ _),by simp [hOl],fun j t' hj ht'=>?_,by omega,rfl⟩;rw [hO2 k j t' hj ht'];split
  ·
   rename_i e;rw [e,hfl]
  rfl
 obtain rfl:q=i:=by omega
 have hfin:O=Qdr l:=by
  apply List.ext_getElem
  ·
   rw [hOl,Qdr,Uh,Xi,hn]
  intro j h1 h2;have hj:j < l.length:=by omega
  have hm:j∈T.map (·.2):=hσp.mem_iff.2 (by simpa using hj);obtain ⟨t,ht,e⟩:=Xg.1 hm;obtain ⟨p',hp',e2⟩:=List.getElem_of_mem ht;have h3:T[p']? = some t:=by rw [Ye hp',e2]
  have h4:=hO p' t (by omega) h3;have h5:=hfr p' t h3;simp only [Qdr,List.getElem_map,List.getElem_range]
  have e5:O.getD j 0=Qk6 l.length (Qkp l j):=by
   have e':t.2=j:=e;rw [hn,<- e',h5];exact h4
  rw [<- e5,Yi,Ye h1];rfl
 have hfl2:(Qdr l).length=q:=by rw [<- hfin];exact hOl
 refine Qag rfl ?_;refine VS [2,3] ?_;refine VC_ret (Qav rfl rfl rfl ⟨some ⟨gu,0,none⟩,q,?_,by rw [hfl2]⟩);rw [hfl2,<- hfin];exact hH.sub (by simp)
theorem QEr (l:List Nat) (x n:Nat) (hx:x < n):(Yf n).map (fun s=>(l++[x]).count s)=((Yf n).map fun s=>l.count s).set x (l.count x+1):=by
 apply Xa;intro j;rw [Yw,Xm,Yw,Uh,Xi];by_cases e:x=j
 ·
  subst e;rw [if_pos rfl,if_pos hx,Yu hx];simp [U5]
 rw [if_neg e];by_cases hj:j < n
 ·
  rw [Yu hj];simp [U5,List.count_singleton,e]
 rw [Ys (by simpa using hj)];rfl
theorem QEs (l:List Nat) (n:Nat):((Yf n).map fun s=>l.count s).length=n:=by simp
theorem QEt (n:Nat):(Yf n).map (fun s=>([]:List Nat).count s)=Ya n 0:=by
 apply Xa;intro j;rw [Yw,Xn];by_cases hj:j < n
 ·
  rw [Yu hj,if_pos hj];rfl
 rw [Ys (by simpa using hj),if_neg hj];rfl
def QEu (G:List Res) (v:Value) (T:List (List Nat)) (P:List Nat):Prop:=∀ w:World,(∀ r∈G,r.holds w)->PlanAt w v T P
theorem Quz (list:List Nat) (n:Nat) (hm:Qfg list n) (a:Option Addr) (lc:Nat) (w:World) (hr:RS w a list.length 1 (Qak list)) :
  Does Yq 61 #[.slice a list.length lc,.int .i64 n] w fun x w'=>∃ v G,Heap w [] w' G/\QEu G v (Qby list n).1 (Qby list n).2/\x=.tuple #[v,.int .i64 0]:=by
 have hml:=Qnr list n hm a lc;have hfl:=Qt6 hm;have hfq:Qeo list n=(Yf n).map fun s=>list.count s:=rfl;obtain ⟨h1,h2,h3,h4,h5⟩:=hm;have hg1:=(Qfk h3 h4);obtain ⟨p,rfl⟩:=Qbj hr (by omega);refine En [.slice (some p) list.length lc,.int .i64 n] 51 Tryz.func61 ?_;generalize hnl:list.length=nl at *;refine VQ [0,1,4] fun K hK=>?_;refine Qao (.agg #[.slice none 0 0,.slice none 0 0]) (by kernel_rfl) ?_;refine Qs ?_;have hH:=(Y7 w).box 70 (Qam none 0 0 none 0 0);have hpl:[Y6 none 0 0,Y6 none 0 0]=Qam none 0 0 none 0 0:=rfl;rw [hpl];generalize w.alloc (Yy (Qam none 0 0 none 0 0).toArray 70)=w1 at *;generalize w.heap.size=gr at *;apply hK;clear hK;refine VQ [0,1,4,16] fun K hK=>?_;refine MemK_call Tryz.call96 ?_;refine Qs ?_;refine Yr (hml w1 (hH.rs' hr)) ?_;rintro v w2 ⟨rfl,rfl⟩;refine Qs ?_;apply hK;clear hK;refine Qaf rfl rfl (fun h=>by simp at h) (fun h=>VC_skip ?_);clear h;refine VQ [0,4,6] fun K hK=>?_;refine Qbi Yc zi3 ?_;refine Qs ?_;refine ⟨n,n,⟨rfl,rfl,by omega,by omega,by omega⟩,?_⟩;have hH2:=hH.row 3 (n:=n) (cap:=n) (sz:=1) (Qak (Ya n 0)) [] (by simp [Qal]) (by simp [Qal]) (by omega) (by omega);rw [Yh,Qbs] at hH2;generalize w2.alloc (Yy (Ya n (Xe Xd 0)).toArray 3)=w3 at *;generalize w2.heap.size=gu at *;rw [<- Qbs] at hH2;clear hH;apply hK;clear hK;refine VS [0,4,6,20,21,22] ?_;refine Qac ?_;refine Qad [0,4,6,20,21,22] (fun m e w'=>∃ (i:Nat),Is e [(0,.slice (some p) nl lc),(4,.pointer (some ⟨gr,0,none⟩)),(6,.slice (some ⟨gu,0,none⟩) n n),(20,.slice (some p) nl lc),(21,.int .i64 nl),(22,.int .i64 i)]/\Heap w [] w' [Yd 3 1 (some ⟨gu,0,none⟩) n n (Qak ((Yf n).map fun s=>(list.take i).count s)),Yl gr 70 (Qam none 0 0 none 0 0)]/\i<=nl/\m=nl - i) nl ?_ ?_
 ·
  refine Qs ?_;exact ⟨0,rfl,by rw [Xx,QEt];exact hH2,by omega,rfl⟩
 clear hH2;rintro m e w4 ⟨i,rfl,hH,hi,rfl⟩;refine VS [0,4,6,20,21,22,23] ?_;(repeat refine Qax ?_);refine VD (fun h=>?_) (fun h=>?_)
 ·
  have hcell:=Qbr (hH.rs' hr) (i:=i) (by omega);have hx:=h5 _ (Qa3 0 (l:=list) (i:=i) (by omega));have htk:list.take (i+1)=list.take i++[list.getD i 0]:=Qb2 0 (by omega);have hsn:=QEr (list.take i) (list.getD i 0) n hx;rw [<- htk] at hsn;have hcl:=QEs (list.take i) n;have hcg:((Yf n).map fun s=>(list.take i).count s).getD (list.getD i 0) 0=(list.take i).count (list.getD i 0):=Qgk _ _ _ _ hx;have hcle:(list.take i).count (list.getD i 0)<=i:=Uv Uf (by rw [Y1];omega);generalize list.getD i 0=x at *
  have hcu:w4.cell? ⟨gu,x,none⟩=some (.int .i64 (((list.take i).count x:Nat):Int)):=by
   rw [<- hcg];exact Qa1 (hH.at 0 rfl) (Qb4 (by omega))
  generalize (list.take i).count x=c at *;generalize ((Yf n).map fun s=>(list.take i).count s)=C at *;refine VC_skip ?_;refine VB ?_;refine VQ [0,4,6,8,20,21,22] fun K hK=>?_;refine ⟨⟨by omega,by omega⟩,_,hcell,?_⟩;apply hK;clear hK;refine VQ [0,4,6,20,21,22] fun K hK=>?_;refine ⟨⟨by omega,by omega⟩,_,hcu,?_⟩;refine Qs ?_;refine ⟨Xf (by omega) (by omega),⟨by omega,by omega⟩,?_⟩;refine Qaa ?_;refine Qs ?_;refine Qaz hH 0 (o:=(x)) (vs:=[.int .i64 (c+1:Nat)]) rfl (by first | exact (Qbg _ _ _).symm | rfl | simp [Qbg]) rfl (by kernel_rfl) (by first | omega | (simp;done) | (simp;omega) | (simp [Qar,Qat];omega) | (rw [Qal];simp;omega)) (by simp [Yt]) fun w6 hH3=>?_;(try refine Qs ?_);simp only [Yj,Qcb (Qak C) _ _ (show x < (Qak C).length by rw [Qal];omega),Qck,Yb,<- hsn] at hH3;apply hK;clear hK;refine Qaj ?_;refine VS [0,4,6,20,21,22] ?_;refine Qab ?_;refine Qs ?_;exact ⟨nl - (i+1),by omega,i+1,rfl,hH3,by omega,rfl⟩
 obtain rfl:i=nl:=by omega
 clear h hi;rw [Yo (by omega),<- hfq] at hH;have hql:(Qeo list n).length=n:=by rw [hfq];simp
 have hqx:∀ x∈Qeo list n,x<=1073741824:=fun x hx=>by
  obtain ⟨s,_,rfl⟩:=Xg.1 hx;have:=Uf (l:=list) (a:=s);omega
 have hflp:Qby list n=([Qdr (Qeo list n),Qdr (Qeo list n)],Ya (Qbe i) 0):=by unfold Qby;rw [hnl]
 rw [hflp];have hfd:=QH1 (Qeo list n) (by omega) (by omega) hqx (some ⟨gu,0,none⟩) n;rw [hql] at hfd;clear hfq hqx;generalize Qeo list n=Q at *;generalize i=nl at *;refine Qag rfl ?_;refine VQ [0,4,6,9] fun K hK=>?_;refine MemK_call Tryz.call101 ?_;refine Qs ?_;refine Yr (hfd w4 (Qaq (hH.at 0 rfl))) ?_;rintro v w5 ⟨aa,ca,hHa,rfl⟩;have hH2:=hH.call0 hHa;simp only [Yp] at hH2;clear hH hHa;apply hK;clear hK;refine VQ [0,4,9,11] fun K hK=>?_;refine MemK_call Tryz.call101 ?_;refine Qs ?_;refine Yr (hfd w5 (Qaq (hH2.at 1 rfl))) ?_;rintro v w6 ⟨ab,cb,hHb,rfl⟩;have hH3:=hH2.call0 hHb;simp only [Yp] at hH3;clear hH2 hHb hfd;generalize hF:Qdr Q=F at *;apply hK;clear hK;refine VQ [4,5] fun K hK=>?_;refine Qbb hH3 (Qbq [(aa,ca),(ab,cb)] [F,F]) (xs:=[.tmp 43,.tmp 44]) Y5 sz51 rfl rfl rfl (by omega) ?_;refine Qs ?_;refine ⟨rfl,by simp [Y2],fun gt w7 hH4=>?_⟩;refine MemK_call Tryz.call67 ?_;refine Qs ?_;refine Yr (Qiy nl (by omega) w7) ?_;rintro v w8 ⟨rfl,rfl⟩;generalize hgN:Qbe nl=gN at *;refine Qbi Yc zi3 ?_;refine Qs ?_;refine ⟨gN,gN,⟨rfl,rfl,by omega,by omega,by omega⟩,?_⟩;have hH5:=hH4.row 3 (n:=gN) (cap:=gN) (sz:=1) (Qak (Ya gN 0)) [] (by simp [Qal]) (by simp [Qal]) (by omega) (by omega);rw [Yh,Qbs] at hH5;generalize w8.alloc (Yy (Ya gN (Xe Xd 0)).toArray 3)=w9 at *;generalize w8.heap.size=gz at *;rw [<- Qbs] at hH5;clear hH3 hH4;refine Qaa ?_;refine Qs ?_;refine Qae hH5 5 (vs:=Qam (some ⟨gt,0,none⟩) 2 2 (some ⟨gz,0,none⟩) gN gN) rfl rfl (by kernel_rfl) (by simp [Qam]) (Qb0 _ _ _ _ _ _) fun w10 hH6=>?_;simp only [Yb,Yg] at hH6;apply hK;clear hK;refine VC_ret (Qdo rfl rfl rfl (Qbw (hH6.at 5 rfl) (by kernel_rfl) (by kernel_rfl) rfl ?_));refine ⟨_,_,hH6.sub (U6 4 _),fun w' hh=>Qjz rfl rfl (by simp) rfl (Qaq (hh _ (Ym (i:=1) rfl))) (Qaq (hh _ (Ym (i:=0) rfl))) (fun i h t h6 h7=>?_),rfl⟩
 match i with
 | 0=>cases h6;cases h7;exact Qaq (hh _ (Ym (i:=3) rfl))
 | 1=>cases h6;cases h7;exact Qaq (hh _ (Ym (i:=2) rfl))
 | i+2=>simp at h6
theorem Qmh (v:Value) (T:List (List Nat)) (P:List Nat) (hm:mayP T P) (list:List Nat) (hl1:1<=list.length) (hls:∀ s∈list,s < (T.getD 0 []).length) (hlg:Qbe list.length<=P.length) (hsz:Qgo (T,P) list<=1000000000000) (a:Option Addr) (lc:Nat) (w:World) (hp:PlanAt w v T P) (hr:RS w a list.length 1 (Qak list)) :
  Does Yq 62 #[v,.slice a list.length lc] w fun x w'=>Heap w [] w' []/\x=.tuple #[.int .i64 (Qgo (T,P) list:Nat),.int .i64 0]:=by
 have hpd:=Qnw v T P hm list hl1 hls hlg a lc;have hsd:=Ql7 v T P hm;have hsz':Qgo (T,P) list=(Qbx T P).length+(Qe3 T P list 0).length:=rfl;rw [hsz'] at hsz ⊢;have hp0:=hp;obtain ⟨ta,tc,pa,pc,hs,rfl,hsl,hrT,hrP,hrt⟩:=hp;have hen:#[Xy #[.slice ta T.length tc,.slice pa P.length pc],.slice a list.length lc]=[Xy (Qam ta T.length tc pa P.length pc).toArray,.slice a list.length lc].toArray:=rfl;rw [hen];refine Qdx 29 Tryz.func62 rfl rfl (of_decide_eq_true rfl) ?_;simp only [Env.ofArgs];generalize list.length=nl at *;generalize T.length=nt at *;generalize P.length=np at *;generalize Qe3 T P list 0=X at *;generalize Qbx T P=Y at *;refine VQ [1,2] fun K hK=>?_;refine Qch ?_;refine Qs ?_;have hH:=(Y7 w).box 70 (Qam ta nt tc pa np pc);generalize w.alloc (Yy (Qam ta nt tc pa np pc).toArray 70)=w1 at *;generalize w.heap.size=gp at *;apply hK;clear hK;refine VQ [2,6,7] fun K hK=>?_;refine ⟨Qam ta nt tc pa np pc,⟨rfl,Qay (hH.at 0 rfl)⟩,?_⟩;refine MemK_call Tryz.call37 ?_;refine Qs ?_;refine Yr (hpd w1 (hp0.keep hH) (hH.rs' hr)) ?_;rintro v w2 ⟨hHp,rfl⟩;have hH2:=hH.call0 hHp;simp only [Yx] at hH2;clear hH hHp;refine Qao (.agg #[.string ⟨#[]⟩,.int .i64 0]) (by kernel_rfl) ?_;refine Qs ?_;have hH3:=hH2.box 33 [.string ⟨#[]⟩,.int .i64 0];generalize w2.alloc (Yy [U7 ⟨#[]⟩,.int .i64 0].toArray 33)=w3 at *;generalize w2.heap.size=gb at *;refine Qaa ?_;refine Qs ?_;refine Qae hH3 0 (vs:=Qa7 X) rfl rfl (by kernel_rfl) (by simp [Qa7]) (Qb8 _) fun w4 hH4=>?_;simp only [Yb] at hH4;clear hH2 hH3;apply hK;clear hK;refine VS [2,6,7,17] ?_;refine Qaf rfl rfl (fun h=>by simp at h) (fun h=>VC_skip ?_);clear h;refine VQ [6,8] fun K hK=>?_;refine ⟨Qam ta nt tc pa np pc,⟨rfl,Qay (hH4.at 1 rfl)⟩,?_⟩;refine MemK_call Tryz.call36 ?_;refine Qs ?_;refine Yr (hsd w4 (hp0.keep hH4)) ?_;rintro v w5 ⟨hHs,rfl⟩;have hH5:=hH4.call0 hHs;simp only [Yx] at hH5;clear hH4 hHs;refine Qao (.agg #[.string ⟨#[]⟩,.int .i64 0]) (by kernel_rfl) ?_;refine Qs ?_;have hH6:=hH5.box 33 [.string ⟨#[]⟩,.int .i64 0];generalize w5.alloc (Yy [U7 ⟨#[]⟩,.int .i64 0].toArray 33)=w6 at *;generalize w5.heap.size=ga at *;refine Qaa ?_;refine Qs ?_;refine Qae hH6 0 (vs:=Qa7 Y) rfl rfl (by kernel_rfl) (by simp [Qa7]) (Qb8 _) fun w7 hH7=>?_;simp only [Yb] at hH7;clear hH5 hH6;apply hK;clear hK;refine VQ [4,5] fun K hK=>?_;refine ⟨_,Qah (hH7.at 0 rfl) (show (Qa7 Y)[1]? = some _ from rfl),_,Qah (hH7.at 1 rfl) (show (Qa7 X)[1]? = some _ from rfl),?_⟩;refine Qs ?_;(repeat refine Qo ?_);apply hK;clear hK;exact VC_ret (Qav rfl rfl rfl ⟨hH7.sub (by simp),rfl⟩)
def cntU (list P:List Nat) (n m t:Nat):List Nat:=(Yf n).map fun s=>(Yf m).countP fun i=>list.getD i 0 == s && P.getD (i / 50) 0 == t
def Qf0 (list P:List Nat) (many n m:Nat):List (List Nat):=(Yf many).map (cntU list P n m)
theorem Qgf (list P:List Nat) (n m t:Nat):(cntU list P n m t).length=n:=by simp [cntU]
theorem QH2 (list P:List Nat) (many n m:Nat):(Qf0 list P many n m).length=many:=by simp [Qf0]
theorem Qx4 (list P:List Nat) (n t:Nat):cntU list P n 0 t=Ya n 0:=by
 unfold cntU;apply Xa;intro j;rw [Yw,Xn];by_cases hj:j < n
 ·
  rw [Yu hj,if_pos hj];rfl
 rw [Ys (by simpa using hj),if_neg hj];rfl
theorem QEv (list P:List Nat) (many n:Nat):Qf0 list P many n 0=Ya many (Ya n 0):=by
 unfold Qf0;apply Xa;intro j;rw [Yw,Xn];by_cases hj:j < many
 ·
  rw [Yu hj,if_pos hj,Option.map_some,Qx4]
 rw [Ys (by simpa using hj),if_neg hj];rfl
theorem QCd {list P:List Nat}{n m t s:Nat} (hs:s < n):(cntU list P n m t).getD s 0<=m:=by
 rw [cntU,Qgk _ _ _ _ hs];exact Uv Ua (by simp)
theorem QAp {list P:List Nat}{n m t:Nat}:∀ x∈cntU list P n m t,x<=m:=by
 intro x hx;obtain ⟨s,_,rfl⟩:=Xg.1 hx;exact Uv Ua (by simp)
theorem Qqf {list P:List Nat}{n m t:Nat} (hx:list.getD m 0 < n):cntU list P n (m+1) t=if P.getD (m / 50) 0=t then (cntU list P n m t).set (list.getD m 0) ((cntU list P n m t).getD (list.getD m 0) 0+1) else cntU list P n m t:=by
 apply Xa;intro j;by_cases hj:j < n
 ·
  have h1:∀ m,(cntU list P n m t)[j]? = some ((Yf m).countP fun i=>list.getD i 0 == j && P.getD (i / 50) 0 == t):=fun m=>by
   rw [cntU,Yw,Yu hj];rfl
  rw [h1,Xr,U2,List.countP_singleton];by_cases ht:P.getD (m / 50) 0=t
  ·
   rw [if_pos ht,Xm];by_cases e:list.getD m 0=j
   ·
    have hb:(list.getD m 0 == j && P.getD (m / 50) 0 == t)=true:=by rw [e,ht];simp
    rw [if_pos hb,if_pos e,if_pos (by rw [Qgf];exact hx),e]
    congr 2
    rw [Yi,h1];rfl
   have hb:(list.getD m 0 == j && P.getD (m / 50) 0 == t)=false:=by rw [show (list.getD m 0 == j)=false from beq_eq_false_iff_ne.2 e];rfl
   rw [hb,if_neg e,h1];rfl
  have hb:(list.getD m 0 == j && P.getD (m / 50) 0 == t)=false:=by rw [show (P.getD (m / 50) 0 == t)=false from beq_eq_false_iff_ne.2 ht,Bool.and_false]
  rw [hb,if_neg ht,h1];rfl
 rw [Ys (by rw [Qgf];omega),Ys];split
 ·
  rw [Xc,Qgf];omega
 rw [Qgf];omega
theorem QEw {list P:List Nat}{many n m b:Nat} (hx:list.getD m 0 < n) (hb:P.getD (m / 50) 0=b) (hbm:b < many):Qf0 list P many n (m+1)=(Qf0 list P many n m).set b ((cntU list P n m b).set (list.getD m 0) ((cntU list P n m b).getD (list.getD m 0) 0+1)):=by
 apply Xa;intro j;rw [Xm];unfold Qf0;rw [Yw,Yw,Uh,Xi];by_cases e:b=j
 ·
  subst e;rw [if_pos rfl,if_pos hbm,Yu hbm,Option.map_some,Qqf hx,if_pos hb]
 rw [if_neg e];by_cases hj:j < many
 ·
  rw [Yu hj,Option.map_some,Option.map_some,Qqf hx,if_neg (by omega)]
 rw [Ys (by simpa using hj)];rfl
theorem Qgd (list P:List Nat) (n t:Nat):Qgc list P t n=cntU list P n list.length t:=rfl
def Qa0 (hs:List (Option Addr×Nat)) (n:Nat):List Value:=hs.map fun h=>.slice h.1 n h.2
def Qcp (hs:List (Option Addr×Nat)) (n:Nat) (L:List (List Nat)):List Res:=List.zipWith (fun h l=>Yd 3 1 h.1 n h.2 (Qak l)) hs L
theorem Qc5 (hs:List (Option Addr×Nat)) (n:Nat):(Qa0 hs n).length=hs.length:=by simp [Qa0]
theorem Qhk {hs:List (Option Addr×Nat)}{i:Nat}{h:Option Addr×Nat} (n:Nat) (h1:hs[i]? = some h):(Qa0 hs n)[i]? = some (.slice h.1 n h.2):=by simp [Qa0,h1]
theorem Qqg (hs:List (Option Addr×Nat)) (n i:Nat) (a:Option Addr) (c:Nat):(Qa0 hs n).set i (.slice a n c)=Qa0 (hs.set i (a,c)) n:=by simp [Qa0,List.map_set]
theorem Qsz {hs:List (Option Addr×Nat)}{T:List (List Nat)}{n:Nat} (hl:hs.length=T.length) (h:∀ t∈T,t.length=n):Qbq hs T=Qa0 hs n:=by
 apply Xa;intro i;unfold Qbq Qa0;rw [Xz,Yw];rcases X8 i T.length with h1 | h1
 ·
  rw [Ye h1,Ye (by omega)];simp only [Option.map_some];rw [h _ (X3 h1)]
 rw [Ys h1,Ys (by omega)];rfl
theorem QH3 {hs:List (Option Addr×Nat)}{n:Nat}{L:List (List Nat)} (hl:hs.length=L.length):(Qcp hs n L).length=L.length:=by simp [Qcp,hl]
theorem Qqh {hs:List (Option Addr×Nat)}{L:List (List Nat)}{i:Nat}{h:Option Addr×Nat}{l:List Nat} (n:Nat) (h1:hs[i]? = some h) (h2:L[i]? = some l):(Qcp hs n L)[i]? = some (Yd 3 1 h.1 n h.2 (Qak l)):=by
 simp [Qcp,Xz,h1,h2]
theorem Qnd {hs:List (Option Addr×Nat)}{L:List (List Nat)} (n:Nat) (hl:hs.length=L.length) (a:Option Addr) (c:Nat) (l:List Nat):Qcp hs n L++[Yd 3 1 a n c (Qak l)]=Qcp (hs++[(a,c)]) n (L++[l]):=by
 unfold Qcp;rw [List.zipWith_append hl];rfl
theorem QH4 {hs:List (Option Addr×Nat)}{L:List (List Nat)}{i n:Nat}{h:Option Addr×Nat} (h1:hs[i]? = some h) (l:List Nat):(Qcp hs n L).set i (Yd 3 1 h.1 n h.2 (Qak l))=Qcp hs n (L.set i l):=by
 apply Xa;intro j;unfold Qcp;rw [Xm,Xz,Xz,Xm,List.length_zipWith];by_cases e:i=j
 ·
  subst e;have h2:=(Y8.1 h1).1;rw [if_pos rfl,if_pos rfl,h1];by_cases h3:i < L.length
  ·
   rw [if_pos (by omega),if_pos h3]
  rw [if_neg (by omega),if_neg h3]
 rw [if_neg e,if_neg e]
theorem Heap.hole_row {w0 w:World}{B:List Nat}{G:List Res}{r:Res} (h:Heap w0 B w G) (i j:Nat) (hi:G[i]? = some r) {g T sz n cap k:Nat}{xs:List Value}{v:Value} (hj:G[j]? = some (Yd T sz (some ⟨g,0,none⟩) n cap xs)) (hij:i≠j) (hv:xs[k]? = some v):(holes r.foot w).cell? ⟨g,k,none⟩=some v:=by
 refine Qrt (Qa1 (h.at j hj) hv) ?_;obtain ⟨h1,e1⟩:=Y8.1 hi;obtain ⟨h2,e2⟩:=Y8.1 hj;have ha:=X4.1 h.apart;rcases X8 i j with h3 | h3
 ·
  have h4:=ha i j h1 h2 h3;rw [e1,e2] at h4;exact fun hb=>h4 g hb (by simp [Yd])
 have h4:=ha j i h2 h1 (by omega);rw [e1,e2] at h4;exact h4 g (by simp [Yd])
theorem QH5 (list tab:List Nat) (n k t:Nat) (hk:50 * k < list.length) (hl:list.length<=1638350) (hs:∀ s∈list,s < n) (htl:tab.length=n) (htx:∀ x∈tab,x<=1000) (p:Addr) (hps:p.spot=none) (lc:Nat) (hlc:list.length<=lc) (gl gp gT many mc:Nat) (ht:t < many) (hmany:many<=6) (ta:Option Addr) (tc:Nat) (w:World)
  (c1:w.cell? ⟨gl,0,none⟩=some (.slice (some p) list.length lc)) (c2:w.cell? ⟨gp,0,none⟩=some (.slice (some ⟨gT,0,none⟩) many mc)) (c3:w.cell? ⟨gT,t,none⟩=some (.slice ta n tc)) (hr:RS w (some p) list.length 1 (Qak list)) (hrt:RS w ta n 1 (Qak tab)) :
  Does Yq 98 #[.int .i64 t,.int .i64 k,.pointer (some ⟨gl,0,none⟩),.pointer (some ⟨gp,0,none⟩)] w fun v w'=>w'=w/\v=.int .i64 (Qfw tab (Qcs list k):Nat):=by
 have hgd:=Qss list k hk (by omega) p lc hlc w;have hrs:=Qud hr hps hk;have hcm:∀ s∈Qcs list k,s < n:=fun s h=>hs s (Uw (Xt h));have hcl:(Qcs list k).length<=50:=by simp [Qcs];omega
 refine En [.int .i64 t,.int .i64 k,.pointer (some ⟨gl,0,none⟩),.pointer (some ⟨gp,0,none⟩)] 30 Tryz.func98 ?_;generalize hch:Qcs list k=ch at *;generalize hnc:ch.length=nc at *;generalize list.length=nl at *;refine VS [0,1,2,3] ?_;refine VS [0,1,2,3,7] ?_;refine VQ [0,3,7,12,13,14] fun K hK=>?_;refine ⟨_,c1,?_⟩;refine MemK_call Tryz.call99 ?_;refine Qs ?_;refine Yr hgd ?_;rintro v w2 ⟨rfl,rfl⟩;refine Qs ?_;apply hK;clear hK;generalize hpk:p.add (50 * k)=pk at *;refine Qac ?_;refine Qad [0,3,7,12,13,14] (fun m e w'=>∃ (i:Nat),Is e [(0,.int .i64 t),(3,.pointer (some ⟨gp,0,none⟩)),(7,.int .i64 (Qfw tab (ch.take i):Nat)),(12,.slice (some pk) nc (lc - 50 * k)),(13,.int .i64 nc),(14,.int .i64 i)]/\Is w' w2/\Qfw tab (ch.take i)<=1000 * i/\i<=nc/\m=nc - i) nc ?_ ?_
 ·
  refine Qs ?_;exact ⟨0,rfl,rfl,by simp [Qfw],by omega,rfl⟩
 rintro m e w' ⟨i,rfl,rfl,hcb,hi,rfl⟩;refine VS [0,3,7,12,13,14,15] ?_;(repeat refine Qax ?_);refine VD (fun h=>?_) (fun h=>?_)
 ·
  have hcell:=Qbr hrs (i:=i) (by omega);have hx:=hcm _ (Qa3 0 (l:=ch) (i:=i) (by omega));have htk:ch.take (i+1)=ch.take i++[ch.getD i 0]:=Qb2 0 (by omega);have hcs:Qfw tab (ch.take (i+1))=Qfw tab (ch.take i)+tab.getD (ch.getD i 0) 0:=by rw [htk];simp [Qfw]
  generalize ch.getD i 0=x at *;obtain ⟨q,rfl⟩:=Qbj hrt (by omega);have hct:=Qbr hrt (i:=x) (by omega);have hcx:=htx _ (Qa3 0 (l:=tab) (i:=x) (by omega));generalize tab.getD x 0=c at *;refine VC_skip ?_;refine VB ?_;refine VQ [0,3,7,9,12,13,14] fun K hK=>?_;refine ⟨⟨by omega,by omega⟩,_,hcell,?_⟩;apply hK;clear hK;refine VQ [0,3,7,12,13,14] fun K hK=>?_;refine ⟨_,c2,?_⟩;refine Qs ?_;refine ⟨⟨by omega,by omega⟩,_,c3,?_⟩;refine Qs ?_;refine ⟨⟨by omega,by omega⟩,_,hct,?_⟩;refine Qs ?_;(repeat refine Qo ?_);apply hK;clear hK;refine Qaj ?_;refine VS [0,3,7,12,13,14] ?_;refine Qab ?_;refine Qs ?_;exact ⟨nc - (i+1),by omega,i+1,by rw [hcs];rfl,rfl,by omega,by omega,rfl⟩
 obtain rfl:i=nc:=by omega
 rw [Yo (by omega)];refine Qag rfl ?_;refine VS [6] ?_;exact VC_ret (VX_ret1 rfl rfl ⟨rfl,rfl⟩)
set_option maxHeartbeats 4000000
def Qja (s:List UInt8):List (List Nat)->List (List Nat)
 | []=>[]
 | [a]=>[a]
 | a::b::r=>Qer s a b::Qja s r
theorem Qx5 (s:List UInt8):∀ L:List (List Nat),(Qja s L).length=(L.length+1) / 2
 | []=>rfl
 | [a]=>by simp [Qja]
 | a::b::r=>by rw [Qja,Y9,Qx5 s r,Y9,Y9];omega
theorem Qs0 (s:List UInt8):∀ L:List (List Nat),(Qja s L).flatten.Perm L.flatten
 | []=>List.Perm.refl _
 | [a]=>List.Perm.refl _
 | a::b::r=>by
  rw [Qja,Xl,Xl,Xl,<- Yv];exact (Qff s a b).append (Qs0 s r)
theorem Qn0 (s:List UInt8):∀ L:List (List Nat),L.flatten.Nodup->(∀ l∈L,l.Pairwise (ordQ s))->∀ l∈Qja s L,l.Pairwise (ordQ s)
 | [],_,_,l,h=>by simp [Qja] at h
 | [a],_,h,l,hl=>h l hl
 | a::b::r,hn,h,l,hl=>by
  rw [Xl,Xl,<- Yv] at hn;obtain ⟨n1,n2,n3⟩:=U8.1 hn;obtain ⟨n4,n5,n6⟩:=U8.1 n1;rw [Qja] at hl;rcases List.mem_cons.1 hl with rfl | hl
  ·
   exact Qir s a b (h a (by simp)) (h b (by simp)) fun x hx hx2=>n6 x hx x hx2 rfl
  exact Qn0 s r n2 (fun x hx=>h x (by simp [hx])) l hl
def OrdL (s:List UInt8) (L:List (List Nat)):Prop:=(∀ l∈L,l.Pairwise (ordQ s))/\L.flatten.Perm (Yf s.length)
theorem OrdL.pass {s:List UInt8}{L:List (List Nat)} (h:OrdL s L):OrdL s (Qja s L) :=
 ⟨Qn0 s L (h.2.nodup_iff.2 Us) h.1,(Qs0 s L).trans h.2⟩
theorem OrdL.lt {s:List UInt8}{L:List (List Nat)} (h:OrdL s L) {t:List Nat} (ht:t∈L):∀ x∈t,x < s.length:=fun x hx=>by
 have:=(h.2.mem_iff (a:=x)).1 (List.mem_flatten.2 ⟨t,ht,hx⟩);simpa using this
theorem Qs1:∀ {L:List (List Nat)}{t:List Nat},t∈L->t.length<=L.flatten.length
 | a::L,t,h=>by
  rw [Xl,Yk];rcases List.mem_cons.1 h with rfl | h
  ·
   omega
  have:=Qs1 h;omega
theorem OrdL.le {s:List UInt8}{L:List (List Nat)} (h:OrdL s L) {t:List Nat} (ht:t∈L):t.length<=s.length:=by
 have:=Qs1 ht
 rwa [h.2.length_eq,Xi] at this
theorem QK9 (s:List UInt8):OrdL s ((Yf s.length).map fun i=>[i]):=by
 refine ⟨fun l hl=>?_,?_⟩
 ·
  obtain ⟨i,_,rfl⟩:=Xg.1 hl;exact List.pairwise_singleton _ _
 have:((Yf s.length).map fun i=>[i]).flatten=Yf s.length:=by
  rw [<- List.flatMap_def];simp
 rw [this]
theorem OrdL.ordered {s:List UInt8}{σ:List Nat} (h:OrdL s [σ]):Ordered s σ:=by
 refine ⟨by simpa using h.2,?_⟩;exact h.1 σ (by simp)
def ListsG (G:List Res) (hs:List (Option Addr×Nat)) (L:List (List Nat)):Prop:=∀ w:World,(∀ r∈G,r.holds w)->∀ (i:Nat) (h:Option Addr×Nat) (t:List Nat),hs[i]? = some h->L[i]? = some t->SL w h.1 t.length h.2 (Qak t)
theorem ListsG.mono {G G':List Res}{hs:List (Option Addr×Nat)}{L:List (List Nat)} (h:ListsG G hs L) (hm:∀ r∈G,r∈G'):ListsG G' hs L:=fun w hw=>h w fun r hr=>hw r (hm r hr)
theorem ListsG.snoc {G:List Res}{hs:List (Option Addr×Nat)}{L:List (List Nat)} (h:ListsG G hs L) (hl:hs.length=L.length) (a:Option Addr×Nat) (t:List Nat) (ha:∀ w:World,(∀ r∈G,r.holds w)->SL w a.1 t.length a.2 (Qak t)):ListsG G (hs++[a]) (L++[t]):=fun w hw i h' t' h1 h2=>by
 by_cases hi:i < hs.length
 ·
  rw [Y0 hi] at h1;rw [Y0 (by omega)] at h2;exact h w hw i h' t' h1 h2
 have hi2:i=hs.length:=by
  have:=(Y8.1 h1).1;simp at this;omega
 rw [Yz (by omega),hi2,Xb] at h1;rw [Yz (by omega),hi2,hl,Xb] at h2;cases h1;cases h2;exact ha w hw
theorem Qx6 (l:List UInt8) (hne:l≠[]) (hl:l.length<=1000000) (w:World):Does Yq 71 #[Str l] w
  fun v w'=>∃ σ a c,Ordered l σ/\Heap w [] w' []/\SL w' a σ.length c (Qak σ)/\v=.slice a σ.length c:=by
 have hlp:0 < l.length:=Uy.2 hne;refine En [Str l] 60 Tryz.func71 ?_;generalize hn:l.length=n at *;refine VS [0] ?_;refine VS [0,3] ?_;refine VS [0,3,4] ?_;have hN0:=(Y7 w).nilRow 51 1;refine Qac ?_;refine Qad [0,3,4] (fun m e w'=>∃ (i co:Nat) (ao:Option Addr) (hs:List (Option Addr×Nat)) (G:List Res),Is e [(0,Str l),(3,.slice ao i co),(4,.int .i64 i)]/\Heap w [] w' (Yd 51 1 ao i co (Qbq hs ((Yf i).map fun j=>[j]))::G)/\hs.length=i/\ListsG G hs ((Yf i).map fun j=>[j])/\i<=n/\m=n - i) n ?_ ?_
 ·
  refine Qs ?_;exact ⟨0,0,none,[],[],rfl,hN0,rfl,fun w hw i h' t' h1 h2=>by simp at h1,by omega,rfl⟩
 clear hN0;rintro m e w' ⟨i,co,ao,hs,G,rfl,hH,hsl,hLG,hi,rfl⟩;refine VQ [0,3,4,10] fun K hK=>?_;rw [hn];(repeat refine Qo ?_);apply hK;clear hK;refine VD (fun h=>?_) (fun h=>?_)
 ·
  have hrs:(Yf (i+1)).map (fun j=>[j])=(Yf i).map (fun j=>[j])++[[i]]:=by rw [Xr,X6];rfl
  have hrl:((Yf i).map fun j=>[j]).length=i:=by simp
  generalize hL1:(Yf (i+1)).map (fun j=>[j])=L1 at *;generalize (Yf i).map (fun j=>[j])=L at *;have hsv:=Qhg (hs:=hs) (T:=L) (by omega);refine VC_skip ?_;refine VB ?_;refine VQ [0,3,4] fun K hK=>?_;refine Qbb hH (Qak [i]) (xs:=[.tmp 14]) Yc sz3 rfl rfl rfl (by omega) ?_;refine Qs ?_;refine ⟨rfl,by simp [Y2],fun g w4 hH2=>?_⟩;(try refine Qs ?_);refine Qbb hH2 [.slice (some ⟨g,0,none⟩) 1 1] (xs:=[.tmp 15]) Y5 sz51 rfl rfl rfl (by omega) ?_;refine Qs ?_;refine ⟨trivial,by simp [Y2],fun gl w12 hH3=>?_⟩;(try refine Qs ?_);refine Qai ?_;refine Qs ?_;refine Qbn (zs:=#[.slice none 0 0]) (bytes:=24) hH3 2 rfl Y5 (by kernel_rfl) rfl ⟨rfl,Qaq (hH3.at 0 rfl),51,Y5⟩ (by simp [Yt]) (fun h=>by omega) fun a' cap' w13 hc' hH4=>?_;simp only [Yg,Yb] at hH4;have hH5:=(hH4.sub (Yn _ _)).perm (.swap _ _ _);clear hH hH2 hH3 hH4;have hsn:=Qhz (hs:=hs) (T:=L) (by omega) (some ⟨g,0,none⟩,1) [i];have hsn':Qbq hs L++[Y6 (some ⟨g,0,none⟩) 1 1]=Qbq (hs++[(some ⟨g,0,none⟩,1)]) (L++[[i]]):=hsn;rw [hsn'] at hH5;(try refine Qs ?_);apply hK;clear hK;refine Qaj ?_;refine VS [0,3,4] ?_;refine Qab ?_;refine Qs ?_;refine ⟨n - (i+1),by omega,i+1,cap',a',hs++[(some ⟨g,0,none⟩,1)],_,rfl,by rw [hL1,hrs];exact hH5,by simp [hsl],?_,by omega,rfl⟩;rw [hL1,hrs];exact (hLG.mono fun r hr=>Xu _ hr).snoc (by omega) (some ⟨g,0,none⟩,1) [i] fun wq hq=>QLu (hq _ (X7 ..))
 obtain rfl:i=n:=by omega
 have hO:=QK9 l;rw [hn] at hO;have hll:((Yf i).map fun j=>[j]).length=i:=by simp
 generalize (Yf i).map (fun j=>[j])=L0 at *;refine Qag rfl ?_;clear h hi;generalize hi2:i=n at *;have hH0:Heap w [] w' (Yd 51 1 ao L0.length co (Qbq hs L0)::G):=by rw [hll];exact hH
 refine VB ?_;refine Qad [0,3] (fun m e w'=>∃ (co:Nat) (ao:Option Addr) (hs:List (Option Addr×Nat)) (G:List Res) (L:List (List Nat)),Is e [(0,Str l),(3,.slice ao L.length co)]/\Heap w [] w' (Yd 51 1 ao L.length co (Qbq hs L)::G)/\hs.length=L.length/\ListsG G hs L/\OrdL l L/\1<=L.length/\L.length<=n/\m=L.length) n ?_ ?_
 ·
  refine Qs ?_;exact ⟨co,ao,hs,G,L0,by rw [hll];rfl,hH0,by omega,hLG,hO,by omega,by omega,by omega⟩
 clear hH hH0 hLG hO hll hsl;rintro m e w' ⟨co,ao,hs,G,L,rfl,hH,hsl,hLG,hO,hL1,hLn,rfl⟩;refine VS [0,3,20] ?_;refine VD (fun h=>?_) (fun h=>?_)
 ·
  have hpo:=hO.pass;have hpl:=Qx5 l L;have hNk:=hH.nilRow 51 1;refine VC_skip ?_;refine Qac ?_;refine VS [0,3,5] ?_;refine VS [0,3,5,6] ?_;refine Qac ?_;refine Qad [0,3,5,6] (fun m e w'=>∃ (i cn:Nat) (an:Option Addr) (hs2:List (Option Addr×Nat)) (N:List (List Nat)) (G:List Res),Is e [(0,Str l),(3,.slice ao L.length co),(5,.slice an N.length cn),(6,.int .i64 i)]/\Heap w [] w' (Yd 51 1 an N.length cn (Qbq hs2 N)::Yd 51 1 ao L.length co (Qbq hs L)::G)/\hs2.length=N.length/\ListsG G hs2 N/\ListsG G hs L/\N++Qja l (L.drop i)=Qja l L/\i<=L.length+1/\m=L.length+1 - i) (L.length+1) ?_ ?_
  ·
   refine Qs ?_;exact ⟨0,0,none,[],[],G,rfl,hNk,rfl,fun w hw i h' t' h1 h2=>by simp at h1,hLG,by rw [Xw,Yx],by omega,rfl⟩
  clear hH hLG hNk;rintro m e w' ⟨i,cn,an,hs2,N,G,rfl,hH,hs2l,hNG,hLG,hNe,hi,rfl⟩;refine VS [0,3,5,6,24] ?_;refine VD (fun h=>?_) (fun h=>?_)
  ·
   have hLi:L[i]? = some (L.getD i []):=by rw [Yi,Ye (by omega)];rfl
   obtain ⟨h1,hh1⟩:∃ h1,hs[i]? = some h1:=⟨_,Ye (by omega)⟩;have hdi:L.drop i=L.getD i []::L.drop (i+1):=drop_getD [] (by omega);have hm1:=Ym hLi;have hlt1:=hO.lt hm1;have hle1:=hO.le hm1;generalize L.getD i []=t1 at *;obtain ⟨ga,rfl⟩:=Qc1 (hH.at 1 rfl) (by omega);have hv1:=Qca hh1 hLi
   have hNl:N.length<=L.length:=by
    have:=congrArg Ud hNe;rw [Yk] at this;omega
   have hsv2:=Qhg (hs:=hs2) (T:=N) (by omega);rw [hn] at hlt1 hle1;refine VC_skip ?_;refine VB ?_;refine VS [0,3,5,6,31] ?_;refine VD (fun h=>?_) (fun h=>?_)
   ·
    have hLj:L[i+1]? = some (L.getD (i+1) []):=by rw [Yi,Ye (by omega)];rfl
    obtain ⟨h2,hh2⟩:∃ h2,hs[i+1]? = some h2:=⟨_,Ye (by omega)⟩;have hdj:L.drop (i+1)=L.getD (i+1) []::L.drop (i+1+1):=drop_getD [] (by omega);have hm2:=Ym hLj;have hlt2:=hO.lt hm2;have hle2:=hO.le hm2;rw [hn] at hlt2 hle2;generalize L.getD (i+1) []=t2 at *;have hv2:=Qca hh2 hLj;rw [hdi,hdj,Qja] at hNe;have s1:=hLG w' (fun r hr=>hH.holds r (by simp [hr])) i h1 t1 hh1 hLi;have s2:=hLG w' (fun r hr=>hH.holds r (by simp [hr])) (i+1) h2 t2 hh2 hLj;have hmg:=Qx1 l t1 t2 (by omega) (by rw [hn];exact hlt1) (by rw [hn];exact hlt2) (by omega) (by omega) h1.1 h2.1 h1.2 h2.2 w' s1 s2;have hF:=hH.focus 0 rfl;have d1:=Heap.hole_row hH 0 1 rfl rfl (by decide) hv1;have d2:=Heap.hole_row hH 0 1 rfl rfl (by decide) hv2;generalize hM:Qer l t1 t2=M at *;refine VH (holes (Yd 51 1 an N.length cn (Qbq hs2 N)).foot w') (Ext.hole _ _) [0,3,5,6] [(0,true),(1,true),(2,true),(3,true),(4,true),(5,true),(6,true),(7,true),(8,true),(9,true),(10,true),(11,false),(12,false),(13,false),(14,true)] fun K hK=>?_;refine ⟨⟨by omega,by omega⟩,_,d1,?_⟩;(try refine Qs ?_);refine ⟨Xf (by omega) (by omega),⟨by omega,by omega⟩,_,d2,?_⟩;(try refine Qs ?_);refine MemK_call Tryz.call105 ?_;refine Qs ?_;refine Yr hmg ?_;rintro v w2 ⟨am,cm,hHm,rfl⟩;have hF2:=hF.call0 hHm;simp only [Yp] at hF2;(try refine Qs ?_);refine ⟨hF2.upd.extH,?_⟩;(try refine Qs ?_);refine Qbb hF2 [.slice am M.length cm] (xs:=[.tmp 43]) Y5 sz51 rfl rfl rfl (by omega) ?_;refine Qs ?_;refine ⟨trivial,by simp [Y2],fun gl w12 hF3=>?_⟩;(try refine Qs ?_);refine ⟨hF3.upd.extH,?_⟩;(try refine Qs ?_);refine Qai ?_;refine Qs ?_;refine Qbn (zs:=#[.slice none 0 0]) (bytes:=24) hF3 2 rfl Y5 (by kernel_rfl) rfl ⟨rfl,Qaq (hF3.at 0 rfl),51,Y5⟩ (by simp [Yt]) (fun h=>by omega) fun a' cap' w13 hc' hF4=>?_;simp only [Yg,Yb] at hF4;have hsn:Qbq hs2 N++[Y6 am M.length cm]=Qbq (hs2++[(am,cm)]) (N++[M]):=Qhz (by omega) (am,cm) M;rw [hsn] at hF4;(try refine Qs ?_);refine ⟨hF4.upd.extH,?_⟩;(try refine Qs ?_);apply hK;clear hK;have hH5:=hH.call1 0 rfl (hF4.perm ((List.Perm.cons _ (.swap _ _ _)).trans (.swap _ _ _)));simp only [Yb,Xh,Yx] at hH5;have hH6:=(hH5.sub (Yn _ _)).perm ((List.Perm.swap _ _ _).trans (.cons _ (.swap _ _ _)));clear hH hF hF2 hF3 hF4 hH5 hHm;refine Qaj ?_;refine VS [0,3,5,6] ?_;refine Qab ?_;refine Qs ?_;refine ⟨L.length+1 - (i+2),by omega,i+2,cap',a',hs2++[(am,cm)],N++[M],_,by rw [Yk];rfl,by rw [Yk];exact hH6,by simp [hs2l],?_,hLG.mono fun r hr=>Xu _ hr,by rw [<- hNe];simp,by omega,rfl⟩;exact (hNG.mono fun r hr=>Xu _ hr).snoc (by omega) (am,cm) M fun wq hq=>QLu (hq _ (X7 ..))
   have hdj:L.drop (i+1)=[]:=Y4 (by omega);rw [hdi,hdj,Qja] at hNe;have hci:=Qa1 (hH.at 1 rfl) hv1;refine VQ [0,3,5,6] fun K hK=>?_;refine ⟨⟨by omega,by omega⟩,_,hci,?_⟩;(try refine Qs ?_);refine Qbb hH [.slice h1.1 t1.length h1.2] (xs:=[.tmp 50]) Y5 sz51 rfl rfl rfl (by omega) ?_;refine Qs ?_;refine ⟨trivial,by simp [Y2],fun gl w12 hH3=>?_⟩;(try refine Qs ?_);refine Qai ?_;refine Qs ?_;refine Qbn (zs:=#[.slice none 0 0]) (bytes:=24) hH3 1 rfl Y5 (by kernel_rfl) rfl ⟨rfl,Qaq (hH3.at 0 rfl),51,Y5⟩ (by simp [Yt]) (fun h=>by omega) fun a' cap' w13 hc' hH4=>?_;simp only [Yg,Yb] at hH4;have hsn:Qbq hs2 N++[Y6 h1.1 t1.length h1.2]=Qbq (hs2++[h1]) (N++[t1]):=Qhz (by omega) h1 t1;rw [hsn] at hH4;have hH5:=hH4.sub (Yn _ _);(try refine Qs ?_);apply hK;clear hK;refine Qaj ?_;refine VS [0,3,5,6] ?_;refine Qab ?_;refine Qs ?_;refine ⟨L.length+1 - (i+2),by omega,i+2,cap',a',hs2++[h1],N++[t1],G,by rw [Yk];rfl,by rw [Yk];exact hH5,by simp [hs2l],?_,hLG,?_,by omega,rfl⟩
   ·
    exact hNG.snoc (by omega) h1 t1 fun wq hq=>hLG wq hq i h1 t1 hh1 hLi
   rw [<- hNe,Y4 (by omega)];simp [Qja]
  rw [Y4 (by omega),Qja,Yh] at hNe;subst hNe;refine Qag rfl ?_;refine VS [0,3] ?_;refine Qaj ?_;refine Qab ?_;refine Qs ?_;exact ⟨(Qja l L).length,by omega,cn,an,hs2,_,Qja l L,rfl,hH.sub (.cons_cons _ (.cons _ (.refl _))),hs2l,hNG,hpo,by omega,by omega,rfl⟩
 obtain ⟨σ,rfl⟩:∃ σ,L=[σ]:=by
  match L,hL1,h with
  | [σ],_,_=>exact ⟨σ,rfl⟩
  | a::b::r,_,h=>simp at h;omega
 obtain ⟨h1,rfl⟩:∃ h1,hs=[h1]:=by
  match hs,hsl with
  | [h1],_=>exact ⟨h1,rfl⟩
 refine Qag rfl ?_;refine VS [3,56] ?_;refine Qaf rfl rfl (fun h=>by simp at h) (fun h=>VC_skip ?_);obtain ⟨ga,rfl⟩:=Qc1 (hH.at 0 rfl) (by simp);have hci:=Qa1 (hH.at 0 rfl) (show (Qbq [h1] [σ])[0]? = some (.slice h1.1 σ.length h1.2) from rfl);refine VQ [2] fun K hK=>?_;refine ⟨by simp,_,hci,?_⟩;(try refine Qs ?_);apply hK;clear hK;exact VC_ret (VX_ret1 rfl rfl ⟨σ,h1.1,h1.2,hO.ordered,hH.sub (by simp),hLG w' (fun r hr=>hH.holds r (by simp [hr])) 0 h1 σ rfl rfl,rfl⟩)
set_option maxHeartbeats 4000000
theorem Qu0 (l:List UInt8) (hne:l≠[]) (hl:l.length<=262144) (w:World):Does Yq 43 #[Str l] w
  fun v w'=>∃ σ,Ordered l σ/\Heap w [] w' []/\v=.tuple #[Str (Qbu l σ),.int .i64 (σ.idxOf 0:Nat),.int .i64 0]:=by
 have hlp:0 < l.length:=Uy.2 hne;refine En [Str l] 49 Tryz.func43 ?_;refine VS [0] ?_;refine VS [0,11] ?_;refine Qaf rfl rfl (fun h=>absurd (of_decide_eq_true h) hne) (fun h=>VC_skip ?_);clear h;refine VS [0,14] ?_;refine Qaf rfl rfl (fun h=>by simp at h;omega) (fun h=>VC_skip ?_);clear h;refine VS [0,5] ?_;refine VS [0,5,6] ?_;refine VQ [0,5,6,7] fun K hK=>?_;refine MemK_call Tryz.call71 ?_;refine Qs ?_;refine Yr (Qx6 l hne (by omega) w) ?_;rintro v w2 ⟨σ,a,c,hσ,hX,hSL,rfl⟩;generalize hn:l.length=n at *;have hσl:σ.length=n:=by rw [hσ.perm.length_eq,Xi,hn]
 have hσb:∀ p,p < n->σ.getD p 0 < n:=fun p hp=>by
  have h1:σ.getD p 0∈σ:=Qa3 0 (by omega);have:=hσ.perm.mem_iff.1 h1;rw [Uk,hn] at this;exact this
 have hnd:σ.Nodup:=by rw [hσ.perm.nodup_iff];exact Us
 have h0σ:0∈σ:=hσ.perm.mem_iff.2 (by rw [Uk];omega);obtain ⟨q,rfl⟩:=Qbj hSL.1 (by omega);rw [hσl] at hSL ⊢;(try refine Qs ?_);apply hK;clear hK;refine VS [0,5,6,7,8] ?_;refine Qac ?_;refine Qad [0,5,6,7,8] (fun m e w'=>∃ (k r:Nat),Is e [(0,Str l),(5,Str (Qbu l (σ.take k))),(6,.int .i64 r),(7,.slice (some q) n c),(8,.int .i64 k)]/\Is w' w2/\k<=n/\(0∈σ.take k->r=σ.idxOf 0)/\m=n - k) n ?_ ?_
 ·
  refine Qs ?_;exact ⟨0,0,rfl,rfl,by omega,fun h=>by simp at h,rfl⟩
 rintro m e w3 ⟨k,r,rfl,rfl,hk,hr,rfl⟩;refine VS [0,5,6,7,8,20] ?_;refine VD (fun h=>?_) (fun h=>?_)
 ·
  have hkn:k < n:=by omega
  have hcell:=Qbr hSL.1 (i:=k) (by omega);have hsk:=hσb k hkn;have htk:=Qb2 0 (l:=σ) (i:=k) (by omega);have hcs:Qbu l (σ.take (k+1))=Qbu l (σ.take k)++[l.getD (ahead n (σ.getD k 0)) 0]:=by rw [htk];simp only [Qbu,X6,hn,List.map_cons,List.map_nil]
  have hcl:(Qbu l (σ.take k)).length=k:=by rw [Qbu,Uh,Y1];omega
  have h1:σ.idxOf (σ.getD k 0)=k:=by
   have h1:=hnd.idxOf_getElem k (show k < σ.length by omega);rw [Yi,Ye (show k < σ.length by omega)];exact h1
  have hah:(((σ.getD k 0:Nat):Int)+n - 1) % n=((ahead n (σ.getD k 0):Nat):Int):=by
   unfold ahead;split
   ·
    rename_i e;rw [e];rw [show (((0:Nat):Int)+n - 1)=((n - 1:Nat):Int) by omega];exact Int.emod_eq_of_lt (by omega) (by omega)
   rw [show (((σ.getD k 0:Nat):Int)+n - 1)=((σ.getD k 0 - 1:Nat):Int)+n by omega,Int.add_emod_right];exact Int.emod_eq_of_lt (by omega) (by omega)
  have hal:ahead n (σ.getD k 0) < n:=by unfold ahead;split <;> omega
  generalize Qbu l (σ.take k)=C at *;generalize ahead n (σ.getD k 0)=at_ at *;generalize σ.getD k 0=x at *;refine VC_skip ?_;refine VB ?_;refine VQ [0,5,6,7,8,9] fun K hK=>?_;refine ⟨⟨by omega,by omega⟩,_,hcell,?_⟩;(try refine Qs ?_);rw [hn,hah];(repeat first | refine Qo ?_ | refine Qp ?_);apply hK;clear hK
  have e1:(l.drop at_).take 1=[l.getD at_ 0]:=by
   rw [drop_getD 0 (by omega)];rfl
  refine VQ [0,5,6,7,8] fun K hK=>?_;refine ⟨Xf (by omega) (by omega),⟨by omega,by omega,by omega⟩,by simp;omega,?_⟩;rw [show at_+1 - at_=1 by omega,e1,<- hcs];apply hK;clear hK;refine VQ [0,5,6,7,8,45] fun K hK=>?_;refine ⟨⟨by omega,by omega⟩,_,hcell,?_⟩;(try refine Qs ?_);(repeat refine Qo ?_);apply hK;clear hK;refine VD (fun h=>?_) (fun h=>?_)
  ·
   have hx0:x=0:=by omega
   refine VS [0,5,6,7,8] ?_;refine Qaj ?_;refine VS [0,5,6,7,8] ?_;refine Qab ?_;refine Qs ?_;exact ⟨n - (k+1),by omega,k+1,k,rfl,rfl,by omega,fun _=>by rw [<- hx0];exact h1.symm,rfl⟩
  refine VC_skip ?_;refine Qaj ?_;refine VS [0,5,6,7,8] ?_;refine Qab ?_;refine Qs ?_;refine ⟨n - (k+1),by omega,k+1,r,rfl,rfl,by omega,fun h2=>hr ?_,rfl⟩;rw [htk,List.mem_append] at h2;rcases h2 with h2 | h2
  ·
   exact h2
  have:=Uj.1 h2;omega
 obtain rfl:k=n:=by omega
 rw [Yo (by omega)] at hr ⊢;refine Qag rfl ?_;refine VS [2,3,4] ?_;exact VC_ret (Qcv rfl rfl rfl rfl ⟨σ,hσ,hX,by rw [hr h0σ]⟩)
set_option maxHeartbeats 4000000
theorem QAq (l:List Nat) (hl:2<=l.length) (hl2:l.length<=258) (hx:∀ x∈l,1<=x/\x<=20) (pa:Option Addr) (lc:Nat) (w:World) (hr:RS w pa l.length 1 (Qak l)) :
  Does Yq 82 #[.slice pa l.length lc] w fun v w'=>∃ a cap,Heap w [] w' [Yd 3 1 a (Qce l).length cap (Qat (bI (Qce l)))]/\v=.tuple #[.slice a (Qce l).length cap,.int .i64 0]:=by
 obtain ⟨p,rfl⟩:=Qbj hr (by omega);have hget:∀ i,i < l.length->1<=l.getD i 0/\l.getD i 0<=20:=fun i hi=>hx _ (Qa3 0 hi);refine En [.slice (some p) l.length lc] 87 Tryz.func82 ?_;generalize hn:l.length=n at *;refine VS [0] ?_;refine VS [0,4] ?_;refine Qac ?_;refine Qad [0,4] (fun m e w'=>∃ (i:Nat),Is e [(0,.slice (some p) n lc),(4,.int .i64 i)]/\Is w' w/\i<=n/\m=n - i) n ?_ ?_
 ·
  refine Qs ?_;exact ⟨0,rfl,rfl,by omega,rfl⟩
 rintro m e w2 ⟨i,rfl,rfl,hi,rfl⟩;refine VS [0,4,14] ?_;refine VD (fun h=>?_) (fun h=>?_)
 ·
  have hcell:=Qbr hr (i:=i) (by omega);have hg:=hget i (by omega);generalize l.getD i 0=x at *;refine VC_skip ?_;refine VB ?_;refine VQ [0,4,28] fun K hK=>?_;refine ⟨⟨by omega,by omega⟩,_,hcell,?_⟩;(try refine Qs ?_)
  suffices out:∀ b:Bool,(b=true ↔ False)->K [(0,.slice (some p) n lc),(4,.int .i64 i),(28,.bool b)] w2 by
   refine ⟨fun h3=>?_,fun h3=>by omega⟩;(repeat first | refine Qo ?_ | refine Qp ?_);refine ⟨_,hcell,?_⟩;(try refine Qs ?_);exact out _ (by simp;omega)
  intro b hb;apply hK;clear hK;refine Qaf rfl rfl (fun h=>(hb.1 h).elim) (fun h=>VC_skip ?_);refine Qaj ?_;refine VS [0,4] ?_;refine Qab ?_;refine Qs ?_;exact ⟨n - (i+1),by omega,i+1,rfl,rfl,by omega,rfl⟩
 obtain rfl:i=n:=by omega
 refine Qag rfl ?_;refine VQ [0,36] fun K hK=>?_
 suffices out:∀ b:Bool,(b=true ↔ False)->K [(0,.slice (some p) i lc),(36,.bool b)] w2 by (repeat' (first | exact out _ _ (by first | omega | (simp;done) | (simp;omega)) | exact out _ (by first | omega | (simp;done) | (simp;omega)) | refine ⟨fun _=>?_,fun _=>?_⟩ | refine Qo ?_))
 intro b hb;apply hK;clear hK;refine Qaf rfl rfl (fun h=>(hb.1 h).elim) (fun h=>VC_skip ?_);clear hb h;have h0:=hget 0 (by omega);have hc0:=Qbr hr (i:=0) (by omega);have hdS:Qce l=Qas 5 (l.getD 0 0)++Qcc (l.getD 0 0) l:=rfl;rw [hdS];generalize hx0:l.getD 0 0=x0 at *;have hb5:=Qan 5 x0;refine VQ [0,5] fun K hK=>?_;refine ⟨by omega,_,hc0,?_⟩;(try refine Qs ?_);rw [show ((x0:Int) % 18446744073709551616)=x0 by omega];refine MemK_call Gd ?_;refine Qs ?_;refine Yr (Qd0 x0 5 (by omega) (by omega) w2) ?_;rintro v w5 ⟨gb,hH3,rfl⟩;(try refine Qs ?_);apply hK;clear hK;refine VS [0,5,7] ?_;refine Qac ?_;refine Qad [0,5,7] (fun m e w'=>∃ (k cap:Nat) (a:Option Addr),Is e [(0,.slice (some p) i lc),(5,.slice a (bI (Qas 5 x0++Qcc x0 (l.take k))).length cap),(7,.int .i64 k)]/\Heap w2 [] w' [Yd 3 1 a (bI (Qas 5 x0++Qcc x0 (l.take k))).length cap (Qat (bI (Qas 5 x0++Qcc x0 (l.take k))))]/\k<=i/\m=i - k) i ?_ ?_
 ·
  refine Qs ?_;refine ⟨0,5,some ⟨gb,0,none⟩,?_,?_,by omega,rfl⟩
  ·
   rw [Qbh,Xx,Qcc,Yh,hb5];rfl
  rw [Qbh,Xx,Qcc,Yh,hb5];exact hH3
 clear hH3 hdS hc0;rintro m e w8 ⟨k,cap,a,rfl,hH,hk,rfl⟩;refine VS [0,5,7,48] ?_;refine VD (fun h=>?_) (fun h=>?_)
 ·
  have hcx:=fun (wq:World) (G:List Res) (hq:Heap w2 [] wq G)=>Qbr (hq.rs' hr) (i:=k) (by omega);have hg:=hget k (by omega);have htk:=Qb2 0 (l:=l) (i:=k) (by omega);have hlo:=Qpt (l.take k) x0 h0 fun x hx'=>hx x (Xt hx');have hdl:=Qgb (l.take k) x0 h0.2 fun x hx'=>(hx x (Xt hx')).2;have hdl2:(l.take k).length<=258:=by rw [Y1];omega
  have hsn:=Qjv (l.take k) x0 (l.getD k 0);have hls:=Qix (l.take k) x0 (l.getD k 0);have hpc:=Qbr (hH.rs' hr) (i:=k - 1) (by omega)
  have hpv:l.getD (k - 1) 0=Qid x0 (l.take k):=by
   rcases Uz k with rfl | hk0
   ·
    simpa [Qid] using hx0
   obtain ⟨q,rfl⟩:∃ q,k=q+1:=⟨k - 1,by omega⟩;rw [Qb2 0 (l:=l) (i:=q) (by omega),Qix,Xp]
  rw [<- htk] at hsn hls;rw [Qsi] at hsn;rw [hpv] at hpc;generalize l.getD k 0=x at *;generalize Qid x0 (l.take k)=p0 at *;generalize hB:Qas 5 x0++Qcc x0 (l.take k)=Bt at *;have hBl:Bt.length<=11000:=by rw [<- hB,Yk];omega
  refine VC_skip ?_;refine VB ?_;refine VQ [0,5,7,8] fun K hK=>?_;rw [show max ((k:Int) - 1) 0=((k - 1:Nat):Int) by omega];refine ⟨Xf (by omega) (by omega),⟨by omega,by omega⟩,_,hpc,?_⟩;(try refine Qs ?_);apply hK;clear hK;clear hpc hpv;refine VS [0,5,7,8,9] ?_;refine Qac ?_;refine Qad [0,5,7,8,9] (fun m e w'=>∃ (d cap:Nat) (a:Option Addr),Is e [(0,.slice (some p) i lc),(5,.slice a (bI (Bt++(Ya d [true,false]).flatten)).length cap),(7,.int .i64 k),(8,.int .i64 p0),(9,.int .i64 d)]/\Heap w2 [] w' [Yd 3 1 a (bI (Bt++(Ya d [true,false]).flatten)).length cap (Qat (bI (Bt++(Ya d [true,false]).flatten)))]/\d<=x - p0/\m=x - p0 - d) (x - p0) ?_ ?_
  ·
   refine Qs ?_;refine ⟨0,cap,a,?_,?_,by omega,rfl⟩
   ·
    rw [Y3,Ub,Yh];rfl
   rw [Y3,Ub,Yh];exact hH
  clear hH;rintro m e w9 ⟨d,cap,a,rfl,hH,hd,rfl⟩;refine VQ [0,5,7,8,9,64] fun K hK=>?_;refine ⟨⟨by omega,by omega⟩,_,hcx _ _ hH,?_⟩;(try refine Qs ?_);(repeat first | refine Qo ?_ | refine Qp ?_);(repeat refine Qo ?_);apply hK;clear hK;refine VD (fun h=>?_) (fun h=>?_)
  ·
   have hus:=Qt5 d false;have hfl:=Qfv d false;generalize (Ya d [true,false]).flatten=R0 at *;refine VC_skip ?_;refine VB ?_;refine VQ [0,5,7,8,9] fun K hK=>?_;refine Qbb hH (Qat (bI [true,false])) (xs:=[.const (.int .i64 1),.const (.int .i64 0)]) Yc sz3 rfl rfl rfl (by omega) ?_;refine Qs ?_;refine ⟨rfl,by simp [Y2],fun g w4 hH2=>?_⟩;(try refine Qs ?_);refine Qai ?_;refine Qs ?_;refine Qcg (o:=bI (Bt++R0)) (t:=bI [true,false]) hH2 1 rfl Yc zi3 rfl (Qaq (hH2.at 0 rfl)) (fun h=>by simp [Qbh];omega) fun a' cap' w5 hc' hH3=>?_;simp only [Yg,Yb] at hH3;rw [<- Qcr,Yv] at hH3 ⊢;have hH4:=hH3.sub (Yn _ _);(try refine Qs ?_);apply hK;clear hK;refine Qaj ?_;refine VS [0,5,7,8,9] ?_;refine Qab ?_;refine Qs ?_;exact ⟨x - p0 - (d+1),by omega,d+1,cap',a',by rw [hus];rfl,by rw [hus];exact hH4,by omega,rfl⟩
  obtain rfl:d=x - p0:=by omega
  refine Qag rfl ?_;rw [<- Yv,<- Yv] at hsn;generalize hB2:Bt++(Ya (x - p0) [true,false]).flatten=Bt2 at *;have hBl2:Bt2.length<=11100:=by rw [<- hB2,Yk,Qfv];omega
  refine VS [0,5,7,8,10] ?_;refine Qac ?_;refine Qad [0,5,7,8,10] (fun m e w'=>∃ (d cap:Nat) (a:Option Addr),Is e [(0,.slice (some p) i lc),(5,.slice a (bI (Bt2++(Ya d [true,true]).flatten)).length cap),(7,.int .i64 k),(8,.int .i64 p0),(10,.int .i64 d)]/\Heap w2 [] w' [Yd 3 1 a (bI (Bt2++(Ya d [true,true]).flatten)).length cap (Qat (bI (Bt2++(Ya d [true,true]).flatten)))]/\d<=p0 - x/\m=p0 - x - d) (p0 - x) ?_ ?_
  ·
   refine Qs ?_;refine ⟨0,cap,a,?_,?_,by omega,rfl⟩
   ·
    rw [Y3,Ub,Yh];rfl
   rw [Y3,Ub,Yh];exact hH
  clear hH;rintro m e w10 ⟨d,cap,a,rfl,hH,hd,rfl⟩;refine VQ [0,5,7,8,10,77] fun K hK=>?_;refine ⟨⟨by omega,by omega⟩,_,hcx _ _ hH,?_⟩;(try refine Qs ?_);(repeat first | refine Qo ?_ | refine Qp ?_);(repeat refine Qo ?_);apply hK;clear hK;refine VD (fun h=>?_) (fun h=>?_)
  ·
   have hus:=Qt5 d true;have hfl:=Qfv d true;generalize (Ya d [true,true]).flatten=R0 at *;refine VC_skip ?_;refine VB ?_;refine VQ [0,5,7,8,10] fun K hK=>?_;refine Qbb hH (Qat (bI [true,true])) (xs:=[.const (.int .i64 1),.const (.int .i64 1)]) Yc sz3 rfl rfl rfl (by omega) ?_;refine Qs ?_;refine ⟨rfl,by simp [Y2],fun g w4 hH2=>?_⟩;(try refine Qs ?_);refine Qai ?_;refine Qs ?_;refine Qcg (o:=bI (Bt2++R0)) (t:=bI [true,true]) hH2 1 rfl Yc zi3 rfl (Qaq (hH2.at 0 rfl)) (fun h=>by simp [Qbh];omega) fun a' cap' w5 hc' hH3=>?_;simp only [Yg,Yb] at hH3;rw [<- Qcr,Yv] at hH3 ⊢;have hH4:=hH3.sub (Yn _ _);(try refine Qs ?_);apply hK;clear hK;refine Qaj ?_;refine VS [0,5,7,8,10] ?_;refine Qab ?_;refine Qs ?_;exact ⟨p0 - x - (d+1),by omega,d+1,cap',a',by rw [hus];rfl,by rw [hus];exact hH4,by omega,rfl⟩
  obtain rfl:d=p0 - x:=by omega
  refine Qag rfl ?_;generalize hB3:Bt2++(Ya (p0 - x) [true,true]).flatten=Bt3 at *;have hBl3:Bt3.length<=11200:=by rw [<- hB3,Yk,Qfv];omega
  refine VQ [0,5,7] fun K hK=>?_;refine Qbb hH (Qat (bI [false])) (xs:=[.const (.int .i64 0)]) Yc sz3 rfl rfl rfl (by omega) ?_;refine Qs ?_;refine ⟨rfl,by simp [Y2],fun g w4 hH2=>?_⟩;(try refine Qs ?_);refine Qai ?_;refine Qs ?_;refine Qcg (o:=bI Bt3) (t:=bI [false]) hH2 1 rfl Yc zi3 rfl (Qaq (hH2.at 0 rfl)) (fun h=>by simp [Qbh];omega) fun a' cap' w5 hc' hH3=>?_;simp only [Yg,Yb] at hH3;rw [<- Qcr] at hH3 ⊢;have hH4:=hH3.sub (Yn _ _);(try refine Qs ?_);apply hK;clear hK;refine Qaj ?_;refine VS [0,5,7] ?_;refine Qab ?_;refine Qs ?_
  have hfin:Qas 5 x0++Qcc x0 (l.take (k+1))=Bt3++[false]:=by
   rw [hsn,<- Yv,<- Yv,<- Yv,hB,hB2,hB3]
  exact ⟨i - (k+1),by omega,k+1,cap',a',by rw [hfin];rfl,by rw [hfin];exact hH4,by omega,rfl⟩
 obtain rfl:k=i:=by omega
 rw [Yo (by omega)] at hH ⊢;rw [Qbh] at hH ⊢;refine Qag rfl ?_;refine VS [2,3] ?_;exact VC_ret (Qav rfl rfl rfl ⟨a,cap,hH,rfl⟩)
set_option maxHeartbeats 4000000
theorem QAr (li r:List Nat) {k:Nat} (h:k < li.length):Qek (li++r) k=Qek li k++r:=by
 simp only [Qek,Yi,Y0 h,List.take_append_of_le_length (Nat.le_of_lt h),List.drop_append_of_le_length (show k+1<=li.length from h),Xh,Yv]
theorem Qn2 (r:List Nat):∀ (P li:List Nat),(∀ k∈P,k∈li)->Qcw (li++r) P=Qcw li P
 | [],li,_=>rfl
 | p::P,li,h=>by
  have hp:=h p (by simp);have h1:=X5.2 hp;rw [Qcw,Qcw,List.idxOf_append,if_pos hp,QAr li r h1,Qn2 r P _ fun k hk=>(Qg2 h1 k).2 (h k (by simp [hk]))]
theorem QH6 {n:Nat} (h:n<=6):∃ r,Yf n++r=[0,1,2,3,4,5]:=by
 refine ⟨(Yf 6).drop n,?_⟩;have:(Yf 6).take n=Yf n:=by rw [List.take_range,Nat.min_eq_left h]
 rw [<- this,List.take_append_drop];rfl
theorem Qqi {α β:Type} (f:α->List β) (b:Nat):∀ (L:List α),(∀ t∈L,(f t).length<=b)->(L.flatMap f).length<=L.length * b
 | [],_=>by simp
 | t::L,h=>by
  have h1:=h t (by simp);have h2:=Qqi f b L fun x hx=>h x (by simp [hx]);rw [U9,Yk,Y9,Ga];omega
theorem Qx7 {α β:Type} (f:α->List β) {T:List α}{i:Nat}{t:α} (h:T[i]? = some t):(T.take (i+1)).flatMap f=(T.take i).flatMap f++f t:=by
 rw [Up,h];simp
theorem Qs2 {t:List Nat} (h:okL t):(Qce t).length<=10600:=by
 have h0:t.getD 0 0<=20:=(h.2.2.1 _ (Qa3 0 (l:=t) (i:=0) (by have:=h.1;omega))).2;have:=Qgb t (t.getD 0 0) h0 fun x hx=>(h.2.2.1 x hx).2;have h2:=h.2.1;rw [Qce,Yk,Qan];omega
theorem Qn3 (v:Value) (T:List (List Nat)) (P:List Nat) (hm:mayP T P) (w:World) (hp:PlanAt w v T P):Does Yq 49 #[v] w
  fun x w'=>∃ a c,Heap w [] w' [Yd 3 1 a (Qbx T P).length c (Qat (bI (Qbx T P)))]/\x=.tuple #[.slice a (Qbx T P).length c,.int .i64 0]:=by
 have hp0:=hp;obtain ⟨ta,tc,pa,pc,hs0,rfl,hsl,hrT,hrP,hrt⟩:=hp;have hm0:=hm;obtain ⟨m1,m2,m3,m4,m5,m6⟩:=hm;have hpl:=Qiz P (Yf T.length) (fun k hk=>by simpa using m6 k hk);rw [Xi] at hpl;have hmu:P.length * T.length<=32767 * 6:=Ul m4 m2;have hpb:Qbx T P=(Qas 3 T.length++(Qas 15 P.length++Qcw (Yf T.length) P))++T.flatMap Qce:=by simp [Qbx]
 rw [hpb];clear hpb;have hb3:=Qan 3 T.length;have hb15:=Qan 15 P.length;obtain ⟨r6,hr6⟩:=QH6 (n:=T.length) m2;rw [<- Qn2 r6 P _ fun k hk=>by simpa using m6 k hk,hr6] at hpl ⊢
 have hmem:∀ k∈P,k∈([0,1,2,3,4,5]:List Nat):=fun k hk=>by
  have:=m6 k hk;rw [<- hr6];simp;left;omega
 clear hr6;obtain ⟨qt,rfl⟩:=Qbj hrT (by omega);obtain ⟨qp,rfl⟩:=Qbj hrP (by omega);have hen:#[Xy #[.slice (some qt) T.length tc,.slice (some qp) P.length pc]]=[Xy (Qam (some qt) T.length tc (some qp) P.length pc).toArray].toArray:=rfl;rw [hen];refine Qdx 85 Tryz.func49 rfl rfl (of_decide_eq_true rfl) ?_;simp only [Env.ofArgs];generalize hnt:T.length=nt at *;generalize hnp:P.length=np at *;refine VQ [1] fun K hK=>?_;refine Qch ?_;refine Qs ?_;have hH:=(Y7 w).box 70 (Qam (some qt) nt tc (some qp) np pc);generalize w.alloc (Yy (Qam (some qt) nt tc (some qp) np pc).toArray 70)=w1 at *;generalize w.heap.size=gp at *;apply hK;clear hK;refine VQ [1,16] fun K hK=>?_;refine ⟨Qam (some qt) nt tc (some qp) np pc,⟨rfl,Qay (hH.at 0 rfl)⟩,?_⟩;(try refine Qs ?_);refine MemK_call Tryz.call80 ?_;refine Qs ?_;refine Yr (Qp4 _ T P hm0 w1 (hp0.keep hH)) ?_;rintro v w2 ⟨hHm,rfl⟩;have hH2:=hH.call0 hHm;simp only [Yx] at hH2;clear hH hHm;(try refine Qs ?_);(repeat refine Qo ?_);apply hK;clear hK;refine Qaf rfl rfl (fun h=>by simp at h) (fun h=>VC_skip ?_);clear h;have c0:w2.cell? ⟨gp,0,none⟩=some (.slice (some qt) nt tc):=Qah (hH2.at 0 rfl) rfl;refine VQ [1,4] fun K hK=>?_;refine ⟨_,c0,?_⟩;(try refine Qs ?_);rw [show ((nt:Int) % 18446744073709551616)=nt by omega];refine MemK_call Gd ?_;refine Qs ?_;refine Yr (Qd0 nt 3 (by omega) (by omega) w2) ?_;rintro v w3 ⟨g3,hHb,rfl⟩;have hH3:=hH2.call0 hHb;simp only [Yp] at hH3;clear hH2 hHb c0;(try refine Qs ?_);apply hK;clear hK;have c1:w3.cell? ⟨gp,1,none⟩=some (.slice (some qp) np pc):=Qah (hH3.at 1 rfl) rfl;refine VQ [1,4,6] fun K hK=>?_;refine ⟨_,c1,?_⟩;(try refine Qs ?_);rw [show ((np:Int) % 18446744073709551616)=np by omega];refine MemK_call Gd ?_;refine Qs ?_;refine Yr (Qd0 np 15 (by omega) (by omega) w3) ?_;rintro v w4 ⟨g15,hHb,rfl⟩;have hH4:=hH3.call0 hHb;simp only [Yp] at hH4;clear hH3 hHb c1;(try refine Qs ?_);apply hK;clear hK;have hl3:(bI (Qas 3 nt)).length=3:=by rw [Qbh,hb3]
 have hl15:(bI (Qas 15 np)).length=15:=by rw [Qbh,hb15]
 refine VQ [1,4] fun K hK=>?_;refine Qai ?_;refine Qs ?_;refine Qcg (o:=bI (Qas 3 nt)) (t:=bI (Qas 15 np)) hH4 1 (by rw [hl3];rfl) Yc zi3 hl15.symm (by rw [hl15];exact Qaq (hH4.at 0 rfl)) (fun h=>by simp [hl3,hl15]) fun a' cap' w5 hc' hH5=>?_;simp only [Yg,Yb] at hH5;rw [<- Qcr] at hH5 ⊢;have hH6:=hH5.sub (Yn _ _);clear hH4 hH5 hc';(try refine Qs ?_);apply hK;clear hK;refine VQ [1,4,8] fun K hK=>?_;refine Qbb hH6 (Qak [0,1,2,3,4,5]) (xs:=[.const (.int .i64 0),.const (.int .i64 1),.const (.int .i64 2),.const (.int .i64 3),.const (.int .i64 4),.const (.int .i64 5)]) Yc sz3 rfl rfl rfl (by omega) ?_;refine Qs ?_;refine ⟨rfl,by simp [Y2],fun g w4 hH7=>?_⟩;(try refine Qs ?_);clear hH6;apply hK;clear hK;refine VS [1,4,8,9] ?_;generalize hFull:Qas 3 nt++(Qas 15 np++Qcw [0,1,2,3,4,5] P)=Full at *
 have hFl:Full.length<=300000:=by
  have:=congrArg Ud hFull;simp only [Yk,hb3,hb15] at this;omega
 refine Qac ?_;refine Qad [1,4,8,9] (fun m e w'=>∃ (i c oc:Nat) (a oa:Option Addr) (li:List Nat) (X:List Bool),Is e [(1,.pointer (some ⟨gp,0,none⟩)),(4,.slice a (bI X).length c),(8,.slice oa 6 oc),(9,.int .i64 i)]/\Heap w [] w' [Yd 3 1 oa 6 oc (Qak li),Yd 3 1 a (bI X).length c (Qat (bI X)),Yl gp 70 (Qam (some qt) nt tc (some qp) np pc)]/\li.length=6/\(∀ k∈P,k∈li)/\X++Qcw li (P.drop i)=Full/\i<=np/\m=np - i) np ?_ ?_
 ·
  refine Qs ?_;exact ⟨0,cap',6,a',_,[0,1,2,3,4,5],Qas 3 nt++Qas 15 np,rfl,hH7,rfl,hmem,by rw [<- hFull,Xw,Yv],by omega,rfl⟩
 clear hH7 hmem hFull hl3 hl15 hb3 hb15;rintro m e w8 ⟨i,c,oc,a,oa,li,X,rfl,hH,hlil,hli,hX,hi,rfl⟩;have c1:w8.cell? ⟨gp,1,none⟩=some (.slice (some qp) np pc):=Qah (hH.at 2 rfl) rfl;refine VQ [1,4,8,9,41] fun K hK=>?_;refine ⟨_,c1,?_⟩;(try refine Qs ?_);(repeat refine Qo ?_);apply hK;clear hK;clear c1;refine VD (fun h=>?_) (fun h=>?_)
 ·
  have hx:=Qa3 0 (l:=P) (i:=i) (by omega);have hdp:P.drop i=P.getD i 0::P.drop (i+1):=drop_getD 0 (by omega);have hcx:=fun (wq:World) (G:List Res) (hq:Heap w [] wq G)=>Qbr (hq.rs' hrP) (i:=i) (by omega);rw [hdp,Qcw] at hX;generalize P.getD i 0=x at *;have hxl:=hli x hx;have hxi:=X5.2 hxl
  have hXl:X.length+li.idxOf x+1<=300000:=by
   have:=congrArg Ud hX;simp only [Yk,Xj,Y9] at this;omega
  refine VC_skip ?_;refine VB ?_;refine VS [1,4,8,9,10] ?_;refine VB ?_;refine Qad [1,4,8,9,10] (fun m e w'=>∃ (at_ c:Nat) (a:Option Addr),Is e [(1,.pointer (some ⟨gp,0,none⟩)),(4,.slice a (bI (X++Ya at_ true)).length c),(8,.slice oa 6 oc),(9,.int .i64 i),(10,.int .i64 at_)]/\Heap w [] w' [Yd 3 1 oa 6 oc (Qak li),Yd 3 1 a (bI (X++Ya at_ true)).length c (Qat (bI (X++Ya at_ true))),Yl gp 70 (Qam (some qt) nt tc (some qp) np pc)]/\at_<=li.idxOf x/\m=li.idxOf x - at_) (li.idxOf x) ?_ ?_
  ·
   refine Qs ?_;refine ⟨0,c,a,?_,?_,by omega,rfl⟩
   ·
    rw [Y3,Yh];rfl
   rw [Y3,Yh];exact hH
  clear hH;rintro m e w9 ⟨at_,c,a,rfl,hH,hat,rfl⟩;obtain ⟨qo,rfl⟩:=Qbj (Qaq (hH.at 0 rfl)) (by omega);have hca:=Qbr (Qaq (hH.at 0 rfl)) (show at_ < li.length by omega);have c1:w9.cell? ⟨gp,1,none⟩=some (.slice (some qp) np pc):=Qah (hH.at 2 rfl) rfl;refine Vq [1,4,8,9,10,53] fun K hK=>?_;refine ⟨⟨by omega,by omega⟩,_,hca,_,c1,?_⟩;(try refine Qs ?_);refine ⟨⟨by omega,by omega⟩,_,hcx _ _ hH,?_⟩;(try refine Qs ?_);apply hK;clear hK;clear c1;refine Vi (fun h=>?_) (fun h=>?_)
  ·
   simp only [decide_eq_true_eq] at h
   have hlt:at_ < li.idxOf x:=by
    rcases X8 at_ (li.idxOf x) with h2 | h2
    ·
     exact h2
    have e:at_=li.idxOf x:=by omega
    rw [e,Qm1 hxl] at h;omega
   have hrep:Ya (at_+1) true=Ya at_ true++[true]:=Ux;refine VC_skip ?_;refine Qac ?_;refine VQ [1,4,8,9,10] fun K hK=>?_;refine Qbb hH (Qat (bI [true])) (xs:=[.const (.int .i64 1)]) Yc sz3 rfl rfl rfl (by omega) ?_;refine Qs ?_;refine ⟨rfl,by simp [Y2],fun g w4 hH2=>?_⟩;(try refine Qs ?_);refine Qai ?_;refine Qs ?_;refine Qcg (o:=bI (X++Ya at_ true)) (t:=bI [true]) hH2 2 rfl Yc zi3 rfl (Qaq (hH2.at 0 rfl)) (fun h=>by simp [Qbh];omega) fun a' cap' w5 hc' hH3=>?_;simp only [Yg,Yb] at hH3;rw [<- Qcr,Yv,<- hrep] at hH3 ⊢;have hH4:=hH3.sub (Yn _ _);(try refine Qs ?_);apply hK;clear hK;refine VS [1,4,8,9,10] ?_;refine Qaj ?_;refine Qab ?_;refine Qs ?_;exact ⟨li.idxOf x - (at_+1),by omega,at_+1,cap',a',rfl,hH4,by omega,rfl⟩
  simp only [decide_eq_false_iff_not,Decidable.not_not] at h
  have heq:at_=li.idxOf x:=by
   rcases X8 at_ (li.idxOf x) with h2 | h2
   ·
    have:=Qld li x at_ h2;exact absurd h (by omega)
   omega
  refine Qag rfl ?_;rw [<- heq] at hX hxi hXl;clear hca h;refine VQ [1,4,8,9,10] fun K hK=>?_;refine Qbb hH (Qat (bI [false])) (xs:=[.const (.int .i64 0)]) Yc sz3 rfl rfl rfl (by omega) ?_;refine Qs ?_;refine ⟨rfl,by simp [Y2],fun g w4 hH2=>?_⟩;(try refine Qs ?_);refine Qai ?_;refine Qs ?_;refine Qcg (o:=bI (X++Ya at_ true)) (t:=bI [false]) hH2 2 rfl Yc zi3 rfl (Qaq (hH2.at 0 rfl)) (fun h=>by simp [Qbh];omega) fun a' cap' w5 hc' hH3=>?_;simp only [Yg,Yb] at hH3;rw [<- Qcr] at hH3 ⊢;have hH4:=hH3.sub (Yn _ _);clear hH hH2 hH3;(try refine Qs ?_);apply hK;clear hK;have htu:=Qrg li at_ (by omega) (by omega) (some qo) oc w5 (by rw [hlil];exact Qaq (hH4.at 0 rfl));have hml:=Qga (li:=li) (at_:=at_) (by omega);have hmm:=fun k hk=>(Qg2 (li:=li) (at_:=at_) (by omega) k).2 (hli k hk);rw [hlil] at htu hml;generalize Qek li at_=li2 at *;refine VQ [1,4,8,9] fun K hK=>?_;refine MemK_call Tryz.call81 ?_;refine Qs ?_;refine Yr htu ?_;rintro v w6 ⟨oa2,oc2,rfl,hHt⟩;have hH5:=hH4.call0 hHt;simp only [Yp] at hH5;have hH6:=hH5.sub (show List.Sublist [_,_,_] _ from List.Sublist.cons_cons _ (Yn _ _));clear hH4 hHt hH5;(try refine Qs ?_);apply hK;clear hK;refine Qaj ?_;refine VS [1,4,8,9] ?_;refine Qab ?_;refine Qs ?_;refine ⟨np - (i+1),by omega,i+1,cap',oc2,a',oa2,li2,(X++Ya at_ true)++[false],rfl,hH6,hml,hmm,?_,by omega,rfl⟩;rw [<- hX];simp
 obtain rfl:i=np:=by omega
 rw [Y4 (by omega),Qcw,Yh] at hX;subst hX;refine Qag rfl ?_;have hH2:=hH.sub (Yn _ _);clear hH hli hi h;generalize i=np at *;refine VS [1,4,11] ?_;refine Qac ?_;refine Qad [1,4,11] (fun m e w'=>∃ (j c:Nat) (a:Option Addr),Is e [(1,.pointer (some ⟨gp,0,none⟩)),(4,.slice a (bI (X++(T.take j).flatMap Qce)).length c),(11,.int .i64 j)]/\Heap w [] w' [Yd 3 1 a (bI (X++(T.take j).flatMap Qce)).length c (Qat (bI (X++(T.take j).flatMap Qce))),Yl gp 70 (Qam (some qt) nt tc (some qp) np pc)]/\j<=nt/\m=nt - j) nt ?_ ?_
 ·
  refine Qs ?_;refine ⟨0,c,a,?_,?_,by omega,rfl⟩
  ·
   rw [Xx,List.flatMap_nil,Yh];rfl
  rw [Xx,List.flatMap_nil,Yh];exact hH2
 clear hH2;rintro m e w9 ⟨j,c,a,rfl,hH,hj,rfl⟩;have c0:w9.cell? ⟨gp,0,none⟩=some (.slice (some qt) nt tc):=Qah (hH.at 1 rfl) rfl;refine VQ [1,4,11,69] fun K hK=>?_;refine ⟨_,c0,?_⟩;(try refine Qs ?_);(repeat refine Qo ?_);apply hK;clear hK;refine VD (fun h=>?_) (fun h=>?_)
 ·
  have hTi:T[j]? = some (T.getD j []):=by rw [Yi,Ye (by omega)];rfl
  obtain ⟨hh,hhi⟩:∃ hh,hs0[j]? = some hh:=⟨_,Ye (by omega)⟩;have hci:=(hH.rs' hrT).2.2 qt rfl j _ (Qca hhi hTi);obtain ⟨e1,e2,e3⟩:=m5 _ (Ym hTi);have hpu:=QAq (T.getD j []) e3.1 e3.2.1 e3.2.2.1 hh.1 hh.2 w9 (hH.rs' (hrt j hh _ hhi hTi));have hfm:=Qx7 Qce hTi;have hfl:=Qqi Qce 10600 (T.take j) fun t ht=>Qs2 (m5 t (Xt ht)).2.2;have htl:(T.take j).length<=6:=by rw [Y1];omega
  have hdl:=Qs2 e3;generalize T.getD j []=t at *;generalize (T.take j).flatMap Qce=Y at *;generalize Qce t=D at *;refine VC_skip ?_;refine VB ?_;refine VQ [1,4,11,12] fun K hK=>?_;refine ⟨_,c0,?_⟩;(try refine Qs ?_);refine ⟨⟨by omega,by omega⟩,_,hci,?_⟩;(try refine Qs ?_);refine MemK_call Tryz.call82 ?_;refine Qs ?_;refine Yr hpu ?_;rintro v w10 ⟨a2,c2,hHp,rfl⟩;have hH2:=hH.call0 hHp;simp only [Yp] at hH2;clear hH hHp c0 hci;(try refine Qs ?_);apply hK;clear hK;refine VQ [1,4,11] fun K hK=>?_;refine Qai ?_;refine Qs ?_;refine Qcg (o:=bI (X++Y)) (t:=bI D) hH2 1 rfl Yc zi3 (Qbh D).symm (by rw [Qbh];exact Qaq (hH2.at 0 rfl)) (fun h=>by simp [Qbh];omega) fun a' cap' w5 hc' hH3=>?_;simp only [Yg,Yb] at hH3;rw [<- Qcr,Yv] at hH3 ⊢;have hH4:=hH3.sub (Yn _ _);(try refine Qs ?_);apply hK;clear hK;refine Qaj ?_;refine VS [1,4,11] ?_;refine Qab ?_;refine Qs ?_;exact ⟨nt - (j+1),by omega,j+1,cap',a',by rw [hfm];rfl,by rw [hfm];exact hH4,by omega,rfl⟩
 obtain rfl:j=nt:=by omega
 rw [Yo (by omega)] at hH ⊢;rw [Qbh] at hH ⊢;refine Qag rfl ?_;refine VS [2,3] ?_;exact VC_ret (Qav rfl rfl rfl ⟨a,c,hH.sub (by simp),rfl⟩)
set_option maxHeartbeats 4000000
theorem Qh5 (m:Nat) (hm:m<=1000000000) (w:World):Does Yq 83 #[.int .i64 m] w fun v w'=>w'=w/\v=.int .i64 (Qbe m:Nat):=by
 refine En [.int .i64 m] 11 Tryz.func83 ?_;refine VS [0] ?_;refine VS [0,3] ?_;refine VB ?_;refine Qad [0,3] (fun k e w'=>∃ (i:Nat),Is e [(0,.int .i64 m),(3,.int .i64 i)]/\Is w' w/\i<=Qbe m/\k=Qbe m - i) (Qbe m) ?_ ?_
 ·
  refine Qs ?_;exact ⟨0,rfl,rfl,by omega,rfl⟩
 rintro k e w' ⟨i,rfl,rfl,hi,rfl⟩;refine VQ [0,3,7] fun K hK=>?_;have hg:Qbe m<=1000000000:=by unfold Qbe;omega
 refine ⟨Xf (by omega) (by omega),?_⟩;(repeat refine Qo ?_);apply hK;clear hK;refine VD (fun h=>?_) (fun h=>?_)
 ·
  have hlt:i < Qbe m:=by unfold Qbe;omega
  refine VC_skip ?_;refine Qac ?_;refine VS [0,3] ?_;refine Qaj ?_;refine Qab ?_;refine Qs ?_;exact ⟨Qbe m - (i+1),by omega,i+1,rfl,rfl,by omega,rfl⟩
 have he:i=Qbe m:=by unfold Qbe at *;omega
 refine Qag rfl ?_;refine VS [2] ?_;exact VC_ret (VX_ret1 rfl rfl ⟨rfl,by rw [he]⟩)
theorem Qqj (v:Value) (T:List (List Nat)) (P:List Nat) (hm:mayP T P) (list:List Nat) (hl1:1<=list.length) (hls:∀ s∈list,s < (T.getD 0 []).length) (hlg:Qbe list.length<=P.length) (a:Option Addr) (lc:Nat) (w:World) (hp:PlanAt w v T P) (hr:RS w a list.length 1 (Qak list)) :
  Does Yq 50 #[v,.slice a list.length lc] w fun x w'=>∃ a c,Heap w [] w' [Yd 3 1 a (Qe3 T P list 0).length c (Qat (bI (Qe3 T P list 0)))]/\x=.tuple #[.slice a (Qe3 T P list 0).length c,.int .i64 0]:=by
 have hp0:=hp;obtain ⟨ta,tc,pa,pc,hs0,rfl,hsl,hrT,hrP,hrt⟩:=hp;have hm0:=hm;obtain ⟨m1,m2,m3,m4,m5,m6⟩:=hm;have hT0:T[0]? = some (T.getD 0 []):=by rw [Yi,Ye (by omega)];rfl
 have hn0:3<=(T.getD 0 []).length/\(T.getD 0 []).length<=258:=by
  obtain ⟨e1,e2,e3⟩:=m5 _ (Ym hT0);exact ⟨e2,e3.2.1⟩
 have hml:list.length<=1638350:=by unfold Qbe at hlg;omega
 have hFl:=Qjw (T:=T) (P:=P) (c:=20) (fun t ht x hx=>((m5 t ht).2.2.2.2.1 x hx).2) list 0;obtain ⟨qt,rfl⟩:=Qbj hrT (by omega);obtain ⟨qp,rfl⟩:=Qbj hrP (by omega);obtain ⟨ql,rfl⟩:=Qbj hr (by omega);obtain ⟨h0,hh0⟩:∃ h0,hs0[0]? = some h0:=⟨_,Ye (by omega)⟩;have hc0:=hrT.2.2 qt rfl 0 _ (Qca hh0 hT0);have hen:#[Xy #[.slice (some qt) T.length tc,.slice (some qp) P.length pc],.slice (some ql) list.length lc]=[Xy (Qam (some qt) T.length tc (some qp) P.length pc).toArray,.slice (some ql) list.length lc].toArray:=rfl;rw [hen];refine Qdx 79 Tryz.func50 rfl rfl (of_decide_eq_true rfl) ?_;simp only [Env.ofArgs];have hgd:=fun w=>Qh5 list.length (by omega) w;generalize hn:(T.getD 0 []).length=n0 at *;generalize hnt:T.length=nt at *;generalize hnp:P.length=np at *;generalize hnl:list.length=nl at *;refine VQ [1,2] fun K hK=>?_;refine Qch ?_;refine Qs ?_;have hH:=(Y7 w).box 70 (Qam (some qt) nt tc (some qp) np pc);generalize w.alloc (Yy (Qam (some qt) nt tc (some qp) np pc).toArray 70)=w1 at *;generalize w.heap.size=gp at *;apply hK;clear hK;have c1:w1.cell? ⟨gp,1,none⟩=some (.slice (some qp) np pc):=Qah (hH.at 0 rfl) rfl;refine VH w1 (Ext.refl _) [1,2,21] [(0,true),(1,false),(2,true),(3,true),(4,true),(5,true),(7,true),(8,true),(9,true),(6,false),(10,true),(11,true)] fun K hK=>?_;refine ⟨Qam (some qt) nt tc (some qp) np pc,⟨rfl,Qay (hH.at 0 rfl)⟩,?_⟩;(try refine Qs ?_);refine MemK_call Tryz.call80 ?_;refine Qs ?_;refine Yr (Qp4 _ T P hm0 w1 (hp0.keep hH)) ?_;rintro v w2 ⟨hHm,rfl⟩;have hH2:=hH.call0 hHm;simp only [Yx] at hH2;(try refine Qs ?_);refine ⟨hHm.ext,?_⟩;(try refine Qs ?_);rw [Bool.not_true,QPy];refine ⟨_,c1,?_⟩;(try refine Qs ?_);refine MemK_call Ge ?_;refine Qs ?_;refine Yr (hgd w2) ?_;rintro v w3 ⟨rfl,rfl⟩;(try refine Qs ?_);refine ⟨hHm.ext,?_⟩;(try refine Qs ?_)
 suffices out:∀ b:Bool,(b=true ↔ False)->K [(1,.slice (some ql) nl lc),(2,.pointer (some ⟨gp,0,none⟩)),(21,.bool b)] w3 from out _ (by simp;omega)
 intro b hb;apply hK;clear hK;refine Qaf rfl rfl (fun h=>(hb.1 h).elim) (fun h=>VC_skip ?_);clear h hb c1 hHm hH;refine VS [1,2,6] ?_;refine VS [1,2,6,7] ?_;refine VS [1,2,6,7,8] ?_;refine Qac ?_;refine Qad [1,2,6,7,8] (fun m e w'=>∃ (i cap:Nat) (ao:Option Addr) (vs:List Value) (G:List Res),Is e [(1,.slice (some ql) nl lc),(2,.pointer (some ⟨gp,0,none⟩)),(6,.slice none 0 0),(7,.slice ao i cap),(8,.int .i64 i)]/\Heap w [] w' (Yd 68 1 ao i cap vs::Yl gp 70 (Qam (some qt) nt tc (some qp) np pc)::G)/\vs.length=i/\(∀ u∈vs,u.oneCell'=true)/\(∀ (j:Nat) (u:Value) (t:List Nat),vs[j]? = some u->T[j]? = some t->TabG G u t)/\i<=nt/\m=nt - i) nt ?_ ?_
 ·
  refine Qs ?_;exact ⟨0,0,none,[],[],rfl,hH2.nilRow 68 1,rfl,by simp,by simp,by omega,rfl⟩
 clear hH2;rintro m e w' ⟨i,cap,ao,vs,G,rfl,hH,hvl,hv1,hvT,hi,rfl⟩;have c0:w'.cell? ⟨gp,0,none⟩=some (.slice (some qt) nt tc):=Qah (hH.at 1 rfl) rfl;refine VQ [1,2,6,7,8,26] fun K hK=>?_;refine ⟨_,c0,?_⟩;(try refine Qs ?_);(repeat refine Qo ?_);apply hK;clear hK;refine VD (fun h=>?_) (fun h=>?_)
 ·
  have hTi:T[i]? = some (T.getD i []):=by rw [Yi,Ye (by omega)];rfl
  obtain ⟨hh,hhi⟩:∃ hh,hs0[i]? = some hh:=⟨_,Ye (by omega)⟩;have hci:=(hH.rs' hrT).2.2 qt rfl i _ (Qca hhi hTi);obtain ⟨e1,e2,e3⟩:=m5 _ (Ym hTi);have htb:=QAg (T.getD i []) e3 hh.1 hh.2 w' (hH.rs' (hrt i hh _ hhi hTi));generalize ht:T.getD i []=t at *;refine VC_skip ?_;refine VB ?_;refine VQ [1,2,6,7,8] fun K hK=>?_;refine ⟨_,c0,?_⟩;(try refine Qs ?_);refine ⟨⟨by omega,by omega⟩,_,hci,?_⟩;(try refine Qs ?_);refine MemK_call Tryz.call84 ?_;refine Qs ?_;refine Yr htb ?_;rintro v w3 ⟨G',hHt,hTG⟩;have hH2:=(hH.call0 hHt).perm (List.perm_middle.trans (List.Perm.cons _ List.perm_middle));obtain ⟨p,ct,hst,hvs,_⟩:=hTG w3 fun r hr=>hHt.holds r hr;clear hH hHt htb c0 hci;subst hvs;(try refine Qs ?_);refine Qbb hH2 [.slice (some p) t.length ct] (xs:=[.tmp 35]) Um sz68 rfl rfl rfl (by omega) ?_;refine Qs ?_;refine ⟨trivial,by simp [Y2],fun gl w12 hH3=>?_⟩;(try refine Qs ?_);refine Qai ?_;refine Qs ?_;refine Qbn (zs:=#[.slice none 0 0]) (bytes:=24) hH3 1 rfl Um (by kernel_rfl) rfl ⟨rfl,Qaq (hH3.at 0 rfl),68,Um⟩ (by simp [Yt]) (fun h=>by omega) fun a' cap' w13 hc' hH4=>?_;simp only [Yg,Yb] at hH4;have hH5:=hH4.sub (Yn _ _);clear hH2 hH3 hH4;(try refine Qs ?_);apply hK;clear hK;refine Qaj ?_;refine VS [1,2,6,7,8] ?_;refine Qab ?_;refine Qs ?_;refine ⟨nt - (i+1),by omega,i+1,cap',a',vs++[.slice (some p) t.length ct],G'++G,rfl,hH5,by simp [hvl],?_,?_,by omega,rfl⟩
  ·
   intro u hu;rcases List.mem_append.1 hu with hu | hu
   ·
    exact hv1 u hu
   simp at hu;subst hu;rfl
  intro j u t' hu ht';by_cases hj:j < i
  ·
   rw [Y0 (by omega)] at hu;exact (hvT j u t' hu ht').mono fun r hr=>List.mem_append_right _ hr
  have hji:j=i:=by
   have:=(Y8.1 hu).1;simp at this;omega
  subst hji;rw [Yz (by omega),hvl,Xb] at hu;cases hu;rw [hTi] at ht';cases ht';exact hTG.mono fun r hr=>List.mem_append_left _ hr
 obtain rfl:i=nt:=by omega
 clear h hi c0;refine Qag rfl ?_;have hk:=hH.nilRow 3 1;clear hH;generalize i=nt at *;generalize hFull:Qe3 T P list 0=Full at *;refine VS [1,2,6,7,9] ?_;refine Qac ?_;refine Qad [1,2,6,7,9] (fun m e w'=>∃ (i c1:Nat) (a1:Option Addr) (X:List Bool),Is e [(1,.slice (some ql) nl lc),(2,.pointer (some ⟨gp,0,none⟩)),(6,.slice a1 (bI X).length c1),(7,.slice ao nt cap),(9,.int .i64 i)]/\Heap w [] w' (Yd 3 1 a1 (bI X).length c1 (Qat (bI X))::Yd 68 1 ao nt cap vs::Yl gp 70 (Qam (some qt) nt tc (some qp) np pc)::G)/\X++Qe3 T P (list.drop i) i=Full/\i<=nl/\m=nl - i) nl ?_ ?_
 ·
  refine Qs ?_;exact ⟨0,0,none,[],rfl,hk,by rw [Xw,Yx,hFull],by omega,rfl⟩
 clear hk hFull;rintro m e w4 ⟨i,c1,a1,X,rfl,hH,hX,hi,rfl⟩;refine VS [1,2,6,7,9,41] ?_;refine VD (fun h=>?_) (fun h=>?_)
 ·
  have c0:w4.cell? ⟨gp,0,none⟩=some (.slice (some qt) nt tc):=Qah (hH.at 2 rfl) rfl;have c1':w4.cell? ⟨gp,1,none⟩=some (.slice (some qp) np pc):=Qah (hH.at 2 rfl) rfl;have hc02:=(hH.rs' hrT).2.2 qt rfl 0 _ (Qca hh0 hT0);rw [hn] at hc02;have hcl:=Qbr (hH.rs' hr) (i:=i) (by omega);have hsl2:=hls _ (Qa3 0 (l:=list) (i:=i) (by omega));have hdl:list.drop i=list.getD i 0::list.drop (i+1):=drop_getD 0 (by omega);rw [hdl,Qe3] at hX;generalize list.getD i 0=s at *;have hjn:i / 50 < np:=by unfold Qbe at hlg;omega
  have hcp:=Qbr (hH.rs' hrP) (i:=i / 50) (by omega);have hlt:=m6 _ (Qa3 0 (l:=P) (i:=i / 50) (by omega));generalize P.getD (i / 50) 0=x at *;have hTx:T[x]? = some (T.getD x []):=by rw [Yi,Ye (by omega)];rfl
  obtain ⟨e1,e2,e3⟩:=m5 _ (Ym hTx);obtain ⟨u,hu⟩:∃ u,vs[x]? = some u:=⟨_,Ye (by omega)⟩;obtain ⟨pt,ct,ht,rfl,hrTb,hrW⟩:=hvT x u _ hu hTx w4 fun r hr=>hH.holds r (by simp [hr]);obtain ⟨po,rfl⟩:=Qbj (Qaq (hH.at 1 rfl)) (by omega);have hcu:=(Qaq (hH.at 1 rfl)).2.2 po rfl x _ hu;have hst:s < (T.getD x []).length:=by omega
  have hcw:=hrTb.2.2 pt rfl s (.slice (some (ht s)) ((T.getD x []).getD s 0) ((T.getD x []).getD s 0)) (by rw [Yw,Yu hst];rfl);have hrw:=hrW s hst;have hwl:=Qwz (T.getD x []) s
  have hXl:X.length+(Qib (T.getD x []) s).length<=40000000:=by
   have:=congrArg Ud hX;simp only [Yk] at this;omega
  generalize Qib (T.getD x []) s=W at *;generalize T.getD x []=t at *;rw [<- hwl] at hcw hrw;have hdi:(i:Int) / 50=((i / 50:Nat):Int):=by omega
  refine VC_skip ?_;refine VB ?_;refine Vq [1,2,6,7,9,60] fun K hK=>?_
  suffices out:∀ b:Bool,(b=true ↔ False)->K [(1,.slice (some ql) nl lc),(2,.pointer (some ⟨gp,0,none⟩)),(6,.slice a1 (bI X).length c1),(7,.slice (some po) nt cap),(9,.int .i64 i),(60,.bool b)] by
   refine ⟨⟨by omega,by omega⟩,_,hcl,?_⟩;(try refine Qs ?_);refine ⟨fun h3=>?_,fun h3=>by omega⟩;refine ⟨⟨by omega,by omega⟩,_,hcl,_,c0,?_⟩;(try refine Qs ?_);refine ⟨⟨by omega,by omega⟩,_,hc02,?_⟩;(try refine Qs ?_);exact out _ (by simp;omega)
  intro b hb;apply hK;clear hK;refine Qaf rfl rfl (fun h=>(hb.1 h).elim) (fun h=>VC_skip ?_);clear hb h hc02 c0;refine VL [1,2,6,7,9] 16 fun K hK=>?_;refine ⟨_,c1',by omega,by decide,Xf (by omega) (by omega),?_⟩;rw [hdi];(try refine Qs ?_);refine ⟨⟨by omega,by omega⟩,_,hcp,?_⟩;(try refine Qs ?_);refine ⟨⟨by omega,by omega⟩,_,hcu,?_⟩;(try refine Qs ?_);refine ⟨⟨by omega,by omega⟩,_,hcl,?_⟩;(try refine Qs ?_);refine ⟨⟨by omega,by omega⟩,_,hcw,?_⟩;(try refine Qs ?_);refine Qai ?_;refine Qs ?_;refine Qcg (o:=bI X) (t:=bI W) hH 0 rfl Yc zi3 (Qbh W).symm (by rw [Qbh];exact hrw) (fun h=>by simp [Qbh];omega) fun a' cap' w5 hc' hH3=>?_;simp only [Yb] at hH3;rw [<- Qcr] at hH3 ⊢;(try refine Qs ?_);apply hK;clear hK;refine Qaj ?_;refine VS [1,2,6,7,9] ?_;refine Qab ?_;refine Qs ?_;exact ⟨nl - (i+1),by omega,i+1,cap',a',X++W,rfl,hH3,by rw [Yv];exact hX,by omega,rfl⟩
 obtain rfl:i=nl:=by omega
 rw [Y4 (by omega),Qe3,Yh] at hX;subst hX;rw [Qbh] at hH ⊢;refine Qag rfl ?_;refine VS [4,5] ?_;exact VC_ret (Qav rfl rfl rfl ⟨a1,c1,hH.sub (by simp),rfl⟩)
set_option maxHeartbeats 2000000
theorem Qs3 (l:List Nat) (hl:2<=l.length) (hl2:l.length<=258) (hx:∀ x∈l,x<=1073741824) (a:Option Addr) (lc:Nat) (w:World) (hr:RS w a l.length 1 (Qak l)) :
  Does Yq 137 #[.slice a l.length lc] w fun v w'=>w'=w/\v=.bool true:=by
 obtain ⟨p,rfl⟩:=Qbj hr (by omega);refine En [.slice (some p) l.length lc] 30 Tryz.func137 ?_;refine VS [0] ?_;refine VS [0,3] ?_;refine Qac ?_;refine Qad [0,3] (fun m e w'=>∃ (i:Nat),Is e [(0,.slice (some p) l.length lc),(3,.int .i64 i)]/\Is w' w/\i<=l.length/\m=l.length - i) l.length ?_ ?_
 ·
  refine Qs ?_;exact ⟨0,rfl,rfl,by omega,rfl⟩
 rintro m e w' ⟨i,rfl,rfl,hi,rfl⟩;refine VS [0,3,7] ?_;refine VD (fun h=>?_) (fun h=>?_)
 ·
  have hcell:=Qbr hr (i:=i) (by omega);have hxi:=hx _ (Qa3 0 (l:=l) (i:=i) (by omega));generalize l.getD i 0=x at *;refine VC_skip ?_;refine VB ?_;refine VQ [0,3,21] fun K hK=>?_;refine ⟨⟨by omega,by omega⟩,_,hcell,?_⟩;(try refine Qs ?_);refine ⟨fun h3=>?_,fun h3=>by omega⟩;refine ⟨⟨by omega,by omega⟩,_,hcell,?_⟩;(try refine Qs ?_);rw [decide_eq_false (by omega)];apply hK;clear hK;refine Qaf rfl rfl (fun h=>by simp at h) (fun h=>VC_skip ?_);refine Qaj ?_;refine VS [0,3] ?_;refine Qab ?_;refine Qs ?_;exact ⟨l.length - (i+1),by omega,i+1,rfl,rfl,by omega,rfl⟩
 refine Qag rfl ?_;refine VQ [2] fun K hK=>?_
 suffices out:K [(2,.bool true)] w' by
  refine ⟨fun h3=>?_,fun h3=>absurd h3 (by omega)⟩;rw [decide_eq_true (by omega)];exact out
 apply hK;clear hK;exact VC_ret (VX_ret1 rfl rfl ⟨rfl,rfl⟩)
def atI (o:Option Nat):Int:=match o with | none=>-1 | some a=>a
theorem Qqk (ws ov:List Nat) (hl:ov.length=ws.length) (hs:ws.length<=1000000) (hf:∃ i,i < ws.length/\ov.getD i 0=0) (pa po:Option Addr) (ca co:Nat) (w:World) (hw:RS w pa ws.length 1 (Qak ws)) (ho:RS w po ws.length 1 (Qak ov)) :
  Does Yq 161 #[.slice pa ws.length ca,.slice po ws.length co] w fun v w'=>w'=w/\v=.int .i64 (Qdp ws ov:Nat):=by
 obtain ⟨i0,hi0,hf0⟩:=hf;obtain ⟨p,rfl⟩:=Qbj hw (by omega);obtain ⟨q,rfl⟩:=Qbj ho (by omega)
 have hS:((Qdp ws ov:Nat):Int)=atI (Qgp ws ov ws.length):=by
  unfold Qdp;cases hL:Qgp ws ov ws.length with
  | none=>exact absurd hf0 (Qis ws ov _ hL i0 hi0)
  | some a=>rfl
 rw [hS];generalize hn:ws.length=n at *;refine En [.slice (some p) n ca,.slice (some q) n co] 35 Tryz.func161 ?_;refine VS [0,1] ?_;refine VS [0,1,5] ?_;refine VS [0,1,5,6] ?_;refine Qac ?_;refine Qad [0,1,5,6] (fun m e w'=>∃ (i:Nat),Is e [(0,.slice (some p) n ca),(1,.slice (some q) n co),(5,.int .i64 (atI (Qgp ws ov i))),(6,.int .i64 i)]/\Is w' w/\i<=n/\m=n - i) n ?_ ?_
 ·
  refine Qs ?_;exact ⟨0,rfl,rfl,by omega,rfl⟩
 rintro m e w' ⟨i,rfl,rfl,hi,rfl⟩;refine VS [0,1,5,6,10] ?_;refine VD (fun h=>?_) (fun h=>?_)
 ·
  have hcw:=Qbr hw (i:=i) (by omega);have hco:=Qbr ho (i:=i) (by omega)
  have hst:Qgp ws ov (i+1)=match Qgp ws ov i with
   | none=>if ov.getD i 0=0 then some i else none
   | some a=>if ov.getD i 0=0/\ws.getD i 0 < ws.getD a 0 then some i else some a:=rfl
  have hsm:=fun a=>Qk3 ws ov i a;generalize Qgp ws ov i=L at *;refine VC_skip ?_;refine VB ?_;refine Vq [0,1,5,6,32] fun K hK=>?_;refine ⟨⟨by omega,by omega⟩,_,hco,?_⟩;(try refine Qs ?_)
  suffices out:∀ b:Bool,(Qgp ws ov (i+1)=if b=true then some i else L)->K [(0,.slice (some p) n ca),(1,.slice (some q) n co),(5,.int .i64 (atI L)),(6,.int .i64 i),(32,.bool b)] by
   refine ⟨fun h3=>?_,fun h3=>out _ ?_⟩
   ·
    cases L with
    | none =>
     refine ⟨fun h4=>?_,fun h4=>out _ ?_⟩
     ·
      exact absurd (show ((-1:Int) < 0) by decide) h4
     rw [hst];simp only;rw [if_pos (by omega)];simp
    | some a =>
     obtain ⟨a1,a2,_⟩:=hsm a rfl;have hca:=Qbr hw (i:=a) (by omega);refine ⟨fun h4=>?_,fun h4=>?_⟩
     ·
      simp only [atI] at h4 ⊢;refine ⟨⟨by omega,by omega⟩,_,hcw,⟨by omega,by omega⟩,_,hca,?_⟩;(try refine Qs ?_);refine out _ ?_;rw [hst];simp only;by_cases hlt:ws.getD i 0 < ws.getD a 0
      ·
       rw [if_pos ⟨by omega,hlt⟩,if_pos (decide_eq_true (by omega))]
      rw [if_neg (by omega),if_neg (by rw [decide_eq_true_eq];omega)]
     exact absurd h4 (by simp only [atI];omega)
   rw [hst];cases L with
   | none=>simp only;rw [if_neg (by omega),if_neg (by simp)]
   | some a=>simp only;rw [if_neg (by omega),if_neg (by simp)]
  intro b hb;apply hK;clear hK;refine Vi (fun h=>?_) (fun h=>?_)
  ·
   rw [if_pos h] at hb;refine VS [0,1,5,6] ?_;refine Qaj ?_;refine VS [0,1,5,6] ?_;refine Qab ?_;refine Qs ?_;exact ⟨n - (i+1),by omega,i+1,by rw [hb];rfl,rfl,by omega,rfl⟩
  rw [if_neg (by simp [h])] at hb;refine VC_skip ?_;refine Qaj ?_;refine VS [0,1,5,6] ?_;refine Qab ?_;refine Qs ?_;exact ⟨n - (i+1),by omega,i+1,by rw [hb];rfl,rfl,by omega,rfl⟩
 obtain rfl:i=n:=by omega
 refine Qag rfl ?_;refine VS [4] ?_;exact VC_ret (VX_ret1 rfl rfl ⟨rfl,rfl⟩)
theorem Qrn (l:List Nat) (hl:0 < l.length) (hs:l.length<=1000000000) (a:Option Addr) (lc:Nat) (w:World) (hr:RS w a l.length 1 (Qak l)) :
  Does Yq 139 #[.slice a l.length lc] w fun v w'=>w'=w/\v=.int .i64 (maxL l:Nat):=by
 obtain ⟨p,rfl⟩:=Qbj hr (by omega);refine En [.slice (some p) l.length lc] 21 Tryz.func139 ?_;have h0:=Qbr hr (i:=0) hl;refine VS [0] ?_;refine VQ [0,3] fun K hK=>?_;refine ⟨by omega,_,h0,?_⟩;(try refine Qs ?_);apply hK;clear hK;refine VS [0,3,4] ?_;refine Qac ?_;refine Qad [0,3,4] (fun m e w'=>∃ (i:Nat),Is e [(0,.slice (some p) l.length lc),(3,.int .i64 (max (l.getD 0 0) (maxL (l.take i)):Nat)),(4,.int .i64 i)]/\Is w' w/\i<=l.length/\m=l.length - i) l.length ?_ ?_
 ·
  refine Qs ?_;exact ⟨0,by rw [show max (l.getD 0 0) (maxL (l.take 0))=l.getD 0 0 by simp [maxL]];rfl,rfl,by omega,rfl⟩
 rintro m e w' ⟨i,rfl,rfl,hi,rfl⟩;refine VS [0,3,4,11] ?_;refine VD (fun h=>?_) (fun h=>?_)
 ·
  have hcell:=Qbr hr (i:=i) (by omega);have hmx:=Qh4 (l:=l) (i:=i) (by omega);refine VC_skip ?_;refine VB ?_;refine VQ [0,3,4] fun K hK=>?_;refine ⟨⟨by omega,by omega⟩,_,hcell,?_⟩;(try refine Qs ?_);rw [show max ((max (l.getD 0 0) (maxL (l.take i)):Nat):Int) ((l.getD i 0:Nat):Int)=((max (l.getD 0 0) (maxL (l.take (i+1))):Nat):Int) by rw [hmx];omega];(repeat refine Qo ?_);apply hK;clear hK;refine Qaj ?_;refine VS [0,3,4] ?_;refine Qab ?_;refine Qs ?_;exact ⟨l.length - (i+1),by omega,i+1,rfl,rfl,by omega,rfl⟩
 obtain rfl:i=l.length:=by omega
 refine Qag rfl ?_;have h2:l.getD 0 0<=maxL l:=Qit.1 (Ug _) _ (Qa3 0 hl);refine VS [2] ?_;refine VC_ret (VX_ret1 rfl rfl ⟨rfl,?_⟩);rw [List.take_length,Nat.max_eq_right h2]
set_option maxHeartbeats 4000000
theorem Qhl {l:List Nat}{i x:Nat} (h:i < l.length):(Qak l).take i++[.int .i64 (x:Int)]++(Qak l).drop (i+[Xe .i64 (x:Int)].length)=Qak (l.set i x):=by
 rw [Yj,Qcb (Qak l) _ _ (by rw [Qal];exact h),Qck]
theorem QEx (k:Nat) (s:List Nat×List Nat):Qjq (k+1) s=Qgu (Qjq k s):=rfl
theorem QH7 {w:List Nat}{k:Nat}{ws ov:List Nat}{h:Nat->Nat} (g:Grown w k ws ov h) {i j:Nat} (hi:i < w.length+k) (hj:j < w.length+k) (hij:i≠j) (h1:ov.getD i 0=0) (h2:ov.getD j 0=0):ws.getD i 0+ws.getD j 0<=Qb3 (fun i=>w.getD i 0) w.length:=by
 rw [<- g.weight];have:=Qwp (f:=fun i=>if ov.getD i 0=0 then ws.getD i 0 else 0) hi hj hij;simp only [h1,h2,if_true] at this;exact this
theorem Qql (l:List Nat) (hl:2<=l.length) (hl2:l.length<=258) (hx:∀ x∈l,1<=x/\x<=2147483648) (pa:Option Addr) (lc:Nat) (w:World) (hr:RS w pa l.length 1 (Qak l)) :
  Does Yq 138 #[.slice pa l.length lc] w fun v w'=>∃ a cap,Heap w [] w' [Yd 3 1 a (Qco l).length cap (Qak (Qco l))]/\v=.slice a (Qco l).length cap:=by
 obtain ⟨p,rfl⟩:=Qbj hr (by omega);have hget:∀ i,i < l.length->1<=l.getD i 0/\l.getD i 0<=2147483648:=fun i hi=>hx _ (Qa3 0 hi)
 have htot:Qb3 (fun i=>l.getD i 0) l.length<=1099511627776:=by
  have:=Qol (fun i=>l.getD i 0) 2147483648 l.length fun i hi=>(hget i hi).2;omega
 have hinv:=Qlx l fun i hi=>(hget i hi).1;refine En [.slice (some p) l.length lc] 81 Tryz.func138 ?_;refine VS [0] ?_;have hH0:=Y7 w;refine VQ [0,3] fun K hK=>?_;refine Qbb hH0 (Qak []) (xs:=[]) Yc sz3 rfl rfl rfl (by omega) ?_;refine Qs ?_;refine ⟨rfl,by simp [Y2],fun g w4 hH=>?_⟩;(try refine Qs ?_);refine Qai ?_;refine Qs ?_;refine Qbn (zs:=#[.int .i64 0]) (bytes:=8) hH 0 rfl Yc (by kernel_rfl) rfl (Qkd (hH.rs' hr) Yc) (Qdc _) (fun h=>by omega) fun a' cap' w5 hc' hH2=>?_;simp only [Yb,Qak,List.map_nil,Yx,Xo] at hH2;change Heap w [] w5 [Yd 3 1 a' l.length cap' (Qak l)] at hH2;rw [Xo];clear hH hH0 hc';(try refine Qs ?_);apply hK;clear hK;refine VQ [0,3,4] fun K hK=>?_;refine Qbi Yc zi3 ?_;refine Qs ?_;refine ⟨l.length,l.length,⟨rfl,rfl,by omega,by omega,by omega⟩,?_⟩;have hH3:=hH2.row 3 (n:=l.length) (cap:=l.length) (sz:=1) (Qak (Ya l.length 0)) [] (by simp [Qal]) (by simp [Qal]) (by omega) (by omega);rw [Yh,Qbs] at hH3;generalize w5.alloc (Yy (Ya l.length (Xe Xd 0)).toArray 3)=w6 at *;generalize w5.heap.size=go at *;rw [<- Qbs] at hH3;clear hH2;(try refine Qs ?_);apply hK;clear hK;refine VS [0,3,4,5] ?_;refine Qac ?_;refine Qad [0,3,4,5] (fun m e w'=>∃ (k cw co:Nat) (aw ao:Option Addr),Is e [(0,.slice (some p) l.length lc),(3,.slice aw (l.length+k) cw),(4,.slice ao (l.length+k) co),(5,.int .i64 (k+1:Nat))]/\Heap w [] w' [Yd 3 1 ao (l.length+k) co (Qak (Qjq k (l,Ya l.length 0)).2),Yd 3 1 aw (l.length+k) cw (Qak (Qjq k (l,Ya l.length 0)).1)]/\k+1<=l.length/\m=l.length - (k+1)) (l.length - 1) ?_ ?_
 ·
  refine Qs ?_;exact ⟨0,cap',l.length,a',_,rfl,hH3,by omega,rfl⟩
 clear hH3;rintro m e w' ⟨k,cw,co,aw,ao,rfl,hH,hk,rfl⟩;obtain ⟨hf,hg⟩:=hinv k hk;have hlw:=hg.lws;have hlo:=hg.lov;refine VS [0,3,4,5,21] ?_;refine VD (fun h=>?_) (fun h=>?_)
 ·
  have hk1:k+1 < l.length:=by omega
  have hsu:=QEx k (l,Ya l.length 0);obtain ⟨ha,hb,hne,hbf⟩:=hg.pick hk1;have hsb:=fun i j hi hj hij h1 h2=>QH7 hg (i:=i) (j:=j) hi hj hij h1 h2;generalize hS2:Qjq (k+1) (l,Ya l.length 0)=S2 at *;generalize Qjq k (l,Ya l.length 0)=S at *;obtain ⟨ws,ov⟩:=S;simp only at ha hb hne hbf hlw hlo hH hsb;unfold Qgu at hsu;simp only at hsu;have hla:=fun w3=>Qqk ws ov (by omega) (by omega) ⟨_,ha.lt,ha.free⟩ aw ao cw co w3;have hlb:=fun w3=>Qqk ws (ov.set (Qdp ws ov) ws.length) (by rw [Xc];omega) (by omega) ⟨_,hb.lt,hb.free⟩ aw ao cw co w3;generalize hA:Qdp ws ov=A at *;generalize hB:Qdp ws (ov.set A ws.length)=B at *;have ha1:=ha.lt;have hb1:=hb.lt;have hsm:=hsb A B (by omega) (by omega) (Ne.symm hne) ha.free hbf;rw [hlw] at hla hlb hsu hb;refine VC_skip ?_;refine VB ?_;refine VS [0,3,4,5,6] ?_;refine VQ [0,3,4,5,6,7] fun K hK=>?_;refine MemK_call Tryz.call161 ?_;refine Qs ?_;refine Yr (hla w' (Qaq (hH.at 1 rfl)) (Qaq (hH.at 0 rfl))) ?_;rintro v w2 ⟨rfl,rfl⟩;(try refine Qs ?_);(repeat refine Qo ?_);apply hK;clear hK;obtain ⟨g,rfl⟩:=Qc1 (hH.at 0 rfl) (by omega);obtain ⟨gw,rfl⟩:=Qc1 (hH.at 1 rfl) (by omega);refine VQ [0,3,4,5,6,7] fun K hK=>?_;refine Qp ?_;refine Qaa ?_;refine Qs ?_;refine Qaz hH 0 (o:=A) (vs:=[.int .i64 (l.length+k:Nat)]) rfl (by simp [Qbg]) rfl (by kernel_rfl) (by simp only [Yj,Qal];omega) (by simp [Yt]) fun w4 hH2=>?_;simp only [Yb] at hH2;rw [Qhl (by omega)] at hH2;clear hH;(try refine Qs ?_);apply hK;clear hK;refine VQ [0,3,4,5,6,7,8] fun K hK=>?_;refine MemK_call Tryz.call161 ?_;refine Qs ?_;refine Yr (hlb w4 (Qaq (hH2.at 1 rfl)) (Qaq (hH2.at 0 rfl))) ?_;rintro v w5 ⟨rfl,rfl⟩;(try refine Qs ?_);(repeat refine Qo ?_);apply hK;clear hK;refine VQ [0,3,4,5,7,8] fun K hK=>?_;refine Qp ?_;refine Qaa ?_;refine Qs ?_;refine Qaz hH2 0 (o:=B) (vs:=[.int .i64 (l.length+k:Nat)]) rfl (by simp [Qbg]) rfl (by kernel_rfl) (by simp only [Yj,Qal,Xc];omega) (by simp [Yt]) fun w6 hH3=>?_;simp only [Yb] at hH3;rw [Qhl (by rw [Xc];omega)] at hH3;clear hH2 hla hlb;(try refine Qs ?_);apply hK;clear hK;have cA:=Qa1 (hH3.at 1 rfl) (Qb4 (l:=ws) (i:=A) (by omega));have cB:=Qa1 (hH3.at 1 rfl) (Qb4 (l:=ws) (i:=B) (by omega));refine V3 (bare w6) (Qll _ _) [0,3,4,5] (.two [(0,true),(1,true),(2,true),(3,true),(5,true),(6,true),(7,true)] 4 8 (.seq [(8,false),(9,true),(10,false),(11,false),(12,true)]) (.seq [(4,false),(9,true),(10,false),(11,false),(12,true)])) fun K hK=>?_
  suffices out:∀ aw' cw' w7,Heap w [] w7 [Yd 3 1 (some ⟨g,0,none⟩) (l.length+k) co (Qak ((ov.set A (l.length+k)).set B (l.length+k))),Yd 3 1 aw' (l.length+k+1) cw' (Qak (ws++[ws.getD A 0+ws.getD B 0]))]->K [(0,.slice (some p) l.length lc),(3,.slice aw' (l.length+k+1) cw'),(4,.slice (some ⟨g,0,none⟩) (l.length+k) co),(5,.int .i64 (k+1:Nat))] w7 by
   generalize ws.getD A 0=xa at *;generalize ws.getD B 0=xb at *;simp only [vcT3,Qbd,List.filterMap_cons,List.filterMap_nil,List.getElem?_cons_succ,List.getElem?_cons_zero,Option.map_some];refine Qs ?_;simp only [Qau];(try refine Qs ?_);refine ⟨⟨by omega,by omega⟩,⟨by omega,by omega⟩,?_,?_⟩
   ·
    refine ⟨_,cA,_,cB,?_⟩;(try refine Qs ?_);refine ⟨Xf (by omega) (by omega),?_⟩;(try simp only [Qau]);(try refine Qs ?_);refine Qbb hH3 (Qak [xa+xb]) (xs:=[.tmp 49]) Yc sz3 rfl rfl rfl (by omega) ?_;refine Qs ?_;refine ⟨rfl,by simp [Y2],fun g w4 hH4=>?_⟩;(try refine Qs ?_);(try simp only [Qau]);(try refine Qs ?_);refine Qai ?_;refine Qs ?_;refine Qbn (zs:=#[.int .i64 0]) (bytes:=8) hH4 2 rfl Yc (by kernel_rfl) rfl ⟨rfl,Qaq (hH4.at 0 rfl),3,Yc⟩ (Qdc _) (fun h=>by omega) fun a' cap' w12 hc' hH5=>?_;simp only [Yg,Yb] at hH5;(try refine Qs ?_);(try simp only [Qau]);(try refine Qs ?_);refine out a' cap' w12 ?_;rw [Qcy];exact hH5.sub (Yn _ _)
   refine ⟨_,cB,_,cA,?_⟩;(try refine Qs ?_);refine ⟨Xf (by omega) (by omega),?_⟩;(try simp only [Qau]);(try refine Qs ?_);refine Qbb hH3 (Qak [xa+xb]) (xs:=[.tmp 49]) Yc sz3 rfl rfl rfl (by omega) ?_;refine Qs ?_;refine ⟨rfl,by simp [Y2],fun g w4 hH4=>?_⟩;(try refine Qs ?_);(try simp only [Qau]);(try refine Qs ?_);refine Qai ?_;refine Qs ?_;refine Qbn (zs:=#[.int .i64 0]) (bytes:=8) hH4 2 rfl Yc (by kernel_rfl) rfl ⟨rfl,Qaq (hH4.at 0 rfl),3,Yc⟩ (Qdc _) (fun h=>by omega) fun a' cap' w12 hc' hH5=>?_;simp only [Yg,Yb] at hH5;(try refine Qs ?_);(try simp only [Qau]);(try refine Qs ?_);refine out a' cap' w12 ?_;rw [Qcy];exact hH5.sub (Yn _ _)
  intro aw' cw' w7 hH4;apply hK;clear hK;clear cA cB hH3;refine VQ [0,3,4,5] fun K hK=>?_;refine Qbb hH4 (Qak [0]) (xs:=[.const (.int .i64 0)]) Yc sz3 rfl rfl rfl (by omega) ?_;refine Qs ?_;refine ⟨rfl,by simp [Y2],fun g w4 hH5=>?_⟩;(try refine Qs ?_);refine Qai ?_;refine Qs ?_;refine Qbn (zs:=#[.int .i64 0]) (bytes:=8) hH5 1 rfl Yc (by kernel_rfl) rfl ⟨rfl,Qaq (hH5.at 0 rfl),3,Yc⟩ (Qdc _) (fun h=>by omega) fun a' cap' w12 hc' hH6=>?_;simp only [Yg,Yb] at hH6;rw [<- Qcy] at hH6;have hH7:=hH6.sub (Yn _ _);(try refine Qs ?_);apply hK;clear hK;refine Qaj ?_;refine VS [0,3,4,5] ?_;refine Qab ?_;refine Qs ?_;refine ⟨l.length - (k+1+1),by omega,k+1,cw',cap',aw',a',?_,?_,by omega,rfl⟩
  ·
   push_cast;rfl
  rw [hS2,hsu];exact hH7
 have hk2:k=l.length - 1:=by omega
 have hov:(Qjq k (l,Ya l.length 0)).2=Qrc l:=by rw [hk2];rfl
 rw [hov] at hH hg hlo;have hkl:l.length+k=2 * l.length - 1:=by omega
 clear hlw hinv;generalize (Qjq k (l,Ya l.length 0)).1=ws at *;have hgl:=Qfu l;have hup:=hg.up;generalize hO:Qrc l=ov at *;refine Qag rfl ?_;refine VQ [0,4,9] fun K hK=>?_;refine Qbi Yc zi3 ?_;refine Qs ?_;refine ⟨l.length,l.length,⟨rfl,rfl,by omega,by omega,by omega⟩,?_⟩;have hH3:=hH.row 3 (n:=l.length) (cap:=l.length) (sz:=1) (Qak (Ya l.length 0)) [] (by simp [Qal]) (by simp [Qal]) (by omega) (by omega);rw [Yh,Qbs] at hH3;generalize w'.alloc (Yy (Ya l.length (Xe Xd 0)).toArray 3)=w6 at *;generalize w'.heap.size=g at *;rw [<- Qbs] at hH3;clear hH;(try refine Qs ?_);apply hK;clear hK;refine VS [0,4,9,10] ?_;refine Qac ?_;refine Qad [0,4,9,10] (fun m e w'=>∃ (i:Nat),Is e [(0,.slice (some p) l.length lc),(4,.slice ao (l.length+k) co),(9,.slice (some ⟨g,0,none⟩) l.length l.length),(10,.int .i64 i)]/\Heap w [] w' [Yd 3 1 (some ⟨g,0,none⟩) l.length l.length (Qak ((Qco l).take i++Ya (l.length - i) 0)),Yd 3 1 ao (l.length+k) co (Qak ov)]/\i<=l.length/\m=l.length - i) l.length ?_ ?_
 ·
  refine Qs ?_;exact ⟨0,rfl,hH3.sub (by simp),by omega,rfl⟩
 clear hH3;rintro m e w7 ⟨i,rfl,hH,hi,rfl⟩;refine VS [0,4,9,10,61] ?_;refine VD (fun h=>?_) (fun h=>?_)
 ·
  obtain ⟨qo,rfl⟩:=Qbj (Qaq (hH.at 1 rfl)) (by omega);have hcell:=Qbr (Qaq (hH.at 1 rfl)) (show i < ov.length by omega)
  have hgi:(Qco l).getD i 0=Qb7 ov (2 * l.length) i:=by
   rw [Qco,Qpy _ _ _ _ (by omega),hO]
  have hset:=fun d=>Qjy ((Qco l).take i) 0 d (show i < l.length by omega) (by rw [Y1];omega);have htk:=Qb2 0 (l:=Qco l) (i:=i) (by omega);have hDl:((Qco l).take i++Ya (l.length - i) 0).length=l.length:=by rw [Yk,Y1,Xj];omega
  have hD0:((Qco l).take i++Ya (l.length - i) 0).set i 0=(Qco l).take i++Ya (l.length - i) 0:=by
   rw [hset,Yv]
   congr 1
   rw [show l.length - i=(l.length - (i+1))+1 by omega,Xv];rfl
  have hfin:=hset ((Qco l).getD i 0);rw [<- htk,hgi] at hfin;rw [<- hD0] at hH;generalize (Qco l).take i++Ya (l.length - i) 0=D0 at *;have hdep:=fun y hy h0=>hg.dep (2 * l.length) (by omega) (i:=y) hy h0;refine VC_skip ?_;refine VB ?_;refine VQ [0,4,9,10,11] fun K hK=>?_;refine ⟨⟨by omega,by omega⟩,_,hcell,?_⟩;(try refine Qs ?_);apply hK;clear hK;clear hcell;refine Qac ?_;refine Qad [0,4,9,10,11] (fun m e w'=>∃ (y d:Nat),Is e [(0,.slice (some p) l.length lc),(4,.slice (some qo) (l.length+k) co),(9,.slice (some ⟨g,0,none⟩) l.length l.length),(10,.int .i64 i),(11,.int .i64 (ov.getD y 0:Nat))]/\Heap w [] w' [Yd 3 1 (some ⟨g,0,none⟩) l.length l.length (Qak (D0.set i d)),Yd 3 1 (some qo) (l.length+k) co (Qak ov)]/\y < l.length+k/\d<=y/\d+Qb7 ov (2 * l.length) y=Qb7 ov (2 * l.length) i/\m=l.length+k - y) (l.length+k - i) ?_ ?_
  ·
   refine Qs ?_;exact ⟨i,0,rfl,hH,by omega,by omega,by omega,rfl⟩
  clear hH;rintro m e w8 ⟨y,d,rfl,hH,hy,hdy,hdd,rfl⟩;have hcx:=hup y hy;have hdy2:=hdep y hy;generalize hx:ov.getD y 0=x at *;refine VS [0,4,9,10,11,69] ?_;refine VD (fun h=>?_) (fun h=>?_)
  ·
   have hx0:x≠0:=by omega
   have hdy2:=hdy2 hx0;refine VC_skip ?_;refine Qac ?_;have hci:=Qa1 (hH.at 0 rfl) (Qb4 (l:=D0.set i d) (i:=i) (by rw [Xc];omega));rw [Qc8 (by omega)] at hci;refine VQ [0,4,9,10,11] fun K hK=>?_;refine ⟨⟨by omega,by omega⟩,_,hci,?_⟩;(try refine Qs ?_);refine ⟨Xf (by omega) (by omega),⟨by omega,by omega⟩,?_⟩;rw [show ((d:Int)+1)=((d+1:Nat):Int) by push_cast;rfl];refine Qaa ?_;refine Qs ?_;refine Qaz hH 0 (o:=i) (vs:=[.int .i64 (d+1:Nat)]) rfl (by simp [Qbg]) rfl (by kernel_rfl) (by simp only [Yj,Qal,Xc];omega) (by simp [Yt]) fun w9 hH2=>?_;simp only [Yb] at hH2;rw [Qhl (by rw [Xc];omega),Uu] at hH2;(try refine Qs ?_);apply hK;clear hK;have hcx2:=Qbr (Qaq (hH2.at 1 rfl)) (show x < ov.length by omega);refine VQ [0,4,9,10,11] fun K hK=>?_;refine ⟨⟨by omega,by omega⟩,_,hcx2,?_⟩;(try refine Qs ?_);apply hK;clear hK;refine Qaj ?_;refine Qab ?_;refine Qs ?_;exact ⟨l.length+k - x,by omega,x,d+1,rfl,hH2,by omega,by omega,by omega,rfl⟩
  have hx0:x=0:=by omega
  have hz:Qb7 ov (2 * l.length) y=0:=by
   obtain ⟨f,hf⟩:∃ f,2 * l.length=f+1:=⟨2 * l.length - 1,by omega⟩;rw [hf,Qb7,hx,if_pos hx0]
  have hd:d=Qb7 ov (2 * l.length) i:=by omega
  rw [hd,hfin] at hH;refine Qag rfl ?_;refine Qaj ?_;refine VS [0,4,9,10] ?_;refine Qab ?_;refine Qs ?_;exact ⟨l.length - (i+1),by omega,i+1,rfl,hH,by omega,rfl⟩
 obtain rfl:i=l.length:=by omega
 rw [Xb,Y3,Yh,Yo (by omega)] at hH;refine Qag rfl ?_;refine VS [2] ?_;exact VC_ret (VX_ret1 rfl rfl ⟨some ⟨g,0,none⟩,(Qco l).length,by rw [hgl];exact hH.sub (by simp),by rw [hgl]⟩)
set_option maxHeartbeats 4000000
theorem QAs (l:List Nat) (most:Nat) (hl:2<=l.length) (hl2:l.length<=258) (hx:∀ x∈l,x<=1073741824) (hm:12<=most) (hm2:most<=20) (pa:Option Addr) (lc:Nat) (w:World) (hr:RS w pa l.length 1 (Qak l)) :
  Does Yq 110 #[.slice pa l.length lc,.int .i64 most] w fun v w'=>∃ a cap,Heap w [] w' [Yd 3 1 a (lenS l most).length cap (Qak (lenS l most))]/\v=.tuple #[.slice a (lenS l most).length cap,.int .i64 0]:=by
 obtain ⟨p,rfl⟩:=Qbj hr (by omega);have hc1:=Qs3 l hl hl2 hx (some p) lc w hr;have hlS:lenS l most=Qk2 most 40 (l.map fun x=>max x 1):=rfl;generalize lenS l most=res at *;refine En [.slice (some p) l.length lc,.int .i64 most] 69 Tryz.func110 ?_;generalize hn:l.length=n at *;refine VS [0,1] ?_;refine VQ [0,1,21] fun K hK=>?_;refine MemK_call Tryz.call137 ?_;refine Qs ?_;refine Yr hc1 ?_;rintro v w2 ⟨rfl,rfl⟩;(try refine Qs ?_)
 suffices out:∀ b:Bool,(b=true ↔ False)->K [(0,.slice (some p) n lc),(1,.int .i64 most),(21,.bool b)] w2 by
  rw [Bool.not_true];(try refine Qs ?_);refine ⟨fun h=>out _ (by simp;omega),fun h=>absurd h (by omega)⟩
 intro b hb;apply hK;clear hK;refine Qaf rfl rfl (fun h=>(hb.1 h).elim) (fun h=>VC_skip ?_);clear hb h;have hH0:=Y7 w2;refine VQ [1,6] fun K hK=>?_;refine Qbb hH0 (Qak []) (xs:=[]) Yc sz3 rfl rfl rfl (by omega) ?_;refine Qs ?_;refine ⟨rfl,by simp [Y2],fun g w4 hH=>?_⟩;(try refine Qs ?_);refine Qai ?_;refine Qs ?_;refine Qbn (zs:=#[.int .i64 0]) (bytes:=8) hH 0 rfl Yc (by kernel_rfl) rfl (Qkd (hH.rs' hr) Yc) (Qdc _) (fun h=>by omega) fun a' cap' w5 hc' hH2=>?_;simp only [Yb,Qak,List.map_nil,Yx,Xo] at hH2;change Heap w2 [] w5 [Yd 3 1 a' n cap' (Qak l)] at hH2;rw [Xo];clear hH hH0 hc';obtain ⟨g,rfl⟩:=Qc1 (hH2.at 0 rfl) (by omega);(try refine Qs ?_);apply hK;clear hK;refine VS [1,6,7] ?_;refine Qac ?_;refine Qad [1,6,7] (fun m e w'=>∃ (i:Nat),Is e [(1,.int .i64 most),(6,.slice (some ⟨g,0,none⟩) n cap'),(7,.int .i64 i)]/\Heap w2 [] w' [Yd 3 1 (some ⟨g,0,none⟩) n cap' (Qak ((l.take i).map (fun x=>max x 1)++l.drop i))]/\i<=n/\m=n - i) n ?_ ?_
 ·
  refine Qs ?_;exact ⟨0,rfl,by simpa using hH2,by omega,rfl⟩
 clear hH2;rintro m e w4 ⟨i,rfl,hH,hi,rfl⟩;refine VS [1,6,7,28] ?_;refine VD (fun h=>?_) (fun h=>?_)
 ·
  obtain ⟨hs1,hs2,hs3⟩:=Qor l (fun x=>max x 1) (i:=i) (by omega);have hxi:=hx _ (Qa3 0 (l:=l) (i:=i) (by omega));have hcell:=Qa1 (hH.at 0 rfl) (Qb4 (l:=(l.take i).map (fun x=>max x 1)++l.drop i) (i:=i) (by omega));rw [hs2] at hcell;generalize l.getD i 0=x at *;refine VC_skip ?_;refine VB ?_;refine VQ [1,6,7] fun K hK=>?_;refine ⟨⟨by omega,by omega⟩,_,hcell,?_⟩;(try refine Qs ?_);refine Qp ?_;rw [show max ((x:Nat):Int) 1=((max x 1:Nat):Int) by omega];refine Qaa ?_;refine Qs ?_;refine Qaz hH 0 (o:=(i)) (vs:=[.int .i64 (max x 1:Nat)]) rfl (by first | exact (Qbg _ _ _).symm | rfl | simp [Qbg]) rfl (by kernel_rfl) (by first | omega | (simp;done) | (simp;omega) | (simp [Qar,Qat];omega) | (rw [Qal];simp;omega)) (by simp [Yt]) fun w6 hH2=>?_;(try refine Qs ?_);simp only [Yj,Qcb (Qak ((l.take i).map (fun x=>max x 1)++l.drop i)) _ _ (show i < (Qak ((l.take i).map (fun x=>max x 1)++l.drop i)).length by rw [Qal,hs3];omega),Qck,Yb,hs1] at hH2;apply hK;clear hK;refine Qaj ?_;refine VS [1,6,7] ?_;refine Qab ?_;refine Qs ?_;exact ⟨n - (i+1),by omega,i+1,rfl,hH2,by omega,rfl⟩
 obtain rfl:i=n:=by omega
 refine Qag rfl ?_;rw [Yo (by omega),Y4 (by omega),Yh] at hH
 have hown1:∀ x∈l.map (fun x=>max x 1),1<=x/\x<=1073741824:=fun x hx'=>by
  obtain ⟨y,hy,rfl⟩:=Xg.1 hx';have:=hx y hy;omega
 have hownl:(l.map fun x=>max x 1).length=i:=by simp [hn]
 generalize l.map (fun x=>max x 1)=own0 at *;clear hn hx hi h;generalize i=n at *;have hc3:=Qql own0 (by omega) (by omega) (fun x hx'=>⟨(hown1 x hx').1,by have:=(hown1 x hx').2;omega⟩) (some ⟨g,0,none⟩) cap' w4 (by rw [hownl];exact Qaq (hH.at 0 rfl));rw [hownl] at hc3;refine VQ [1,6,8] fun K hK=>?_;refine MemK_call Tryz.call138 ?_;refine Qs ?_;refine Yr hc3 ?_;rintro v w6 ⟨a2,cap2,hHg,rfl⟩;have hH2:=hH.call0 hHg;simp only [Yp] at hH2;clear hH hHg;(try refine Qs ?_);apply hK;clear hK;refine VS [1,6,8,9] ?_;refine Qac ?_;refine Qad [1,6,8,9] (fun m e w'=>∃ (t cap2:Nat) (a2:Option Addr) (own:List Nat),Is e [(1,.int .i64 most),(6,.slice (some ⟨g,0,none⟩) n cap'),(8,.slice a2 (Qco own).length cap2),(9,.int .i64 t)]/\Heap w2 [] w' [Yd 3 1 a2 (Qco own).length cap2 (Qak (Qco own)),Yd 3 1 (some ⟨g,0,none⟩) n cap' (Qak own)]/\own.length=n/\(∀ x∈own,1<=x/\x<=1073741824)/\res=Qk2 most (40 - t) own/\t<=40/\m=40 - t) 40 ?_ ?_
 ·
  refine Qs ?_;exact ⟨0,cap2,a2,own0,rfl,hH2,hownl,hown1,hlS,by omega,rfl⟩
 clear hH2 hown1 hownl hlS hc3;rintro m e w5 ⟨t,cap2,a2,own,rfl,hH,hol,hob,hres,ht,rfl⟩;have hgl:=Qfu own;have hgr:=Qrn (Qco own) (by omega) (by omega) a2 cap2 w5 (Qaq (hH.at 0 rfl));refine VQ [1,6,8,9,48] fun K hK=>?_
 suffices out:∀ b:Bool,(b=true ↔ t < 40/\most < maxL (Qco own))->K [(1,.int .i64 most),(6,.slice (some ⟨g,0,none⟩) n cap'),(8,.slice a2 (Qco own).length cap2),(9,.int .i64 t),(48,.bool b)] w5 by
  refine ⟨fun h3=>?_,fun h3=>out _ (by simp at h3 ⊢;omega)⟩;refine MemK_call Tryz.call139 ?_;refine Qs ?_;refine Yr hgr ?_;rintro v w6 ⟨rfl,rfl⟩;(try refine Qs ?_);exact out _ (by simp at h3 ⊢;omega)
 intro b hb;apply hK;clear hK;refine Vi (fun h=>?_) (fun h=>?_)
 ·
  obtain ⟨h1,h2⟩:=hb.1 h;obtain ⟨q,hq⟩:∃ q,40 - t=q+1:=⟨39 - t,by omega⟩;rw [hq,Qk2,if_neg (by omega)] at hres;have hH3:Heap w2 [] w5 [Yd 3 1 (some ⟨g,0,none⟩) n cap' (Qak own)]:=hH.sub (by simp);clear hH hb h hgr;refine VC_skip ?_;refine VB ?_;refine VS [1,6,9,10] ?_;refine Qac ?_;refine Qad [1,6,9,10] (fun m e w'=>∃ (i:Nat),Is e [(1,.int .i64 most),(6,.slice (some ⟨g,0,none⟩) n cap'),(9,.int .i64 t),(10,.int .i64 i)]/\Heap w2 [] w' [Yd 3 1 (some ⟨g,0,none⟩) n cap' (Qak ((own.take i).map (fun x=>x / 2+1)++own.drop i))]/\i<=n/\m=n - i) n ?_ ?_
  ·
   refine Qs ?_;exact ⟨0,rfl,by simpa using hH3,by omega,rfl⟩
  clear hH3;rintro m e w8 ⟨i,rfl,hH,hi,rfl⟩;refine VS [1,6,9,10,54] ?_;refine VD (fun h=>?_) (fun h=>?_)
  ·
   obtain ⟨hs1,hs2,hs3⟩:=Qor own (fun x=>x / 2+1) (i:=i) (by omega);have hxi:=hob _ (Qa3 0 (l:=own) (i:=i) (by omega));have hcell:=Qa1 (hH.at 0 rfl) (Qb4 (l:=(own.take i).map (fun x=>x / 2+1)++own.drop i) (i:=i) (by omega));rw [hs2] at hcell;generalize own.getD i 0=x at *;refine VC_skip ?_;refine VB ?_;refine VQ [1,6,9,10] fun K hK=>?_;refine ⟨⟨by omega,by omega⟩,_,hcell,?_⟩;(try refine Qs ?_);(repeat first | refine Qo ?_ | refine Qp ?_);rw [show ((x:Nat):Int) / 2+1=((x / 2+1:Nat):Int) by omega];refine Qaa ?_;refine Qs ?_;refine Qaz hH 0 (o:=(i)) (vs:=[.int .i64 (x / 2+1:Nat)]) rfl (by first | exact (Qbg _ _ _).symm | rfl | simp [Qbg]) rfl (by kernel_rfl) (by first | omega | (simp;done) | (simp;omega) | (simp [Qar,Qat];omega) | (rw [Qal];simp;omega)) (by simp [Yt]) fun w6 hH2=>?_;(try refine Qs ?_);simp only [Yj,Qcb (Qak ((own.take i).map (fun x=>x / 2+1)++own.drop i)) _ _ (show i < (Qak ((own.take i).map (fun x=>x / 2+1)++own.drop i)).length by rw [Qal,hs3];omega),Qck,Yb,hs1] at hH2;apply hK;clear hK;refine Qaj ?_;refine VS [1,6,9,10] ?_;refine Qab ?_;refine Qs ?_;exact ⟨n - (i+1),by omega,i+1,rfl,hH2,by omega,rfl⟩
  obtain rfl:i=n:=by omega
  refine Qag rfl ?_;rw [Yo (by omega),Y4 (by omega),Yh] at hH
  have hown1:∀ x∈own.map (fun x=>x / 2+1),1<=x/\x<=1073741824:=fun x hx'=>by
   obtain ⟨y,hy,rfl⟩:=Xg.1 hx';have:=hob y hy;omega
  have hownl:(own.map fun x=>x / 2+1).length=i:=by simp [hol]
  generalize own.map (fun x=>x / 2+1)=own1 at *;clear hol hob hi h hgl;generalize i=n at *;have hc3:=Qql own1 (by omega) (by omega) (fun x hx'=>⟨(hown1 x hx').1,by have:=(hown1 x hx').2;omega⟩) (some ⟨g,0,none⟩) cap' w8 (by rw [hownl];exact Qaq (hH.at 0 rfl));rw [hownl] at hc3;refine VQ [1,6,8,9] fun K hK=>?_;refine MemK_call Tryz.call138 ?_;refine Qs ?_;refine Yr hc3 ?_;rintro v w6 ⟨a3,cap3,hHg,rfl⟩;have hH2:=hH.call0 hHg;simp only [Yp] at hH2;clear hH hHg;(try refine Qs ?_);apply hK;clear hK;refine Qaj ?_;refine VS [1,6,8,9] ?_;refine Qab ?_;refine Qs ?_;exact ⟨40 - (t+1),by omega,t+1,cap3,a3,own1,rfl,hH2,hownl,hown1,by rw [hres,show 40 - (t+1)=q by omega],by omega,rfl⟩
 have hfin:res=Qco own:=by
  rw [hres];have hnb:¬ (t < 40/\most < maxL (Qco own)):=fun hh=>by rw [hb.2 hh] at h;cases h
  by_cases h40:t=40
  ·
   rw [h40];rfl
  obtain ⟨q,hq⟩:∃ q,40 - t=q+1:=⟨39 - t,by omega⟩;rw [hq,Qk2,if_pos (by omega)]
 refine Qag rfl ?_;refine VS [4,5] ?_;exact VC_ret (Qav rfl rfl rfl ⟨a2,cap2,by rw [hfin];exact hH.sub (by simp),by rw [hfin]⟩)
theorem QLa {n k:Nat} (hn:2<=n) (h1:2 ^ k<=n) (h2:n < 2 ^ (k+1)):Qfp n=k:=(Nat.log2_eq_iff (by omega)).2 ⟨h1,h2⟩
theorem QSs (k:Nat) (hk:k<=60):(1:Int) * 2 ^ shN Xd (((k:Int)+1) % 18446744073709551616)=((2 ^ (k+1):Nat):Int):=by
 have h:shN Xd (((k:Int)+1) % 18446744073709551616)=k+1:=Qtk (by push_cast;rfl) (by simp [U4];omega) (by decide);rw [h,Gb,Qpa]
theorem QAt (w:List Nat) (i m:Nat):(Yf (m+1)).countP (fun j=>Qdu w j i)=(Yf m).countP (fun j=>Qdu w j i)+if Qdu w m i=true then 1 else 0:=by
 rw [Xr,U2];simp [List.countP_cons]
theorem QAu (l:List Nat) (hl:2<=l.length) (hl2:l.length<=258) (hx:∀ x∈l,x<=1073741824) (pa:Option Addr) (lc:Nat) (w:World) (hr:RS w pa l.length 1 (Qak l)) :
  Does Yq 112 #[.slice pa l.length lc] w fun v w'=>∃ a cap,Heap w [] w' [Yd 3 1 a (Qdr l).length cap (Qak (Qdr l))]/\v=.tuple #[.slice a (Qdr l).length cap,.int .i64 0]:=by
 obtain ⟨p,rfl⟩:=Qbj hr (by omega);have hc1:=Qs3 l hl hl2 hx (some p) lc w hr;have hfl:(Qdr l).length=l.length:=by simp [Qdr]
 have hfg:∀ i,i < l.length->(Qdr l).getD i 0=Qk6 l.length (Qkp l i):=fun i hi=>Qpy _ _ _ _ hi;obtain ⟨k1,k2,k3⟩:=Qm0 hl;have k4:=QBn hl hl2;refine En [.slice (some p) l.length lc] 80 Tryz.func112 ?_;generalize hn:l.length=n at *;refine VS [0] ?_;refine VQ [0,14] fun K hK=>?_;refine MemK_call Tryz.call137 ?_;refine Qs ?_;refine Yr hc1 ?_;rintro v w2 ⟨rfl,rfl⟩;(try refine Qs ?_);(repeat refine Qo ?_);apply hK;clear hK;refine Qaf rfl rfl (fun h=>by simp at h) (fun h=>VC_skip ?_);clear h;refine VS [0,4] ?_;refine VS [0,4,5] ?_;refine VB ?_;refine Qad [0,4,5] (fun m e w'=>∃ (k:Nat),Is e [(0,.slice (some p) n lc),(4,.int .i64 n),(5,.int .i64 k)]/\Is w' w2/\1<=k/\k<=8/\2 ^ k<=n/\m=9 - k) 8 ?_ ?_
 ·
  refine Qs ?_;exact ⟨1,rfl,rfl,by omega,by omega,by omega,rfl⟩
 rintro m e w' ⟨k,rfl,rfl,hk1,hk8,hkn,rfl⟩;have hsh:=QSs k (by omega);have hp:2 ^ (k+1)<=2 ^ 9:=Xs (by omega) (by omega);have hp2:2 ^ (k+1)=2 * 2 ^ k:=by rw [Nat.pow_succ];omega
 refine VQ [0,4,5,22] fun K hK=>?_;rw [hsh];(repeat first | refine Qo ?_ | refine Qp ?_);(repeat refine Qo ?_);apply hK;clear hK;refine VD (fun h=>?_) (fun h=>?_)
 ·
  have hk7:k<=7:=by
   rcases X8 k 8 with h8 | h8
   ·
    omega
   have:2 ^ 9<=2 ^ (k+1):=Xs (by omega) (by omega);omega
  refine VC_skip ?_;refine Qac ?_;refine VS [0,4,5] ?_;refine Qaj ?_;refine Qab ?_;refine Qs ?_;exact ⟨9 - (k+1),by omega,k+1,rfl,rfl,by omega,by omega,by omega,rfl⟩
 have hK:=QLa hl hkn (by omega);clear h;have hfL:∀ p,Qk6 n p=if 2 ^ (k+1) - n<=p then k+1 else k:=fun p=>by rw [Qk6,hK]
 refine Qag rfl ?_;refine VQ [0,4,5,6] fun K hK=>?_;refine Qbi Yc zi3 ?_;refine Qs ?_;refine ⟨n,n,⟨rfl,rfl,by omega,by omega,by omega⟩,?_⟩;have hH3:=(Y7 w').row 3 (n:=n) (cap:=n) (sz:=1) (Qak (Ya n 0)) [] (by simp [Qal]) (by simp [Qal]) (by omega) (by omega);rw [Yh,Qbs] at hH3;generalize w'.alloc (Yy (Ya n (Xe Xd 0)).toArray 3)=w6 at *;generalize w'.heap.size=g at *;rw [<- Qbs] at hH3;(try refine Qs ?_);apply hK;clear hK;refine VS [0,4,5,6,7] ?_;refine Qac ?_;refine Qad [0,4,5,6,7] (fun m e wx=>∃ (i:Nat),Is e [(0,.slice (some p) n lc),(4,.int .i64 n),(5,.int .i64 k),(6,.slice (some ⟨g,0,none⟩) n n),(7,.int .i64 i)]/\Heap w' [] wx [Yd 3 1 (some ⟨g,0,none⟩) n n (Qak ((Qdr l).take i++Ya (n - i) 0))]/\i<=n/\m=n - i) n ?_ ?_
 ·
  refine Qs ?_;exact ⟨0,rfl,by simpa using hH3,by omega,rfl⟩
 clear hH3;rintro m e w7 ⟨i,rfl,hH,hi,rfl⟩;refine VS [0,4,5,6,7,29] ?_;refine VD (fun h=>?_) (fun h=>?_)
 ·
  have hi':i < n:=by omega
  have htk:=Qb2 0 (l:=Qdr l) (i:=i) (by omega);have hset:=fun d=>Qjy ((Qdr l).take i) 0 d (show i < n by omega) (by rw [Y1];omega);have hDl:((Qdr l).take i++Ya (n - i) 0).length=n:=by rw [Yk,Y1,Xj];omega
  have hfin:=hset ((Qdr l).getD i 0);rw [<- htk,hfg i hi',hfL] at hfin;have hci:=Qbr hr (i:=i) (by omega);have hxi:=hx _ (Qa3 0 (l:=l) (i:=i) (by omega));generalize (Qdr l).take i++Ya (n - i) 0=D0 at *;refine VC_skip ?_;refine VB ?_;refine VS [0,4,5,6,7,8] ?_;refine VS [0,4,5,6,7,8,9] ?_;refine Qac ?_;refine Qad [0,4,5,6,7,8,9] (fun m e wx=>∃ (j:Nat),Is e [(0,.slice (some p) n lc),(4,.int .i64 n),(5,.int .i64 k),(6,.slice (some ⟨g,0,none⟩) n n),(7,.int .i64 i),(8,.int .i64 ((Yf j).countP (fun j=>Qdu l j i):Nat)),(9,.int .i64 j)]/\Is wx w7/\j<=n/\m=n - j) n ?_ ?_
  ·
   refine Qs ?_;exact ⟨0,rfl,rfl,by omega,rfl⟩
  rintro m e w8 ⟨j,rfl,rfl,hj,rfl⟩;have hfs:=QAt l i j
  have hcl:(Yf j).countP (fun j=>Qdu l j i)<=j:=by
   have:=Ua (p:=fun j=>Qdu l j i) (l:=Yf j)
   rwa [Xi] at this
  refine VS [0,4,5,6,7,8,9,34] ?_;refine VD (fun h=>?_) (fun h=>?_)
  ·
   have hcj:=Qbr hr (i:=j) (by omega);have hah:=Qf9 (w:=l) (i:=j) (j:=i);have hci:=(hH.rs' hr);have hc1:=Qbr hci (i:=i) (by omega);have hc2:=Qbr hci (i:=j) (by omega);have hxj:=hx _ (Qa3 0 (l:=l) (i:=j) (by omega));generalize hc2':(Yf (j+1)).countP (fun j=>Qdu l j i)=c2 at *;generalize (Yf j).countP (fun j=>Qdu l j i)=c1 at *;generalize l.getD i 0=x at *;generalize l.getD j 0=y at *;refine VC_skip ?_;refine VB ?_;refine Vq [0,4,5,6,7,8,9,10,11] fun K hK=>?_;refine ⟨⟨by omega,by omega⟩,_,hc1,?_⟩;(try refine Qs ?_);refine ⟨⟨by omega,by omega⟩,_,hc2,?_⟩;(try refine Qs ?_);apply hK;clear hK;refine VQ [0,4,5,6,7,8,9,59] fun K hK=>?_
   suffices out:∀ b:Bool,(b=true ↔ max x 1 < max y 1∨max y 1=max x 1/\j < i)->K [(0,.slice (some p) n lc),(4,.int .i64 n),(5,.int .i64 k),(6,.slice (some ⟨g,0,none⟩) n n),(7,.int .i64 i),(8,.int .i64 c1),(9,.int .i64 j),(59,.bool b)] w8 by (repeat' (first | exact out _ _ (by first | omega | (simp;done) | (simp;omega)) | exact out _ (by first | omega | (simp;done) | (simp;omega)) | refine ⟨fun _=>?_,fun _=>?_⟩ | refine Qo ?_))
   intro b hb;rw [<- hah] at hb;apply hK;clear hK;refine Vi (fun h=>?_) (fun h=>?_)
   ·
    rw [if_pos (hb.1 h)] at hfs;refine VS [0,4,5,6,7,8,9] ?_;refine Qaj ?_;refine VS [0,4,5,6,7,8,9] ?_;refine Qab ?_;refine Qs ?_;exact ⟨n - (j+1),by omega,j+1,by rw [hc2',hfs];rfl,rfl,by omega,rfl⟩
   rw [if_neg (fun hh=>by rw [hb.2 hh] at h;cases h)] at hfs;refine VC_skip ?_;refine Qaj ?_;refine VS [0,4,5,6,7,8,9] ?_;refine Qab ?_;refine Qs ?_;exact ⟨n - (j+1),by omega,j+1,by rw [hc2',hfs];rfl,rfl,by omega,rfl⟩
  obtain rfl:j=n:=by omega
  have hfw:(Yf j).countP (fun j=>Qdu l j i)=Qkp l i:=by rw [Qkp,hn]
  rw [hfw] at hcl ⊢;clear hfw hfs h hj;generalize Qkp l i=fw at *;generalize j=n at *;refine Qag rfl ?_;refine VQ [0,4,5,6,7,8] fun K hK=>?_;refine Qp ?_;refine Qaa ?_;refine Qs ?_;refine Qaz hH 0 (o:=i) (vs:=[.int .i64 (k:Nat)]) rfl (by simp [Qbg]) rfl (by kernel_rfl) (by simp only [Yj,Qal];omega) (by simp [Yt]) fun w9 hH2=>?_;simp only [Yb] at hH2;rw [Qhl (by omega)] at hH2;(try refine Qs ?_);apply hK;clear hK;refine VQ [0,4,5,6,7,73] fun K hK=>?_;rw [hsh];(repeat first | refine Qo ?_ | refine Qp ?_);(repeat refine Qo ?_);apply hK;clear hK;refine VD (fun h=>?_) (fun h=>?_)
  ·
   rw [if_pos (by omega)] at hfin;refine VQ [0,4,5,6,7] fun K hK=>?_;refine ⟨Xf (by omega) (by omega),⟨by omega,by omega⟩,?_⟩;rw [show ((k:Int)+1)=((k+1:Nat):Int) by push_cast;rfl];refine Qaa ?_;refine Qs ?_;refine Qaz hH2 0 (o:=i) (vs:=[.int .i64 (k+1:Nat)]) rfl (by simp [Qbg]) rfl (by kernel_rfl) (by simp only [Yj,Qal,Xc];omega) (by simp [Yt]) fun w10 hH3=>?_;simp only [Yb] at hH3;rw [Qhl (by rw [Xc];omega),Uu,hfin] at hH3;(try refine Qs ?_);apply hK;clear hK;refine Qaj ?_;refine VS [0,4,5,6,7] ?_;refine Qab ?_;refine Qs ?_;exact ⟨n - (i+1),by omega,i+1,rfl,hH3,by omega,rfl⟩
  rw [if_neg (by omega)] at hfin;rw [hfin] at hH2;refine VC_skip ?_;refine Qaj ?_;refine VS [0,4,5,6,7] ?_;refine Qab ?_;refine Qs ?_;exact ⟨n - (i+1),by omega,i+1,rfl,hH2,by omega,rfl⟩
 obtain rfl:i=n:=by omega
 rw [Xb,Y3,Yh,Yo (by omega)] at hH;refine Qag rfl ?_;refine VS [2,3] ?_;exact VC_ret (Qav rfl rfl rfl ⟨some ⟨g,0,none⟩,i,by rw [hfl];exact hH,by rw [hfl]⟩)
set_option maxHeartbeats 4000000
theorem Qn4 (v:Value) (T:List (List Nat)) (P:List Nat) (hm:mayP T P) (list:List Nat) (hl1:1<=list.length) (hls:∀ s∈list,s < (T.getD 0 []).length) (hlg:Qbe list.length<=P.length) (hsz:Qgo (T,P) list<=1000000000000) (a:Option Addr) (lc:Nat) (w:World) (hp:PlanAt w v T P) (hr:RS w a list.length 1 (Qak list)) :
  Does Yq 78 #[v,.slice a list.length lc] w fun x w'=>Heap w [] w' []/\x=.tuple #[.int .i64 (Qgo (T,P) list:Nat),.int .i64 0]:=by
 have hp0:=hp;obtain ⟨ta,tc,pa,pc,hs0,rfl,-,-,-,-⟩:=hp;have hen:#[Xy #[.slice ta T.length tc,.slice pa P.length pc],.slice a list.length lc]=[Xy (Qam ta T.length tc pa P.length pc).toArray,.slice a list.length lc].toArray:=rfl;rw [hen];refine Qdx 29 Tryz.func78 rfl rfl (of_decide_eq_true rfl) ?_;simp only [Env.ofArgs];have hco:=fun w hp hr=>Qqj (.agg #[.slice ta T.length tc,.slice pa P.length pc]) T P hm list hl1 hls hlg a lc w hp hr;have hbi:=fun w hp=>Qn3 (.agg #[.slice ta T.length tc,.slice pa P.length pc]) T P hm w hp;unfold Qgo at hsz ⊢;simp only at hsz ⊢;generalize Qe3 T P list 0=C at *;generalize Qbx T P=B at *;refine VQ [1,2] fun K hK=>?_;refine Qch ?_;refine Qs ?_;have hH:=(Y7 w).box 70 (Qam ta T.length tc pa P.length pc);generalize w.alloc (Yy (Qam ta T.length tc pa P.length pc).toArray 70)=w1 at *;generalize w.heap.size=gp at *;apply hK;clear hK;refine VQ [2,6,7] fun K hK=>?_;refine ⟨Qam ta T.length tc pa P.length pc,⟨rfl,Qay (hH.at 0 rfl)⟩,?_⟩;(try refine Qs ?_);refine MemK_call Tryz.call50 ?_;refine Qs ?_;refine Yr (hco w1 (hp0.keep hH) (hH.rs' hr)) ?_;rintro v w2 ⟨aC,cC,hHc,rfl⟩;have hH2:=hH.call0 hHc;simp only [Yp] at hH2;clear hH hHc;(try refine Qs ?_);apply hK;clear hK;refine VS [2,6,7,17] ?_;refine Qaf rfl rfl (fun h=>by simp at h) (fun h=>VC_skip ?_);clear h;refine VQ [6,8] fun K hK=>?_;refine ⟨Qam ta T.length tc pa P.length pc,⟨rfl,Qay (hH2.at 1 rfl)⟩,?_⟩;(try refine Qs ?_);refine MemK_call Tryz.call49 ?_;refine Qs ?_;refine Yr (hbi w2 (hp0.keep hH2)) ?_;rintro v w3 ⟨aB,cB,hHb,rfl⟩;have hH3:=hH2.call0 hHb;simp only [Yp] at hH3;clear hH2 hHb;(try refine Qs ?_);apply hK;clear hK;refine VS [4,5] ?_;exact VC_ret (Qav rfl rfl rfl ⟨hH3.sub (by simp),by push_cast;rfl⟩)
theorem Qmi (l:List Nat) (n:Nat) (hm:Qfg l n) (a:Option Addr) (lc:Nat) (w:World) (hr:RS w a l.length 1 (Qak l)) :
  Does Yq 106 #[.slice a l.length lc,.int .i64 n] w fun v w'=>w'=w/\v=.bool true:=by
 obtain ⟨h1,h2,h3,h4,h5⟩:=hm;obtain ⟨p,rfl⟩:=Qbj hr (by omega);refine En [.slice (some p) l.length lc,.int .i64 n] 41 Tryz.func106 ?_;generalize hn:l.length=m at *;refine VS [0,1] ?_;refine VS [0,1,5] ?_;refine Qac ?_;refine Qad [0,1,5] (fun m' e w'=>∃ (i:Nat),Is e [(0,.slice (some p) m lc),(1,.int .i64 n),(5,.int .i64 i)]/\Is w' w/\i<=m/\m'=m - i) m ?_ ?_
 ·
  refine Qs ?_;exact ⟨0,rfl,rfl,by omega,rfl⟩
 rintro m' e w' ⟨i,rfl,rfl,hi,rfl⟩;refine VS [0,1,5,9] ?_;refine Vi (fun h=>?_) (fun h=>?_)
 ·
  simp only [decide_eq_true_eq] at h;have hcell:=Qbr hr (i:=i) (by omega);have hx:=h5 _ (Qa3 0 (l:=l) (i:=i) (by omega));generalize l.getD i 0=x at *;refine VC_skip ?_;refine VB ?_;refine VQ [0,1,5,24] fun K hK=>?_
  suffices out:∀ b:Bool,(b=true ↔ False)->K [(0,.slice (some p) m lc),(1,.int .i64 n),(5,.int .i64 i),(24,.bool b)] w' by
   refine ⟨⟨by omega,by omega⟩,_,hcell,?_⟩;(try refine Qs ?_);refine ⟨fun h3=>?_,fun h3=>by omega⟩;refine ⟨⟨by omega,by omega⟩,_,hcell,?_⟩;(try refine Qs ?_);exact out _ (by simp;omega)
  intro b hb;apply hK;clear hK;refine Qaf rfl rfl (fun h=>(hb.1 h).elim) (fun h=>VC_skip ?_);refine Qaj ?_;refine VS [0,1,5] ?_;refine Qab ?_;refine Qs ?_;exact ⟨m - (i+1),by omega,i+1,rfl,rfl,by omega,rfl⟩
 refine Qag rfl ?_;refine VQ [4] fun K hK=>?_
 suffices out:K [(4,.bool true)] w' by
  refine ⟨fun _=>⟨fun _=>⟨fun _=>?_,fun h=>by omega⟩,fun h=>by omega⟩,fun h=>by omega⟩;have e:decide ((m:Int)<=1638350)=true:=by simp;omega
  rw [e];exact out
 apply hK;clear hK;exact VC_ret (VX_ret1 rfl rfl ⟨rfl,rfl⟩)
theorem Qro (m:Nat) (h1:1<=m) (hm:m<=1000000000) (w:World):Does Yq 107 #[.int .i64 m] w fun v w'=>w'=w/\v=.tuple #[.int .i64 (Qcf m:Nat),.int .i64 0]:=by
 refine En [.int .i64 m] 21 Tryz.func107 ?_;refine VS [0] ?_;refine VS [0,4] ?_;refine VB ?_;refine VS [0,4,5] ?_;refine Qaf rfl rfl (fun h=>by simp at h;omega) (fun h=>?_);clear h;refine VS [0,4,8] ?_;refine VD (fun h=>?_) (fun h=>?_)
 ·
  have e:Qcf m=6:=by unfold Qcf;rw [if_neg (by omega),if_neg (by omega),if_neg (by omega),if_neg (by omega)]
  refine VS [4] ?_;refine Qaj ?_;refine VS [2,3] ?_;exact VC_ret (Qav rfl rfl rfl ⟨rfl,by rw [e];rfl⟩)
 refine VS [0,4,11] ?_;refine VD (fun h=>?_) (fun h=>?_)
 ·
  have e:Qcf m=5:=by unfold Qcf;rw [if_neg (by omega),if_neg (by omega),if_neg (by omega),if_pos (by omega)]
  refine VS [4] ?_;refine Qaj ?_;refine VS [2,3] ?_;exact VC_ret (Qav rfl rfl rfl ⟨rfl,by rw [e];rfl⟩)
 refine VS [0,4,14] ?_;refine VD (fun h=>?_) (fun h=>?_)
 ·
  have e:Qcf m=4:=by unfold Qcf;rw [if_neg (by omega),if_neg (by omega),if_pos (by omega)]
  refine VS [4] ?_;refine Qaj ?_;refine VS [2,3] ?_;exact VC_ret (Qav rfl rfl rfl ⟨rfl,by rw [e];rfl⟩)
 refine VS [4,17] ?_;refine VD (fun h=>?_) (fun h=>?_)
 ·
  have e:Qcf m=3:=by unfold Qcf;rw [if_neg (by omega),if_pos (by omega)]
  refine VS [4] ?_;refine Qaj ?_;refine VS [2,3] ?_;exact VC_ret (Qav rfl rfl rfl ⟨rfl,by rw [e];rfl⟩)
 have e:Qcf m=2:=by unfold Qcf;rw [if_pos (by omega)]
 refine VC_skip ?_;refine Qaj ?_;refine VS [2,3] ?_;exact VC_ret (Qav rfl rfl rfl ⟨rfl,by rw [e];rfl⟩)
theorem QEy (l:List Nat) (k:Nat) (hk:50 * k < l.length) (hl:l.length<=1000000000) (p:Addr) (lc:Nat) (hlc:l.length<=lc) (w:World) :
  Does Yq 109 #[.slice (some p) l.length lc,.int .i64 k] w fun v w'=>w'=w/\v=.slice (some (p.add (50 * k))) (Qcs l k).length (lc - 50 * k):=by
 have hcl:(Qcs l k).length=min 50 (l.length - 50 * k):=by simp [Qcs]
 refine En [.slice (some p) l.length lc,.int .i64 k] 20 Tryz.func109 ?_;generalize hn:l.length=n at *;refine VS [0,1] ?_;refine VQ [0,1,5] fun K hK=>?_;refine ⟨Xf (by omega) (by omega),Xf (by omega) (by omega),?_⟩;apply hK;clear hK;refine VS [0,1,5,12] ?_;refine VD (fun h=>?_) (fun h=>?_)
 ·
  refine VS [0,1,5] ?_;refine VQ [4] fun K hK=>?_;refine ⟨Xf (by omega) (by omega),⟨by omega,by omega,by omega⟩,?_⟩;rw [if_neg (by omega),show (50 * (k:Int)).toNat=50 * k by omega,show n - 50 * k=(Qcs l k).length by rw [hcl];omega];apply hK;clear hK;exact VC_ret (VX_ret1 rfl rfl ⟨rfl,rfl⟩)
 refine VC_skip ?_;refine VQ [4] fun K hK=>?_;refine ⟨Xf (by omega) (by omega),⟨by omega,by omega,by omega⟩,?_⟩;rw [if_neg (by omega),show (50 * (k:Int)).toNat=50 * k by omega,show (50 * (k:Int)+50).toNat - 50 * k=(Qcs l k).length by rw [hcl];omega];apply hK;clear hK;exact VC_ret (VX_ret1 rfl rfl ⟨rfl,rfl⟩)
theorem QEz (tab ch:List Nat) {j:Nat} (hj:j < ch.length):Qfw tab (ch.take (j+1))=Qfw tab (ch.take j)+tab.getD (ch.getD j 0) 0:=by
 rw [Qb2 0 hj,Qfw,X6,List.sum_append];simp [Qfw]
theorem Qu1 (tab:List Nat) {c:Nat} (h:∀ s,tab.getD s 0<=c):∀ ch:List Nat,Qfw tab ch<=ch.length * c
 | []=>by simp [Qfw]
 | s::ch=>by
  have h1:=Qu1 tab h ch;have h2:=h s;unfold Qfw at *;rw [List.map_cons,List.sum_cons,Y9,Ga];omega
theorem QAv {tab:List Nat}{c:Nat} (h:∀ x∈tab,x<=c) (s:Nat):tab.getD s 0<=c:=by
 by_cases hs:s < tab.length
 ·
  exact h _ (Qa3 0 hs)
 rw [Yi,Ys (by omega)];exact Nat.zero_le _
theorem QE0 (T:List (List Nat)) (ch:List Nat) (n:Nat) (hT1:1<=T.length) (hT2:T.length<=6) (hTn:∀ t∈T,t.length=n/\∀ x∈t,x<=20) (hcl:ch.length<=50) (hch:∀ s∈ch,s < n) (hs0:List (Option Addr×Nat)) (ta pa:Option Addr) (tc pc:Nat) (w:World)
  (hsl:hs0.length=T.length) (hrT:RS w ta T.length 1 (Qa0 hs0 n)) (hrt:∀ (i:Nat) (h:Option Addr×Nat) (t:List Nat),hs0[i]? = some h->T[i]? = some t->RS w h.1 n 1 (Qak t)) (hr:RS w pa ch.length 1 (Qak ch)) :
  Does Yq 108 #[.slice ta T.length tc,.slice pa ch.length pc] w fun v w'=>w'=w/\v=.int .i64 (Qie (fun t=>Qfw (T.getD t []) ch) (T.length - 1):Nat):=by
 obtain ⟨qt,rfl⟩:=Qbj hrT (by omega);refine En [.slice (some qt) T.length tc,.slice pa ch.length pc] 44 Tryz.func108 ?_;generalize hnt:T.length=nt at *;generalize hnc:ch.length=nc at *
 have hcf:∀ t,Qfw (T.getD t []) ch<=1000:=fun t=>by
  have h1:∀ s,(T.getD t []).getD s 0<=20:=fun s=>by
   by_cases ht:t < T.length
   ·
    refine QAv (hTn _ ?_).2 s;rw [Yi,Ye ht];exact X3 ht
   rw [Yi (l:=T),Ys (by omega)];simp
  have:=Qu1 (T.getD t []) h1 ch;omega
 generalize hc:(fun t=>Qfw (T.getD t []) ch)=c;have hcc:∀ t,Qfw (T.getD t []) ch=c t:=fun t=>by rw [<- hc]
 clear hc;refine VS [0,1] ?_;refine VS [0,1,5] ?_;refine VS [0,1,5,6] ?_;refine VS [0,1,5,6,7] ?_;refine Qac ?_;refine Qad [0,1,5,6,7] (fun m e w'=>∃ (i b l:Nat),Is e [(0,.slice (some qt) nt tc),(1,.slice pa nc pc),(5,.int .i64 b),(6,.int .i64 l),(7,.int .i64 i)]/\Is w' w/\i<=nt/\b<=6/\(i≠0->b=Qie c (i - 1)/\l=c b)/\m=nt - i) nt ?_ ?_
 ·
  refine Qs ?_;exact ⟨0,0,0,rfl,rfl,by omega,by omega,fun h=>absurd rfl h,rfl⟩
 rintro m e w' ⟨i,b,l,rfl,rfl,hi,hb6,hbl,rfl⟩;refine VS [0,1,5,6,7,13] ?_;refine VD (fun h=>?_) (fun h=>?_)
 ·
  have hTi:T[i]? = some (T.getD i []):=by rw [Yi,Ye (by omega)];rfl
  obtain ⟨hh,hhi⟩:∃ hh,hs0[i]? = some hh:=⟨_,Ye (by omega)⟩;have hci:=hrT.2.2 qt rfl i _ (Qhk n hhi);have hrow:=hrt i hh _ hhi hTi;obtain ⟨htl,htx⟩:=hTn _ (Ym hTi);have hci2:=hcc i;have hcf2:=hcf i;generalize T.getD i []=t at *;refine VC_skip ?_;refine VB ?_;refine VS [0,1,5,6,7,8] ?_;refine VS [0,1,5,6,7,8,9] ?_;refine Qac ?_;refine Qad [0,1,5,6,7,8,9] (fun m e wx=>∃ (j:Nat),Is e [(0,.slice (some qt) nt tc),(1,.slice pa nc pc),(5,.int .i64 b),(6,.int .i64 l),(7,.int .i64 i),(8,.int .i64 (Qfw t (ch.take j):Nat)),(9,.int .i64 j)]/\Is wx w'/\j<=nc/\m=nc - j) nc ?_ ?_
  ·
   refine Qs ?_;exact ⟨0,rfl,rfl,by omega,rfl⟩
  rintro m e w2 ⟨j,rfl,rfl,hj,rfl⟩;have hsu:j < nc->Qfw t (ch.take (j+1))=Qfw t (ch.take j)+t.getD (ch.getD j 0) 0:=fun h=>QEz t ch (by omega);have hle:=Qu1 t (QAv htx) (ch.take j);have hle2:(ch.take j).length<=50:=by rw [Y1];omega
  refine VS [0,1,5,6,7,8,9,19] ?_;refine VD (fun h=>?_) (fun h=>?_)
  ·
   obtain ⟨qp,rfl⟩:=Qbj hr (by omega)
   obtain ⟨qh,hqh⟩:∃ qh,hh.1=some qh:=by
    have hn0:n≠0:=by
     have:=hch _ (Qa3 0 (l:=ch) (i:=j) (by omega));omega
    exact Qbj hrow (by omega)
   rw [hqh] at hci hrow;have hcl2:=Qbr hr (i:=j) (by omega);have hs:=hch _ (Qa3 0 (l:=ch) (i:=j) (by omega));have hct:=Qbr hrow (i:=ch.getD j 0) (by omega);have hsu:=hsu (by omega);have hx20:=QAv htx (ch.getD j 0);generalize ch.getD j 0=s at *;generalize t.getD s 0=x at *;generalize Qfw t (ch.take j)=q at *;refine VC_skip ?_;refine VB ?_;refine Vq [0,1,5,6,7,8,9] fun K hK=>?_;refine ⟨⟨by omega,by omega⟩,_,hci,?_⟩;(try refine Qs ?_);refine ⟨⟨by omega,by omega⟩,_,hcl2,?_⟩;(try refine Qs ?_);refine ⟨⟨by omega,by omega⟩,_,hct,?_⟩;(try refine Qs ?_);refine ⟨Xf (by omega) (by omega),?_⟩;apply hK;clear hK;refine Qaj ?_;refine VS [0,1,5,6,7,8,9] ?_;refine Qab ?_;refine Qs ?_;exact ⟨nc - (j+1),by omega,j+1,by rw [hsu];push_cast;rfl,rfl,by omega,rfl⟩
  obtain rfl:j=nc:=by omega
  rw [Yo (by omega),hci2] at *;clear h hj;refine Qag rfl ?_;refine VQ [0,1,5,6,7,8,40] fun K hK=>?_
  suffices out:∀ r:Bool,(r=true ↔ i=0∨c i < l)->K [(0,.slice (some qt) nt tc),(1,.slice pa j pc),(5,.int .i64 b),(6,.int .i64 l),(7,.int .i64 i),(8,.int .i64 (c i:Nat)),(40,.bool r)] w2 by (repeat' (first | exact out _ _ (by first | omega | (simp;done) | (simp;omega)) | exact out _ (by first | omega | (simp;done) | (simp;omega)) | refine ⟨fun _=>?_,fun _=>?_⟩ | refine Qo ?_))
  intro r hr2;apply hK;clear hK;refine Vi (fun h=>?_) (fun h=>?_)
  ·
   have hq:=hr2.1 h
   have hnew:i=Qie c i:=by
    cases i with
    | zero=>rfl
    | succ i =>
     obtain ⟨e1,e2⟩:=hbl (by omega);rw [Xp] at e1;rw [Qie,<- e1,<- e2,if_pos (by omega)]
   refine VS [0,1,5,7,8] ?_;refine VS [0,1,5,6,7] ?_;refine Qaj ?_;refine VS [0,1,5,6,7] ?_;refine Qab ?_;refine Qs ?_;exact ⟨nt - (i+1),by omega,i+1,i,c i,rfl,rfl,by omega,by omega,fun _=>⟨hnew,rfl⟩,rfl⟩
  have hq:¬ (i=0∨c i < l):=fun hh=>by rw [hr2.2 hh] at h;cases h
  have hnew:b=Qie c i:=by
   cases i with
   | zero=>exact absurd (.inl rfl) hq
   | succ i =>
    obtain ⟨e1,e2⟩:=hbl (by omega);rw [Xp] at e1;rw [Qie,<- e1,<- e2,if_neg (by omega)]
  refine VC_skip ?_;refine Qaj ?_;refine VS [0,1,5,6,7] ?_;refine Qab ?_;refine Qs ?_;exact ⟨nt - (i+1),by omega,i+1,b,l,rfl,rfl,by omega,by omega,fun _=>⟨hnew,(hbl (by omega)).2⟩,rfl⟩
 obtain rfl:i=nt:=by omega
 obtain ⟨e1,e2⟩:=hbl (by omega);refine Qag rfl ?_;refine VS [4] ?_;exact VC_ret (VX_ret1 rfl rfl ⟨rfl,by rw [e1]⟩)
theorem Qn5 (list P:List Nat) (t n:Nat) (hn:n<=258) (ht:t<=6) (hl1:1<=list.length) (hl:list.length<=1638350) (hls:∀ s∈list,s < n) (hlg:Qbe list.length<=P.length) (pa qa:Option Addr) (lc pc:Nat) (w:World) (hr:RS w pa list.length 1 (Qak list)) (hrP:RS w qa P.length 1 (Qak P)) :
  Does Yq 111 #[.slice pa list.length lc,.slice qa P.length pc,.int .i64 t,.int .i64 n] w fun v w'=>∃ g,Heap w [] w' [Yd 3 1 (some ⟨g,0,none⟩) n n (Qak (Qgc list P t n))]/\v=.slice (some ⟨g,0,none⟩) n n:=by
 rw [Qgd];obtain ⟨p,rfl⟩:=Qbj hr (by omega);obtain ⟨q,rfl⟩:=Qbj hrP (by unfold Qbe at hlg;omega);refine En [.slice (some p) list.length lc,.slice (some q) P.length pc,.int .i64 t,.int .i64 n] 36 Tryz.func111 ?_;generalize hnl:list.length=nl at *;generalize hnp:P.length=np at *;refine VS [0,1,2,3] ?_;refine VQ [0,1,2,9] fun K hK=>?_;refine Qbi Yc zi3 ?_;refine Qs ?_;refine ⟨n,n,⟨rfl,rfl,by omega,by omega,by omega⟩,?_⟩;have hH:=(Y7 w).row 3 (n:=n) (cap:=n) (sz:=1) (Qak (Ya n 0)) [] (by simp [Qal]) (by simp [Qal]) (by omega) (by omega);rw [Yh,Qbs] at hH;generalize w.alloc (Yy (Ya n (Xe Xd 0)).toArray 3)=w6 at *;generalize w.heap.size=g at *;rw [<- Qbs,<- Qx4 list P n t] at hH;(try refine Qs ?_);apply hK;clear hK;refine VS [0,1,2,9,10] ?_;refine Qac ?_;refine Qad [0,1,2,9,10] (fun m e w'=>∃ (i:Nat),Is e [(0,.slice (some p) nl lc),(1,.slice (some q) np pc),(2,.int .i64 t),(9,.slice (some ⟨g,0,none⟩) n n),(10,.int .i64 i)]/\Heap w [] w' [Yd 3 1 (some ⟨g,0,none⟩) n n (Qak (cntU list P n i t))]/\i<=nl/\m=nl - i) nl ?_ ?_
 ·
  refine Qs ?_;exact ⟨0,rfl,hH,by omega,rfl⟩
 clear hH;rintro m e w' ⟨i,rfl,hH,hi,rfl⟩;refine VS [0,1,2,9,10,16] ?_;refine VD (fun h=>?_) (fun h=>?_)
 ·
  have hs:=hls _ (Qa3 0 (l:=list) (i:=i) (by omega));have hsu:=Qqf (list:=list) (P:=P) (n:=n) (m:=i) (t:=t) hs;have hcl:=Qbr (hH.rs' hr) (i:=i) (by omega);have hjn:i / 50 < np:=by unfold Qbe at hlg;omega
  have hcp:=Qbr (hH.rs' hrP) (i:=i / 50) (by omega);have hcu:=Qa1 (hH.at 0 rfl) (Qb4 (l:=cntU list P n i t) (i:=list.getD i 0) (by rw [Qgf];exact hs));have hcx:=QCd (list:=list) (P:=P) (m:=i) (t:=t) hs;have hdi:(i:Int) / 50=((i / 50:Nat):Int):=by omega
  have hul:=Qgf list P n i t;generalize list.getD i 0=s at *;generalize P.getD (i / 50) 0=x at *;generalize hU1:cntU list P n (i+1) t=U1 at *;generalize cntU list P n i t=U at *;generalize U.getD s 0=y at *;refine VC_skip ?_;refine VB ?_;refine VQ [0,1,2,9,10,25] fun K hK=>?_;refine ⟨by omega,by decide,Xf (by omega) (by omega),?_⟩;rw [hdi];(try refine Qs ?_);refine ⟨⟨by omega,by omega⟩,_,hcp,?_⟩;(try refine Qs ?_);(repeat refine Qo ?_);apply hK;clear hK;refine VD (fun h=>?_) (fun h=>?_)
  ·
   rw [if_pos (by omega)] at hsu;refine VQ [0,1,2,9,10] fun K hK=>?_;refine ⟨⟨by omega,by omega⟩,_,hcl,?_⟩;(try refine Qs ?_);refine ⟨⟨by omega,by omega⟩,_,hcu,?_⟩;(try refine Qs ?_);refine ⟨Xf (by omega) (by omega),⟨by omega,by omega⟩,?_⟩;rw [show ((y:Int)+1)=((y+1:Nat):Int) by push_cast;rfl];refine Qaa ?_;refine Qs ?_;refine Qaz hH 0 (o:=s) (vs:=[.int .i64 (y+1:Nat)]) rfl (by simp [Qbg]) rfl (by kernel_rfl) (by simp only [Yj,Qal];omega) (by simp [Yt]) fun w9 hH2=>?_;simp only [Yb] at hH2;rw [Qhl (by omega),<- hsu] at hH2;(try refine Qs ?_);apply hK;clear hK;refine Qaj ?_;refine VS [0,1,2,9,10] ?_;refine Qab ?_;refine Qs ?_;exact ⟨nl - (i+1),by omega,i+1,rfl,by rw [hU1];exact hH2,by omega,rfl⟩
  rw [if_neg (by omega)] at hsu;refine VC_skip ?_;refine Qaj ?_;refine VS [0,1,2,9,10] ?_;refine Qab ?_;refine Qs ?_;exact ⟨nl - (i+1),by omega,i+1,rfl,by rw [hU1,hsu];exact hH,by omega,rfl⟩
 obtain rfl:i=nl:=by omega
 refine Qag rfl ?_;refine VS [8] ?_;exact VC_ret (VX_ret1 rfl rfl ⟨g,hH,rfl⟩)
end Go.Proofs.YthcdlcdnchaoiaaGreat
namespace Go.Eng
open Go
def subC:List Nat->Code->Code
 | [],c=>c
 | 0::p,.seq a _=>subC p a
 | _::p,.seq _ b=>subC p b
 | _::p,.block _ c=>subC p c
 | _::p,.loop c=>subC p c
 | _::p,.scope c=>subC p c
 | 0::p,.cond _ a _=>subC p a
 | _::p,.cond _ _ b=>subC p b
 | _,c=>c
def Qi8 (p:List Nat) (fn:Func):Code :=
 match fn.body with
 | some c=>subC p c
 | none=>.skip
theorem Qs4 {C:Ctx}{k:List It}{e:Env}{w:World} (ks:List Nat) (h:selK ks e fun e=>VC C k e w):VC C k e w :=
 fun a n ha=>((Qc6 ks e _).1 h) a n (ha.sel ks)
end Go.Eng
namespace Go.Proofs.YthcdlcdnchaoiaaGreat
open Go Go.Eng
set_option maxHeartbeats 4000000
theorem Qn6 (us:List (Option Addr×Nat)) (n:Nat) (a:Option Addr) (c:Nat):Qa0 us n++[.slice a n c]=Qa0 (us++[(a,c)]) n:=by simp [Qa0]
theorem QAw {w0 w:World}{B:List Nat}{G:List Res} (hX:Heap w0 B w G) (n:Nat) (hn:n<=1000000000):Heap w0 B (w.alloc (Yy (Ya n (Xe Xd 0)).toArray 3)) (Yd 3 1 (some ⟨w.heap.size,0,none⟩) n n (Qak (Ya n 0))::G):=by
 have h:=hX.row 3 (n:=n) (cap:=n) (sz:=1) (Qak (Ya n 0)) [] (by simp [Qal]) (by simp [Qal]) (by omega) (by omega);rw [Yh] at h;rw [<- Qbs];exact h
theorem Qqm {w0 w:World}{B:List Nat}{G:List Res} (hX:Heap w0 B w G) (n:Nat) (hn:n<=1000000000):Heap w0 B (w.alloc (Yy (Ya n (Y6 none 0 0)).toArray 51)) (Yd 51 1 (some ⟨w.heap.size,0,none⟩) n n (Ya n (Y6 none 0 0))::G):=by
 have h:=hX.row 51 (n:=n) (cap:=n) (sz:=1) (Ya n (Y6 none 0 0)) [] (by simp) (by simp) (by omega) (by omega);rw [Yh] at h;exact h
abbrev zS:Value:=.slice none 0 0
def Qfo (n many t s:Nat):Nat:=if s * many / n=t then 1 else 15
def Qf2 (n many t:Nat):List Nat:=(Yf n).map (Qfo n many t)
theorem Qmj (n many:Nat):Qhf n many=(Yf many).map (Qf2 n many):=rfl
theorem Qne (n many t:Nat):(Qf2 n many t).length=n:=by simp [Qf2]
theorem Qqn (n many:Nat) {t:Nat} (h:t < many):(Qhf n many).take (t+1)=(Qhf n many).take t++[Qf2 n many t]:=by
 have hg:(Qhf n many)[t]? = some (Qf2 n many t):=by rw [Qmj,Yw,Yu h];rfl
 rw [Up,hg];rfl
theorem Qqo (n many:Nat) {t:Nat} (h:t<=many):((Qhf n many).take t).length=t:=by rw [Qmj];simp;omega
theorem QH8 {us vs:List (Option Addr×Nat)}{n i:Nat}{T W:List (List Nat)}{h:Option Addr×Nat}{l:List Nat} (h1:us[i]? = some h) (h2:T[i]? = some l):(Qcp us n T++Qcp vs n W)[i]? = some (Yd 3 1 h.1 n h.2 (Qak l)):=by
 have h3:=Qqh n h1 h2;rw [Y0 (Y8.1 h3).1,h3]
theorem QLb {us vs:List (Option Addr×Nat)}{n many i:Nat}{T W:List (List Nat)}{h:Option Addr×Nat}{l:List Nat} (hm:(Qcp us n T).length=many) (h1:vs[i]? = some h) (h2:W[i]? = some l):(Qcp us n T++Qcp vs n W)[many+i]? = some (Yd 3 1 h.1 n h.2 (Qak l)):=by
 rw [Yz (by omega),hm,Ut,Qqh n h1 h2]
theorem QH9 {us vs:List (Option Addr×Nat)}{n many i:Nat}{T W:List (List Nat)}{h:Option Addr×Nat} (l:List Nat) (hm:(Qcp us n T).length=many) (h1:vs[i]? = some h):(Qcp us n T++Qcp vs n W).set (many+i) (Yd 3 1 h.1 n h.2 (Qak l))=Qcp us n T++Qcp vs n (W.set i l):=by
 rw [X9 _ _ (by omega),hm,Ut,QH4 h1]
theorem getD_some {α:Type}{l:List α}{i:Nat} (d:α) (h:i < l.length):l[i]? = some (l.getD i d):=by
 rw [Yi,Ye h];rfl
theorem Qgy {α:Type}{A B:List α}{k:Nat} (x:α) (hA:A.length=k) (hB:k < B.length):(A++B.drop k).set k x=(A++[x])++B.drop (k+1):=by
 rw [X9 _ _ (by omega),hA,Xb,List.drop_eq_getElem_cons hB,Yb,Yv];rfl
abbrev Qkk (gl gp:Nat):Value:=.func (.func 98) #[] #[.pointer (some ⟨gl,0,none⟩),.pointer (some ⟨gp,0,none⟩)]
theorem QCe {list:List Nat}{n:Nat} (hm:Qfg list n) (many:Nat):∀ r,(Qct list n many r).1.length=many/\(∀ t∈(Qct list n many r).1,t.length=n/\∀ x∈t,x<=20)/\(Qct list n many r).2.length=Qbe list.length
 | 0=>by
  refine ⟨by simp [Qct,Qhf],fun t ht=>?_,by simp [Qct]⟩;obtain ⟨i,_,rfl⟩:=Xg.1 ht;refine ⟨by simp,fun x hx=>?_⟩;obtain ⟨s,_,rfl⟩:=Xg.1 hx;split <;> omega
 | r+1=>by
  obtain ⟨h1,h2,h3,h4,h5⟩:=hm;rw [Qct];refine ⟨by simp [Qgj],fun t ht=>?_,by simp [Qgj,Qd6]⟩;obtain ⟨i,_,rfl⟩:=Xg.1 ht;have hc:=Qgf list (Qd6 list many (Qct list n many r).1) n list.length i;obtain ⟨a,b,c⟩:=QGh (w:=cntU list (Qd6 list many (Qct list n many r).1) n list.length i) (most:=17) (by omega) (by omega) (by omega) (by omega) (fun x hx=>by have:=QAp x hx;omega);rw [hc] at a;exact ⟨a,fun x hx=>by have:=b x hx;omega⟩
theorem Qx9 {F:Value->World->Prop}{kk:List It}{n many gN nl lc gl gr gT gP gp:Nat}{p:Addr}{w w5:World} (h1:3<=n) (h2:n<=258) (t1:2<=many) (t2:many<=6)
  (hH2:Heap w [] w5 (Yd 51 1 (some ⟨gT,0,none⟩) many many (Ya many zS)::Yd 3 1 (some ⟨gP,0,none⟩) gN gN (Qak (Ya gN 0))::Yl gp 70 (Qam (some ⟨gT,0,none⟩) many many (some ⟨gP,0,none⟩) gN gN)::Yl gr 70 (Qam none 0 0 none 0 0)::Yl gl 51 [.slice (some p) nl lc]::[]))
  (out:∀ w' us,Heap w [] w' (Yd 51 1 (some ⟨gT,0,none⟩) many many (Qa0 us n)::Yd 3 1 (some ⟨gP,0,none⟩) gN gN (Qak (Ya gN 0))::Yl gp 70 (Qam (some ⟨gT,0,none⟩) many many (some ⟨gP,0,none⟩) gN gN)::Yl gr 70 (Qam none 0 0 none 0 0)::Yl gl 51 [.slice (some p) nl lc]::Qcp us n (Qhf n many))->us.length=many->VC ⟨Yq,Xk,F,158⟩ kk [(1,.int .i64 n),(2,.pointer (some ⟨gl,0,none⟩)),(4,.pointer (some ⟨gr,0,none⟩)),(6,.int .i64 many),(8,.pointer (some ⟨gp,0,none⟩))] w') :
  VC ⟨Yq,Xk,F,158⟩ (.code (Qi8 [1,1,1,1,0,1] Xk)::kk) [(1,.int .i64 n),(2,.pointer (some ⟨gl,0,none⟩)),(4,.pointer (some ⟨gr,0,none⟩)),(6,.int .i64 many),(8,.pointer (some ⟨gp,0,none⟩)),(40,.int .i64 many),(41,.int .i64 0)] w5:=by
 conv in (Qi8 _ _)=>whnf
 refine Qac ?_;refine Qad [1,2,4,6,8,40,41] (fun m e w'=>∃ (t:Nat) (us:List (Option Addr×Nat)),Is e [(1,.int .i64 n),(2,.pointer (some ⟨gl,0,none⟩)),(4,.pointer (some ⟨gr,0,none⟩)),(6,.int .i64 many),(8,.pointer (some ⟨gp,0,none⟩)),(40,.int .i64 many),(41,.int .i64 t)]/\Heap w [] w' (Yd 51 1 (some ⟨gT,0,none⟩) many many (Qa0 us n++Ya (many - t) zS)::Yd 3 1 (some ⟨gP,0,none⟩) gN gN (Qak (Ya gN 0))::Yl gp 70 (Qam (some ⟨gT,0,none⟩) many many (some ⟨gP,0,none⟩) gN gN)::Yl gr 70 (Qam none 0 0 none 0 0)::Yl gl 51 [.slice (some p) nl lc]::Qcp us n ((Qhf n many).take t))/\us.length=t/\t<=many/\m=many - t) many ?_ ?_
 ·
  refine Qs ?_;exact ⟨0,[],rfl,hH2,rfl,by omega,rfl⟩
 clear hH2;rintro m e w4 ⟨t,us,rfl,hH,hus,ht,rfl⟩;refine VS [1,2,4,6,8,40,41,42] ?_;(repeat with_reducible refine Qax ?_);refine VD (fun h=>?_) (fun h=>?_)
 ·
  have hF:=hH.focus 0 rfl;have c0:=hH.hole_at 0 2 rfl rfl (by omega) (show (Qam (some ⟨gT,0,none⟩) many many (some ⟨gP,0,none⟩) gN gN)[0]? = some _ from rfl);have hAl:(Qa0 us n++Ya (many - t) zS).length=many:=by simp [Qc5];omega
  refine VC_skip ?_
  ((repeat with_reducible refine Qax ?_);(first | refine Qac ?_ | refine VB ?_))
  refine VS [1,2,4,6,8,9,40,41] ?_;refine VH (holes [gT] w4) (Ext.hole _ _) [1,2,4,6,8,9,40,41] [(0,true),(1,true),(2,true),(3,true),(4,false),(5,true),(6,false)] fun K hK=>?_;refine ⟨_,c0,?_⟩;refine Qbi Yc zi3 ?_;refine Qs ?_;refine ⟨n,n,⟨rfl,rfl,by omega,by omega,by omega⟩,?_⟩;have hF2:=QAw hF n (by omega);generalize w4.alloc (Yy (Ya n (Xe Xd 0)).toArray 3)=w5 at *;generalize w4.heap.size=gC at *;refine ⟨hF2.upd.extH,?_⟩;refine Qp ?_;refine Qaa ?_;refine Qs ?_;refine Qaz hF2 1 (o:=t) (vs:=[.slice (some ⟨gC,0,none⟩) n n]) rfl (by simp [Qbg]) rfl (by kernel_rfl) (by simp only [Yj];omega) (by simp [Yt]) fun w6 hF3=>?_;simp only [Yj,Qcb (Qa0 us n++Ya (many - t) zS) _ _ (show t < (Qa0 us n++Ya (many - t) zS).length by omega),Qjy (Qa0 us n) zS _ (show t < many by omega) (by rw [Qc5];exact hus),Qn6,Yb,Yg] at hF3;refine ⟨hF3.upd.extH,?_⟩;apply hK;clear hK;have hH3:=hH.call1 0 rfl (hF3.perm (.swap _ _ _));simp only [Yb,Yp] at hH3;clear hH hF hF2 hF3 c0;have hus2:(us++[((some ⟨gC,0,none⟩:Option Addr),n)])[t]? = some (some ⟨gC,0,none⟩,n):=by rw [Yz (by omega),hus,Xb];rfl
  have hcT:(Qa0 (us++[((some ⟨gC,0,none⟩:Option Addr),n)]) n++Ya (many - (t+1)) zS)[t]? = some (.slice (some ⟨gC,0,none⟩) n n):=by
   rw [Y0 (by rw [Qc5];simp;omega)];exact Qhk n hus2
  refine VS [1,2,4,6,8,9,40,41,50,51] ?_;refine Qac ?_;refine Qad [1,2,4,6,8,9,40,41,50,51] (fun m e w'=>∃ (i:Nat),Is e [(1,.int .i64 n),(2,.pointer (some ⟨gl,0,none⟩)),(4,.pointer (some ⟨gr,0,none⟩)),(6,.int .i64 many),(8,.pointer (some ⟨gp,0,none⟩)),(9,.int .i64 t),(40,.int .i64 many),(41,.int .i64 t),(50,.int .i64 n),(51,.int .i64 i)]/\Heap w [] w' (Yd 3 1 (some ⟨gC,0,none⟩) n n (Qak ((Yf i).map (Qfo n many t)++Ya (n - i) 0))::Yd 51 1 (some ⟨gT,0,none⟩) many many (Qa0 (us++[((some ⟨gC,0,none⟩:Option Addr),n)]) n++Ya (many - (t+1)) zS)::Yd 3 1 (some ⟨gP,0,none⟩) gN gN (Qak (Ya gN 0))::Yl gp 70 (Qam (some ⟨gT,0,none⟩) many many (some ⟨gP,0,none⟩) gN gN)::Yl gr 70 (Qam none 0 0 none 0 0)::Yl gl 51 [.slice (some p) nl lc]::Qcp us n ((Qhf n many).take t))/\i<=n/\m=n - i) n ?_ ?_
  ·
   refine Qs ?_;exact ⟨0,rfl,hH3,by omega,rfl⟩
  clear hH3;rintro m e w7 ⟨i,rfl,hH,hi,rfl⟩;refine VS [1,2,4,6,8,9,40,41,50,51,52] ?_;(repeat with_reducible refine Qax ?_);refine VD (fun h=>?_) (fun h=>?_)
  ·
   have hmul:i * many<=258 * 6:=Ul (by omega) (by omega);have hsl:((Yf i).map (Qfo n many t)).length=i:=by simp
   have hsn:(Yf (i+1)).map (Qfo n many t)=(Yf i).map (Qfo n many t)++[Qfo n many t i]:=by rw [Xr,X6];rfl
   have hs15:=Qjy ((Yf i).map (Qfo n many t)) 0 15 (show i < n by omega) hsl
   have hfin:((Yf i).map (Qfo n many t)++Ya (n - i) 0).set i (Qfo n many t i)=(Yf (i+1)).map (Qfo n many t)++Ya (n - (i+1)) 0:=by
    rw [Qjy _ 0 _ (show i < n by omega) hsl,hsn]
   have hCl:((Yf i).map (Qfo n many t)++Ya (n - i) 0).length=n:=by simp;omega
   generalize (Yf i).map (Qfo n many t)++Ya (n - i) 0=C at *;have c0:w7.cell? ⟨gp,0,none⟩=some (.slice (some ⟨gT,0,none⟩) many many):=Qah (hH.at 3 rfl) rfl;have c1:=Qa1 (hH.at 1 rfl) hcT;refine VC_skip ?_
   ((repeat with_reducible refine Qax ?_);(first | refine Qac ?_ | refine VB ?_))
   refine VS [1,2,4,6,8,9,10,40,41,50,51] ?_;refine VQ [1,2,4,6,8,9,10,40,41,50,51] fun K hK=>?_;refine ⟨_,c0,?_⟩;refine Qs ?_;refine ⟨⟨by omega,by omega⟩,_,c1,?_⟩;refine Qs ?_;refine Qp ?_;refine Qaa ?_;refine Qs ?_;refine Qaz hH 0 (o:=(i)) (vs:=[.int .i64 (15:Nat)]) rfl (by first | exact (Qbg _ _ _).symm | rfl | simp [Qbg]) rfl (by kernel_rfl) (by first | omega | (simp;done) | (simp;omega) | (simp [Qar,Qat];omega) | (rw [Qal];simp;omega)) (by simp [Yt]) fun w6 hH2=>?_;(try refine Qs ?_);simp only [Yj,Qcb (Qak C) _ _ (show i < (Qak C).length by rw [Qal];omega),Qck,Yb] at hH2;clear hH c0 c1;apply hK;clear hK;refine VQ [1,2,4,6,8,9,10,40,41,50,51,67] fun K hK=>?_;(repeat first | refine Qo ?_ | refine Qp ?_);rw [show ((i:Int) * many / n)=((i * many / n:Nat):Int) by push_cast;rfl];have hdv:i * many / n<=i * many:=Nat.div_le_self _ _;generalize hdq:i * many / n=dq at *;refine ⟨Xf (by omega) (by omega),?_⟩;apply hK;clear hK;refine VD (fun h=>?_) (fun h=>VC_skip ?_)
   ·
    have hsf:Qfo n many t i=1:=by unfold Qfo;rw [hdq,if_pos (by omega)]
    rw [hsf] at hfin;have c0:w6.cell? ⟨gp,0,none⟩=some (.slice (some ⟨gT,0,none⟩) many many):=Qah (hH2.at 3 rfl) rfl;have c1:=Qa1 (hH2.at 1 rfl) hcT;refine VQ [1,2,4,6,8,9,40,41,50,51] fun K hK=>?_;refine ⟨_,c0,?_⟩;refine Qs ?_;refine ⟨⟨by omega,by omega⟩,_,c1,?_⟩;refine Qs ?_;refine Qp ?_;have hCl2:(C.set i 15).length=n:=by rw [Xc];exact hCl
    refine Qaa ?_;refine Qs ?_;refine Qaz hH2 0 (o:=(i)) (vs:=[.int .i64 (1:Nat)]) rfl (by first | exact (Qbg _ _ _).symm | rfl | simp [Qbg]) rfl (by kernel_rfl) (by first | omega | (simp;done) | (simp;omega) | (simp [Qar,Qat];omega) | (rw [Qal];simp;omega)) (by simp [Yt]) fun w6 hH3=>?_;(try refine Qs ?_);simp only [Yj,Qcb (Qak (C.set i 15)) _ _ (show i < (Qak (C.set i 15)).length by rw [Qal];omega),Qck,Yb,Uu,hfin] at hH3;clear hH2 c0 c1;apply hK;clear hK;refine Qaj ?_;refine VS [1,2,4,6,8,9,40,41,50,51] ?_;refine Qab ?_;refine Qs ?_;exact ⟨n - (i+1),by omega,i+1,rfl,hH3,by omega,rfl⟩
   have hsf:Qfo n many t i=15:=by unfold Qfo;rw [hdq,if_neg (by omega)]
   rw [hsf] at hfin;rw [hfin] at hH2;refine Qaj ?_;refine VS [1,2,4,6,8,9,40,41,50,51] ?_;refine Qab ?_;refine Qs ?_;exact ⟨n - (i+1),by omega,i+1,rfl,hH2,by omega,rfl⟩
  obtain rfl:i=n:=by omega
  rw [Xb,Y3,Yh] at hH;have hH2:=hH.perm (X1 _ _).symm;simp only [Xh] at hH2;have hrr:=Qnd (hs:=us) (L:=(Qhf i many).take t) i (by rw [Qqo _ _ (by omega)];exact hus) (some ⟨gC,0,none⟩) i (Qf2 i many t);rw [<- Qqn _ _ (by omega)] at hrr
  have hH3:Heap w [] w7 (Yd 51 1 (some ⟨gT,0,none⟩) many many (Qa0 (us++[((some ⟨gC,0,none⟩:Option Addr),i)]) i++Ya (many - (t+1)) zS)::Yd 3 1 (some ⟨gP,0,none⟩) gN gN (Qak (Ya gN 0))::Yl gp 70 (Qam (some ⟨gT,0,none⟩) many many (some ⟨gP,0,none⟩) gN gN)::Yl gr 70 (Qam none 0 0 none 0 0)::Yl gl 51 [.slice (some p) nl lc]::Qcp (us++[((some ⟨gC,0,none⟩:Option Addr),i)]) i ((Qhf i many).take (t+1))):=by
   rw [<- hrr];exact hH2
  clear hH hH2 hrr;refine Qag rfl ?_;refine Qaj ?_;refine VS [1,2,4,6,8,40,41] ?_;refine Qab ?_;refine Qs ?_;exact ⟨many - (t+1),by omega,t+1,_,rfl,hH3,by simp [hus],by omega,rfl⟩
 obtain rfl:t=many:=by omega
 rw [Xb,Y3,Yh,Yo (by rw [Qmj];simp)] at hH;generalize t=many at *;refine Qag rfl ?_;refine Qs4 [1,2,4,6,8] ?_;refine Qs ?_;exact out _ _ hH hus
set_option maxHeartbeats 4000000
theorem QE1 (l:List Nat):(Yf l.length).map (fun i=>l.getD i 0)=l:=by
 apply Xa;intro j;rw [Yw];by_cases h:j < l.length
 ·
  rw [Yu h,Ye h,Option.map_some,Yi,Ye h];rfl
 rw [Ys (by simpa using h),Ys (by omega)];rfl
theorem QAx (list:List Nat) (g n:Nat):Qgc list (Ya g 0) 0 n=Qeo list n:=by
 unfold Qgc Qeo;refine Ui fun s _=>?_
 have h0:∀ k,(Ya g 0).getD k 0=0:=fun k=>by
  rw [Yi,Xn];split <;> rfl
 have e:(fun i=>list.getD i 0 == s && (Ya g 0).getD (i / 50) 0 == 0)=((fun x=>x == s) ∘ fun i=>list.getD i 0):=by
  funext i;rw [h0];simp
 rw [e,<- List.countP_map,QE1];rfl
theorem Qya (list:List Nat) (n:Nat) (hm:Qfg list n) (a:Option Addr) (lc:Nat) (w:World) (hr:RS w a list.length 1 (Qak list)) :
  Does Yq 77 #[.slice a list.length lc,.int .i64 n] w fun x w'=>∃ v G,Heap w [] w' G/\QEu G v (Qby list n).1 (Qby list n).2/\x=.tuple #[v,.int .i64 0]:=by
 have hml:=Qmi list n hm a lc;have hfl:=Qt6 hm;obtain ⟨h1,h2,h3,h4,h5⟩:=hm;have hg1:=(Qfk h3 h4);have hco:=fun pa qa pc w hr hrP=>Qn5 list (Ya (Qbe list.length) 0) 0 n h2 (by omega) h3 h4 h5 (by rw [Xj];exact Ug _) pa qa lc pc w hr hrP;rw [QAx,Xj] at hco;have hql:(Qeo list n).length=n:=by simp [Qeo]
 have hqx:∀ x∈Qeo list n,x<=1073741824:=fun x hx=>by
  obtain ⟨s,_,rfl⟩:=Xg.1 hx;have:=Uf (a:=s) (l:=list);omega
 have hfd:=fun pa w=>QAu (Qeo list n) (by omega) (by omega) hqx pa n w;rw [hql] at hfd;have hfS:(Qdr (Qeo list n)).length=n:=hfl.1;obtain ⟨p,rfl⟩:=Qbj hr (by omega);unfold Qby;refine En [.slice (some p) list.length lc,.int .i64 n] 33 Tryz.func77 ?_;generalize hnl:list.length=nl at *;refine VQ [0,1,4] fun K hK=>?_;refine Qao (.agg #[.slice none 0 0,.slice none 0 0]) (by kernel_rfl) ?_;refine Qs ?_;have hH:=(Y7 w).box 70 (Qam none 0 0 none 0 0);have hpl:[Y6 none 0 0,Y6 none 0 0]=Qam none 0 0 none 0 0:=rfl;rw [hpl];generalize w.alloc (Yy (Qam none 0 0 none 0 0).toArray 70)=w1 at *;generalize w.heap.size=gr at *;apply hK;clear hK;refine VQ [0,1,4,12] fun K hK=>?_;refine MemK_call Tryz.call106 ?_;refine Qs ?_;refine Yr (hml w1 (hH.rs' hr)) ?_;rintro v w2 ⟨rfl,rfl⟩;(try refine Qs ?_);apply hK;clear hK;refine Qaf rfl rfl (fun h=>by simp at h) (fun h=>VC_skip ?_);clear h;refine VQ [0,1,4,6] fun K hK=>?_;refine MemK_call Ge ?_;refine Qs ?_;refine Yr (Qh5 nl (by omega) w2) ?_;rintro v w8 ⟨rfl,rfl⟩;(try refine Qs ?_);generalize hgN:Qbe nl=gN at *;refine Qbi Yc zi3 ?_;refine Qs ?_;refine ⟨gN,gN,⟨rfl,rfl,by omega,by omega,by omega⟩,?_⟩;have hH5:=hH.row 3 (n:=gN) (cap:=gN) (sz:=1) (Qak (Ya gN 0)) [] (by simp [Qal]) (by simp [Qal]) (by omega) (by omega);rw [Yh,Qbs] at hH5;generalize w8.alloc (Yy (Ya gN (Xe Xd 0)).toArray 3)=w9 at *;generalize w8.heap.size=gz at *;rw [<- Qbs] at hH5;clear hH;(try refine Qs ?_);apply hK;clear hK;refine VQ [4,6,7] fun K hK=>?_;refine MemK_call Tryz.call111 ?_;refine Qs ?_;refine Yr (hco (some p) _ gN w9 (hH5.rs' hr) (Qaq (hH5.at 0 rfl))) ?_;rintro v w10 ⟨gc,hHc,rfl⟩;have hH6:=hH5.call0 hHc;simp only [Yp] at hH6;clear hH5 hHc hco;(try refine Qs ?_);refine MemK_call Tryz.call112 ?_;refine Qs ?_;refine Yr (hfd _ w10 (Qaq (hH6.at 0 rfl))) ?_;rintro v w11 ⟨aF,cF,hHf,rfl⟩;have hH7:=hH6.call0 hHf;simp only [Yp] at hH7;have hH8:Heap w [] w11 [Yd 3 1 aF (Qdr (Qeo list n)).length cF (Qak (Qdr (Qeo list n))),Yd 3 1 (some ⟨gz,0,none⟩) gN gN (Qak (Ya gN 0)),Yl gr 70 (Qam none 0 0 none 0 0)]:=hH7.sub (.cons_cons _ (Yn _ _));clear hH6 hHf hfd hH7;(try refine Qs ?_);apply hK;clear hK;generalize hF:Qdr (Qeo list n)=F at *;refine VQ [4,5] fun K hK=>?_;refine Qbb hH8 (Qak []) (xs:=[]) Yc sz3 rfl rfl rfl (by omega) ?_;refine Qs ?_;refine ⟨rfl,by simp [Y2],fun g w4 hH=>?_⟩;(try refine Qs ?_);refine Qai ?_;refine Qs ?_;refine Qbn (zs:=#[.int .i64 0]) (bytes:=8) hH 0 rfl Yc (by kernel_rfl) rfl (Qkd (Qaq (hH.at 1 rfl)) Yc) (Qdc _) (fun h=>by omega) fun a' cap' w5 hc' hH2=>?_;simp only [Yb,Qak,List.map_nil,Yx,Xo] at hH2;(try refine Qs ?_);have hH3:Heap w [] w5 [Yd 3 1 a' F.length cap' (Qak F),Yd 3 1 aF F.length cF (Qak F),Yd 3 1 (some ⟨gz,0,none⟩) gN gN (Qak (Ya gN 0)),Yl gr 70 (Qam none 0 0 none 0 0)]:=hH2;refine Qbb hH3 (Qbq [(aF,cF),(a',cap')] [F,F]) (xs:=[.tmp 26,.tmp 29]) Y5 sz51 rfl rfl rfl (by omega) ?_;refine Qs ?_;refine ⟨rfl,by simp [Y2],fun gt w7 hH4=>?_⟩;(try refine Qs ?_);refine Qaa ?_;refine Qs ?_;refine Qae hH4 4 (vs:=Qam (some ⟨gt,0,none⟩) 2 2 (some ⟨gz,0,none⟩) gN gN) rfl rfl (by kernel_rfl) (by simp [Qam]) (Qb0 _ _ _ _ _ _) fun w10 hH6=>?_;simp only [Yb,Yg] at hH6;(try refine Qs ?_);apply hK;clear hK;refine VC_ret (Qdo rfl rfl rfl (Qbw (hH6.at 4 rfl) (by kernel_rfl) (by kernel_rfl) rfl ?_));refine ⟨_,_,hH6.sub (U6 4 _),fun w' hh=>Qjz rfl rfl (by simp) rfl (Qaq (hh _ (Ym (i:=0) rfl))) (Qaq (hh _ (Ym (i:=3) rfl))) (fun i h t h6 h7=>?_),rfl⟩
 match i with
 | 0=>cases h6;cases h7;exact Qaq (hh _ (Ym (i:=2) rfl))
 | 1=>cases h6;cases h7;exact Qaq (hh _ (Ym (i:=1) rfl))
 | i+2=>simp at h6
set_option maxHeartbeats 8000000
def TabsG (G:List Res) (hs:List (Option Addr×Nat)) (n:Nat) (T:List (List Nat)):Prop:=∀ w:World,(∀ r∈G,r.holds w)->∀ (i:Nat) (h:Option Addr×Nat) (t:List Nat),hs[i]? = some h->T[i]? = some t->RS w h.1 n 1 (Qak t)
theorem TabsG.snoc {G:List Res}{hs:List (Option Addr×Nat)}{n:Nat}{T:List (List Nat)} (h:TabsG G hs n T) (hl:hs.length=T.length) (a:Option Addr) (c:Nat) (t:List Nat):TabsG (Yd 3 1 a n c (Qak t)::G) (hs++[(a,c)]) n (T++[t]):=fun w hw i h' t' h1 h2=>by
 by_cases hi:i < hs.length
 ·
  rw [Y0 hi] at h1;rw [Y0 (by omega)] at h2;exact h w (fun r hr=>hw r (Xu _ hr)) i h' t' h1 h2
 have hi2:i=hs.length:=by
  have:=(Y8.1 h1).1;simp at this;omega
 rw [Yz (by omega),hi2,Xb] at h1;rw [Yz (by omega),hi2,hl,Xb] at h2;cases h1;cases h2;exact Qaq (hw _ (X7 ..))
theorem TabsG.set {G:List Res}{hs:List (Option Addr×Nat)}{n:Nat}{T:List (List Nat)} (h:TabsG G hs n T) (hl:hs.length=T.length) (k:Nat) (a:Option Addr) (c:Nat) (t:List Nat):TabsG (Yd 3 1 a n c (Qak t)::G) (hs.set k (a,c)) n (T.set k t):=fun w hw i h' t' h1 h2=>by
 rw [Xm] at h1 h2;by_cases e:k=i
 ·
  rw [if_pos e] at h1 h2;by_cases hk:k < hs.length
  ·
   rw [if_pos hk] at h1;rw [if_pos (by omega)] at h2;cases h1;cases h2;exact Qaq (hw _ (X7 ..))
  rw [if_neg hk] at h1;cases h1
 rw [if_neg e] at h1 h2;exact h w (fun r hr=>hw r (Xu _ hr)) i h' t' h1 h2
theorem QAz (n many t:Nat) {s:Nat} (h:s < n):(Qf2 n many t).take (s+1)=(Qf2 n many t).take s++[Qfo n many t s]:=by
 rw [Qb2 0 (by rw [Qne];exact h),Qf2,Qgk _ _ _ _ h]
theorem Qrp (list:List Nat) (n:Nat) (hm:Qfg list n) (p:Addr) (hps:p.spot=none) (lc:Nat) (hlc:list.length<=lc) (w:World) (hr:RS w (some p) list.length 1 (Qak list)) :
  Does Yq 76 #[.slice (some p) list.length lc,.int .i64 n] w fun x w'=>∃ v G,Heap w [] w' G/\QEu G v (Qc4 list n).1 (Qc4 list n).2/\x=.tuple #[v,.int .i64 0]:=by
 have hml:=Qmi list n hm (some p) lc;have hround:=QCe hm (Qcf list.length);obtain ⟨h1,h2,h3,h4,h5⟩:=hm;obtain ⟨t1,t2⟩:=Qm3 list.length;have hg1:=(Qfk h3 h4);have hta:=Qro list.length h3 (by omega);have hro:∀ r,Qct list n (Qcf list.length) (r+1)=Qgj list n (Qcf list.length) (Qct list n (Qcf list.length) r):=fun r=>rfl;have hr0:Qct list n (Qcf list.length) 0=(Qhf n (Qcf list.length),Ya (Qbe list.length) 0):=rfl;unfold Qc4;have hpi:∀ T,(Qd6 list (Qcf list.length) T).length=Qbe list.length:=fun T=>by simp [Qd6]
 refine En [.slice (some p) list.length lc,.int .i64 n] 101 Tryz.func76 ?_;generalize hmy:Qcf list.length=many at *;generalize hgN:Qbe list.length=gN at *;generalize hnl:list.length=nl at *;refine VQ [0,1,4] fun K hK=>?_;refine Qao (.agg #[.slice none 0 0,.slice none 0 0]) (by kernel_rfl) ?_;refine Qs ?_;have hH:=(Y7 w).box 70 (Qam none 0 0 none 0 0);have hpl:[Y6 none 0 0,Y6 none 0 0]=Qam none 0 0 none 0 0:=rfl;rw [hpl];generalize w.alloc (Yy (Qam none 0 0 none 0 0).toArray 70)=w1 at *;generalize w.heap.size=gr at *;apply hK;clear hK;refine VQ [0,1,4,21] fun K hK=>?_;refine MemK_call Tryz.call106 ?_;refine Qs ?_;refine Yr (hml w1 (hH.rs' hr)) ?_;rintro v w2 ⟨rfl,rfl⟩;(try refine Qs ?_);apply hK;clear hK;refine Qaf rfl rfl (fun h=>by simp at h) (fun h=>VC_skip ?_);clear h;refine VQ [0,1,4,6] fun K hK=>?_;refine MemK_call Tryz.call107 ?_;refine Qs ?_;refine Yr (hta w2) ?_;rintro v w3 ⟨rfl,rfl⟩;(try refine Qs ?_);apply hK;clear hK;refine VQ [0,1,4,6,8] fun K hK=>?_;refine Qbi Y5 zi51 ?_;refine Qs ?_;refine ⟨many,many,⟨rfl,rfl,by omega,by omega,by omega⟩,?_⟩;have hH2:=Qqm hH many (by omega);generalize w3.alloc (Yy (Ya many (Y6 none 0 0)).toArray 51)=w5 at *;generalize w3.heap.size=gT at *;clear hH;(try refine Qs ?_);apply hK;clear hK;refine VS [0,1,4,6,8,9] ?_;refine Qac ?_;refine Qad [0,1,4,6,8,9] (fun m e w'=>∃ (t:Nat) (hs:List (Option Addr×Nat)) (G:List Res),Is e [(0,.slice (some p) nl lc),(1,.int .i64 n),(4,.pointer (some ⟨gr,0,none⟩)),(6,.int .i64 many),(8,.slice (some ⟨gT,0,none⟩) many many),(9,.int .i64 t)]/\Heap w [] w' (Yd 51 1 (some ⟨gT,0,none⟩) many many (Qa0 hs n++Ya (many - t) zS)::Yl gr 70 (Qam none 0 0 none 0 0)::G)/\hs.length=t/\TabsG G hs n ((Qhf n many).take t)/\t<=many/\m=many - t) many ?_ ?_
 ·
  refine Qs ?_;exact ⟨0,[],[],rfl,hH2,rfl,fun w hw i h' t' h1 h2=>by simp at h1,by omega,rfl⟩
 clear hH2;rintro m e w' ⟨t,hs,G,rfl,hH,hsl,hTG,ht,rfl⟩;refine VS [0,1,4,6,8,9,33] ?_;refine VD (fun h=>?_) (fun h=>?_)
 ·
  have hrep:Ya (many - t) zS=zS::Ya (many - (t+1)) zS:=by rw [show many - t=(many - (t+1))+1 by omega,Xv]
  have htl:=Qqo n many (t:=t) (by omega);have hsn:=Qqn n many (t:=t) (by omega);rw [hrep] at hH;refine VC_skip ?_;refine VB ?_;refine VS [0,1,4,6,8,9,10] ?_;refine Qac ?_;refine Qad [0,1,4,6,8,9,10] (fun m e w'=>∃ (s c:Nat) (a:Option Addr),Is e [(0,.slice (some p) nl lc),(1,.int .i64 n),(4,.pointer (some ⟨gr,0,none⟩)),(6,.int .i64 many),(8,.slice (some ⟨gT,0,none⟩) many many),(9,.int .i64 t),(10,.int .i64 s)]/\Heap w [] w' (Yd 3 1 a ((Qf2 n many t).take s).length c (Qak ((Qf2 n many t).take s))::Yd 51 1 (some ⟨gT,0,none⟩) many many (Qa0 hs n++.slice a ((Qf2 n many t).take s).length c::Ya (many - (t+1)) zS)::Yl gr 70 (Qam none 0 0 none 0 0)::G)/\s<=n/\m=n - s) n ?_ ?_
  ·
   refine Qs ?_;exact ⟨0,0,none,rfl,hH.nilRow 3 1,by omega,rfl⟩
  clear hH;rintro m e w4 ⟨s,c,a,rfl,hH,hs1,rfl⟩;refine VS [0,1,4,6,8,9,10,38] ?_;refine VD (fun h=>?_) (fun h=>?_)
  ·
   have hmul:s * many<=258 * 6:=Ul (by omega) (by omega);have hRs:=QAz n many t (s:=s) (by omega);have hRl:((Qf2 n many t).take s).length=s:=by rw [Y1,Qne];omega
   have hsF:Qfo n many t s=if s * many / n=t then 1 else 15:=rfl
   have hpm:=fun (x b:Value)=>QGg (Qa0 hs n) (Ya (many - (t+1)) zS) x b (k:=t) (by rw [Qc5];exact hsl);have hct:w4.cell? ⟨gT,t,none⟩=some (.slice a ((Qf2 n many t).take s).length c):=Qa1 (hH.at 1 rfl) (by rw [Yz (by rw [Qc5];omega),Qc5,hsl,Xb];rfl);have hRa:((Qf2 n many t).take s++[Qfo n many t s]).length=s+1:=by rw [Yk,hRl];rfl
   have hdv:((s * many:Nat):Int) / (n:Int)=((s * many / n:Nat):Int):=by push_cast;rfl
   have hdq:s * many / n<=258 * 6:=Uv (Nat.div_le_self _ _) hmul;generalize hQ:s * many / n=Q at *;generalize Qfo n many t s=x at *;generalize hR1:(Qf2 n many t).take (s+1)=R1 at *;generalize (Qf2 n many t).take s=R at *;refine VC_skip ?_;refine VB ?_;refine VS [0,1,4,6,8,9,10,11] ?_;refine VQ [0,1,4,6,8,9,10,11,47] fun K hK=>?_;rw [show ((s:Int) * many)=((s * many:Nat):Int) by push_cast;rfl];rw [hdv];refine ⟨Xf (by omega) (by omega),by omega,by omega,Xf (by omega) (by omega),?_⟩;apply hK;clear hK;refine Qdl [0,1,4,6,8,9,10,11] (fun e w'=>Is e [(0,.slice (some p) nl lc),(1,.int .i64 n),(4,.pointer (some ⟨gr,0,none⟩)),(6,.int .i64 many),(8,.slice (some ⟨gT,0,none⟩) many many),(9,.int .i64 t),(10,.int .i64 s),(11,.int .i64 x)]/\Is w' w4) ?_ ?_
   ·
    refine VD (fun h=>?_) (fun h=>?_)
    ·
     have hx:x=1:=by rw [hsF,if_pos (by omega)]
     refine VS [0,1,4,6,8,9,10,11] ?_;refine Qab ?_;refine Qs ?_;exact ⟨by rw [hx];rfl,rfl⟩
    have hx:x=15:=by rw [hsF,if_neg (by omega)]
    refine VC_skip ?_;refine Qab ?_;refine Qs ?_;exact ⟨by rw [hx];rfl,rfl⟩
   rintro e w6 ⟨rfl,rfl⟩;refine VQ [0,1,4,6,8,9,10] fun K hK=>?_;refine ⟨⟨by omega,by omega⟩,_,hct,?_⟩;(try refine Qs ?_);refine Qcd (xs:=[.tmp 54]) Yc sz3 rfl rfl rfl (by omega) ?_;refine Qs ?_;refine ⟨by simp [Y2],?_⟩;refine Qai ?_;refine Qs ?_;refine Qiv hH 0 (x) rfl Yc zi3 (by first | rfl | (simp;done) | omega | (simp;omega)) (fun h=>by (first | omega | (simp;done) | (simp;omega))) fun a' cap' w5 hc' hH2=>?_;(try refine Qs ?_);simp only [Yb] at hH2;rw [<- hRs] at hH2 ⊢;(try refine Qs ?_);refine Qp ?_;refine Qaa ?_;refine Qs ?_;refine Qaz hH2 1 (o:=t) (vs:=[.slice a' R1.length cap']) rfl (by simp [Qbg]) rfl (by kernel_rfl) (by simp only [Yj,Yk,Y9,List.length_nil,Xj,Qc5];omega) (by simp [Yt]) fun w7 hH3=>?_;simp only [Yb,Yg] at hH3;rw [hpm] at hH3;(try refine Qs ?_);apply hK;clear hK;refine Qaj ?_;refine VS [0,1,4,6,8,9,10] ?_;refine Qab ?_;refine Qs ?_;exact ⟨n - (s+1),by omega,s+1,cap',a',rfl,by rw [hR1];exact hH3,by omega,rfl⟩
  obtain rfl:s=n:=by omega
  have hRl:=Qne s many t;rw [Yo (by omega),hRl] at hH;have hnew:Qa0 hs s++.slice a s c::Ya (many - (t+1)) zS=Qa0 (hs++[(a,c)]) s++Ya (many - (t+1)) zS:=by simp [Qa0]
  rw [hnew] at hH;have hTG2:=hTG.snoc (by rw [htl];exact hsl) a c (Qf2 s many t);rw [<- hsn] at hTG2;have hH2:=hH.perm ((List.Perm.swap _ _ _).trans (.cons _ (.swap _ _ _)));refine Qag rfl ?_;refine Qaj ?_;refine VS [0,1,4,6,8,9] ?_;refine Qab ?_;refine Qs ?_;exact ⟨many - (t+1),by omega,t+1,hs++[(a,c)],_,rfl,hH2,by simp [hsl],hTG2,by omega,rfl⟩
 obtain rfl:t=many:=by omega
 rw [Xb,Y3,Yh] at hH;rw [Yo (by rw [Qmj];simp)] at hTG;clear h ht;generalize t=many at *;refine Qag rfl ?_;refine VQ [0,1,4,6,8,12] fun K hK=>?_;refine MemK_call Ge ?_;refine Qs ?_;refine Yr (Qh5 nl (by omega) w') ?_;rintro v w8 ⟨rfl,rfl⟩;rw [hgN];(try refine Qs ?_);refine Qbi Yc zi3 ?_;refine Qs ?_;refine ⟨gN,gN,⟨rfl,rfl,by omega,by omega,by omega⟩,?_⟩;have hH5:=hH.row 3 (n:=gN) (cap:=gN) (sz:=1) (Qak (Ya gN 0)) [] (by simp [Qal]) (by simp [Qal]) (by omega) (by omega);rw [Yh,Qbs] at hH5;generalize w8.alloc (Yy (Ya gN (Xe Xd 0)).toArray 3)=w9 at *;generalize w8.heap.size=gP at *;rw [<- Qbs] at hH5;clear hH;(try refine Qs ?_);apply hK;clear hK;refine VS [0,1,4,6,8,12,13] ?_;refine Qac ?_;refine Qad [0,1,4,6,8,12,13] (fun m e w'=>∃ (r:Nat) (hs:List (Option Addr×Nat)) (G:List Res),Is e [(0,.slice (some p) nl lc),(1,.int .i64 n),(4,.pointer (some ⟨gr,0,none⟩)),(6,.int .i64 many),(8,.slice (some ⟨gT,0,none⟩) many many),(12,.slice (some ⟨gP,0,none⟩) gN gN),(13,.int .i64 r)]/\Heap w [] w' (Yd 3 1 (some ⟨gP,0,none⟩) gN gN (Qak (Qct list n many r).2)::Yd 51 1 (some ⟨gT,0,none⟩) many many (Qa0 hs n)::Yl gr 70 (Qam none 0 0 none 0 0)::G)/\hs.length=many/\TabsG G hs n (Qct list n many r).1/\r<=4/\m=4 - r) 4 ?_ ?_
 ·
  refine Qs ?_;exact ⟨0,hs,G,rfl,by rw [hr0];exact hH5,hsl,by rw [hr0];exact hTG,by omega,rfl⟩
 clear hH5 hTG hsl;rintro m e w' ⟨r,hs,G,rfl,hH,hsl,hTG,hr4,rfl⟩;refine VS [0,1,4,6,8,12,13,63] ?_;refine VD (fun h=>?_) (fun h=>?_)
 ·
  have hrs:=hro r;obtain ⟨hTl,hTx,hPl⟩:=hround r;obtain ⟨hTl2,hTx2,hPl2⟩:=hround (r+1);generalize hX2:Qct list n many (r+1)=X2 at *;generalize Qct list n many r=X at *;obtain ⟨T,P⟩:=X;simp only at hH hTG hTl hTx hPl;unfold Qgj at hrs;simp only at hrs;have hpl:=hpi T
  have hpk:∀ k,k < gN->(Qd6 list many T).getD k 0=Qie (fun t=>Qfw (T.getD t []) (Qcs list k)) (many - 1):=fun k hk=>by
   rw [Qd6,Qgk _ _ _ _ (by rw [hnl,hgN];exact hk)]
  generalize hP2:Qd6 list many T=P2 at *;refine VC_skip ?_;refine VB ?_;refine VS [0,1,4,6,8,12,13,14] ?_;refine Qac ?_;refine Qad [0,1,4,6,8,12,13,14] (fun m e w'=>∃ (k:Nat),Is e [(0,.slice (some p) nl lc),(1,.int .i64 n),(4,.pointer (some ⟨gr,0,none⟩)),(6,.int .i64 many),(8,.slice (some ⟨gT,0,none⟩) many many),(12,.slice (some ⟨gP,0,none⟩) gN gN),(13,.int .i64 r),(14,.int .i64 k)]/\Heap w [] w' (Yd 3 1 (some ⟨gP,0,none⟩) gN gN (Qak (P2.take k++P.drop k))::Yd 51 1 (some ⟨gT,0,none⟩) many many (Qa0 hs n)::Yl gr 70 (Qam none 0 0 none 0 0)::G)/\k<=gN/\m=gN - k) gN ?_ ?_
  ·
   refine Qs ?_;exact ⟨0,rfl,by rw [Xx,Xw,Yx];exact hH,by omega,rfl⟩
  clear hH;rintro m e w4 ⟨k,rfl,hH,hk,rfl⟩;refine VS [0,1,4,6,8,12,13,14,69] ?_;refine VD (fun h=>?_) (fun h=>?_)
  ·
   have hk50:50 * k < list.length:=by unfold Qbe at hgN;omega
   have hpt:=QEy list k hk50 (by omega) p lc (by omega) w4;have hgr:=Qud (hH.rs' (by rw [<- hnl] at hr;exact hr)) hps hk50;have hpick:=QE0 T (Qcs list k) n (by omega) (by omega) hTx (by simp [Qcs];omega) (fun s hs=>h5 s (Uw (Xt hs))) hs (some ⟨gT,0,none⟩) (some (p.add (50 * k))) many (lc - 50 * k) w4 (by rw [hTl];exact hsl) (by rw [hTl];exact Qaq (hH.at 1 rfl)) (fun i h t a b=>hTG w4 (fun q hq=>hH.holds q (by simp [hq])) i h t a b) hgr;have hpk2:=hpk k (by omega);rw [hTl,<- hpk2] at hpick;rw [hnl] at hpt;have htk:=Qb2 0 (l:=P2) (i:=k) (by omega);have hset:=fun x=>Qgy (A:=P2.take k) (B:=P) (k:=k) x (by rw [Y1];omega) (by omega);have hPkl:(P2.take k++P.drop k).length=gN:=by rw [Yk,Y1,Ur];omega
   generalize P2.getD k 0=x at *;refine VC_skip ?_;refine VB ?_;refine VQ [0,1,4,6,8,12,13,14] fun K hK=>?_;refine MemK_call Tryz.call109 ?_;refine Qs ?_;refine Yr hpt ?_;rintro v w5 ⟨rfl,rfl⟩;(try refine Qs ?_);refine MemK_call Tryz.call108 ?_;refine Qs ?_;refine Yr hpick ?_;rintro v w6 ⟨rfl,rfl⟩;(try refine Qs ?_);refine Qp ?_;refine Qaa ?_;refine Qs ?_;refine Qaz hH 0 (o:=k) (vs:=[.int .i64 (x:Nat)]) rfl (by simp [Qbg]) rfl (by kernel_rfl) (by simp only [Yj,Qal];omega) (by simp [Yt]) fun w7 hH3=>?_;simp only [Yb] at hH3;rw [Qhl (by omega),hset,<- htk] at hH3;(try refine Qs ?_);apply hK;clear hK;refine Qaj ?_;refine VS [0,1,4,6,8,12,13,14] ?_;refine Qab ?_;refine Qs ?_;exact ⟨gN - (k+1),by omega,k+1,rfl,hH3,by omega,rfl⟩
  have hkg:k=gN:=by omega
  rw [Yo (by omega),Y4 (by omega),Yh] at hH;clear h hk hkg;refine Qag rfl ?_;refine VS [0,1,4,6,8,12,13,15] ?_;refine Qac ?_;refine Qad [0,1,4,6,8,12,13,15] (fun m e w'=>∃ (t:Nat) (hs:List (Option Addr×Nat)) (G:List Res),Is e [(0,.slice (some p) nl lc),(1,.int .i64 n),(4,.pointer (some ⟨gr,0,none⟩)),(6,.int .i64 many),(8,.slice (some ⟨gT,0,none⟩) many many),(12,.slice (some ⟨gP,0,none⟩) gN gN),(13,.int .i64 r),(15,.int .i64 t)]/\Heap w [] w' (Yd 3 1 (some ⟨gP,0,none⟩) gN gN (Qak P2)::Yd 51 1 (some ⟨gT,0,none⟩) many many (Qa0 hs n)::Yl gr 70 (Qam none 0 0 none 0 0)::G)/\hs.length=many/\TabsG G hs n (X2.1.take t++T.drop t)/\t<=many/\m=many - t) many ?_ ?_
  ·
   refine Qs ?_;exact ⟨0,hs,G,rfl,hH,hsl,by rw [Xx,Xw,Yx];exact hTG,by omega,rfl⟩
  clear hH hTG hsl;rintro m e w4 ⟨t,hs,G,rfl,hH,hsl,hTG,ht,rfl⟩;refine VS [0,1,4,6,8,12,13,15,82] ?_;refine VD (fun h=>?_) (fun h=>?_)
  ·
   have hcl:=Qgf list P2 n list.length t;have hcx:=fun x hx=>QAp (list:=list) (P:=P2) (n:=n) (m:=list.length) (t:=t) x hx;have hco:=fun w hr hrP=>Qn5 list P2 t n h2 (by omega) (by omega) (by omega) h5 (by rw [hnl,hgN,hpl];exact Ug _) (some p) (some ⟨gP,0,none⟩) lc gN w hr hrP;have hmk:=fun pa w hr=>QAs (Qgc list P2 t n) 17 (by rw [Qgd,hcl];omega) (by rw [Qgd,hcl];omega) (fun x hx=>by have:=hcx x hx;omega) (by omega) (by omega) pa n w hr;rw [Qgd,hcl] at hmk;rw [Qgd] at hco;rw [hnl,hpl] at hco;have hLl:=hTx2 (lenS (Qgc list P2 t n) 17) (by rw [hrs];exact Xg.2 ⟨t,by simp;omega,rfl⟩);have hX2t:X2.1.getD t []=lenS (Qgc list P2 t n) 17:=by rw [hrs];exact Qgk _ _ _ _ (by omega)
   rw [Qgd] at hLl hX2t;have htk:=Qb2 [] (l:=X2.1) (i:=t) (by omega);have hset:=fun x=>Qgy (A:=X2.1.take t) (B:=T) (k:=t) x (by rw [Y1];omega) (by omega);rw [hX2t] at htk;have hTl3:(X2.1.take t++T.drop t).length=many:=by rw [Yk,Y1,Ur];omega
   rw [hnl] at *;generalize cntU list P2 n nl t=C at *;generalize lenS C 17=lt at *;refine VC_skip ?_;refine VB ?_;refine VQ [0,1,4,6,8,12,13,15,16] fun K hK=>?_;refine MemK_call Tryz.call111 ?_;refine Qs ?_;refine Yr (hco w4 (hH.rs' hr) (Qaq (hH.at 0 rfl))) ?_;rintro v w5 ⟨gc,hHc,rfl⟩;have hH2:=hH.call0 hHc;simp only [Yp] at hH2;clear hH hHc hco;(try refine Qs ?_);refine MemK_call Tryz.call110 ?_;refine Qs ?_;refine Yr (hmk _ w5 (Qaq (hH2.at 0 rfl))) ?_;rintro v w6 ⟨aL,cL,hHl,rfl⟩;have hH3:=hH2.call0 hHl;simp only [Yp] at hH3;rw [hLl.1] at hH3 ⊢;have hH4:Heap w [] w6 (Yd 3 1 aL n cL (Qak lt)::Yd 3 1 (some ⟨gP,0,none⟩) gN gN (Qak P2)::Yd 51 1 (some ⟨gT,0,none⟩) many many (Qa0 hs n)::Yl gr 70 (Qam none 0 0 none 0 0)::G):=hH3.sub (.cons_cons _ (Yn _ _));clear hH2 hHl hmk hH3;(try refine Qs ?_);apply hK;clear hK;refine VQ [0,1,4,6,8,12,13,15] fun K hK=>?_;refine Qp ?_;refine Qaa ?_;refine Qs ?_;refine Qaz hH4 2 (o:=t) (vs:=[.slice aL n cL]) rfl (by simp [Qbg]) rfl (by kernel_rfl) (by simp only [Yj,Qc5];omega) (by simp [Yt]) fun w7 hH5=>?_;simp only [Yb,Yg,Yj] at hH5;rw [Qcb (Qa0 hs n) _ _ (by rw [Qc5];omega),Qqg] at hH5;have hTG2:=hTG.set (by omega) t aL cL lt;rw [hset,<- htk] at hTG2;have hH6:=hH5.perm ((List.Perm.swap _ _ _).trans (.cons _ ((List.Perm.swap _ _ _).trans (.cons _ (.swap _ _ _)))));clear hH4 hH5;(try refine Qs ?_);apply hK;clear hK;refine Qaj ?_;refine VS [0,1,4,6,8,12,13,15] ?_;refine Qab ?_;refine Qs ?_;exact ⟨many - (t+1),by omega,t+1,hs.set t (aL,cL),_,rfl,hH6,by rw [Xc];exact hsl,hTG2,by omega,rfl⟩
  have htm:t=many:=by omega
  rw [Yo (by omega),Y4 (by omega),Yh] at hTG;refine Qag rfl ?_;refine Qaj ?_;refine VS [0,1,4,6,8,12,13] ?_;refine Qab ?_;refine Qs ?_;exact ⟨4 - (r+1),by omega,r+1,hs,G,rfl,by rw [hX2,hrs];exact hH,hsl,by rw [hX2];exact hTG,by omega,rfl⟩
 have hr2:r=4:=by omega
 obtain ⟨hTl,hTx,hPl⟩:=hround 4;rw [hr2] at hH hTG;generalize Qct list n many 4=X at *;obtain ⟨T,P⟩:=X;simp only at hH hTG hTl hTx hPl;refine Qag rfl ?_;refine VQ [4,5] fun K hK=>?_;refine Qaa ?_;refine Qs ?_;refine Qae hH 2 (vs:=Qam (some ⟨gT,0,none⟩) many many (some ⟨gP,0,none⟩) gN gN) rfl rfl (by kernel_rfl) (by simp [Qam]) (Qb0 _ _ _ _ _ _) fun w10 hH6=>?_;simp only [Yb,Yg] at hH6;(try refine Qs ?_);apply hK;clear hK;refine VC_ret (Qdo rfl rfl rfl (Qbw (hH6.at 2 rfl) (by kernel_rfl) (by kernel_rfl) rfl ?_));refine ⟨_,_,hH6,fun w' hh=>Qjz rfl hTl hPl hsl (by rw [Qsz (by omega) (fun t ht=>(hTx t ht).1)];exact Qaq (hh _ (Ym (i:=1) rfl))) (Qaq (hh _ (Ym (i:=0) rfl))) (fun i h t h6 h7=>?_),rfl⟩;rw [(hTx t (Ym h7)).1];exact hTG w' (fun q hq=>hh q (by simp [hq])) i h t h6 h7
set_option maxHeartbeats 4000000
theorem Qrq {F:Value->World->Prop}{kk:List It}{list N P:List Nat}{T:List (List Nat)}{us:List (Option Addr×Nat)}{n many gN nl lc gl gr gT gP gp gW r:Nat}{p:Addr}{w w5:World} (h1:3<=n) (h2:n<=258) (t1:2<=many) (t2:many<=6) (hus:us.length=many) (hTl:T.length=many)
  (hH2:Heap w [] w5 (Yd 51 1 (some ⟨gW,0,none⟩) many many (Ya many zS)::Yd 51 1 (some ⟨gT,0,none⟩) many many (Qa0 us n)::Yd 3 1 (some ⟨gP,0,none⟩) gN gN (Qak P)::Yl gp 70 (Qam (some ⟨gT,0,none⟩) many many (some ⟨gP,0,none⟩) gN gN)::Yl gr 70 (Qam none 0 0 none 0 0)::Yl gl 51 [.slice (some p) nl lc]::Qcp us n T))
  (out:∀ w' vs,Heap w [] w' (Yd 51 1 (some ⟨gW,0,none⟩) many many (Qa0 vs n)::Yd 51 1 (some ⟨gT,0,none⟩) many many (Qa0 us n)::Yd 3 1 (some ⟨gP,0,none⟩) gN gN (Qak P)::Yl gp 70 (Qam (some ⟨gT,0,none⟩) many many (some ⟨gP,0,none⟩) gN gN)::Yl gr 70 (Qam none 0 0 none 0 0)::Yl gl 51 [.slice (some p) nl lc]::(Qcp us n T++Qcp vs n (Qf0 list N many n 0)))->vs.length=many->VC ⟨Yq,Xk,F,158⟩ kk [(1,.int .i64 n),(2,.pointer (some ⟨gl,0,none⟩)),(4,.pointer (some ⟨gr,0,none⟩)),(6,.int .i64 many),(8,.pointer (some ⟨gp,0,none⟩)),(11,Qkk gl gp),(12,.slice (some ⟨gW,0,none⟩) many many),(78,.int .i64 r)] w') :
  VC ⟨Yq,Xk,F,158⟩ (.code (Qi8 [1,1,1,1,1,1,0,1,0,0,1,1,0,0,1,0,1] Xk)::kk) [(1,.int .i64 n),(2,.pointer (some ⟨gl,0,none⟩)),(4,.pointer (some ⟨gr,0,none⟩)),(6,.int .i64 many),(8,.pointer (some ⟨gp,0,none⟩)),(11,Qkk gl gp),(12,.slice (some ⟨gW,0,none⟩) many many),(78,.int .i64 r),(83,.int .i64 many),(84,.int .i64 0)] w5:=by
 conv in (Qi8 _ _)=>whnf
 refine Qac ?_;refine Qad [1,2,4,6,8,11,12,78,83,84] (fun m e w'=>∃ (t:Nat) (vs:List (Option Addr×Nat)),Is e [(1,.int .i64 n),(2,.pointer (some ⟨gl,0,none⟩)),(4,.pointer (some ⟨gr,0,none⟩)),(6,.int .i64 many),(8,.pointer (some ⟨gp,0,none⟩)),(11,Qkk gl gp),(12,.slice (some ⟨gW,0,none⟩) many many),(78,.int .i64 r),(83,.int .i64 many),(84,.int .i64 t)]/\Heap w [] w' (Yd 51 1 (some ⟨gW,0,none⟩) many many (Qa0 vs n++Ya (many - t) zS)::Yd 51 1 (some ⟨gT,0,none⟩) many many (Qa0 us n)::Yd 3 1 (some ⟨gP,0,none⟩) gN gN (Qak P)::Yl gp 70 (Qam (some ⟨gT,0,none⟩) many many (some ⟨gP,0,none⟩) gN gN)::Yl gr 70 (Qam none 0 0 none 0 0)::Yl gl 51 [.slice (some p) nl lc]::(Qcp us n T++Qcp vs n (Ya t (Ya n 0))))/\vs.length=t/\t<=many/\m=many - t) many ?_ ?_
 ·
  refine Qs ?_;exact ⟨0,[],rfl,by simpa [Qcp,Qa0] using hH2,rfl,by omega,rfl⟩
 clear hH2;rintro m e w6 ⟨t,vs,rfl,hH,hvs,ht,rfl⟩;refine VS [1,2,4,6,8,11,12,78,83,84,85] ?_;(repeat with_reducible refine Qax ?_);refine VD (fun h=>?_) (fun h=>?_)
 ·
  have hAl:(Qa0 vs n++Ya (many - t) zS).length=many:=by simp [Qc5];omega
  refine VC_skip ?_
  ((repeat with_reducible refine Qax ?_);(first | refine Qac ?_ | refine VB ?_))
  refine VS [1,2,4,6,8,11,12,13,78,83,84] ?_;refine VQ [1,2,4,6,8,11,12,78,83,84] fun K hK=>?_;refine Qbi Yc zi3 ?_;refine Qs ?_;refine ⟨n,n,⟨rfl,rfl,by omega,by omega,by omega⟩,?_⟩;have hH2:=QAw hH n (by omega);generalize w6.alloc (Yy (Ya n (Xe Xd 0)).toArray 3)=w7 at *;generalize w6.heap.size=gC at *;refine Qp ?_;refine Qaa ?_;refine Qs ?_;refine Qaz hH2 1 (o:=t) (vs:=[.slice (some ⟨gC,0,none⟩) n n]) rfl (by simp [Qbg]) rfl (by kernel_rfl) (by simp only [Yj];omega) (by simp [Yt]) fun w8 hH3=>?_;simp only [Yj,Qcb (Qa0 vs n++Ya (many - t) zS) _ _ (show t < (Qa0 vs n++Ya (many - t) zS).length by omega),Qjy (Qa0 vs n) zS _ (show t < many by omega) (by rw [Qc5];exact hvs),Qn6,Yb,Yg] at hH3;have hH4:=hH3.perm (X1 _ _).symm;simp only [Xh,Yv] at hH4;rw [Qnd n (by simp [hvs]) _ _ _,<- Ux] at hH4;clear hH hH2 hH3;apply hK;clear hK;refine Qaj ?_;refine VS [1,2,4,6,8,11,12,78,83,84] ?_;refine Qab ?_;refine Qs ?_;exact ⟨many - (t+1),by omega,t+1,_,rfl,hH4,by simp [hvs],by omega,rfl⟩
 have ht2:t=many:=by omega
 rw [ht2,Xb,Y3,Yh,<- QEv list N] at hH;rw [ht2] at hvs;clear h ht ht2;refine Qag rfl ?_;refine Qs4 [1,2,4,6,8,11,12,78] ?_;refine Qs ?_;exact out _ _ hH hvs
set_option maxHeartbeats 4000000
theorem QA0 {F:Value->World->Prop}{kk:List It}{n many gN gl gr gp gW r:Nat}{w5:World}{k:Nat}{cf:Nat->Nat} (t1:2<=many) (t2:many<=6)
  (hcost2:∀ t,t < many->Does Yq 98 #[.int .i64 t,.int .i64 k,.pointer (some ⟨gl,0,none⟩),.pointer (some ⟨gp,0,none⟩)] w5 fun v w'=>w'=w5/\v=.int .i64 (cf t:Nat))
  (out:VC ⟨Yq,Xk,F,158⟩ kk [(1,.int .i64 n),(2,.pointer (some ⟨gl,0,none⟩)),(4,.pointer (some ⟨gr,0,none⟩)),(6,.int .i64 many),(8,.pointer (some ⟨gp,0,none⟩)),(11,Qkk gl gp),(12,.slice (some ⟨gW,0,none⟩) many many),(14,.int .i64 k),(15,.int .i64 (Qie cf (many - 1):Nat)),(78,.int .i64 r),(95,.int .i64 gN),(96,.int .i64 k)] w5) :
  VC ⟨Yq,Xk,F,158⟩ (.code (Qi8 [1,1,1,1,1,1,0,1,0,0,1,1,0,0,1,1,0,1,0,0,1,1,0,0,1,1,0,1] Xk)::kk) [(1,.int .i64 n),(2,.pointer (some ⟨gl,0,none⟩)),(4,.pointer (some ⟨gr,0,none⟩)),(6,.int .i64 many),(8,.pointer (some ⟨gp,0,none⟩)),(11,Qkk gl gp),(12,.slice (some ⟨gW,0,none⟩) many many),(14,.int .i64 k),(15,.int .i64 (0:Nat)),(16,.int .i64 1),(78,.int .i64 r),(95,.int .i64 gN),(96,.int .i64 k)] w5:=by
 conv in (Qi8 _ _)=>whnf
 have hble:=fun t=>Qoo cf t;refine Qac ?_;refine Qad [1,2,4,6,8,11,12,14,15,16,78,95,96] (fun m e w'=>∃ (t:Nat),Is e [(1,.int .i64 n),(2,.pointer (some ⟨gl,0,none⟩)),(4,.pointer (some ⟨gr,0,none⟩)),(6,.int .i64 many),(8,.pointer (some ⟨gp,0,none⟩)),(11,Qkk gl gp),(12,.slice (some ⟨gW,0,none⟩) many many),(14,.int .i64 k),(15,.int .i64 (Qie cf (t - 1):Nat)),(16,.int .i64 t),(78,.int .i64 r),(95,.int .i64 gN),(96,.int .i64 k)]/\Is w' w5/\1<=t/\t<=many/\m=many - t) (many - 1) ?_ ?_
 ·
  refine Qs ?_;exact ⟨1,rfl,rfl,by omega,by omega,by omega⟩
 rintro m e w' ⟨t,rfl,rfl,ht1,ht,rfl⟩;refine VS [1,2,4,6,8,11,12,14,15,16,78,95,96,101] ?_;(repeat with_reducible refine Qax ?_);refine VD (fun h=>?_) (fun h=>?_)
 ·
  have hb:=hble (t - 1);refine VC_skip ?_
  ((repeat with_reducible refine Qax ?_);(first | refine Qac ?_ | refine VB ?_))
  refine VQ [1,2,4,6,8,11,12,14,15,16,78,95,96,112] fun K hK=>?_;refine Qbp ?_;refine Qs ?_;refine FnK.mk Tryz.call98 (hcost2 t (by omega)) ?_;rintro v w8 ⟨rfl,rfl⟩;refine Qbp ?_;refine Qs ?_;refine FnK.mk Tryz.call98 (hcost2 (Qie cf (t - 1)) (by omega)) ?_;rintro v w9 ⟨rfl,rfl⟩;refine Qs ?_;apply hK;clear hK
  have hbs:Qie cf t=if cf t < cf (Qie cf (t - 1)) then t else Qie cf (t - 1):=by
   obtain ⟨q,rfl⟩:∃ q,t=q+1:=⟨t - 1,by omega⟩;rfl
  refine VD (fun h=>?_) (fun h=>VC_skip ?_)
  ·
   rw [if_pos (by omega)] at hbs;refine VS [1,2,4,6,8,11,12,14,15,16,78,95,96] ?_;refine Qaj ?_;refine VS [1,2,4,6,8,11,12,14,15,16,78,95,96] ?_;refine Qab ?_;refine Qs ?_;exact ⟨many - (t+1),by omega,t+1,by rw [Xp,hbs];rfl,rfl,by omega,by omega,rfl⟩
  rw [if_neg (by omega)] at hbs;refine Qaj ?_;refine VS [1,2,4,6,8,11,12,14,15,16,78,95,96] ?_;refine Qab ?_;refine Qs ?_;exact ⟨many - (t+1),by omega,t+1,by rw [Xp,hbs];rfl,rfl,by omega,by omega,rfl⟩
 have ht2:t=many:=by omega
 rw [ht2];clear h ht ht1 ht2 hcost2;refine Qag rfl ?_;refine Qs4 [1,2,4,6,8,11,12,14,15,78,95,96] ?_;refine Qs ?_;exact out
set_option maxHeartbeats 4000000
theorem Qyb {F:Value->World->Prop}{kk:List It}{list N P:List Nat}{T:List (List Nat)}{us vs:List (Option Addr×Nat)}{n many gN nl lc gl gr gT gP gp gW r:Nat}{p:Addr}{w w5:World}{k b nc:Nat}{ch:List Nat}{pk:Addr} (h1:3<=n) (h2:n<=258) (t1:2<=many) (t2:many<=6) (h4:nl<=1638350) (hnl:list.length=nl) (h5:∀ s∈list,s < n) (hkl:50 * k < nl) (hnc:ch.length=nc) (hcl:nc=min 50 (nl - 50 * k)) (hmm:50 * k+nc=min (50 * (k+1)) nl)
  (hb:N.getD k 0=b) (hbm:b < many) (hus:us.length=many) (hvs:vs.length=many) (hRl:(Qcp us n T).length=many) (hcg:∀ j,j < nc->ch.getD j 0=list.getD (50 * k+j) 0) (hgrs:RS w (some pk) nc 1 (Qak ch))
  (hH2:Heap w [] w5 (Yd 51 1 (some ⟨gW,0,none⟩) many many (Qa0 vs n)::Yd 51 1 (some ⟨gT,0,none⟩) many many (Qa0 us n)::Yd 3 1 (some ⟨gP,0,none⟩) gN gN (Qak (N.take (k+1)++P.drop (k+1)))::Yl gp 70 (Qam (some ⟨gT,0,none⟩) many many (some ⟨gP,0,none⟩) gN gN)::Yl gr 70 (Qam none 0 0 none 0 0)::Yl gl 51 [.slice (some p) nl lc]::(Qcp us n T++Qcp vs n (Qf0 list N many n (50 * k)))))
  (out:∀ w',Heap w [] w' (Yd 51 1 (some ⟨gW,0,none⟩) many many (Qa0 vs n)::Yd 51 1 (some ⟨gT,0,none⟩) many many (Qa0 us n)::Yd 3 1 (some ⟨gP,0,none⟩) gN gN (Qak (N.take (k+1)++P.drop (k+1)))::Yl gp 70 (Qam (some ⟨gT,0,none⟩) many many (some ⟨gP,0,none⟩) gN gN)::Yl gr 70 (Qam none 0 0 none 0 0)::Yl gl 51 [.slice (some p) nl lc]::(Qcp us n T++Qcp vs n (Qf0 list N many n (min (50 * (k+1)) nl))))->VC ⟨Yq,Xk,F,158⟩ kk [(1,.int .i64 n),(2,.pointer (some ⟨gl,0,none⟩)),(4,.pointer (some ⟨gr,0,none⟩)),(6,.int .i64 many),(8,.pointer (some ⟨gp,0,none⟩)),(11,Qkk gl gp),(12,.slice (some ⟨gW,0,none⟩) many many),(78,.int .i64 r),(95,.int .i64 gN),(96,.int .i64 k)] w') :
  VC ⟨Yq,Xk,F,158⟩ (.code (Qi8 [1,1,1,1,1,1,0,1,0,0,1,1,0,0,1,1,0,1,0,0,1,1,0,0,1,1,1,1,1] Xk)::kk) [(1,.int .i64 n),(2,.pointer (some ⟨gl,0,none⟩)),(4,.pointer (some ⟨gr,0,none⟩)),(6,.int .i64 many),(8,.pointer (some ⟨gp,0,none⟩)),(11,Qkk gl gp),(12,.slice (some ⟨gW,0,none⟩) many many),(15,.int .i64 b),(78,.int .i64 r),(95,.int .i64 gN),(96,.int .i64 k),(121,.slice (some pk) nc (lc - 50 * k)),(122,.int .i64 nc),(123,.int .i64 0)] w5:=by
 conv in (Qi8 _ _)=>whnf
 refine Qac ?_;refine Qad [1,2,4,6,8,11,12,15,78,95,96,121,122,123] (fun m e w'=>∃ (j:Nat),Is e [(1,.int .i64 n),(2,.pointer (some ⟨gl,0,none⟩)),(4,.pointer (some ⟨gr,0,none⟩)),(6,.int .i64 many),(8,.pointer (some ⟨gp,0,none⟩)),(11,Qkk gl gp),(12,.slice (some ⟨gW,0,none⟩) many many),(15,.int .i64 b),(78,.int .i64 r),(95,.int .i64 gN),(96,.int .i64 k),(121,.slice (some pk) nc (lc - 50 * k)),(122,.int .i64 nc),(123,.int .i64 j)]/\Heap w [] w' (Yd 51 1 (some ⟨gW,0,none⟩) many many (Qa0 vs n)::Yd 51 1 (some ⟨gT,0,none⟩) many many (Qa0 us n)::Yd 3 1 (some ⟨gP,0,none⟩) gN gN (Qak (N.take (k+1)++P.drop (k+1)))::Yl gp 70 (Qam (some ⟨gT,0,none⟩) many many (some ⟨gP,0,none⟩) gN gN)::Yl gr 70 (Qam none 0 0 none 0 0)::Yl gl 51 [.slice (some p) nl lc]::(Qcp us n T++Qcp vs n (Qf0 list N many n (50 * k+j))))/\j<=nc/\m=nc - j) nc ?_ ?_
 ·
  refine Qs ?_;exact ⟨0,rfl,hH2,by omega,rfl⟩
 clear hH2;rintro m e w9 ⟨j,rfl,hH,hj,rfl⟩;refine VS [1,2,4,6,8,11,12,15,78,95,96,121,122,123,124] ?_;(repeat with_reducible refine Qax ?_);refine VD (fun h=>?_) (fun h=>?_)
 ·
  have hcell:=Qbr (hH.rs' hgrs) (i:=j) (by omega);have hcj:=hcg j (by omega);rw [hcj] at hcell;have hx:=h5 _ (Qa3 0 (l:=list) (i:=50 * k+j) (by omega));have hcs:=QEw (P:=N) (many:=many) (n:=n) (b:=b) hx (by rw [show (50 * k+j) / 50=k by omega];exact hb) hbm;have hcu:=QCd (list:=list) (P:=N) (n:=n) (m:=50 * k+j) (t:=b) hx;have hcul:=Qgf list N n (50 * k+j) b
  have hWb:(Qf0 list N many n (50 * k+j))[b]? = some (cntU list N n (50 * k+j) b):=by
   unfold Qf0;rw [Yw,Yu hbm];rfl
  obtain ⟨⟨av,cv⟩,hvb⟩:∃ hv,vs[b]? = some hv:=⟨_,Ye (by omega)⟩;have hcW:w9.cell? ⟨gW,b,none⟩=some (.slice av n cv):=Qa1 (hH.at 0 rfl) (Qhk n hvb);have hri2:(Yd 51 1 (some ⟨gW,0,none⟩) many many (Qa0 vs n)::Yd 51 1 (some ⟨gT,0,none⟩) many many (Qa0 us n)::Yd 3 1 (some ⟨gP,0,none⟩) gN gN (Qak (N.take (k+1)++P.drop (k+1)))::Yl gp 70 (Qam (some ⟨gT,0,none⟩) many many (some ⟨gP,0,none⟩) gN gN)::Yl gr 70 (Qam none 0 0 none 0 0)::Yl gl 51 [.slice (some p) nl lc]::(Qcp us n T++Qcp vs n (Qf0 list N many n (50 * k+j))))[many+b+6]? = some (Yd 3 1 av n cv (Qak (cntU list N n (50 * k+j) b))):=QLb (many:=many) (W:=Qf0 list N many n (50 * k+j)) hRl hvb hWb;have hset:∀ l,(Qcp us n T++Qcp vs n (Qf0 list N many n (50 * k+j))).set (many+b) (Yd 3 1 av n cv (Qak l))=Qcp us n T++Qcp vs n ((Qf0 list N many n (50 * k+j)).set b l):=fun l=>QH9 (many:=many) (W:=Qf0 list N many n (50 * k+j)) l hRl hvb;obtain ⟨gv,rfl⟩:=Qc1 (hH.at (many+b+6) hri2) (by omega);generalize list.getD (50 * k+j) 0=x at *;have hcx:=Qa1 (hH.at (many+b+6) hri2) (Qb4 (l:=cntU list N n (50 * k+j) b) (i:=x) (by omega));generalize hcc:(cntU list N n (50 * k+j) b).getD x 0=c at *;refine VC_skip ?_
  ((repeat with_reducible refine Qax ?_);(first | refine Qac ?_ | refine VB ?_))
  refine VQ [1,2,4,6,8,11,12,15,18,78,95,96,121,122,123] fun K hK=>?_;refine ⟨⟨by omega,by omega⟩,_,hcell,?_⟩;apply hK;clear hK;refine VQ [1,2,4,6,8,11,12,15,78,95,96,121,122,123] fun K hK=>?_;refine ⟨⟨by omega,by omega⟩,_,hcW,?_⟩;refine Qs ?_;refine ⟨⟨by omega,by omega⟩,_,hcx,?_⟩;refine Qs ?_;refine ⟨Xf (by omega) (by omega),⟨by omega,by omega⟩,?_⟩;refine Qaa ?_;refine Qs ?_;refine Qaz hH (many+b+6) (o:=x) (vs:=[.int .i64 (c+1:Nat)]) hri2 (by simp [Qbg]) rfl (by kernel_rfl) (by simp only [Yj,Qal];omega) (by simp [Yt]) fun w10 hH3=>?_
  have e1:(Qak (cntU list N n (50 * k+j) b)).take x++[.int .i64 (c+1:Nat)]++(Qak (cntU list N n (50 * k+j) b)).drop (x+1)=Qak ((cntU list N n (50 * k+j) b).set x (c+1)):=by
   rw [Qcb _ _ _ (by rw [Qal];omega),Qck]
  rw [Yj,e1] at hH3
  have hH4:Heap w [] w10 (Yd 51 1 (some ⟨gW,0,none⟩) many many (Qa0 vs n)::Yd 51 1 (some ⟨gT,0,none⟩) many many (Qa0 us n)::Yd 3 1 (some ⟨gP,0,none⟩) gN gN (Qak (N.take (k+1)++P.drop (k+1)))::Yl gp 70 (Qam (some ⟨gT,0,none⟩) many many (some ⟨gP,0,none⟩) gN gN)::Yl gr 70 (Qam none 0 0 none 0 0)::Yl gl 51 [.slice (some p) nl lc]::(Qcp us n T++Qcp vs n (Qf0 list N many n (50 * k+j+1)))):=by
   rw [hcs,<- hset];exact hH3
  clear hH3;clear hH hcW hcx hcell;apply hK;clear hK;refine Qaj ?_;refine VS [1,2,4,6,8,11,12,15,78,95,96,121,122,123] ?_;refine Qab ?_;refine Qs ?_;exact ⟨nc - (j+1),by omega,j+1,rfl,hH4,by omega,rfl⟩
 have hj2:j=nc:=by omega
 rw [hj2,hmm] at hH;refine Qag rfl ?_;refine Qs4 [1,2,4,6,8,11,12,78,95,96] ?_;refine Qs ?_;exact out _ hH
set_option maxHeartbeats 4000000
theorem Qyc {F:Value->World->Prop}{kk:List It}{list N P:List Nat}{T:List (List Nat)}{us vs:List (Option Addr×Nat)}{n many gN nl lc gl gr gT gP gp gW r:Nat}{p:Addr}{w w5:World} (h1:3<=n) (h2:n<=258) (t1:2<=many) (t2:many<=6) (h3:1<=nl) (h4:nl<=1638350) (hnl:list.length=nl) (h5:∀ s∈list,s < n) (hps:p.spot=none) (hlc:nl<=lc) (hr:RS w (some p) nl 1 (Qak list)) (hgN:Qbe nl=gN)
  (hNk:∀ k,k < gN->N.getD k 0=Qie (fun t=>Qfw (T.getD t []) (Qcs list k)) (many - 1)) (hNl:N.length=gN) (hPl:P.length=gN) (hTg:∀ t,t < many->T[t]? = some (T.getD t [])/\(T.getD t []).length=n/\∀ x∈T.getD t [],x<=20) (hus:us.length=many) (hvs:vs.length=many) (hRl:(Qcp us n T).length=many)
  (hH:Heap w [] w5 (Yd 51 1 (some ⟨gW,0,none⟩) many many (Qa0 vs n)::Yd 51 1 (some ⟨gT,0,none⟩) many many (Qa0 us n)::Yd 3 1 (some ⟨gP,0,none⟩) gN gN (Qak P)::Yl gp 70 (Qam (some ⟨gT,0,none⟩) many many (some ⟨gP,0,none⟩) gN gN)::Yl gr 70 (Qam none 0 0 none 0 0)::Yl gl 51 [.slice (some p) nl lc]::(Qcp us n T++Qcp vs n (Qf0 list N many n 0))))
  (out:∀ w',Heap w [] w' (Yd 51 1 (some ⟨gW,0,none⟩) many many (Qa0 vs n)::Yd 51 1 (some ⟨gT,0,none⟩) many many (Qa0 us n)::Yd 3 1 (some ⟨gP,0,none⟩) gN gN (Qak N)::Yl gp 70 (Qam (some ⟨gT,0,none⟩) many many (some ⟨gP,0,none⟩) gN gN)::Yl gr 70 (Qam none 0 0 none 0 0)::Yl gl 51 [.slice (some p) nl lc]::(Qcp us n T++Qcp vs n (Qf0 list N many n nl)))->VC ⟨Yq,Xk,F,158⟩ kk [(1,.int .i64 n),(2,.pointer (some ⟨gl,0,none⟩)),(4,.pointer (some ⟨gr,0,none⟩)),(6,.int .i64 many),(8,.pointer (some ⟨gp,0,none⟩)),(11,Qkk gl gp),(12,.slice (some ⟨gW,0,none⟩) many many),(78,.int .i64 r)] w') :
  VC ⟨Yq,Xk,F,158⟩ (.code (Qi8 [1,1,1,1,1,1,0,1,0,0,1,1,0,0,1,1,0,1] Xk)::kk) [(1,.int .i64 n),(2,.pointer (some ⟨gl,0,none⟩)),(4,.pointer (some ⟨gr,0,none⟩)),(6,.int .i64 many),(8,.pointer (some ⟨gp,0,none⟩)),(11,Qkk gl gp),(12,.slice (some ⟨gW,0,none⟩) many many),(78,.int .i64 r),(95,.int .i64 gN),(96,.int .i64 0)] w5:=by
 conv in (Qi8 _ _)=>whnf
 obtain ⟨g1,g2,g3⟩:1<=gN/\gN<=32767/\nl<=50 * gN:=by rw [<- hgN];exact Qfk h3 h4
 refine Qac ?_;refine Qad [1,2,4,6,8,11,12,78,95,96] (fun m e w'=>∃ (k:Nat),Is e [(1,.int .i64 n),(2,.pointer (some ⟨gl,0,none⟩)),(4,.pointer (some ⟨gr,0,none⟩)),(6,.int .i64 many),(8,.pointer (some ⟨gp,0,none⟩)),(11,Qkk gl gp),(12,.slice (some ⟨gW,0,none⟩) many many),(78,.int .i64 r),(95,.int .i64 gN),(96,.int .i64 k)]/\Heap w [] w' (Yd 51 1 (some ⟨gW,0,none⟩) many many (Qa0 vs n)::Yd 51 1 (some ⟨gT,0,none⟩) many many (Qa0 us n)::Yd 3 1 (some ⟨gP,0,none⟩) gN gN (Qak (N.take k++P.drop k))::Yl gp 70 (Qam (some ⟨gT,0,none⟩) many many (some ⟨gP,0,none⟩) gN gN)::Yl gr 70 (Qam none 0 0 none 0 0)::Yl gl 51 [.slice (some p) nl lc]::(Qcp us n T++Qcp vs n (Qf0 list N many n (min (50 * k) nl))))/\k<=gN/\m=gN - k) gN ?_ ?_
 ·
  refine Qs ?_;exact ⟨0,rfl,by simpa using hH,by omega,rfl⟩
 clear hH;rintro m e w7 ⟨k,rfl,hH,hk,rfl⟩;refine VS [1,2,4,6,8,11,12,78,95,96,97] ?_;(repeat with_reducible refine Qax ?_);refine VD (fun h=>?_) (fun h=>?_)
 ·
  have hkl:50 * k < nl:=by unfold Qbe at hgN;omega
  rw [Nat.min_eq_left (by omega)] at hH;have hbest:=hNk k (by omega);have c1:w7.cell? ⟨gl,0,none⟩=some (.slice (some p) nl lc):=Qah (hH.at 5 rfl) rfl;have c2:w7.cell? ⟨gp,0,none⟩=some (.slice (some ⟨gT,0,none⟩) many many):=Qah (hH.at 3 rfl) rfl
  have hcost:∀ t,t < many->Does Yq 98 #[.int .i64 t,.int .i64 k,.pointer (some ⟨gl,0,none⟩),.pointer (some ⟨gp,0,none⟩)] w7 fun v w'=>w'=w7/\v=.int .i64 (Qfw (T.getD t []) (Qcs list k):Nat):=fun t ht=>by
   obtain ⟨g1,g2,g3⟩:=hTg t ht;have hut:=getD_some (none,0) (show t < us.length by omega);have hr2:=hH.rs' hr;have hrow:=Qaq (hH.at (t+6) (show _=some (Yd 3 1 (us.getD t (none,0)).1 n (us.getD t (none,0)).2 (Qak (T.getD t []))) from QH8 hut g1));rw [<- hnl] at hr2 c1 hkl h4;exact QH5 list (T.getD t []) n k t (by omega) (by omega) h5 g2 (fun x hx=>by have:=g3 x hx;omega) p hps lc (by omega) gl gp gT many many ht t2 _ _ w7 c1 c2 (Qa1 (hH.at 1 rfl) (Qhk n hut)) hr2 hrow
  refine VC_skip ?_
  ((repeat with_reducible refine Qax ?_);(first | refine Qac ?_ | refine VB ?_))
  refine VS [1,2,4,6,8,11,12,14,78,95,96] ?_;refine VS [1,2,4,6,8,11,12,14,15,78,95,96] ?_;refine Qax ?_;refine Qax ?_;refine Qvf [1,2,4,6,8,11,12,14,15,16,78,95,96] rfl fun K hK=>?_;refine Qs ?_;apply hK;clear hK;generalize hcf:(fun t=>Qfw (T.getD t []) (Qcs list k))=cf at *;have hcost2:∀ t,t < many->Does Yq 98 #[.int .i64 t,.int .i64 k,.pointer (some ⟨gl,0,none⟩),.pointer (some ⟨gp,0,none⟩)] w7 fun v w'=>w'=w7/\v=.int .i64 (cf t:Nat):=fun t ht=>by rw [<- hcf];exact hcost t ht
  clear hcost;refine QA0 t1 t2 hcost2 ?_;rw [<- hbest];have hbm:N.getD k 0 < many:=by rw [hbest];exact Nat.lt_of_le_of_lt (Qoo _ _) (by omega)
  have hNk2:N.take (k+1)=N.take k++[N.getD k 0]:=Qb2 0 (by omega);have hPs:=Qgy (A:=N.take k) (B:=P) (k:=k) (N.getD k 0) (by rw [Y1];omega) (by omega);rw [<- hNk2] at hPs;have hPl2:(N.take k++P.drop k).length=gN:=by simp;omega
  have hgr:=Qss list k (by omega) (by omega) p lc (by omega);have hgrs:=Qud (l:=list) (p:=p) (k:=k) (w:=w) (by rw [hnl];exact hr) hps (by omega);have hcl:(Qcs list k).length=min 50 (nl - 50 * k):=by simp [Qcs,hnl]
  have hcg:∀ j,j < (Qcs list k).length->(Qcs list k).getD j 0=list.getD (50 * k+j) 0:=fun j hj=>by
   unfold Qcs at hj ⊢;rw [Yi,List.getElem?_take_of_lt (by rw [Y1] at hj;omega),U3,<- Yi]
  have hmm:50 * k+(Qcs list k).length=min (50 * (k+1)) nl:=by omega
  generalize hch:Qcs list k=ch at *;generalize hnc:ch.length=nc at *;rw [hnl] at hgr;generalize hb:N.getD k 0=b at *;refine VQ [1,2,4,6,8,11,12,14,15,78,95,96] fun K hK=>?_;refine ⟨_,Qah (hH.at 3 rfl) (show (Qam (some ⟨gT,0,none⟩) many many (some ⟨gP,0,none⟩) gN gN)[1]? = some _ from rfl),?_⟩;refine Qs ?_;refine Qp ?_;refine Qaa ?_;refine Qs ?_;refine Qaz hH 2 (o:=(k)) (vs:=[.int .i64 (b:Nat)]) rfl (by first | exact (Qbg _ _ _).symm | rfl | simp [Qbg]) rfl (by kernel_rfl) (by first | omega | (simp;done) | (simp;omega) | (simp [Qar,Qat];omega) | (rw [Qal];simp;omega)) (by simp [Yt]) fun w6 hH2=>?_;(try refine Qs ?_);simp only [Yj,Qcb (Qak (N.take k++P.drop k)) _ _ (show k < (Qak (N.take k++P.drop k)).length by rw [Qal];omega),Qck,Yb,Yg,hPs] at hH2;clear hH c1 c2;apply hK;clear hK;refine VQ [1,2,4,6,8,11,12,15,78,95,96,121,122,123] fun K hK=>?_;refine ⟨_,Qah (hH2.at 5 rfl) rfl,?_⟩;refine MemK_call Tryz.call99 ?_;refine Qs ?_;refine Yr (hgr w6) ?_;rintro v w8 ⟨rfl,rfl⟩;refine Qs ?_;apply hK;clear hK;generalize hpk:p.add (50 * k)=pk at *;refine Qyb (us:=us) (vs:=vs) (T:=T) (P:=P) h1 h2 t1 t2 h4 hnl h5 hkl hnc hcl hmm hb hbm hus hvs hRl hcg hgrs hH2 fun w9 hH=>?_;refine Qaj ?_;refine VS [1,2,4,6,8,11,12,78,95,96] ?_;refine Qab ?_;refine Qs ?_;exact ⟨gN - (k+1),by omega,k+1,rfl,hH,by omega,rfl⟩
 have hk2:k=gN:=by omega
 rw [hk2,Yo (by omega),Y4 (by omega),Yh,Nat.min_eq_right (by omega)] at hH;clear h hk hk2;refine Qag rfl ?_;refine Qs4 [1,2,4,6,8,11,12,78] ?_;refine Qs ?_;exact out _ hH
set_option maxHeartbeats 4000000
theorem QA1 {F:Value->World->Prop}{kk:List It}{list N:List Nat}{us vs:List (Option Addr×Nat)}{n many gN nl lc gl gr gT gP gp gW r:Nat}{p:Addr}{w w5:World}{X':List (List Nat)×List Nat} (h1:3<=n) (h2:n<=258) (t1:2<=many) (t2:many<=6) (h3:1<=nl) (h4:nl<=1638350) (hnl:list.length=nl) (hTx':∀ t∈X'.1,t.length=n/\∀ x∈t,x<=20) (hTl':X'.1.length=many) (hX2:X'.2=N) (hus:us.length=many) (hvl:vs.length=many)
  (hWl:(Qf0 list N many n nl).length=many) (hnew:∀ t,t < many->X'.1[t]? = some (lenS (cntU list N n nl t) 17))
  (hH2:Heap w [] w5 (Yd 51 1 (some ⟨gW,0,none⟩) many many (Qa0 vs n)::Yd 51 1 (some ⟨gT,0,none⟩) many many (Qa0 us n)::Yd 3 1 (some ⟨gP,0,none⟩) gN gN (Qak N)::Yl gp 70 (Qam (some ⟨gT,0,none⟩) many many (some ⟨gP,0,none⟩) gN gN)::Yl gr 70 (Qam none 0 0 none 0 0)::Yl gl 51 [.slice (some p) nl lc]::Qcp vs n (Qf0 list N many n nl)))
  (out:∀ w' us,Heap w [] w' (Yd 51 1 (some ⟨gT,0,none⟩) many many (Qa0 us n)::Yd 3 1 (some ⟨gP,0,none⟩) gN gN (Qak X'.2)::Yl gp 70 (Qam (some ⟨gT,0,none⟩) many many (some ⟨gP,0,none⟩) gN gN)::Yl gr 70 (Qam none 0 0 none 0 0)::Yl gl 51 [.slice (some p) nl lc]::Qcp us n X'.1)->us.length=many->VC ⟨Yq,Xk,F,158⟩ kk [(1,.int .i64 n),(2,.pointer (some ⟨gl,0,none⟩)),(4,.pointer (some ⟨gr,0,none⟩)),(6,.int .i64 many),(8,.pointer (some ⟨gp,0,none⟩)),(11,Qkk gl gp),(12,.slice (some ⟨gW,0,none⟩) many many),(78,.int .i64 r)] w') :
  VC ⟨Yq,Xk,F,158⟩ (.code (Qi8 [1,1,1,1,1,1,0,1,0,0,1,1,0,0,1,1,1,1] Xk)::kk) [(1,.int .i64 n),(2,.pointer (some ⟨gl,0,none⟩)),(4,.pointer (some ⟨gr,0,none⟩)),(6,.int .i64 many),(8,.pointer (some ⟨gp,0,none⟩)),(11,Qkk gl gp),(12,.slice (some ⟨gW,0,none⟩) many many),(78,.int .i64 r),(139,.int .i64 many),(140,.int .i64 0)] w5:=by
 conv in (Qi8 _ _)=>whnf
 refine Qac ?_;refine Qad [1,2,4,6,8,11,12,78,139,140] (fun m e w'=>∃ (t:Nat) (u2:List (Option Addr×Nat)),Is e [(1,.int .i64 n),(2,.pointer (some ⟨gl,0,none⟩)),(4,.pointer (some ⟨gr,0,none⟩)),(6,.int .i64 many),(8,.pointer (some ⟨gp,0,none⟩)),(11,Qkk gl gp),(12,.slice (some ⟨gW,0,none⟩) many many),(78,.int .i64 r),(139,.int .i64 many),(140,.int .i64 t)]/\Heap w [] w' (Yd 51 1 (some ⟨gW,0,none⟩) many many (Qa0 vs n)::Yd 51 1 (some ⟨gT,0,none⟩) many many (Qa0 (u2++us.drop t) n)::Yd 3 1 (some ⟨gP,0,none⟩) gN gN (Qak N)::Yl gp 70 (Qam (some ⟨gT,0,none⟩) many many (some ⟨gP,0,none⟩) gN gN)::Yl gr 70 (Qam none 0 0 none 0 0)::Yl gl 51 [.slice (some p) nl lc]::(Qcp vs n (Qf0 list N many n nl)++Qcp u2 n (X'.1.take t)))/\u2.length=t/\t<=many/\m=many - t) many ?_ ?_
 ·
  refine Qs ?_;exact ⟨0,[],rfl,by simpa [Qcp] using hH2,rfl,by omega,rfl⟩
 clear hH2;rintro m e w8 ⟨t,u2,rfl,hH,hu2,ht,rfl⟩;refine VS [1,2,4,6,8,11,12,78,139,140,141] ?_;(repeat with_reducible refine Qax ?_);refine VD (fun h=>?_) (fun h=>?_)
 ·
  obtain ⟨⟨av,cv⟩,hvt⟩:∃ hv,vs[t]? = some hv:=⟨_,Ye (by omega)⟩
  have hWt:(Qf0 list N many n nl)[t]? = some (cntU list N n nl t):=by
   unfold Qf0;rw [Yw,Yu (show t < many by omega)];rfl
  have hrw:=Qaq (hH.at (t+6) (show _=some (Yd 3 1 av n cv (Qak (cntU list N n nl t))) from QH8 hvt hWt));have hcl:=Qgf list N n nl t;have hmk:=QGy (cntU list N n nl t) 17 (by omega) (by omega) (fun x hx=>by have:=QAp x hx;omega) (by omega) (by omega) av cv w8;rw [hcl] at hmk;have hnt:=hnew t (by omega);have hln:=(hTx' _ (Ym hnt)).1;have htk:X'.1.take (t+1)=X'.1.take t++[lenS (cntU list N n nl t) 17]:=by rw [Up,hnt];rfl
  generalize lenS (cntU list N n nl t) 17=L at *;rw [hln] at hmk;have hF:=hH.focus 1 rfl;have c0:=hH.hole_at 1 3 rfl rfl (by omega) (show (Qam (some ⟨gT,0,none⟩) many many (some ⟨gP,0,none⟩) gN gN)[0]? = some _ from rfl);have cW:=Heap.hole_row hH 1 0 rfl rfl (by omega) (Qhk n hvt);have hAl:(Qa0 (u2++us.drop t) n).length=many:=by rw [Qc5];simp;omega
  refine VC_skip ?_
  ((repeat with_reducible refine Qax ?_);(first | refine Qac ?_ | refine VB ?_))
  refine VS [1,2,4,6,8,11,12,19,78,139,140] ?_;refine VH (holes [gT] w8) (Ext.hole _ _) [1,2,4,6,8,11,12,78,139,140] [(0,true),(1,true),(2,true),(3,true),(4,true),(5,true),(6,true),(7,false),(8,true),(9,true),(10,true),(11,true),(12,false)] fun K hK=>?_;refine ⟨_,c0,?_⟩;refine ⟨⟨by omega,by omega⟩,_,cW,?_⟩;refine Qs ?_;refine MemK_call Tryz.call100 ?_;refine Qs ?_;refine Yr (hmk hrw) ?_;rintro v w9 ⟨aL,cL,hHL,rfl⟩;have hF2:=hF.call0 hHL;simp only [Yp] at hF2;refine ⟨hF2.upd.extH,?_⟩;refine Qp ?_;refine Qaa ?_;refine Qs ?_;refine Qaz hF2 1 (o:=t) (vs:=[.slice aL n cL]) rfl (by simp [Qbg]) rfl (by kernel_rfl) (by simp only [Yj];omega) (by simp [Yt]) fun w10 hF3=>?_
  have e1:(Qa0 (u2++us.drop t) n).take t++[.slice aL n cL]++(Qa0 (u2++us.drop t) n).drop (t+1)=Qa0 ((u2++[(aL,cL)])++us.drop (t+1)) n:=by
   rw [Qcb _ _ _ (by omega),Qqg,Qgy _ hu2 (by omega)]
  rw [Yj,e1] at hF3;simp only [Yb,Yg] at hF3;refine ⟨hF3.upd.extH,?_⟩;apply hK;clear hK;have hH3:=hH.call1 1 rfl (hF3.perm (.swap _ _ _));simp only [Yb,Yg,Yp] at hH3;have hH4:=hH3.perm (X1 _ _).symm;simp only [Xh,Yv] at hH4;rw [Qnd n (by rw [Y1];omega) _ _ _,<- htk] at hH4;clear hH hF hF2 hF3 hH3 c0 cW hHL;refine Qaj ?_;refine VS [1,2,4,6,8,11,12,78,139,140] ?_;refine Qab ?_;refine Qs ?_;have e2:u2++(aL,cL)::([]++us.drop (t+1))=(u2++[(aL,cL)])++us.drop (t+1):=by simp
  rw [e2] at hH4;exact ⟨many - (t+1),by omega,t+1,u2++[(aL,cL)],rfl,hH4,by simp [hu2],by omega,rfl⟩
 have ht2:t=many:=by omega
 rw [ht2,Y4 (by omega),Yh,Yo (by omega),<- hX2] at hH;rw [ht2] at hu2;have hH2:=hH.sub (.cons _ (.cons_cons _ (.cons_cons _ (.cons_cons _ (.cons_cons _ (.cons_cons _ (Xq _ _)))))));clear hH;refine Qag rfl ?_;refine Qs4 [1,2,4,6,8,11,12,78] ?_;refine Qs ?_;exact out _ _ hH2 hu2
set_option maxHeartbeats 4000000
theorem QA2 (list:List Nat) (n:Nat) (hm:Qfg list n) (p:Addr) (hps:p.spot=none) (lc:Nat) (hlc:list.length<=lc) (w:World) (hr:RS w (some p) list.length 1 (Qak list)) :
  Does Yq 60 #[.slice (some p) list.length lc,.int .i64 n] w fun x w'=>∃ v G,Heap w [] w' G/\QEu G v (Qc4 list n).1 (Qc4 list n).2/\x=.tuple #[v,.int .i64 0]:=by
 have hml:=Qnr list n hm (some p) lc;have hround:=QCe hm (Qcf list.length);have hchS:Qc4 list n=Qct list n (Qcf list.length) 4:=rfl;rw [hchS];have hm0:=hm;obtain ⟨h1,h2,h3,h4,h5⟩:=hm;have hg1:=(Qfk h3 h4);obtain ⟨t1,t2⟩:=Qm3 list.length;have htd:=fun w=>QAb list.length h3 (by omega) w;have hgd:=fun w=>Qiy list.length (by omega) w;generalize hmany:Qcf list.length=many at *;generalize hgN:Qbe list.length=gN at *;refine En [.slice (some p) list.length lc,.int .i64 n] 158 Tryz.func60 ?_;generalize hnl:list.length=nl at *;refine VQ [1,2,4] fun K hK=>?_;refine Qch ?_;refine Qs ?_;have hH:=(Y7 w).box 51 [.slice (some p) nl lc];generalize w.alloc (Yy [Y6 (some p) nl lc].toArray 51)=w1 at *;generalize w.heap.size=gl at *;refine Qao (.agg #[.slice none 0 0,.slice none 0 0]) (by kernel_rfl) ?_;refine Qs ?_;have hH1:=hH.box 70 (Qam none 0 0 none 0 0);have hpl:[Y6 none 0 0,Y6 none 0 0]=Qam none 0 0 none 0 0:=rfl;rw [hpl];generalize w1.alloc (Yy (Qam none 0 0 none 0 0).toArray 70)=w2 at *;generalize w1.heap.size=gr at *;clear hH;apply hK;clear hK;refine VQ [1,2,4,23] fun K hK=>?_;refine ⟨_,Qah (hH1.at 1 rfl) rfl,?_⟩;refine MemK_call Tryz.call96 ?_;refine Qs ?_;refine Yr (hml w2 (hH1.rs' hr)) ?_;rintro v w3 ⟨rfl,rfl⟩;refine Qs ?_;apply hK;clear hK;refine Qaf rfl rfl (fun h=>by simp at h) (fun h=>VC_skip ?_);clear h;refine VQ [1,2,4,6] fun K hK=>?_;refine ⟨_,Qah (hH1.at 1 rfl) rfl,?_⟩;refine Qs ?_;refine MemK_call Tryz.call97 ?_;refine Qs ?_;refine Yr (htd w3) ?_;rintro v w4 ⟨rfl,rfl⟩;apply hK;clear hK;generalize w4=w2 at *;clear hml htd;refine V3 w2 (Ext.refl _) [1,2,4,6,8] (.three [(0,true),(2,true),(3,true)] 1 4 7 (.two [] 4 7 (.two [] 5 7 (.seq [(6,true),(7,false),(8,false)]) (.seq [(5,false),(6,true),(8,false)])) (.seq [(4,false),(5,false),(6,true),(8,false)])) (.three [] 1 5 7 (.two [] 5 7 (.seq [(6,true),(7,false),(8,false)]) (.seq [(5,false),(6,true),(8,false)])) (.two [] 1 7 (.seq [(6,true),(7,false),(8,false)]) (.seq [(1,false),(6,true),(8,false)])) (.two [] 1 5 (.seq [(5,false),(6,true),(8,false)]) (.seq [(1,false),(6,true),(8,false)]))) (.two [] 1 4 (.seq [(4,false),(5,false),(6,true),(8,false)]) (.two [] 1 5 (.seq [(5,false),(6,true),(8,false)]) (.seq [(1,false),(6,true),(8,false)])))) fun K hK=>?_
 suffices out:∀ gT gP gp w3,Heap w2 [] w3 [Yd 51 1 (some ⟨gT,0,none⟩) many many (Ya many zS),Yd 3 1 (some ⟨gP,0,none⟩) gN gN (Qak (Ya gN 0)),Yl gp 70 (Qam (some ⟨gT,0,none⟩) many many (some ⟨gP,0,none⟩) gN gN)]->K [(1,.int .i64 n),(2,.pointer (some ⟨gl,0,none⟩)),(4,.pointer (some ⟨gr,0,none⟩)),(6,.int .i64 many),(8,.pointer (some ⟨gp,0,none⟩))] w3 by
  simp only [vcT3,Qbd,List.filterMap_cons,List.filterMap_nil,List.getElem?_cons_succ,List.getElem?_cons_zero,Option.map_some];refine Qs ?_;refine ⟨_,Qah (hH1.at 1 rfl) rfl,?_⟩;refine Qs ?_;have hX:=Y7 w2
  repeat' (first
   | (refine MemK_call Tryz.call67 ?_;refine Qs ?_;refine Yr (hgd _) ?_;rintro v w9 ⟨rfl,rfl⟩;skip;refine ⟨hX.ext,?_⟩;skip)
   | (refine Qbi Y5 zi51 ?_;refine Qs ?_;refine ⟨many,many,⟨rfl,rfl,by omega,by omega,by omega⟩,?_⟩;have hX:=Qqm hX many (by omega);skip;refine ⟨hX.ext,?_⟩;skip)
   | (refine Qbi Yc zi3 ?_;refine Qs ?_;refine ⟨gN,gN,⟨rfl,rfl,by omega,by omega,by omega⟩,?_⟩;have hX:=QAw hX gN (by omega);skip;refine ⟨hX.ext,?_⟩;skip)
   | (refine Qao (.agg #[.slice none 0 0,.slice none 0 0]) (by kernel_rfl) ?_;refine Qs ?_;have hX:=hX.box 70 (Qam none 0 0 none 0 0);skip;refine ⟨hX.ext,?_⟩;skip)
   | (refine Qaa ?_;refine Qs ?_;first
     | (refine Qae hX 0 (vs:=Qam _ many many _ gN gN) rfl rfl (by kernel_rfl) (by simp [Qam]) (Qb0 _ _ _ _ _ _) fun w6 hX=>?_;simp only [Yb,Yg] at hX;skip;refine ⟨hX.ext,?_⟩;skip)
     | (refine Qae hX 1 (vs:=Qam _ many many _ gN gN) rfl rfl (by kernel_rfl) (by simp [Qam]) (Qb0 _ _ _ _ _ _) fun w6 hX=>?_;simp only [Yb,Yg] at hX;skip;refine ⟨hX.ext,?_⟩;skip)
     | (refine Qae hX 2 (vs:=Qam _ many many _ gN gN) rfl rfl (by kernel_rfl) (by simp [Qam]) (Qb0 _ _ _ _ _ _) fun w6 hX=>?_;simp only [Yb,Yg] at hX;skip;refine ⟨hX.ext,?_⟩;skip))
   | (simp only [vcH_nil];(try refine Qs ?_))
   | refine And.intro ?_ ?_)
  all_goals first
   | exact out _ _ _ _ hX
   | exact out _ _ _ _ (hX.front 1 rfl)
   | exact out _ _ _ _ (hX.front 2 rfl)
   | exact out _ _ _ _ ((hX.front 1 rfl).front 2 rfl)
   | exact out _ _ _ _ ((hX.front 2 rfl).front 2 rfl)
   | exact out _ _ _ _ ((hX.front 2 rfl).front 1 rfl)
 intro gT gP gp w3 hX;have hH2:=hH1.call0 hX;simp only [Xh,Yx] at hH2;clear hX hH1;apply hK;clear hK;refine VQ [1,2,4,6,8,40,41] fun K hK=>?_;refine ⟨_,Qah (hH2.at 2 rfl) (show (Qam (some ⟨gT,0,none⟩) many many (some ⟨gP,0,none⟩) gN gN)[0]? = some _ from rfl),?_⟩;refine Qs ?_;apply hK;clear hK;refine Qx9 h1 h2 t1 t2 hH2 fun w4 us hH hus=>?_;refine VS [1,2,4,6,8,11] ?_;refine VS [1,2,4,6,8,11,78] ?_;refine Qac ?_;refine Qad [1,2,4,6,8,11,78] (fun m e w'=>∃ (r:Nat) (us:List (Option Addr×Nat)),Is e [(1,.int .i64 n),(2,.pointer (some ⟨gl,0,none⟩)),(4,.pointer (some ⟨gr,0,none⟩)),(6,.int .i64 many),(8,.pointer (some ⟨gp,0,none⟩)),(11,Qkk gl gp),(78,.int .i64 r)]/\Heap w [] w' (Yd 51 1 (some ⟨gT,0,none⟩) many many (Qa0 us n)::Yd 3 1 (some ⟨gP,0,none⟩) gN gN (Qak (Qct list n many r).2)::Yl gp 70 (Qam (some ⟨gT,0,none⟩) many many (some ⟨gP,0,none⟩) gN gN)::Yl gr 70 (Qam none 0 0 none 0 0)::Yl gl 51 [.slice (some p) nl lc]::Qcp us n (Qct list n many r).1)/\us.length=many/\r<=4/\m=4 - r) 4 ?_ ?_
 ·
  refine Qs ?_;have e0:Qct list n many 0=(Qhf n many,Ya gN 0):=by rw [Qct,hnl,hgN]
  exact ⟨0,us,rfl,by rw [e0];exact hH,hus,by omega,rfl⟩
 clear hH hus us w4;rintro m e w4 ⟨r,us,rfl,hH,hus,hr4,rfl⟩;refine VS [1,2,4,6,8,11,78,79] ?_;(repeat with_reducible refine Qax ?_);refine VD (fun h=>?_) (fun h=>?_)
 ·
  obtain ⟨hTl,hTx,hPl⟩:=hround r;obtain ⟨hTl',hTx',hPl'⟩:=hround (r+1)
  have hstep:Qct list n many (r+1)=((Yf many).map fun t=>lenS (cntU list (Qd6 list many (Qct list n many r).1) n nl t) 17,Qd6 list many (Qct list n many r).1):=by
   rw [Qct];unfold Qgj;simp only [Qgd,hnl]
  generalize hXX:Qct list n many (r+1)=X' at *;generalize (Qct list n many r).2=P at *;generalize (Qct list n many r).1=T at *
  have hNk:∀ k,k < gN->(Qd6 list many T).getD k 0=Qie (fun t=>Qfw (T.getD t []) (Qcs list k)) (many - 1):=fun k hk=>by
   unfold Qd6;rw [Qgk _ _ _ _ (by rw [hnl,hgN];exact hk)]
  have hNl:(Qd6 list many T).length=gN:=by unfold Qd6;simp [hnl,hgN]
  have hX1:X'.1=(Yf many).map fun t=>lenS (cntU list (Qd6 list many T) n nl t) 17:=by rw [hstep]
  have hX2:X'.2=Qd6 list many T:=by rw [hstep]
  generalize Qd6 list many T=N at *
  have hTg:∀ t,t < many->T[t]? = some (T.getD t [])/\(T.getD t []).length=n/\∀ x∈T.getD t [],x<=20:=fun t ht=>by
   have h:=getD_some [] (show t < T.length by omega);exact ⟨h,hTx _ (Ym h)⟩
  have hRl:(Qcp us n T).length=many:=by rw [QH3 (by omega),hTl]
  refine VC_skip ?_
  ((repeat with_reducible refine Qax ?_);(first | refine Qac ?_ | refine VB ?_))
  refine VQ [1,2,4,6,8,11,12,78] fun K hK=>?_;refine Qbi Y5 zi51 ?_;refine Qs ?_;refine ⟨many,many,⟨rfl,rfl,by omega,by omega,by omega⟩,?_⟩;have hH2:=Qqm hH many (by omega);generalize w4.alloc (Yy (Ya many (Y6 none 0 0)).toArray 51)=w5 at *;generalize w4.heap.size=gW at *;clear hH;apply hK;clear hK;refine VS [1,2,4,6,8,11,12,78,83,84] ?_;refine Qrq (list:=list) (N:=N) h1 h2 t1 t2 hus hTl hH2 fun w6 vs hH hvs=>?_;refine VQ [1,2,4,6,8,11,12,78,95,96] fun K hK=>?_;refine ⟨_,Qah (hH.at 3 rfl) (show (Qam (some ⟨gT,0,none⟩) many many (some ⟨gP,0,none⟩) gN gN)[1]? = some _ from rfl),?_⟩;refine Qs ?_;apply hK;clear hK;refine Qyc (list:=list) (N:=N) (P:=P) (T:=T) (us:=us) (vs:=vs) h1 h2 t1 t2 h3 h4 hnl h5 hps hlc hr hgN hNk hNl hPl hTg hus hvs hRl hH fun w7 hH=>?_;have hvl:vs.length=many:=hvs;have hH2:Heap w [] w7 (Yd 51 1 (some ⟨gW,0,none⟩) many many (Qa0 vs n)::Yd 51 1 (some ⟨gT,0,none⟩) many many (Qa0 us n)::Yd 3 1 (some ⟨gP,0,none⟩) gN gN (Qak N)::Yl gp 70 (Qam (some ⟨gT,0,none⟩) many many (some ⟨gP,0,none⟩) gN gN)::Yl gr 70 (Qam none 0 0 none 0 0)::Yl gl 51 [.slice (some p) nl lc]::Qcp vs n (Qf0 list N many n nl)):=hH.sub (.cons_cons _ (.cons_cons _ (.cons_cons _ (.cons_cons _ (.cons_cons _ (.cons_cons _ (Xq _ _)))))));clear hH;have hWl:=QH2 list N many n nl
  have hnew:∀ t,t < many->X'.1[t]? = some (lenS (cntU list N n nl t) 17):=fun t ht=>by
   rw [hX1,Yw,Yu ht];rfl
  refine VS [1,2,4,6,8,11,12,78,139,140] ?_;refine QA1 (list:=list) (N:=N) h1 h2 t1 t2 h3 h4 hnl hTx' hTl' hX2 hus hvl hWl hnew hH2 fun w8 u2 hH2 hu2=>?_;refine Qaj ?_;refine VS [1,2,4,6,8,11,78] ?_;refine Qab ?_;refine Qs ?_;exact ⟨4 - (r+1),by omega,r+1,u2,rfl,by rw [hXX];exact hH2,hu2,by omega,rfl⟩
 have hr2:r=4:=by omega
 obtain ⟨hTl,hTx,hPl⟩:=hround 4;rw [hr2] at hH;generalize (Qct list n many 4).1=T at *;generalize (Qct list n many 4).2=P at *;refine Qag rfl ?_;refine VQ [4,5] fun K hK=>?_;refine ⟨Qam (some ⟨gT,0,none⟩) many many (some ⟨gP,0,none⟩) gN gN,⟨rfl,Qay (hH.at 2 rfl)⟩,?_⟩;refine Qaa ?_;refine Qs ?_;refine Qae hH 3 (vs:=Qam (some ⟨gT,0,none⟩) many many (some ⟨gP,0,none⟩) gN gN) rfl rfl (by kernel_rfl) (by simp [Qam]) (Qb0 _ _ _ _ _ _) fun w10 hH6=>?_;simp only [Yb,Yg] at hH6;apply hK;clear hK;refine VC_ret (Qdo rfl rfl rfl (Qbw (hH6.at 3 rfl) (by kernel_rfl) (by kernel_rfl) rfl ?_));refine ⟨_,_,hH6.sub (.cons_cons _ (.cons_cons _ (.cons _ (.cons _ (.cons _ (.refl _)))))),fun w' hh=>Qjz rfl hTl hPl hus (by rw [Qsz (by omega) (fun t ht=>(hTx t ht).1)];exact Qaq (hh _ (Ym (i:=0) rfl))) (Qaq (hh _ (Ym (i:=1) rfl))) (fun i h t h6 h7=>?_),rfl⟩;rw [(hTx t (Ym h7)).1];exact Qaq (hh _ (Ym (i:=i+2) (show _=some (Yd 3 1 h.1 n h.2 (Qak t)) from Qqh n h6 h7)))
theorem Qu2 {list:List Nat}{x:List (List Nat)×List Nat} (h1:mayP x.1 x.2) (h2:list.length<=1638350):Qgo x list<=1000000000000:=by
 obtain ⟨m1,m2,m3,m4,m5,m6⟩:=h1;have hFl:=Qjw (T:=x.1) (P:=x.2) (c:=20) (fun t ht y hy=>((m5 t ht).2.2.2.2.1 y hy).2) list 0;have hpl:=Qiz x.2 (Yf x.1.length) (fun k hk=>by simpa using m6 k hk);have hpl2:x.2.length * (Yf x.1.length).length<=32767 * 6:=Ul m4 (by simpa using m2)
 have h3:∀ Q:List (List Nat),(∀ t∈Q,okL t)->(Q.flatMap Qce).length<=Q.length * 20000:=fun Q=>by
  induction Q with
  | nil=>intro _;simp
  | cons t Q ih =>
   intro hQ;have h2:=ih fun t ht=>hQ t (by simp [ht]);obtain ⟨o1,o2,o3,_⟩:=hQ t (by simp);have h3:=Qgb t (t.getD 0 0) (o3 _ (Qa3 0 (by omega))).2 fun x hx=>(o3 x hx).2;simp only [U9,Yk,Y9,Ga,Qce,Qan];omega
 have h4:=h3 x.1 fun t ht=>(m5 t ht).2.2;have hm:=Ue 20 h2;have hm2:=Ue 20000 m2;unfold Qgo Qbx;simp only [Yk,Qan];omega
theorem QIa (list:List Nat) (n:Nat) (hm:Qfg list n) (p:Addr) (hps:p.spot=none) (lc:Nat) (hlc:list.length<=lc) (w:World) (hr:RS w (some p) list.length 1 (Qak list)) :
  Does Yq 34 #[.slice (some p) list.length lc,.int .i64 n] w fun x w'=>∃ v G,Heap w [] w' G/\QEu G v (Qei list n).1 (Qei list n).2/\x=.tuple #[v,.int .i64 0]:=by
 obtain ⟨hmc,hnc⟩:=Qm4 hm;obtain ⟨hmf,hnf⟩:=Qt7 hm;have hch:=QA2 list n hm p hps lc hlc;have hfl:=Quz list n hm (some p) lc;have hbs:Qei list n=if Qgo (Qby list n) list < Qgo (Qc4 list n) list then Qby list n else Qc4 list n:=rfl
 have hgf:(Qby list n).2.length=Qbe list.length:=by simp [Qby]
 have hgc:(Qc4 list n).2.length=Qbe list.length:=by unfold Qc4;rw [Qct];simp [Qgj,Qd6]
 obtain ⟨h1,h2,h3,h4,h5⟩:=hm;have hzc:=Qu2 (list:=list) (x:=Qc4 list n) hmc h4;have hzf:=Qu2 (list:=list) (x:=Qby list n) hmf h4;rw [hbs];generalize Qc4 list n=C at *;generalize Qby list n=F at *;obtain ⟨CT,CP⟩:=C;obtain ⟨FT,FP⟩:=F;simp only at hmc hnc hmf hnf hch hfl hgf hgc;have hsc:=fun v=>Qmh v CT CP hmc list h3 (by rw [hnc];exact h5) (by omega) hzc (some p) lc;have hsf:=fun v=>Qmh v FT FP hmf list h3 (by rw [hnf];exact h5) (by omega) hzf (some p) lc;clear hmc hmf hnc hnf hbs;refine En [.slice (some p) list.length lc,.int .i64 n] 47 Tryz.func34 ?_;generalize hnl:list.length=nl at *;refine VQ [0,1,4] fun K hK=>?_;refine Qao (.agg #[.slice none 0 0,.slice none 0 0]) (by kernel_rfl) ?_;refine Qs ?_;have hH:=(Y7 w).box 70 (Qam none 0 0 none 0 0);have hpl:[Y6 none 0 0,Y6 none 0 0]=Qam none 0 0 none 0 0:=rfl;rw [hpl];generalize w.alloc (Yy (Qam none 0 0 none 0 0).toArray 70)=w1 at *;generalize w.heap.size=gr at *;apply hK;clear hK;refine VQ [0,1,4,6,7] fun K hK=>?_;refine MemK_call Tryz.call60 ?_;refine Qs ?_;refine Yr (hch w1 (hH.rs' hr)) ?_;rintro v w2 ⟨pv,GC,hHc,hpc,rfl⟩;have hH2:=(hH.call0 hHc).perm X0;simp only [Yp] at hH2;obtain ⟨ta,tc,pa,pc,us,rfl,_⟩:=hpc w2 hHc.holds;have hpv:Xy #[.slice ta CT.length tc,.slice pa CP.length pc]=.agg (Qam ta CT.length tc pa CP.length pc).toArray:=rfl;rw [hpv] at hpc ⊢;clear hH hHc;refine Qao (.agg #[.slice none 0 0,.slice none 0 0]) (by kernel_rfl) ?_;refine Qs ?_;have hH3:=hH2.box 70 (Qam none 0 0 none 0 0);rw [hpl];generalize w2.alloc (Yy (Qam none 0 0 none 0 0).toArray 70)=w3 at *;generalize w2.heap.size=ga at *;refine Qaa ?_;refine Qs ?_;refine Qae hH3 0 (vs:=Qam ta CT.length tc pa CP.length pc) rfl rfl (by kernel_rfl) (by simp [Qam]) (Qb0 _ _ _ _ _ _) fun w4 hH4=>?_;have hH5:Heap w [] w4 (Yl ga 70 (Qam ta CT.length tc pa CP.length pc)::Yl gr 70 (Qam none 0 0 none 0 0)::GC):=hH4;clear hH2 hH3 hH4;apply hK;clear hK;refine VS [0,1,4,6,7,21] ?_;refine Qaf rfl rfl (fun h=>by simp at h) (fun h=>VC_skip ?_);clear h;refine VQ [0,4,6,8] fun K hK=>?_;refine MemK_call Tryz.call61 ?_;refine Qs ?_;refine Yr (hfl w4 (hH5.rs' hr)) ?_;rintro v w5 ⟨pv,GF,hHf,hpf,rfl⟩;have hH6:=(hH5.call0 hHf).perm X0;simp only [Xh] at hH6;obtain ⟨fa,fc,qa,qc,us2,rfl,_⟩:=hpf w5 hHf.holds;have hpv2:Xy #[.slice fa FT.length fc,.slice qa FP.length qc]=.agg (Qam fa FT.length fc qa FP.length qc).toArray:=rfl;rw [hpv2] at hpf ⊢;clear hH5 hHf;refine Qao (.agg #[.slice none 0 0,.slice none 0 0]) (by kernel_rfl) ?_;refine Qs ?_;have hH7:=hH6.box 70 (Qam none 0 0 none 0 0);rw [hpl];generalize w5.alloc (Yy (Qam none 0 0 none 0 0).toArray 70)=w6 at *;generalize w5.heap.size=gb at *;refine Qaa ?_;refine Qs ?_;refine Qae hH7 0 (vs:=Qam fa FT.length fc qa FP.length qc) rfl rfl (by kernel_rfl) (by simp [Qam]) (Qb0 _ _ _ _ _ _) fun w7 hH8=>?_;have hH9:Heap w [] w7 (Yl gb 70 (Qam fa FT.length fc qa FP.length qc)::Yl ga 70 (Qam ta CT.length tc pa CP.length pc)::Yl gr 70 (Qam none 0 0 none 0 0)::(GC++GF)):=hH8;clear hH6 hH7 hH8;apply hK;clear hK;refine VQ [0,4,6,8,10] fun K hK=>?_;refine ⟨Qam ta CT.length tc pa CP.length pc,⟨rfl,Qay (hH9.at 1 rfl)⟩,?_⟩;refine MemK_call Tryz.call62 ?_;refine Qs ?_;refine Yr (hsc _ w7 (hpc w7 (fun r hr=>hH9.holds r (by simp [hr]))) (hH9.rs' hr)) ?_;rintro v w8 ⟨hHs,rfl⟩;have hH10:=hH9.call0 hHs;simp only [Yx] at hH10;clear hH9 hHs;apply hK;clear hK;refine VQ [4,6,8,10,12] fun K hK=>?_;refine ⟨Qam fa FT.length fc qa FP.length qc,⟨rfl,Qay (hH10.at 0 rfl)⟩,?_⟩;refine MemK_call Tryz.call62 ?_;refine Qs ?_;refine Yr (hsf _ w8 (hpf w8 (fun r hr=>hH10.holds r (by simp [hr]))) (hH10.rs' hr)) ?_;rintro v w9 ⟨hHs,rfl⟩;have hH11:=hH10.call0 hHs
 simp only [Yx] at hH11;clear hH10 hHs;apply hK;clear hK;generalize Qgo (FT,FP) list=sf at *;generalize Qgo (CT,CP) list=sc at *;refine VS [4,6,8,44] ?_;refine VD (fun h=>?_) (fun h=>VC_skip ?_)
 ·
  rw [if_pos (by omega)];refine VQ [4,5] fun K hK=>?_;refine ⟨Qam fa FT.length fc qa FP.length qc,⟨rfl,Qay (hH11.at 0 rfl)⟩,?_⟩;refine Qaa ?_;refine Qs ?_;refine Qae hH11 2 (vs:=Qam fa FT.length fc qa FP.length qc) rfl rfl (by kernel_rfl) (by simp [Qam]) (Qb0 _ _ _ _ _ _) fun w10 hH12=>?_;simp only [Yb,Yg] at hH12;apply hK;clear hK;refine VC_ret (Qdo rfl rfl rfl (Qbw (hH12.at 2 rfl) (by kernel_rfl) (by kernel_rfl) rfl ?_));exact ⟨_,GF,hH12.sub (.cons _ (.cons _ (.cons _ (Xq _ _)))),hpf,rfl⟩
 rw [if_neg (by omega)];refine VQ [4,5] fun K hK=>?_;refine ⟨Qam ta CT.length tc pa CP.length pc,⟨rfl,Qay (hH11.at 1 rfl)⟩,?_⟩;refine Qaa ?_;refine Qs ?_;refine Qae hH11 2 (vs:=Qam ta CT.length tc pa CP.length pc) rfl rfl (by kernel_rfl) (by simp [Qam]) (Qb0 _ _ _ _ _ _) fun w10 hH12=>?_;simp only [Yb,Yg] at hH12;apply hK;clear hK;refine VC_ret (Qdo rfl rfl rfl (Qbw (hH12.at 2 rfl) (by kernel_rfl) (by kernel_rfl) rfl ?_));exact ⟨_,GC,hH12.sub (.cons _ (.cons _ (.cons _ (Uq _ _)))),hpc,rfl⟩
set_option maxHeartbeats 4000000
theorem Qyd (list:List Nat) (n:Nat) (hm:Qfg list n) (p:Addr) (hps:p.spot=none) (lc:Nat) (hlc:list.length<=lc) (w:World) (hr:RS w (some p) list.length 1 (Qak list)) :
  Does Yq 47 #[.slice (some p) list.length lc,.int .i64 n] w fun x w'=>∃ v G,Heap w [] w' G/\QEu G v (Qei list n).1 (Qei list n).2/\x=.tuple #[v,.int .i64 0]:=by
 obtain ⟨hmc,hnc⟩:=Qm4 hm;obtain ⟨hmf,hnf⟩:=Qt7 hm;have hch:=Qrp list n hm p hps lc hlc;have hfl:=Qya list n hm (some p) lc;have hbs:Qei list n=if Qgo (Qby list n) list < Qgo (Qc4 list n) list then Qby list n else Qc4 list n:=rfl
 have hgf:(Qby list n).2.length=Qbe list.length:=by simp [Qby]
 have hgc:(Qc4 list n).2.length=Qbe list.length:=by unfold Qc4;rw [Qct];simp [Qgj,Qd6]
 obtain ⟨h1,h2,h3,h4,h5⟩:=hm;have hzc:=Qu2 (list:=list) (x:=Qc4 list n) hmc h4;have hzf:=Qu2 (list:=list) (x:=Qby list n) hmf h4;rw [hbs];generalize Qc4 list n=C at *;generalize Qby list n=F at *;obtain ⟨CT,CP⟩:=C;obtain ⟨FT,FP⟩:=F;simp only at hmc hnc hmf hnf hch hfl hgf hgc;have hsc:=fun v=>Qn4 v CT CP hmc list h3 (by rw [hnc];exact h5) (by omega) hzc (some p) lc;have hsf:=fun v=>Qn4 v FT FP hmf list h3 (by rw [hnf];exact h5) (by omega) hzf (some p) lc;clear hmc hmf hnc hnf hbs;refine En [.slice (some p) list.length lc,.int .i64 n] 47 Tryz.func47 ?_;generalize hnl:list.length=nl at *;refine VQ [0,1,4] fun K hK=>?_;refine Qao (.agg #[.slice none 0 0,.slice none 0 0]) (by kernel_rfl) ?_;refine Qs ?_;have hH:=(Y7 w).box 70 (Qam none 0 0 none 0 0);have hpl:[Y6 none 0 0,Y6 none 0 0]=Qam none 0 0 none 0 0:=rfl;rw [hpl];generalize w.alloc (Yy (Qam none 0 0 none 0 0).toArray 70)=w1 at *;generalize w.heap.size=gr at *;apply hK;clear hK;refine VQ [0,1,4,6,7] fun K hK=>?_;refine MemK_call Tryz.call76 ?_;refine Qs ?_;refine Yr (hch w1 (hH.rs' hr)) ?_;rintro v w2 ⟨pv,GC,hHc,hpc,rfl⟩;have hH2:=(hH.call0 hHc).perm X0;simp only [Yp] at hH2;obtain ⟨ta,tc,pa,pc,us,rfl,_⟩:=hpc w2 hHc.holds;have hpv:Xy #[.slice ta CT.length tc,.slice pa CP.length pc]=.agg (Qam ta CT.length tc pa CP.length pc).toArray:=rfl;rw [hpv] at hpc ⊢;clear hH hHc;(try refine Qs ?_);refine Qao (.agg #[.slice none 0 0,.slice none 0 0]) (by kernel_rfl) ?_;refine Qs ?_;have hH3:=hH2.box 70 (Qam none 0 0 none 0 0);rw [hpl];generalize w2.alloc (Yy (Qam none 0 0 none 0 0).toArray 70)=w3 at *;generalize w2.heap.size=ga at *;refine Qaa ?_;refine Qs ?_;refine Qae hH3 0 (vs:=Qam ta CT.length tc pa CP.length pc) rfl rfl (by kernel_rfl) (by simp [Qam]) (Qb0 _ _ _ _ _ _) fun w4 hH4=>?_;have hH5:Heap w [] w4 (Yl ga 70 (Qam ta CT.length tc pa CP.length pc)::Yl gr 70 (Qam none 0 0 none 0 0)::GC):=hH4;clear hH2 hH3 hH4;(try refine Qs ?_);apply hK;clear hK;refine VQ [0,4,6,7,8] fun K hK=>?_;refine MemK_call Tryz.call77 ?_;refine Qs ?_;refine Yr (hfl w4 (hH5.rs' hr)) ?_;rintro v w5 ⟨pv,GF,hHf,hpf,rfl⟩;have hH6:=(hH5.call0 hHf).perm X0;simp only [Xh] at hH6;obtain ⟨fa,fc,qa,qc,us2,rfl,_⟩:=hpf w5 hHf.holds;have hpv2:Xy #[.slice fa FT.length fc,.slice qa FP.length qc]=.agg (Qam fa FT.length fc qa FP.length qc).toArray:=rfl;rw [hpv2] at hpf ⊢;clear hH5 hHf;(try refine Qs ?_);refine Qao (.agg #[.slice none 0 0,.slice none 0 0]) (by kernel_rfl) ?_;refine Qs ?_;have hH7:=hH6.box 70 (Qam none 0 0 none 0 0);rw [hpl];generalize w5.alloc (Yy (Qam none 0 0 none 0 0).toArray 70)=w6 at *;generalize w5.heap.size=gb at *;refine Qaa ?_;refine Qs ?_;refine Qae hH7 0 (vs:=Qam fa FT.length fc qa FP.length qc) rfl rfl (by kernel_rfl) (by simp [Qam]) (Qb0 _ _ _ _ _ _) fun w7 hH8=>?_;have hH9:Heap w [] w7 (Yl gb 70 (Qam fa FT.length fc qa FP.length qc)::Yl ga 70 (Qam ta CT.length tc pa CP.length pc)::Yl gr 70 (Qam none 0 0 none 0 0)::(GC++GF)):=hH8;clear hH6 hH7 hH8;(try refine Qs ?_);apply hK;clear hK;refine VS [0,4,6,7,8,27] ?_;refine Qaf rfl rfl (fun h=>by simp at h) (fun h=>VC_skip ?_);clear h;refine VQ [0,4,6,8,10] fun K hK=>?_;refine ⟨Qam ta CT.length tc pa CP.length pc,⟨rfl,Qay (hH9.at 1 rfl)⟩,?_⟩;(try refine Qs ?_);refine MemK_call Tryz.call78 ?_;refine Qs ?_;refine Yr (hsc _ w7 (hpc w7 (fun r hr=>hH9.holds r (by simp [hr]))) (hH9.rs' hr)) ?_;rintro v w8 ⟨hHs,rfl⟩;have hH10:=hH9.call0 hHs;simp only [Yx] at hH10;clear hH9 hHs;(try refine Qs ?_);apply hK;clear hK;refine VQ [4,6,8,10,12] fun K hK=>?_;refine ⟨Qam fa FT.length fc qa FP.length qc,⟨rfl,Qay (hH10.at 0 rfl)⟩,?_⟩;(try refine Qs ?_);refine MemK_call Tryz.call78 ?_;refine Qs ?_;refine Yr (hsf _ w8 (hpf w8 (fun r hr=>hH10.holds r (by simp [hr]))) (hH10.rs' hr)) ?_
 rintro v w9 ⟨hHs,rfl⟩;have hH11:=hH10.call0 hHs;simp only [Yx] at hH11;clear hH10 hHs;(try refine Qs ?_);apply hK;clear hK;generalize Qgo (FT,FP) list=sf at *;generalize Qgo (CT,CP) list=sc at *;refine VS [4,6,8,44] ?_;refine VD (fun h=>?_) (fun h=>VC_skip ?_)
 ·
  rw [if_pos (by omega)];refine VQ [4,5] fun K hK=>?_;refine ⟨Qam fa FT.length fc qa FP.length qc,⟨rfl,Qay (hH11.at 0 rfl)⟩,?_⟩;(try refine Qs ?_);refine Qaa ?_;refine Qs ?_;refine Qae hH11 2 (vs:=Qam fa FT.length fc qa FP.length qc) rfl rfl (by kernel_rfl) (by simp [Qam]) (Qb0 _ _ _ _ _ _) fun w10 hH12=>?_;simp only [Yb,Yg] at hH12;(try refine Qs ?_);apply hK;clear hK;refine VC_ret (Qdo rfl rfl rfl (Qbw (hH12.at 2 rfl) (by kernel_rfl) (by kernel_rfl) rfl ?_));exact ⟨_,GF,hH12.sub (.cons _ (.cons _ (.cons _ (Xq _ _)))),hpf,rfl⟩
 rw [if_neg (by omega)];refine VQ [4,5] fun K hK=>?_;refine ⟨Qam ta CT.length tc pa CP.length pc,⟨rfl,Qay (hH11.at 1 rfl)⟩,?_⟩;(try refine Qs ?_);refine Qaa ?_;refine Qs ?_;refine Qae hH11 2 (vs:=Qam ta CT.length tc pa CP.length pc) rfl rfl (by kernel_rfl) (by simp [Qam]) (Qb0 _ _ _ _ _ _) fun w10 hH12=>?_;simp only [Yb,Yg] at hH12;(try refine Qs ?_);apply hK;clear hK;refine VC_ret (Qdo rfl rfl rfl (Qbw (hH12.at 2 rfl) (by kernel_rfl) (by kernel_rfl) rfl ?_));exact ⟨_,GC,hH12.sub (.cons _ (.cons _ (.cons _ (Uq _ _)))),hpc,rfl⟩
set_option maxHeartbeats 2000000
def pkB (l:List Bool) (j k:Nat):List Bool:=(Yf k).map fun x=>l.getD (8 * j+x) false
theorem QIb (l:List Bool) (j k:Nat):(pkB l j k).length=k:=by simp [pkB]
theorem QLc (l:List Bool) (j k:Nat):pkB l j (k+1)=pkB l j k++[l.getD (8 * j+k) false]:=by simp [pkB,Xr]
theorem QIc (l:List Bool) (j:Nat) (h:8 * j < l.length):((Qbo l).getD j 0).toNat=numB (pkB l j 8):=by
 have hl:=Qci l;have hb:=Qdk l
 have e:Qas 8 ((Qbo l).getD j 0).toNat=pkB l j 8:=by
  apply Xa;intro x;by_cases hx:x < 8
  ·
   rw [Qhd 8 _ x hx,pkB,Yw,Yu hx];have h1:=Qka (Qbo l) (8 * j+x) (by omega);rw [show (8 * j+x) / 8=j by omega,show (8 * j+x) % 8=x by omega,hb] at h1
   show _=some _
   rw [show 8 - 1 - x=7 - x by omega,<- h1];by_cases hlt:8 * j+x < l.length
   ·
    show _=some (l.getD (8 * j+x) false)
    rw [Y0 hlt,Yi,Ye hlt];rfl
   show _=some (l.getD (8 * j+x) false)
   rw [Yz (by omega),Xn,if_pos (by omega),Yi,Ys (by omega)];rfl
  rw [Ys (by rw [Qan];omega),Ys (by rw [QIb];omega)]
 rw [<- e,Qdz,Nat.mod_eq_of_lt ((Qbo l).getD j 0).toNat_lt]
theorem Qs5 (l:List Bool) (hl:l.length<=1000000000000) (a:Option Addr) (c:Nat) (w:World) (hr:RS w a l.length 1 (Qat (bI l))) :
  Does Yq 25 #[.slice a l.length c] w fun v w'=>Heap w [] w' []/\v=Str (Qbo l):=by
 have htl:=Qci l;refine En [.slice a l.length c] 40 Tryz.func25 ?_;refine VS [0] ?_;refine VS [0,3] ?_;refine VS [0,3,4] ?_;refine Qac ?_;refine Qad [0,3,4] (fun m e w'=>∃ (j cap:Nat) (ao:Option Addr),Is e [(0,.slice a l.length c),(3,.slice ao ((Qbo l).take j).length cap),(4,.int .i64 (8 * j:Nat))]/\Heap w [] w' [Yd 5 1 ao ((Qbo l).take j).length cap (Qar ((Qbo l).take j))]/\j<=(Qbo l).length/\m=(Qbo l).length - j) (Qbo l).length ?_ ?_
 ·
  refine Qs ?_;exact ⟨0,0,none,rfl,(Y7 w).nilRow 5 1,by omega,rfl⟩
 rintro m e w' ⟨j,cap,ao,rfl,hH,hj,rfl⟩;refine VS [0,3,4,10] ?_;refine VD (fun h=>?_) (fun h=>?_)
 ·
  have hj8:8 * j < l.length:=by omega
  have hjt:j < (Qbo l).length:=by omega
  have hby:=QIc l j hj8;have htk:=Qb2 (0:UInt8) hjt;have htl2:((Qbo l).take j).length=j:=by rw [Y1];omega
  obtain ⟨p,rfl⟩:=Qbj hr (by omega);refine VC_skip ?_;refine VB ?_;generalize (Qbo l).getD j 0=y at *;refine VS [0,3,4,5] ?_;refine VS [0,3,4,5,6] ?_;refine Qac ?_;refine Qad [0,3,4,5,6] (fun m e w2=>∃ (k:Nat),Is e [(0,.slice (some p) l.length c),(3,.slice ao ((Qbo l).take j).length cap),(4,.int .i64 (8 * j:Nat)),(5,.int .i64 (numB (pkB l j k):Nat)),(6,.int .i64 k)]/\Is w2 w'/\k<=8/\m=8 - k) 8 ?_ ?_
  ·
   refine Qs ?_;exact ⟨0,rfl,rfl,by omega,rfl⟩
  rintro m e w2 ⟨k,rfl,rfl,hk,rfl⟩;refine VS [0,3,4,5,6,14] ?_;refine VD (fun h=>?_) (fun h=>?_)
  ·
   have hlt:=Qes (pkB l j k);have hp:2 ^ (pkB l j k).length<=2 ^ 8:=Xs (by omega) (by rw [QIb];omega);have hsn:numB (pkB l j (k+1))=2 * numB (pkB l j k)+(l.getD (8 * j+k) false).toNat:=by rw [QLc,Qpj]
   generalize numB (pkB l j k)=q at *;refine VC_skip ?_;refine VB ?_;refine VQ [0,3,4,5,6] fun K hK=>?_;(repeat first | refine Qo ?_ | refine Qp ?_);apply hK;clear hK;refine VQ [0,3,4,5,6,24] fun K hK=>?_;(repeat first | refine Qo ?_ | refine Qp ?_);(repeat refine Qo ?_);apply hK;clear hK;refine VD (fun h=>?_) (fun h=>?_)
   ·
    have hcell:=Qht (hH.rs' hr) (show 8 * j+k < (bI l).length by rw [Qbh];omega);rw [Qnj (by omega)] at hcell;generalize l.getD (8 * j+k) false=b at *;refine VQ [0,3,4,5,6] fun K hK=>?_;refine ⟨Xf (by omega) (by omega),⟨by omega,by omega⟩,_,hcell,?_⟩;(try refine Qs ?_);have he:(q:Int) * 2+(if b=true then 1 else 0)=((numB (pkB l j (k+1)):Nat):Int):=by rw [hsn];cases b <;> simp <;> omega
    have hq2:numB (pkB l j (k+1))<=1000:=by rw [hsn];cases b <;> simp <;> omega
    rw [he];(repeat refine Qo ?_);apply hK;clear hK;refine Qaj ?_;refine VS [0,3,4,5,6] ?_;refine Qab ?_;refine Qs ?_;exact ⟨8 - (k+1),by omega,k+1,rfl,rfl,by omega,rfl⟩
   have hb0:l.getD (8 * j+k) false=false:=by rw [Yi,Ys (by omega)];rfl
   rw [hb0] at hsn;refine VC_skip ?_;refine Qaj ?_;refine VS [0,3,4,5,6] ?_;refine Qab ?_;refine Qs ?_;refine ⟨8 - (k+1),by omega,k+1,?_,rfl,by omega,rfl⟩;rw [show (q:Int) * 2=((numB (pkB l j (k+1)):Nat):Int) by rw [hsn];simp;omega];rfl
  obtain rfl:k=8:=by omega
  refine Qag rfl ?_;rw [<- hby];have hy:=y.toNat_lt;refine VQ [0,3,4] fun K hK=>?_;rw [show (y.toNat:Int) % 256=(y.toNat:Nat) by omega];refine Qcd (xs:=[.tmp 35]) Un sz5 rfl rfl rfl (by omega) ?_;refine Qs ?_;refine ⟨by simp [Y2],?_⟩;refine Qai ?_;refine Qs ?_;refine Qg9 hH 0 (y) rfl Un zi5 (by first | rfl | (simp;done) | omega) (fun h=>by (first | omega | (simp;done) | (simp;omega))) fun a' cap' w5 hc' hH2=>?_;(try refine Qs ?_);rw [<- htk] at hH2 ⊢;apply hK;clear hK;refine Qaj ?_;refine VS [0,3,4] ?_;refine Qab ?_;refine Qs ?_;exact ⟨(Qbo l).length - (j+1),by omega,j+1,cap',a',by rw [show ((8 * (j+1):Nat):Int)=((8 * j:Nat):Int)+8 by omega];rfl,hH2,by omega,rfl⟩
 refine Qag rfl ?_;rw [Yo (by omega)] at hH ⊢;refine VQ [2] fun K hK=>?_;refine ⟨Qbo l,hH.readsBytes 0 rfl,?_⟩;(try refine Qs ?_);(repeat refine Qo ?_);apply hK;clear hK;exact VC_ret (VX_ret1 rfl rfl ⟨hH.sub (by simp),rfl⟩)
theorem Qye (s u:List UInt8) (out:List Int) (hu:Qbc u=u) (hne:u≠[]) (hul:u.length<=256) (hs:s.length<=1000000000) (hf:Qdi u s=some out) (w:World) :
  Does Yq 45 #[Str s,Str u] w fun v w'=>∃ a c,Heap w [] w' [Yd 3 1 a out.length c (Qat out)]/\v=.tuple #[.slice a out.length c,.int .i64 0]:=by
 refine En [Str s,Str u] 37 Tryz.func45 ?_;refine VS [0,1] ?_;refine VQ [0,1,12] fun K hK=>?_;refine MemK_call Tryz.call73 ?_;refine Qs ?_;refine Yr (Qsy u hu hne (by omega) w) ?_;rintro v w2 ⟨hH,rfl⟩;(try refine Qs ?_);(repeat refine Qo ?_);apply hK;clear hK;refine Qaf rfl rfl (fun h=>by simp at h) (fun h=>VC_skip ?_);clear h;refine VS [0,1,6] ?_;refine VS [0,6,7] ?_;refine VS [0,6,7,8] ?_;refine Qac ?_;refine Qad [0,6,7,8] (fun m e w'=>∃ (i cap:Nat) (ao:Option Addr) (li:List UInt8) (o:List Int),Is e [(0,Str s),(6,.slice ao o.length cap),(7,Str li),(8,.int .i64 i)]/\Heap w [] w' [Yd 3 1 ao o.length cap (Qat o)]/\i<=s.length/\o.length=i/\li.length<=256/\(Qdi li (s.drop i)).map (o++·)=some out/\m=s.length - i) s.length ?_ ?_
 ·
  refine Qs ?_;exact ⟨0,0,none,u,[],rfl,hH.nilRow 3 1,by omega,rfl,hul,by rw [Xw,hf];rfl,rfl⟩
 clear hH;rintro m e w' ⟨i,cap,ao,li,o,rfl,hH,hi,ho,hli,hres,rfl⟩;refine VS [0,6,7,8,17] ?_;refine VD (fun h=>?_) (fun h=>?_)
 ·
  have hi':i < s.length:=by omega
  have hd:=drop_getD (0:UInt8) hi';rw [hd,Qdi] at hres;generalize hc:s.getD i 0=ch at *;have hmem:ch∈li:=Decidable.byContradiction fun hn=>by rw [if_neg hn] at hres;cases hres
  rw [if_pos hmem,Option.map_map] at hres;have hx:=X5.2 hmem;have hpl:=Qqa li ch (by omega) w';generalize li.idxOf ch=x at *;refine VC_skip ?_;refine VB ?_;refine VQ [0,6,7,8,9] fun K hK=>?_;refine Qp ?_;rw [hc];refine MemK_call Tryz.call72 ?_;refine Qs ?_;refine Yr hpl ?_;rintro v w3 ⟨rfl,rfl⟩;(try refine Qs ?_);(repeat refine Qo ?_);apply hK;clear hK;refine VS [0,6,7,8,9,28] ?_;refine Qaf rfl rfl (fun h=>by simp only [decide_eq_true_eq] at h;omega) (fun h=>VC_skip ?_);clear h;refine VQ [0,6,7,8,9] fun K hK=>?_;refine MemK_call Tryz.call74 ?_;refine Qs ?_;refine Yr (Qut li x hx (by omega) w3) ?_;rintro v w4 ⟨rfl,rfl⟩;(try refine Qs ?_);(repeat refine Qo ?_);apply hK;clear hK;refine VQ [0,6,7,8] fun K hK=>?_;refine Qcd (xs:=[.tmp 33]) Yc sz3 rfl rfl rfl (by omega) ?_;refine Qs ?_;refine ⟨by simp [Y2],?_⟩;refine Qai ?_;refine Qs ?_;refine Qge hH 0 rfl Yc zi3 (fun h=>by (first | omega | (simp;done) | (simp;omega))) fun a' cap' w5 hc' hH2=>?_;(try refine Qs ?_);apply hK;clear hK;refine Qaj ?_;refine VS [0,6,7,8] ?_;refine Qab ?_;refine Qs ?_;refine ⟨s.length - (i+1),by omega,i+1,cap',a',Qgq li x,o++[(x:Int)],rfl,hH2,by omega,by simp;omega,by rw [Qke hx];exact hli,?_,rfl⟩;rw [<- hres];cases Qdi (Qgq li x) (s.drop (i+1)) <;> simp
 obtain rfl:i=s.length:=by omega
 rw [List.drop_length,Qdi] at hres;simp at hres;subst hres;refine Qag rfl ?_;refine VS [4,5] ?_;exact VC_ret (Qav rfl rfl rfl ⟨_,_,hH,rfl⟩)
set_option maxHeartbeats 2000000
def anyU (f:UInt8->Nat) (n:Nat) (l:List UInt8):List Bool:=(Yf n).map fun b=>l.any fun c=>f c == b
theorem Qu3 (f:UInt8->Nat) (n:Nat) (l:List UInt8):(anyU f n l).length=n:=by simp [anyU]
theorem QCf (f:UInt8->Nat) (n:Nat):anyU f n []=Ya n false:=by
 unfold anyU;rw [<- Xi (n:=n),<- List.map_const'];simp
theorem Qyf (f:UInt8->Nat) (n:Nat) (l:List UInt8) (c:UInt8):anyU f n (l++[c])=(anyU f n l).set (f c) true:=by
 apply Xa;intro j;rw [Xm,Qu3];unfold anyU;rw [Yw,Yw];by_cases hj:j < n
 ·
  rw [Yu hj];by_cases e:f c=j
  ·
   rw [if_pos e,if_pos (by omega)];simp [e]
  rw [if_neg e];simp [e]
 rw [Ys (by simp;omega)];by_cases e:f c=j
 ·
  rw [if_pos e,if_neg (by omega)];rfl
 rw [if_neg e];rfl
theorem QPn (u:List UInt8) (r:Nat):(u.any fun c=>c.toNat / 16 == r)=Qb5 u r:=by
 unfold Qb5 memB;rw [Bool.eq_iff_iff,Uc,Uc];constructor
 ·
  rintro ⟨c,hc,h⟩;simp only [beq_iff_eq] at h;refine ⟨c.toNat % 16,Uk.2 (by omega),?_⟩;rw [Uc];exact ⟨c,hc,by simp only [beq_iff_eq];omega⟩
 rintro ⟨k,hk,h⟩;rw [Uc] at h;obtain ⟨c,hc,h⟩:=h;have hk:=Uk.1 hk;simp only [beq_iff_eq] at h;exact ⟨c,hc,by simp only [beq_iff_eq];omega⟩
theorem Qs6 (n:Nat):Qat (bI (Ya n false))=Ya n (.int .i64 0):=by simp [Qat,bI]
theorem QE2 (u:List UInt8) (hs:u.length<=1000000) (w:World):Does Yq 79 #[Str u] w fun v w'=>∃ g1 g2,Heap w [] w' [Yd 3 1 (some ⟨g2,0,none⟩) 256 256 (Qat (bI ((Yf 256).map (memB u)))),Yd 3 1 (some ⟨g1,0,none⟩) 16 16 (Qat (bI ((Yf 16).map (Qb5 u))))]/\v=.tuple #[.slice (some ⟨g1,0,none⟩) 16 16,.slice (some ⟨g2,0,none⟩) 256 256]:=by
 refine En [Str u] 28 Tryz.func79 ?_;refine VS [0] ?_;refine VQ [0,4] fun K hK=>?_;refine Qbi Yc zi3 ?_;refine Qs ?_;refine ⟨16,16,⟨rfl,rfl,by omega,by omega,by omega⟩,?_⟩;have hH:=(Y7 w).row 3 (n:=16) (cap:=16) (sz:=1) (Ya 16 (.int .i64 0)) [] (by simp) (by simp) (Ug _) (by have:maxLen=9223372036854775807:=rfl;omega);rw [Yh] at hH;generalize w.alloc (Yy (Ya 16 (Xe .i64 0)).toArray 3)=w1 at *;generalize w.heap.size=g1 at *;(try refine Qs ?_);apply hK;clear hK;refine VQ [0,4,5] fun K hK=>?_;refine Qbi Yc zi3 ?_;refine Qs ?_;refine ⟨256,256,⟨rfl,rfl,by omega,by omega,by omega⟩,?_⟩;have hH2:=hH.row 3 (n:=256) (cap:=256) (sz:=1) (Ya 256 (.int .i64 0)) [] (by simp) (by simp) (Ug _) (by have:maxLen=9223372036854775807:=rfl;omega);rw [Yh] at hH2;generalize w1.alloc (Yy (Ya 256 (Xe .i64 0)).toArray 3)=w2 at *;generalize w1.heap.size=g2 at *;rw [<- Qs6,<- Qs6,<- QCf (fun c=>c.toNat),<- QCf (fun c=>c.toNat / 16)] at hH2;clear hH;(try refine Qs ?_);apply hK;clear hK;refine VS [0,4,5,6] ?_;refine Qac ?_;refine Qad [0,4,5,6] (fun m e w'=>∃ (i:Nat),Is e [(0,Str u),(4,.slice (some ⟨g1,0,none⟩) 16 16),(5,.slice (some ⟨g2,0,none⟩) 256 256),(6,.int .i64 i)]/\Heap w [] w' [Yd 3 1 (some ⟨g2,0,none⟩) 256 256 (Qat (bI (anyU (fun c=>c.toNat) 256 (u.take i)))),Yd 3 1 (some ⟨g1,0,none⟩) 16 16 (Qat (bI (anyU (fun c=>c.toNat / 16) 16 (u.take i))))]/\i<=u.length/\m=u.length - i) u.length ?_ ?_
 ·
  refine Qs ?_;exact ⟨0,rfl,hH2,by omega,rfl⟩
 clear hH2;rintro m e w' ⟨i,rfl,hH,hi,rfl⟩;refine VS [0,4,5,6,12] ?_;refine VD (fun h=>?_) (fun h=>?_)
 ·
  have htk:=Qb2 (0:UInt8) (show i < u.length by omega);have h1:=Qyf (fun c=>c.toNat) 256 (u.take i) (u.getD i 0);have h2:=Qyf (fun c=>c.toNat / 16) 16 (u.take i) (u.getD i 0);have l1:=Qu3 (fun c=>c.toNat) 256 (u.take i);have l2:=Qu3 (fun c=>c.toNat / 16) 16 (u.take i);rw [<- htk] at h1 h2;generalize hc:u.getD i 0=c at *;have hcl:=c.toNat_lt;refine VC_skip ?_;refine VB ?_;refine VQ [0,4,5,6] fun K hK=>?_;rw [hc];refine ⟨⟨by omega,by omega⟩,⟨by omega,by omega⟩,?_⟩;refine Qaa ?_;refine Qs ?_;refine Qaz hH 0 (o:=c.toNat) (vs:=[.int .i64 1]) rfl (by simp [Qbg]) rfl (by kernel_rfl) (by simp only [Yj,Qdm,Qbh];omega) (by simp [Yt]) fun w4 hH2=>?_;simp only [Yb] at hH2;rw [Qma (by rw [Qbh];omega)] at hH2;(try refine Qs ?_);apply hK;clear hK;refine VQ [0,4,5,6] fun K hK=>?_;rw [hc];have hcd:((c.toNat:Int) / 16) % 256=((c.toNat / 16:Nat):Int):=by omega
  rw [hcd];refine ⟨⟨by omega,by omega⟩,by omega,by decide,⟨by omega,by omega⟩,?_⟩;rw [Int.toNat_natCast];refine Qaa ?_;refine Qs ?_;refine Qaz hH2 1 (o:=c.toNat / 16) (vs:=[.int .i64 1]) rfl (by simp [Qbg]) rfl (by kernel_rfl) (by simp only [Yj,Qdm,Qbh];omega) (by simp [Yt]) fun w5 hH3=>?_;simp only [Yb,Yg] at hH3;rw [Qma (by rw [Qbh];omega)] at hH3;have b1:=QB4 (anyU (fun c=>c.toNat) 256 (u.take i)) c.toNat true;have b2:=QB4 (anyU (fun c=>c.toNat / 16) 16 (u.take i)) (c.toNat / 16) true;rw [<- h1,if_pos rfl] at b1;rw [<- h2,if_pos rfl] at b2;rw [<- b1,<- b2] at hH3;(try refine Qs ?_);apply hK;clear hK;refine Qaj ?_;refine VS [0,4,5,6] ?_;refine Qab ?_;refine Qs ?_;exact ⟨u.length - (i+1),by omega,i+1,rfl,hH3,by omega,rfl⟩
 obtain rfl:i=u.length:=by omega
 rw [List.take_length] at hH;refine Qag rfl ?_;have e1:anyU (fun c=>c.toNat) 256 u=(Yf 256).map (memB u):=rfl;have e2:anyU (fun c=>c.toNat / 16) 16 u=(Yf 16).map (Qb5 u):=Ui fun r _=>QPn u r;rw [e1,e2] at hH;refine VS [2,3] ?_;exact VC_ret (Qav rfl rfl rfl ⟨g1,g2,hH,rfl⟩)
theorem QV0 (u:List UInt8) (i:Nat) (hi:i < 16):(((Yf 256).map (memB u)).drop (16 * i)).take 16=rowS u i:=by
 unfold rowS;apply Xa;intro j;rw [List.getElem?_take];by_cases hj:j < 16
 ·
  rw [if_pos hj,U3,Yw,Yw,Yu hj,Yu (by omega)];rfl
 rw [if_neg hj,Ys (by simp;omega)]
def namU (u:List UInt8) (i:Nat):List Bool:=(Yf 16).map (Qb5 u)++(Yf i).flatMap fun i=>if Qb5 u i=true then rowS u i else []
theorem Qyg (u:List UInt8) (i:Nat):namU u (i+1)=namU u i++if Qb5 u i=true then rowS u i else []:=by
 unfold namU;rw [show Yf (i+1)=Yf i++[i] from Xr,List.flatMap_append,Yv];simp
theorem QCg (u:List UInt8):∀ i,(namU u i).length<=16+16 * i
 | 0=>by simp [namU]
 | i+1=>by
  have:=QCg u i;rw [Qyg,Yk];split
  ·
   rw [Ql3];omega
  simp;omega
theorem QA3 (u:List UInt8) (hu:Qbc u=u) (hne:u≠[]) (hs:u.length<=256) (w:World):Does Yq 48 #[Str u] w fun v w'=>Heap w [] w' []/\v=.tuple #[Qk8 (Qe8 u),.int .i64 0]:=by
 refine En [Str u] 43 Tryz.func48 ?_;refine VQ [0,2] fun K hK=>?_;refine Qao (.agg #[.string ⟨#[]⟩,.int .i64 0]) (by kernel_rfl) ?_;refine Qs ?_;have hH:=(Y7 w).box 33 [.string ⟨#[]⟩,.int .i64 0];generalize w.alloc (Yy [U7 ⟨#[]⟩,.int .i64 0].toArray 33)=w1 at *;generalize w.heap.size=gr at *;apply hK;clear hK;refine VQ [0,2,10] fun K hK=>?_;refine MemK_call Tryz.call73 ?_;refine Qs ?_;refine Yr (Qsy u hu hne (by omega) w1) ?_;rintro v w2 ⟨hHm,rfl⟩;have hH2:=hH.call0 hHm;simp only [Yx] at hH2;clear hH hHm;(try refine Qs ?_);(repeat refine Qo ?_);apply hK;clear hK;refine Qaf rfl rfl (fun h=>by simp at h) (fun h=>VC_skip ?_);clear h;refine VQ [2,4,5] fun K hK=>?_;refine MemK_call Tryz.call79 ?_;refine Qs ?_;refine Yr (QE2 u (by omega) w2) ?_;rintro v w3 ⟨g1,g2,hHr,rfl⟩;have hH3:=hH2.call0 hHr;simp only [Xh,Yx] at hH3;clear hH2 hHr;(try refine Qs ?_);apply hK;clear hK;generalize hM:(Yf 256).map (memB u)=M at *;have hMl:M.length=256:=by rw [<- hM];simp
 generalize hA:(Yf 16).map (Qb5 u)=A at *;have hAl:A.length=16:=by rw [<- hA];simp
 refine VQ [2,4,5,6] fun K hK=>?_;refine Qbb hH3 (Qat []) (xs:=[]) Yc sz3 rfl rfl rfl (by omega) ?_;refine Qs ?_;refine ⟨rfl,by simp [Y2],fun g w4 hH4=>?_⟩;(try refine Qs ?_);have hA2:RS w4 (some ⟨g1,0,none⟩) 16 1 (Qat (bI A)):=Qaq (hH4.at 2 rfl);refine Qai ?_;refine Qs ?_;refine Qcg (o:=[]) (t:=bI A) hH4 0 rfl Yc zi3 (by rw [Qbh];omega) (by rw [Qbh,hAl];exact hA2) (fun h=>by rw [Yx,Qbh];omega) fun a' cap' w5 hc' hH5=>?_;simp only [Yb,Yx] at hH5 ⊢;clear hH3 hH4 hc' hA2;(try refine Qs ?_);apply hK;clear hK;refine VS [2,4,5,6,7] ?_;refine Qac ?_;refine Qad [2,4,5,6,7] (fun m e w'=>∃ (i cap:Nat) (ao:Option Addr),Is e [(2,.pointer (some ⟨gr,0,none⟩)),(4,.slice (some ⟨g1,0,none⟩) 16 16),(5,.slice (some ⟨g2,0,none⟩) 256 256),(6,.slice ao (bI (namU u i)).length cap),(7,.int .i64 i)]/\Heap w [] w' [Yd 3 1 ao (bI (namU u i)).length cap (Qat (bI (namU u i))),Yd 3 1 (some ⟨g2,0,none⟩) 256 256 (Qat (bI M)),Yd 3 1 (some ⟨g1,0,none⟩) 16 16 (Qat (bI A)),Yl gr 33 [.string ⟨#[]⟩,.int .i64 0]]/\i<=16/\m=16 - i) 16 ?_ ?_
 ·
  refine Qs ?_;have e0:namU u 0=A:=by rw [<- hA];simp [namU]
  exact ⟨0,cap',a',by rw [e0];rfl,by rw [e0];exact hH5,by omega,rfl⟩
 clear hH5;rintro m e w6 ⟨i,cap,ao,rfl,hH,hi,rfl⟩;refine VS [2,4,5,6,7,21] ?_;refine VD (fun h=>?_) (fun h=>?_)
 ·
  have hi16:i < 16:=by omega
  have hcell:=Qa1 (hH.at 2 rfl) (Qc7 (l:=bI A) (i:=i) (by rw [Qbh];omega));rw [Qnj (by omega)] at hcell
  have hAi:A.getD i false=Qb5 u i:=by
   rw [<- hA,Yi,Yw,Yu hi16];rfl
  rw [hAi] at hcell;have hsn:=Qyg u i;have hOl:=QCg u i;have hrw:=QV0 u i hi16;rw [hM] at hrw;have hrl:=Ql3 u i;generalize hO2:namU u (i+1)=O2 at *;generalize namU u i=O at *;generalize Qb5 u i=rh at *;refine VC_skip ?_;refine VB ?_;refine VQ [2,4,5,6,7,28] fun K hK=>?_;refine ⟨⟨by omega,by omega⟩,_,hcell,?_⟩;(try refine Qs ?_);(repeat refine Qo ?_);apply hK;clear hK;cases rh with
  | true =>
   refine Qaf rfl rfl (fun h=>?_) (fun h=>by simp at h);rw [if_pos rfl] at hsn;have hSL:SL w6 (some ⟨g2,0,none⟩) 256 256 (Qat (bI M)):=⟨Qaq (hH.at 1 rfl),Ug _,fun ad e=>by cases e;rfl⟩;have hcut:=hSL.cut (16 * i) 16 (by omega)
   have e1:((Qat (bI M)).drop (16 * i)).take 16=Qat (bI (rowS u i)):=by
    rw [<- hrw,<- QGf,<- QOx];simp [Qat,List.map_take,List.map_drop]
   rw [e1] at hcut;refine VQ [2,4,5,6,7] fun K hK=>?_;refine ⟨Xf (by omega) (by omega),Xf (by omega) (by omega),Xf (by omega) (by omega),⟨by omega,by omega,by omega⟩,?_⟩;rw [show (16 * (i:Int)+16).toNat=16 * i+16 by omega,show (16 * (i:Int)).toNat=16 * i by omega,show 16 * i+16 - 16 * i=16 by omega];generalize (if 256=16 * i then some (⟨g2,0,none⟩:Addr) else Option.map (fun x=>x.add (16 * i)) (some (⟨g2,0,none⟩:Addr)))=a2 at *;generalize 256 - 16 * i=c2 at *;refine Qai ?_;refine Qs ?_;refine Qcg (o:=bI O) (t:=bI (rowS u i)) hH 0 rfl Yc zi3 (by rw [Qbh];omega) (by rw [Qbh,hrl];exact hcut) (fun h=>by simp [Qbh];omega) fun a' cap' w5 hc' hH5=>?_;simp only [Yb] at hH5;rw [<- Qcr,<- hsn] at hH5 ⊢;(try refine Qs ?_);apply hK;clear hK;refine Qaj ?_;refine VS [2,4,5,6,7] ?_;refine Qab ?_;refine Qs ?_;exact ⟨16 - (i+1),by omega,i+1,cap',a',by rw [hO2];rfl,by rw [hO2];exact hH5,by omega,rfl⟩
  | false =>
   refine Qaf rfl rfl (fun h=>by simp at h) (fun h=>VC_skip ?_);rw [if_neg (by simp),Yh] at hsn;subst hsn;refine Qaj ?_;refine VS [2,4,5,6,7] ?_;refine Qab ?_;refine Qs ?_;exact ⟨16 - (i+1),by omega,i+1,cap,ao,by rw [hO2];rfl,by rw [hO2];exact hH,by omega,rfl⟩
 obtain rfl:i=16:=by omega
 have hO:namU u 16=Qe8 u:=rfl;have hnl:=Ql4 u;rw [hO] at hH ⊢;rw [Qbh] at hH ⊢;refine Qag rfl ?_;refine VQ [2,3] fun K hK=>?_;refine MemK_call Tryz.call25 ?_;refine Qs ?_;refine Yr (Qs5 (Qe8 u) (by omega) ao cap w6 (Qaq (hH.at 0 rfl))) ?_;rintro v w7 ⟨hHt,rfl⟩;have hH2:=hH.call0 hHt;simp only [Yx] at hH2;(try refine Qs ?_);refine Qaa ?_;refine Qs ?_;refine Qae hH2 3 (vs:=Qa7 (Qe8 u)) rfl rfl (by kernel_rfl) (by simp [Qa7]) (by simp [Qa7,Yt]) fun w11 hH3=>?_;have hH3:Heap w [] w11 [Yd 3 1 ao (Qe8 u).length cap (Qat (bI (Qe8 u))),Yd 3 1 (some ⟨g2,0,none⟩) 256 256 (Qat (bI M)),Yd 3 1 (some ⟨g1,0,none⟩) 16 16 (Qat (bI A)),Yl gr 33 (Qa7 (Qe8 u))]:=hH3;(try refine Qs ?_);apply hK;clear hK;refine VC_ret (Qdo rfl rfl rfl (Qbw (hH3.at 3 rfl) (by kernel_rfl) (by kernel_rfl) rfl ?_));exact ⟨hH3.sub (by simp),rfl⟩
end Go.Proofs.YthcdlcdnchaoiaaGreat
